import Derived.Test.YtackepdhcigdlaaTm32
namespace Go.Proofs.Ytackepdhcigdlaa
open Go.RowKit
theorem tmc_cs3 {w : World} {t : Tm} {c : List Value} (h : TmC w t c) : Cs3 c := by
  obtain ⟨a, cap, rfl, _⟩ := tm_open h
  exact ⟨_, _, _, _, _, rfl⟩
theorem tmcs_cs3 {w : World} : ∀ {ts : List Tm} {css : List (List Value)}, TmCs w ts css → ∀ c ∈ css, Cs3 c := by
  intro ts
  induction ts with
  | nil => intro css h c hc; simp only [TmCs] at h; subst h; cases hc
  | cons t ts ih =>
    intro css h c hc
    simp only [TmCs] at h
    obtain ⟨c0, cr, rfl, h1, h2⟩ := h
    cases hc with
    | head => exact tmc_cs3 h1
    | tail _ hm => exact ih h2 c hm
theorem TmCs.snoc {w : World} {t : Tm} {c : List Value} (hc : TmC w t c) : ∀ {ts : List Tm} {css : List (List Value)}, TmCs w ts css → TmCs w (ts ++ [t]) (css ++ [c]) := by
  intro ts
  induction ts with
  | nil => intro css h; simp only [TmCs] at h; subst h; simp only [List.nil_append, TmCs]; exact ⟨_, _, rfl, hc, rfl⟩
  | cons t' ts ih => intro css h; simp only [TmCs] at h; obtain ⟨c', cr, rfl, h1, h2⟩ := h; simp only [List.cons_append, TmCs]; exact ⟨_, _, rfl, h1, ih h2⟩
theorem own_sh3 {w : World} {base e : Nat} {v : Value} {n : Nat} {xs : List Value} (h : w.ownsRow base e 3 v n xs) (hn : 0 < n) : ∃ g cap, v = .slice (some ⟨g, 0, none⟩) n cap := by
  rcases h.2 with ⟨_, h0⟩ | ⟨g, cap, cur, hv, _⟩
  · omega
  · exact ⟨g, cap, hv⟩
theorem own_move {w w' : World} {base e sz n : Nat} {v : Value} {xs : List Value} (h : w.ownsRow base e sz v n xs) (hm : ∀ b, base ≤ b → w'.heap[b]? = w.heap[b]?) : w'.ownsRow base e sz v n xs := by
  refine ⟨h.1, ?_⟩
  rcases h.2 with h2 | ⟨g, cap, cur, hv, hg, hh, r⟩
  · exact .inl h2
  · exact .inr ⟨g, cap, cur, hv, hg, (hm g hg).trans hh, r⟩
theorem TmCs.rev {w : World} : ∀ {ts : List Tm} {css : List (List Value)}, TmCs w ts css → TmCs w ts.reverse css.reverse := by
  intro ts
  induction ts with
  | nil => intro css h; simp only [TmCs] at h; subst h; simp only [List.reverse_nil, TmCs]
  | cons t' ts ih => intro css h; simp only [TmCs] at h; obtain ⟨c', cr, rfl, h1, h2⟩ := h; rw [List.reverse_cons, List.reverse_cons]; exact TmCs.snoc h1 (ih h2)
set_option maxRecDepth 100000 in
set_option maxHeartbeats 2000000 in
theorem spine_any (t : Tm) (cs : List Value) (w : World) (hs : shapedB t = true) (ht : TmC w t cs) :
    Calls Try.prog 31 #[.agg cs.toArray] w fun e w' => ∃ (h : Tm) (l : List Tm) (k n : Int) (a : Option Addr) (len cap : Nat) (al : Option Addr) (cl : Nat), e = .returned (.tuple #[.agg #[.int .i64 k, .int .i64 n, .slice a len cap], .slice al l.length cl]) ∧
      h.kind ≠ 5 ∧ applyT h l = t ∧ TmC w' h [.int .i64 k, .int .i64 n, .slice a len cap] ∧ TmS w' (.slice al l.length cl) l ∧ Below w.heap.size w w' := by
  obtain ⟨i0, hi, hz0, hz1, hz2⟩ := info_parts info24
  have ht0 := ht
  obtain ⟨a, cap, rfl, hsub, hlen⟩ := tm_open ht
  have HS := Lib.hid hs
  have HG : Hid (goodB t = true) := by
    simp only [shapedB, Bool.and_eq_true] at hs
    exact hs.2
  clear hs ht hsub
  let W3 := ((w.alloc (.cells #[.int .i64 t.kind, .int .i64 t.num, .slice a t.sub.length cap] 24)).alloc (.cells #[.int .i64 0, .int .i64 0, .slice none 0 0] 24)).alloc (.cells #[.int .i64 t.kind, .int .i64 t.num, .slice a t.sub.length cap] 24)
  have BX0 : Hid (Box3 W3 (w.heap.size + 1 + 1) (.int .i64 t.kind) (.int .i64 t.num) (.slice a t.sub.length cap)) := by
    have h := Box3.new ((w.alloc (.cells #[.int .i64 t.kind, .int .i64 t.num, .slice a t.sub.length cap] 24)).alloc (.cells #[.int .i64 0, .int .i64 0, .slice none 0 0] 24)) (.int .i64 t.kind) (.int .i64 t.num) (.slice a t.sub.length cap)
    simp at h
    exact h
  have BX1 : Hid (Box3 W3 (w.heap.size + 1) (.int .i64 0) (.int .i64 0) (.slice none 0 0)) := by
    have h := Box3.new (w.alloc (.cells #[.int .i64 t.kind, .int .i64 t.num, .slice a t.sub.length cap] 24)) (.int .i64 0) (.int .i64 0) (.slice none 0 0)
    have h2 := h.later ((Below.refl _ _).alloc (Nat.le_refl _) (.cells #[.int .i64 t.kind, .int .i64 t.num, .slice a t.sub.length cap] 24)) (by simp)
    simp at h2
    exact h2
  have hd : Hid (Below w.heap.size w W3) := (((Below.refl _ _).alloc (Nat.le_refl _) _).alloc (by simp) _).alloc (by simp; omega) _
  have HT := Lib.hid ht0
  clear ht0
  go_enter Try.func31, Try.ntmps31
  go_wp2_with fail
  go_loopg [4] 129 (fun g v wr => ∃ (x : Tm) (xs : List Tm) (css : List (List Value)) (k n : Int) (a : Option Addr) (len cap : Nat) (av : Option Addr) (cv : Nat), v = .slice av xs.length cv ∧ g + xs.length = 129 ∧ Hid (applyT x xs.reverse = t) ∧ Hid (goodB x = true) ∧ Hid (TmC w x [.int .i64 k, .int .i64 n, .slice a len cap]) ∧ Hid (TmCs w xs css) ∧
      Hid (wr.ownsRow (w.heap.size + 3) 24 3 (.slice av xs.length cv) xs.length css.flatten) ∧ Box3 wr (w.heap.size + 1 + 1) (.int .i64 k) (.int .i64 n) (.slice a len cap) ∧ Hid (Box3 wr (w.heap.size + 1) (.int .i64 0) (.int .i64 0) (.slice none 0 0)) ∧ Hid (Below w.heap.size w wr) ∧ w.heap.size + 3 ≤ wr.heap.size)
  case atStart =>
    refine ⟨t, [], [], _, _, _, _, _, none, 0, rfl, rfl, rfl, HG.out, HT.out, ?_, ?_, BX0.out, BX1.out, hd.out, by simp⟩
    · show TmCs w [] []
      simp only [TmCs]
    · exact ⟨rfl, .inl ⟨rfl, rfl⟩⟩
  case round =>
    obtain ⟨x, xs, css, k, n, a1, len, cap1, av, cv, rfl, hg, HA, HGX, HX, HXS, hown, BX, BR, hbel, hlo⟩ := hrel
    obtain ⟨c0, c1, c2⟩ := BX.cells
    obtain ⟨ax, capx, hex, hsubx, hlx⟩ := tm_open HX.out
    simp only [List.cons.injEq, Value.int.injEq, true_and, and_true, Value.slice.injEq] at hex
    obtain ⟨rfl, rfl, rfl, rfl, rfl⟩ := hex
    by_cases h5 : x.kind = 5
    · obtain ⟨y, b, rfl, hgy, hgb⟩ := good_app HGX.out h5
      clear h5
      simp only [Tm.kind, Tm.num, Tm.sub, List.length_cons, List.length_nil, Nat.zero_add, Nat.reduceAdd] at c0 c1 c2 HX BX hsubx hlx
      obtain ⟨bb, off, a', cap', rfl, e0, e1, e2, hty⟩ := sub_at (ts := [y, b]) hsubx (Below.refl _ _) 0 (by simp)
      obtain ⟨bb', off', a'', cap'', hbb, j0, j1, j2, htb⟩ := sub_at (ts := [y, b]) hsubx (Below.refl _ _) 1 (by simp)
      simp only [Option.some.injEq, Addr.mk.injEq, and_true] at hbb
      obtain ⟨rfl, rfl⟩ := hbb
      have hbl : bb < w.heap.size := World.block_lt_of_cell? w _ e0
      simp only [List.getElem_cons_zero, List.getElem_cons_succ] at hty htb e0 e1 e2 j0 j1 j2
      have mvc : Hid (∀ wz, Below w.heap.size w wz → wz.cell? ⟨bb, off, none⟩ = some (.int .i64 y.kind) ∧ wz.cell? ⟨bb, off + 1, none⟩ = some (.int .i64 y.num) ∧ wz.cell? ⟨bb, off + 2, none⟩ = some (.slice a' y.sub.length cap') ∧ wz.cell? ⟨bb, off + 3, none⟩ = some (.int .i64 b.kind) ∧ wz.cell? ⟨bb, off + 3 + 1, none⟩ = some (.int .i64 b.num) ∧ wz.cell? ⟨bb, off + 3 + 2, none⟩ = some (.slice a'' b.sub.length cap'')) := by
        intro wz hz
        simp only [Nat.zero_mul, Nat.one_mul, Nat.add_zero] at e0 e1 e2 j0 j1 j2
        exact ⟨(hz.cell hbl).trans e0, (hz.cell hbl).trans e1, (hz.cell hbl).trans e2, (hz.cell hbl).trans j0, (hz.cell hbl).trans j1, (hz.cell hbl).trans j2⟩
      clear e0 e1 e2 j0 j1 j2
      obtain ⟨-, -, -, j0, j1, j2⟩ := mvc.out wr hbel.out
      have HTY := Lib.hid hty
      have HTB := Lib.hid htb
      clear hty htb hsubx HX
      have hd8 : decide ((8192 : Int) ≤ xs.length) = false := by simp; omega
      have hlen1 : xs.length + 1 ≤ 127 := by
        have h1 := HA.out
        have h2 : applyT y (b :: xs.reverse) = t := h1
        have h3 := spine_len (x := y) (l := b :: xs.reverse) (by rw [h2]; exact HS.out)
        simpa using h3
      have hsl : Hid (SlN (wr.alloc (.cells #[.int .i64 b.kind, .int .i64 b.num, .slice a'' b.sub.length cap''] 24)) 3 (.slice (some ⟨wr.heap.size, 0, none⟩) 1 1) [[.int .i64 b.kind, .int .i64 b.num, .slice a'' b.sub.length cap'']]) :=
        SlN.own (own_litN (w := wr) (xs := [.int .i64 b.kind, .int .i64 b.num, .slice a'' b.sub.length cap'']) (n := 1) (size := 3) 24 rfl (by decide)) rfl (by intro c hc; simp at hc; subst hc; rfl)
      have BXA := Lib.hid BX
      clear BX
      go_wp2_with (at_builtin; refine wpList_app_sl rfl _ _ 22 rfl (w.heap.size + 3) 24 i0 (.agg #[.int .i64 0, .int .i64 0, .slice none 0 0]) 3 40 Try.underlying22 hi hz0 hz1 hz2 rfl (by decide) _ _ _ (hown.out.alloc _) _ _ hsl.out rfl rfl (by intro c hc u hu; simp at hc; subst hc; simp at hu; rcases hu with rfl | rfl | rfl <;> rfl) (by intro c hc; simp at hc; subst hc; rfl) (by unfold maxLen; simp; omega) (by simp; omega) (by simp; omega) ?_)
      intro v2 w2 hown2 hb2 hg2
      obtain ⟨g2, cap2, rfl⟩ := own_sh3 hown2 (by omega)
      have hbe2 : Below w.heap.size w w2 := (hbel.out.alloc (by omega) _).trans (hb2.mono (by omega))
      have hs2 := hb2.size
      have BX2 := (BXA.out.later ((Below.refl _ _).alloc (Nat.le_refl _) (.cells #[.int .i64 b.kind, .int .i64 b.num, .slice a'' b.sub.length cap''] 24)) (by omega)).later hb2 (by omega)
      have BR2 := Lib.hid ((BR.out.later ((Below.refl _ _).alloc (Nat.le_refl _) (.cells #[.int .i64 b.kind, .int .i64 b.num, .slice a'' b.sub.length cap''] 24)) (by omega)).later hb2 (by omega))
      obtain ⟨e0, e1, e2, -, -, -⟩ := mvc.out w2 hbe2
      obtain ⟨d0, d1, d2⟩ := BX2.cells
      have g0 := BX2.free 0
      have g1 := BX2.free 1
      have g2f := BX2.free 2
      have HBX2 := Lib.hid BX2
      have HO2 := Lib.hid hown2
      have HBE2 := Lib.hid hbe2
      simp at hs2
      clear BX2 hown2 hbe2 hb2 hg2 c0 c1 c2 j0 j1 j2 hown BXA hsl
      go_wp2_with fail
      go_roundg (gk - 1)
      case measure => omega
      case rel =>
        refine ⟨y, xs ++ [b], css ++ [[Value.int .i64 b.kind, Value.int .i64 b.num, Value.slice a'' b.sub.length cap'']], y.kind, y.num, a', y.sub.length, cap', some ⟨g2, 0, none⟩, cap2, by simp, by simp; omega, ?_, hgy, HTY.out, Lib.hid (TmCs.snoc HTB.out HXS.out), ?_, HBX2.out.set _ _ _, ?_, set3_below HBE2.out (by omega) _ _ _, by simp; omega⟩
        · have h := HA.out
          show _ = _
          rw [List.reverse_append]; exact h
        · have h := own_move (w' := ((w2.setCell ⟨w.heap.size + 1 + 1, 0, none⟩ (.int .i64 y.kind)).setCell ⟨w.heap.size + 1 + 1, 1, none⟩ (.int .i64 y.num)).setCell ⟨w.heap.size + 1 + 1, 2, none⟩ (.slice a' y.sub.length cap')) HO2.out (fun b hb => set3_heap _ _ _ _ _ _ (by omega))
          show World.ownsRow _ _ _ _ _ _ _
          rw [List.length_append, List.flatten_append]
          simpa using h
        · show Box3 _ _ _ _ _
          unfold Box3
          rw [set3_heap _ _ _ _ _ _ (by omega)]
          exact BR2.out
    · have hd5 : decide (x.kind = 5) = false := by simp [h5]
      go_wp2_with fail
      refine (reverse_any (w.heap.size + 3) _ css wr (by rw [HXS.out.length]; exact hown.out) (tmcs_cs3 HXS.out)).mono ?_
      rintro e w4 ⟨rfl, hown4, hb4⟩
      have HO4 := Lib.hid hown4
      have BX4 := BX.later hb4 (by omega)
      have BR4 := BR.out.later hb4 (by omega)
      obtain ⟨d0, d1, d2⟩ := BX4.cells
      obtain ⟨q0, q1, q2⟩ := BR4.cells
      have f0 := BR4.free 0
      have f1 := BR4.free 1
      have f2 := BR4.free 2
      have HB4 := Lib.hid (hbel.out.trans (hb4.mono (by omega)))
      clear BX4 BR4 c0 c1 c2 BX hown4 hb4
      go_wp2_with fail
      have HLC := HXS.out.length
      have hF := set3_below (B := w.heap.size + 1) HB4.out (by omega) (.int .i64 x.kind) (.int .i64 x.num) (.slice a1 x.sub.length cap1)
      have hO := own_move (w' := ((w4.setCell ⟨w.heap.size + 1, 0, none⟩ (.int .i64 x.kind)).setCell ⟨w.heap.size + 1, 1, none⟩ (.int .i64 x.num)).setCell ⟨w.heap.size + 1, 2, none⟩ (.slice a1 x.sub.length cap1)) HO4.out (fun b hb => set3_heap _ _ _ _ _ _ (by omega))
      have hS := SlN.own hO (by simp) (fun c hc => (tmcs_cs3 HXS.out c (by simpa using hc)).three)
      refine bodyPost_ret (v := .tuple #[.agg #[.int .i64 x.kind, .int .i64 x.num, .slice a1 x.sub.length cap1], .slice av xs.length cv]) (by simp [results, Try.results31, go_sem, q0, q1, q2]) rfl ⟨x, xs.reverse, x.kind, x.num, a1, x.sub.length, cap1, av, cv, by simp, h5, HA.out, HX.out.later hF, ?_, hF⟩
      rw [List.length_reverse]
      exact ⟨css.reverse, hS, (TmCs.rev HXS.out).later hF⟩
end Go.Proofs.Ytackepdhcigdlaa
