import Derived.Test.YtackepdhcigdlaaTm38
namespace Go.Proofs.Ytackepdhcigdlaa
open Go.RowKit
theorem spine_hg : ∀ {l : List Tm} {x : Tm}, l.length + hgT x ≤ hgT (applyT x l) := by
  intro l
  induction l with
  | nil => intro x; simp [applyT]
  | cons a l ih =>
    intro x
    have h1 := ih (x := .mk 5 0 [x, a])
    have h2 : hgT x < hgT (.mk 5 0 [x, a]) := by
      simp only [hgT, hgL]
      omega
    simp only [List.length_cons, applyT]
    omega
set_option maxRecDepth 100000 in
set_option maxHeartbeats 2000000 in
theorem spine2_any (t : Tm) (cs : List Value) (w : World) (hg : goodB t = true) (hh : hgT t ≤ 128) (ht : TmC w t cs) :
    Calls Try.prog 31 #[.agg cs.toArray] w fun e w' => ∃ (h : Tm) (l : List Tm) (k n : Int) (a : Option Addr) (len cap : Nat) (al : Option Addr) (cl : Nat), e = .returned (.tuple #[.agg #[.int .i64 k, .int .i64 n, .slice a len cap], .slice al l.length cl]) ∧
      h.kind ≠ 5 ∧ applyT h l = t ∧ TmC w' h [.int .i64 k, .int .i64 n, .slice a len cap] ∧ TmS w' (.slice al l.length cl) l ∧ Below w.heap.size w w' := by
  obtain ⟨i0, hi, hz0, hz1, hz2⟩ := info_parts info24
  have ht0 := ht
  obtain ⟨a, cap, rfl, hsub, hlen⟩ := tm_open ht
  have HS := Lib.hid hh
  have HG := Lib.hid hg
  clear hg hh ht hsub
  let W3 := ((w.alloc (.cells #[.int .i64 t.kind, .int .i64 t.num, .slice a t.sub.length cap] 24)).alloc (.cells #[.int .i64 0, .int .i64 0, .slice none 0 0] 24)).alloc (.cells #[.int .i64 t.kind, .int .i64 t.num, .slice a t.sub.length cap] 24)
  have BX0 : Hid (Box3 W3 (w.heap.size + 1 + 1) (.int .i64 t.kind) (.int .i64 t.num) (.slice a t.sub.length cap)) := by
    have h := Box3.new ((w.alloc (.cells #[.int .i64 t.kind, .int .i64 t.num, .slice a t.sub.length cap] 24)).alloc (.cells #[.int .i64 0, .int .i64 0, .slice none 0 0] 24)) (.int .i64 t.kind) (.int .i64 t.num) (.slice a t.sub.length cap)
    simp at h
    exact h
  have BX1 : Hid (Box3 W3 (w.heap.size + 1) (.int .i64 0) (.int .i64 0) (.slice none 0 0)) := by
    have h := Box3.new (w.alloc (.cells #[.int .i64 t.kind, .int .i64 t.num, .slice a t.sub.length cap] 24)) (.int .i64 0) (.int .i64 0) (.slice none 0 0)
    have h2 := h.later ((Below.refl _ _).alloc (Nat.le_refl _) (.cells #[.int .i64 t.kind, .int .i64 t.num, .slice a t.sub.length cap] 24)) (by simp)
    simp at h2
    exact h2
  have hd : Hid (Below w.heap.size w W3) := (((Below.refl _ _).alloc (Nat.le_refl _) _).alloc (by simp) _).alloc (by simp; omega) _
  have HT := Lib.hid ht0
  clear ht0
  go_enter Try.func31, Try.ntmps31
  go_wp2_with fail
  go_loopg [4] 130 (fun g v wr => ∃ (x : Tm) (xs : List Tm) (css : List (List Value)) (k n : Int) (a : Option Addr) (len cap : Nat) (av : Option Addr) (cv : Nat), v = .slice av xs.length cv ∧ g + xs.length = 130 ∧ Hid (applyT x xs.reverse = t) ∧ Hid (goodB x = true) ∧ Hid (TmC w x [.int .i64 k, .int .i64 n, .slice a len cap]) ∧ Hid (TmCs w xs css) ∧
      Hid (wr.ownsRow (w.heap.size + 3) 24 3 (.slice av xs.length cv) xs.length css.flatten) ∧ Box3 wr (w.heap.size + 1 + 1) (.int .i64 k) (.int .i64 n) (.slice a len cap) ∧ Hid (Box3 wr (w.heap.size + 1) (.int .i64 0) (.int .i64 0) (.slice none 0 0)) ∧ Hid (Below w.heap.size w wr) ∧ w.heap.size + 3 ≤ wr.heap.size)
  case atStart =>
    refine ⟨t, [], [], _, _, _, _, _, none, 0, rfl, rfl, rfl, HG.out, HT.out, ?_, ?_, BX0.out, BX1.out, hd.out, by simp⟩
    · show TmCs w [] []
      simp only [TmCs]
    · exact ⟨rfl, .inl ⟨rfl, rfl⟩⟩
  case round =>
    obtain ⟨x, xs, css, k, n, a1, len, cap1, av, cv, rfl, hg, HA, HGX, HX, HXS, hown, BX, BR, hbel, hlo⟩ := hrel
    obtain ⟨c0, c1, c2⟩ := BX.cells
    obtain ⟨ax, capx, hex, hsubx, hlx⟩ := tm_open HX.out
    simp only [List.cons.injEq, Value.int.injEq, true_and, and_true, Value.slice.injEq] at hex
    obtain ⟨rfl, rfl, rfl, rfl, rfl⟩ := hex
    by_cases h5 : x.kind = 5
    · obtain ⟨y, b, rfl, hgy, hgb⟩ := good_app HGX.out h5
      clear h5
      simp only [Tm.kind, Tm.num, Tm.sub, List.length_cons, List.length_nil, Nat.zero_add, Nat.reduceAdd] at c0 c1 c2 HX BX hsubx hlx
      obtain ⟨bb, off, a', cap', rfl, e0, e1, e2, hty⟩ := sub_at (ts := [y, b]) hsubx (Below.refl _ _) 0 (by simp)
      obtain ⟨bb', off', a'', cap'', hbb, j0, j1, j2, htb⟩ := sub_at (ts := [y, b]) hsubx (Below.refl _ _) 1 (by simp)
      simp only [Option.some.injEq, Addr.mk.injEq, and_true] at hbb
      obtain ⟨rfl, rfl⟩ := hbb
      have hbl : bb < w.heap.size := World.block_lt_of_cell? w _ e0
      simp only [List.getElem_cons_zero, List.getElem_cons_succ] at hty htb e0 e1 e2 j0 j1 j2
      have mvc : Hid (∀ wz, Below w.heap.size w wz → wz.cell? ⟨bb, off, none⟩ = some (.int .i64 y.kind) ∧ wz.cell? ⟨bb, off + 1, none⟩ = some (.int .i64 y.num) ∧ wz.cell? ⟨bb, off + 2, none⟩ = some (.slice a' y.sub.length cap') ∧ wz.cell? ⟨bb, off + 3, none⟩ = some (.int .i64 b.kind) ∧ wz.cell? ⟨bb, off + 3 + 1, none⟩ = some (.int .i64 b.num) ∧ wz.cell? ⟨bb, off + 3 + 2, none⟩ = some (.slice a'' b.sub.length cap'')) := by
        intro wz hz
        simp only [Nat.zero_mul, Nat.one_mul, Nat.add_zero] at e0 e1 e2 j0 j1 j2
        exact ⟨(hz.cell hbl).trans e0, (hz.cell hbl).trans e1, (hz.cell hbl).trans e2, (hz.cell hbl).trans j0, (hz.cell hbl).trans j1, (hz.cell hbl).trans j2⟩
      clear e0 e1 e2 j0 j1 j2
      obtain ⟨-, -, -, j0, j1, j2⟩ := mvc.out wr hbel.out
      have HTY := Lib.hid hty
      have HTB := Lib.hid htb
      clear hty htb hsubx HX
      have hd8 : decide ((8192 : Int) ≤ xs.length) = false := by simp; omega
      have hlen1 : xs.length + 1 ≤ 128 := by
        have h1 := HA.out
        have h2 : applyT y (b :: xs.reverse) = t := h1
        have h3 := spine_hg (x := y) (l := b :: xs.reverse)
        rw [h2] at h3
        have h4 := HS.out
        simp at h3
        omega
      have hsl : Hid (SlN (wr.alloc (.cells #[.int .i64 b.kind, .int .i64 b.num, .slice a'' b.sub.length cap''] 24)) 3 (.slice (some ⟨wr.heap.size, 0, none⟩) 1 1) [[.int .i64 b.kind, .int .i64 b.num, .slice a'' b.sub.length cap'']]) :=
        SlN.own (own_litN (w := wr) (xs := [.int .i64 b.kind, .int .i64 b.num, .slice a'' b.sub.length cap'']) (n := 1) (size := 3) 24 rfl (by decide)) rfl (by intro c hc; simp at hc; subst hc; rfl)
      have BXA := Lib.hid BX
      clear BX
      go_wp2_with (at_builtin; refine wpList_app_sl rfl _ _ 22 rfl (w.heap.size + 3) 24 i0 (.agg #[.int .i64 0, .int .i64 0, .slice none 0 0]) 3 40 Try.underlying22 hi hz0 hz1 hz2 rfl (by decide) _ _ _ (hown.out.alloc _) _ _ hsl.out rfl rfl (by intro c hc u hu; simp at hc; subst hc; simp at hu; rcases hu with rfl | rfl | rfl <;> rfl) (by intro c hc; simp at hc; subst hc; rfl) (by unfold maxLen; simp; omega) (by simp; omega) (by simp; omega) ?_)
      intro v2 w2 hown2 hb2 hg2
      obtain ⟨g2, cap2, rfl⟩ := own_sh3 hown2 (by omega)
      have hbe2 : Below w.heap.size w w2 := (hbel.out.alloc (by omega) _).trans (hb2.mono (by omega))
      have hs2 := hb2.size
      have BX2 := (BXA.out.later ((Below.refl _ _).alloc (Nat.le_refl _) (.cells #[.int .i64 b.kind, .int .i64 b.num, .slice a'' b.sub.length cap''] 24)) (by omega)).later hb2 (by omega)
      have BR2 := Lib.hid ((BR.out.later ((Below.refl _ _).alloc (Nat.le_refl _) (.cells #[.int .i64 b.kind, .int .i64 b.num, .slice a'' b.sub.length cap''] 24)) (by omega)).later hb2 (by omega))
      obtain ⟨e0, e1, e2, -, -, -⟩ := mvc.out w2 hbe2
      obtain ⟨d0, d1, d2⟩ := BX2.cells
      have g0 := BX2.free 0
      have g1 := BX2.free 1
      have g2f := BX2.free 2
      have HBX2 := Lib.hid BX2
      have HO2 := Lib.hid hown2
      have HBE2 := Lib.hid hbe2
      simp at hs2
      clear BX2 hown2 hbe2 hb2 hg2 c0 c1 c2 j0 j1 j2 hown BXA hsl
      go_wp2_with fail
      go_roundg (gk - 1)
      case measure => omega
      case rel =>
        refine ⟨y, xs ++ [b], css ++ [[Value.int .i64 b.kind, Value.int .i64 b.num, Value.slice a'' b.sub.length cap'']], y.kind, y.num, a', y.sub.length, cap', some ⟨g2, 0, none⟩, cap2, by simp, by simp; omega, ?_, hgy, HTY.out, Lib.hid (TmCs.snoc HTB.out HXS.out), ?_, HBX2.out.set _ _ _, ?_, set3_below HBE2.out (by omega) _ _ _, by simp; omega⟩
        · have h := HA.out
          show _ = _
          rw [List.reverse_append]; exact h
        · have h := own_move (w' := ((w2.setCell ⟨w.heap.size + 1 + 1, 0, none⟩ (.int .i64 y.kind)).setCell ⟨w.heap.size + 1 + 1, 1, none⟩ (.int .i64 y.num)).setCell ⟨w.heap.size + 1 + 1, 2, none⟩ (.slice a' y.sub.length cap')) HO2.out (fun b hb => set3_heap _ _ _ _ _ _ (by omega))
          show World.ownsRow _ _ _ _ _ _ _
          rw [List.length_append, List.flatten_append]
          simpa using h
        · show Box3 _ _ _ _ _
          unfold Box3
          rw [set3_heap _ _ _ _ _ _ (by omega)]
          exact BR2.out
    · have hd5 : decide (x.kind = 5) = false := by simp [h5]
      go_wp2_with fail
      refine (reverse_any (w.heap.size + 3) _ css wr (by rw [HXS.out.length]; exact hown.out) (tmcs_cs3 HXS.out)).mono ?_
      rintro e w4 ⟨rfl, hown4, hb4⟩
      have HO4 := Lib.hid hown4
      have BX4 := BX.later hb4 (by omega)
      have BR4 := BR.out.later hb4 (by omega)
      obtain ⟨d0, d1, d2⟩ := BX4.cells
      obtain ⟨q0, q1, q2⟩ := BR4.cells
      have f0 := BR4.free 0
      have f1 := BR4.free 1
      have f2 := BR4.free 2
      have HB4 := Lib.hid (hbel.out.trans (hb4.mono (by omega)))
      clear BX4 BR4 c0 c1 c2 BX hown4 hb4
      go_wp2_with fail
      have HLC := HXS.out.length
      have hF := set3_below (B := w.heap.size + 1) HB4.out (by omega) (.int .i64 x.kind) (.int .i64 x.num) (.slice a1 x.sub.length cap1)
      have hO := own_move (w' := ((w4.setCell ⟨w.heap.size + 1, 0, none⟩ (.int .i64 x.kind)).setCell ⟨w.heap.size + 1, 1, none⟩ (.int .i64 x.num)).setCell ⟨w.heap.size + 1, 2, none⟩ (.slice a1 x.sub.length cap1)) HO4.out (fun b hb => set3_heap _ _ _ _ _ _ (by omega))
      have hS := SlN.own hO (by simp) (fun c hc => (tmcs_cs3 HXS.out c (by simpa using hc)).three)
      refine bodyPost_ret (v := .tuple #[.agg #[.int .i64 x.kind, .int .i64 x.num, .slice a1 x.sub.length cap1], .slice av xs.length cv]) (by simp [results, Try.results31, go_sem, q0, q1, q2]) rfl ⟨x, xs.reverse, x.kind, x.num, a1, x.sub.length, cap1, av, cv, by simp, h5, HA.out, HX.out.later hF, ?_, hF⟩
      rw [List.length_reverse]
      exact ⟨css.reverse, hS, (TmCs.rev HXS.out).later hF⟩
set_option maxRecDepth 100000 in
set_option maxHeartbeats 2000000 in
theorem rhead2_any (t : Tm) (cs : List Value) (w : World) (hg : goodB t = true) (hh : hgT t ≤ 128) (ht : TmC w t cs) :
    Calls Try.prog 33 #[.agg cs.toArray] w fun e w' => ∃ (h : Tm) (l : List Tm) (k n : Int) (a : Option Addr) (len cap : Nat), e = .returned (.agg #[.int .i64 k, .int .i64 n, .slice a len cap]) ∧
      h.kind ≠ 5 ∧ applyT h l = t ∧ TmC w' h [.int .i64 k, .int .i64 n, .slice a len cap] ∧ Below w.heap.size w w' := by
  have ht0 := ht
  obtain ⟨a, cap, rfl, hsub, hlen⟩ := tm_open ht
  have HS := Lib.hid hh
  have HG := Lib.hid hg
  clear hg hh ht hsub
  have BX0 : Hid (Box3 ((w.alloc (.cells #[.int .i64 t.kind, .int .i64 t.num, .slice a t.sub.length cap] 24)).alloc (.cells #[.int .i64 0, .int .i64 0, .slice none 0 0] 24)) w.heap.size (.int .i64 t.kind) (.int .i64 t.num) (.slice a t.sub.length cap)) :=
    (Box3.new w _ _ _).later ((Below.refl _ _).alloc (Nat.le_refl _) _) (by simp)
  have BX1 : Hid (Box3 ((w.alloc (.cells #[.int .i64 t.kind, .int .i64 t.num, .slice a t.sub.length cap] 24)).alloc (.cells #[.int .i64 0, .int .i64 0, .slice none 0 0] 24)) (w.heap.size + 1) (.int .i64 0) (.int .i64 0) (.slice none 0 0)) := by
    have h := Box3.new (w.alloc (.cells #[.int .i64 t.kind, .int .i64 t.num, .slice a t.sub.length cap] 24)) (.int .i64 0) (.int .i64 0) (.slice none 0 0)
    simp at h
    exact h
  have hd : Hid (Below w.heap.size w ((w.alloc (.cells #[.int .i64 t.kind, .int .i64 t.num, .slice a t.sub.length cap] 24)).alloc (.cells #[.int .i64 0, .int .i64 0, .slice none 0 0] 24))) := ((Below.refl _ _).alloc (Nat.le_refl _) _).alloc (by simp) _
  have HT := Lib.hid ht0
  clear ht0
  go_enter Try.func33, Try.ntmps33
  go_wp2_with fail
  go_loopg [3] 130 (fun g _ wr => ∃ (x : Tm) (xs : List Tm) (k n : Int) (a : Option Addr) (len cap : Nat), g + xs.length = 130 ∧ Hid (applyT x xs = t) ∧ Hid (goodB x = true) ∧ Hid (TmC w x [.int .i64 k, .int .i64 n, .slice a len cap]) ∧
      Box3 wr w.heap.size (.int .i64 k) (.int .i64 n) (.slice a len cap) ∧ Hid (Box3 wr (w.heap.size + 1) (.int .i64 0) (.int .i64 0) (.slice none 0 0)) ∧ Hid (Below w.heap.size w wr))
  case atStart => exact ⟨t, [], _, _, _, _, _, rfl, rfl, HG.out, HT.out, BX0.out, BX1.out, hd.out⟩
  case round =>
    obtain ⟨x, xs, k, n, a1, len, cap1, hg, HA, HGX, HX, BX, BR, hbel⟩ := hrel
    obtain ⟨c0, c1, c2⟩ := BX.cells
    obtain ⟨ax, capx, hex, hsubx, hlx⟩ := tm_open HX.out
    simp only [List.cons.injEq, Value.int.injEq, true_and, and_true, Value.slice.injEq] at hex
    obtain ⟨rfl, rfl, rfl, rfl, rfl⟩ := hex
    by_cases h5 : x.kind = 5
    · obtain ⟨y, b, rfl, hgy, hgb⟩ := good_app HGX.out h5
      clear h5
      simp only [Tm.kind, Tm.num, Tm.sub, List.length_cons, List.length_nil, Nat.zero_add, Nat.reduceAdd] at c0 c1 c2 HX BX hsubx hlx
      obtain ⟨bb, off, a', cap', rfl, e0, e1, e2, hty⟩ := sub_at (ts := [y, b]) hsubx (Below.refl _ _) 0 (by simp)
      have hbl : bb < w.heap.size := World.block_lt_of_cell? w _ e0
      simp only [List.getElem_cons_zero, Nat.zero_mul, Nat.add_zero] at hty e0 e1 e2
      replace e0 := (hbel.out.cell hbl).trans e0
      replace e1 := (hbel.out.cell hbl).trans e1
      replace e2 := (hbel.out.cell hbl).trans e2
      have hlen1 : xs.length + 1 ≤ 128 := by
        have h1 := HA.out
        have h3 := spine_hg (x := y) (l := b :: xs)
        rw [show applyT y (b :: xs) = t from h1] at h3
        have h4 := HS.out
        simp at h3
        omega
      have g0 := BX.free 0
      have g1 := BX.free 1
      have g2 := BX.free 2
      have HBX := Lib.hid BX
      have HTY := Lib.hid hty
      clear BX hsubx HX hty
      go_wp2_with fail
      go_roundg (gk - 1)
      case measure => omega
      case rel =>
        refine ⟨y, b :: xs, y.kind, y.num, a', y.sub.length, cap', by simp; omega, HA.out, hgy, HTY.out, HBX.out.set _ _ _, ?_, set3_below hbel.out (Nat.le_refl _) _ _ _⟩
        show Box3 _ _ _ _ _
        unfold Box3
        rw [set3_heap _ _ _ _ _ _ (by omega)]
        exact BR.out
    · have hd5 : decide (x.kind = 5) = false := by simp [h5]
      have BRo := BR.out
      obtain ⟨q0, q1, q2⟩ := BRo.cells
      have f0 := BRo.free 0
      have f1 := BRo.free 1
      have f2 := BRo.free 2
      clear BRo BX
      go_wp2_with fail
      have hF := set3_below (B := w.heap.size + 1) hbel.out (by omega) (.int .i64 x.kind) (.int .i64 x.num) (.slice a1 x.sub.length cap1)
      exact bodyPost_ret (v := .agg #[.int .i64 x.kind, .int .i64 x.num, .slice a1 x.sub.length cap1]) (by simp [results, Try.results33, go_sem, q0, q1, q2]) rfl ⟨x, xs, x.kind, x.num, a1, x.sub.length, cap1, rfl, h5, HA.out, HX.out.later hF, hF⟩
set_option maxRecDepth 100000 in
set_option maxHeartbeats 2000000 in
theorem rargs2_any : ∀ (t : Tm) (l0 : List Tm) (cs : List Value) (w0 w : World), Below w0.heap.size w0 w → hgT (applyT t l0) ≤ 128 → goodB t = true → TmC w0 t cs →
    Calls Try.prog 35 #[.agg cs.toArray] w fun e w' => ∃ (h : Tm) (l : List Tm) (css : List (List Value)) (al : Option Addr) (cl : Nat), e = .returned (.slice al l.length cl) ∧
      h.kind ≠ 5 ∧ applyT h l = t ∧ w'.ownsRow w.heap.size 24 3 (.slice al l.length cl) l.length css.flatten ∧ TmCs w0 l css ∧ Below w.heap.size w w' := by
  obtain ⟨i0, hi, hz0, hz1, hz2⟩ := info_parts info24
  refine Tm.ind ?_
  intro kk n sub ih l0 cs w0 w hw0 hs hg ht
  have ht0 := ht
  obtain ⟨a, cap, rfl, hsub, hlen⟩ := tm_open ht
  have HS := Lib.hid hs
  have IH := Lib.hid ih
  have HT := Lib.hid ht0
  have HW0 := Lib.hid hw0
  have hs0 := hw0.size
  clear hs ih ht ht0 hw0
  by_cases h5 : kk = 5
  · obtain ⟨y, b, he, hgy, hgb⟩ := good_app hg h5
    simp only [Tm.mk.injEq] at he
    obtain ⟨rfl, rfl, rfl⟩ := he
    simp only [Tm.kind, Tm.num, Tm.sub, List.length_cons, List.length_nil, Nat.zero_add, Nat.reduceAdd] at HT hsub ⊢
    obtain ⟨bb, off, a', cap', rfl, e0, e1, e2, hty⟩ := sub_at (ts := [y, b]) hsub (Below.refl _ _) 0 (by simp)
    obtain ⟨bb', off', a'', cap'', hbb, j0, j1, j2, htb⟩ := sub_at (ts := [y, b]) hsub (Below.refl _ _) 1 (by simp)
    simp only [Option.some.injEq, Addr.mk.injEq, and_true] at hbb
    obtain ⟨rfl, rfl⟩ := hbb
    have hbl0 : bb < w0.heap.size := World.block_lt_of_cell? w0 _ e0
    have hbl : bb < w.heap.size := by omega
    simp only [List.getElem_cons_zero, List.getElem_cons_succ] at hty htb e0 e1 e2 j0 j1 j2
    have BX : Hid (Box3 (w.alloc (.cells #[.int .i64 5, .int .i64 0, .slice (some ⟨bb, off, none⟩) 2 cap] 24)) w.heap.size (.int .i64 5) (.int .i64 0) (.slice (some ⟨bb, off, none⟩) 2 cap)) := Box3.new w _ _ _
    have hA : Hid (Below w.heap.size w (w.alloc (.cells #[.int .i64 5, .int .i64 0, .slice (some ⟨bb, off, none⟩) 2 cap] 24))) := (Below.refl _ _).alloc (Nat.le_refl _) _
    have hAs : (w.alloc (.cells #[.int .i64 5, .int .i64 0, .slice (some ⟨bb, off, none⟩) 2 cap] 24)).heap.size = w.heap.size + 1 := by simp
    have CELLS : Hid (∀ wz, Below (w.heap.size + 1) (w.alloc (.cells #[.int .i64 5, .int .i64 0, .slice (some ⟨bb, off, none⟩) 2 cap] 24)) wz → wz.cell? ⟨w.heap.size, 2, none⟩ = some (.slice (some ⟨bb, off, none⟩) 2 cap) ∧ wz.cell? ⟨bb, off, none⟩ = some (.int .i64 y.kind) ∧ wz.cell? ⟨bb, off + 1, none⟩ = some (.int .i64 y.num) ∧ wz.cell? ⟨bb, off + 2, none⟩ = some (.slice a' y.sub.length cap') ∧ wz.cell? ⟨bb, off + 3, none⟩ = some (.int .i64 b.kind) ∧ wz.cell? ⟨bb, off + 3 + 1, none⟩ = some (.int .i64 b.num) ∧ wz.cell? ⟨bb, off + 3 + 2, none⟩ = some (.slice a'' b.sub.length cap'')) := by
      intro wz hz
      have hz' : Below w0.heap.size w0 wz := HW0.out.trans ((hA.out.trans (hz.mono (Nat.le_succ _))).mono hs0)
      simp only [Nat.zero_mul, Nat.one_mul, Nat.add_zero] at e0 e1 e2 j0 j1 j2
      exact ⟨(BX.out.later hz (Nat.lt_succ_self _)).cells.2.2, (hz'.cell hbl0).trans e0, (hz'.cell hbl0).trans e1, (hz'.cell hbl0).trans e2, (hz'.cell hbl0).trans j0, (hz'.cell hbl0).trans j1, (hz'.cell hbl0).trans j2⟩
    have CALL : Hid (∀ w2, Below (w.heap.size + 1) (w.alloc (.cells #[.int .i64 5, .int .i64 0, .slice (some ⟨bb, off, none⟩) 2 cap] 24)) w2 → Calls Try.prog 35 #[.agg #[.int .i64 y.kind, .int .i64 y.num, .slice a' y.sub.length cap']] w2 fun e w3 => ∃ (h : Tm) (l : List Tm) (css : List (List Value)) (v : Value), e = .returned v ∧
        h.kind ≠ 5 ∧ applyT h l = y ∧ l.length ≤ 127 ∧ w3.ownsRow (w.heap.size + 1) 24 3 v l.length css.flatten ∧ TmCs w0 l css ∧ Below w2.heap.size w2 w3 ∧ Below (w.heap.size + 1) (w.alloc (.cells #[.int .i64 5, .int .i64 0, .slice (some ⟨bb, off, none⟩) 2 cap] 24)) w3 ∧ w.heap.size + 1 ≤ w3.heap.size) := by
      intro w2 hb
      have hb' : Below w0.heap.size w0 w2 := HW0.out.trans ((hA.out.trans (hb.mono (Nat.le_succ _))).mono hs0)
      have hsz : w.heap.size + 1 ≤ w2.heap.size := by rw [← hAs]; exact hb.size
      refine (IH.out y (by simp) (b :: l0) _ w0 w2 hb' HS.out hgy hty).mono ?_
      rintro e w3 ⟨h, l, css, al, cl, rfl, h1, h2, h3, h4, h5⟩
      refine ⟨h, l, css, _, rfl, h1, h2, ?_, own_base h3 hsz, h4, h5, hb.trans (h5.mono hsz), Nat.le_trans hsz h5.size⟩
      have h6 := spine_hg (x := h) (l := l ++ (b :: l0))
      rw [applyT_append, h2] at h6
      have h7 : hgT (applyT y (b :: l0)) ≤ 128 := HS.out
      simp at h6; omega
    have HTB := Lib.hid htb
    obtain ⟨k2, m0, m1, m2, n0, n1, n2⟩ := CELLS.out _ (Below.refl _ _)
    clear e0 e1 e2 j0 j1 j2 hty htb hsub
    go_enter Try.func35, Try.ntmps35
    go_wp2_with fail
    have hLIT : Hid (∀ wz : World, SlN (wz.alloc (.cells #[.int .i64 b.kind, .int .i64 b.num, .slice a'' b.sub.length cap''] 24)) 3 (.slice (some ⟨wz.heap.size, 0, none⟩) 1 1) [[.int .i64 b.kind, .int .i64 b.num, .slice a'' b.sub.length cap'']]) := fun wz =>
        SlN.own (own_litN (w := wz) (xs := [.int .i64 b.kind, .int .i64 b.num, .slice a'' b.sub.length cap'']) (n := 1) (size := 3) 24 rfl (by decide)) rfl (by intro c hc; simp at hc; subst hc; rfl)
    have hbA : Hid (Below (w.heap.size + 1) (w.alloc (.cells #[.int .i64 5, .int .i64 0, .slice (some ⟨bb, off, none⟩) 2 cap] 24)) (w.alloc (.cells #[.int .i64 5, .int .i64 0, .slice (some ⟨bb, off, none⟩) 2 cap] 24)).drew) := (Below.refl _ _).drew
    have hbB : Hid (Below (w.heap.size + 1) (w.alloc (.cells #[.int .i64 5, .int .i64 0, .slice (some ⟨bb, off, none⟩) 2 cap] 24)) ((w.alloc (.cells #[.int .i64 5, .int .i64 0, .slice (some ⟨bb, off, none⟩) 2 cap] 24)).drew.alloc (.cells #[.int .i64 b.kind, .int .i64 b.num, .slice a'' b.sub.length cap''] 24))) := hbA.out.alloc (by simp) _
    have HLB : Hid (∀ w3, Below ((w.alloc (.cells #[.int .i64 5, .int .i64 0, .slice (some ⟨bb, off, none⟩) 2 cap] 24)).drew.alloc (.cells #[.int .i64 b.kind, .int .i64 b.num, .slice a'' b.sub.length cap''] 24)).heap.size ((w.alloc (.cells #[.int .i64 5, .int .i64 0, .slice (some ⟨bb, off, none⟩) 2 cap] 24)).drew.alloc (.cells #[.int .i64 b.kind, .int .i64 b.num, .slice a'' b.sub.length cap''] 24)) w3 → SlN w3 3 (.slice (some ⟨w.heap.size + 1, 0, none⟩) 1 1) [[.int .i64 b.kind, .int .i64 b.num, .slice a'' b.sub.length cap'']]) := by
      intro w3 hb
      have h := (hLIT.out (w.alloc (.cells #[.int .i64 5, .int .i64 0, .slice (some ⟨bb, off, none⟩) 2 cap] 24)).drew).later hb
      rw [show (w.alloc (.cells #[.int .i64 5, .int .i64 0, .slice (some ⟨bb, off, none⟩) 2 cap] 24)).drew.heap.size = w.heap.size + 1 from hAs] at h
      exact h
    go_region_held3 (fun w' => w'.cell? ⟨w.heap.size, 2, none⟩ = some (.slice (some ⟨bb, off, none⟩) 2 cap) ∧ w'.cell? ⟨bb, off, none⟩ = some (.int .i64 y.kind) ∧ w'.cell? ⟨bb, off + 1, none⟩ = some (.int .i64 y.num) ∧ w'.cell? ⟨bb, off + 2, none⟩ = some (.slice a' y.sub.length cap') ∧ w'.cell? ⟨bb, off + 3, none⟩ = some (.int .i64 b.kind) ∧ w'.cell? ⟨bb, off + 3 + 1, none⟩ = some (.int .i64 b.num) ∧ w'.cell? ⟨bb, off + 3 + 2, none⟩ = some (.slice a'' b.sub.length cap''))
      (first
        | exact CELLS.out _ hbA.out
        | exact CELLS.out _ hbB.out
        | exact CELLS.out _ hw3
        | exact CELLS.out _ (hw3.alloc hw3z _)
        | exact CELLS.out _ (hw3.trans hb4)
        | exact CELLS.out _ ((hw3.alloc hw3z _).trans hb4))
      (first
        | (go_at_call 35
           refine (CALL.out _ (by first | exact hbA.out | exact hbB.out)).mono ?_
           rintro e w3 ⟨h, l, css, v3, rfl, h1, h2, h3, hown3, hcs3, hb3, hw3, hw3z⟩
           (first
             | have hslB := HLB.out _ hb3
             | skip))
        | (refine step_app_sl (by rfl) (.tmp 11) (.tmp 16) 22 (by rfl) (w.heap.size + 1) 24 i0 (.agg #[.int .i64 0, .int .i64 0, .slice none 0 0]) 3 40 Try.underlying22 hi hz0 hz1 hz2 (by rfl) (by decide) _ _ _ (hown3) _ [[.int .i64 b.kind, .int .i64 b.num, .slice a'' b.sub.length cap'']] (hslB) (by rfl) (by rfl) (by intro c hc u hu; simp at hc; subst hc; simp at hu; rcases hu with rfl | rfl | rfl <;> rfl) (by intro c hc; simp at hc; subst hc; rfl) (by unfold maxLen; simp; omega) (by simp; omega) (hw3z) ?_; intro v4 w4 hown4 hb4 hg4)
        | (refine step_app_sl (by rfl) (.tmp 11) (.tmp 16) 22 (by rfl) (w.heap.size + 1) 24 i0 (.agg #[.int .i64 0, .int .i64 0, .slice none 0 0]) 3 40 Try.underlying22 hi hz0 hz1 hz2 (by rfl) (by decide) _ _ _ (hown3.alloc _) _ [[.int .i64 b.kind, .int .i64 b.num, .slice a'' b.sub.length cap'']] (hLIT.out _) (by rfl) (by rfl) (by intro c hc u hu; simp at hc; subst hc; simp at hu; rcases hu with rfl | rfl | rfl <;> rfl) (by intro c hc; simp at hc; subst hc; rfl) (by unfold maxLen; simp; omega) (by simp; omega) (by simp; omega) ?_; intro v4 w4 hown4 hb4 hg4)
        | fail)
    all_goals
      obtain ⟨g4, cap4, rfl⟩ := own_sh3 hown4 (by simp)
      have hb4' : Below w.heap.size w w4 := by
        first
          | exact (hA.out.trans (hw3.mono (Nat.le_succ _))).trans (hb4.mono (Nat.le_succ _))
          | exact ((hA.out.trans (hw3.mono (Nat.le_succ _))).alloc (by omega) _).trans (hb4.mono (Nat.le_succ _))
      have hfin : Hid (w4.ownsRow w.heap.size 24 3 (.slice (some ⟨g4, 0, none⟩) (l ++ [b]).length cap4) (l ++ [b]).length (css ++ [[Value.int .i64 b.kind, Value.int .i64 b.num, Value.slice a'' b.sub.length cap'']]).flatten) := by
        have h := own_base hown4 (Nat.le_succ w.heap.size)
        show World.ownsRow _ _ _ _ _ _ _
        rw [List.length_append, List.flatten_append]
        simpa using h
      have HB4 := Lib.hid hb4'
      have H1 := Lib.hid h1
      have H2 := Lib.hid h2
      have HC := Lib.hid hcs3
      clear hb4' h1 h2 hcs3 hown4 hb4 hown3 hw3 hb3 hg4 k2 m0 m1 m2 n0 n1 n2
      go_wp2_with fail
      go_ret
      exact ⟨h, l ++ [b], _, _, _, by simp, H1.out, by rw [applyT_snoc, H2.out], hfin.out, TmCs.snoc HTB.out HC.out, HB4.out⟩
  · simp only [Tm.kind, Tm.num, Tm.sub] at HT hsub
    go_enter Try.func35, Try.ntmps35
    go_wp2_with fail
    rotate_left
    · exfalso
      have hx : ((Tm.mk kk n sub).kind != 5) = false := by assumption
      have hx2 : (kk != 5) = false := hx
      simp at hx2
      exact h5 hx2
    go_ret
    refine ⟨.mk kk n sub, [], [], _, _, rfl, h5, rfl, ?_, by simp only [TmCs], ((Below.refl _ _).alloc (Nat.le_refl _) _).alloc (by simp) _⟩
    have h := World.ownsRow_made (base := w.heap.size) (e := 24) (size := 3) (w.alloc (.cells #[.int .i64 kk, .int .i64 n, .slice a sub.length cap] 24)) #[] 0 (by simp) (Nat.zero_le _) rfl
    simp at h
    exact h
end Go.Proofs.Ytackepdhcigdlaa
