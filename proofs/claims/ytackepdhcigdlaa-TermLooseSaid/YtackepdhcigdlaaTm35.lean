import Derived.Test.YtackepdhcigdlaaTm34
namespace Go.Proofs.Ytackepdhcigdlaa
open Go.RowKit
set_option maxRecDepth 100000 in
set_option maxHeartbeats 2000000 in
theorem rargs_any : ∀ (t : Tm) (l0 : List Tm) (cs : List Value) (w0 w : World), Below w0.heap.size w0 w → shapedB (applyT t l0) = true → goodB t = true → TmC w0 t cs →
    Calls Try.prog 35 #[.agg cs.toArray] w fun e w' => ∃ (h : Tm) (l : List Tm) (css : List (List Value)) (al : Option Addr) (cl : Nat), e = .returned (.slice al l.length cl) ∧
      h.kind ≠ 5 ∧ applyT h l = t ∧ w'.ownsRow w.heap.size 24 3 (.slice al l.length cl) l.length css.flatten ∧ TmCs w0 l css ∧ Below w.heap.size w w' := by
  obtain ⟨i0, hi, hz0, hz1, hz2⟩ := info_parts info24
  refine Tm.ind ?_
  intro kk n sub ih l0 cs w0 w hw0 hs hg ht
  have ht0 := ht
  obtain ⟨a, cap, rfl, hsub, hlen⟩ := tm_open ht
  have HS := Lib.hid hs
  have IH := Lib.hid ih
  have HT := Lib.hid ht0
  have HW0 := Lib.hid hw0
  have hs0 := hw0.size
  clear hs ih ht ht0 hw0
  by_cases h5 : kk = 5
  · obtain ⟨y, b, he, hgy, hgb⟩ := good_app hg h5
    simp only [Tm.mk.injEq] at he
    obtain ⟨rfl, rfl, rfl⟩ := he
    simp only [Tm.kind, Tm.num, Tm.sub, List.length_cons, List.length_nil, Nat.zero_add, Nat.reduceAdd] at HT hsub ⊢
    obtain ⟨bb, off, a', cap', rfl, e0, e1, e2, hty⟩ := sub_at (ts := [y, b]) hsub (Below.refl _ _) 0 (by simp)
    obtain ⟨bb', off', a'', cap'', hbb, j0, j1, j2, htb⟩ := sub_at (ts := [y, b]) hsub (Below.refl _ _) 1 (by simp)
    simp only [Option.some.injEq, Addr.mk.injEq, and_true] at hbb
    obtain ⟨rfl, rfl⟩ := hbb
    have hbl0 : bb < w0.heap.size := World.block_lt_of_cell? w0 _ e0
    have hbl : bb < w.heap.size := by omega
    simp only [List.getElem_cons_zero, List.getElem_cons_succ] at hty htb e0 e1 e2 j0 j1 j2
    have BX : Hid (Box3 (w.alloc (.cells #[.int .i64 5, .int .i64 0, .slice (some ⟨bb, off, none⟩) 2 cap] 24)) w.heap.size (.int .i64 5) (.int .i64 0) (.slice (some ⟨bb, off, none⟩) 2 cap)) := Box3.new w _ _ _
    have hA : Hid (Below w.heap.size w (w.alloc (.cells #[.int .i64 5, .int .i64 0, .slice (some ⟨bb, off, none⟩) 2 cap] 24))) := (Below.refl _ _).alloc (Nat.le_refl _) _
    have hAs : (w.alloc (.cells #[.int .i64 5, .int .i64 0, .slice (some ⟨bb, off, none⟩) 2 cap] 24)).heap.size = w.heap.size + 1 := by simp
    have CELLS : Hid (∀ wz, Below (w.heap.size + 1) (w.alloc (.cells #[.int .i64 5, .int .i64 0, .slice (some ⟨bb, off, none⟩) 2 cap] 24)) wz → wz.cell? ⟨w.heap.size, 2, none⟩ = some (.slice (some ⟨bb, off, none⟩) 2 cap) ∧ wz.cell? ⟨bb, off, none⟩ = some (.int .i64 y.kind) ∧ wz.cell? ⟨bb, off + 1, none⟩ = some (.int .i64 y.num) ∧ wz.cell? ⟨bb, off + 2, none⟩ = some (.slice a' y.sub.length cap') ∧ wz.cell? ⟨bb, off + 3, none⟩ = some (.int .i64 b.kind) ∧ wz.cell? ⟨bb, off + 3 + 1, none⟩ = some (.int .i64 b.num) ∧ wz.cell? ⟨bb, off + 3 + 2, none⟩ = some (.slice a'' b.sub.length cap'')) := by
      intro wz hz
      have hz' : Below w0.heap.size w0 wz := HW0.out.trans ((hA.out.trans (hz.mono (Nat.le_succ _))).mono hs0)
      simp only [Nat.zero_mul, Nat.one_mul, Nat.add_zero] at e0 e1 e2 j0 j1 j2
      exact ⟨(BX.out.later hz (Nat.lt_succ_self _)).cells.2.2, (hz'.cell hbl0).trans e0, (hz'.cell hbl0).trans e1, (hz'.cell hbl0).trans e2, (hz'.cell hbl0).trans j0, (hz'.cell hbl0).trans j1, (hz'.cell hbl0).trans j2⟩
    have CALL : Hid (∀ w2, Below (w.heap.size + 1) (w.alloc (.cells #[.int .i64 5, .int .i64 0, .slice (some ⟨bb, off, none⟩) 2 cap] 24)) w2 → Calls Try.prog 35 #[.agg #[.int .i64 y.kind, .int .i64 y.num, .slice a' y.sub.length cap']] w2 fun e w3 => ∃ (h : Tm) (l : List Tm) (css : List (List Value)) (v : Value), e = .returned v ∧
        h.kind ≠ 5 ∧ applyT h l = y ∧ l.length ≤ 126 ∧ w3.ownsRow (w.heap.size + 1) 24 3 v l.length css.flatten ∧ TmCs w0 l css ∧ Below w2.heap.size w2 w3 ∧ Below (w.heap.size + 1) (w.alloc (.cells #[.int .i64 5, .int .i64 0, .slice (some ⟨bb, off, none⟩) 2 cap] 24)) w3 ∧ w.heap.size + 1 ≤ w3.heap.size) := by
      intro w2 hb
      have hb' : Below w0.heap.size w0 w2 := HW0.out.trans ((hA.out.trans (hb.mono (Nat.le_succ _))).mono hs0)
      have hsz : w.heap.size + 1 ≤ w2.heap.size := by rw [← hAs]; exact hb.size
      refine (IH.out y (by simp) (b :: l0) _ w0 w2 hb' HS.out hgy hty).mono ?_
      rintro e w3 ⟨h, l, css, al, cl, rfl, h1, h2, h3, h4, h5⟩
      refine ⟨h, l, css, _, rfl, h1, h2, ?_, own_base h3 hsz, h4, h5, hb.trans (h5.mono hsz), Nat.le_trans hsz h5.size⟩
      have h6 := spine_len (x := h) (l := l ++ (b :: l0)) (by rw [applyT_append, h2]; exact HS.out)
      simp at h6; omega
    have HTB := Lib.hid htb
    obtain ⟨k2, m0, m1, m2, n0, n1, n2⟩ := CELLS.out _ (Below.refl _ _)
    clear e0 e1 e2 j0 j1 j2 hty htb hsub
    go_enter Try.func35, Try.ntmps35
    go_wp2_with fail
    have hLIT : Hid (∀ wz : World, SlN (wz.alloc (.cells #[.int .i64 b.kind, .int .i64 b.num, .slice a'' b.sub.length cap''] 24)) 3 (.slice (some ⟨wz.heap.size, 0, none⟩) 1 1) [[.int .i64 b.kind, .int .i64 b.num, .slice a'' b.sub.length cap'']]) := fun wz =>
        SlN.own (own_litN (w := wz) (xs := [.int .i64 b.kind, .int .i64 b.num, .slice a'' b.sub.length cap'']) (n := 1) (size := 3) 24 rfl (by decide)) rfl (by intro c hc; simp at hc; subst hc; rfl)
    have hbA : Hid (Below (w.heap.size + 1) (w.alloc (.cells #[.int .i64 5, .int .i64 0, .slice (some ⟨bb, off, none⟩) 2 cap] 24)) (w.alloc (.cells #[.int .i64 5, .int .i64 0, .slice (some ⟨bb, off, none⟩) 2 cap] 24)).drew) := (Below.refl _ _).drew
    have hbB : Hid (Below (w.heap.size + 1) (w.alloc (.cells #[.int .i64 5, .int .i64 0, .slice (some ⟨bb, off, none⟩) 2 cap] 24)) ((w.alloc (.cells #[.int .i64 5, .int .i64 0, .slice (some ⟨bb, off, none⟩) 2 cap] 24)).drew.alloc (.cells #[.int .i64 b.kind, .int .i64 b.num, .slice a'' b.sub.length cap''] 24))) := hbA.out.alloc (by simp) _
    have HLB : Hid (∀ w3, Below ((w.alloc (.cells #[.int .i64 5, .int .i64 0, .slice (some ⟨bb, off, none⟩) 2 cap] 24)).drew.alloc (.cells #[.int .i64 b.kind, .int .i64 b.num, .slice a'' b.sub.length cap''] 24)).heap.size ((w.alloc (.cells #[.int .i64 5, .int .i64 0, .slice (some ⟨bb, off, none⟩) 2 cap] 24)).drew.alloc (.cells #[.int .i64 b.kind, .int .i64 b.num, .slice a'' b.sub.length cap''] 24)) w3 → SlN w3 3 (.slice (some ⟨w.heap.size + 1, 0, none⟩) 1 1) [[.int .i64 b.kind, .int .i64 b.num, .slice a'' b.sub.length cap'']]) := by
      intro w3 hb
      have h := (hLIT.out (w.alloc (.cells #[.int .i64 5, .int .i64 0, .slice (some ⟨bb, off, none⟩) 2 cap] 24)).drew).later hb
      rw [show (w.alloc (.cells #[.int .i64 5, .int .i64 0, .slice (some ⟨bb, off, none⟩) 2 cap] 24)).drew.heap.size = w.heap.size + 1 from hAs] at h
      exact h
    go_region_held3 (fun w' => w'.cell? ⟨w.heap.size, 2, none⟩ = some (.slice (some ⟨bb, off, none⟩) 2 cap) ∧ w'.cell? ⟨bb, off, none⟩ = some (.int .i64 y.kind) ∧ w'.cell? ⟨bb, off + 1, none⟩ = some (.int .i64 y.num) ∧ w'.cell? ⟨bb, off + 2, none⟩ = some (.slice a' y.sub.length cap') ∧ w'.cell? ⟨bb, off + 3, none⟩ = some (.int .i64 b.kind) ∧ w'.cell? ⟨bb, off + 3 + 1, none⟩ = some (.int .i64 b.num) ∧ w'.cell? ⟨bb, off + 3 + 2, none⟩ = some (.slice a'' b.sub.length cap''))
      (first
        | exact CELLS.out _ hbA.out
        | exact CELLS.out _ hbB.out
        | exact CELLS.out _ hw3
        | exact CELLS.out _ (hw3.alloc hw3z _)
        | exact CELLS.out _ (hw3.trans hb4)
        | exact CELLS.out _ ((hw3.alloc hw3z _).trans hb4))
      (first
        | (go_at_call 35
           refine (CALL.out _ (by first | exact hbA.out | exact hbB.out)).mono ?_
           rintro e w3 ⟨h, l, css, v3, rfl, h1, h2, h3, hown3, hcs3, hb3, hw3, hw3z⟩
           (first
             | have hslB := HLB.out _ hb3
             | skip))
        | (refine step_app_sl (by rfl) (.tmp 11) (.tmp 16) 22 (by rfl) (w.heap.size + 1) 24 i0 (.agg #[.int .i64 0, .int .i64 0, .slice none 0 0]) 3 40 Try.underlying22 hi hz0 hz1 hz2 (by rfl) (by decide) _ _ _ (hown3) _ [[.int .i64 b.kind, .int .i64 b.num, .slice a'' b.sub.length cap'']] (hslB) (by rfl) (by rfl) (by intro c hc u hu; simp at hc; subst hc; simp at hu; rcases hu with rfl | rfl | rfl <;> rfl) (by intro c hc; simp at hc; subst hc; rfl) (by unfold maxLen; simp; omega) (by simp; omega) (hw3z) ?_; intro v4 w4 hown4 hb4 hg4)
        | (refine step_app_sl (by rfl) (.tmp 11) (.tmp 16) 22 (by rfl) (w.heap.size + 1) 24 i0 (.agg #[.int .i64 0, .int .i64 0, .slice none 0 0]) 3 40 Try.underlying22 hi hz0 hz1 hz2 (by rfl) (by decide) _ _ _ (hown3.alloc _) _ [[.int .i64 b.kind, .int .i64 b.num, .slice a'' b.sub.length cap'']] (hLIT.out _) (by rfl) (by rfl) (by intro c hc u hu; simp at hc; subst hc; simp at hu; rcases hu with rfl | rfl | rfl <;> rfl) (by intro c hc; simp at hc; subst hc; rfl) (by unfold maxLen; simp; omega) (by simp; omega) (by simp; omega) ?_; intro v4 w4 hown4 hb4 hg4)
        | fail)
    all_goals
      obtain ⟨g4, cap4, rfl⟩ := own_sh3 hown4 (by simp)
      have hb4' : Below w.heap.size w w4 := by
        first
          | exact (hA.out.trans (hw3.mono (Nat.le_succ _))).trans (hb4.mono (Nat.le_succ _))
          | exact ((hA.out.trans (hw3.mono (Nat.le_succ _))).alloc (by omega) _).trans (hb4.mono (Nat.le_succ _))
      have hfin : Hid (w4.ownsRow w.heap.size 24 3 (.slice (some ⟨g4, 0, none⟩) (l ++ [b]).length cap4) (l ++ [b]).length (css ++ [[Value.int .i64 b.kind, Value.int .i64 b.num, Value.slice a'' b.sub.length cap'']]).flatten) := by
        have h := own_base hown4 (Nat.le_succ w.heap.size)
        show World.ownsRow _ _ _ _ _ _ _
        rw [List.length_append, List.flatten_append]
        simpa using h
      have HB4 := Lib.hid hb4'
      have H1 := Lib.hid h1
      have H2 := Lib.hid h2
      have HC := Lib.hid hcs3
      clear hb4' h1 h2 hcs3 hown4 hb4 hown3 hw3 hb3 hg4 k2 m0 m1 m2 n0 n1 n2
      go_wp2_with fail
      go_ret
      exact ⟨h, l ++ [b], _, _, _, by simp, H1.out, by rw [applyT_snoc, H2.out], hfin.out, TmCs.snoc HTB.out HC.out, HB4.out⟩
  · simp only [Tm.kind, Tm.num, Tm.sub] at HT hsub
    go_enter Try.func35, Try.ntmps35
    go_wp2_with fail
    rotate_left
    · exfalso
      have hx : ((Tm.mk kk n sub).kind != 5) = false := by assumption
      have hx2 : (kk != 5) = false := hx
      simp at hx2
      exact h5 hx2
    go_ret
    refine ⟨.mk kk n sub, [], [], _, _, rfl, h5, rfl, ?_, by simp only [TmCs], ((Below.refl _ _).alloc (Nat.le_refl _) _).alloc (by simp) _⟩
    have h := World.ownsRow_made (base := w.heap.size) (e := 24) (size := 3) (w.alloc (.cells #[.int .i64 kk, .int .i64 n, .slice a sub.length cap] 24)) #[] 0 (by simp) (Nat.zero_le _) rfl
    simp at h
    exact h
end Go.Proofs.Ytackepdhcigdlaa
