import Derived.Test.YtackepdhcigdlaaTm13
namespace Go.Proofs.Ytackepdhcigdlaa
open Go.RowKit
def awT : Tm := .mk 4 0 [.mk 2 0 [], .mk 5 0 [.mk 1 1 [], .mk 1 0 []]]
theorem aw_vals : shapedB awT = true ∧ looseT awT = 1 ∧ sizeT awT = 5 ∧ hasT awT 0 = true := by decide +kernel
theorem agg3 (a b c : Value) : (#[a, b, c] : Array Value) = [a, b, c].toArray := rfl
set_option maxRecDepth 100000 in
set_option maxHeartbeats 1000000 in
theorem awake_any (w : World) : Calls Try.prog 16 #[] w fun e w' => e = .returned (.bool true) ∧ Below w.heap.size w w' := by
  obtain ⟨v1, v2, v3, v4⟩ := aw_vals
  go_enter Try.func16, Try.ntmps16
  go_wp2_with fail
  refine (sort_any _ _).mono ?_
  rintro e w1 ⟨rfl, hb1⟩
  go_wp2_with fail
  refine (var_any _ _).mono ?_
  rintro e w2 ⟨rfl, hb2⟩
  go_wp2_with fail
  refine (var_any _ _).mono ?_
  rintro e w3 ⟨rfl, hb3⟩
  go_wp2_with fail
  refine (app_any (.mk 1 1 []) (.mk 1 0 []) _ _ _ (leaf_tm 1 1 _) (leaf_tm 1 0 _)).mono ?_
  rintro e w4 ⟨s4, rfl, ht4, hb4⟩
  go_wp2_with fail
  refine (lam_any (.mk 2 0 []) (.mk 5 0 [.mk 1 1 [], .mk 1 0 []]) _ _ _ (leaf_tm 2 0 _) ht4).mono ?_
  rintro e w5 ⟨s5, rfl, ht5, hb5⟩
  have hw : Below w.heap.size w w5 := hb1.trans ((hb2.trans ((hb3.trans ((hb4.trans (hb5.mono hb4.size)).mono hb3.size)).mono hb2.size)).mono hb1.size)
  obtain ⟨a5, c5, hs5, hh5, hl5⟩ := tm_open ht5
  simp only [List.cons.injEq, and_true] at hs5
  obtain ⟨_, _, rfl⟩ := hs5
  simp only [Tm.sub] at *
  have ht : TmC w5 awT [.int .i64 4, .int .i64 0, .slice a5 2 c5] := ht5
  clear ht5 hh5 hl5 ht4 hb1 hb2 hb3 hb4 hb5
  go_wp2_with fail
  have hd : Below w5.heap.size w5 (w5.alloc (.cells #[.int .i64 4, .int .i64 0, .slice a5 2 c5] 24)) := (Below.refl _ _).alloc (Nat.le_refl _) _
  have fits : ∀ w', Below (w5.heap.size + 1) (w5.alloc (.cells #[.int .i64 4, .int .i64 0, .slice a5 2 c5] 24)) w' → TmC w' awT [.int .i64 4, .int .i64 0, .slice a5 2 c5] := fun w' h => ht.later (hd.trans (h.mono (by omega)))
  have hb0 : Below (w5.heap.size + 1) (w5.alloc (.cells #[.int .i64 4, .int .i64 0, .slice a5 2 c5] 24)) (w5.alloc (.cells #[.int .i64 4, .int .i64 0, .slice a5 2 c5] 24)) := Below.refl _ _
  have F := Lib.hid fits
  clear fits
  refine (shaped_any awT _ _ (F.out _ hb0)).mono ?_
  rintro e w6 ⟨rfl, h6⟩
  have hb6 := hb0.trans (h6.mono (by simp))
  obtain ⟨c0, c1, c2⟩ := box_cells hb6
  go_wp2_with fail
  refine (loose0_any awT _ _ (F.out _ hb6)).mono ?_
  rintro e w7 ⟨rfl, h7⟩
  have hb7 := hb6.trans (h7.mono (by have := hb6.size; simpa using this))
  clear c0 c1 c2
  obtain ⟨c0, c1, c2⟩ := box_cells hb7
  go_wp2_with fail
  refine (size0_any awT _ _ (F.out _ hb7)).mono ?_
  rintro e w8 ⟨rfl, h8⟩
  have hb8 := hb7.trans (h8.mono (by have := hb7.size; simpa using this))
  clear c0 c1 c2
  obtain ⟨c0, c1, c2⟩ := box_cells hb8
  go_wp2_with fail
  refine (has0_any awT _ 0 _ (F.out _ hb8)).mono ?_
  rintro e w9 ⟨rfl, h9⟩
  have hb9 := hb8.trans (h9.mono (by have := hb8.size; simpa using this))
  go_wp2_with fail
  go_ret
  exact ⟨rfl, hw.trans ((hd.trans (hb9.mono (by omega))).mono hw.size)⟩
theorem eqT_comm (a b : Tm) : eqT a b = eqT b a := by
  rw [Bool.eq_iff_iff, eqT_iff, eqT_iff]; exact eq_comm
theorem sameB_comm (a b : Tm) : sameB a b = sameB b a := by
  unfold sameB; rw [eqT_comm a b, Bool.and_comm (shapedB a)]
set_option maxRecDepth 100000 in
set_option maxHeartbeats 1000000 in
theorem sames_walk (t u : Tm) (cs ds : List Value) (w : World) (ht0 : TmC w t cs) (hu0 : TmC w u ds) :
    Calls Try.prog 5 #[.agg cs.toArray, .agg ds.toArray] w fun e w' => e = .returned (.bool true) ∧ Below w.heap.size w w' := by
  obtain ⟨a, cap, rfl, hsub, hlen⟩ := tm_open ht0
  obtain ⟨a2, cap2, rfl, hsub2, hlen2⟩ := tm_open hu0
  clear hsub hsub2
  have hd1 : Below w.heap.size w (w.alloc (.cells #[.int .i64 t.kind, .int .i64 t.num, .slice a t.sub.length cap] 24)) := (Below.refl _ _).alloc (Nat.le_refl _) _
  have hd : Below w.heap.size w ((w.alloc (.cells #[.int .i64 t.kind, .int .i64 t.num, .slice a t.sub.length cap] 24)).alloc (.cells #[.int .i64 u.kind, .int .i64 u.num, .slice a2 u.sub.length cap2] 24)) := hd1.alloc (by simp) _
  have BX : Hid (∀ w', Below (w.heap.size + 2) ((w.alloc (.cells #[.int .i64 t.kind, .int .i64 t.num, .slice a t.sub.length cap] 24)).alloc (.cells #[.int .i64 u.kind, .int .i64 u.num, .slice a2 u.sub.length cap2] 24)) w' →
      (w'.cell? ⟨w.heap.size, 0, none⟩ = some (.int .i64 t.kind) ∧ w'.cell? ⟨w.heap.size, 1, none⟩ = some (.int .i64 t.num) ∧ w'.cell? ⟨w.heap.size, 2, none⟩ = some (.slice a t.sub.length cap)) ∧
      (w'.cell? ⟨w.heap.size + 1, 0, none⟩ = some (.int .i64 u.kind) ∧ w'.cell? ⟨w.heap.size + 1, 1, none⟩ = some (.int .i64 u.num) ∧ w'.cell? ⟨w.heap.size + 1, 2, none⟩ = some (.slice a2 u.sub.length cap2)) ∧
      TmC w' t [.int .i64 t.kind, .int .i64 t.num, .slice a t.sub.length cap] ∧ TmC w' u [.int .i64 u.kind, .int .i64 u.num, .slice a2 u.sub.length cap2]) := by
    intro w' hb
    refine ⟨⟨(hb.cell (by simp)).trans (by simp), (hb.cell (by simp)).trans (by simp), (hb.cell (by simp)).trans (by simp)⟩, ⟨(hb.cell (by simp)).trans (by simp), (hb.cell (by simp)).trans (by simp), (hb.cell (by simp)).trans (by simp)⟩, ht0.later (hd.trans (hb.mono (by omega))), hu0.later (hd.trans (hb.mono (by omega)))⟩
  have hb0 := Below.refl (w.heap.size + 2) ((w.alloc (.cells #[.int .i64 t.kind, .int .i64 t.num, .slice a t.sub.length cap] 24)).alloc (.cells #[.int .i64 u.kind, .int .i64 u.num, .slice a2 u.sub.length cap2] 24))
  clear ht0 hu0
  by_cases h1 : shapedB t = true
  · by_cases h2 : shapedB u = true
    · have hs1 : sameB t u = eqT t u := by unfold sameB; rw [h1, h2]; rfl
      have hs2 : sameB u t = eqT t u := by rw [← sameB_comm, hs1]
      go_enter Try.func5, Try.ntmps5
      go_wp2_with fail
      refine (rshaped_any t _ _ (BX.out _ hb0).2.2.1).mono ?_
      rintro e w1 ⟨rfl, r1⟩
      have b1 := hb0.trans (r1.mono (by simp))
      obtain ⟨⟨c0, c1, c2⟩, ⟨d0, d1, d2⟩, -, htu⟩ := BX.out _ b1
      clear r1
      go_wp2_with fail
      refine (rshaped_any u _ _ htu).mono ?_
      rintro e w2 ⟨rfl, r2⟩
      have b2 := b1.trans (r2.mono (by have := b1.size; simpa using this))
      clear c0 c1 c2 d0 d1 d2 htu r2
      obtain ⟨⟨c0, c1, c2⟩, ⟨d0, d1, d2⟩, htt, htu⟩ := BX.out _ b2
      go_wp2_with fail
      refine (requal_any t u _ _ _ htt htu).mono ?_
      rintro e w3 ⟨rfl, r3⟩
      have b3 := b2.trans (r3.mono (by have := b2.size; simpa using this))
      clear c0 c1 c2 d0 d1 d2 htu htt r3
      obtain ⟨⟨c0, c1, c2⟩, ⟨d0, d1, d2⟩, htt, htu⟩ := BX.out _ b3
      go_wp2_with fail
      refine (same_any t u _ _ _ htt htu).mono ?_
      rintro e w4 ⟨rfl, r4⟩
      have b4 := b3.trans (r4.mono (by have := b3.size; simpa using this))
      clear c0 c1 c2 d0 d1 d2 htu htt r4
      obtain ⟨⟨c0, c1, c2⟩, ⟨d0, d1, d2⟩, htt, htu⟩ := BX.out _ b4
      go_wp2_with fail
      refine (same_any u t _ _ _ htu htt).mono ?_
      rintro e w5 ⟨rfl, r5⟩
      have b5 := b4.trans (r5.mono (by have := b4.size; simpa using this))
      clear c0 c1 c2 d0 d1 d2 htu htt r5
      go_wp2_with (go_at_call 16; refine (awake_any _).mono ?_; rintro e w6 ⟨rfl, r6⟩)
      go_ret
      exact ⟨rfl, hd.trans ((b5.trans (r6.mono (by have := b5.size; simpa using this))).mono (by omega))⟩
    · have h2' : shapedB u = false := by simpa using h2
      have hs1 : sameB t u = false := by unfold sameB; rw [h2']; simp
      have hs2 : sameB u t = false := by rw [← sameB_comm, hs1]
      clear h2
      go_enter Try.func5, Try.ntmps5
      go_wp2_with fail
      refine (rshaped_any t _ _ (BX.out _ hb0).2.2.1).mono ?_
      rintro e w1 ⟨rfl, r1⟩
      have b1 := hb0.trans (r1.mono (by simp))
      obtain ⟨⟨c0, c1, c2⟩, ⟨d0, d1, d2⟩, -, htu⟩ := BX.out _ b1
      clear r1
      go_wp2_with fail
      refine (rshaped_any u _ _ htu).mono ?_
      rintro e w2 ⟨rfl, r2⟩
      have b2 := b1.trans (r2.mono (by have := b1.size; simpa using this))
      clear c0 c1 c2 d0 d1 d2 htu r2
      obtain ⟨⟨c0, c1, c2⟩, ⟨d0, d1, d2⟩, htt, htu⟩ := BX.out _ b2
      go_wp2_with fail
      refine (same_any t u _ _ _ htt htu).mono ?_
      rintro e w4 ⟨rfl, r4⟩
      have b4 := b2.trans (r4.mono (by have := b2.size; simpa using this))
      clear c0 c1 c2 d0 d1 d2 htu htt r4
      obtain ⟨⟨c0, c1, c2⟩, ⟨d0, d1, d2⟩, htt, htu⟩ := BX.out _ b4
      go_wp2_with fail
      refine (same_any u t _ _ _ htu htt).mono ?_
      rintro e w5 ⟨rfl, r5⟩
      have b5 := b4.trans (r5.mono (by have := b4.size; simpa using this))
      clear c0 c1 c2 d0 d1 d2 htu htt r5
      go_wp2_with (go_at_call 16; refine (awake_any _).mono ?_; rintro e w6 ⟨rfl, r6⟩)
      go_ret
      exact ⟨rfl, hd.trans ((b5.trans (r6.mono (by have := b5.size; simpa using this))).mono (by omega))⟩
  · have h1' : shapedB t = false := by simpa using h1
    have hs1 : sameB t u = false := by unfold sameB; rw [h1']; simp
    have hs2 : sameB u t = false := by rw [← sameB_comm, hs1]
    clear h1
    go_enter Try.func5, Try.ntmps5
    go_wp2_with fail
    refine (rshaped_any t _ _ (BX.out _ hb0).2.2.1).mono ?_
    rintro e w1 ⟨rfl, r1⟩
    have b2 := hb0.trans (r1.mono (by simp))
    obtain ⟨⟨c0, c1, c2⟩, ⟨d0, d1, d2⟩, htt, htu⟩ := BX.out _ b2
    clear r1
    go_wp2_with fail
    refine (same_any t u _ _ _ htt htu).mono ?_
    rintro e w4 ⟨rfl, r4⟩
    have b4 := b2.trans (r4.mono (by have := b2.size; simpa using this))
    clear c0 c1 c2 d0 d1 d2 htu htt r4
    obtain ⟨⟨c0, c1, c2⟩, ⟨d0, d1, d2⟩, htt, htu⟩ := BX.out _ b4
    go_wp2_with fail
    refine (same_any u t _ _ _ htu htt).mono ?_
    rintro e w5 ⟨rfl, r5⟩
    have b5 := b4.trans (r5.mono (by have := b4.size; simpa using this))
    clear c0 c1 c2 d0 d1 d2 htu htt r5
    go_wp2_with (go_at_call 16; refine (awake_any _).mono ?_; rintro e w6 ⟨rfl, r6⟩)
    go_ret
    exact ⟨rfl, hd.trans ((b5.trans (r6.mono (by have := b5.size; simpa using this))).mono (by omega))⟩
end Go.Proofs.Ytackepdhcigdlaa
