import Derived.Test.YtapbjjjlilfmdaaN10
namespace Go.Proofs.Ytapbjjjlilfmdaa
open Go.RowKit Go.WideMaps
set_option maxHeartbeats 1000000 in
theorem rights_walk (s : ByteArray) (hs : s.size ≤ maxLen) (w : World) : Calls Try.prog 3 #[.string s] w fun e w' => e = .returned (.bool true) ∧ Below w.heap.size w w' := by
  go_enter Try.func3, Try.ntmps3
  go_wp2_with fail
  refine (right_name s hs w).mono ?_
  rintro e w1 ⟨rfl, hb1⟩
  go_wp2_with fail
  refine (rright_name s hs w1).mono ?_
  rintro e w2 ⟨rfl, hb2⟩
  have hw2 := Lib.hid (hb1.trans (hb2.mono hb1.size))
  clear hb1 hb2
  go_wp2_with (first | (go_at_call 13; refine (keyword_any s _).mono ?_; rintro e w3 ⟨rfl, rfl⟩) | (go_at_call 14; refine (rkeyword_any s _).mono ?_; rintro e w4 ⟨rfl, rfl⟩) | (go_at_call 15; refine (awake_any _).mono ?_; rintro e w5 ⟨rfl, hb5⟩))
  go_ret
  exact ⟨rfl, hw2.out.trans (hb5.mono hw2.out.size)⟩
/-- of how many kinds a number is -/
def manyN (n : Int) (k : Nat) : Nat := (([blankB n, digitB n, markB n, letterB n].take k).filter id).length
theorem manyN_le (n : Int) : manyN n 4 ≤ 1 := by
  unfold manyN
  have h1 : blankB n = true → digitB n = false ∧ markB n = false ∧ letterB n = false := by
    intro h
    have := of_decide_eq_true h
    refine ⟨decide_eq_false (by omega), decide_eq_false (by omega), decide_eq_false (by omega)⟩
  have h2 : digitB n = true → markB n = false ∧ letterB n = false := by
    intro h
    have := of_decide_eq_true h
    refine ⟨decide_eq_false (by omega), decide_eq_false (by omega)⟩
  have h3 : markB n = true → letterB n = false := by
    intro h
    have h' := of_decide_eq_true h
    refine decide_eq_false ?_
    rintro (h0 | h0 | ⟨_, _, h0, _⟩)
    · omega
    · omega
    · rw [h] at h0; cases h0
  cases hb : blankB n with
  | true => obtain ⟨e1, e2, e3⟩ := h1 hb; rw [e1, e2, e3]; simp
  | false =>
    cases hd : digitB n with
    | true => obtain ⟨e2, e3⟩ := h2 hd; rw [e2, e3]; simp
    | false =>
      cases hm : markB n with
      | true => rw [h3 hm]; simp
      | false => cases letterB n <;> simp
theorem manyN_step (n : Int) : manyN n 0 = 0 ∧ manyN n 1 = (if blankB n then 1 else 0) ∧ manyN n 2 = manyN n 1 + (if digitB n then 1 else 0) ∧ manyN n 3 = manyN n 2 + (if markB n then 1 else 0) ∧ manyN n 4 = manyN n 3 + (if letterB n then 1 else 0) := by
  unfold manyN
  cases blankB n <;> cases digitB n <;> cases markB n <;> cases letterB n <;> exact ⟨rfl, rfl, rfl, rfl, rfl⟩
set_option maxRecDepth 100000 in
set_option maxHeartbeats 4000000 in
theorem kinds_walk (n : Int) (_wn : (Lit.int .i64 n).wf = true) (w : World) : Calls Try.prog 7 #[.int .i64 n] w fun e w' => e = .returned (.bool true) ∧ Below w.heap.size w w' := by
  obtain ⟨M0, M1, M2, M3, M4⟩ := manyN_step n
  have HM0 := Lib.hid M0
  have HM1 := Lib.hid M1
  have HM2 := Lib.hid M2
  have HM3 := Lib.hid M3
  have HM4 := Lib.hid M4
  have HLE := Lib.hid (manyN_le n)
  clear M0 M1 M2 M3 M4 _wn
  go_enter Try.func7, Try.ntmps7
  go_wp2_with fail
  go_loopw [3, 4] (fun m i wr => ∃ (k c : Nat), k ≤ 4 ∧ i = .int .i64 k ∧ m = .int .i64 c ∧ Hid (c = manyN n k) ∧ w = wr) (fun _ i _ => 4 - (intOf i).toNat)
  case atStart => exact ⟨0, 0, by omega, rfl, rfl, HM0.out.symm, rfl⟩
  case round =>
    obtain ⟨k, c, hk, rfl, rfl, hc, rfl⟩ := hrel
    have hcb : c ≤ 4 := by
      have := hc.out
      unfold manyN at this
      have h2 := List.length_filter_le id ([blankB n, digitB n, markB n, letterB n].take k)
      rw [List.length_take] at h2
      simp at h2
      omega
    by_cases hlt : k < 4
    · have hk4 : k = 0 ∨ k = 1 ∨ k = 2 ∨ k = 3 := by omega
      rcases hk4 with rfl | rfl | rfl | rfl
      · cases hb : blankB n with
        | true =>
          have HB := Lib.hid hb
          have G : Hid (c + 1 = manyN n (0 + 1)) := by show _ = _; rw [hc.out, HM0.out, HM1.out, HB.out]; rfl
          clear hb
          go_wp2_with (go_at_call 19; refine (blank_any n _).mono ?_; rw [HB.out]; rintro e w2 ⟨rfl, rfl⟩)
          go_roundw
          case rel => exact ⟨1, c + 1, by omega, rfl, by simp, G.out, trivial⟩
          case measure => simp [intOf]
        | false =>
          have HB := Lib.hid hb
          have G : Hid (c = manyN n (0 + 1)) := by show _ = _; rw [hc.out, HM0.out, HM1.out, HB.out]; rfl
          clear hb
          go_wp2_with (go_at_call 19; refine (blank_any n _).mono ?_; rw [HB.out]; rintro e w2 ⟨rfl, rfl⟩)
          go_roundw
          case rel => exact ⟨1, c, by omega, rfl, by simp, G.out, trivial⟩
          case measure => simp [intOf]
      · cases hb : digitB n with
        | true =>
          have HB := Lib.hid hb
          have G : Hid (c + 1 = manyN n (1 + 1)) := by show _ = _; rw [hc.out, HM2.out, HB.out]; rfl
          clear hb
          go_wp2_with (go_at_call 20; refine (digit_any n _).mono ?_; rw [HB.out]; rintro e w2 ⟨rfl, rfl⟩)
          go_roundw
          case rel => exact ⟨2, c + 1, by omega, rfl, by simp, G.out, trivial⟩
          case measure => simp [intOf]
        | false =>
          have HB := Lib.hid hb
          have G : Hid (c = manyN n (1 + 1)) := by show _ = _; rw [hc.out, HM2.out, HB.out]; rfl
          clear hb
          go_wp2_with (go_at_call 20; refine (digit_any n _).mono ?_; rw [HB.out]; rintro e w2 ⟨rfl, rfl⟩)
          go_roundw
          case rel => exact ⟨2, c, by omega, rfl, by simp, G.out, trivial⟩
          case measure => simp [intOf]
      · cases hb : markB n with
        | true =>
          have HB := Lib.hid hb
          have G : Hid (c + 1 = manyN n (2 + 1)) := by show _ = _; rw [hc.out, HM3.out, HB.out]; rfl
          clear hb
          go_wp2_with (go_at_call 21; refine (mark_any n _).mono ?_; rw [HB.out]; rintro e w2 ⟨rfl, rfl⟩)
          go_roundw
          case rel => exact ⟨3, c + 1, by omega, rfl, by simp, G.out, trivial⟩
          case measure => simp [intOf]
        | false =>
          have HB := Lib.hid hb
          have G : Hid (c = manyN n (2 + 1)) := by show _ = _; rw [hc.out, HM3.out, HB.out]; rfl
          clear hb
          go_wp2_with (go_at_call 21; refine (mark_any n _).mono ?_; rw [HB.out]; rintro e w2 ⟨rfl, rfl⟩)
          go_roundw
          case rel => exact ⟨3, c, by omega, rfl, by simp, G.out, trivial⟩
          case measure => simp [intOf]
      · cases hb : letterB n with
        | true =>
          have HB := Lib.hid hb
          have G : Hid (c + 1 = manyN n (3 + 1)) := by show _ = _; rw [hc.out, HM4.out, HB.out]; rfl
          clear hb
          go_wp2_with (go_at_call 22; refine (letter_any n _).mono ?_; rw [HB.out]; rintro e w2 ⟨rfl, rfl⟩)
          go_roundw
          case rel => exact ⟨4, c + 1, by omega, rfl, by simp, G.out, trivial⟩
          case measure => simp [intOf]
        | false =>
          have HB := Lib.hid hb
          have G : Hid (c = manyN n (3 + 1)) := by show _ = _; rw [hc.out, HM4.out, HB.out]; rfl
          clear hb
          go_wp2_with (go_at_call 22; refine (letter_any n _).mono ?_; rw [HB.out]; rintro e w2 ⟨rfl, rfl⟩)
          go_roundw
          case rel => exact ⟨4, c, by omega, rfl, by simp, G.out, trivial⟩
          case measure => simp [intOf]
    · obtain rfl : k = 4 := by omega
      have hc1 : decide ((c : Int) ≤ 1) = true := by have := hc.out; have := HLE.out; simp; omega
      have hc2 : (c : Int) ≤ 1 := of_decide_eq_true hc1
      clear hcb
      cases hb : blankB n with
      | true =>
        have HB := Lib.hid hb
        have hv := of_decide_eq_true hb
        clear hb hc HLE HM0 HM1 HM2 HM3 HM4
        rcases hv with rfl | rfl | rfl | rfl
        all_goals
          go_wp2_with (first | (go_at_call 19; refine (blank_any _ _).mono ?_; rw [HB.out]; rintro e w2 ⟨rfl, rfl⟩) | (go_at_call 20; refine (digit_any _ _).mono ?_; rintro e w3 ⟨rfl, rfl⟩) | (go_at_call 23; refine (rdigit_any _ _).mono ?_; rintro e w4 ⟨rfl, rfl⟩) | (go_at_call 21; refine (mark_any _ _).mono ?_; rintro e w5 ⟨rfl, rfl⟩) | (go_at_call 24; refine (rmark_any _ _).mono ?_; rintro e w6 ⟨rfl, hb6⟩) | (go_at_call 22; refine (letter_any _ _).mono ?_; rintro e w7 ⟨rfl, rfl⟩) | (go_at_call 25; refine (rletter_any _ _).mono ?_; rintro e w8 ⟨rfl, hb8⟩) | (go_at_call 15; refine (awake_any _).mono ?_; rintro e w9 ⟨rfl, hb9⟩))
          go_ret
          exact ⟨rfl, hb6.trans ((hb8.mono hb6.size).trans (hb9.mono (Nat.le_trans hb6.size hb8.size)))⟩
      | false =>
        have HB := Lib.hid hb
        have hv := of_decide_eq_false hb
        have n1 : (n == 9) = false := by rw [beq_eq_false_iff_ne]; omega
        have n2 : (n == 10) = false := by rw [beq_eq_false_iff_ne]; omega
        have n3 : (n == 13) = false := by rw [beq_eq_false_iff_ne]; omega
        have n4 : (n == 32) = false := by rw [beq_eq_false_iff_ne]; omega
        clear hb hc HLE HM0 HM1 HM2 HM3 HM4 hv
        go_wp2_with (first | (go_at_call 19; refine (blank_any _ _).mono ?_; rw [HB.out]; rintro e w2 ⟨rfl, rfl⟩) | (go_at_call 20; refine (digit_any _ _).mono ?_; rintro e w3 ⟨rfl, rfl⟩) | (go_at_call 23; refine (rdigit_any _ _).mono ?_; rintro e w4 ⟨rfl, rfl⟩) | (go_at_call 21; refine (mark_any _ _).mono ?_; rintro e w5 ⟨rfl, rfl⟩) | (go_at_call 24; refine (rmark_any _ _).mono ?_; rintro e w6 ⟨rfl, hb6⟩) | (go_at_call 22; refine (letter_any _ _).mono ?_; rintro e w7 ⟨rfl, rfl⟩) | (go_at_call 25; refine (rletter_any _ _).mono ?_; rintro e w8 ⟨rfl, hb8⟩) | (go_at_call 15; refine (awake_any _).mono ?_; rintro e w9 ⟨rfl, hb9⟩))
        go_ret
        exact ⟨rfl, hb6.trans ((hb8.mono hb6.size).trans (hb9.mono (Nat.le_trans hb6.size hb8.size)))⟩
end Go.Proofs.Ytapbjjjlilfmdaa
