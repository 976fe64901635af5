import Derived.Test.YtkdcjbgmodfmdaaUtf6
namespace Go.Proofs.Ytkdcjbgmodfmdaa
open Go.RowKit
theorem awake_vals : nextN ⟨#[206, 187]⟩ 0 = 955 ∧ nextW ⟨#[206, 187]⟩ 0 = 2 ∧ nextE ⟨#[206, 187]⟩ 0 = 0 ∧ right 955 = true := by decide +kernel
set_option maxHeartbeats 400000 in
theorem awake_any (w : World) : Calls Try.prog 11 #[] w fun e w' => e = .returned (.bool true) ∧ w = w' := by
  obtain ⟨h1, h2, h3, h4⟩ := awake_vals
  go_enter Try.func11, Try.ntmps11
  go_wp2_with (first | (go_at_call 9; refine (next_any _ (by decide) _ _).mono ?_; rintro e w' ⟨rfl, rfl⟩) | (go_at_call 14; refine (right_any _ _).mono ?_; rintro e w' ⟨rfl, rfl⟩))
  go_ret
  exact ⟨rfl, rfl⟩
set_option maxRecDepth 100000 in
set_option maxHeartbeats 400000 in
theorem nexts_walk (s : ByteArray) (i : Int) (hs : s.size ≤ maxLen) (_wi : (Lit.int .i64 i).wf = true) (w : World) :
    Calls Try.prog 3 #[.string s, .int .i64 i] w fun e w' => e = .returned (.bool true) ∧ Below w.heap.size w w' := by
  cases hd : decAt s i with
  | none =>
    have h1 : nextN s i = 0 := by simp only [nextN, hd]
    have h2 : nextW s i = 0 := by simp only [nextW, hd]
    have h3 : nextE s i = 1 := by simp only [nextE, hd]
    have h4 : nextOk s i = false := by simp only [nextOk, hd]; rfl
    clear hd
    go_enter Try.func3, Try.ntmps3
    go_wp2_with (first | (go_at_call 9; refine (next_any s hs i _).mono ?_; rintro e w' ⟨rfl, rfl⟩) | (go_at_call 10; refine (rnext_any s hs i _).mono ?_; rintro e w' ⟨rfl, hb⟩) | (go_at_call 11; refine (awake_any _).mono ?_; rintro e w' ⟨rfl, rfl⟩))
    go_ret
    exact ⟨rfl, hb⟩
  | some x =>
    have h3 : nextE s i = 0 := by simp only [nextE, hd]
    have h4 : nextOk s i = true := by simp only [nextOk, hd]; rfl
    clear hd
    go_enter Try.func3, Try.ntmps3
    go_wp2_with (first | (go_at_call 9; refine (next_any s hs i _).mono ?_; rintro e w' ⟨rfl, rfl⟩) | (go_at_call 10; refine (rnext_any s hs i _).mono ?_; rintro e w' ⟨rfl, hb⟩) | (go_at_call 11; refine (awake_any _).mono ?_; rintro e w' ⟨rfl, rfl⟩))
    go_ret
    exact ⟨rfl, hb⟩
set_option maxRecDepth 100000 in
set_option maxHeartbeats 400000 in
theorem puts_walk (n : Int) (_wn : (Lit.int .i64 n).wf = true) (w : World) :
    Calls Try.prog 4 #[.int .i64 n] w fun e w' => e = .returned (.bool true) ∧ Below w.heap.size w w' := by
  by_cases hr : right n = true
  · have h1 : putS n = enc n := if_pos hr
    have h2 : putE n = 0 := if_pos hr
    go_enter Try.func4, Try.ntmps4
    go_wp2_with (first | (go_at_call 12; refine (put_any n _).mono ?_; rintro e w' ⟨rfl, hb⟩) | (go_at_call 13; refine (rright_any _ _).mono ?_; rintro e w' ⟨rfl, rfl⟩)| (go_at_call 14; refine (right_any _ _).mono ?_; rintro e w' ⟨rfl, rfl⟩) | (go_at_call 15; refine (rput_any n hr _).mono ?_; rintro e w' ⟨rfl, hb2⟩) | (go_at_call 11; refine (awake_any _).mono ?_; rintro e w' ⟨rfl, rfl⟩))
    go_ret
    exact ⟨rfl, hb.trans (hb2.mono hb.size)⟩
  · have h1 : putS n = ByteArray.empty := if_neg hr
    have h2 : putE n = 16 := if_neg hr
    have h3 : right n = false := by simpa using hr
    clear hr
    go_enter Try.func4, Try.ntmps4
    go_wp2_with (first | (go_at_call 12; refine (put_any n _).mono ?_; rintro e w' ⟨rfl, hb⟩) | (go_at_call 13; refine (rright_any _ _).mono ?_; rintro e w' ⟨rfl, rfl⟩)| (go_at_call 14; refine (right_any _ _).mono ?_; rintro e w' ⟨rfl, rfl⟩) | (go_at_call 11; refine (awake_any _).mono ?_; rintro e w' ⟨rfl, rfl⟩))
    go_ret
    exact ⟨rfl, hb⟩
end Go.Proofs.Ytkdcjbgmodfmdaa
