import Derived.Test.YtapbjjjlilfmdaaUtf1
import Derived.Test.YtapbjjjlilfmdaaUtfB
import Derived.Handy
namespace Go.Proofs.Ytapbjjjlilfmdaa
open Go.RowKit
/-- the text of a block of bytes -/
theorem cv_bytes (l : List Int) (n : Nat) (hl : l.length = n) (w : World) : (convert 52 9 (.slice (some ⟨w.heap.size, 0, none⟩) n n)).run Try.prog (w.alloc (.cells (l.map (Value.int .u8)).toArray 5)) = .ok (.string (strOfNums l)) (w.alloc (.cells (l.map (Value.int .u8)).toArray 5)) := by
  refine run_convert_bytes_arg _ 52 5 Try.underlying52 Try.underlying5 _ 0 n n l hl ?_ 9 Try.underlying9
  intro i hi
  rw [World.cell?_alloc_new]
  simp [List.getElem?_eq_getElem (show i < l.length by omega)]
set_option maxRecDepth 100000 in
set_option maxHeartbeats 400000 in
theorem put1 (n : Int) (h0 : 0 ≤ n) (h1 : n < 128) (w : World) :
    Calls Try.prog 56 #[.int .i64 n] w fun e w' => e = .returned (.tuple #[.string (enc n), .int .i64 0]) ∧ Below w.heap.size w w' := by
  have hr : right n = true := by simp [right]; omega
  have hw : width n = 1 := by unfold width; repeat' split <;> omega
  have hcv := fun (w : World) (a : Int) => cv_bytes [a] 1 rfl w
  simp only [List.map] at hcv
  have fin := Lib.hid (show encL n = [n] by unfold encL; rw [if_pos (by omega)])
  go_enter Try.func56, Try.ntmps56
  go_wp2_with (first | (go_at_call 40; refine (right_any _ _).mono ?_; rintro e w' ⟨rfl, rfl⟩) | (go_at_call 54; refine (width_any _ _).mono ?_; rintro e w' ⟨rfl, rfl⟩))
  go_ret2
  refine ⟨ret_strerr ?_ rfl, (Below.refl _ _).alloc (Nat.le_refl _) _⟩
  rw [enc, fin.out]
set_option maxRecDepth 100000 in
set_option maxHeartbeats 400000 in
theorem put2 (n : Int) (h0 : 128 ≤ n) (h1 : n < 2048) (w : World) :
    Calls Try.prog 56 #[.int .i64 n] w fun e w' => e = .returned (.tuple #[.string (enc n), .int .i64 0]) ∧ Below w.heap.size w w' := by
  have hr : right n = true := by simp [right]; omega
  have hw : width n = 2 := by unfold width; repeat' split <;> omega
  have hmk : ∀ w : World, (Instr.makeSlice 52 (.int .i64 2) (.int .i64 2)).run Try.prog w = .ok (.slice (some ⟨w.heap.size, 0, none⟩) 2 2) (w.alloc (.cells #[.int .u8 0, .int .u8 0] 5)) := fun _ => by kernel_rfl
  have hcv := fun (w : World) (a b : Int) => cv_bytes [a, b] 2 rfl w
  simp only [List.map] at hcv
  have fin := Lib.hid (show encL n = [192 + n / 64, 128 + n % 64] by unfold encL; rw [if_neg (by omega), if_pos (by omega)])
  go_enter Try.func56, Try.ntmps56
  go_wp2_with (first | (go_at_call 40; refine (right_any _ _).mono ?_; rintro e w' ⟨rfl, rfl⟩) | (go_at_call 54; refine (width_any _ _).mono ?_; rintro e w' ⟨rfl, rfl⟩))
  go_rounds 2
  go_ret2
  refine ⟨ret_strerr ?_ rfl, (Below.refl _ _).alloc (Nat.le_refl _) _⟩
  rw [enc, fin.out, or128, lead2 _ (by omega) (by omega)]
set_option maxRecDepth 100000 in
set_option maxHeartbeats 400000 in
theorem put3 (n : Int) (h0 : 2048 ≤ n) (h1 : n < 65536) (hr : right n = true) (w : World) :
    Calls Try.prog 56 #[.int .i64 n] w fun e w' => e = .returned (.tuple #[.string (enc n), .int .i64 0]) ∧ Below w.heap.size w w' := by
  have hw : width n = 3 := by unfold width; repeat' split <;> omega
  have hmk : ∀ w : World, (Instr.makeSlice 52 (.int .i64 3) (.int .i64 3)).run Try.prog w = .ok (.slice (some ⟨w.heap.size, 0, none⟩) 3 3) (w.alloc (.cells #[.int .u8 0, .int .u8 0, .int .u8 0] 5)) := fun _ => by kernel_rfl
  have hcv := fun (w : World) (a b c : Int) => cv_bytes [a, b, c] 3 rfl w
  simp only [List.map] at hcv
  have fin := Lib.hid (show encL n = [224 + n / 64 / 64, 128 + n / 64 % 64, 128 + n % 64] by unfold encL; rw [if_neg (by omega), if_neg (by omega), if_pos (by omega)])
  go_enter Try.func56, Try.ntmps56
  go_wp2_with (first | (go_at_call 40; refine (right_any _ _).mono ?_; rintro e w' ⟨rfl, rfl⟩) | (go_at_call 54; refine (width_any _ _).mono ?_; rintro e w' ⟨rfl, rfl⟩))
  go_rounds 3
  go_ret2
  refine ⟨ret_strerr ?_ rfl, (Below.refl _ _).alloc (Nat.le_refl _) _⟩
  rw [enc, fin.out, or128, or128, lead3 _ (by omega) (by omega)]
set_option maxRecDepth 100000 in
set_option maxHeartbeats 400000 in
theorem put4 (n : Int) (h0 : 65536 ≤ n) (h1 : n ≤ 1114111) (w : World) :
    Calls Try.prog 56 #[.int .i64 n] w fun e w' => e = .returned (.tuple #[.string (enc n), .int .i64 0]) ∧ Below w.heap.size w w' := by
  have hr : right n = true := by simp [right]; omega
  have hw : width n = 4 := by unfold width; repeat' split <;> omega
  have hmk : ∀ w : World, (Instr.makeSlice 52 (.int .i64 4) (.int .i64 4)).run Try.prog w = .ok (.slice (some ⟨w.heap.size, 0, none⟩) 4 4) (w.alloc (.cells #[.int .u8 0, .int .u8 0, .int .u8 0, .int .u8 0] 5)) := fun _ => by kernel_rfl
  have hcv := fun (w : World) (a b c d : Int) => cv_bytes [a, b, c, d] 4 rfl w
  simp only [List.map] at hcv
  have fin := Lib.hid (show encL n = [240 + n / 64 / 64 / 64, 128 + n / 64 / 64 % 64, 128 + n / 64 % 64, 128 + n % 64] by unfold encL; rw [if_neg (by omega), if_neg (by omega), if_neg (by omega)])
  go_enter Try.func56, Try.ntmps56
  go_wp2_with (first | (go_at_call 40; refine (right_any _ _).mono ?_; rintro e w' ⟨rfl, rfl⟩) | (go_at_call 54; refine (width_any _ _).mono ?_; rintro e w' ⟨rfl, rfl⟩))
  go_rounds 4
  go_ret2
  refine ⟨ret_strerr ?_ rfl, (Below.refl _ _).alloc (Nat.le_refl _) _⟩
  rw [enc, fin.out, or128, or128, or128, lead4 _ (by omega) (by omega)]
set_option maxHeartbeats 400000 in
theorem put0 (n : Int) (hr : right n = false) (w : World) :
    Calls Try.prog 56 #[.int .i64 n] w fun e w' => e = .returned (.tuple #[.string ByteArray.empty, .int .i64 16]) ∧ Below w.heap.size w w' := by
  go_enter Try.func56, Try.ntmps56
  go_wp2_with (first | (go_at_call 40; refine (right_any _ _).mono ?_; rintro e w' ⟨rfl, rfl⟩))
  go_ret2
  exact ⟨rfl, Below.refl _ _⟩
/-- utf.Put -/
theorem put_any (n : Int) (w : World) :
    Calls Try.prog 56 #[.int .i64 n] w fun e w' => e = .returned (.tuple #[.string (putS n), .int .i64 (putE n)]) ∧ Below w.heap.size w w' := by
  by_cases hr : right n = true
  · have h : 0 ≤ n ∧ n ≤ 1114111 := by have := of_decide_eq_true hr; omega
    have e1 : putS n = enc n := if_pos hr
    have e2 : putE n = 0 := if_pos hr
    rw [e1, e2]
    by_cases h1 : n < 128
    · exact put1 n h.1 h1 w
    · by_cases h2 : n < 2048
      · exact put2 n (by omega) h2 w
      · by_cases h3 : n < 65536
        · exact put3 n (by omega) h3 hr w
        · exact put4 n (by omega) h.2 w
  · have e1 : putS n = ByteArray.empty := if_neg hr
    have e2 : putE n = 16 := if_neg hr
    rw [e1, e2]
    exact put0 n (by simpa using hr) w
end Go.Proofs.Ytapbjjjlilfmdaa
