import Derived.Test.YtffgfjnbgplckaaUtf1
import Derived.Test.YtffgfjnbgplckaaK1
namespace Go.Proofs.Ytffgfjnbgplckaa
open Go.RowKit
def blankB (n : Int) : Bool := decide (n = 9 ∨ n = 10 ∨ n = 13 ∨ n = 32)
def digitB (n : Int) : Bool := decide (48 ≤ n ∧ n ≤ 57)
def markL : List Int := [40, 41, 123, 125, 58, 61, 46, 44, 59, 124, 92, 955, 8594, 45, 62]
def markB (n : Int) : Bool := decide (n = 40 ∨ n = 41 ∨ n = 123 ∨ n = 125 ∨ n = 58 ∨ n = 61 ∨ n = 46 ∨ n = 44 ∨ n = 59 ∨ n = 124 ∨ n = 92 ∨ n = 955 ∨ n = 8594 ∨ n = 45 ∨ n = 62)
def letterB (n : Int) : Bool := decide ((97 ≤ n ∧ n ≤ 122) ∨ (65 ≤ n ∧ n ≤ 90) ∨ (128 ≤ n ∧ right n = true ∧ markB n = false ∧ n ≠ 160 ∧ (n < 8192 ∨ 8303 < n)))
def innerB (n : Int) : Bool := letterB n || digitB n || n == 95 || n == 39
theorem digit_any (n : Int) (w : World) : Calls Try.prog 98 #[.int .i64 n] w fun e w' => e = .returned (.bool (digitB n)) ∧ w = w' := by
  go_enter Try.func98, Try.ntmps98
  go_wp2
  all_goals go_ret
  all_goals refine ⟨ret_bool ?_, rfl⟩
  all_goals (unfold digitB; rw [Bool.eq_iff_iff]; simp; omega)
theorem rdigit_any (n : Int) (w : World) : Calls Try.prog 89 #[.int .i64 n] w fun e w' => e = .returned (.bool (digitB n)) ∧ w = w' := by
  go_enter Try.func89, Try.ntmps89
  go_wp2
  all_goals go_ret
  all_goals refine ⟨ret_bool ?_, rfl⟩
  all_goals (unfold digitB; rw [Bool.eq_iff_iff]; simp; omega)
set_option maxHeartbeats 2000000 in
theorem mark_any (n : Int) (w : World) : Calls Try.prog 100 #[.int .i64 n] w fun e w' => e = .returned (.bool (markB n)) ∧ w = w' := by
  go_enter Try.func100, Try.ntmps100
  go_wp2
  all_goals go_ret
  all_goals refine ⟨ret_bool ?_, rfl⟩
  all_goals (simp only [beq_iff_eq, beq_eq_false_iff_ne, ne_eq] at *; unfold markB; rw [Bool.eq_iff_iff]; simp; omega)
set_option maxHeartbeats 2000000 in
theorem letter_any (n : Int) (w : World) : Calls Try.prog 85 #[.int .i64 n] w fun e w' => e = .returned (.bool (letterB n)) ∧ w = w' := by
  go_enter Try.func85, Try.ntmps85
  go_wp2_with (first | (go_at_call 99; refine (right_any _ _).mono ?_; rintro e w1 ⟨rfl, rfl⟩; cases hr : right n) | (go_at_call 100; refine (mark_any _ _).mono ?_; rintro e w2 ⟨rfl, rfl⟩; cases hm : markB n))
  all_goals go_ret
  all_goals refine ⟨ret_bool ?_, rfl⟩
  all_goals (unfold letterB; (try rw [hr]); (try rw [hm]); rw [Bool.eq_iff_iff]; simp; omega)
end Go.Proofs.Ytffgfjnbgplckaa
