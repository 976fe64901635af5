import Derived.Test.YtffgfjnbgplckaaN1
namespace Go.Proofs.Ytffgfjnbgplckaa
open Go.RowKit
def kwB (s : ByteArray) : Bool := s.toList == [100, 97, 116, 97] || s.toList == [114, 101, 99, 111, 114, 100] || s.toList == [100, 101, 102] || s.toList == [83, 101, 116]
theorem keyword_any (s : ByteArray) (w : World) : Calls Try.prog 83 #[.string s] w fun e w' => e = .returned (.bool (kwB s)) ∧ w = w' := by
  go_enter Try.func83, Try.ntmps83
  go_wp2
  all_goals go_ret
  all_goals refine ⟨ret_bool ?_, rfl⟩
  all_goals (unfold kwB; simp_all)
theorem rkeyword_any (s : ByteArray) (w : World) : Calls Try.prog 87 #[.string s] w fun e w' => e = .returned (.bool (kwB s)) ∧ w = w' := by
  go_enter Try.func87, Try.ntmps87
  go_wp2
  all_goals go_ret
  all_goals refine ⟨ret_bool ?_, rfl⟩
  all_goals (unfold kwB; simp_all)
set_option maxHeartbeats 1000000 in
theorem inner_any (n : Int) (w : World) : Calls Try.prog 84 #[.int .i64 n] w fun e w' => e = .returned (.bool (innerB n)) ∧ w = w' := by
  go_enter Try.func84, Try.ntmps84
  go_wp2_with (first | (go_at_call 85; refine (letter_any _ _).mono ?_; rintro e w1 ⟨rfl, rfl⟩; cases hr : letterB n) | (go_at_call 98; refine (digit_any _ _).mono ?_; rintro e w2 ⟨rfl, rfl⟩; cases hm : digitB n))
  all_goals go_ret
  all_goals refine ⟨ret_bool ?_, rfl⟩
  all_goals (unfold innerB; simp [*])
end Go.Proofs.Ytffgfjnbgplckaa
