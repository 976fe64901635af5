import Derived.Test.YtdklpbefbamchaaGreatBNd
import Derived.Test.YtdklpbefbamchaaGreatRows
import Derived.StillTailTactics
import Derived.BigQuiet
import Derived.Test.YtdklpbefbamchaaGreatBN
set_option linter.unusedSimpArgs false
set_option linter.unusedVariables false
set_option maxHeartbeats 16000000
set_option maxRecDepth 100000
namespace Go.Proofs.YtdklpbefbamchaaGreat
open Go.RowKit
def arT (k : Int) : Int := if k < 1 ∨ 10 < k then -2 else if k = 3 ∨ k = 4 ∨ k = 5 then 2 else if k = 8 then -1 else if k = 10 then 1 else 0
theorem kinds (k : Int) (h : 1 ≤ k ∧ k ≤ 10) : (k = 1 ∧ arT k = 0) ∨ (k = 2 ∧ arT k = 0) ∨ (k = 3 ∧ arT k = 2) ∨ (k = 4 ∧ arT k = 2) ∨ (k = 5 ∧ arT k = 2) ∨ (k = 6 ∧ arT k = 0) ∨ (k = 7 ∧ arT k = 0) ∨ (k = 8 ∧ arT k = -1) ∨ (k = 9 ∧ arT k = 0) ∨ (k = 10 ∧ arT k = 1) := by
 obtain rfl | rfl | rfl | rfl | rfl | rfl | rfl | rfl | rfl | rfl : k = 1 ∨ k = 2 ∨ k = 3 ∨ k = 4 ∨ k = 5 ∨ k = 6 ∨ k = 7 ∨ k = 8 ∨ k = 9 ∨ k = 10 := by omega
 all_goals decide
end Go.Proofs.YtdklpbefbamchaaGreat
