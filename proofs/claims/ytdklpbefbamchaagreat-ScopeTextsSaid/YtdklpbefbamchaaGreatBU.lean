import Derived.Test.YtdklpbefbamchaaGreatBA3
import Derived.Test.YtdklpbefbamchaaGreatTab
import Derived.Test.YtdklpbefbamchaaGreatBD
import Derived.Test.YtdklpbefbamchaaGreatT8
import Derived.Test.YtdklpbefbamchaaGreatQ0
import Derived.Test.YtdklpbefbamchaaGreatBNd
import Derived.Deep.RegionHeld3
set_option linter.unusedSimpArgs false
set_option linter.unusedVariables false
set_option maxHeartbeats 16000000
set_option maxRecDepth 100000
namespace Go.Proofs.YtdklpbefbamchaaGreat
open Go.RowKit
theorem agg_nd {K : Kp} {w : World} {t : Nd} {v : Value} (h : RelV K w (aggD t) v) : ∃ cs : List Value, v = .agg cs.toArray ∧ NdC w t cs := by
 obtain ⟨cs, e, h⟩ := Qlr h
 exact ⟨cs, e, Rep.toC _ _ h⟩
end Go.Proofs.YtdklpbefbamchaaGreat
