import Derived.Test.YtahhgpafjiljfaaOBA2
import Derived.Test.YtahhgpafjiljfaaOTab
import Derived.Test.YtahhgpafjiljfaaOT27
import Derived.Test.YtahhgpafjiljfaaOT8
import Derived.Test.YtahhgpafjiljfaaOQ0
import Derived.Test.YtahhgpafjiljfaaOBD
import Derived.Test.YtahhgpafjiljfaaOBNd
import Derived.Deep.RegionHeld3
set_option linter.unusedSimpArgs false
set_option linter.unusedVariables false
set_option maxHeartbeats 16000000
set_option maxRecDepth 100000
namespace Go.Proofs.Ytahhgpafjiljfaa
open Go.RowKit
theorem agg_nd {K : Kp} {w : World} {t : Nd} {v : Value} (h : RelV K w (aggD t) v) : ∃ cs : List Value, v = .agg cs.toArray ∧ NdC w t cs := by
 obtain ⟨cs, e, h⟩ := rep_rel h
 exact ⟨cs, e, Rep.toC _ _ h⟩
end Go.Proofs.Ytahhgpafjiljfaa
