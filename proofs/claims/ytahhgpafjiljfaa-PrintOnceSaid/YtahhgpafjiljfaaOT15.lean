import Derived.Test.YtahhgpafjiljfaaOT8
import Derived.Test.YtahhgpafjiljfaaOQ0
import Derived.Test.YtahhgpafjiljfaaOBD
import Derived.Test.YtahhgpafjiljfaaOBNd
import Derived.Deep.RegionHeld3
set_option linter.unusedSimpArgs false
set_option linter.unusedVariables false
set_option maxHeartbeats 16000000
set_option maxRecDepth 100000
namespace Go.Proofs.Ytahhgpafjiljfaa
open Go.RowKit
theorem small_nd {t : Nd} (h : Qey t = true) : ndT t ≤ 8192 := by
 have h1 := of_decide_eq_true h
 unfold Qcn at h1
 have h2 := sz_nd t 0 (by omega) (by omega)
 by_cases hb : 8192 < sizeT t
 ·rw [if_pos hb] at h1; omega
 ·unfold sizeT at hb; omega
theorem patB_small {t : Nd} (h : patB t = true) : Qey t = true := by unfold patB at h; simp at h; exact h.1
end Go.Proofs.Ytahhgpafjiljfaa
