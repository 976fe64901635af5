import Derived.Test.YtahhgpafjiljfaaOT5
import Derived.Deep.RegionHeld3
set_option linter.unusedSimpArgs false
set_option linter.unusedVariables false
set_option maxHeartbeats 16000000
set_option maxRecDepth 100000
namespace Go.Proofs.Ytahhgpafjiljfaa
open Go.RowKit
theorem Qcs (k a n : Int) (s : ByteArray) (sub : List Nd) (p : Bool) : Qak (.mk k a s n sub) p = (decide (1 ≤ k ∧ k ≤ 10) && Qbs k sub.length && Qch k s && numB k n && (decide (6 ≤ k) == p) && Qbi sub (k == 8)) := by
 simp only [Qak, Qfn, Nd.kind, Nd.name, Nd.num, Nd.sub]; rfl
end Go.Proofs.Ytahhgpafjiljfaa
