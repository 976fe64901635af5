import Derived.Test.YtahhgpafjiljfaaGreatPT5
import Derived.Deep.RegionHeld3
set_option linter.unusedSimpArgs false
set_option linter.unusedVariables false
set_option maxHeartbeats 16000000
set_option maxRecDepth 100000
namespace Go.Proofs.YtahhgpafjiljfaaGreat
open Go.RowKit
theorem Qjq (k a n : Int) (s : ByteArray) (sub : List Nd) (p : Bool) : Qaj (.mk k a s n sub) p = (decide (1 ≤ k ∧ k ≤ 10) && Qdt k sub.length && Qgh k s && numB k n && (decide (6 ≤ k) == p) && Qex sub (k == 8)) := by
 simp only [Qaj, Qfy, Nd.kind, Nd.name, Nd.num, Nd.sub]; rfl
end Go.Proofs.YtahhgpafjiljfaaGreat
