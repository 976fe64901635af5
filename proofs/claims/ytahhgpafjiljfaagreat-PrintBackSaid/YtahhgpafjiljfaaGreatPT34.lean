import Derived.Test.YtahhgpafjiljfaaGreatPT32
import Derived.Test.YtahhgpafjiljfaaGreatPT13
set_option linter.unusedSimpArgs false
set_option linter.unusedVariables false
set_option maxHeartbeats 16000000
set_option maxRecDepth 100000
namespace Go.Proofs.YtahhgpafjiljfaaGreat
open Go.RowKit
theorem ret_vb {v : Value} {a b : Bool} (h : a = b) : Ending.returned (.tuple #[v, .bool a]) = .returned (.tuple #[v, .bool b]) := by rw [h]
end Go.Proofs.YtahhgpafjiljfaaGreat
