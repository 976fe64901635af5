import Derived.Test.YtdklpbefbamchaaGreatPT3
import Derived.Test.YtdklpbefbamchaaGreatPT6
set_option linter.unusedSimpArgs false
set_option linter.unusedVariables false
set_option maxHeartbeats 16000000
set_option maxRecDepth 100000
namespace Go.Proofs.YtdklpbefbamchaaGreat
open Go.RowKit
def exprB (t : Nd) : Bool := smallB t && goodT t false
def patB (t : Nd) : Bool := smallB t && goodT t true
end Go.Proofs.YtdklpbefbamchaaGreat
