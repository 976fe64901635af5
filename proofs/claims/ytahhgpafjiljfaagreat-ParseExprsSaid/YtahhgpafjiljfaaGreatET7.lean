import Derived.Test.YtahhgpafjiljfaaGreatEBD
import Derived.Test.YtahhgpafjiljfaaGreatEBNd
import Derived.Test.YtahhgpafjiljfaaGreatET6
set_option linter.unusedSimpArgs false
set_option linter.unusedVariables false
set_option maxHeartbeats 16000000
set_option maxRecDepth 100000
namespace Go.Proofs.YtahhgpafjiljfaaGreat
open Go.RowKit
def exprB (t : Nd) : Bool := Qfq t && Qbu t false
def patB (t : Nd) : Bool := Qfq t && Qbu t true
end Go.Proofs.YtahhgpafjiljfaaGreat
