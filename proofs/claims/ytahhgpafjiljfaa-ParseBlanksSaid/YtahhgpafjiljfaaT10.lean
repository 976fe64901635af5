import Derived.Test.YtahhgpafjiljfaaT9
import Derived.Test.YtahhgpafjiljfaaQ0
namespace Go.Proofs.Ytahhgpafjiljfaa
open Go.RowKit
end Go.Proofs.Ytahhgpafjiljfaa
