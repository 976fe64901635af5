import Derived.Test.YtahhgpafjiljfaaBD
import Derived.Test.YtahhgpafjiljfaaBNd
namespace Go.Proofs.Ytahhgpafjiljfaa
open Go.RowKit
end Go.Proofs.Ytahhgpafjiljfaa
