import Derived.Test.YtahhgpafjiljfaaT29
namespace Go.Proofs.Ytahhgpafjiljfaa
open Go.RowKit
end Go.Proofs.Ytahhgpafjiljfaa
