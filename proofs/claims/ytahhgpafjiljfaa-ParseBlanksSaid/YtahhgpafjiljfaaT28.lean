import Derived.Test.YtahhgpafjiljfaaT27
namespace Go.Proofs.Ytahhgpafjiljfaa
open Go.RowKit
end Go.Proofs.Ytahhgpafjiljfaa
