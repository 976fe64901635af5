import Derived.Test.YtahhgpafjiljfaaT8
namespace Go.Proofs.Ytahhgpafjiljfaa
open Go.RowKit
end Go.Proofs.Ytahhgpafjiljfaa
