import Derived.Test.YtahhgpafjiljfaaT25
namespace Go.Proofs.Ytahhgpafjiljfaa
open Go.RowKit
end Go.Proofs.Ytahhgpafjiljfaa
