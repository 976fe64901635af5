import Derived.Test.YtdklpbefbamchaaGreatDBH
import Derived.Test.YtdklpbefbamchaaGreatPBE
set_option linter.unusedSimpArgs false
set_option linter.unusedVariables false
set_option maxHeartbeats 16000000
set_option maxRecDepth 100000
namespace Go.Proofs.YtdklpbefbamchaaGreat
open Go.RowKit
def f29 : Tm := .mk 8 9 []
def c29 : Tm := .mk 6 1 []
def t29 : Tm := .mk 5 0 [f29, c29]
theorem c29_sp : Qad c29 = true ∧ Qan c29 = c29 ∧ Qav c29 = [] := ⟨by decide +kernel, Qdh (by decide)⟩
end Go.Proofs.YtdklpbefbamchaaGreat
