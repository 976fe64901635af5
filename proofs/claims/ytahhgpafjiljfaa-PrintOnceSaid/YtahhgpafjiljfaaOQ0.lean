import Derived.Test.YtahhgpafjiljfaaOBK
import Derived.BigQuiet
set_option linter.unusedSimpArgs false
set_option linter.unusedVariables false
set_option maxHeartbeats 16000000
set_option maxRecDepth 100000
namespace Go.Proofs.Ytahhgpafjiljfaa
open Go.RowKit
structure Later (W : World) where
 w : World
 b : Below W.heap.size W w
instance (W : World) : Nonempty (Later W) := ⟨⟨W, Below.refl _ _⟩⟩
theorem Later.cell {W : World} {p : Addr} {v : Value} (h : W.cell? p = some v) : ∀ x : Later W, x.w.cell? p = some v := fun x => (x.b.cell (World.block_lt_of_cell? W p h)).trans h
theorem Calls.later {P : Program} {W : World} {f : FuncId} {args : Array Value} {v : Value} (x : Later W) (h : Calls P f args x.w fun e w' => e = .returned v ∧ Below x.w.heap.size x.w w') : Calls P f args x.w fun e w'' => e = .returned v ∧ ∃ y : Later W, w'' = y.w :=
 h.mono fun _ _ ⟨he, hb⟩ => ⟨he, ⟨_, x.b.trans (hb.mono x.b.size)⟩, rfl⟩
end Go.Proofs.Ytahhgpafjiljfaa
