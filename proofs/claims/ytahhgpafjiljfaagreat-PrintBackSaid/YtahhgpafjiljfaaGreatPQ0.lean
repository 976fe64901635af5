import Derived.Test.YtahhgpafjiljfaaGreatPBK
import Derived.BigQuiet
set_option linter.unusedSimpArgs false
set_option linter.unusedVariables false
set_option maxHeartbeats 16000000
set_option maxRecDepth 100000
namespace Go.Proofs.YtahhgpafjiljfaaGreat
open Go.RowKit
theorem Qcw {P : Program} {X : Type} (g : X → World) {id : Nat} {Q : Exit → Act → World → Prop} {a : Act} {w : World} {l : List Oper} (hm : P.follows .mixedOrders = true) (hB : Region.lexB .any l.toArray = true) (x0 : X) (h0 : w.drew = g x0)
  (h : wpQuiet P l.toArray (fun w' => ∃ x, w' = g x) (fun a' => ∀ x, Q .normal a' (g x)) l a) : (Code.region id l.toArray true).wp P Q a w := by
 refine wp_region_quiet (C := fun w' => ∃ x, w' = g x) hm hB ⟨x0, h0⟩ ?_
 have e : (fun a' => ∀ w', (∃ x, w' = g x) → Q .normal a' w') = fun a' => ∀ x, Q .normal a' (g x) := by
  funext a'
  exact propext ⟨fun h x => h _ ⟨x, rfl⟩, fun h w' ⟨x, hx⟩ => hx ▸ h x⟩
 rw [e]
 simpa using h
structure Later (W : World) where
 w : World
 b : Below W.heap.size W w
instance (W : World) : Nonempty (Later W) := ⟨⟨W, Below.refl _ _⟩⟩
theorem Later.cell {W : World} {p : Addr} {v : Value} (h : W.cell? p = some v) : ∀ x : Later W, x.w.cell? p = some v := fun x => (x.b.cell (World.block_lt_of_cell? W p h)).trans h
theorem Calls.later {P : Program} {W : World} {f : FuncId} {args : Array Value} {v : Value} (x : Later W) (h : Calls P f args x.w fun e w' => e = .returned v ∧ Below x.w.heap.size x.w w') : Calls P f args x.w fun e w'' => e = .returned v ∧ ∃ y : Later W, w'' = y.w :=
 h.mono fun _ _ ⟨he, hb⟩ => ⟨he, ⟨_, x.b.trans (hb.mono x.b.size)⟩, rfl⟩
end Go.Proofs.YtahhgpafjiljfaaGreat
