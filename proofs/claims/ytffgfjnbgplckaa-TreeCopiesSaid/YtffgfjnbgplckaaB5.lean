import Derived.Test.YtffgfjnbgplckaaD1
import Derived.Laws.Rows
namespace Go.Proofs.Ytffgfjnbgplckaa
open Go.RowKit
/-- a boxed node -/
def Box5 (T : TypeId) (w : World) (B : Nat) (x y z u v : Value) : Prop := w.heap[B]? = some (.cells #[x, y, z, u, v] T)
theorem Box5.new (T : TypeId) (w : World) (x y z u v : Value) : Box5 T (w.alloc (.cells #[x, y, z, u, v] T)) w.heap.size x y z u v := heap_alloc_new w _
theorem Box5.later {T : TypeId} {w w' : World} {B n : Nat} {x y z u v : Value} (h : Box5 T w B x y z u v) (hb : Below n w w') (hB : B < n) : Box5 T w' B x y z u v := (hb.block _ hB).trans h
theorem Box5.lt {T : TypeId} {w : World} {B : Nat} {x y z u v : Value} (h : Box5 T w B x y z u v) : B < w.heap.size := by
  unfold Box5 at h
  obtain ⟨h1, _⟩ := Array.getElem?_eq_some_iff.1 h; exact h1
theorem Box5.cells {T : TypeId} {w : World} {B : Nat} {x y z u v : Value} (h : Box5 T w B x y z u v) : w.cell? ⟨B, 0, none⟩ = some x ∧ w.cell? ⟨B, 1, none⟩ = some y ∧ w.cell? ⟨B, 2, none⟩ = some z ∧ w.cell? ⟨B, 3, none⟩ = some u ∧ w.cell? ⟨B, 4, none⟩ = some v := by
  unfold Box5 at h
  refine ⟨?_, ?_, ?_, ?_, ?_⟩ <;> · rw [cell_of_row w B _ _ _ _ h]; rfl
theorem Box5.free {T : TypeId} {w : World} {B : Nat} {x y z u v : Value} (h : Box5 T w B x y z u v) (i : Nat) : w.frozen? ⟨B, i, none⟩ = false := by
  unfold Box5 at h
  unfold World.frozen?; rw [h]; simp
theorem set_block {w : World} {B : Nat} {c : Array Value} {e : TypeId} {fr : Nat × Nat} (h : w.heap[B]? = some (.cells c e fr)) (i : Nat) (u : Value) : (w.setCell ⟨B, i, none⟩ u).heap[B]? = some (.cells (c.setIfInBounds i u) e fr) := by
  unfold World.setCell
  simp [Array.getElem?_modify, h]
/-- all five cells anew -/
def set5 (w : World) (B : Nat) (x y z u v : Value) : World := ((((w.setCell ⟨B, 0, none⟩ x).setCell ⟨B, 1, none⟩ y).setCell ⟨B, 2, none⟩ z).setCell ⟨B, 3, none⟩ u).setCell ⟨B, 4, none⟩ v
theorem Box5.set {T : TypeId} {w : World} {B : Nat} {x y z u v : Value} (h : Box5 T w B x y z u v) (x' y' z' u' v' : Value) : Box5 T (set5 w B x' y' z' u' v') B x' y' z' u' v' :=
  set_block (set_block (set_block (set_block (set_block h 0 x') 1 y') 2 z') 3 u') 4 v'
theorem Box5.set4 {T : TypeId} {w : World} {B : Nat} {x y z u v : Value} (h : Box5 T w B x y z u v) (v' : Value) : Box5 T (w.setCell ⟨B, 4, none⟩ v') B x y z u v' := set_block h 4 v'
theorem Box5.set_ne {T : TypeId} {w : World} {B : Nat} {x y z u v : Value} (h : Box5 T w B x y z u v) {p : Addr} (hp : B ≠ p.block) (q : Value) : Box5 T (w.setCell p q) B x y z u v := (Below.heap_setCell _ _ _ _ hp).trans h
theorem set5_heap (w : World) (B k : Nat) (x y z u v : Value) (h : k ≠ B) : (set5 w B x y z u v).heap[k]? = w.heap[k]? := by
  unfold set5
  rw [Below.heap_setCell _ _ _ _ h, Below.heap_setCell _ _ _ _ h, Below.heap_setCell _ _ _ _ h, Below.heap_setCell _ _ _ _ h, Below.heap_setCell _ _ _ _ h]
theorem set5_below {B0 B : Nat} {w0 w : World} (h : Below B0 w0 w) (hB : B0 ≤ B) (x y z u v : Value) : Below B0 w0 (set5 w B x y z u v) :=
  ((((h.setCell hB _).setCell hB _).setCell hB _).setCell hB _).setCell hB _
/-- new blocks, one behind the other -/
theorem boxes1 (w : World) (c1 : Array Value) (T1 : TypeId) : (w.alloc (.cells c1 T1)).heap[w.heap.size]? = some (.cells c1 T1) ∧ Below w.heap.size w (w.alloc (.cells c1 T1)) ∧ w.heap.size + 1 ≤ (w.alloc (.cells c1 T1)).heap.size :=
  ⟨heap_alloc_new w _, (Below.refl _ _).alloc (Nat.le_refl _) _, by simp⟩
theorem boxes2 (w : World) (c1 c2 : Array Value) (T1 T2 : TypeId) : ((w.alloc (.cells c1 T1)).alloc (.cells c2 T2)).heap[w.heap.size]? = some (.cells c1 T1) ∧ ((w.alloc (.cells c1 T1)).alloc (.cells c2 T2)).heap[w.heap.size + 1]? = some (.cells c2 T2) ∧ Below w.heap.size w ((w.alloc (.cells c1 T1)).alloc (.cells c2 T2)) ∧ w.heap.size + 2 ≤ ((w.alloc (.cells c1 T1)).alloc (.cells c2 T2)).heap.size := by
  obtain ⟨h1, h2, h3⟩ := boxes1 w c1 T1
  refine ⟨(Below.heap_alloc _ _ _ (by simp)).trans h1, ?_, h2.alloc (by simp) _, by simp⟩
  have h := heap_alloc_new (w.alloc (.cells c1 T1)) (.cells c2 T2)
  simpa using h
theorem boxes3 (w : World) (c1 c2 c3 : Array Value) (T1 T2 T3 : TypeId) : (((w.alloc (.cells c1 T1)).alloc (.cells c2 T2)).alloc (.cells c3 T3)).heap[w.heap.size]? = some (.cells c1 T1) ∧ (((w.alloc (.cells c1 T1)).alloc (.cells c2 T2)).alloc (.cells c3 T3)).heap[w.heap.size + 1]? = some (.cells c2 T2) ∧ (((w.alloc (.cells c1 T1)).alloc (.cells c2 T2)).alloc (.cells c3 T3)).heap[w.heap.size + 2]? = some (.cells c3 T3) ∧ Below w.heap.size w (((w.alloc (.cells c1 T1)).alloc (.cells c2 T2)).alloc (.cells c3 T3)) ∧ w.heap.size + 3 ≤ (((w.alloc (.cells c1 T1)).alloc (.cells c2 T2)).alloc (.cells c3 T3)).heap.size := by
  obtain ⟨h1, h2, h3, h4⟩ := boxes2 w c1 c2 T1 T2
  refine ⟨(Below.heap_alloc _ _ _ (by simp; omega)).trans h1, (Below.heap_alloc _ _ _ (by simp)).trans h2, ?_, h3.alloc (by simp; omega) _, by simp⟩
  have h := heap_alloc_new ((w.alloc (.cells c1 T1)).alloc (.cells c2 T2)) (.cells c3 T3)
  simpa using h
/-- a block of one's own keeps its cells -/
theorem cell_at {w : World} {B : Nat} {c : Array Value} {e : TypeId} {fr : Nat × Nat} (h : w.heap[B]? = some (.cells c e fr)) (i : Nat) : w.cell? ⟨B, i, none⟩ = c[i]? := by simp [World.cell?, h]
end Go.Proofs.Ytffgfjnbgplckaa
