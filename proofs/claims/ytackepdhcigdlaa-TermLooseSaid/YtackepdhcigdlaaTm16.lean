import Derived.Test.YtackepdhcigdlaaTm15
namespace Go.Proofs.Ytackepdhcigdlaa
open Go.RowKit
/-- a slice whose cells lie in blocks of 'S' -/
def SlF (S : Nat → Prop) (w : World) (sz : Nat) (v : Value) (css : List (List Value)) : Prop :=
  ∃ a cap, v = .slice a css.length cap ∧ css.length ≤ cap ∧ cap ≤ maxLen ∧ (css ≠ [] → ∃ b off, a = some ⟨b, off, none⟩ ∧ S b ∧ ∀ i c, css[i]? = some c → c.length = sz ∧ ∀ j x, c[j]? = some x → w.cell? ⟨b, off + i * sz + j, none⟩ = some x)
mutual
def TmF (S : Nat → Prop) (w : World) : Tm → List Value → Prop
  | .mk k n sub, cs => ∃ s css, cs = [.int .i64 k, .int .i64 n, s] ∧ SlF S w 3 s css ∧ TmFs S w sub css
def TmFs (S : Nat → Prop) (w : World) : List Tm → List (List Value) → Prop
  | [], css => css = []
  | t :: ts, css => ∃ c cr, css = c :: cr ∧ TmF S w t c ∧ TmFs S w ts cr
end
theorem cell_heap {w w' : World} {b off : Nat} (h : w'.heap[b]? = w.heap[b]?) : w'.cell? ⟨b, off, none⟩ = w.cell? ⟨b, off, none⟩ := by
  unfold World.cell?; rw [h]
theorem SlF.toN {S : Nat → Prop} {w : World} {sz : Nat} {v : Value} {css : List (List Value)} (h : SlF S w sz v css) : SlN w sz v css := by
  obtain ⟨a, cap, h1, h2, h3, h4⟩ := h
  exact ⟨a, cap, h1, h2, h3, fun hne => by obtain ⟨b, off, e1, _, e3⟩ := h4 hne; exact ⟨b, off, e1, e3⟩⟩
theorem SlF.move {S S' : Nat → Prop} {w w' : World} {sz : Nat} {v : Value} {css : List (List Value)} (h : SlF S w sz v css) (hS : ∀ b, S b → S' b ∧ w'.heap[b]? = w.heap[b]?) : SlF S' w' sz v css := by
  obtain ⟨a, cap, h1, h2, h3, h4⟩ := h
  refine ⟨a, cap, h1, h2, h3, fun hne => ?_⟩
  obtain ⟨b, off, e1, e2, e3⟩ := h4 hne
  exact ⟨b, off, e1, (hS b e2).1, fun i c hi => ⟨(e3 i c hi).1, fun j x hx => (cell_heap (hS b e2).2).trans ((e3 i c hi).2 j x hx)⟩⟩
theorem TmFs.all {S S' : Nat → Prop} {w w' : World} {ts : List Tm} (hp : ∀ s ∈ ts, ∀ cs, TmF S w s cs → TmF S' w' s cs) : ∀ {css : List (List Value)}, TmFs S w ts css → TmFs S' w' ts css := by
  induction ts with
  | nil => intro css h; simpa only [TmFs] using h
  | cons t ts ih =>
    intro css h
    simp only [TmFs] at h ⊢
    obtain ⟨c, cr, rfl, h1, h2⟩ := h
    exact ⟨c, cr, rfl, hp t (by simp) c h1, ih (fun s hs => hp s (by simp [hs])) h2⟩
theorem TmF.move {S S' : Nat → Prop} {w w' : World} (hS : ∀ b, S b → S' b ∧ w'.heap[b]? = w.heap[b]?) : ∀ (t : Tm) (cs : List Value), TmF S w t cs → TmF S' w' t cs := by
  refine Tm.ind ?_
  intro k n sub ih cs h
  simp only [TmF] at h ⊢
  obtain ⟨s, css, rfl, h1, h2⟩ := h
  exact ⟨s, css, rfl, h1.move hS, TmFs.all ih h2⟩
theorem TmF.toC' {S : Nat → Prop} {w : World} : ∀ (t : Tm) (cs : List Value), TmF S w t cs → TmC w t cs := by
  refine Tm.ind ?_
  intro k n sub ih cs h
  simp only [TmF] at h
  simp only [TmC]
  obtain ⟨s, css, rfl, h1, h2⟩ := h
  refine ⟨s, css, rfl, h1.toN, ?_⟩
  clear h1
  induction sub generalizing css with
  | nil => simpa only [TmFs, TmCs] using h2
  | cons t ts iht =>
    simp only [TmFs] at h2
    simp only [TmCs]
    obtain ⟨c, cr, rfl, h1, h2⟩ := h2
    exact ⟨c, cr, rfl, ih t (by simp) c h1, iht (fun s hs => ih s (by simp [hs])) cr h2⟩
theorem TmF.toC {S : Nat → Prop} {w : World} {t : Tm} {cs : List Value} (h : TmF S w t cs) : TmC w t cs := TmF.toC' _ _ h
theorem TmC.toF {w : World} : ∀ (t : Tm) (cs : List Value), TmC w t cs → TmF (· < w.heap.size) w t cs := by
  refine Tm.ind ?_
  intro k n sub ih cs h
  simp only [TmC] at h
  simp only [TmF]
  obtain ⟨s, css, rfl, ⟨a, cap, h1, h2, h3, h4⟩, h5⟩ := h
  refine ⟨s, css, rfl, ⟨a, cap, h1, h2, h3, fun hne => ?_⟩, ?_⟩
  · obtain ⟨b, off, e1, e3⟩ := h4 hne
    refine ⟨b, off, e1, ?_, e3⟩
    cases css with
    | nil => exact absurd rfl hne
    | cons c cr =>
      obtain ⟨el, e4⟩ := e3 0 c rfl
      have h0 : 0 < c.length := by
        have hl := h5
        cases sub with
        | nil => simp only [TmCs] at hl; cases hl
        | cons t ts =>
          simp only [TmCs] at hl
          obtain ⟨c', cr', he, ht, _⟩ := hl
          cases he
          obtain ⟨s', rfl, _⟩ := ht.open
          simp
      exact World.block_lt_of_cell? w _ (e4 0 _ (List.getElem?_eq_getElem h0))
  · clear h1 h2 h3 h4
    induction sub generalizing css with
    | nil => simpa only [TmFs, TmCs] using h5
    | cons t ts iht =>
      simp only [TmCs] at h5
      simp only [TmFs]
      obtain ⟨c, cr, rfl, h1, h2⟩ := h5
      exact ⟨c, cr, rfl, ih t (by simp) c h1, iht (fun s hs => ih s (by simp [hs])) cr h2⟩
theorem TmFs.length {S : Nat → Prop} {w : World} : ∀ {ts : List Tm} {css : List (List Value)}, TmFs S w ts css → css.length = ts.length := by
  intro ts
  induction ts with
  | nil => intro css h; simp only [TmFs] at h; subst h; rfl
  | cons t ts ih => intro css h; simp only [TmFs] at h; obtain ⟨c, cr, rfl, _, h2⟩ := h; simp [ih h2]
theorem TmF.three {S : Nat → Prop} {w : World} {t : Tm} {cs : List Value} (h : TmF S w t cs) : cs.length = 3 := by
  cases t; simp only [TmF] at h; obtain ⟨s, css, rfl, _⟩ := h; rfl
theorem TmFs.three {S : Nat → Prop} {w : World} : ∀ {ts : List Tm} {css : List (List Value)}, TmFs S w ts css → ∀ c ∈ css, c.length = 3 := by
  intro ts
  induction ts with
  | nil => intro css h c hc; simp only [TmFs] at h; subst h; cases hc
  | cons t ts ih =>
    intro css h c hc
    simp only [TmFs] at h
    obtain ⟨c0, cr, rfl, h1, h2⟩ := h
    cases hc with
    | head => exact h1.three
    | tail _ hm => exact ih h2 c hm
/-- a term whose Subs are written out in a block of their own -/
theorem TmF.made {S : Nat → Prop} {w : World} {ts : List Tm} {css : List (List Value)} {B : Nat} {e : TypeId} {fr : Nat × Nat} (k n : Int) (hcs : TmFs S w ts css) (hm : ts.length ≤ maxLen) (hS : S B) (hB : w.heap[B]? = some (.cells css.flatten.toArray e fr)) :
    TmF S w (.mk k n ts) [.int .i64 k, .int .i64 n, .slice (some ⟨B, 0, none⟩) ts.length ts.length] := by
  have hl := hcs.length
  simp only [TmF]
  refine ⟨_, css, rfl, ⟨some ⟨B, 0, none⟩, ts.length, by rw [hl], by omega, hm, fun _ => ⟨B, 0, rfl, hS, fun i c hi => ⟨hcs.three c (List.mem_of_getElem? hi), fun j x hx => ?_⟩⟩⟩, hcs⟩
  rw [cell_of_row w B _ _ e fr hB]
  have := flat_at hcs.three i j c x hi hx
  simpa using this
theorem TmF.leaf (S : Nat → Prop) (w : World) (k n : Int) : TmF S w (.mk k n []) [.int .i64 k, .int .i64 n, .slice none 0 0] := by
  simp only [TmF, TmFs]
  exact ⟨_, [], rfl, ⟨none, 0, rfl, Nat.le_refl _, Nat.zero_le _, fun h => absurd rfl h⟩, rfl⟩
/-- a boxed struct of three cells -/
def Box3 (w : World) (B : Nat) (x y z : Value) : Prop := w.heap[B]? = some (.cells #[x, y, z] 24)
theorem Box3.new (w : World) (x y z : Value) : Box3 (w.alloc (.cells #[x, y, z] 24)) w.heap.size x y z := heap_alloc_new w _
theorem Box3.later {w w' : World} {B n : Nat} {x y z : Value} (h : Box3 w B x y z) (hb : Below n w w') (hB : B < n) : Box3 w' B x y z := (hb.block _ hB).trans h
theorem Box3.lt {w : World} {B : Nat} {x y z : Value} (h : Box3 w B x y z) : B < w.heap.size := by
  unfold Box3 at h
  obtain ⟨h1, _⟩ := Array.getElem?_eq_some_iff.1 h; exact h1
theorem Box3.cells {w : World} {B : Nat} {x y z : Value} (h : Box3 w B x y z) : w.cell? ⟨B, 0, none⟩ = some x ∧ w.cell? ⟨B, 1, none⟩ = some y ∧ w.cell? ⟨B, 2, none⟩ = some z := by
  unfold Box3 at h
  refine ⟨?_, ?_, ?_⟩ <;> · rw [cell_of_row w B _ _ _ _ h]; rfl
theorem Box3.free {w : World} {B : Nat} {x y z : Value} (h : Box3 w B x y z) (i : Nat) : w.frozen? ⟨B, i, none⟩ = false := by
  unfold Box3 at h
  unfold World.frozen?; rw [h]; simp
theorem set_block {w : World} {B : Nat} {c : Array Value} {e : TypeId} {fr : Nat × Nat} (h : w.heap[B]? = some (.cells c e fr)) (i : Nat) (u : Value) : (w.setCell ⟨B, i, none⟩ u).heap[B]? = some (.cells (c.setIfInBounds i u) e fr) := by
  unfold World.setCell
  simp [Array.getElem?_modify, h]
theorem Box3.set {w : World} {B : Nat} {x y z : Value} (h : Box3 w B x y z) (u v t : Value) : Box3 (((w.setCell ⟨B, 0, none⟩ u).setCell ⟨B, 1, none⟩ v).setCell ⟨B, 2, none⟩ t) B u v t := by
  exact set_block (set_block (set_block h 0 u) 1 v) 2 t
theorem set3_size (w : World) (B : Nat) (u v x : Value) : (((w.setCell ⟨B, 0, none⟩ u).setCell ⟨B, 1, none⟩ v).setCell ⟨B, 2, none⟩ x).heap.size = w.heap.size := by
  simp
end Go.Proofs.Ytackepdhcigdlaa
