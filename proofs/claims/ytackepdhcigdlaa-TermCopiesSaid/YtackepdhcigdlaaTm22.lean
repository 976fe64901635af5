import Derived.Test.YtackepdhcigdlaaTm20
namespace Go.Proofs.Ytackepdhcigdlaa
open Go.RowKit
/-- an owned row of terms' cells, in a block of 'S' -/
def RowS (S : Nat → Prop) (w : World) (v : Value) (n : Nat) (xs : List Value) : Prop :=
  (v = .slice none 0 0 ∧ n = 0 ∧ xs = []) ∨ ∃ g cap cur, v = .slice (some ⟨g, 0, none⟩) n cap ∧ S g ∧ w.heap[g]? = some (.cells cur 24 (0, 0)) ∧ n ≤ cap ∧ cap ≤ maxLen ∧ cur.size = cap * 3 ∧ cur.toList.take (n * 3) = xs
mutual
def ClT (S : Nat → Prop) (w : World) : Tm → List Value → Prop
  | .mk k n sub, cs => ∃ v css, cs = [.int .i64 k, .int .i64 n, v] ∧ RowS S w v sub.length css.flatten ∧ ClTs S w sub css
def ClTs (S : Nat → Prop) (w : World) : List Tm → List (List Value) → Prop
  | [], css => css = []
  | t :: ts, css => ∃ c cr, css = c :: cr ∧ ClT S w t c ∧ ClTs S w ts cr
end
theorem RowS.move {S S' : Nat → Prop} {w w' : World} {v : Value} {n : Nat} {xs : List Value} (h : RowS S w v n xs) (hS : ∀ b, S b → S' b ∧ w'.heap[b]? = w.heap[b]?) : RowS S' w' v n xs := by
  rcases h with h | ⟨g, cap, cur, h1, h2, h3, h4⟩
  · exact .inl h
  · exact .inr ⟨g, cap, cur, h1, (hS g h2).1, (hS g h2).2.trans h3, h4⟩
theorem ClTs.all {S S' : Nat → Prop} {w w' : World} {ts : List Tm} (hp : ∀ s ∈ ts, ∀ cs, ClT S w s cs → ClT S' w' s cs) : ∀ {css : List (List Value)}, ClTs S w ts css → ClTs S' w' ts css := by
  induction ts with
  | nil => intro css h; simpa only [ClTs] using h
  | cons t ts ih =>
    intro css h
    simp only [ClTs] at h ⊢
    obtain ⟨c, cr, rfl, h1, h2⟩ := h
    exact ⟨c, cr, rfl, hp t (by simp) c h1, ih (fun s hs => hp s (by simp [hs])) h2⟩
theorem ClT.move {S S' : Nat → Prop} {w w' : World} (hS : ∀ b, S b → S' b ∧ w'.heap[b]? = w.heap[b]?) : ∀ (t : Tm) (cs : List Value), ClT S w t cs → ClT S' w' t cs := by
  refine Tm.ind ?_
  intro k n sub ih cs h
  simp only [ClT] at h ⊢
  obtain ⟨s, css, rfl, h1, h2⟩ := h
  exact ⟨s, css, rfl, h1.move hS, ClTs.all ih h2⟩
theorem ClTs.move {S S' : Nat → Prop} {w w' : World} {ts : List Tm} {css : List (List Value)} (hS : ∀ b, S b → S' b ∧ w'.heap[b]? = w.heap[b]?) (h : ClTs S w ts css) : ClTs S' w' ts css :=
  ClTs.all (fun s _ => ClT.move hS s) h
theorem ClTs.length {S : Nat → Prop} {w : World} : ∀ {ts : List Tm} {css : List (List Value)}, ClTs S w ts css → css.length = ts.length := by
  intro ts
  induction ts with
  | nil => intro css h; simp only [ClTs] at h; subst h; rfl
  | cons t ts ih => intro css h; simp only [ClTs] at h; obtain ⟨c, cr, rfl, _, h2⟩ := h; simp [ih h2]
theorem ClTs.snoc {S : Nat → Prop} {w : World} {t : Tm} {c : List Value} (hc : ClT S w t c) : ∀ {ts : List Tm} {css : List (List Value)}, ClTs S w ts css → ClTs S w (ts ++ [t]) (css ++ [c]) := by
  intro ts
  induction ts with
  | nil => intro css h; simp only [ClTs] at h; subst h; simp only [List.nil_append, ClTs]; exact ⟨_, _, rfl, hc, rfl⟩
  | cons t' ts ih => intro css h; simp only [ClTs] at h; obtain ⟨c', cr, rfl, h1, h2⟩ := h; simp only [List.cons_append, ClTs]; exact ⟨_, _, rfl, h1, ih h2⟩
theorem ClT.three {S : Nat → Prop} {w : World} {t : Tm} {cs : List Value} (h : ClT S w t cs) : cs.length = 3 := by
  cases t; simp only [ClT] at h; obtain ⟨s, css, rfl, _⟩ := h; rfl
theorem ClTs.three {S : Nat → Prop} {w : World} : ∀ {ts : List Tm} {css : List (List Value)}, ClTs S w ts css → ∀ c ∈ css, c.length = 3 := by
  intro ts
  induction ts with
  | nil => intro css h c hc; simp only [ClTs] at h; subst h; cases hc
  | cons t ts ih =>
    intro css h c hc
    simp only [ClTs] at h
    obtain ⟨c0, cr, rfl, h1, h2⟩ := h
    cases hc with
    | head => exact h1.three
    | tail _ hm => exact ih h2 c hm
/-- the cells of a row -/
theorem RowS.cells {S : Nat → Prop} {w : World} {v : Value} {css : List (List Value)} {n : Nat} (h : RowS S w v n css.flatten) (hn : css.length = n) (h3 : ∀ c ∈ css, c.length = 3) : SlF S w 3 v css := by
  rcases h with ⟨rfl, rfl, _⟩ | ⟨g, cap, cur, rfl, hS, hB, hl, hm, hsz, htk⟩
  · have : css = [] := List.eq_nil_of_length_eq_zero hn
    subst this
    exact ⟨none, 0, rfl, Nat.le_refl _, Nat.zero_le _, fun h => absurd rfl h⟩
  · refine ⟨some ⟨g, 0, none⟩, cap, by rw [hn], by omega, hm, fun _ => ⟨g, 0, rfl, hS, fun i c hi => ⟨h3 c (List.mem_of_getElem? hi), fun j x hx => ?_⟩⟩⟩
    have hfl := flat_at h3 i j c x hi hx
    have hlt : i * 3 + j < n * 3 := by
      have h1 := (List.getElem?_eq_some_iff.1 hi).1
      have h2 := (List.getElem?_eq_some_iff.1 hx).1
      have h4 := h3 c (List.mem_of_getElem? hi)
      have : (i + 1) * 3 ≤ n * 3 := Nat.mul_le_mul_right 3 (by omega)
      omega
    rw [← htk, List.getElem?_take_of_lt hlt] at hfl
    have e : cur = cur.toList.toArray := rfl
    rw [e] at hB
    rw [cell_of_row w g _ _ 24 (0, 0) hB]
    simpa using hfl
theorem ClT.toF {S : Nat → Prop} {w : World} : ∀ (t : Tm) (cs : List Value), ClT S w t cs → TmF S w t cs := by
  refine Tm.ind ?_
  intro k n sub ih cs h
  simp only [ClT] at h
  simp only [TmF]
  obtain ⟨v, css, rfl, h1, h2⟩ := h
  refine ⟨v, css, rfl, h1.cells h2.length h2.three, ?_⟩
  clear h1
  induction sub generalizing css with
  | nil => simpa only [ClTs, TmFs] using h2
  | cons t ts iht =>
    simp only [ClTs] at h2
    simp only [TmFs]
    obtain ⟨c, cr, rfl, h1, h2⟩ := h2
    exact ⟨c, cr, rfl, ih t (by simp) c h1, iht (fun s hs => ih s (by simp [hs])) cr h2⟩
/-- cells that lead to cells, at most so deep, each slot of three in a block of 'S' -/
def SpD (S : Nat → Prop) (w : World) : Nat → List Value → Prop
  | 0, _ => False
  | d + 1, cs => ∃ k n a len cap, cs = [.int .i64 k, .int .i64 n, .slice a len cap] ∧ len ≤ maxLen ∧
      (0 < len → ∃ b cur, a = some ⟨b, 0, none⟩ ∧ S b ∧ w.heap[b]? = some (.cells cur 24 (0, 0)) ∧ len * 3 ≤ cur.size ∧
        ∀ i, i < len → SpD S w d [cur[i * 3]!, cur[i * 3 + 1]!, cur[i * 3 + 2]!])
end Go.Proofs.Ytackepdhcigdlaa
