import Derived.Test.YtdklpbefbamchaaGreatDBNd
import Derived.Test.YtdklpbefbamchaaGreatRows
import Derived.StillTailTactics
import Derived.BigQuiet
import Derived.Deep.RegionHeld3
set_option linter.unusedSimpArgs false
set_option linter.unusedVariables false
set_option maxHeartbeats 16000000
set_option maxRecDepth 100000
namespace Go.Proofs.YtdklpbefbamchaaGreat
open Go.RowKit
theorem own_litN {w : World} {xs : List Value} {n size : Nat} (e : TypeId) (hn : xs.length = n * size) (hm : n ≤ maxLen) :
  (w.alloc (.cells xs.toArray e)).ownsRow w.heap.size e size (.slice (some ⟨w.heap.size, 0, none⟩) n n) n xs :=
 ⟨hn, .inr ⟨w.heap.size, n, xs.toArray, rfl, Nat.le_refl _, heap_alloc_new w _, Nat.le_refl _, hm, by simp; omega, by rw [← hn]; simp⟩⟩
theorem NdCs.append {w : World} : ∀ {a b : List Nd} {ca cb : List (List Value)}, NdCs w a ca → NdCs w b cb → NdCs w (a ++ b) (ca ++ cb) := by
  intro a
  induction a with
  | nil => intro b ca cb h1 h2; simp only [NdCs] at h1; subst h1; exact h2
  | cons t ts ih =>
    intro b ca cb h1 h2
    simp only [NdCs] at h1
    obtain ⟨c, cr, rfl, h3, h4⟩ := h1
    simp only [List.cons_append, NdCs]
    exact ⟨c, cr ++ cb, rfl, h3, ih h4 h2⟩
theorem NdCs.split {w : World} : ∀ {a b : List Nd} {css : List (List Value)}, NdCs w (a ++ b) css → ∃ ca cb, css = ca ++ cb ∧ NdCs w a ca ∧ NdCs w b cb := by
  intro a
  induction a with
  | nil => intro b css h; exact ⟨[], css, rfl, by simp only [NdCs], h⟩
  | cons t ts ih =>
    intro b css h
    simp only [List.cons_append, NdCs] at h
    obtain ⟨c, cr, rfl, h1, h2⟩ := h
    obtain ⟨ca, cb, rfl, h3, h4⟩ := ih h2
    exact ⟨c :: ca, cb, rfl, by simp only [NdCs]; exact ⟨c, ca, rfl, h1, h3⟩, h4⟩
theorem NdCs.take {w : World} {ts : List Nd} {css : List (List Value)} (h : NdCs w ts css) (k : Nat) : NdCs w (ts.take k) (css.take k) := by
 refine NdCs.mk (by rw [List.length_take, List.length_take, h.length]) fun i hi => ?_
 have hi2 : i < ts.length := by rw [List.length_take] at hi; omega
 have hik : i < k := by rw [List.length_take] at hi; omega
 obtain ⟨c, h1, h2⟩ := h.get i hi2
 exact ⟨c, by rw [List.getElem?_take, if_pos hik]; exact h1, by rw [List.getElem_take]; exact h2⟩
end Go.Proofs.YtdklpbefbamchaaGreat
