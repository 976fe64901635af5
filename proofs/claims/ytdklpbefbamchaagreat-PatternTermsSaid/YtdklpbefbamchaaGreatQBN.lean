import Derived.Test.YtdklpbefbamchaaGreatDBN
set_option linter.unusedSimpArgs false
set_option linter.unusedVariables false
set_option maxHeartbeats 16000000
set_option maxRecDepth 100000
namespace Go.Proofs.YtdklpbefbamchaaGreat
open Go.RowKit Go.WideMaps
theorem toNat_inj : ∀ (l m : List Int), (∀ x ∈ l, 0 ≤ x) → (∀ x ∈ m, 0 ≤ x) → l.map Int.toNat = m.map Int.toNat → l = m := by
  intro l
  induction l with
  | nil => intro m _ _ h; cases m with
    | nil => rfl
    | cons y ys => simp at h
  | cons x xs ih =>
    intro m hl hm h
    cases m with
    | nil => simp at h
    | cons y ys =>
      simp only [List.map_cons, List.cons.injEq] at h
      have h1 := hl x (by simp)
      have h2 := hm y (by simp)
      rw [ih ys (fun z hz => hl z (by simp [hz])) (fun z hz => hm z (by simp [hz])) h.2]
      congr 1
      omega
end Go.Proofs.YtdklpbefbamchaaGreat
