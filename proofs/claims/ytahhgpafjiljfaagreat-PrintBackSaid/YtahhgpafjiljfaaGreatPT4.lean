import Derived.Test.YtahhgpafjiljfaaGreatPT2b
set_option linter.unusedSimpArgs false
set_option linter.unusedVariables false
set_option maxHeartbeats 16000000
set_option maxRecDepth 100000
namespace Go.Proofs.YtahhgpafjiljfaaGreat
open Go.RowKit
theorem many_cases (k m : Int) : (k = 8 ∧ Qdt k m = decide (0 < m)) ∨ (k = 3 ∧ Qdt k m = (m == 2)) ∨ (k = 4 ∧ Qdt k m = (m == 2)) ∨ (k = 5 ∧ Qdt k m = (m == 2)) ∨ (k = 10 ∧ Qdt k m = (m == 1)) ∨ (k ≠ 8 ∧ k ≠ 3 ∧ k ≠ 4 ∧ k ≠ 5 ∧ k ≠ 10 ∧ Qdt k m = (m == 0)) := by
 by_cases h8 : k = 8
 ·subst h8; exact .inl ⟨rfl, rfl⟩
 by_cases h3 : k = 3
 ·subst h3; exact .inr (.inl ⟨rfl, rfl⟩)
 by_cases h4 : k = 4
 ·subst h4; exact .inr (.inr (.inl ⟨rfl, rfl⟩))
 by_cases h5 : k = 5
 ·subst h5; exact .inr (.inr (.inr (.inl ⟨rfl, rfl⟩)))
 by_cases h10 : k = 10
 ·subst h10; exact .inr (.inr (.inr (.inr (.inl ⟨rfl, rfl⟩))))
 refine .inr (.inr (.inr (.inr (.inr ⟨h8, h3, h4, h5, h10, ?_⟩))))
 unfold Qdt; rw [if_neg h8, if_neg (by omega), if_neg h10]; rfl
mutual
def Qaj : Nd → Bool → Bool
 | .mk k a s n sub, p => Qfy (.mk k a s n sub) && (decide (6 ≤ k) == p) && Qex sub (k == 8)
def Qex : List Nd → Bool → Bool
 | [], _ => true
 | t :: ts, p => Qaj t p && Qex ts p
end
theorem goodL_take (l : List Nd) (p : Bool) (k : Nat) (h : k < l.length) : Qex (l.drop k) p = (Qaj l[k] p && Qex (l.drop (k + 1)) p) := by
 rw [List.drop_eq_getElem_cons h]; simp only [Qex]
end Go.Proofs.YtahhgpafjiljfaaGreat
