import Derived.Test.YtahhgpafjiljfaaOT2b
set_option linter.unusedSimpArgs false
set_option linter.unusedVariables false
set_option maxHeartbeats 16000000
set_option maxRecDepth 100000
namespace Go.Proofs.Ytahhgpafjiljfaa
open Go.RowKit
theorem many_cases (k m : Int) : (k = 8 ∧ Qbs k m = decide (0 < m)) ∨ (k = 3 ∧ Qbs k m = (m == 2)) ∨ (k = 4 ∧ Qbs k m = (m == 2)) ∨ (k = 5 ∧ Qbs k m = (m == 2)) ∨ (k = 10 ∧ Qbs k m = (m == 1)) ∨ (k ≠ 8 ∧ k ≠ 3 ∧ k ≠ 4 ∧ k ≠ 5 ∧ k ≠ 10 ∧ Qbs k m = (m == 0)) := by
 by_cases h8 : k = 8
 ·subst h8; exact .inl ⟨rfl, rfl⟩
 by_cases h3 : k = 3
 ·subst h3; exact .inr (.inl ⟨rfl, rfl⟩)
 by_cases h4 : k = 4
 ·subst h4; exact .inr (.inr (.inl ⟨rfl, rfl⟩))
 by_cases h5 : k = 5
 ·subst h5; exact .inr (.inr (.inr (.inl ⟨rfl, rfl⟩)))
 by_cases h10 : k = 10
 ·subst h10; exact .inr (.inr (.inr (.inr (.inl ⟨rfl, rfl⟩))))
 refine .inr (.inr (.inr (.inr (.inr ⟨h8, h3, h4, h5, h10, ?_⟩))))
 unfold Qbs; rw [if_neg h8, if_neg (by omega), if_neg h10]; rfl
mutual
def Qak : Nd → Bool → Bool
 | .mk k a s n sub, p => Qfn (.mk k a s n sub) && (decide (6 ≤ k) == p) && Qbi sub (k == 8)
def Qbi : List Nd → Bool → Bool
 | [], _ => true
 | t :: ts, p => Qak t p && Qbi ts p
end
theorem goodL_take (l : List Nd) (p : Bool) (k : Nat) (h : k < l.length) : Qbi (l.drop k) p = (Qak l[k] p && Qbi (l.drop (k + 1)) p) := by
 rw [List.drop_eq_getElem_cons h]; simp only [Qbi]
end Go.Proofs.Ytahhgpafjiljfaa
