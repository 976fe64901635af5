import Derived.Test.YtdklpbefbamchaaGreatT2b
set_option linter.unusedSimpArgs false
set_option linter.unusedVariables false
set_option maxHeartbeats 16000000
set_option maxRecDepth 100000
namespace Go.Proofs.YtdklpbefbamchaaGreat
open Go.RowKit
theorem many_cases (k m : Int) : (k = 8 ∧ Qdz k m = decide (0 < m)) ∨ (k = 3 ∧ Qdz k m = (m == 2)) ∨ (k = 4 ∧ Qdz k m = (m == 2)) ∨ (k = 5 ∧ Qdz k m = (m == 2)) ∨ (k = 10 ∧ Qdz k m = (m == 1)) ∨ (k ≠ 8 ∧ k ≠ 3 ∧ k ≠ 4 ∧ k ≠ 5 ∧ k ≠ 10 ∧ Qdz k m = (m == 0)) := by
 by_cases h8 : k = 8
 ·subst h8; exact .inl ⟨rfl, rfl⟩
 by_cases h3 : k = 3
 ·subst h3; exact .inr (.inl ⟨rfl, rfl⟩)
 by_cases h4 : k = 4
 ·subst h4; exact .inr (.inr (.inl ⟨rfl, rfl⟩))
 by_cases h5 : k = 5
 ·subst h5; exact .inr (.inr (.inr (.inl ⟨rfl, rfl⟩)))
 by_cases h10 : k = 10
 ·subst h10; exact .inr (.inr (.inr (.inr (.inl ⟨rfl, rfl⟩))))
 refine .inr (.inr (.inr (.inr (.inr ⟨h8, h3, h4, h5, h10, ?_⟩))))
 unfold Qdz; rw [if_neg h8, if_neg (by omega), if_neg h10]; rfl
theorem rmany_any (k m : Int) (w : World) : Calls Tryz.prog 200 #[.int .i64 k, .int .i64 m] w fun e w' => e = .returned (.bool (Qdz k m)) ∧ w = w' := by
 rcases many_cases k m with ⟨rfl, h⟩ | ⟨rfl, h⟩ | ⟨rfl, h⟩ | ⟨rfl, h⟩ | ⟨rfl, h⟩ | ⟨h1, h2, h3, h4, h5, h⟩
 all_goals
  have H := Lib.hid h
  clear h
  go_enter Tryz.func200, Tryz.ntmps200
  go_wp2_with fail
  all_goals
   go_ret
   first
    | exact ⟨Qah H.out.symm, rfl⟩
    | (exfalso; clear H; simp_all; done)
    | exact ⟨Qah (by rw [H.out]; exact (decide_eq_true (by omega)).symm), rfl⟩
    | exact ⟨Qah (by rw [H.out]; exact (decide_eq_false (by omega)).symm), rfl⟩
theorem named_cases (k : Int) (s : ByteArray) : (k = 1 ∧ Qdm k s = Qam s) ∨ (k = 6 ∧ Qdm k s = Qam s) ∨ (k = 8 ∧ Qdm k s = Qam s) ∨ (k = 3 ∧ Qdm k s = (s.toList == [95] || Qam s)) ∨ (k = 4 ∧ Qdm k s = (s.toList == [95] || Qam s)) ∨ (k ≠ 1 ∧ k ≠ 6 ∧ k ≠ 8 ∧ k ≠ 3 ∧ k ≠ 4 ∧ Qdm k s = s.toList.isEmpty) := by
 by_cases h8 : k = 1
 ·subst h8; exact .inl ⟨rfl, rfl⟩
 by_cases h3 : k = 6
 ·subst h3; exact .inr (.inl ⟨rfl, rfl⟩)
 by_cases h4 : k = 8
 ·subst h4; exact .inr (.inr (.inl ⟨rfl, rfl⟩))
 by_cases h5 : k = 3
 ·subst h5; exact .inr (.inr (.inr (.inl ⟨rfl, rfl⟩)))
 by_cases h10 : k = 4
 ·subst h10; exact .inr (.inr (.inr (.inr (.inl ⟨rfl, rfl⟩))))
 refine .inr (.inr (.inr (.inr (.inr ⟨h8, h3, h4, h5, h10, ?_⟩))))
 unfold Qdm; rw [if_neg (by omega), if_neg (by omega)]
theorem rnamed_any (k : Int) (s : ByteArray) (hs : s.size ≤ maxLen) (w : World) : Calls Tryz.prog 201 #[.int .i64 k, .string s] w fun e w' => e = .returned (.bool (Qdm k s)) ∧ Below w.heap.size w w' := by
 rcases named_cases k s with ⟨rfl, h⟩ | ⟨rfl, h⟩ | ⟨rfl, h⟩ | ⟨rfl, h⟩ | ⟨rfl, h⟩ | ⟨h1, h2, h3, h4, h5, h⟩
 all_goals
  have H := Lib.hid h
  clear h
  go_enter Tryz.func201, Tryz.ntmps201
  go_wp2_with ((go_at_call 153; refine (Qlm s hs _).mono ?_; rintro e w1 ⟨rfl, hb⟩))
  all_goals
   go_ret
   first
    | exact ⟨Qah H.out.symm, Below.refl _ _⟩
    | exact ⟨Qah H.out.symm, hb⟩
    | (rw [show Qdm _ s = _ from H.out]; cases hr : Qam s <;> simp_all [Below.refl])
mutual
def Qcf : Nd → Bool → Bool
 | .mk k a s n sub, p => Qgr (.mk k a s n sub) && (decide (6 ≤ k) == p) && Qeh sub (k == 8)
def Qeh : List Nd → Bool → Bool
 | [], _ => true
 | t :: ts, p => Qcf t p && Qeh ts p
end
theorem Qmh (l : List Nd) (p : Bool) (k : Nat) (h : k < l.length) : Qeh (l.drop k) p = (Qcf l[k] p && Qeh (l.drop (k + 1)) p) := by
 rw [List.drop_eq_getElem_cons h]; simp only [Qeh]
end Go.Proofs.YtdklpbefbamchaaGreat
