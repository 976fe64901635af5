import Derived.Test.YtahhgpafjiljfaaGreatET2b
set_option linter.unusedSimpArgs false
set_option linter.unusedVariables false
set_option maxHeartbeats 16000000
set_option maxRecDepth 100000
namespace Go.Proofs.YtahhgpafjiljfaaGreat
open Go.RowKit
theorem many_cases (k m : Int) : (k = 8 ∧ Qcj k m = decide (0 < m)) ∨ (k = 3 ∧ Qcj k m = (m == 2)) ∨ (k = 4 ∧ Qcj k m = (m == 2)) ∨ (k = 5 ∧ Qcj k m = (m == 2)) ∨ (k = 10 ∧ Qcj k m = (m == 1)) ∨ (k ≠ 8 ∧ k ≠ 3 ∧ k ≠ 4 ∧ k ≠ 5 ∧ k ≠ 10 ∧ Qcj k m = (m == 0)) := by
 by_cases h8 : k = 8
 ·subst h8; exact .inl ⟨rfl, rfl⟩
 by_cases h3 : k = 3
 ·subst h3; exact .inr (.inl ⟨rfl, rfl⟩)
 by_cases h4 : k = 4
 ·subst h4; exact .inr (.inr (.inl ⟨rfl, rfl⟩))
 by_cases h5 : k = 5
 ·subst h5; exact .inr (.inr (.inr (.inl ⟨rfl, rfl⟩)))
 by_cases h10 : k = 10
 ·subst h10; exact .inr (.inr (.inr (.inr (.inl ⟨rfl, rfl⟩))))
 refine .inr (.inr (.inr (.inr (.inr ⟨h8, h3, h4, h5, h10, ?_⟩))))
 unfold Qcj; rw [if_neg h8, if_neg (by omega), if_neg h10]; rfl
theorem rmany_any (k m : Int) (w : World) : Calls Tryz.prog 56 #[.int .i64 k, .int .i64 m] w fun e w' => e = .returned (.bool (Qcj k m)) ∧ w = w' := by
 rcases many_cases k m with ⟨rfl, h⟩ | ⟨rfl, h⟩ | ⟨rfl, h⟩ | ⟨rfl, h⟩ | ⟨rfl, h⟩ | ⟨h1, h2, h3, h4, h5, h⟩
 all_goals
  have H := Lib.hid h
  clear h
  go_enter Tryz.func56, Tryz.ntmps56
  go_wp2_with fail
  all_goals
   go_ret
   first
    | exact ⟨Qaf H.out.symm, rfl⟩
    | (exfalso; clear H; simp_all; done)
    | exact ⟨Qaf (by rw [H.out]; exact (decide_eq_true (by omega)).symm), rfl⟩
    | exact ⟨Qaf (by rw [H.out]; exact (decide_eq_false (by omega)).symm), rfl⟩
theorem named_cases (k : Int) (s : ByteArray) : (k = 1 ∧ Qbs k s = Qai s) ∨ (k = 6 ∧ Qbs k s = Qai s) ∨ (k = 8 ∧ Qbs k s = Qai s) ∨ (k = 3 ∧ Qbs k s = (s.toList == [95] || Qai s)) ∨ (k = 4 ∧ Qbs k s = (s.toList == [95] || Qai s)) ∨ (k ≠ 1 ∧ k ≠ 6 ∧ k ≠ 8 ∧ k ≠ 3 ∧ k ≠ 4 ∧ Qbs k s = s.toList.isEmpty) := by
 by_cases h8 : k = 1
 ·subst h8; exact .inl ⟨rfl, rfl⟩
 by_cases h3 : k = 6
 ·subst h3; exact .inr (.inl ⟨rfl, rfl⟩)
 by_cases h4 : k = 8
 ·subst h4; exact .inr (.inr (.inl ⟨rfl, rfl⟩))
 by_cases h5 : k = 3
 ·subst h5; exact .inr (.inr (.inr (.inl ⟨rfl, rfl⟩)))
 by_cases h10 : k = 4
 ·subst h10; exact .inr (.inr (.inr (.inr (.inl ⟨rfl, rfl⟩))))
 refine .inr (.inr (.inr (.inr (.inr ⟨h8, h3, h4, h5, h10, ?_⟩))))
 unfold Qbs; rw [if_neg (by omega), if_neg (by omega)]
theorem rnamed_any (k : Int) (s : ByteArray) (hs : s.size ≤ maxLen) (w : World) : Calls Tryz.prog 57 #[.int .i64 k, .string s] w fun e w' => e = .returned (.bool (Qbs k s)) ∧ Below w.heap.size w w' := by
 rcases named_cases k s with ⟨rfl, h⟩ | ⟨rfl, h⟩ | ⟨rfl, h⟩ | ⟨rfl, h⟩ | ⟨rfl, h⟩ | ⟨h1, h2, h3, h4, h5, h⟩
 all_goals
  have H := Lib.hid h
  clear h
  go_enter Tryz.func57, Tryz.ntmps57
  go_wp2_with ((go_at_call 91; refine (Qkp s hs _).mono ?_; rintro e w1 ⟨rfl, hb⟩))
  all_goals
   go_ret
   first
    | exact ⟨Qaf H.out.symm, Below.refl _ _⟩
    | exact ⟨Qaf H.out.symm, hb⟩
    | (rw [show Qbs _ s = _ from H.out]; cases hr : Qai s <;> simp_all [Below.refl])
mutual
def Qbu : Nd → Bool → Bool
 | .mk k a s n sub, p => Qfh (.mk k a s n sub) && (decide (6 ≤ k) == p) && Qci sub (k == 8)
def Qci : List Nd → Bool → Bool
 | [], _ => true
 | t :: ts, p => Qbu t p && Qci ts p
end
theorem Qjl (l : List Nd) (p : Bool) (k : Nat) (h : k < l.length) : Qci (l.drop k) p = (Qbu l[k] p && Qci (l.drop (k + 1)) p) := by
 rw [List.drop_eq_getElem_cons h]; simp only [Qci]
end Go.Proofs.YtahhgpafjiljfaaGreat
