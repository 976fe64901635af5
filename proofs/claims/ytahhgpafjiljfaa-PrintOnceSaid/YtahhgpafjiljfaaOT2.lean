import Derived.Test.YtahhgpafjiljfaaOBNd
import Derived.Test.YtahhgpafjiljfaaOBN
set_option linter.unusedSimpArgs false
set_option linter.unusedVariables false
set_option maxHeartbeats 16000000
set_option maxRecDepth 100000
namespace Go.Proofs.Ytahhgpafjiljfaa
open Go.RowKit
def arT (k : Int) : Int := if k < 1 ∨ 10 < k then -2 else if k = 3 ∨ k = 4 ∨ k = 5 then 2 else if k = 8 then -1 else if k = 10 then 1 else 0
def Qbs (k m : Int) : Bool := if k = 8 then decide (0 < m) else if k = 3 ∨ k = 4 ∨ k = 5 then decide (m = 2) else if k = 10 then decide (m = 1) else decide (m = 0)
def Qch (k : Int) (s : ByteArray) : Bool := if k = 1 ∨ k = 6 ∨ k = 8 then Qaj s else if k = 3 ∨ k = 4 then s.toList == [95] || Qaj s else s.toList.isEmpty
def numB (k n : Int) : Bool := if k = 2 then decide (0 ≤ n ∧ n ≤ 7) else n == 0
def Qfn (t : Nd) : Bool := decide (1 ≤ t.kind ∧ t.kind ≤ 10) && Qbs t.kind t.sub.length && Qch t.kind t.name && numB t.kind t.num
theorem ar_index (k : Nat) (h : 1 ≤ k ∧ k ≤ 10) (w : World) : (Instr.index 131 (.agg #[.int .i64 0, .int .i64 0, .int .i64 0, .int .i64 2, .int .i64 2, .int .i64 2, .int .i64 0, .int .i64 0, .int .i64 (-1), .int .i64 0, .int .i64 1]) (.int .i64 k)).run Try.prog w = .ok (.int .i64 (arT k)) w := by
 obtain rfl | rfl | rfl | rfl | rfl | rfl | rfl | rfl | rfl | rfl : k = 1 ∨ k = 2 ∨ k = 3 ∨ k = 4 ∨ k = 5 ∨ k = 6 ∨ k = 7 ∨ k = 8 ∨ k = 9 ∨ k = 10 := by omega
 all_goals kernel_rfl
theorem arity_any (k : Int) (w : World) : Calls Try.prog 109 #[.int .i64 k] w fun e w' => e = .returned (.int .i64 (arT k)) ∧ w = w' := by
 by_cases h : 1 ≤ k ∧ k ≤ 10
 ·have n1 : ¬ k < 1 := by omega
  have n2 : ¬ 10 < k := by omega
  obtain ⟨n, rfl⟩ := Int.eq_ofNat_of_zero_le (show 0 ≤ k by omega)
  have hx := ar_index n (by omega)
  go_enter Try.func109, Try.ntmps109
  go_wp2_with fail
  go_ret
  exact ⟨rfl, rfl⟩
 ·have fin : Hid (arT k = -2) := by unfold arT; exact if_pos (by omega)
  by_cases h1 : k < 1
  ·clear h
   go_enter Try.func109, Try.ntmps109
   go_wp2_with fail
   go_ret
   exact ⟨Qgj fin.out.symm, rfl⟩
  ·have h2 : 10 < k := by omega
   clear h
   go_enter Try.func109, Try.ntmps109
   go_wp2_with fail
   go_ret
   exact ⟨Qgj fin.out.symm, rfl⟩
theorem kinds (k : Int) (h : 1 ≤ k ∧ k ≤ 10) : (k = 1 ∧ arT k = 0) ∨ (k = 2 ∧ arT k = 0) ∨ (k = 3 ∧ arT k = 2) ∨ (k = 4 ∧ arT k = 2) ∨ (k = 5 ∧ arT k = 2) ∨ (k = 6 ∧ arT k = 0) ∨ (k = 7 ∧ arT k = 0) ∨ (k = 8 ∧ arT k = -1) ∨ (k = 9 ∧ arT k = 0) ∨ (k = 10 ∧ arT k = 1) := by
 obtain rfl | rfl | rfl | rfl | rfl | rfl | rfl | rfl | rfl | rfl : k = 1 ∨ k = 2 ∨ k = 3 ∨ k = 4 ∨ k = 5 ∨ k = 6 ∨ k = 7 ∨ k = 8 ∨ k = 9 ∨ k = 10 := by omega
 all_goals decide
theorem named_any (t : Nd) (cs : List Value) (w : World) (hk : 1 ≤ t.kind ∧ t.kind ≤ 10) (ht : NdC w t cs) : Calls Try.prog 110 #[.agg cs.toArray] w fun e w' => e = .returned (.bool (Qch t.kind t.name)) ∧ Below w.heap.size w w' := by
 obtain ⟨a, cap, rfl, hsub, hlen, hns⟩ := Qev ht
 clear hsub hlen ht
 generalize t.kind = kk at *
 generalize t.name = ss at *
 generalize t.at = aa at *
 generalize t.num = nn at *
 generalize t.sub.length = len at *
 obtain rfl | rfl | rfl | rfl | rfl | rfl | rfl | rfl | rfl | rfl : kk = 1 ∨ kk = 2 ∨ kk = 3 ∨ kk = 4 ∨ kk = 5 ∨ kk = 6 ∨ kk = 7 ∨ kk = 8 ∨ kk = 9 ∨ kk = 10 := by omega
 all_goals
  clear hk
  go_enter Try.func110, Try.ntmps110
  go_wp2_with ((go_at_call 69; refine (Qis ss hns _).mono ?_; rintro e w1 ⟨rfl, hb⟩))
  all_goals
   go_ret
   first
    | exact ⟨Qae (by simp [Qch, *]), (Below.refl _ _).alloc (Nat.le_refl _) _⟩
    | exact ⟨Qae (by simp [Qch, *]), ((Below.refl _ _).alloc (Nat.le_refl _) _).trans (hb.mono (by simp))⟩
theorem headB_out {t : Nd} (hk : ¬ (1 ≤ t.kind ∧ t.kind ≤ 10)) : Qfn t = false := by
 unfold Qfn; rw [decide_eq_false hk]; rfl
end Go.Proofs.Ytahhgpafjiljfaa
