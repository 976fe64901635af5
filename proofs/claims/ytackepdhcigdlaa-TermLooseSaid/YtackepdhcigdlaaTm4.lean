import Derived.Test.YtackepdhcigdlaaTm3
namespace Go.Proofs.Ytackepdhcigdlaa
open Go.RowKit
def subsOf (k : Int) : Int := if k = 3 ∨ k = 4 ∨ k = 5 then 2 else if k = 7 then 1 else 0
def mostOf (k : Int) : Int := if k = 2 then 7 else if k = 3 ∨ k = 4 ∨ k = 5 then 0 else 1048576
def fst0 (l : List Tm) : Int := match l with | [] => 0 | t :: _ => t.kind
def headB (t : Tm) : Bool := decide (1 ≤ t.kind ∧ t.kind ≤ 8 ∧ (t.sub.length : Int) = subsOf t.kind ∧ 0 ≤ t.num ∧ t.num ≤ mostOf t.kind ∧ (t.kind ≠ 7 ∨ fst0 t.sub = 2))
set_option maxRecDepth 100000 in
set_option maxHeartbeats 1000000 in
theorem head_1 (n : Int) (sub : List Tm) (cs : List Value) (w : World) (ht : TmC w (.mk 1 n sub) cs) :
    Calls Try.prog 73 #[.agg cs.toArray] w fun e w' => e = .returned (.bool (headB (.mk 1 n sub))) ∧ Below w.heap.size w w' := by
  have i1 : ∀ w, (Instr.index 70 (.agg #[.int .i64 0, .int .i64 0, .int .i64 0, .int .i64 2, .int .i64 2, .int .i64 2, .int .i64 0, .int .i64 1, .int .i64 0]) (.int .i64 1)).run Try.prog w = .ok (.int .i64 0) w := fun _ => by kernel_rfl
  have i2 : ∀ w, (Instr.index 70 (.agg #[.int .i64 0, .int .i64 1048576, .int .i64 7, .int .i64 0, .int .i64 0, .int .i64 0, .int .i64 1048576, .int .i64 1048576, .int .i64 1048576]) (.int .i64 1)).run Try.prog w = .ok (.int .i64 1048576) w := fun _ => by kernel_rfl
  obtain ⟨a, cap, rfl, hsub, hlen⟩ := tm_open ht
  simp only [Tm.kind, Tm.num, Tm.sub] at *
  have hh : Hid (headB (.mk 1 n sub) = decide ((sub.length : Int) = 0 ∧ 0 ≤ n ∧ n ≤ 1048576)) := by
    simp [Hid, headB, Tm.kind, Tm.num, Tm.sub, subsOf, mostOf]
  clear ht hsub
  generalize headB (.mk 1 n sub) = B at *
  generalize sub.length = L at *
  go_enter Try.func73, Try.ntmps73
  go_wp2_with fail
  all_goals go_ret
  all_goals refine ⟨ret_bool ?_, (Below.refl _ _).alloc (Nat.le_refl _) _⟩
  all_goals (rw [hh.out, Bool.eq_iff_iff]; simp; omega)
set_option maxRecDepth 100000 in
set_option maxHeartbeats 1000000 in
theorem head_2 (n : Int) (sub : List Tm) (cs : List Value) (w : World) (ht : TmC w (.mk 2 n sub) cs) :
    Calls Try.prog 73 #[.agg cs.toArray] w fun e w' => e = .returned (.bool (headB (.mk 2 n sub))) ∧ Below w.heap.size w w' := by
  have i1 : ∀ w, (Instr.index 70 (.agg #[.int .i64 0, .int .i64 0, .int .i64 0, .int .i64 2, .int .i64 2, .int .i64 2, .int .i64 0, .int .i64 1, .int .i64 0]) (.int .i64 2)).run Try.prog w = .ok (.int .i64 0) w := fun _ => by kernel_rfl
  have i2 : ∀ w, (Instr.index 70 (.agg #[.int .i64 0, .int .i64 1048576, .int .i64 7, .int .i64 0, .int .i64 0, .int .i64 0, .int .i64 1048576, .int .i64 1048576, .int .i64 1048576]) (.int .i64 2)).run Try.prog w = .ok (.int .i64 7) w := fun _ => by kernel_rfl
  obtain ⟨a, cap, rfl, hsub, hlen⟩ := tm_open ht
  simp only [Tm.kind, Tm.num, Tm.sub] at *
  have hh : Hid (headB (.mk 2 n sub) = decide ((sub.length : Int) = 0 ∧ 0 ≤ n ∧ n ≤ 7)) := by
    simp [Hid, headB, Tm.kind, Tm.num, Tm.sub, subsOf, mostOf]
  clear ht hsub
  generalize headB (.mk 2 n sub) = B at *
  generalize sub.length = L at *
  go_enter Try.func73, Try.ntmps73
  go_wp2_with fail
  all_goals go_ret
  all_goals refine ⟨ret_bool ?_, (Below.refl _ _).alloc (Nat.le_refl _) _⟩
  all_goals (rw [hh.out, Bool.eq_iff_iff]; simp; omega)
set_option maxRecDepth 100000 in
set_option maxHeartbeats 1000000 in
theorem head_3 (n : Int) (sub : List Tm) (cs : List Value) (w : World) (ht : TmC w (.mk 3 n sub) cs) :
    Calls Try.prog 73 #[.agg cs.toArray] w fun e w' => e = .returned (.bool (headB (.mk 3 n sub))) ∧ Below w.heap.size w w' := by
  have i1 : ∀ w, (Instr.index 70 (.agg #[.int .i64 0, .int .i64 0, .int .i64 0, .int .i64 2, .int .i64 2, .int .i64 2, .int .i64 0, .int .i64 1, .int .i64 0]) (.int .i64 3)).run Try.prog w = .ok (.int .i64 2) w := fun _ => by kernel_rfl
  have i2 : ∀ w, (Instr.index 70 (.agg #[.int .i64 0, .int .i64 1048576, .int .i64 7, .int .i64 0, .int .i64 0, .int .i64 0, .int .i64 1048576, .int .i64 1048576, .int .i64 1048576]) (.int .i64 3)).run Try.prog w = .ok (.int .i64 0) w := fun _ => by kernel_rfl
  obtain ⟨a, cap, rfl, hsub, hlen⟩ := tm_open ht
  simp only [Tm.kind, Tm.num, Tm.sub] at *
  have hh : Hid (headB (.mk 3 n sub) = decide ((sub.length : Int) = 2 ∧ 0 ≤ n ∧ n ≤ 0)) := by
    simp [Hid, headB, Tm.kind, Tm.num, Tm.sub, subsOf, mostOf]
  clear ht hsub
  generalize headB (.mk 3 n sub) = B at *
  generalize sub.length = L at *
  go_enter Try.func73, Try.ntmps73
  go_wp2_with fail
  all_goals go_ret
  all_goals refine ⟨ret_bool ?_, (Below.refl _ _).alloc (Nat.le_refl _) _⟩
  all_goals (rw [hh.out, Bool.eq_iff_iff]; simp; omega)
set_option maxRecDepth 100000 in
set_option maxHeartbeats 1000000 in
theorem head_4 (n : Int) (sub : List Tm) (cs : List Value) (w : World) (ht : TmC w (.mk 4 n sub) cs) :
    Calls Try.prog 73 #[.agg cs.toArray] w fun e w' => e = .returned (.bool (headB (.mk 4 n sub))) ∧ Below w.heap.size w w' := by
  have i1 : ∀ w, (Instr.index 70 (.agg #[.int .i64 0, .int .i64 0, .int .i64 0, .int .i64 2, .int .i64 2, .int .i64 2, .int .i64 0, .int .i64 1, .int .i64 0]) (.int .i64 4)).run Try.prog w = .ok (.int .i64 2) w := fun _ => by kernel_rfl
  have i2 : ∀ w, (Instr.index 70 (.agg #[.int .i64 0, .int .i64 1048576, .int .i64 7, .int .i64 0, .int .i64 0, .int .i64 0, .int .i64 1048576, .int .i64 1048576, .int .i64 1048576]) (.int .i64 4)).run Try.prog w = .ok (.int .i64 0) w := fun _ => by kernel_rfl
  obtain ⟨a, cap, rfl, hsub, hlen⟩ := tm_open ht
  simp only [Tm.kind, Tm.num, Tm.sub] at *
  have hh : Hid (headB (.mk 4 n sub) = decide ((sub.length : Int) = 2 ∧ 0 ≤ n ∧ n ≤ 0)) := by
    simp [Hid, headB, Tm.kind, Tm.num, Tm.sub, subsOf, mostOf]
  clear ht hsub
  generalize headB (.mk 4 n sub) = B at *
  generalize sub.length = L at *
  go_enter Try.func73, Try.ntmps73
  go_wp2_with fail
  all_goals go_ret
  all_goals refine ⟨ret_bool ?_, (Below.refl _ _).alloc (Nat.le_refl _) _⟩
  all_goals (rw [hh.out, Bool.eq_iff_iff]; simp; omega)
set_option maxRecDepth 100000 in
set_option maxHeartbeats 1000000 in
theorem head_5 (n : Int) (sub : List Tm) (cs : List Value) (w : World) (ht : TmC w (.mk 5 n sub) cs) :
    Calls Try.prog 73 #[.agg cs.toArray] w fun e w' => e = .returned (.bool (headB (.mk 5 n sub))) ∧ Below w.heap.size w w' := by
  have i1 : ∀ w, (Instr.index 70 (.agg #[.int .i64 0, .int .i64 0, .int .i64 0, .int .i64 2, .int .i64 2, .int .i64 2, .int .i64 0, .int .i64 1, .int .i64 0]) (.int .i64 5)).run Try.prog w = .ok (.int .i64 2) w := fun _ => by kernel_rfl
  have i2 : ∀ w, (Instr.index 70 (.agg #[.int .i64 0, .int .i64 1048576, .int .i64 7, .int .i64 0, .int .i64 0, .int .i64 0, .int .i64 1048576, .int .i64 1048576, .int .i64 1048576]) (.int .i64 5)).run Try.prog w = .ok (.int .i64 0) w := fun _ => by kernel_rfl
  obtain ⟨a, cap, rfl, hsub, hlen⟩ := tm_open ht
  simp only [Tm.kind, Tm.num, Tm.sub] at *
  have hh : Hid (headB (.mk 5 n sub) = decide ((sub.length : Int) = 2 ∧ 0 ≤ n ∧ n ≤ 0)) := by
    simp [Hid, headB, Tm.kind, Tm.num, Tm.sub, subsOf, mostOf]
  clear ht hsub
  generalize headB (.mk 5 n sub) = B at *
  generalize sub.length = L at *
  go_enter Try.func73, Try.ntmps73
  go_wp2_with fail
  all_goals go_ret
  all_goals refine ⟨ret_bool ?_, (Below.refl _ _).alloc (Nat.le_refl _) _⟩
  all_goals (rw [hh.out, Bool.eq_iff_iff]; simp; omega)
set_option maxRecDepth 100000 in
set_option maxHeartbeats 1000000 in
theorem head_6 (n : Int) (sub : List Tm) (cs : List Value) (w : World) (ht : TmC w (.mk 6 n sub) cs) :
    Calls Try.prog 73 #[.agg cs.toArray] w fun e w' => e = .returned (.bool (headB (.mk 6 n sub))) ∧ Below w.heap.size w w' := by
  have i1 : ∀ w, (Instr.index 70 (.agg #[.int .i64 0, .int .i64 0, .int .i64 0, .int .i64 2, .int .i64 2, .int .i64 2, .int .i64 0, .int .i64 1, .int .i64 0]) (.int .i64 6)).run Try.prog w = .ok (.int .i64 0) w := fun _ => by kernel_rfl
  have i2 : ∀ w, (Instr.index 70 (.agg #[.int .i64 0, .int .i64 1048576, .int .i64 7, .int .i64 0, .int .i64 0, .int .i64 0, .int .i64 1048576, .int .i64 1048576, .int .i64 1048576]) (.int .i64 6)).run Try.prog w = .ok (.int .i64 1048576) w := fun _ => by kernel_rfl
  obtain ⟨a, cap, rfl, hsub, hlen⟩ := tm_open ht
  simp only [Tm.kind, Tm.num, Tm.sub] at *
  have hh : Hid (headB (.mk 6 n sub) = decide ((sub.length : Int) = 0 ∧ 0 ≤ n ∧ n ≤ 1048576)) := by
    simp [Hid, headB, Tm.kind, Tm.num, Tm.sub, subsOf, mostOf]
  clear ht hsub
  generalize headB (.mk 6 n sub) = B at *
  generalize sub.length = L at *
  go_enter Try.func73, Try.ntmps73
  go_wp2_with fail
  all_goals go_ret
  all_goals refine ⟨ret_bool ?_, (Below.refl _ _).alloc (Nat.le_refl _) _⟩
  all_goals (rw [hh.out, Bool.eq_iff_iff]; simp; omega)
set_option maxRecDepth 100000 in
set_option maxHeartbeats 1000000 in
theorem head_7 (n : Int) (sub : List Tm) (cs : List Value) (w : World) (ht : TmC w (.mk 7 n sub) cs) :
    Calls Try.prog 73 #[.agg cs.toArray] w fun e w' => e = .returned (.bool (headB (.mk 7 n sub))) ∧ Below w.heap.size w w' := by
  have i1 : ∀ w, (Instr.index 70 (.agg #[.int .i64 0, .int .i64 0, .int .i64 0, .int .i64 2, .int .i64 2, .int .i64 2, .int .i64 0, .int .i64 1, .int .i64 0]) (.int .i64 7)).run Try.prog w = .ok (.int .i64 1) w := fun _ => by kernel_rfl
  have i2 : ∀ w, (Instr.index 70 (.agg #[.int .i64 0, .int .i64 1048576, .int .i64 7, .int .i64 0, .int .i64 0, .int .i64 0, .int .i64 1048576, .int .i64 1048576, .int .i64 1048576]) (.int .i64 7)).run Try.prog w = .ok (.int .i64 1048576) w := fun _ => by kernel_rfl
  obtain ⟨a, cap, rfl, hsub, hlen⟩ := tm_open ht
  simp only [Tm.kind, Tm.num, Tm.sub] at *
  have hh : Hid (headB (.mk 7 n sub) = decide ((sub.length : Int) = 1 ∧ 0 ≤ n ∧ n ≤ 1048576 ∧ fst0 sub = 2)) := by
    simp [Hid, headB, Tm.kind, Tm.num, Tm.sub, subsOf, mostOf]
  by_cases hl : sub.length = 1
  · match sub, hl with
    | [t0], _ =>
    obtain ⟨b, off, a', cap', rfl, e0, e1, e2, hts⟩ := sub_at hsub ((Below.refl _ _).alloc (Nat.le_refl _) (.cells #[.int .i64 7, .int .i64 n, .slice a 1 cap] 24)) 0 (by simp)
    simp only [Nat.zero_mul, Nat.add_zero, List.getElem_cons_zero] at e0
    clear ht hsub hts e1 e2
    by_cases h1 : 0 ≤ n
    · by_cases h2 : n ≤ 1048576
      · by_cases h3 : t0.kind = 2
        · have h3' : (t0.kind == 2) = true := by rw [h3]; rfl
          have fin : Hid (headB (.mk 7 n [t0]) = true) := by rw [hh.out]; show decide _ = true; simp [fst0, h3, h1, h2]
          clear h3
          go_enter Try.func73, Try.ntmps73
          go_wp2_with fail
          go_ret
          exact ⟨ret_bool fin.out.symm, (Below.refl _ _).alloc (Nat.le_refl _) _⟩
        · have h3' : (t0.kind == 2) = false := by simpa using h3
          have fin : Hid (headB (.mk 7 n [t0]) = false) := by rw [hh.out]; show decide _ = false; simp [fst0, h3]
          clear h3
          go_enter Try.func73, Try.ntmps73
          go_wp2_with fail
          go_ret
          exact ⟨ret_bool fin.out.symm, (Below.refl _ _).alloc (Nat.le_refl _) _⟩
      · have fin : Hid (headB (.mk 7 n [t0]) = false) := by rw [hh.out]; show decide _ = false; rw [decide_eq_false_iff_not]; omega
        go_enter Try.func73, Try.ntmps73
        go_wp2_with fail
        go_ret
        exact ⟨ret_bool fin.out.symm, (Below.refl _ _).alloc (Nat.le_refl _) _⟩
    · have fin : Hid (headB (.mk 7 n [t0]) = false) := by rw [hh.out]; show decide _ = false; rw [decide_eq_false_iff_not]; omega
      go_enter Try.func73, Try.ntmps73
      go_wp2_with fail
      go_ret
      exact ⟨ret_bool fin.out.symm, (Below.refl _ _).alloc (Nat.le_refl _) _⟩
  · have fin : Hid (headB (.mk 7 n sub) = false) := by rw [hh.out]; show decide _ = false; rw [decide_eq_false_iff_not]; omega
    have h1 : ((sub.length : Int) == 1) = false := by simp; omega
    clear ht hsub
    go_enter Try.func73, Try.ntmps73
    go_wp2_with fail
    go_ret
    exact ⟨ret_bool fin.out.symm, (Below.refl _ _).alloc (Nat.le_refl _) _⟩
set_option maxRecDepth 100000 in
set_option maxHeartbeats 1000000 in
theorem head_8 (n : Int) (sub : List Tm) (cs : List Value) (w : World) (ht : TmC w (.mk 8 n sub) cs) :
    Calls Try.prog 73 #[.agg cs.toArray] w fun e w' => e = .returned (.bool (headB (.mk 8 n sub))) ∧ Below w.heap.size w w' := by
  have i1 : ∀ w, (Instr.index 70 (.agg #[.int .i64 0, .int .i64 0, .int .i64 0, .int .i64 2, .int .i64 2, .int .i64 2, .int .i64 0, .int .i64 1, .int .i64 0]) (.int .i64 8)).run Try.prog w = .ok (.int .i64 0) w := fun _ => by kernel_rfl
  have i2 : ∀ w, (Instr.index 70 (.agg #[.int .i64 0, .int .i64 1048576, .int .i64 7, .int .i64 0, .int .i64 0, .int .i64 0, .int .i64 1048576, .int .i64 1048576, .int .i64 1048576]) (.int .i64 8)).run Try.prog w = .ok (.int .i64 1048576) w := fun _ => by kernel_rfl
  obtain ⟨a, cap, rfl, hsub, hlen⟩ := tm_open ht
  simp only [Tm.kind, Tm.num, Tm.sub] at *
  have hh : Hid (headB (.mk 8 n sub) = decide ((sub.length : Int) = 0 ∧ 0 ≤ n ∧ n ≤ 1048576)) := by
    simp [Hid, headB, Tm.kind, Tm.num, Tm.sub, subsOf, mostOf]
  clear ht hsub
  generalize headB (.mk 8 n sub) = B at *
  generalize sub.length = L at *
  go_enter Try.func73, Try.ntmps73
  go_wp2_with fail
  all_goals go_ret
  all_goals refine ⟨ret_bool ?_, (Below.refl _ _).alloc (Nat.le_refl _) _⟩
  all_goals (rw [hh.out, Bool.eq_iff_iff]; simp; omega)
set_option maxRecDepth 100000 in
set_option maxHeartbeats 1000000 in
theorem head_any (t : Tm) (cs : List Value) (w : World) (ht : TmC w t cs) :
    Calls Try.prog 73 #[.agg cs.toArray] w fun e w' => e = .returned (.bool (headB t)) ∧ Below w.heap.size w w' := by
  cases t with
  | mk kk n sub =>
  by_cases hk : 1 ≤ kk ∧ kk ≤ 8
  · have : kk = 1 ∨ kk = 2 ∨ kk = 3 ∨ kk = 4 ∨ kk = 5 ∨ kk = 6 ∨ kk = 7 ∨ kk = 8 := by omega
    rcases this with rfl | rfl | rfl | rfl | rfl | rfl | rfl | rfl
    · exact head_1 n sub cs w ht
    · exact head_2 n sub cs w ht
    · exact head_3 n sub cs w ht
    · exact head_4 n sub cs w ht
    · exact head_5 n sub cs w ht
    · exact head_6 n sub cs w ht
    · exact head_7 n sub cs w ht
    · exact head_8 n sub cs w ht
  · have fin : Hid (headB (.mk kk n sub) = false) := by
      show decide _ = false; rw [decide_eq_false_iff_not]; simp only [Tm.kind]; omega
    obtain ⟨a, cap, rfl, hsub, hlen⟩ := tm_open ht
    simp only [Tm.kind, Tm.num, Tm.sub] at *
    clear ht hsub
    by_cases h1 : kk < 1
    · clear hk
      go_enter Try.func73, Try.ntmps73
      go_wp2_with fail
      go_ret
      exact ⟨ret_bool fin.out.symm, (Below.refl _ _).alloc (Nat.le_refl _) _⟩
    · have h2 : 8 < kk := by omega
      clear hk
      go_enter Try.func73, Try.ntmps73
      go_wp2_with fail
      go_ret
      exact ⟨ret_bool fin.out.symm, (Below.refl _ _).alloc (Nat.le_refl _) _⟩
end Go.Proofs.Ytackepdhcigdlaa
