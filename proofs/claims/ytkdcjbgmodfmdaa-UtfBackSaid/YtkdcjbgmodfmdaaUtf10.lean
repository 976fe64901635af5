import Derived.Test.YtkdcjbgmodfmdaaUtf9
import Derived.Deep.QuietTactic
import Derived.BigQuiet
namespace Go.Proofs.Ytkdcjbgmodfmdaa
open Go.RowKit
set_option maxHeartbeats 400000 in
theorem count_any (s : ByteArray) (hs : s.size ≤ maxLen) (w : World) :
    Calls Try.prog 18 #[.string s] w fun e w' => e = .returned (.tuple #[.int .i64 (allS s).length, .int .i64 (allE s)]) ∧ Below w.heap.size w w' := by
  go_enter Try.func18, Try.ntmps18
  go_wp2_with fail
  refine (all_any s hs _).mono ?_
  rintro e w' ⟨v, rfl, hown, hb⟩
  obtain ⟨a, cap, rfl, _⟩ := Slc.own hown
  clear hown
  go_wp2_with fail
  go_ret2
  exact ⟨by simp, hb⟩
set_option maxRecDepth 100000 in
set_option maxHeartbeats 400000 in
theorem sameints_any (xs ys : List Int) (va vb : Value) (w : World) (ha : Slc w va (xs.map (Value.int .i64))) (hb : Slc w vb (ys.map (Value.int .i64))) :
    Calls Try.prog 19 #[va, vb] w fun e w' => e = .returned (.bool (decide (xs = ys))) ∧ Below w.heap.size w w' := by
  obtain ⟨a, ca, rfl, hma, hca⟩ := ha
  obtain ⟨b, cb, rfl, hmb, hcb⟩ := hb
  have HA := Lib.hid hca; clear hca
  have HB := Lib.hid hcb; clear hcb
  simp only [List.length_map] at *
  unfold maxLen at hma hmb
  by_cases hl : xs.length = ys.length
  · have hl1 : ((xs.length : Int) != (ys.length : Int)) = false := by rw [hl]; simp
    have HL := Lib.hid hl; clear hl
    go_enter Try.func19, Try.ntmps19
    go_wp2_with fail
    go_loopw [5] (fun i wr => ∃ k : Nat, k ≤ xs.length ∧ i = .int .i64 k ∧ Hid (xs.take k = ys.take k) ∧ Below w.heap.size w wr) (fun i _ => xs.length - (intOf i).toNat)
    case atStart => exact ⟨0, Nat.zero_le _, rfl, rfl, Below.refl _ _⟩
    case round =>
      obtain ⟨k, hk, rfl, HT, hbel⟩ := hrel
      by_cases hlt : k < xs.length
      · obtain ⟨ba, oa, rfl, hcella⟩ := HA.out (by intro h; rw [List.map_eq_nil_iff] at h; rw [h] at hlt; simp at hlt)
        obtain ⟨bb, ob, rfl, hcellb⟩ := HB.out (by intro h; rw [List.map_eq_nil_iff] at h; have := HL.out; rw [h] at this; rw [this] at hlt; simp at hlt)
        have hk2 : k < ys.length := by have := HL.out; omega
        have c1 : wr.cell? ⟨ba, oa + k, none⟩ = some (.int .i64 xs[k]) := by
          have := hcella k (by simpa using hlt)
          rw [List.getElem?_map, List.getElem?_eq_getElem hlt] at this
          rw [hbel.cell (World.block_lt_of_cell? w _ this), this]; rfl
        have c2 : wr.cell? ⟨bb, ob + k, none⟩ = some (.int .i64 ys[k]) := by
          have := hcellb k (by simpa using hk2)
          rw [List.getElem?_map, List.getElem?_eq_getElem hk2] at this
          rw [hbel.cell (World.block_lt_of_cell? w _ this), this]; rfl
        clear hcella hcellb
        by_cases hne : xs[k] = ys[k]
        · have hb1 : (xs[k] != ys[k]) = false := by rw [hne]; simp
          have HT2 : Hid (xs.take (k+1) = ys.take (k+1)) := by
            show xs.take (k+1) = ys.take (k+1)
            rw [List.take_succ_eq_append_getElem hlt, List.take_succ_eq_append_getElem hk2, HT.out, hne]
          clear hne
          go_wp2_with fail
          go_quiet (fail)
          go_wp2_with fail
          go_roundw
          case rel => exact ⟨k + 1, by omega, by go_num, HT2, below_drewN hbel _⟩
          case measure => simp [intOf]; omega
        · have hb1 : (xs[k] != ys[k]) = true := by simpa using hne
          have fin : Hid (decide (xs = ys) = false) := by
            show decide (xs = ys) = false
            rw [decide_eq_false_iff_not]; intro e; subst e; exact hne rfl
          clear hne
          go_wp2_with fail
          go_quiet (fail)
          go_wp2_with fail
          go_ret
          exact ⟨ret_bool fin.out.symm, below_drewN hbel _⟩
      · have fin : Hid (decide (xs = ys) = true) := by
          show decide (xs = ys) = true
          have h1 := HT.out
          have h2 := HL.out
          rw [List.take_of_length_le (by omega), List.take_of_length_le (by omega)] at h1
          simp [h1]
        go_wp2_with fail
        go_ret
        exact ⟨ret_bool fin.out.symm, hbel⟩
  · have hl1 : ((xs.length : Int) != (ys.length : Int)) = true := by simp; omega
    have fin : Hid (decide (xs = ys) = false) := by
      show decide (xs = ys) = false
      rw [decide_eq_false_iff_not]; intro e; subst e; exact hl rfl
    clear hl
    go_enter Try.func19, Try.ntmps19
    go_wp2_with fail
    go_ret
    exact ⟨ret_bool fin.out.symm, Below.refl _ _⟩
end Go.Proofs.Ytkdcjbgmodfmdaa
