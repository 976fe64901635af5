import Derived.Test.YtffgfjnbgplckaaN2
namespace Go.Proofs.Ytffgfjnbgplckaa
open Go.RowKit
theorem slc_at {w wr : World} {a : Option Addr} {cap n : Nat} {xs : List Value} (h : Slc w (.slice a n cap) xs) (hb : Below w.heap.size w wr) (k : Nat) (hk : k < xs.length) :
    ∃ b off, a = some ⟨b, off, none⟩ ∧ wr.cell? ⟨b, off + k, none⟩ = some xs[k] := by
  obtain ⟨a', cap', hv, hm, hc⟩ := h
  obtain ⟨b, off, ha, hcell⟩ := hc (by intro e; rw [e] at hk; simp at hk)
  simp only [Value.slice.injEq] at hv
  have h1 := hcell k hk
  rw [List.getElem?_eq_getElem hk] at h1
  exact ⟨b, off, by rw [hv.1, ha], (hb.cell (World.block_lt_of_cell? w _ h1)).trans h1⟩
theorem slc_shape {w : World} {v : Value} {xs : List Value} (h : Slc w v xs) : ∃ a cap, v = .slice a xs.length cap ∧ xs.length ≤ 9223372036854775807 ∧ xs.length ≤ maxLen := by
  obtain ⟨a, cap, hv, hm, _⟩ := h
  exact ⟨a, cap, hv, by unfold maxLen at hm; omega, hm⟩
theorem contains_take (l : List Int) (n : Int) (k : Nat) (h : k < l.length) : (l.take (k + 1)).contains n = ((l.take k).contains n || l[k] == n) := by
  rw [List.take_succ_eq_append_getElem h, List.contains_append]
  congr 1
  rw [List.contains_cons]
  simp [Bool.beq_comm]
theorem rin_any (l : List Int) (v : Value) (n : Int) (w0 w : World) (hv : Slc w0 v (l.map (Value.int .i64))) (hb : Below w0.heap.size w0 w) :
    Calls Try.prog 108 #[v, .int .i64 n] w fun e w' => e = .returned (.bool (l.contains n)) ∧ w = w' := by
  obtain ⟨a, cap, rfl, hm, -⟩ := slc_shape hv
  rw [List.length_map] at hm hv ⊢
  go_enter Try.func108, Try.ntmps108
  go_wp2_with fail
  go_loopw [5] (fun i wr => ∃ (k : Nat), k ≤ l.length ∧ i = .int .i64 k ∧ Hid ((l.take k).contains n = false) ∧ w = wr) (fun i _ => l.length - (intOf i).toNat)
  case atStart => exact ⟨0, Nat.zero_le _, rfl, rfl, rfl⟩
  case round =>
    obtain ⟨k, hk, rfl, hno, rfl⟩ := hrel
    by_cases hlt : k < l.length
    · obtain ⟨b, off, rfl, hc⟩ := slc_at hv hb k (by simpa using hlt)
      rw [List.getElem_map] at hc
      have hct := contains_take l n k hlt
      rw [hno.out, Bool.false_or] at hct
      have HCT := Lib.hid hct
      clear hct
      cases hq : (l[k] == n) with
      | true =>
        have fin : Hid (true = l.contains n) := by
          have h := HCT.out
          rw [hq] at h
          show _ = _
          symm
          rw [List.contains_iff_mem] at h ⊢
          exact List.mem_of_mem_take h
        have HQ := Lib.hid hq
        go_wp2_with fail
        go_ret
        exact ⟨ret_bool fin.out, rfl⟩
      | false =>
        have HQ : Hid ((l.take (k + 1)).contains n = false) := by rw [← hq]; exact HCT.out
        go_wp2_with fail
        go_roundw
        case rel => exact ⟨k + 1, hlt, by simp, HQ.out, trivial⟩
        case measure => simp [intOf]; omega
    · obtain rfl : k = l.length := by omega
      have fin : Hid (false = l.contains n) := by
        have h := hno.out
        rw [List.take_length] at h
        exact h.symm
      go_wp2_with fail
      go_ret
      exact ⟨ret_bool fin.out, rfl⟩
theorem rmark_any (n : Int) (w : World) : Calls Try.prog 103 #[.int .i64 n] w fun e w' => e = .returned (.bool (markB n)) ∧ Below w.heap.size w w' := by
  have fin : Hid (decide (n ∈ markL) = markB n) := by
    show _ = _
    rw [Bool.eq_iff_iff]; simp [markL, markB]
  have hown : (w.alloc (.cells (markL.map (Value.int .i64)).toArray 3)).ownsRow w.heap.size 3 1 (.slice (some ⟨w.heap.size, 0, none⟩) 15 15) 15 (markL.map (Value.int .i64)) :=
    own_lit 3 rfl (by decide) (Below.refl _ _)
  go_enter Try.func103, Try.ntmps103
  go_wp2_with fail
  refine (rin_any markL _ n _ _ (Slc.own hown) (Below.refl _ _)).mono ?_
  rintro e w1 ⟨rfl, rfl⟩
  go_wp2_with fail
  go_ret
  exact ⟨ret_bool fin.out, (Below.refl _ _).alloc (Nat.le_refl _) _⟩
set_option maxHeartbeats 2000000 in
theorem rletter_any (n : Int) (w : World) : Calls Try.prog 88 #[.int .i64 n] w fun e w' => e = .returned (.bool (letterB n)) ∧ Below w.heap.size w w' := by
  go_enter Try.func88, Try.ntmps88
  go_wp2_with (first | (go_at_call 102; refine (rright_any _ _).mono ?_; rintro e w1 ⟨rfl, rfl⟩; cases hr : right n) | (go_at_call 103; refine (rmark_any _ _).mono ?_; rintro e w2 ⟨rfl, hb⟩; cases hm : markB n))
  all_goals go_ret
  all_goals refine ⟨ret_bool ?_, by first | exact hb | exact Below.refl _ _⟩
  all_goals (unfold letterB; (try rw [hr]); (try rw [hm]); rw [Bool.eq_iff_iff]; simp; omega)
end Go.Proofs.Ytffgfjnbgplckaa
