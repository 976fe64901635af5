import Derived.Test.YtffgfjnbgplckaaN3
import Derived.Test.YtffgfjnbgplckaaUtf14
namespace Go.Proofs.Ytffgfjnbgplckaa
open Go.RowKit
/-- is a text a name -/
def rightN (s : ByteArray) : Bool := allE s == 0 && decide (s.size ≠ 0 ∧ s.size ≤ 40) && !kwB s && (allS s).all innerB && (letterB ((allS s).headD 0) || ((allS s).headD 0 == 95 && decide (1 < (allS s).length)))
theorem allS_len (s : ByteArray) (h : allE s = 0) : (allS s).length = 0 ↔ s.size = 0 := by
  obtain ⟨_, hj⟩ := back_text s h
  constructor
  · intro h0
    rw [List.eq_nil_of_length_eq_zero h0] at hj
    rw [← hj]; rfl
  · intro h0
    have hs : s = ⟨#[]⟩ := by
      apply ByteArray.ext
      exact Array.eq_empty_of_size_eq_zero h0
    subst hs
    decide
theorem headD_get : ∀ (l : List Int) (h : 0 < l.length), l.headD 0 = l[0] := by
  intro l h
  cases l with
  | nil => simp at h
  | cons x xs => rfl
theorem all_take (l : List Int) (p : Int → Bool) (k : Nat) (h : k < l.length) : (l.take (k + 1)).all p = ((l.take k).all p && p l[k]) := by
  rw [List.take_succ_eq_append_getElem h, List.all_append]
  simp
theorem all_shape (s : ByteArray) (hs : s.size ≤ maxLen) (w : World) :
    Calls Try.prog 82 #[.string s] w fun e w' => ∃ a c L, e = .returned (.tuple #[.slice a L c, .int .i64 (allAt s), .int .i64 (allE s)]) ∧ Hid ((allS s).length = L) ∧ L ≤ 9223372036854775807 ∧ Slc w' (.slice a L c) ((allS s).map (Value.int .i64)) ∧ Below w.heap.size w w' := by
  refine (all_any s hs w).mono ?_
  rintro e w' ⟨v, rfl, ho, hb⟩
  have hS := Slc.own ho
  obtain ⟨a, c, hv, hl, -⟩ := slc_shape hS
  rw [List.length_map] at hv hl
  subst hv
  exact ⟨a, c, _, rfl, rfl, hl, hS, hb⟩
theorem rall_shape (s : ByteArray) (hs : s.size ≤ maxLen) (w : World) :
    Calls Try.prog 86 #[.string s] w fun e w' => ∃ a c L, e = .returned (.tuple #[.slice a L c, .int .i64 (allAt s), .int .i64 (allE s)]) ∧ Hid ((allS s).length = L) ∧ L ≤ 9223372036854775807 ∧ Slc w' (.slice a L c) ((allS s).map (Value.int .i64)) ∧ Below w.heap.size w w' := by
  refine (rall_any s hs w).mono ?_
  rintro e w' ⟨v, rfl, ho, hb⟩
  have hS := Slc.own ho
  obtain ⟨a, c, hv, hl, -⟩ := slc_shape hS
  rw [List.length_map] at hv hl
  subst hv
  exact ⟨a, c, _, rfl, rfl, hl, hS, hb⟩
set_option maxRecDepth 100000 in
set_option maxHeartbeats 2000000 in
theorem right_name (s : ByteArray) (hs : s.size ≤ maxLen) (w : World) :
    Calls Try.prog 59 #[.string s] w fun e w' => e = .returned (.bool (rightN s)) ∧ Below w.heap.size w w' := by
  have hs2 : s.size ≤ 9223372036854775807 := by unfold maxLen at hs; omega
  have hlen := Lib.hid (allS_len s)
  have HS := Lib.hid hs
  clear hs
  go_enter Try.func59, Try.ntmps59
  go_wp2_with fail
  refine (all_shape s HS.out _).mono ?_
  rintro e w1 ⟨a, c, L, rfl, hL, hl, hS, hb⟩
  by_cases hE : allE s = 0
  · have hll := hlen.out hE
    rw [hL.out] at hll
    by_cases h0 : s.size = 0
    · have hz : ((L : Int) == 0) = true := by have := hll.2 h0; simp; omega
      have fin : Hid (false = rightN s) := by show _ = _; simp [rightN, h0]
      go_wp2_with fail
      go_ret
      exact ⟨ret_bool fin.out, hb⟩
    · have hz : ((L : Int) == 0) = false := by have := mt hll.1 h0; simp; omega
      have hz' : 0 < L := by have := mt hll.1 h0; omega
      clear hll
      by_cases h40 : 40 < (s.size : Int)
      · have hd40 : decide (40 < (s.size : Int)) = true := by simp; omega
        have fin : Hid (false = rightN s) := by
          have : ¬ s.size ≤ 40 := by omega
          show _ = _; simp [rightN, this]
        go_wp2_with fail
        all_goals go_ret
        all_goals exact ⟨ret_bool fin.out, hb⟩
      · have hd40 : decide (40 < (s.size : Int)) = false := by simp; omega
        cases hk : kwB s with
        | true =>
          have fin : Hid (false = rightN s) := by show _ = _; simp [rightN, hk]
          have HK := Lib.hid hk
          clear hk
          go_wp2_with (go_at_call 83; refine (keyword_any s _).mono ?_; rw [HK.out]; rintro e w2 ⟨rfl, rfl⟩)
          go_ret
          exact ⟨ret_bool fin.out, hb⟩
        | false =>
          have fin : Hid (rightN s = ((allS s).all innerB && (letterB ((allS s).headD 0) || ((allS s).headD 0 == 95 && decide (1 < (allS s).length))))) := by
            have : s.size ≤ 40 := by omega
            show _ = _; simp [rightN, hk, hE, h0, this]
          have HK := Lib.hid hk
          clear hk
          go_wp2_with (go_at_call 83; refine (keyword_any s _).mono ?_; rw [HK.out]; rintro e w2 ⟨rfl, rfl⟩)
          have hk0 : (0 : Int) < L := by omega
          go_loopw [32] (fun i wr => ∃ (k : Nat), k ≤ L ∧ i = .int .i64 k ∧ Hid (((allS s).take k).all innerB = true) ∧ w1 = wr) (fun i _ => L - (intOf i).toNat)
          case atStart => exact ⟨0, Nat.zero_le _, rfl, rfl, rfl⟩
          case round =>
            obtain ⟨k, hk, rfl, hno, rfl⟩ := hrel
            by_cases hlt : k < L
            · have hltS : k < (allS s).length := by have := hL.out; omega
              obtain ⟨b, off, rfl, hc⟩ := slc_at hS (Below.refl _ _) k (by simpa using hltS)
              rw [List.getElem_map] at hc
              have hct := all_take (allS s) innerB k hltS
              rw [hno.out, Bool.true_and] at hct
              have HCT := Lib.hid hct
              clear hct
              have hi0 : (0 : Int) ≤ k := by omega
              have hi1 : (k : Int) < L := by omega
              cases hq : innerB (allS s)[k] with
              | true =>
                have HQ := Lib.hid hq
                clear hq
                go_wp2_with (go_at_call 84; refine (inner_any _ _).mono ?_; rw [HQ.out]; rintro e w2 ⟨rfl, rfl⟩)
                go_roundw
                case rel => exact ⟨k + 1, hlt, by simp, HCT.out.trans HQ.out, trivial⟩
                case measure => simp [intOf]; omega
              | false =>
                have HQ := Lib.hid hq
                clear hq
                have fin2 : Hid (false = rightN s) := by
                  show _ = _
                  rw [fin.out]
                  have : (allS s).all innerB = false := by
                    cases h : (allS s).all innerB with
                    | false => rfl
                    | true =>
                      rw [List.all_eq_true] at h
                      have := h _ (List.getElem_mem hltS)
                      rw [HQ.out] at this
                      cases this
                  rw [this]; rfl
                go_wp2_with (go_at_call 84; refine (inner_any _ _).mono ?_; rw [HQ.out]; rintro e w2 ⟨rfl, rfl⟩)
                go_ret
                exact ⟨ret_bool fin2.out, hb⟩
            · obtain rfl : k = L := by omega
              have hpS : 0 < (allS s).length := by have := hL.out; omega
              obtain ⟨b, off, rfl, hc⟩ := slc_at hS (Below.refl _ _) 0 (by simpa using hpS)
              rw [List.getElem_map, Nat.add_zero] at hc
              have hhd : Hid ((allS s).headD 0 = (allS s)[0]) := by
                exact headD_get _ hpS
              have fin2 : Hid (rightN s = (letterB (allS s)[0] || ((allS s)[0] == 95 && decide (1 < (k : Int))))) := by
                show _ = _
                have h := hno.out
                rw [List.take_of_length_le (by rw [hL.out]; exact Nat.le_refl _)] at h
                rw [fin.out, h, hhd.out, hL.out, Bool.true_and]
                congr 2
                simp
                omega
              have hi1 : (0 : Int) < k := by omega
              generalize (allS s)[0] = x at *
              cases hq : letterB x with
              | true =>
                have HQ := Lib.hid hq
                clear hq
                have fin3 : Hid (true = rightN s) := by show _ = _; rw [fin2.out, HQ.out]; rfl
                go_wp2_with (go_at_call 85; refine (letter_any _ _).mono ?_; rw [HQ.out]; rintro e w2 ⟨rfl, rfl⟩)
                go_ret
                exact ⟨ret_bool fin3.out, hb⟩
              | false =>
                have HQ := Lib.hid hq
                clear hq
                have fin3 : Hid ((x == 95 && decide (1 < (k : Int))) = rightN s) := by show _ = _; rw [fin2.out, HQ.out]; rfl
                cases h95 : (x == 95) with
                | true =>
                  have fin4 : Hid (decide (1 < (k : Int)) = rightN s) := by rw [← fin3.out, h95]; rfl
                  go_wp2_with (go_at_call 85; refine (letter_any _ _).mono ?_; rw [HQ.out]; rintro e w2 ⟨rfl, rfl⟩)
                  all_goals go_ret
                  all_goals exact ⟨ret_bool fin4.out, hb⟩
                | false =>
                  have fin4 : Hid (false = rightN s) := by rw [← fin3.out, h95]; rfl
                  go_wp2_with (go_at_call 85; refine (letter_any _ _).mono ?_; rw [HQ.out]; rintro e w2 ⟨rfl, rfl⟩)
                  all_goals go_ret
                  all_goals exact ⟨ret_bool fin4.out, hb⟩
  · have fin : Hid (false = rightN s) := by show _ = _; simp [rightN, hE]
    go_wp2_with fail
    go_ret
    exact ⟨ret_bool fin.out, hb⟩
end Go.Proofs.Ytffgfjnbgplckaa
