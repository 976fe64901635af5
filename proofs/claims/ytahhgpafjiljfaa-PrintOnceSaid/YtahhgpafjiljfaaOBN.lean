import Derived.Test.YtahhgpafjiljfaaOBUtf
import Derived.Test.YtahhgpafjiljfaaOBK
set_option linter.unusedSimpArgs false
set_option linter.unusedVariables false
set_option maxHeartbeats 16000000
set_option maxRecDepth 100000
namespace Go.Proofs.Ytahhgpafjiljfaa
open Go.RowKit
def Qec (n : Int) : Bool := decide (n = 9 ∨ n = 10 ∨ n = 13 ∨ n = 32)
def Qar (n : Int) : Bool := decide (48 ≤ n ∧ n ≤ 57)
def markB (n : Int) : Bool := decide (n = 40 ∨ n = 41 ∨ n = 123 ∨ n = 125 ∨ n = 58 ∨ n = 61 ∨ n = 46 ∨ n = 44 ∨ n = 59 ∨ n = 124 ∨ n = 92 ∨ n = 955 ∨ n = 8594 ∨ n = 45 ∨ n = 62)
def Qbo (n : Int) : Bool := decide ((97 ≤ n ∧ n ≤ 122) ∨ (65 ≤ n ∧ n ≤ 90) ∨ (128 ≤ n ∧ right n = true ∧ markB n = false ∧ n ≠ 160 ∧ (n < 8192 ∨ 8303 < n)))
def Qah (n : Int) : Bool := Qbo n || Qar n || n == 95 || n == 39
theorem blank_any (n : Int) (w : World) : Calls Try.prog 60 #[.int .i64 n] w fun e w' => e = .returned (.bool (Qec n)) ∧ w = w' := by
 go_enter Try.func60, Try.ntmps60
 go_wp2
 all_goals go_ret
 all_goals refine ⟨Qae ?_, rfl⟩
 all_goals (unfold Qec; rw [Bool.eq_iff_iff]; simp; omega)
theorem digit_any (n : Int) (w : World) : Calls Try.prog 22 #[.int .i64 n] w fun e w' => e = .returned (.bool (Qar n)) ∧ w = w' := by
 go_enter Try.func22, Try.ntmps22
 go_wp2
 all_goals go_ret
 all_goals refine ⟨Qae ?_, rfl⟩
 all_goals (unfold Qar; rw [Bool.eq_iff_iff]; simp; omega)
theorem mark_any (n : Int) (w : World) : Calls Try.prog 93 #[.int .i64 n] w fun e w' => e = .returned (.bool (markB n)) ∧ w = w' := by
 go_enter Try.func93, Try.ntmps93
 go_wp2
 all_goals go_ret
 all_goals refine ⟨Qae ?_, rfl⟩
 all_goals (simp only [beq_iff_eq, beq_eq_false_iff_ne, ne_eq] at *; unfold markB; rw [Bool.eq_iff_iff]; simp; omega)
theorem Qhl (n : Int) (w : World) : Calls Try.prog 65 #[.int .i64 n] w fun e w' => e = .returned (.bool (Qbo n)) ∧ w = w' := by
 go_enter Try.func65, Try.ntmps65
 go_wp2_with (first | (go_at_call 91; refine (Qdq _ _).mono ?_; rintro e w1 ⟨rfl, rfl⟩; cases hr : right n) | (go_at_call 93; refine (mark_any _ _).mono ?_; rintro e w2 ⟨rfl, rfl⟩; cases hm : markB n))
 all_goals go_ret
 all_goals refine ⟨Qae ?_, rfl⟩
 all_goals (unfold Qbo; (try rw [hr]); (try rw [hm]); rw [Bool.eq_iff_iff]; simp; omega)
def kwB (s : ByteArray) : Bool := s.toList == [100, 97, 116, 97] || s.toList == [114, 101, 99, 111, 114, 100] || s.toList == [100, 101, 102] || s.toList == [83, 101, 116]
theorem Qjq (s : ByteArray) (w : World) : Calls Try.prog 68 #[.string s] w fun e w' => e = .returned (.bool (kwB s)) ∧ w = w' := by
 go_enter Try.func68, Try.ntmps68
 go_wp2
 all_goals go_ret
 all_goals refine ⟨Qae ?_, rfl⟩
 all_goals (unfold kwB; simp_all)
theorem inner_any (n : Int) (w : World) : Calls Try.prog 95 #[.int .i64 n] w fun e w' => e = .returned (.bool (Qah n)) ∧ w = w' := by
 go_enter Try.func95, Try.ntmps95
 go_wp2_with (first | (go_at_call 65; refine (Qhl _ _).mono ?_; rintro e w1 ⟨rfl, rfl⟩; cases hr : Qbo n) | (go_at_call 22; refine (digit_any _ _).mono ?_; rintro e w2 ⟨rfl, rfl⟩; cases hm : Qar n))
 all_goals go_ret
 all_goals refine ⟨Qae ?_, rfl⟩
 all_goals (unfold Qah; simp [*])
theorem slc_at {w wr : World} {a : Option Addr} {cap n : Nat} {xs : List Value} (h : Slc w (.slice a n cap) xs) (hb : Below w.heap.size w wr) (k : Nat) (hk : k < xs.length) :
  ∃ b off, a = some ⟨b, off, none⟩ ∧ wr.cell? ⟨b, off + k, none⟩ = some xs[k] := by
 obtain ⟨a', cap', hv, hm, hc⟩ := h
 obtain ⟨b, off, ha, hcell⟩ := hc (by intro e; rw [e] at hk; simp at hk)
 simp only [Value.slice.injEq] at hv
 have h1 := hcell k hk
 rw [List.getElem?_eq_getElem hk] at h1
 exact ⟨b, off, by rw [hv.1, ha], (hb.cell (World.block_lt_of_cell? w _ h1)).trans h1⟩
theorem slc_shape {w : World} {v : Value} {xs : List Value} (h : Slc w v xs) : ∃ a cap, v = .slice a xs.length cap ∧ xs.length ≤ 9223372036854775807 ∧ xs.length ≤ maxLen := by
 obtain ⟨a, cap, hv, hm, _⟩ := h
 exact ⟨a, cap, hv, by unfold maxLen at hm; omega, hm⟩
def Qaj (s : ByteArray) : Bool := allE s == 0 && decide (s.size ≠ 0 ∧ s.size ≤ 40) && !kwB s && (allS s).all Qah && (Qbo ((allS s).headD 0) || ((allS s).headD 0 == 95 && decide (1 < (allS s).length)))
theorem allS_len (s : ByteArray) (h : allE s = 0) : (allS s).length = 0 ↔ s.size = 0 := by
 obtain ⟨_, hj⟩ := Qel s h
 constructor
 ·intro h0
  rw [List.eq_nil_of_length_eq_zero h0] at hj
  rw [← hj]; rfl
 ·intro h0
  have hs : s = ⟨#[]⟩ := by
   apply ByteArray.ext
   exact Array.eq_empty_of_size_eq_zero h0
  subst hs
  decide
theorem headD_get : ∀ (l : List Int) (h : 0 < l.length), l.headD 0 = l[0] := by
 intro l h
 cases l with
 | nil => simp at h
 | cons x xs => rfl
theorem all_take (l : List Int) (p : Int → Bool) (k : Nat) (h : k < l.length) : (l.take (k + 1)).all p = ((l.take k).all p && p l[k]) := by
 rw [List.take_succ_eq_append_getElem h, List.all_append]
 simp
theorem all_shape (s : ByteArray) (hs : s.size ≤ maxLen) (w : World) :
  Calls Try.prog 30 #[.string s] w fun e w' => ∃ a c L, e = .returned (.tuple #[.slice a L c, .int .i64 (allAt s), .int .i64 (allE s)]) ∧ Hid ((allS s).length = L) ∧ L ≤ 9223372036854775807 ∧ Slc w' (.slice a L c) ((allS s).map (Value.int .i64)) ∧ Below w.heap.size w w' := by
 refine (all_any s hs w).mono ?_
 rintro e w' ⟨v, rfl, ho, hb⟩
 have hS := Slc.own ho
 obtain ⟨a, c, hv, hl, -⟩ := slc_shape hS
 rw [List.length_map] at hv hl
 subst hv
 exact ⟨a, c, _, rfl, rfl, hl, hS, hb⟩
theorem Qis (s : ByteArray) (hs : s.size ≤ maxLen) (w : World) :
    Calls Try.prog 69 #[.string s] w fun e w' => e = .returned (.bool (Qaj s)) ∧ Below w.heap.size w w' := by
  have hs2 : s.size ≤ 9223372036854775807 := by unfold maxLen at hs; omega
  have hlen := Lib.hid (allS_len s)
  have HS := Lib.hid hs
  clear hs
  go_enter Try.func69, Try.ntmps69
  go_wp2_with fail
  refine (all_shape s HS.out _).mono ?_
  rintro e w1 ⟨a, c, L, rfl, hL, hl, hS, hb⟩
  by_cases hE : allE s = 0
  · have hll := hlen.out hE
    rw [hL.out] at hll
    by_cases h0 : s.size = 0
    · have hz : ((L : Int) == 0) = true := by have := hll.2 h0; simp; omega
      have fin : Hid (false = Qaj s) := by show _ = _; simp [Qaj, h0]
      go_wp2_with fail
      go_ret
      exact ⟨Qae fin.out, hb⟩
    · have hz : ((L : Int) == 0) = false := by have := mt hll.1 h0; simp; omega
      have hz' : 0 < L := by have := mt hll.1 h0; omega
      clear hll
      by_cases h40 : 40 < (s.size : Int)
      · have hd40 : decide (40 < (s.size : Int)) = true := by simp; omega
        have fin : Hid (false = Qaj s) := by
          have : ¬ s.size ≤ 40 := by omega
          show _ = _; simp [Qaj, this]
        go_wp2_with fail
        all_goals go_ret
        all_goals exact ⟨Qae fin.out, hb⟩
      · have hd40 : decide (40 < (s.size : Int)) = false := by simp; omega
        cases hk : kwB s with
        | true =>
          have fin : Hid (false = Qaj s) := by show _ = _; simp [Qaj, hk]
          have HK := Lib.hid hk
          clear hk
          go_wp2_with (go_at_call 68; refine (Qjq s _).mono ?_; rw [HK.out]; rintro e w2 ⟨rfl, rfl⟩)
          go_ret
          exact ⟨Qae fin.out, hb⟩
        | false =>
          have fin : Hid (Qaj s = ((allS s).all Qah && (Qbo ((allS s).headD 0) || ((allS s).headD 0 == 95 && decide (1 < (allS s).length))))) := by
            have : s.size ≤ 40 := by omega
            show _ = _; simp [Qaj, hk, hE, h0, this]
          have HK := Lib.hid hk
          clear hk
          go_wp2_with (go_at_call 68; refine (Qjq s _).mono ?_; rw [HK.out]; rintro e w2 ⟨rfl, rfl⟩)
          have hk0 : (0 : Int) < L := by omega
          go_loopw [32] (fun i wr => ∃ (k : Nat), k ≤ L ∧ i = .int .i64 k ∧ Hid (((allS s).take k).all Qah = true) ∧ w1 = wr) (fun i _ => L - (intOf i).toNat)
          case atStart => exact ⟨0, Nat.zero_le _, rfl, rfl, rfl⟩
          case round =>
            obtain ⟨k, hk, rfl, hno, rfl⟩ := hrel
            by_cases hlt : k < L
            · have hltS : k < (allS s).length := by have := hL.out; omega
              obtain ⟨b, off, rfl, hc⟩ := slc_at hS (Below.refl _ _) k (by simpa using hltS)
              rw [List.getElem_map] at hc
              have hct := all_take (allS s) Qah k hltS
              rw [hno.out, Bool.true_and] at hct
              have HCT := Lib.hid hct
              clear hct
              have hi0 : (0 : Int) ≤ k := by omega
              have hi1 : (k : Int) < L := by omega
              cases hq : Qah (allS s)[k] with
              | true =>
                have HQ := Lib.hid hq
                clear hq
                go_wp2_with (go_at_call 95; refine (inner_any _ _).mono ?_; rw [HQ.out]; rintro e w2 ⟨rfl, rfl⟩)
                go_roundw
                case rel => exact ⟨k + 1, hlt, by simp, HCT.out.trans HQ.out, trivial⟩
                case measure => simp [intOf]; omega
              | false =>
                have HQ := Lib.hid hq
                clear hq
                have fin2 : Hid (false = Qaj s) := by
                  show _ = _
                  rw [fin.out]
                  have : (allS s).all Qah = false := by
                    cases h : (allS s).all Qah with
                    | false => rfl
                    | true =>
                      rw [List.all_eq_true] at h
                      have := h _ (List.getElem_mem hltS)
                      rw [HQ.out] at this
                      cases this
                  rw [this]; rfl
                go_wp2_with (go_at_call 95; refine (inner_any _ _).mono ?_; rw [HQ.out]; rintro e w2 ⟨rfl, rfl⟩)
                go_ret
                exact ⟨Qae fin2.out, hb⟩
            · obtain rfl : k = L := by omega
              have hpS : 0 < (allS s).length := by have := hL.out; omega
              obtain ⟨b, off, rfl, hc⟩ := slc_at hS (Below.refl _ _) 0 (by simpa using hpS)
              rw [List.getElem_map, Nat.add_zero] at hc
              have hhd : Hid ((allS s).headD 0 = (allS s)[0]) := by
                exact headD_get _ hpS
              have fin2 : Hid (Qaj s = (Qbo (allS s)[0] || ((allS s)[0] == 95 && decide (1 < (k : Int))))) := by
                show _ = _
                have h := hno.out
                rw [List.take_of_length_le (by rw [hL.out]; exact Nat.le_refl _)] at h
                rw [fin.out, h, hhd.out, hL.out, Bool.true_and]
                congr 2
                simp
                omega
              have hi1 : (0 : Int) < k := by omega
              generalize (allS s)[0] = x at *
              cases hq : Qbo x with
              | true =>
                have HQ := Lib.hid hq
                clear hq
                have fin3 : Hid (true = Qaj s) := by show _ = _; rw [fin2.out, HQ.out]; rfl
                go_wp2_with (go_at_call 65; refine (Qhl _ _).mono ?_; rw [HQ.out]; rintro e w2 ⟨rfl, rfl⟩)
                go_ret
                exact ⟨Qae fin3.out, hb⟩
              | false =>
                have HQ := Lib.hid hq
                clear hq
                have fin3 : Hid ((x == 95 && decide (1 < (k : Int))) = Qaj s) := by show _ = _; rw [fin2.out, HQ.out]; rfl
                cases h95 : (x == 95) with
                | true =>
                  have fin4 : Hid (decide (1 < (k : Int)) = Qaj s) := by rw [← fin3.out, h95]; rfl
                  go_wp2_with (go_at_call 65; refine (Qhl _ _).mono ?_; rw [HQ.out]; rintro e w2 ⟨rfl, rfl⟩)
                  all_goals go_ret
                  all_goals exact ⟨Qae fin4.out, hb⟩
                | false =>
                  have fin4 : Hid (false = Qaj s) := by rw [← fin3.out, h95]; rfl
                  go_wp2_with (go_at_call 65; refine (Qhl _ _).mono ?_; rw [HQ.out]; rintro e w2 ⟨rfl, rfl⟩)
                  all_goals go_ret
                  all_goals exact ⟨Qae fin4.out, hb⟩
  · have fin : Hid (false = Qaj s) := by show _ = _; simp [Qaj, hE]
    go_wp2_with fail
    go_ret
    exact ⟨Qae fin.out, hb⟩
theorem under_iff (s : ByteArray) (h : allE s = 0) : (s.toList == [95]) = (allS s == [95]) := by
 rw [Bool.eq_iff_iff, beq_iff_eq, beq_iff_eq]
 constructor
 ·intro hs
  have : s = ⟨#[95]⟩ := by
   apply ByteArray.ext
   rw [ByteArray.toList_eq] at hs
   exact Array.toList_inj.mp hs
  subst this
  decide
 ·intro hs
  have := (Qel s h).2
  rw [hs] at this
  rw [← this, ByteArray.toList_eq]
  decide +kernel
end Go.Proofs.Ytahhgpafjiljfaa
