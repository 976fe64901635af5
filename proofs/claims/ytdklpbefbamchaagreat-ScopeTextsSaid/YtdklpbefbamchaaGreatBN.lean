import Derived.Test.YtdklpbefbamchaaGreatBUtf
import Derived.Test.YtdklpbefbamchaaGreatBK
import Derived.Maps.OwnOps
import Derived.Maps.Views
import Derived.SliceStrings
import Derived.ChangeArms
import Derived.ChangeSlices
import Derived.OpenShut
import Derived.ChangeShapes
set_option linter.unusedSimpArgs false
set_option linter.unusedVariables false
set_option maxHeartbeats 16000000
set_option maxRecDepth 100000
namespace Go.Proofs.YtdklpbefbamchaaGreat
open Go.RowKit
def Qgh (n : Int) : Bool := decide (n = 9 ∨ n = 10 ∨ n = 13 ∨ n = 32)
def Qar (n : Int) : Bool := decide (48 ≤ n ∧ n ≤ 57)
def markL : List Int := [40, 41, 123, 125, 58, 61, 46, 44, 59, 124, 92, 955, 8594, 45, 62]
def markB (n : Int) : Bool := decide (n = 40 ∨ n = 41 ∨ n = 123 ∨ n = 125 ∨ n = 58 ∨ n = 61 ∨ n = 46 ∨ n = 44 ∨ n = 59 ∨ n = 124 ∨ n = 92 ∨ n = 955 ∨ n = 8594 ∨ n = 45 ∨ n = 62)
def Qbn (n : Int) : Bool := decide ((97 ≤ n ∧ n ≤ 122) ∨ (65 ≤ n ∧ n ≤ 90) ∨ (128 ≤ n ∧ right n = true ∧ markB n = false ∧ n ≠ 160 ∧ (n < 8192 ∨ 8303 < n)))
def Qag (n : Int) : Bool := Qbn n || Qar n || n == 95 || n == 39
theorem blank_any (n : Int) (w : World) : Calls Tryz.prog 267 #[.int .i64 n] w fun e w' => e = .returned (.bool (Qgh n)) ∧ w = w' := by
 go_enter Tryz.func267, Tryz.ntmps267
 go_wp2
 all_goals go_ret
 all_goals refine ⟨Qah ?_, rfl⟩
 all_goals (unfold Qgh; rw [Bool.eq_iff_iff]; simp; omega)
theorem digit_any (n : Int) (w : World) : Calls Tryz.prog 274 #[.int .i64 n] w fun e w' => e = .returned (.bool (Qar n)) ∧ w = w' := by
 go_enter Tryz.func274, Tryz.ntmps274
 go_wp2
 all_goals go_ret
 all_goals refine ⟨Qah ?_, rfl⟩
 all_goals (unfold Qar; rw [Bool.eq_iff_iff]; simp; omega)
theorem Qhl (n : Int) (w : World) : Calls Tryz.prog 207 #[.int .i64 n] w fun e w' => e = .returned (.bool (Qar n)) ∧ w = w' := by
 go_enter Tryz.func207, Tryz.ntmps207
 go_wp2
 all_goals go_ret
 all_goals refine ⟨Qah ?_, rfl⟩
 all_goals (unfold Qar; rw [Bool.eq_iff_iff]; simp; omega)
theorem mark_any (n : Int) (w : World) : Calls Tryz.prog 287 #[.int .i64 n] w fun e w' => e = .returned (.bool (markB n)) ∧ w = w' := by
 go_enter Tryz.func287, Tryz.ntmps287
 go_wp2
 all_goals go_ret
 all_goals refine ⟨Qah ?_, rfl⟩
 all_goals (simp only [beq_iff_eq, beq_eq_false_iff_ne, ne_eq] at *; unfold markB; rw [Bool.eq_iff_iff]; simp; omega)
theorem Qio (n : Int) (w : World) : Calls Tryz.prog 242 #[.int .i64 n] w fun e w' => e = .returned (.bool (Qbn n)) ∧ w = w' := by
 go_enter Tryz.func242, Tryz.ntmps242
 go_wp2_with (first | (go_at_call 286; refine (Qec _ _).mono ?_; rintro e w1 ⟨rfl, rfl⟩; cases hr : right n) | (go_at_call 287; refine (mark_any _ _).mono ?_; rintro e w2 ⟨rfl, rfl⟩; cases hm : markB n))
 all_goals go_ret
 all_goals refine ⟨Qah ?_, rfl⟩
 all_goals (unfold Qbn; (try rw [hr]); (try rw [hm]); rw [Bool.eq_iff_iff]; simp; omega)
def kwB (s : ByteArray) : Bool := s.toList == [100, 97, 116, 97] || s.toList == [114, 101, 99, 111, 114, 100] || s.toList == [100, 101, 102] || s.toList == [83, 101, 116]
theorem Qll (s : ByteArray) (w : World) : Calls Tryz.prog 240 #[.string s] w fun e w' => e = .returned (.bool (kwB s)) ∧ w = w' := by
 go_enter Tryz.func240, Tryz.ntmps240
 go_wp2
 all_goals go_ret
 all_goals refine ⟨Qah ?_, rfl⟩
 all_goals (unfold kwB; simp_all)
theorem Qir (s : ByteArray) (w : World) : Calls Tryz.prog 205 #[.string s] w fun e w' => e = .returned (.bool (kwB s)) ∧ w = w' := by
 go_enter Tryz.func205, Tryz.ntmps205
 go_wp2
 all_goals go_ret
 all_goals refine ⟨Qah ?_, rfl⟩
 all_goals (unfold kwB; simp_all)
theorem inner_any (n : Int) (w : World) : Calls Tryz.prog 241 #[.int .i64 n] w fun e w' => e = .returned (.bool (Qag n)) ∧ w = w' := by
 go_enter Tryz.func241, Tryz.ntmps241
 go_wp2_with (first | (go_at_call 242; refine (Qio _ _).mono ?_; rintro e w1 ⟨rfl, rfl⟩; cases hr : Qbn n) | (go_at_call 274; refine (digit_any _ _).mono ?_; rintro e w2 ⟨rfl, rfl⟩; cases hm : Qar n))
 all_goals go_ret
 all_goals refine ⟨Qah ?_, rfl⟩
 all_goals (unfold Qag; simp [*])
theorem Qjx {w wr : World} {a : Option Addr} {cap n : Nat} {xs : List Value} (h : Slc w (.slice a n cap) xs) (hb : Below w.heap.size w wr) (k : Nat) (hk : k < xs.length) :
  ∃ b off, a = some ⟨b, off, none⟩ ∧ wr.cell? ⟨b, off + k, none⟩ = some xs[k] := by
 obtain ⟨a', cap', hv, hm, hc⟩ := h
 obtain ⟨b, off, ha, hcell⟩ := hc (by intro e; rw [e] at hk; simp at hk)
 simp only [Value.slice.injEq] at hv
 have h1 := hcell k hk
 rw [List.getElem?_eq_getElem hk] at h1
 exact ⟨b, off, by rw [hv.1, ha], (hb.cell (World.block_lt_of_cell? w _ h1)).trans h1⟩
theorem Qhc {w : World} {v : Value} {xs : List Value} (h : Slc w v xs) : ∃ a cap, v = .slice a xs.length cap ∧ xs.length ≤ 9223372036854775807 ∧ xs.length ≤ maxLen := by
 obtain ⟨a, cap, hv, hm, _⟩ := h
 exact ⟨a, cap, hv, by unfold maxLen at hm; omega, hm⟩
theorem contains_take (l : List Int) (n : Int) (k : Nat) (h : k < l.length) : (l.take (k + 1)).contains n = ((l.take k).contains n || l[k] == n) := by
 rw [List.take_succ_eq_append_getElem h, List.contains_append]
 congr 1
 rw [List.contains_cons]
 simp [Bool.beq_comm]
theorem rin_any (l : List Int) (v : Value) (n : Int) (w0 w : World) (hv : Slc w0 v (l.map (Value.int .i64))) (hb : Below w0.heap.size w0 w) :
    Calls Tryz.prog 290 #[v, .int .i64 n] w fun e w' => e = .returned (.bool (l.contains n)) ∧ w = w' := by
  obtain ⟨a, cap, rfl, hm, -⟩ := Qhc hv
  rw [List.length_map] at hm hv ⊢
  go_enter Tryz.func290, Tryz.ntmps290
  go_wp2_with fail
  go_loopw [5] (fun i wr => ∃ (k : Nat), k ≤ l.length ∧ i = .int .i64 k ∧ Hid ((l.take k).contains n = false) ∧ w = wr) (fun i _ => l.length - (intOf i).toNat)
  case atStart => exact ⟨0, Nat.zero_le _, rfl, rfl, rfl⟩
  case round =>
    obtain ⟨k, hk, rfl, hno, rfl⟩ := hrel
    by_cases hlt : k < l.length
    · obtain ⟨b, off, rfl, hc⟩ := Qjx hv hb k (by simpa using hlt)
      rw [List.getElem_map] at hc
      have hct := contains_take l n k hlt
      rw [hno.out, Bool.false_or] at hct
      have HCT := Lib.hid hct
      clear hct
      cases hq : (l[k] == n) with
      | true =>
        have fin : Hid (true = l.contains n) := by
          have h := HCT.out
          rw [hq] at h
          show _ = _
          symm
          rw [List.contains_iff_mem] at h ⊢
          exact List.mem_of_mem_take h
        have HQ := Lib.hid hq
        go_wp2_with fail
        go_ret
        exact ⟨Qah fin.out, rfl⟩
      | false =>
        have HQ : Hid ((l.take (k + 1)).contains n = false) := by rw [← hq]; exact HCT.out
        go_wp2_with fail
        go_roundw
        case rel => exact ⟨k + 1, hlt, by simp, HQ.out, trivial⟩
        case measure => simp [intOf]; omega
    · obtain rfl : k = l.length := by omega
      have fin : Hid (false = l.contains n) := by
        have h := hno.out
        rw [List.take_length] at h
        exact h.symm
      go_wp2_with fail
      go_ret
      exact ⟨Qah fin.out, rfl⟩
theorem rmark_any (n : Int) (w : World) : Calls Tryz.prog 258 #[.int .i64 n] w fun e w' => e = .returned (.bool (markB n)) ∧ Below w.heap.size w w' := by
 have fin : Hid (decide (n ∈ markL) = markB n) := by
  show _ = _
  rw [Bool.eq_iff_iff]; simp [markL, markB]
 have hown : (w.alloc (.cells (markL.map (Value.int .i64)).toArray 3)).ownsRow w.heap.size 3 1 (.slice (some ⟨w.heap.size, 0, none⟩) 15 15) 15 (markL.map (Value.int .i64)) :=
  own_lit 3 rfl (by decide) (Below.refl _ _)
 go_enter Tryz.func258, Tryz.ntmps258
 go_wp2_with fail
 refine (rin_any markL _ n _ _ (Slc.own hown) (Below.refl _ _)).mono ?_
 rintro e w1 ⟨rfl, rfl⟩
 go_wp2_with fail
 go_ret
 exact ⟨Qah fin.out, (Below.refl _ _).alloc (Nat.le_refl _) _⟩
theorem Qfl (n : Int) (w : World) : Calls Tryz.prog 206 #[.int .i64 n] w fun e w' => e = .returned (.bool (Qbn n)) ∧ Below w.heap.size w w' := by
 go_enter Tryz.func206, Tryz.ntmps206
 go_wp2_with (first | (go_at_call 257; refine (Qcv _ _).mono ?_; rintro e w1 ⟨rfl, rfl⟩; cases hr : right n) | (go_at_call 258; refine (rmark_any _ _).mono ?_; rintro e w2 ⟨rfl, hb⟩; cases hm : markB n))
 all_goals go_ret
 all_goals refine ⟨Qah ?_, by first | exact hb | exact Below.refl _ _⟩
 all_goals (unfold Qbn; (try rw [hr]); (try rw [hm]); rw [Bool.eq_iff_iff]; simp; omega)
def Qam (s : ByteArray) : Bool := allE s == 0 && decide (s.size ≠ 0 ∧ s.size ≤ 40) && !kwB s && (allS s).all Qag && (Qbn ((allS s).headD 0) || ((allS s).headD 0 == 95 && decide (1 < (allS s).length)))
theorem allS_len (s : ByteArray) (h : allE s = 0) : (allS s).length = 0 ↔ s.size = 0 := by
 obtain ⟨_, hj⟩ := Qjk s h
 constructor
 ·intro h0
  rw [List.eq_nil_of_length_eq_zero h0] at hj
  rw [← hj]; rfl
 ·intro h0
  have hs : s = ⟨#[]⟩ := by
   apply ByteArray.ext
   exact Array.eq_empty_of_size_eq_zero h0
  subst hs
  decide
theorem headD_get : ∀ (l : List Int) (h : 0 < l.length), l.headD 0 = l[0] := by
 intro l h
 cases l with
 | nil => simp at h
 | cons x xs => rfl
theorem all_take (l : List Int) (p : Int → Bool) (k : Nat) (h : k < l.length) : (l.take (k + 1)).all p = ((l.take k).all p && p l[k]) := by
 rw [List.take_succ_eq_append_getElem h, List.all_append]
 simp
theorem all_shape (s : ByteArray) (hs : s.size ≤ maxLen) (w : World) :
  Calls Tryz.prog 218 #[.string s] w fun e w' => ∃ a c L, e = .returned (.tuple #[.slice a L c, .int .i64 (Qfd s), .int .i64 (allE s)]) ∧ Hid ((allS s).length = L) ∧ L ≤ 9223372036854775807 ∧ Slc w' (.slice a L c) ((allS s).map (Value.int .i64)) ∧ Below w.heap.size w w' := by
 refine (all_any s hs w).mono ?_
 rintro e w' ⟨v, rfl, ho, hb⟩
 have hS := Slc.own ho
 obtain ⟨a, c, hv, hl, -⟩ := Qhc hS
 rw [List.length_map] at hv hl
 subst hv
 exact ⟨a, c, _, rfl, rfl, hl, hS, hb⟩
theorem rall_shape (s : ByteArray) (hs : s.size ≤ maxLen) (w : World) :
  Calls Tryz.prog 176 #[.string s] w fun e w' => ∃ a c L, e = .returned (.tuple #[.slice a L c, .int .i64 (Qfd s), .int .i64 (allE s)]) ∧ Hid ((allS s).length = L) ∧ L ≤ 9223372036854775807 ∧ Slc w' (.slice a L c) ((allS s).map (Value.int .i64)) ∧ Below w.heap.size w w' := by
 refine (rall_any s hs w).mono ?_
 rintro e w' ⟨v, rfl, ho, hb⟩
 have hS := Slc.own ho
 obtain ⟨a, c, hv, hl, -⟩ := Qhc hS
 rw [List.length_map] at hv hl
 subst hv
 exact ⟨a, c, _, rfl, rfl, hl, hS, hb⟩
theorem Qmq (s : ByteArray) (hs : s.size ≤ maxLen) (w : World) :
    Calls Tryz.prog 187 #[.string s] w fun e w' => e = .returned (.bool (Qam s)) ∧ Below w.heap.size w w' := by
  have hs2 : s.size ≤ 9223372036854775807 := by unfold maxLen at hs; omega
  have hlen := Lib.hid (allS_len s)
  have HS := Lib.hid hs
  clear hs
  go_enter Tryz.func187, Tryz.ntmps187
  go_wp2_with fail
  refine (all_shape s HS.out _).mono ?_
  rintro e w1 ⟨a, c, L, rfl, hL, hl, hS, hb⟩
  by_cases hE : allE s = 0
  · have hll := hlen.out hE
    rw [hL.out] at hll
    by_cases h0 : s.size = 0
    · have hz : ((L : Int) == 0) = true := by have := hll.2 h0; simp; omega
      have fin : Hid (false = Qam s) := by show _ = _; simp [Qam, h0]
      go_wp2_with fail
      go_ret
      exact ⟨Qah fin.out, hb⟩
    · have hz : ((L : Int) == 0) = false := by have := mt hll.1 h0; simp; omega
      have hz' : 0 < L := by have := mt hll.1 h0; omega
      clear hll
      by_cases h40 : 40 < (s.size : Int)
      · have hd40 : decide (40 < (s.size : Int)) = true := by simp; omega
        have fin : Hid (false = Qam s) := by
          have : ¬ s.size ≤ 40 := by omega
          show _ = _; simp [Qam, this]
        go_wp2_with fail
        all_goals go_ret
        all_goals exact ⟨Qah fin.out, hb⟩
      · have hd40 : decide (40 < (s.size : Int)) = false := by simp; omega
        cases hk : kwB s with
        | true =>
          have fin : Hid (false = Qam s) := by show _ = _; simp [Qam, hk]
          have HK := Lib.hid hk
          clear hk
          go_wp2_with (go_at_call 240; refine (Qll s _).mono ?_; rw [HK.out]; rintro e w2 ⟨rfl, rfl⟩)
          go_ret
          exact ⟨Qah fin.out, hb⟩
        | false =>
          have fin : Hid (Qam s = ((allS s).all Qag && (Qbn ((allS s).headD 0) || ((allS s).headD 0 == 95 && decide (1 < (allS s).length))))) := by
            have : s.size ≤ 40 := by omega
            show _ = _; simp [Qam, hk, hE, h0, this]
          have HK := Lib.hid hk
          clear hk
          go_wp2_with (go_at_call 240; refine (Qll s _).mono ?_; rw [HK.out]; rintro e w2 ⟨rfl, rfl⟩)
          have hk0 : (0 : Int) < L := by omega
          go_loopw [32] (fun i wr => ∃ (k : Nat), k ≤ L ∧ i = .int .i64 k ∧ Hid (((allS s).take k).all Qag = true) ∧ w1 = wr) (fun i _ => L - (intOf i).toNat)
          case atStart => exact ⟨0, Nat.zero_le _, rfl, rfl, rfl⟩
          case round =>
            obtain ⟨k, hk, rfl, hno, rfl⟩ := hrel
            by_cases hlt : k < L
            · have hltS : k < (allS s).length := by have := hL.out; omega
              obtain ⟨b, off, rfl, hc⟩ := Qjx hS (Below.refl _ _) k (by simpa using hltS)
              rw [List.getElem_map] at hc
              have hct := all_take (allS s) Qag k hltS
              rw [hno.out, Bool.true_and] at hct
              have HCT := Lib.hid hct
              clear hct
              have hi0 : (0 : Int) ≤ k := by omega
              have hi1 : (k : Int) < L := by omega
              cases hq : Qag (allS s)[k] with
              | true =>
                have HQ := Lib.hid hq
                clear hq
                go_wp2_with (go_at_call 241; refine (inner_any _ _).mono ?_; rw [HQ.out]; rintro e w2 ⟨rfl, rfl⟩)
                go_roundw
                case rel => exact ⟨k + 1, hlt, by simp, HCT.out.trans HQ.out, trivial⟩
                case measure => simp [intOf]; omega
              | false =>
                have HQ := Lib.hid hq
                clear hq
                have fin2 : Hid (false = Qam s) := by
                  show _ = _
                  rw [fin.out]
                  have : (allS s).all Qag = false := by
                    cases h : (allS s).all Qag with
                    | false => rfl
                    | true =>
                      rw [List.all_eq_true] at h
                      have := h _ (List.getElem_mem hltS)
                      rw [HQ.out] at this
                      cases this
                  rw [this]; rfl
                go_wp2_with (go_at_call 241; refine (inner_any _ _).mono ?_; rw [HQ.out]; rintro e w2 ⟨rfl, rfl⟩)
                go_ret
                exact ⟨Qah fin2.out, hb⟩
            · obtain rfl : k = L := by omega
              have hpS : 0 < (allS s).length := by have := hL.out; omega
              obtain ⟨b, off, rfl, hc⟩ := Qjx hS (Below.refl _ _) 0 (by simpa using hpS)
              rw [List.getElem_map, Nat.add_zero] at hc
              have hhd : Hid ((allS s).headD 0 = (allS s)[0]) := by
                exact headD_get _ hpS
              have fin2 : Hid (Qam s = (Qbn (allS s)[0] || ((allS s)[0] == 95 && decide (1 < (k : Int))))) := by
                show _ = _
                have h := hno.out
                rw [List.take_of_length_le (by rw [hL.out]; exact Nat.le_refl _)] at h
                rw [fin.out, h, hhd.out, hL.out, Bool.true_and]
                congr 2
                simp
                omega
              have hi1 : (0 : Int) < k := by omega
              generalize (allS s)[0] = x at *
              cases hq : Qbn x with
              | true =>
                have HQ := Lib.hid hq
                clear hq
                have fin3 : Hid (true = Qam s) := by show _ = _; rw [fin2.out, HQ.out]; rfl
                go_wp2_with (go_at_call 242; refine (Qio _ _).mono ?_; rw [HQ.out]; rintro e w2 ⟨rfl, rfl⟩)
                go_ret
                exact ⟨Qah fin3.out, hb⟩
              | false =>
                have HQ := Lib.hid hq
                clear hq
                have fin3 : Hid ((x == 95 && decide (1 < (k : Int))) = Qam s) := by show _ = _; rw [fin2.out, HQ.out]; rfl
                cases h95 : (x == 95) with
                | true =>
                  have fin4 : Hid (decide (1 < (k : Int)) = Qam s) := by rw [← fin3.out, h95]; rfl
                  go_wp2_with (go_at_call 242; refine (Qio _ _).mono ?_; rw [HQ.out]; rintro e w2 ⟨rfl, rfl⟩)
                  all_goals go_ret
                  all_goals exact ⟨Qah fin4.out, hb⟩
                | false =>
                  have fin4 : Hid (false = Qam s) := by rw [← fin3.out, h95]; rfl
                  go_wp2_with (go_at_call 242; refine (Qio _ _).mono ?_; rw [HQ.out]; rintro e w2 ⟨rfl, rfl⟩)
                  all_goals go_ret
                  all_goals exact ⟨Qah fin4.out, hb⟩
  · have fin : Hid (false = Qam s) := by show _ = _; simp [Qam, hE]
    go_wp2_with fail
    go_ret
    exact ⟨Qah fin.out, hb⟩
def Qis (k : Nat) (x : Int) : Bool := Qbn x || x == 95 || (k != 0 && (Qar x || x == 39))
def chk : List Int → Bool | [] => true | x :: xs => (Qbn x || x == 95) && xs.all Qag
theorem chk_take (l : List Int) (k : Nat) (h : k < l.length) : chk (l.take (k + 1)) = (chk (l.take k) && Qis k l[k]) := by
  cases l with
  | nil => simp at h
  | cons x xs =>
    cases k with
    | zero => simp [chk, Qis]
    | succ k =>
      have h' : k < xs.length := by simpa using h
      simp only [List.take_succ_cons, chk, List.getElem_cons_succ]
      rw [all_take xs Qag k h', ← Bool.and_assoc]
      congr 1
      simp only [Qag, Qis]
      cases Qbn xs[k] <;> cases Qar xs[k] <;> cases (xs[k] == 95) <;> cases (xs[k] == 39) <;> rfl
theorem chk_false (l : List Int) (m : Nat) (h3 : chk (l.take m) = false) : chk l = false := by
  cases l with
  | nil => simpa using h3
  | cons x xs =>
    cases m with
    | zero => simp [chk] at h3
    | succ m =>
      simp only [List.take_succ_cons, chk] at h3 ⊢
      cases hx : (Qbn x || x == 95) with
      | false => rfl
      | true =>
        rw [hx] at h3
        simp only [Bool.true_and] at h3 ⊢
        cases hy : xs.all Qag with
        | false => rfl
        | true =>
          rw [List.all_eq_true] at hy
          have : (xs.take m).all Qag = true := by rw [List.all_eq_true]; intro z hz; exact hy z (List.mem_of_mem_take hz)
          rw [this] at h3; cases h3
theorem under_iff (s : ByteArray) (h : allE s = 0) : (s.toList == [95]) = (allS s == [95]) := by
 rw [Bool.eq_iff_iff, beq_iff_eq, beq_iff_eq]
 constructor
 ·intro hs
  have : s = ⟨#[95]⟩ := by
   apply ByteArray.ext
   rw [ByteArray.toList_eq] at hs
   exact Array.toList_inj.mp hs
  subst this
  decide
 ·intro hs
  have := (Qjk s h).2
  rw [hs] at this
  rw [← this, ByteArray.toList_eq]
  decide +kernel
theorem rightN_ref (s : ByteArray) (hE : allE s = 0) (h0 : s.size ≠ 0) (h40 : s.size ≤ 40) (hk : kwB s = false) : Qam s = (!(s.toList == [95]) && chk (allS s)) := by
  have hl := mt (allS_len s hE).1 h0
  rw [under_iff s hE]
  simp only [Qam, hE, hk]
  cases hq : allS s with
  | nil => rw [hq] at hl; simp at hl
  | cons x xs =>
    have hL95 : Qbn 95 = false := by decide
    simp [h0, h40, chk, Qag]
    cases hx : Qbn x with
    | true =>
      have : x ≠ 95 := by intro e; rw [e, hL95] at hx; cases hx
      simp [this]
    | false =>
      by_cases h95 : x = 95
      · subst h95
        cases xs with
        | nil => simp
        | cons y ys => simp
      · have hb : (x == 95) = false := by simpa using h95
        rw [hb]
        simp
theorem Qlm (s : ByteArray) (hs : s.size ≤ maxLen) (w : World) :
    Calls Tryz.prog 153 #[.string s] w fun e w' => e = .returned (.bool (Qam s)) ∧ Below w.heap.size w w' := by
  have hs2 : s.size ≤ 9223372036854775807 := by unfold maxLen at hs; omega
  have hlen := Lib.hid (allS_len s)
  have HS := Lib.hid hs
  clear hs
  go_enter Tryz.func153, Tryz.ntmps153
  go_wp2_with fail
  refine (rall_shape s HS.out _).mono ?_
  rintro e w1 ⟨a, c, L, rfl, hL, hl, hS, hb⟩
  by_cases hE : allE s = 0
  · have hll := hlen.out hE
    rw [hL.out] at hll
    by_cases h0 : s.size = 0
    · have hz : ((s.size : Int) == 0) = true := beq_iff_eq.2 (by omega)
      have fin : Hid (false = Qam s) := by show _ = _; simp [Qam, h0]
      go_wp2_with fail
      go_ret
      exact ⟨Qah fin.out, hb⟩
    · have hz : ((s.size : Int) == 0) = false := by rw [beq_eq_false_iff_ne]; omega
      have hz' : 0 < L := by have := mt hll.1 h0; omega
      have H0 := Lib.hid h0
      clear hll h0
      by_cases h40 : 40 < (s.size : Int)
      · have hd40 : decide (40 < (s.size : Int)) = true := by simp; omega
        have fin : Hid (false = Qam s) := by
          have : ¬ s.size ≤ 40 := by omega
          show _ = _; simp [Qam, this]
        go_wp2_with fail
        all_goals go_ret
        all_goals exact ⟨Qah fin.out, hb⟩
      · have hd40 : decide (40 < (s.size : Int)) = false := by simp; omega
        cases hk : kwB s with
        | true =>
          have fin : Hid (false = Qam s) := by show _ = _; simp [Qam, hk]
          have HK := Lib.hid hk
          clear hk
          go_wp2_with (go_at_call 205; refine (Qir s _).mono ?_; rw [HK.out]; rintro e w2 ⟨rfl, rfl⟩)
          go_ret
          exact ⟨Qah fin.out, hb⟩
        | false =>
          have fin : Hid (Qam s = (!(s.toList == [95]) && chk (allS s))) := rightN_ref s hE H0.out (by omega) hk
          have HK := Lib.hid hk
          clear hk
          cases hu : (s.toList == [95]) with
          | true =>
            have fin2 : Hid (false = Qam s) := by show _ = _; rw [fin.out, hu]; rfl
            go_wp2_with (go_at_call 205; refine (Qir s _).mono ?_; rw [HK.out]; rintro e w2 ⟨rfl, rfl⟩)
            go_ret
            exact ⟨Qah fin2.out, hb⟩
          | false =>
            have fin2 : Hid (Qam s = chk (allS s)) := by show _ = _; rw [fin.out, hu]; rfl
            go_wp2_with (go_at_call 205; refine (Qir s _).mono ?_; rw [HK.out]; rintro e w2 ⟨rfl, rfl⟩)
            clear hu fin
            go_loopw [6] (fun i wr => ∃ (k : Nat), k ≤ L ∧ i = .int .i64 k ∧ Hid (chk ((allS s).take k) = true) ∧ Below w.heap.size w wr ∧ Below w1.heap.size w1 wr) (fun i _ => L - (intOf i).toNat)
            case atStart => exact ⟨0, Nat.zero_le _, rfl, rfl, hb, Below.refl _ _⟩
            case round =>
              obtain ⟨k, hk, rfl, hno, hbel, hb1⟩ := hrel
              by_cases hlt : k < L
              · have hltS : k < (allS s).length := by have := hL.out; omega
                obtain ⟨b, off, rfl, hc⟩ := Qjx hS hb1 k (by simpa using hltS)
                rw [List.getElem_map] at hc
                have hct := chk_take (allS s) k hltS
                rw [hno.out, Bool.true_and] at hct
                have HCT := Lib.hid hct
                have hi0 : (0 : Int) ≤ k := by omega
                have hi1 : (k : Int) < L := by omega
                have FAIL : Hid (Qis k (allS s)[k] = false → false = Qam s) := by
                  intro h
                  rw [fin2.out]
                  have h2 : chk ((allS s).take (k + 1)) = false := by rw [hct, h]
                  symm
                  exact chk_false _ _ h2
                clear hct hno
                generalize (allS s)[k] = x at *
                have GO : Hid (Qis k x = true → chk ((allS s).take (k + 1)) = true) := fun h => HCT.out.trans h
                cases hx : Qbn x with
                | true =>
                  have HX := Lib.hid hx
                  clear hx
                  have G := Lib.hid (GO.out (by simp [Qis, HX.out]))
                  go_wp2_with (go_at_call 206; refine (Qfl _ _).mono ?_; rw [HX.out]; rintro e w2 ⟨rfl, hb2⟩)
                  go_roundw
                  case rel => exact ⟨k + 1, hlt, by simp, G.out, hbel.trans (hb2.mono hbel.size), hb1.trans (hb2.mono hb1.size)⟩
                  case measure => simp [intOf]; omega
                | false =>
                  have HX := Lib.hid hx
                  clear hx
                  cases h95 : (x != 95) with
                  | false =>
                    have G := Lib.hid (GO.out (by have : (x == 95) = true := by simpa using h95
                                                  simp [Qis, this]))
                    go_wp2_with (first | (go_at_call 206; refine (Qfl _ _).mono ?_; rw [HX.out]; rintro e w2 ⟨rfl, hb2⟩; have hc := (hb2.cell (World.block_lt_of_cell? _ _ hc)).trans hc) | (go_at_call 207; refine (Qhl _ _).mono ?_; rw [HD.out]; rintro e w3 ⟨rfl, rfl⟩))
                    go_roundw
                    case rel => exact ⟨k + 1, hlt, by simp, G.out, hbel.trans (hb2.mono hbel.size), hb1.trans (hb2.mono hb1.size)⟩
                    case measure => simp [intOf]; omega
                                      | true =>
                    have H95 : Hid ((x == 95) = false) := by show _ = _; simpa using h95
                    cases h0 : ((k : Int) == 0) with
                    | true =>
                      have F := Lib.hid (FAIL.out (by
                        have : k = 0 := by have := beq_iff_eq.1 h0; omega
                        simp [Qis, HX.out, H95.out, this]))
                      go_wp2_with (first | (go_at_call 206; refine (Qfl _ _).mono ?_; rw [HX.out]; rintro e w2 ⟨rfl, hb2⟩; have hc := (hb2.cell (World.block_lt_of_cell? _ _ hc)).trans hc) | (go_at_call 207; refine (Qhl _ _).mono ?_; rw [HD.out]; rintro e w3 ⟨rfl, rfl⟩))
                      go_ret
                      exact ⟨Qah F.out, hbel.trans (hb2.mono hbel.size)⟩
                                          | false =>
                      have HK0 : Hid ((k != 0) = true) := by show _ = _; have := beq_eq_false_iff_ne.1 h0; simp; omega
                      cases hd : Qar x with
                      | true =>
                        have HD := Lib.hid hd
                        clear hd
                        have G := Lib.hid (GO.out (by simp only [Qis, HX.out, H95.out, HK0.out, HD.out]; rfl))
                        go_wp2_with (first | (go_at_call 206; refine (Qfl _ _).mono ?_; rw [HX.out]; rintro e w2 ⟨rfl, hb2⟩; have hc := (hb2.cell (World.block_lt_of_cell? _ _ hc)).trans hc) | (go_at_call 207; refine (Qhl _ _).mono ?_; rw [HD.out]; rintro e w3 ⟨rfl, rfl⟩))
                        go_roundw
                        case rel => exact ⟨k + 1, hlt, by simp, G.out, hbel.trans (hb2.mono hbel.size), hb1.trans (hb2.mono hb1.size)⟩
                        case measure => simp [intOf]; omega
                                              | false =>
                        have HD := Lib.hid hd
                        clear hd
                        cases h39 : (x != 39) with
                        | false =>
                          have G := Lib.hid (GO.out (by
                            have : (x == 39) = true := by simpa using h39
                            simp only [Qis, HX.out, H95.out, HK0.out, HD.out, this]; rfl))
                          go_wp2_with (first | (go_at_call 206; refine (Qfl _ _).mono ?_; rw [HX.out]; rintro e w2 ⟨rfl, hb2⟩; have hc := (hb2.cell (World.block_lt_of_cell? _ _ hc)).trans hc) | (go_at_call 207; refine (Qhl _ _).mono ?_; rw [HD.out]; rintro e w3 ⟨rfl, rfl⟩))
                          go_roundw
                          case rel => exact ⟨k + 1, hlt, by simp, G.out, hbel.trans (hb2.mono hbel.size), hb1.trans (hb2.mono hb1.size)⟩
                          case measure => simp [intOf]; omega
                                                  | true =>
                          have F := Lib.hid (FAIL.out (by
                            have : (x == 39) = false := by simpa using h39
                            simp only [Qis, HX.out, H95.out, HK0.out, HD.out, this]; rfl))
                          go_wp2_with (first | (go_at_call 206; refine (Qfl _ _).mono ?_; rw [HX.out]; rintro e w2 ⟨rfl, hb2⟩; have hc := (hb2.cell (World.block_lt_of_cell? _ _ hc)).trans hc) | (go_at_call 207; refine (Qhl _ _).mono ?_; rw [HD.out]; rintro e w3 ⟨rfl, rfl⟩))
                          go_ret
                          exact ⟨Qah F.out, hbel.trans (hb2.mono hbel.size)⟩
              · obtain rfl : k = L := by omega
                have fin3 : Hid (true = Qam s) := by
                  show _ = _
                  have h := hno.out
                  rw [List.take_of_length_le (by rw [hL.out]; exact Nat.le_refl _)] at h
                  rw [fin2.out, h]
                go_wp2_with fail
                go_ret
                exact ⟨Qah fin3.out, hbel⟩
  · have fin : Hid (false = Qam s) := by show _ = _; simp [Qam, hE]
    go_wp2_with fail
    go_ret
    exact ⟨Qah fin.out, hb⟩
end Go.Proofs.YtdklpbefbamchaaGreat
namespace Go.Proofs.YtdklpbefbamchaaGreat
open Go.RowKit Go.WideMaps
theorem zero3 (w : World) : (zeroValue 3).run Tryz.prog w = .ok (.int .i64 0) w := by rfl
def cnt (l : List ByteArray) (s : ByteArray) : Nat := (l.filter (fun x => x.toList == s.toList)).length
theorem cnt_snoc (l : List ByteArray) (x s : ByteArray) : cnt (l ++ [x]) s = cnt l s + (if x.toList == s.toList then 1 else 0) := by
 unfold cnt
 rw [List.filter_append, List.length_append]
 congr 1
 by_cases h : x.toList == s.toList <;> simp [h]
theorem cnt_le (l : List ByteArray) (s : ByteArray) : cnt l s ≤ l.length := List.length_filter_le _ _
def Seen (w : World) (b : Nat) (l : List ByteArray) : Prop :=
 ∃ (D : DataW Unit), w.ownsMap Tryz.prog 9 (plainElem Tryz.prog 3) b l.length D ∧ Maps.IsMap D ∧ ∀ s : ByteArray, D.atKey (.string s.data.toList) (.lit (.int .i64 0)) = .lit (.int .i64 (cnt l s))
theorem Seen.made (w : World) : Seen (w.alloc (.map #[] 0)) w.heap.size [] :=
 ⟨.map [], World.ownsMap_made w _ _ _, ⟨_, rfl⟩, fun _ => rfl⟩
theorem key_str (s : ByteArray) (hs : s.size ≤ maxLen) : keyOf Tryz.prog 9 (.string s) = some (.string s.data.toList) := keyOf_string_mk (P := Tryz.prog) Tryz.underlying9 hs
theorem Seen.look {w : World} {b : Nat} {l : List ByteArray} (h : Seen w b l) (s : ByteArray) (hs : s.size ≤ maxLen) :
  (Instr.lookup 220 (.map (some b)) (.string s) false).run Tryz.prog w = .ok (.int .i64 (cnt l s)) w := by
 obtain ⟨D, h1, h2, h3⟩ := h
 obtain ⟨c, hrun, hat, -⟩ := h1.lookup_int (Maps.string_keyed Tryz.underlying9) Tryz.underlying220 Tryz.underlying3 (zero3 _) (key_str s hs)
 rw [h3 s] at hat
 simp only [DataW.lit.injEq, Lit.int.injEq, true_and] at hat
 rw [hrun, hat]
theorem Seen.put {w : World} {b : Nat} {l : List ByteArray} (h : Seen w b l) (x : ByteArray) (hs : x.size ≤ maxLen) (hl : l.length < 100000) :
  ∃ w', (Instr.mapUpdate 220 (.map (some b)) (.string x) (.int .i64 (cnt l x + 1))).run Tryz.prog w = .ok () w' ∧ Seen w' b (l ++ [x]) ∧ w.grownBy w' (some b) := by
 obtain ⟨D, h1, h2, h3⟩ := h
 have hc := cnt_le l x
 obtain ⟨w', hrun, hown, hg⟩ := h1.update (Maps.string_keyed Tryz.underlying9) Tryz.underlying220 (by unfold maxLen; omega) (key_str x hs) (plainElem_int Tryz.underlying3 (a := (cnt l x + 1 : Int)) (by simp [Lit.wf, IntKind.min, IntKind.max, IntKind.signed, IntKind.bits]; omega))
 refine ⟨w', hrun, ⟨_, by rw [List.length_append]; exact hown, ?_, fun s => ?_⟩, hg⟩
 ·exact hown.isMap
 ·have hk : WideAt.IsKeyLit (.string x.data.toList) := trivial
  by_cases he : x.toList == s.toList
  ·have : x = s := by
    apply ByteArray.ext
    have := beq_iff_eq.1 he
    rw [ByteArray.toList_eq, ByteArray.toList_eq] at this
    exact Array.toList_inj.mp this
   subst this
   rw [Maps.atKey_put_same h2 hk, cnt_snoc, if_pos he]
   simp
  ·have hne : (Lit.string s.data.toList) ≠ Lit.string x.data.toList := by
    intro e
    simp only [Lit.string.injEq] at e
    apply he
    rw [ByteArray.toList_eq, ByteArray.toList_eq, e]
    simp
   rw [Maps.atKey_put_other hne, h3 s, cnt_snoc, if_neg he]
   rfl
theorem Seen.later {w w' : World} {b n : Nat} {l : List ByteArray} (h : Seen w b l) (hb : Below n w w') (hn : b < n) : Seen w' b l := by
 obtain ⟨D, ⟨es, clock, h1, h2⟩, h3⟩ := h
 exact ⟨D, ⟨es, clock, (hb.block b hn).trans h1, h2⟩, h3⟩
theorem Seen.lt {w : World} {b : Nat} {l : List ByteArray} (h : Seen w b l) : b < w.heap.size := by
 obtain ⟨D, h1, _⟩ := h
 exact h1.lt
def x1 : ByteArray := ⟨#[120, 49]⟩
def Qaw (l : List ByteArray) (s : ByteArray) : Nat → Int
 | 0 => -1
 | k + 1 => if (l.getD k s).toList == s.toList then k else Qaw l s k
theorem Qnl (l : List ByteArray) (s : ByteArray) : ∀ k, -1 ≤ Qaw l s k ∧ Qaw l s k < k
  | 0 => by simp [Qaw]
  | k + 1 => by
    have := Qnl l s k
    simp only [Qaw]
    split <;> omega
theorem cnt_take (l : List ByteArray) (s : ByteArray) (k : Nat) (h : k < l.length) : cnt (l.take (k + 1)) s = cnt (l.take k) s + (if l[k].toList == s.toList then 1 else 0) := by
 rw [List.take_succ_eq_append_getElem h, cnt_snoc]
theorem place_cnt (l : List ByteArray) (s : ByteArray) : ∀ k, k ≤ l.length → (Qaw l s k < 0 ↔ cnt (l.take k) s = 0) := by
  intro k
  induction k with
  | zero => intro _; simp [Qaw, cnt]
  | succ k ih =>
    intro hk
    have ih' := ih (by omega)
    rw [cnt_take l s k (by omega)]
    simp only [Qaw, List.getD_eq_getElem?_getD, List.getElem?_eq_getElem (show k < l.length by omega), Option.getD_some]
    by_cases h : l[k].toList == s.toList
    · rw [if_pos h, if_pos h]; omega
    · rw [if_neg h, if_neg h]; omega
theorem Qhf (l : List ByteArray) (s : ByteArray) (k : Nat) (h : k < l.length) : l.getD k s = l[k] := by
 simp [List.getD_eq_getElem?_getD, List.getElem?_eq_getElem h]
theorem place_any (l : List ByteArray) (s : ByteArray) (v : Value) (w0 w : World) (hv : Slc w0 v (l.map Value.string)) (hb : Below w0.heap.size w0 w) :
    Calls Tryz.prog 159 #[v, .string s] w fun e w' => e = .returned (.int .i64 (Qaw l s l.length)) ∧ w = w' := by
  obtain ⟨a, cap, rfl, hll, -⟩ := Qhc hv
  rw [List.length_map] at hv hll ⊢
  go_enter Tryz.func159, Tryz.ntmps159
  go_wp2_with fail
  go_loopw [5] (fun i wr => ∃ (k : Nat), k ≤ l.length ∧ i = .int .i64 ((k : Int) - 1) ∧ Hid (Qaw l s k = Qaw l s l.length) ∧ w = wr) (fun i _ => (intOf i + 1).toNat)
  case atStart => exact ⟨l.length, Nat.le_refl _, rfl, rfl, rfl⟩
  case round =>
    obtain ⟨k, hk, rfl, hp, rfl⟩ := hrel
    cases k with
    | zero =>
      have fin : Hid (-1 = Qaw l s l.length) := hp.out
      go_wp2_with fail
      go_ret
      exact ⟨Qbl fin.out, rfl⟩
    | succ k =>
      obtain ⟨b, off, rfl, hc⟩ := Qjx hv hb k (by simp; omega)
      rw [List.getElem_map] at hc
      have e : ((k + 1 : Nat) : Int) - 1 = k := by omega
      rw [e]
      have hi0 : (0 : Int) ≤ k := by omega
      have hi1 : (k : Int) < l.length := by omega
      have hst : Hid (Qaw l s (k + 1) = if l[k].toList == s.toList then (k : Int) else Qaw l s k) := by
        show _ = _
        rw [Qaw, Qhf l s k hk]
      cases hq : (l[k].toList == s.toList) with
      | true =>
        have fin : Hid ((k : Int) = Qaw l s l.length) := by
          show _ = _
          rw [← hp.out, hst.out, if_pos hq]
        go_wp2_with fail
        go_ret
        exact ⟨Qbl fin.out, rfl⟩
      | false =>
        have G : Hid (Qaw l s k = Qaw l s l.length) := by
          show _ = _
          rw [← hp.out, hst.out, if_neg (by rw [hq]; decide)]
        go_wp2_with fail
        go_roundw
        case rel => exact ⟨k, by omega, rfl, G.out, trivial⟩
        case measure => simp [intOf]
theorem rplace_any (l : List ByteArray) (s : ByteArray) (v : Value) (w0 w : World) (hv : Slc w0 v (l.map Value.string)) (hb : Below w0.heap.size w0 w) :
    Calls Tryz.prog 152 #[v, .string s] w fun e w' => e = .returned (.int .i64 (Qaw l s l.length)) ∧ w = w' := by
  obtain ⟨a, cap, rfl, hll, -⟩ := Qhc hv
  rw [List.length_map] at hv hll ⊢
  go_enter Tryz.func152, Tryz.ntmps152
  go_wp2_with fail
  go_loopw [5, 6] (fun p i wr => ∃ (k : Nat), k ≤ l.length ∧ i = .int .i64 k ∧ p = .int .i64 (Qaw l s k) ∧ w = wr) (fun _ i _ => l.length - (intOf i).toNat)
  case atStart => exact ⟨0, Nat.zero_le _, rfl, rfl, rfl⟩
  case round =>
    obtain ⟨k, hk, rfl, rfl, rfl⟩ := hrel
    by_cases hlt : k < l.length
    · obtain ⟨b, off, rfl, hc⟩ := Qjx hv hb k (by simpa using hlt)
      rw [List.getElem_map] at hc
      have hst : Hid (Qaw l s (k + 1) = if l[k].toList == s.toList then (k : Int) else Qaw l s k) := by
        show _ = _
        rw [Qaw, Qhf l s k hlt]
      cases hq : (l[k].toList == s.toList) with
      | true =>
        have G : Hid ((k : Int) = Qaw l s (k + 1)) := by
          show _ = _
          rw [hst.out, if_pos hq]
        go_wp2_with fail
        go_roundw
        case rel => exact ⟨k + 1, hlt, by simp, congrArg (Value.int .i64) G.out, trivial⟩
        case measure => simp [intOf]; omega
      | false =>
        have G : Hid (Qaw l s k = Qaw l s (k + 1)) := by
          show _ = _
          rw [hst.out, if_neg (by rw [hq]; decide)]
        go_wp2_with fail
        go_roundw
        case rel => exact ⟨k + 1, hlt, by simp, congrArg (Value.int .i64) G.out, trivial⟩
        case measure => simp [intOf]; omega
    · obtain rfl : k = l.length := by omega
      go_wp2_with fail
      go_ret
      exact ⟨rfl, rfl⟩
theorem Qka (l : List ByteArray) (s : ByteArray) : ∀ k, (Qaw l s k = -1 ∧ ∀ j, j < k → ((l.getD j s).toList == s.toList) = false) ∨ ∃ i, i < k ∧ Qaw l s k = (i : Int) ∧ ((l.getD i s).toList == s.toList) = true ∧ ∀ j, i < j → j < k → ((l.getD j s).toList == s.toList) = false := by
  intro k
  induction k with
  | zero => left; exact ⟨rfl, fun j hj => by omega⟩
  | succ k ih =>
    simp only [Qaw]
    cases hq : ((l.getD k s).toList == s.toList) with
    | true =>
      right
      exact ⟨k, by omega, by simp, hq, fun j h1 h2 => by omega⟩
    | false =>
      rw [if_neg (by decide)]
      rcases ih with ⟨h1, h2⟩ | ⟨i, hi, h1, h2, h3⟩
      · left
        refine ⟨h1, fun j hj => ?_⟩
        by_cases h : j = k
        · subst h; exact hq
        · exact h2 j (by omega)
      · right
        refine ⟨i, by omega, h1, h2, fun j hj hj2 => ?_⟩
        by_cases h : j = k
        · subst h; exact hq
        · exact h3 j hj (by omega)
def DistN (l : List ByteArray) (k : Nat) : Prop := ∀ i j, i < j → j < k → ((l.getD i ByteArray.empty).toList == (l.getD j ByteArray.empty).toList) = false
theorem getD_any (l : List ByteArray) (a b : ByteArray) (k : Nat) (h : k < l.length) : l.getD k a = l.getD k b := by
 rw [Qhf l a k h, Qhf l b k h]
theorem dist_step (l : List ByteArray) (k : Nat) (h : k < l.length) (hd : DistN l k) : (cnt (l.take k) l[k] = 0 → DistN l (k + 1)) ∧ (cnt (l.take k) l[k] ≠ 0 → ¬ DistN l l.length) := by
 have hpc := place_cnt l l[k] k (by omega)
 constructor
 ·intro h0
  have hp := hpc.2 h0
  intro i j hij hj
  by_cases hjk : j = k
  ·subst hjk
   rcases Qka l l[j] j with ⟨_, h2⟩ | ⟨i', _, h1, _, _⟩
   ·have := h2 i hij
    rw [Qhf l _ j h, getD_any l _ l[j] i (by omega)]
    exact this
   ·omega
  ·exact hd i j hij (by omega)
 ·intro h0 hD
  have hp := mt hpc.1 h0
  rcases Qka l l[k] k with ⟨h1, _⟩ | ⟨i, hi, _, h2, _⟩
  ·omega
  ·have := hD i k hi h
   rw [Qhf l _ k h, getD_any l _ l[k] i (by omega), h2] at this
   cases this
theorem distinct_any (l : List ByteArray) (v : Value) (w : World) (hv : Slc w v (l.map Value.string)) (hsz : ∀ x ∈ l, x.size ≤ maxLen) (hl : l.length ≤ 8192) :
  Calls Tryz.prog 128 #[v] w fun e w' => (∃ b, e = .returned (.bool b) ∧ (b = true ↔ DistN l l.length)) ∧ Below w.heap.size w w' := by
 have hmm := @run_makeMap Tryz.prog
 obtain ⟨a, cap, rfl, hll, -⟩ := Qhc hv
 rw [List.length_map] at hv hll ⊢
 have HSZ := Lib.hid hsz
 clear hsz
 go_enter Tryz.func128, Tryz.ntmps128
 go_wp2_with fail
 go_loopw [9] (fun i wr => ∃ (k : Nat), k ≤ l.length ∧ i = .int .i64 k ∧ Hid (Seen wr w.heap.size (l.take k)) ∧ Hid (DistN l k) ∧ Below w.heap.size w wr) (fun i _ => l.length - (intOf i).toNat)
 case atStart => exact ⟨0, Nat.zero_le _, rfl, Seen.made w, fun i j h1 h2 => by omega, (Below.refl _ _).alloc (Nat.le_refl _) _⟩
 case round =>
  obtain ⟨k, hk, rfl, hseen, hd, hbel⟩ := hrel
  by_cases hlt : k < l.length
  ·obtain ⟨b, off, rfl, hc⟩ := Qjx hv hbel k (by simpa using hlt)
   rw [List.getElem_map] at hc
   have hxs := HSZ.out _ (List.getElem_mem hlt)
   have hlook := hseen.out.look l[k] hxs
   obtain ⟨hs0, hs1⟩ := dist_step l k hlt hd.out
   by_cases h0 : cnt (l.take k) l[k] = 0
   ·obtain ⟨w2, hput, hs2, hg2⟩ := hseen.out.put l[k] hxs (by rw [List.length_take]; omega)
    rw [← List.take_succ_eq_append_getElem hlt] at hs2
    have hb2 := Lib.hid (hbel.grown hg2 hbel.size (fun j hj => by cases hj; exact Nat.le_refl _))
    have HS2 := Lib.hid hs2
    have HD := Lib.hid (hs0 h0)
    have hcl : (cnt (l.take k) l[k] : Int) ≤ 8192 := by omega
    have hd0 : ¬ 0 < cnt (l.take k) l[k] := by omega
    clear hs2 hg2 hs0 hs1 h0
    go_wp2_with fail
    go_roundw
    case rel => exact ⟨k + 1, hlt, by simp, HS2.out, HD.out, hb2.out⟩
    case measure => simp [intOf]; omega
   ·have hgt : 0 < cnt (l.take k) l[k] := by omega
    have HF := Lib.hid (hs1 h0)
    have HB := Lib.hid hbel
    clear hs0 hs1 h0 hbel
    go_wp2_with fail
    go_ret
    exact ⟨⟨false, rfl, by constructor <;> intro h; exact absurd h (by decide); exact absurd h HF.out⟩, HB.out⟩
  ·obtain rfl : k = l.length := by omega
   have HB := Lib.hid hbel
   clear hbel
   go_wp2_with fail
   go_ret
   exact ⟨⟨true, rfl, fun _ => hd.out, fun _ => rfl⟩, HB.out⟩
theorem place_last (l : List ByteArray) (k : Nat) (h : k < l.length) : (Qaw l l[k] l.length = (k : Int) ↔ ∀ j, k < j → j < l.length → ((l.getD k ByteArray.empty).toList == (l.getD j ByteArray.empty).toList) = false) := by
 have hk : l.getD k l[k] = l[k] := Qhf l _ k h
 have sw : ∀ j, j < l.length → ((l.getD k ByteArray.empty).toList == (l.getD j ByteArray.empty).toList) = ((l.getD j l[k]).toList == l[k].toList) := by
  intro j hj
  rw [Qhf l _ k h, getD_any l _ l[k] j hj]
  rw [Bool.eq_iff_iff, beq_iff_eq, beq_iff_eq]
  exact eq_comm
 constructor
 ·intro hp j hj hj2
  rw [sw j hj2]
  rcases Qka l l[k] l.length with ⟨h1, _⟩ | ⟨i, hi, h1, _, h3⟩
  ·omega
  ·have : i = k := by omega
   subst this
   exact h3 j hj hj2
 ·intro hno
  rcases Qka l l[k] l.length with ⟨_, h2⟩ | ⟨i, hi, h1, h2, h3⟩
  ·have := h2 k h
   rw [hk] at this
   simp at this
  ·rw [h1]
   by_cases hik : i = k
   ·rw [hik]
   ·exfalso
    by_cases hlt : i < k
    ·have := h3 k hlt h
     rw [hk] at this
     simp at this
    ·have := hno i (by omega) hi
     rw [sw i hi, h2] at this
     cases this
theorem rdistinct_any (l : List ByteArray) (v : Value) (w : World) (hv : Slc w v (l.map Value.string)) :
    Calls Tryz.prog 94 #[v] w fun e w' => (∃ b, e = .returned (.bool b) ∧ (b = true ↔ DistN l l.length)) ∧ w = w' := by
  have hv0 := hv
  obtain ⟨a, cap, rfl, hll, -⟩ := Qhc hv
  rw [List.length_map] at hv hll hv0 ⊢
  have HV := Lib.hid hv0
  clear hv0
  go_enter Tryz.func94, Tryz.ntmps94
  go_wp2_with fail
  go_loopw [3] (fun i wr => ∃ (k : Nat), k ≤ l.length ∧ i = .int .i64 k ∧ Hid (∀ i j, i < k → i < j → j < l.length → ((l.getD i ByteArray.empty).toList == (l.getD j ByteArray.empty).toList) = false) ∧ w = wr) (fun i _ => l.length - (intOf i).toNat)
  case atStart => exact ⟨0, Nat.zero_le _, rfl, fun i j h => by omega, rfl⟩
  case round =>
    obtain ⟨k, hk, rfl, hd, rfl⟩ := hrel
    by_cases hlt : k < l.length
    · obtain ⟨b, off, rfl, hc⟩ := Qjx hv (Below.refl _ _) k (by simpa using hlt)
      rw [List.getElem_map] at hc
      have hi0 : (0 : Int) ≤ k := by omega
      have hi1 : (k : Int) < l.length := by omega
      have hpl := place_last l k hlt
      have hP := Lib.hid (rplace_any l l[k] _ w w HV.out (Below.refl _ _))
      cases hq : (Qaw l l[k] l.length != (k : Int)) with
      | true =>
        have HF : Hid (¬ DistN l l.length) := by
          intro h
          have : Qaw l l[k] l.length = (k : Int) := hpl.2 (fun j h1 h2 => h k j h1 h2)
          rw [this] at hq
          simp at hq
        clear hpl
        go_wp2_with fail
        refine hP.out.mono ?_
        rintro e w2 ⟨rfl, rfl⟩
        go_wp2_with fail
        go_ret
        exact ⟨⟨false, rfl, by constructor <;> intro h; exact absurd h (by decide); exact absurd h HF.out⟩, rfl⟩
      | false =>
        have HG : Hid (∀ i j, i < k + 1 → i < j → j < l.length → ((l.getD i ByteArray.empty).toList == (l.getD j ByteArray.empty).toList) = false) := by
          intro i j h1 h2 h3
          by_cases hik : i = k
          · subst hik
            exact hpl.1 (by simpa using hq) j h2 h3
          · exact hd.out i j (by omega) h2 h3
        clear hpl
        go_wp2_with fail
        refine hP.out.mono ?_
        rintro e w2 ⟨rfl, rfl⟩
        go_wp2_with fail
        go_roundw
        case rel => exact ⟨k + 1, hlt, by simp, HG.out, trivial⟩
        case measure => simp [intOf]; omega
    · obtain rfl : k = l.length := by omega
      go_wp2_with fail
      go_ret
      exact ⟨⟨true, rfl, fun _ => fun i j h1 h2 => hd.out i j (by omega) h1 h2, fun _ => rfl⟩, rfl⟩
theorem toNat_inj : ∀ (l m : List Int), (∀ x ∈ l, 0 ≤ x) → (∀ x ∈ m, 0 ≤ x) → l.map Int.toNat = m.map Int.toNat → l = m := by
  intro l
  induction l with
  | nil => intro m _ _ h; cases m with
    | nil => rfl
    | cons y ys => simp at h
  | cons x xs ih =>
    intro m hl hm h
    cases m with
    | nil => simp at h
    | cons y ys =>
      simp only [List.map_cons, List.cons.injEq] at h
      have h1 := hl x (by simp)
      have h2 := hm y (by simp)
      rw [ih ys (fun z hz => hl z (by simp [hz])) (fun z hz => hm z (by simp [hz])) h.2]
      congr 1
      omega
end Go.Proofs.YtdklpbefbamchaaGreat
