import Derived.Test.YtdklpbefbamchaaGreatBUtf
import Derived.Test.YtdklpbefbamchaaGreatBK
import Derived.Test.YtdklpbefbamchaaGreatBUtf1
import Derived.Maps.OwnOps
import Derived.Maps.Views
set_option linter.unusedSimpArgs false
set_option linter.unusedVariables false
set_option maxHeartbeats 16000000
set_option maxRecDepth 100000
namespace Go.Proofs.YtdklpbefbamchaaGreat
open Go.RowKit
def Qdc (n : Int) : Bool := decide (48 ≤ n ∧ n ≤ 57)
def markL : List Int := [40, 41, 123, 125, 58, 61, 46, 44, 59, 124, 92, 955, 8594, 45, 62]
def markB (n : Int) : Bool := decide (n = 40 ∨ n = 41 ∨ n = 123 ∨ n = 125 ∨ n = 58 ∨ n = 61 ∨ n = 46 ∨ n = 44 ∨ n = 59 ∨ n = 124 ∨ n = 92 ∨ n = 955 ∨ n = 8594 ∨ n = 45 ∨ n = 62)
def Qcw (n : Int) : Bool := decide ((97 ≤ n ∧ n ≤ 122) ∨ (65 ≤ n ∧ n ≤ 90) ∨ (128 ≤ n ∧ right n = true ∧ markB n = false ∧ n ≠ 160 ∧ (n < 8192 ∨ 8303 < n)))
def Qed (n : Int) : Bool := Qcw n || Qdc n || n == 95 || n == 39
theorem Qkq (n : Int) (w : World) : Calls Tryz.prog 274 #[.int .i64 n] w fun e w' => e = .returned (.bool (Qdc n)) ∧ w = w' := by
 go_enter Tryz.func274, Tryz.ntmps274
 go_wp2
 all_goals go_ret
 all_goals refine ⟨Qaj ?_, rfl⟩
 all_goals (unfold Qdc; rw [Bool.eq_iff_iff]; simp; omega)
theorem Qfd (n : Int) (w : World) : Calls Tryz.prog 207 #[.int .i64 n] w fun e w' => e = .returned (.bool (Qdc n)) ∧ w = w' := by
 go_enter Tryz.func207, Tryz.ntmps207
 go_wp2
 all_goals go_ret
 all_goals refine ⟨Qaj ?_, rfl⟩
 all_goals (unfold Qdc; rw [Bool.eq_iff_iff]; simp; omega)
theorem mark_any (n : Int) (w : World) : Calls Tryz.prog 287 #[.int .i64 n] w fun e w' => e = .returned (.bool (markB n)) ∧ w = w' := by
 go_enter Tryz.func287, Tryz.ntmps287
 go_wp2
 all_goals go_ret
 all_goals refine ⟨Qaj ?_, rfl⟩
 all_goals (simp only [beq_iff_eq, beq_eq_false_iff_ne, ne_eq] at *; unfold markB; rw [Bool.eq_iff_iff]; simp; omega)
theorem Qhw (n : Int) (w : World) : Calls Tryz.prog 242 #[.int .i64 n] w fun e w' => e = .returned (.bool (Qcw n)) ∧ w = w' := by
 go_enter Tryz.func242, Tryz.ntmps242
 go_wp2_with (first | (go_at_call 286; refine (Qdt _ _).mono ?_; rintro e w1 ⟨rfl, rfl⟩; cases hr : right n) | (go_at_call 287; refine (mark_any _ _).mono ?_; rintro e w2 ⟨rfl, rfl⟩; cases hm : markB n))
 all_goals go_ret
 all_goals refine ⟨Qaj ?_, rfl⟩
 all_goals (unfold Qcw; (try rw [hr]); (try rw [hm]); rw [Bool.eq_iff_iff]; simp; omega)
def kwB (s : ByteArray) : Bool := s.toList == [100, 97, 116, 97] || s.toList == [114, 101, 99, 111, 114, 100] || s.toList == [100, 101, 102] || s.toList == [83, 101, 116]
theorem Qlj (s : ByteArray) (w : World) : Calls Tryz.prog 240 #[.string s] w fun e w' => e = .returned (.bool (kwB s)) ∧ w = w' := by
 go_enter Tryz.func240, Tryz.ntmps240
 go_wp2
 all_goals go_ret
 all_goals refine ⟨Qaj ?_, rfl⟩
 all_goals (unfold kwB; simp_all)
theorem Qio (s : ByteArray) (w : World) : Calls Tryz.prog 205 #[.string s] w fun e w' => e = .returned (.bool (kwB s)) ∧ w = w' := by
 go_enter Tryz.func205, Tryz.ntmps205
 go_wp2
 all_goals go_ret
 all_goals refine ⟨Qaj ?_, rfl⟩
 all_goals (unfold kwB; simp_all)
theorem inner_any (n : Int) (w : World) : Calls Tryz.prog 241 #[.int .i64 n] w fun e w' => e = .returned (.bool (Qed n)) ∧ w = w' := by
 go_enter Tryz.func241, Tryz.ntmps241
 go_wp2_with (first | (go_at_call 242; refine (Qhw _ _).mono ?_; rintro e w1 ⟨rfl, rfl⟩; cases hr : Qcw n) | (go_at_call 274; refine (Qkq _ _).mono ?_; rintro e w2 ⟨rfl, rfl⟩; cases hm : Qdc n))
 all_goals go_ret
 all_goals refine ⟨Qaj ?_, rfl⟩
 all_goals (unfold Qed; simp [*])
theorem Qhg {w wr : World} {a : Option Addr} {cap n : Nat} {xs : List Value} (h : Slc w (.slice a n cap) xs) (hb : Below w.heap.size w wr) (k : Nat) (hk : k < xs.length) :
  ∃ b off, a = some ⟨b, off, none⟩ ∧ wr.cell? ⟨b, off + k, none⟩ = some xs[k] := by
 obtain ⟨a', cap', hv, hm, hc⟩ := h
 obtain ⟨b, off, ha, hcell⟩ := hc (by intro e; rw [e] at hk; simp at hk)
 simp only [Value.slice.injEq] at hv
 have h1 := hcell k hk
 rw [List.getElem?_eq_getElem hk] at h1
 exact ⟨b, off, by rw [hv.1, ha], (hb.cell (World.block_lt_of_cell? w _ h1)).trans h1⟩
theorem Qdu {w : World} {v : Value} {xs : List Value} (h : Slc w v xs) : ∃ a cap, v = .slice a xs.length cap ∧ xs.length ≤ 9223372036854775807 ∧ xs.length ≤ maxLen := by
 obtain ⟨a, cap, hv, hm, _⟩ := h
 exact ⟨a, cap, hv, by unfold maxLen at hm; omega, hm⟩
theorem contains_take (l : List Int) (n : Int) (k : Nat) (h : k < l.length) : (l.take (k + 1)).contains n = ((l.take k).contains n || l[k] == n) := by
 rw [List.take_succ_eq_append_getElem h, List.contains_append]
 congr 1
 rw [List.contains_cons]
 simp [Bool.beq_comm]
theorem rin_any (l : List Int) (v : Value) (n : Int) (w0 w : World) (hv : Slc w0 v (l.map (Value.int .i64))) (hb : Below w0.heap.size w0 w) :
    Calls Tryz.prog 290 #[v, .int .i64 n] w fun e w' => e = .returned (.bool (l.contains n)) ∧ w = w' := by
  obtain ⟨a, cap, rfl, hm, -⟩ := Qdu hv
  rw [List.length_map] at hm hv ⊢
  go_enter Tryz.func290, Tryz.ntmps290
  go_wp2_with fail
  go_loopw [5] (fun i wr => ∃ (k : Nat), k ≤ l.length ∧ i = .int .i64 k ∧ Hid ((l.take k).contains n = false) ∧ w = wr) (fun i _ => l.length - (intOf i).toNat)
  case atStart => exact ⟨0, Nat.zero_le _, rfl, rfl, rfl⟩
  case round =>
    obtain ⟨k, hk, rfl, hno, rfl⟩ := hrel
    by_cases hlt : k < l.length
    · obtain ⟨b, off, rfl, hc⟩ := Qhg hv hb k (by simpa using hlt)
      rw [List.getElem_map] at hc
      have hct := contains_take l n k hlt
      rw [hno.out, Bool.false_or] at hct
      have HCT := Lib.hid hct
      clear hct
      cases hq : (l[k] == n) with
      | true =>
        have fin : Hid (true = l.contains n) := by
          have h := HCT.out
          rw [hq] at h
          show _ = _
          symm
          rw [List.contains_iff_mem] at h ⊢
          exact List.mem_of_mem_take h
        have HQ := Lib.hid hq
        go_wp2_with fail
        go_ret
        exact ⟨Qaj fin.out, rfl⟩
      | false =>
        have HQ : Hid ((l.take (k + 1)).contains n = false) := by rw [← hq]; exact HCT.out
        go_wp2_with fail
        go_roundw
        case rel => exact ⟨k + 1, hlt, by simp, HQ.out, trivial⟩
        case measure => simp [intOf]; omega
    · obtain rfl : k = l.length := by omega
      have fin : Hid (false = l.contains n) := by
        have h := hno.out
        rw [List.take_length] at h
        exact h.symm
      go_wp2_with fail
      go_ret
      exact ⟨Qaj fin.out, rfl⟩
theorem rmark_any (n : Int) (w : World) : Calls Tryz.prog 258 #[.int .i64 n] w fun e w' => e = .returned (.bool (markB n)) ∧ Below w.heap.size w w' := by
 have fin : Hid (decide (n ∈ markL) = markB n) := by
  show _ = _
  rw [Bool.eq_iff_iff]; simp [markL, markB]
 have hown : (w.alloc (.cells (markL.map (Value.int .i64)).toArray 3)).ownsRow w.heap.size 3 1 (.slice (some ⟨w.heap.size, 0, none⟩) 15 15) 15 (markL.map (Value.int .i64)) :=
  own_lit 3 rfl (by decide) (Below.refl _ _)
 go_enter Tryz.func258, Tryz.ntmps258
 go_wp2_with fail
 refine (rin_any markL _ n _ _ (Slc.own hown) (Below.refl _ _)).mono ?_
 rintro e w1 ⟨rfl, rfl⟩
 go_wp2_with fail
 go_ret
 exact ⟨Qaj fin.out, (Below.refl _ _).alloc (Nat.le_refl _) _⟩
theorem Qfl (n : Int) (w : World) : Calls Tryz.prog 206 #[.int .i64 n] w fun e w' => e = .returned (.bool (Qcw n)) ∧ Below w.heap.size w w' := by
 go_enter Tryz.func206, Tryz.ntmps206
 go_wp2_with (first | (go_at_call 257; refine (Qce _ _).mono ?_; rintro e w1 ⟨rfl, rfl⟩; cases hr : right n) | (go_at_call 258; refine (rmark_any _ _).mono ?_; rintro e w2 ⟨rfl, hb⟩; cases hm : markB n))
 all_goals go_ret
 all_goals refine ⟨Qaj ?_, by first | exact hb | exact Below.refl _ _⟩
 all_goals (unfold Qcw; (try rw [hr]); (try rw [hm]); rw [Bool.eq_iff_iff]; simp; omega)
def Qaq (s : ByteArray) : Bool := allE s == 0 && decide (s.size ≠ 0 ∧ s.size ≤ 40) && !kwB s && (allS s).all Qed && (Qcw ((allS s).headD 0) || ((allS s).headD 0 == 95 && decide (1 < (allS s).length)))
theorem allS_len (s : ByteArray) (h : allE s = 0) : (allS s).length = 0 ↔ s.size = 0 := by
 obtain ⟨_, hj⟩ := Qit s h
 constructor
 ·intro h0
  rw [List.eq_nil_of_length_eq_zero h0] at hj
  rw [← hj]; rfl
 ·intro h0
  have hs : s = ⟨#[]⟩ := by
   apply ByteArray.ext
   exact Array.eq_empty_of_size_eq_zero h0
  subst hs
  decide
theorem headD_get : ∀ (l : List Int) (h : 0 < l.length), l.headD 0 = l[0] := by
 intro l h
 cases l with
 | nil => simp at h
 | cons x xs => rfl
theorem all_take (l : List Int) (p : Int → Bool) (k : Nat) (h : k < l.length) : (l.take (k + 1)).all p = ((l.take k).all p && p l[k]) := by
 rw [List.take_succ_eq_append_getElem h, List.all_append]
 simp
theorem all_shape (s : ByteArray) (hs : s.size ≤ maxLen) (w : World) :
  Calls Tryz.prog 218 #[.string s] w fun e w' => ∃ a c L, e = .returned (.tuple #[.slice a L c, .int .i64 (Qfm s), .int .i64 (allE s)]) ∧ Hid ((allS s).length = L) ∧ L ≤ 9223372036854775807 ∧ Slc w' (.slice a L c) ((allS s).map (Value.int .i64)) ∧ Below w.heap.size w w' := by
 refine (all_any s hs w).mono ?_
 rintro e w' ⟨v, rfl, ho, hb⟩
 have hS := Slc.own ho
 obtain ⟨a, c, hv, hl, -⟩ := Qdu hS
 rw [List.length_map] at hv hl
 subst hv
 exact ⟨a, c, _, rfl, rfl, hl, hS, hb⟩
theorem rall_shape (s : ByteArray) (hs : s.size ≤ maxLen) (w : World) :
  Calls Tryz.prog 176 #[.string s] w fun e w' => ∃ a c L, e = .returned (.tuple #[.slice a L c, .int .i64 (Qfm s), .int .i64 (allE s)]) ∧ Hid ((allS s).length = L) ∧ L ≤ 9223372036854775807 ∧ Slc w' (.slice a L c) ((allS s).map (Value.int .i64)) ∧ Below w.heap.size w w' := by
 refine (rall_any s hs w).mono ?_
 rintro e w' ⟨v, rfl, ho, hb⟩
 have hS := Slc.own ho
 obtain ⟨a, c, hv, hl, -⟩ := Qdu hS
 rw [List.length_map] at hv hl
 subst hv
 exact ⟨a, c, _, rfl, rfl, hl, hS, hb⟩
theorem Qka (s : ByteArray) (hs : s.size ≤ maxLen) (w : World) :
    Calls Tryz.prog 187 #[.string s] w fun e w' => e = .returned (.bool (Qaq s)) ∧ Below w.heap.size w w' := by
  have hs2 : s.size ≤ 9223372036854775807 := by unfold maxLen at hs; omega
  have hlen := Lib.hid (allS_len s)
  have HS := Lib.hid hs
  clear hs
  go_enter Tryz.func187, Tryz.ntmps187
  go_wp2_with fail
  refine (all_shape s HS.out _).mono ?_
  rintro e w1 ⟨a, c, L, rfl, hL, hl, hS, hb⟩
  by_cases hE : allE s = 0
  · have hll := hlen.out hE
    rw [hL.out] at hll
    by_cases h0 : s.size = 0
    · have hz : ((L : Int) == 0) = true := by have := hll.2 h0; simp; omega
      have fin : Hid (false = Qaq s) := by show _ = _; simp [Qaq, h0]
      go_wp2_with fail
      go_ret
      exact ⟨Qaj fin.out, hb⟩
    · have hz : ((L : Int) == 0) = false := by have := mt hll.1 h0; simp; omega
      have hz' : 0 < L := by have := mt hll.1 h0; omega
      clear hll
      by_cases h40 : 40 < (s.size : Int)
      · have hd40 : decide (40 < (s.size : Int)) = true := by simp; omega
        have fin : Hid (false = Qaq s) := by
          have : ¬ s.size ≤ 40 := by omega
          show _ = _; simp [Qaq, this]
        go_wp2_with fail
        all_goals go_ret
        all_goals exact ⟨Qaj fin.out, hb⟩
      · have hd40 : decide (40 < (s.size : Int)) = false := by simp; omega
        cases hk : kwB s with
        | true =>
          have fin : Hid (false = Qaq s) := by show _ = _; simp [Qaq, hk]
          have HK := Lib.hid hk
          clear hk
          go_wp2_with (go_at_call 240; refine (Qlj s _).mono ?_; rw [HK.out]; rintro e w2 ⟨rfl, rfl⟩)
          go_ret
          exact ⟨Qaj fin.out, hb⟩
        | false =>
          have fin : Hid (Qaq s = ((allS s).all Qed && (Qcw ((allS s).headD 0) || ((allS s).headD 0 == 95 && decide (1 < (allS s).length))))) := by
            have : s.size ≤ 40 := by omega
            show _ = _; simp [Qaq, hk, hE, h0, this]
          have HK := Lib.hid hk
          clear hk
          go_wp2_with (go_at_call 240; refine (Qlj s _).mono ?_; rw [HK.out]; rintro e w2 ⟨rfl, rfl⟩)
          have hk0 : (0 : Int) < L := by omega
          go_loopw [32] (fun i wr => ∃ (k : Nat), k ≤ L ∧ i = .int .i64 k ∧ Hid (((allS s).take k).all Qed = true) ∧ w1 = wr) (fun i _ => L - (intOf i).toNat)
          case atStart => exact ⟨0, Nat.zero_le _, rfl, rfl, rfl⟩
          case round =>
            obtain ⟨k, hk, rfl, hno, rfl⟩ := hrel
            by_cases hlt : k < L
            · have hltS : k < (allS s).length := by have := hL.out; omega
              obtain ⟨b, off, rfl, hc⟩ := Qhg hS (Below.refl _ _) k (by simpa using hltS)
              rw [List.getElem_map] at hc
              have hct := all_take (allS s) Qed k hltS
              rw [hno.out, Bool.true_and] at hct
              have HCT := Lib.hid hct
              clear hct
              have hi0 : (0 : Int) ≤ k := by omega
              have hi1 : (k : Int) < L := by omega
              cases hq : Qed (allS s)[k] with
              | true =>
                have HQ := Lib.hid hq
                clear hq
                go_wp2_with (go_at_call 241; refine (inner_any _ _).mono ?_; rw [HQ.out]; rintro e w2 ⟨rfl, rfl⟩)
                go_roundw
                case rel => exact ⟨k + 1, hlt, by simp, HCT.out.trans HQ.out, trivial⟩
                case measure => simp [intOf]; omega
              | false =>
                have HQ := Lib.hid hq
                clear hq
                have fin2 : Hid (false = Qaq s) := by
                  show _ = _
                  rw [fin.out]
                  have : (allS s).all Qed = false := by
                    cases h : (allS s).all Qed with
                    | false => rfl
                    | true =>
                      rw [List.all_eq_true] at h
                      have := h _ (List.getElem_mem hltS)
                      rw [HQ.out] at this
                      cases this
                  rw [this]; rfl
                go_wp2_with (go_at_call 241; refine (inner_any _ _).mono ?_; rw [HQ.out]; rintro e w2 ⟨rfl, rfl⟩)
                go_ret
                exact ⟨Qaj fin2.out, hb⟩
            · obtain rfl : k = L := by omega
              have hpS : 0 < (allS s).length := by have := hL.out; omega
              obtain ⟨b, off, rfl, hc⟩ := Qhg hS (Below.refl _ _) 0 (by simpa using hpS)
              rw [List.getElem_map, Nat.add_zero] at hc
              have hhd : Hid ((allS s).headD 0 = (allS s)[0]) := by
                exact headD_get _ hpS
              have fin2 : Hid (Qaq s = (Qcw (allS s)[0] || ((allS s)[0] == 95 && decide (1 < (k : Int))))) := by
                show _ = _
                have h := hno.out
                rw [List.take_of_length_le (by rw [hL.out]; exact Nat.le_refl _)] at h
                rw [fin.out, h, hhd.out, hL.out, Bool.true_and]
                congr 2
                simp
                omega
              have hi1 : (0 : Int) < k := by omega
              generalize (allS s)[0] = x at *
              cases hq : Qcw x with
              | true =>
                have HQ := Lib.hid hq
                clear hq
                have fin3 : Hid (true = Qaq s) := by show _ = _; rw [fin2.out, HQ.out]; rfl
                go_wp2_with (go_at_call 242; refine (Qhw _ _).mono ?_; rw [HQ.out]; rintro e w2 ⟨rfl, rfl⟩)
                go_ret
                exact ⟨Qaj fin3.out, hb⟩
              | false =>
                have HQ := Lib.hid hq
                clear hq
                have fin3 : Hid ((x == 95 && decide (1 < (k : Int))) = Qaq s) := by show _ = _; rw [fin2.out, HQ.out]; rfl
                cases h95 : (x == 95) with
                | true =>
                  have fin4 : Hid (decide (1 < (k : Int)) = Qaq s) := by rw [← fin3.out, h95]; rfl
                  go_wp2_with (go_at_call 242; refine (Qhw _ _).mono ?_; rw [HQ.out]; rintro e w2 ⟨rfl, rfl⟩)
                  all_goals go_ret
                  all_goals exact ⟨Qaj fin4.out, hb⟩
                | false =>
                  have fin4 : Hid (false = Qaq s) := by rw [← fin3.out, h95]; rfl
                  go_wp2_with (go_at_call 242; refine (Qhw _ _).mono ?_; rw [HQ.out]; rintro e w2 ⟨rfl, rfl⟩)
                  all_goals go_ret
                  all_goals exact ⟨Qaj fin4.out, hb⟩
  · have fin : Hid (false = Qaq s) := by show _ = _; simp [Qaq, hE]
    go_wp2_with fail
    go_ret
    exact ⟨Qaj fin.out, hb⟩
def Qhf (k : Nat) (x : Int) : Bool := Qcw x || x == 95 || (k != 0 && (Qdc x || x == 39))
def chk : List Int → Bool | [] => true | x :: xs => (Qcw x || x == 95) && xs.all Qed
theorem chk_take (l : List Int) (k : Nat) (h : k < l.length) : chk (l.take (k + 1)) = (chk (l.take k) && Qhf k l[k]) := by
  cases l with
  | nil => simp at h
  | cons x xs =>
    cases k with
    | zero => simp [chk, Qhf]
    | succ k =>
      have h' : k < xs.length := by simpa using h
      simp only [List.take_succ_cons, chk, List.getElem_cons_succ]
      rw [all_take xs Qed k h', ← Bool.and_assoc]
      congr 1
      simp only [Qed, Qhf]
      cases Qcw xs[k] <;> cases Qdc xs[k] <;> cases (xs[k] == 95) <;> cases (xs[k] == 39) <;> rfl
theorem chk_false (l : List Int) (m : Nat) (h3 : chk (l.take m) = false) : chk l = false := by
  cases l with
  | nil => simpa using h3
  | cons x xs =>
    cases m with
    | zero => simp [chk] at h3
    | succ m =>
      simp only [List.take_succ_cons, chk] at h3 ⊢
      cases hx : (Qcw x || x == 95) with
      | false => rfl
      | true =>
        rw [hx] at h3
        simp only [Bool.true_and] at h3 ⊢
        cases hy : xs.all Qed with
        | false => rfl
        | true =>
          rw [List.all_eq_true] at hy
          have : (xs.take m).all Qed = true := by rw [List.all_eq_true]; intro z hz; exact hy z (List.mem_of_mem_take hz)
          rw [this] at h3; cases h3
theorem under_iff (s : ByteArray) (h : allE s = 0) : (s.toList == [95]) = (allS s == [95]) := by
 rw [Bool.eq_iff_iff, beq_iff_eq, beq_iff_eq]
 constructor
 ·intro hs
  have : s = ⟨#[95]⟩ := by
   apply ByteArray.ext
   rw [ByteArray.toList_eq] at hs
   exact Array.toList_inj.mp hs
  subst this
  decide
 ·intro hs
  have := (Qit s h).2
  rw [hs] at this
  rw [← this, ByteArray.toList_eq]
  decide +kernel
theorem rightN_ref (s : ByteArray) (hE : allE s = 0) (h0 : s.size ≠ 0) (h40 : s.size ≤ 40) (hk : kwB s = false) : Qaq s = (!(s.toList == [95]) && chk (allS s)) := by
  have hl := mt (allS_len s hE).1 h0
  rw [under_iff s hE]
  simp only [Qaq, hE, hk]
  cases hq : allS s with
  | nil => rw [hq] at hl; simp at hl
  | cons x xs =>
    have hL95 : Qcw 95 = false := by decide
    simp [h0, h40, chk, Qed]
    cases hx : Qcw x with
    | true =>
      have : x ≠ 95 := by intro e; rw [e, hL95] at hx; cases hx
      simp [this]
    | false =>
      by_cases h95 : x = 95
      · subst h95
        cases xs with
        | nil => simp
        | cons y ys => simp
      · have hb : (x == 95) = false := by simpa using h95
        rw [hb]
        simp
theorem Qjc (s : ByteArray) (hs : s.size ≤ maxLen) (w : World) :
    Calls Tryz.prog 153 #[.string s] w fun e w' => e = .returned (.bool (Qaq s)) ∧ Below w.heap.size w w' := by
  have hs2 : s.size ≤ 9223372036854775807 := by unfold maxLen at hs; omega
  have hlen := Lib.hid (allS_len s)
  have HS := Lib.hid hs
  clear hs
  go_enter Tryz.func153, Tryz.ntmps153
  go_wp2_with fail
  refine (rall_shape s HS.out _).mono ?_
  rintro e w1 ⟨a, c, L, rfl, hL, hl, hS, hb⟩
  by_cases hE : allE s = 0
  · have hll := hlen.out hE
    rw [hL.out] at hll
    by_cases h0 : s.size = 0
    · have hz : ((s.size : Int) == 0) = true := beq_iff_eq.2 (by omega)
      have fin : Hid (false = Qaq s) := by show _ = _; simp [Qaq, h0]
      go_wp2_with fail
      go_ret
      exact ⟨Qaj fin.out, hb⟩
    · have hz : ((s.size : Int) == 0) = false := by rw [beq_eq_false_iff_ne]; omega
      have hz' : 0 < L := by have := mt hll.1 h0; omega
      have H0 := Lib.hid h0
      clear hll h0
      by_cases h40 : 40 < (s.size : Int)
      · have hd40 : decide (40 < (s.size : Int)) = true := by simp; omega
        have fin : Hid (false = Qaq s) := by
          have : ¬ s.size ≤ 40 := by omega
          show _ = _; simp [Qaq, this]
        go_wp2_with fail
        all_goals go_ret
        all_goals exact ⟨Qaj fin.out, hb⟩
      · have hd40 : decide (40 < (s.size : Int)) = false := by simp; omega
        cases hk : kwB s with
        | true =>
          have fin : Hid (false = Qaq s) := by show _ = _; simp [Qaq, hk]
          have HK := Lib.hid hk
          clear hk
          go_wp2_with (go_at_call 205; refine (Qio s _).mono ?_; rw [HK.out]; rintro e w2 ⟨rfl, rfl⟩)
          go_ret
          exact ⟨Qaj fin.out, hb⟩
        | false =>
          have fin : Hid (Qaq s = (!(s.toList == [95]) && chk (allS s))) := rightN_ref s hE H0.out (by omega) hk
          have HK := Lib.hid hk
          clear hk
          cases hu : (s.toList == [95]) with
          | true =>
            have fin2 : Hid (false = Qaq s) := by show _ = _; rw [fin.out, hu]; rfl
            go_wp2_with (go_at_call 205; refine (Qio s _).mono ?_; rw [HK.out]; rintro e w2 ⟨rfl, rfl⟩)
            go_ret
            exact ⟨Qaj fin2.out, hb⟩
          | false =>
            have fin2 : Hid (Qaq s = chk (allS s)) := by show _ = _; rw [fin.out, hu]; rfl
            go_wp2_with (go_at_call 205; refine (Qio s _).mono ?_; rw [HK.out]; rintro e w2 ⟨rfl, rfl⟩)
            clear hu fin
            go_loopw [6] (fun i wr => ∃ (k : Nat), k ≤ L ∧ i = .int .i64 k ∧ Hid (chk ((allS s).take k) = true) ∧ Below w.heap.size w wr ∧ Below w1.heap.size w1 wr) (fun i _ => L - (intOf i).toNat)
            case atStart => exact ⟨0, Nat.zero_le _, rfl, rfl, hb, Below.refl _ _⟩
            case round =>
              obtain ⟨k, hk, rfl, hno, hbel, hb1⟩ := hrel
              by_cases hlt : k < L
              · have hltS : k < (allS s).length := by have := hL.out; omega
                obtain ⟨b, off, rfl, hc⟩ := Qhg hS hb1 k (by simpa using hltS)
                rw [List.getElem_map] at hc
                have hct := chk_take (allS s) k hltS
                rw [hno.out, Bool.true_and] at hct
                have HCT := Lib.hid hct
                have hi0 : (0 : Int) ≤ k := by omega
                have hi1 : (k : Int) < L := by omega
                have FAIL : Hid (Qhf k (allS s)[k] = false → false = Qaq s) := by
                  intro h
                  rw [fin2.out]
                  have h2 : chk ((allS s).take (k + 1)) = false := by rw [hct, h]
                  symm
                  exact chk_false _ _ h2
                clear hct hno
                generalize (allS s)[k] = x at *
                have GO : Hid (Qhf k x = true → chk ((allS s).take (k + 1)) = true) := fun h => HCT.out.trans h
                cases hx : Qcw x with
                | true =>
                  have HX := Lib.hid hx
                  clear hx
                  have G := Lib.hid (GO.out (by simp [Qhf, HX.out]))
                  go_wp2_with (go_at_call 206; refine (Qfl _ _).mono ?_; rw [HX.out]; rintro e w2 ⟨rfl, hb2⟩)
                  go_roundw
                  case rel => exact ⟨k + 1, hlt, by simp, G.out, hbel.trans (hb2.mono hbel.size), hb1.trans (hb2.mono hb1.size)⟩
                  case measure => simp [intOf]; omega
                | false =>
                  have HX := Lib.hid hx
                  clear hx
                  cases h95 : (x != 95) with
                  | false =>
                    have G := Lib.hid (GO.out (by have : (x == 95) = true := by simpa using h95
                                                  simp [Qhf, this]))
                    go_wp2_with (first | (go_at_call 206; refine (Qfl _ _).mono ?_; rw [HX.out]; rintro e w2 ⟨rfl, hb2⟩; have hc := (hb2.cell (World.block_lt_of_cell? _ _ hc)).trans hc) | (go_at_call 207; refine (Qfd _ _).mono ?_; rw [HD.out]; rintro e w3 ⟨rfl, rfl⟩))
                    go_roundw
                    case rel => exact ⟨k + 1, hlt, by simp, G.out, hbel.trans (hb2.mono hbel.size), hb1.trans (hb2.mono hb1.size)⟩
                    case measure => simp [intOf]; omega
                                      | true =>
                    have H95 : Hid ((x == 95) = false) := by show _ = _; simpa using h95
                    cases h0 : ((k : Int) == 0) with
                    | true =>
                      have F := Lib.hid (FAIL.out (by
                        have : k = 0 := by have := beq_iff_eq.1 h0; omega
                        simp [Qhf, HX.out, H95.out, this]))
                      go_wp2_with (first | (go_at_call 206; refine (Qfl _ _).mono ?_; rw [HX.out]; rintro e w2 ⟨rfl, hb2⟩; have hc := (hb2.cell (World.block_lt_of_cell? _ _ hc)).trans hc) | (go_at_call 207; refine (Qfd _ _).mono ?_; rw [HD.out]; rintro e w3 ⟨rfl, rfl⟩))
                      go_ret
                      exact ⟨Qaj F.out, hbel.trans (hb2.mono hbel.size)⟩
                                          | false =>
                      have HK0 : Hid ((k != 0) = true) := by show _ = _; have := beq_eq_false_iff_ne.1 h0; simp; omega
                      cases hd : Qdc x with
                      | true =>
                        have HD := Lib.hid hd
                        clear hd
                        have G := Lib.hid (GO.out (by simp only [Qhf, HX.out, H95.out, HK0.out, HD.out]; rfl))
                        go_wp2_with (first | (go_at_call 206; refine (Qfl _ _).mono ?_; rw [HX.out]; rintro e w2 ⟨rfl, hb2⟩; have hc := (hb2.cell (World.block_lt_of_cell? _ _ hc)).trans hc) | (go_at_call 207; refine (Qfd _ _).mono ?_; rw [HD.out]; rintro e w3 ⟨rfl, rfl⟩))
                        go_roundw
                        case rel => exact ⟨k + 1, hlt, by simp, G.out, hbel.trans (hb2.mono hbel.size), hb1.trans (hb2.mono hb1.size)⟩
                        case measure => simp [intOf]; omega
                                              | false =>
                        have HD := Lib.hid hd
                        clear hd
                        cases h39 : (x != 39) with
                        | false =>
                          have G := Lib.hid (GO.out (by
                            have : (x == 39) = true := by simpa using h39
                            simp only [Qhf, HX.out, H95.out, HK0.out, HD.out, this]; rfl))
                          go_wp2_with (first | (go_at_call 206; refine (Qfl _ _).mono ?_; rw [HX.out]; rintro e w2 ⟨rfl, hb2⟩; have hc := (hb2.cell (World.block_lt_of_cell? _ _ hc)).trans hc) | (go_at_call 207; refine (Qfd _ _).mono ?_; rw [HD.out]; rintro e w3 ⟨rfl, rfl⟩))
                          go_roundw
                          case rel => exact ⟨k + 1, hlt, by simp, G.out, hbel.trans (hb2.mono hbel.size), hb1.trans (hb2.mono hb1.size)⟩
                          case measure => simp [intOf]; omega
                                                  | true =>
                          have F := Lib.hid (FAIL.out (by
                            have : (x == 39) = false := by simpa using h39
                            simp only [Qhf, HX.out, H95.out, HK0.out, HD.out, this]; rfl))
                          go_wp2_with (first | (go_at_call 206; refine (Qfl _ _).mono ?_; rw [HX.out]; rintro e w2 ⟨rfl, hb2⟩; have hc := (hb2.cell (World.block_lt_of_cell? _ _ hc)).trans hc) | (go_at_call 207; refine (Qfd _ _).mono ?_; rw [HD.out]; rintro e w3 ⟨rfl, rfl⟩))
                          go_ret
                          exact ⟨Qaj F.out, hbel.trans (hb2.mono hbel.size)⟩
              · obtain rfl : k = L := by omega
                have fin3 : Hid (true = Qaq s) := by
                  show _ = _
                  have h := hno.out
                  rw [List.take_of_length_le (by rw [hL.out]; exact Nat.le_refl _)] at h
                  rw [fin2.out, h]
                go_wp2_with fail
                go_ret
                exact ⟨Qaj fin3.out, hbel⟩
  · have fin : Hid (false = Qaq s) := by show _ = _; simp [Qaq, hE]
    go_wp2_with fail
    go_ret
    exact ⟨Qaj fin.out, hb⟩
def Qeb (s : ByteArray) : Nat → Nat | 0 => 0 | n + 1 => if Qdc (nb s n) then Qeb s n else n + 1
def Qbx (s : ByteArray) : ByteArray := s.extract 0 (Qeb s s.size)
theorem stemN_le (s : ByteArray) : ∀ n, Qeb s n ≤ n
  | 0 => Nat.le_refl _
  | n + 1 => by
    simp only [Qeb]
    split
    · have := stemN_le s n; omega
    · exact Nat.le_refl _
theorem Qkg (n : Nat) (h : n < 256) : wrap64 (n : Int) = (n : Int) := IntWalk.wrap64_in _ ⟨by omega, by omega⟩
theorem Qgs {a b : ByteArray} (h : a = b) : Ending.returned (.string a) = .returned (.string b) := by rw [h]
theorem stem_any (s : ByteArray) (hs : s.size ≤ maxLen) (w : World) :
    Calls Tryz.prog 293 #[.string s] w fun e w' => e = .returned (.string (Qbx s)) ∧ w = w' := by
  have hs2 : s.size ≤ 9223372036854775807 := by unfold maxLen at hs; omega
  go_enter Tryz.func293, Tryz.ntmps293
  go_wp2_with fail
  go_loopw [0] (fun v wr => ∃ (k : Nat), k ≤ s.size ∧ v = .string (s.extract 0 k) ∧ Hid (Qeb s k = Qeb s s.size) ∧ w = wr) (fun v _ => match v with | .string t => t.size | _ => 0)
  case atStart => exact ⟨s.size, Nat.le_refl _, by simp, rfl, rfl⟩
  case round =>
    obtain ⟨k, hk, rfl, hst, rfl⟩ := hrel
    have hsz : (s.extract 0 k).size = k := by simp; omega
    cases k with
    | zero =>
      have fin : Hid (s.extract 0 0 = Qbx s) := by
        show _ = _
        unfold Qbx
        rw [← hst.out]; rfl
      go_wp2_with fail
      go_ret
      exact ⟨Qgs fin.out, rfl⟩
    | succ k =>
      obtain ⟨t, ht⟩ : ∃ t, t = s.extract 0 (k + 1) := ⟨_, rfl⟩
      have hcv : Hid (∀ h : k < t.size, wrap64 (t[k].toNat : Int) = (nb s k : Int)) := by
        intro h
        subst ht
        have h1 : (s.extract 0 (k + 1))[k].toNat = nb s k := by
          rw [← Qgm s k (by omega)]
          congr 1
          rw [ByteArray.getElem_extract]
          congr 1
          omega
        rw [h1]
        exact Qkg _ (Qge s k)
      have hex : Hid (t.extract 0 k = s.extract 0 k) := by
        subst ht
        show _ = _
        rw [ByteArray.extract_extract]
        congr 1
        omega
      rw [← ht] at hsz ⊢
      have hst2 : Hid (Qeb s (k + 1) = Qeb s s.size) := hst
      have HT := Lib.hid ht
      clear ht hst
      cases hd : Qdc (nb s k) with
      | true =>
        have HD := Lib.hid hd
        clear hd
        go_wp2_with (go_at_call 274; refine (Qkq _ _).mono ?_; rw [hcv.out, HD.out]; rintro e w2 ⟨rfl, rfl⟩)
        go_roundw
        case rel =>
          refine ⟨k, by omega, congrArg Value.string hex.out, ?_, trivial⟩
          have h := hst2.out
          simp only [Qeb, HD.out, if_true] at h
          exact h
        case measure =>
          show (t.extract 0 k).size < t.size
          simp
          omega
      | false =>
        have HD := Lib.hid hd
        clear hd
        go_wp2_with (go_at_call 274; refine (Qkq _ _).mono ?_; rw [hcv.out, HD.out]; rintro e w2 ⟨rfl, rfl⟩)
        have fin : Hid (t = Qbx s) := by
          show _ = _
          have h := hst2.out
          simp only [Qeb, HD.out] at h
          unfold Qbx
          rw [← h, HT.out]
          rfl
        go_ret
        exact ⟨Qgs fin.out, rfl⟩
def Qej (n : Nat) : List Int := if _h : n < 10 then [48 + (n : Int)] else Qej (n / 10) ++ [48 + ((n % 10 : Nat) : Int)]
def Qbk (n : Nat) : ByteArray := strOfNums (Qej n)
theorem Qcf (n : Nat) (h : n < 10) : Qej n = [48 + (n : Int)] := by rw [Qej, dif_pos h]
theorem Qdb (n : Nat) (h : ¬ n < 10) : Qej n = Qej (n / 10) ++ [48 + ((n % 10 : Nat) : Int)] := by rw [Qej, dif_neg h]
theorem decL_lenN : ∀ (k n : Nat), n < 10 ^ (k + 1) → 1 ≤ (Qej n).length ∧ (Qej n).length ≤ k + 1 := by
  intro k
  induction k with
  | zero => intro n h; rw [Qcf n (by omega)]; simp
  | succ k ih =>
    intro n h
    by_cases hs : n < 10
    · rw [Qcf n hs]; simp
    · rw [Qdb n hs, List.length_append]
      have := ih (n / 10) (by rw [Nat.pow_succ] at h; omega)
      simp
      omega
theorem Qez (n : Nat) (h : n ≤ 1000000000) : 1 ≤ (Qbk n).size ∧ (Qbk n).size ≤ 10 := by
 unfold Qbk
 rw [strOfNums_size]
 exact decL_lenN 9 n (by omega)
theorem Qjl (a b : List Int) : strOfNums a ++ strOfNums b = strOfNums (a ++ b) := by
 apply ByteArray.ext
 simp [strOfNums]
theorem decimal_any : ∀ (n : Nat) (w : World), n ≤ 1000000000 →
    Calls Tryz.prog 313 #[.int .i64 n] w fun e w' => e = .returned (.string (Qbk n)) ∧ Below w.heap.size w w' := by
  intro n
  induction n using Nat.strongRecOn with
  | ind n ih =>
    intro w hn
    by_cases hs : n < 10
    · have hcv := Qgr [48 + (n : Int)] 1 rfl
      simp only [List.map] at hcv
      have fin : Hid (strOfNums [48 + (n : Int)] = Qbk n) := by show _ = _; rw [Qbk, Qcf n hs]
      go_enter Tryz.func313, Tryz.ntmps313
      go_wp2_with fail
      go_ret
      exact ⟨Qgs fin.out, (Below.refl _ _).alloc (Nat.le_refl _) _⟩
    · have h1 := ih (n / 10) (by omega) w (by omega)
      rw [show ((n / 10 : Nat) : Int) = (n : Int) / 10 by omega] at h1
      have h2 := fun w => ih (n % 10) (by omega) w (by omega)
      rw [show ((n % 10 : Nat) : Int) = (n : Int) % 10 by omega] at h2
      have hsz : ¬ 9223372036854775807 < (Qbk (n / 10)).size + (Qbk (n % 10)).size := by
        have := Qez (n / 10) (by omega)
        have := Qez (n % 10) (by omega)
        omega
      have fin : Hid (Qbk (n / 10) ++ Qbk (n % 10) = Qbk n) := by
        show _ = _
        unfold Qbk
        rw [Qjl, Qdb n hs, Qcf (n % 10) (by omega)]
      go_enter Tryz.func313, Tryz.ntmps313
      go_wp2_with fail
      refine h1.mono ?_
      rintro e w1 ⟨rfl, hb1⟩
      go_wp2_with fail
      refine (h2 w1).mono ?_
      rintro e w2 ⟨rfl, hb2⟩
      go_wp2_with fail
      go_ret
      exact ⟨Qgs fin.out, hb1.trans (hb2.mono hb1.size)⟩
theorem slc_take {w : World} {a : Option Addr} {n c : Nat} {xs : List Value} (h : Slc w (.slice a n c) xs) (m : Nat) (hm : m ≤ n) : Slc w (.slice a m c) (xs.take m) := by
 obtain ⟨a', c', hv, hl, hc⟩ := h
 simp only [Value.slice.injEq] at hv
 obtain ⟨rfl, rfl, rfl⟩ := hv
 have e : (xs.take m).length = m := by rw [List.length_take]; omega
 refine ⟨a, c, by rw [e], by omega, fun hne => ?_⟩
 obtain ⟨b, off, ha, hcell⟩ := hc (fun e => hne (by rw [e]; simp))
 refine ⟨b, off, ha, fun i hi => ?_⟩
 rw [e] at hi
 rw [hcell i (by omega), List.getElem?_take_of_lt hi]
theorem all_shape2 (s : ByteArray) (hs : s.size ≤ maxLen) (w : World) :
  Calls Tryz.prog 218 #[.string s] w fun e w' => ∃ a c L, e = .returned (.tuple #[.slice a L c, .int .i64 (Qfm s), .int .i64 (allE s)]) ∧ Hid ((allS s).length = L) ∧ L ≤ 9223372036854775807 ∧ L ≤ c ∧ Slc w' (.slice a L c) ((allS s).map (Value.int .i64)) ∧ Below w.heap.size w w' := by
 refine (all_any s hs w).mono ?_
 rintro e w' ⟨v, rfl, ho, hb⟩
 have hS := Slc.own ho
 obtain ⟨a, c, hv, hl, -⟩ := Qdu hS
 rw [List.length_map] at hv hl
 have hc : (allS s).length ≤ c := by
  rcases ho.2 with ⟨h1, h2⟩ | ⟨g, cap, cur, h1, _, _, h2, _⟩
  ·omega
  ·rw [hv] at h1
   simp only [Value.slice.injEq] at h1
   omega
 subst hv
 exact ⟨a, c, _, rfl, rfl, hl, hc, hS, hb⟩
def cutN (l : List Int) (d : Nat) : Nat → Nat | 0 => 0 | k + 1 => if (Qav (l.take (k + 1))).length + d ≤ 40 then k + 1 else cutN l d k
def Qcc (s : ByteArray) (n : Nat) : ByteArray := strOfNums (Qav ((allS s).take (cutN (allS s) (Qbk n).size (allS s).length))) ++ Qbk n
theorem Qkr (s : ByteArray) (hE : allE s = 0) (h40 : s.size ≤ 40) (k : Nat) : Qcl ((allS s).take k) = strOfNums (Qav ((allS s).take k)) ∧ (Qav ((allS s).take k)).length ≤ 40 := by
 obtain ⟨h1, h2⟩ := Qit s hE
 have hr : (allS s).all right = true := by
  unfold Qcy at h1
  split at h1
  ·assumption
  ·omega
 have hsz : (Qav (allS s)).length = s.size := by
  rw [Qcl, if_pos h1] at h2
  rw [← strOfNums_size, h2]
 have hle := joinB_le (allS s) k
 refine ⟨?_, by omega⟩
 rw [Qcl, if_pos]
 unfold Qcy
 rw [if_pos, if_neg (by omega)]
 rw [List.all_eq_true] at hr ⊢
 exact fun x hx => hr x (List.mem_of_mem_take hx)
theorem numbered_any (s : ByteArray) (hE : allE s = 0) (h40 : s.size ≤ 40) (n : Nat) (hn : n ≤ 1000000000) (w : World) :
    Calls Tryz.prog 294 #[.string s, .int .i64 n] w fun e w' => e = .returned (.string (Qcc s n)) ∧ Below w.heap.size w w' := by
  have hd := Qez n hn
  go_enter Tryz.func294, Tryz.ntmps294
  go_wp2_with fail
  refine (decimal_any n w hn).mono ?_
  rintro e w1 ⟨rfl, hb1⟩
  go_wp2_with fail
  refine (all_shape2 s (by unfold maxLen; omega) w1).mono ?_
  rintro e w2 ⟨a, c, L, rfl, hL, hl, hc, hS, hb2⟩
  have hw2 := Lib.hid (hb1.trans (hb2.mono hb1.size))
  have hjoin := Lib.hid (Qkr s hE h40)
  have hsj : Hid (s = strOfNums (Qav ((allS s).take L))) := by
    show _ = _
    have h := (hjoin.out L).1
    rw [← h, List.take_of_length_le (by rw [hL.out]; exact Nat.le_refl _)]
    exact (Qit s hE).2.symm
  go_wp2_with fail
  clear hb1 hb2
  go_loopw [0, 6] (fun v u wr => ∃ (k : Nat), k ≤ L ∧ v = .string (strOfNums (Qav ((allS s).take k))) ∧ u = .slice a k c ∧ Hid (cutN (allS s) (Qbk n).size k = cutN (allS s) (Qbk n).size L) ∧ Hid (Below w.heap.size w wr) ∧ Hid (Below w2.heap.size w2 wr)) (fun _ u _ => match u with | .slice _ m _ => m | _ => 0)
  case atStart => exact ⟨L, Nat.le_refl _, congrArg Value.string hsj.out, rfl, rfl, hw2.out, Below.refl _ _⟩
  case round =>
    obtain ⟨k, hk, rfl, rfl, hcut, hbel, hb2⟩ := hrel
    have hsz := (hjoin.out k).2
    have hsz2 : Hid ((strOfNums (Qav ((allS s).take k))).size = (Qav ((allS s).take k)).length) := strOfNums_size _
    obtain ⟨t, ht⟩ : ∃ t, t = strOfNums (Qav ((allS s).take k)) := ⟨_, rfl⟩
    rw [← ht] at hsz2 ⊢
    have htl : t.size ≤ 40 := by rw [hsz2.out]; exact hsz
    have HT := Lib.hid ht
    clear ht
    by_cases hgt : 40 < (t.size : Int) + (Qbk n).size
    · cases k with
      | zero =>
        exfalso
        have h1 := hsz2.out
        have h2 : (Qav ((allS s).take 0)).length = 0 := by simp [Qav]
        omega
      | succ k =>
        have J := Lib.hid (join_any ((allS s).take k) (.slice a k c) wr (Slc.later (by rw [List.map_take]; exact slc_take hS k (by omega)) hb2.out))
        rw [(hjoin.out k).1] at J
        go_wp2_with fail
        refine J.out.mono ?_
        rintro e w3 ⟨rfl, hb3⟩
        have hbz := Lib.hid (hbel.out.trans (hb3.mono hbel.out.size))
        have hbz2 := Lib.hid (hb2.out.trans (hb3.mono hb2.out.size))
        clear hb3
        go_wp2_with fail
        go_roundw
        case rel =>
          refine ⟨k, by omega, rfl, rfl, ?_, hbz.out, hbz2.out⟩
          have h := hcut.out
          rw [cutN, if_neg (by have := hsz2.out; omega)] at h
          exact h
        case measure => exact Nat.lt_succ_self k
    · have fin : Hid (t ++ Qbk n = Qcc s n) := by
        show _ = _
        unfold Qcc
        rw [HT.out]
        congr 3
        rw [hL.out, ← hcut.out]
        cases k with
        | zero => rfl
        | succ k =>
          rw [cutN, if_pos]
          have := hsz2.out
          omega
      go_wp2_with fail
      go_ret
      exact ⟨Qgs fin.out, hbel.out⟩
end Go.Proofs.YtdklpbefbamchaaGreat
namespace Go.Proofs.YtdklpbefbamchaaGreat
open Go.RowKit Go.WideMaps
theorem zero3 (w : World) : (zeroValue 3).run Tryz.prog w = .ok (.int .i64 0) w := by rfl
def cnt (l : List ByteArray) (s : ByteArray) : Nat := (l.filter (fun x => x.toList == s.toList)).length
theorem cnt_snoc (l : List ByteArray) (x s : ByteArray) : cnt (l ++ [x]) s = cnt l s + (if x.toList == s.toList then 1 else 0) := by
 unfold cnt
 rw [List.filter_append, List.length_append]
 congr 1
 by_cases h : x.toList == s.toList <;> simp [h]
theorem cnt_le (l : List ByteArray) (s : ByteArray) : cnt l s ≤ l.length := List.length_filter_le _ _
def Seen (w : World) (b : Nat) (l : List ByteArray) : Prop :=
 ∃ (D : DataW Unit), w.ownsMap Tryz.prog 9 (plainElem Tryz.prog 3) b l.length D ∧ Maps.IsMap D ∧ ∀ s : ByteArray, D.atKey (.string s.data.toList) (.lit (.int .i64 0)) = .lit (.int .i64 (cnt l s))
theorem Seen.made (w : World) : Seen (w.alloc (.map #[] 0)) w.heap.size [] :=
 ⟨.map [], World.ownsMap_made w _ _ _, ⟨_, rfl⟩, fun _ => rfl⟩
theorem key_str (s : ByteArray) (hs : s.size ≤ maxLen) : keyOf Tryz.prog 9 (.string s) = some (.string s.data.toList) := keyOf_string_mk (P := Tryz.prog) Tryz.underlying9 hs
theorem Seen.look {w : World} {b : Nat} {l : List ByteArray} (h : Seen w b l) (s : ByteArray) (hs : s.size ≤ maxLen) :
  (Instr.lookup 220 (.map (some b)) (.string s) false).run Tryz.prog w = .ok (.int .i64 (cnt l s)) w := by
 obtain ⟨D, h1, h2, h3⟩ := h
 obtain ⟨c, hrun, hat, -⟩ := h1.lookup_int (Maps.string_keyed Tryz.underlying9) Tryz.underlying220 Tryz.underlying3 (zero3 _) (key_str s hs)
 rw [h3 s] at hat
 simp only [DataW.lit.injEq, Lit.int.injEq, true_and] at hat
 rw [hrun, hat]
theorem Seen.put {w : World} {b : Nat} {l : List ByteArray} (h : Seen w b l) (x : ByteArray) (hs : x.size ≤ maxLen) (hl : l.length < 100000) :
  ∃ w', (Instr.mapUpdate 220 (.map (some b)) (.string x) (.int .i64 (cnt l x + 1))).run Tryz.prog w = .ok () w' ∧ Seen w' b (l ++ [x]) ∧ w.grownBy w' (some b) := by
 obtain ⟨D, h1, h2, h3⟩ := h
 have hc := cnt_le l x
 obtain ⟨w', hrun, hown, hg⟩ := h1.update (Maps.string_keyed Tryz.underlying9) Tryz.underlying220 (by unfold maxLen; omega) (key_str x hs) (plainElem_int Tryz.underlying3 (a := (cnt l x + 1 : Int)) (by simp [Lit.wf, IntKind.min, IntKind.max, IntKind.signed, IntKind.bits]; omega))
 refine ⟨w', hrun, ⟨_, by rw [List.length_append]; exact hown, ?_, fun s => ?_⟩, hg⟩
 ·exact hown.isMap
 ·have hk : WideAt.IsKeyLit (.string x.data.toList) := trivial
  by_cases he : x.toList == s.toList
  ·have : x = s := by
    apply ByteArray.ext
    have := beq_iff_eq.1 he
    rw [ByteArray.toList_eq, ByteArray.toList_eq] at this
    exact Array.toList_inj.mp this
   subst this
   rw [Maps.atKey_put_same h2 hk, cnt_snoc, if_pos he]
   simp
  ·have hne : (Lit.string s.data.toList) ≠ Lit.string x.data.toList := by
    intro e
    simp only [Lit.string.injEq] at e
    apply he
    rw [ByteArray.toList_eq, ByteArray.toList_eq, e]
    simp
   rw [Maps.atKey_put_other hne, h3 s, cnt_snoc, if_neg he]
   rfl
theorem encN_last (x : Int) (hr : right x = true) (r : List Nat) (c : Nat) (h : encN x = r ++ [c]) (hc : Qdc c = true) : r = [] := by
 have hc' := of_decide_eq_true hc
 rcases Qin x hr with h1 | h1 | h1 | h1
 ·unfold encN at h
  rw [encL1 x (by omega)] at h
  have := congrArg List.length h
  simp at this
  exact this
 ·exfalso
  unfold encN at h
  rw [encL2 x (by omega) (by omega)] at h
  have := congrArg List.getLast? h
  simp at this
  omega
 ·exfalso
  unfold encN at h
  rw [encL3 x (by omega) (by omega)] at h
  have := congrArg List.getLast? h
  simp at this
  omega
 ·exfalso
  unfold encN at h
  rw [encL4 x (by omega)] at h
  have := congrArg List.getLast? h
  simp at this
  omega
theorem Qll {α : Type} (l : List α) : l = [] ∨ ∃ m a, l = m ++ [a] := by
 rcases List.eq_nil_or_concat l with h | ⟨m, a, h⟩
 ·exact .inl h
 ·exact .inr ⟨m, a, by rw [h, List.concat_eq_append]⟩
theorem take_snoc_nb (s : ByteArray) (n : Nat) (h : n < s.size) : (nats s).take (n + 1) = (nats s).take n ++ [nb s n] := by
 have h' : n < (nats s).length := by rw [Qcb]; exact h
 rw [take_snoc (nats s) n 0 h']
 rfl
theorem stem_valid (s : ByteArray) : ∀ (n : Nat) (l : List Int), n ≤ s.size → l.all right = true → (nats s).take n = Qdy l → ∃ l', l'.all right = true ∧ (nats s).take (Qeb s n) = Qdy l' := by
  intro n
  induction n with
  | zero => intro l _ hr h; exact ⟨l, hr, h⟩
  | succ n ih =>
    intro l hn hr h
    simp only [Qeb]
    split
    · rename_i hd
      rw [take_snoc_nb s n (by omega)] at h
      rcases Qll l with rfl | ⟨m, x, rfl⟩
      · simp [Qdy] at h
      · rw [List.all_append, Bool.and_eq_true] at hr
        have hx : right x = true := by simpa using hr.2
        have hj : Qdy (m ++ [x]) = Qdy m ++ encN x := by simp [Qdy]
        rw [hj] at h
        rcases Qll (encN x) with he | ⟨r, c, he⟩
        · have := Qep x hx
          have := Qkf x
          rw [he] at *
          simp at *
          omega
        · rw [he, ← List.append_assoc] at h
          obtain ⟨h1, h2⟩ := List.append_inj' h rfl
          simp at h2
          have hr0 := encN_last x hx r c he (by rw [← h2]; exact hd)
          rw [hr0, List.append_nil] at h1
          exact ih m (by omega) hr.1 h1
    · exact ⟨l, hr, h⟩
theorem stem_ok (s : ByteArray) (hE : allE s = 0) (h40 : s.size ≤ 40) : allE (Qbx s) = 0 ∧ (Qbx s).size ≤ 40 := by
 have hle := stemN_le s s.size
 have hsz : (Qbx s).size = Qeb s s.size := by unfold Qbx; simp; omega
 refine ⟨?_, by omega⟩
 have hA : (allA s).2.2 = true := by
  unfold allE at hE
  rw [if_neg (by omega)] at hE
  split at hE
  ·assumption
  ·omega
 obtain ⟨h1, h2⟩ := all_signs s s.size 0 (Nat.zero_le _) (by omega) hA
 rw [List.drop_zero] at h2
 obtain ⟨l, hr, hl⟩ := stem_valid s s.size _ (Nat.le_refl _) h1 (by rw [List.take_of_length_le (by rw [Qcb]; exact Nat.le_refl _)]; exact h2)
 have hn : nats (Qbx s) = Qdy l := by
  have := Qik s 0 (Qeb s s.size)
  rw [Nat.zero_add, List.drop_zero] at this
  unfold Qbx
  rw [this, hl]
 have he : Qbx s = strOfNums (Qav l) := nats_inj (by rw [hn, Qkt l hr])
 have hjl : (Qav l).length ≤ 40 := by rw [← strOfNums_size, ← he]; omega
 have hjE : Qcy l = 0 := by unfold Qcy; rw [if_pos hr, if_neg (by omega)]
 have := (back_signs l hjE).1
 rw [Qcl, if_pos hjE, ← he] at this
 exact this
theorem Seen.later {w w' : World} {b n : Nat} {l : List ByteArray} (h : Seen w b l) (hb : Below n w w') (hn : b < n) : Seen w' b l := by
 obtain ⟨D, ⟨es, clock, h1, h2⟩, h3⟩ := h
 exact ⟨D, ⟨es, clock, (hb.block b hn).trans h1, h2⟩, h3⟩
theorem Seen.lt {w : World} {b : Nat} {l : List ByteArray} (h : Seen w b l) : b < w.heap.size := by
 obtain ⟨D, h1, _⟩ := h
 exact h1.lt
theorem numS_sizeN (s : ByteArray) (hE : allE s = 0) (h40 : s.size ≤ 40) (n : Nat) (hn : n ≤ 1000000000) : (Qcc s n).size ≤ 50 := by
 unfold Qcc
 have h1 := Qez n hn
 have h2 := (Qkr s hE h40 (cutN (allS s) (Qbk n).size (allS s).length)).2
 rw [ByteArray.size_append, strOfNums_size]
 omega
def Qct (s : ByteArray) (l : List ByteArray) (N : Nat) : ByteArray := if Qaq s = true then if 8192 < l.length then ⟨#[]⟩ else if cnt l s = 0 then s else Qcc (Qbx s) N else ⟨#[]⟩
def Qel (s : ByteArray) (l : List ByteArray) : Int := if Qaq s = true then if 8192 < l.length then 2 else 0 else 1
theorem Qkv (s : ByteArray) (h : Qaq s = true) : allE s = 0 ∧ s.size ≤ 40 := by
 unfold Qaq at h
 simp only [Bool.and_eq_true, beq_iff_eq, decide_eq_true_eq] at h
 exact ⟨h.1.1.1.1, h.1.1.1.2.2⟩
theorem fresh_any (s : ByteArray) (hs : s.size ≤ maxLen) (l : List ByteArray) (v : Value) (w : World) (hv : Slc w v (l.map Value.string)) (hsz : ∀ x ∈ l, x.size ≤ maxLen) (N : Nat)
    (hN : Qaq s = true → l.length ≤ 8192 → cnt l s ≠ 0 → 1 ≤ N ∧ N ≤ 1000000 ∧ cnt l (Qcc (Qbx s) N) = 0 ∧ ∀ n, 1 ≤ n → n < N → cnt l (Qcc (Qbx s) n) ≠ 0) :
    Calls Tryz.prog 262 #[.string s, v] w fun e w' => e = .returned (.tuple #[.string (Qct s l N), .int .i64 (Qel s l)]) ∧ Below w.heap.size w w' := by
  have hmm := @run_makeMap Tryz.prog
  obtain ⟨a, cap, rfl, hll, -⟩ := Qdu hv
  rw [List.length_map] at hv hll ⊢
  have HN := Lib.hid hN
  have HSZ := Lib.hid hsz
  clear hN hsz
  go_enter Tryz.func262, Tryz.ntmps262
  go_wp2_with fail
  refine (Qka s hs w).mono ?_
  cases hr : Qaq s with
  | false =>
    rintro e w1 ⟨rfl, hb1⟩
    have fin : Hid (Qct s l N = ⟨#[]⟩ ∧ Qel s l = 1) := by show _ ∧ _; simp [Qct, Qel, hr]
    go_wp2_with fail
    go_ret2
    exact ⟨Qbs fin.out.1.symm fin.out.2.symm, hb1⟩
  | true =>
    rintro e w1 ⟨rfl, hb1⟩
    have HR := Lib.hid hr
    clear hr
    by_cases h8 : (8192 : Int) < l.length
    · have fin : Hid (Qct s l N = ⟨#[]⟩ ∧ Qel s l = 2) := by
        have : 8192 < l.length := by omega
        show _ ∧ _; simp [Qct, Qel, HR.out, this]
      go_wp2_with fail
      go_ret2
      exact ⟨Qbs fin.out.1.symm fin.out.2.symm, hb1⟩
    · have finE : Hid (Qel s l = 0 ∧ ∀ t, t = Qct s l N ↔ t = if cnt l s = 0 then s else Qcc (Qbx s) N) := by
        have : ¬ 8192 < l.length := by omega
        show _ ∧ _; simp [Qct, Qel, HR.out, this]
      have hb1s := hb1.size
      go_wp2_with fail
      clear h8
      have hA : Below w.heap.size w (w1.alloc (.map #[] 0)) := hb1.alloc hb1s _
      go_loopw [21] (fun i wr => ∃ (k : Nat), k ≤ l.length ∧ i = .int .i64 k ∧ Hid (Seen wr w1.heap.size (l.take k)) ∧ Below w.heap.size w wr) (fun i _ => l.length - (intOf i).toNat)
      case atStart => exact ⟨0, Nat.zero_le _, rfl, Seen.made w1, hA⟩
      case round =>
        obtain ⟨k, hk, rfl, hseen, hbel⟩ := hrel
        by_cases hlt : k < l.length
        · obtain ⟨b, off, rfl, hc⟩ := Qhg hv hbel k (by simpa using hlt)
          rw [List.getElem_map] at hc
          have hxs := HSZ.out _ (List.getElem_mem hlt)
          have hlook := hseen.out.look l[k] hxs
          obtain ⟨w2, hput, hs2, hg2⟩ := hseen.out.put l[k] hxs (by rw [List.length_take]; omega)
          rw [← List.take_succ_eq_append_getElem hlt] at hs2
          have hcl : (cnt (l.take k) l[k] : Int) ≤ 8192 := by
            have := cnt_le (l.take k) l[k]
            rw [List.length_take] at this
            omega
          have hb2 := Lib.hid (hbel.grown hg2 hbel.size (fun j hj => by cases hj; exact hb1s))
          have HS2 := Lib.hid hs2
          clear hs2 hg2 hA
          go_wp2_with fail
          go_roundw
          case rel => exact ⟨k + 1, hlt, by simp, HS2.out, hb2.out⟩
          case measure => simp [intOf]; omega
        · obtain rfl : k = l.length := by omega
          have hsn : Seen wr w1.heap.size l := by
            have h := hseen.out
            rw [List.take_length] at h
            exact h
          have hlook := hsn.look s hs
          by_cases h0 : cnt l s = 0
          · have fin : Hid (s = Qct s l N) := (finE.out.2 s).2 (by rw [if_pos h0])
            have h0' : ((cnt l s : Int) == 0) = true := by rw [h0]; rfl
            have HB := Lib.hid hbel
            clear hbel hA
            go_wp2_with fail
            go_ret2
            exact ⟨Qbs fin.out finE.out.1.symm, HB.out⟩
          · have h0' : ((cnt l s : Int) == 0) = false := by rw [beq_eq_false_iff_ne]; omega
            have h8 : l.length ≤ 8192 := by omega
            obtain ⟨hN1, hN2, hN3, hN4⟩ := HN.out HR.out h8 h0
            have finN : Hid (∀ t, t = Qcc (Qbx s) N → t = Qct s l N) := fun t ht => (finE.out.2 t).2 (by rw [if_neg h0]; exact ht)
            have hok := Lib.hid (Qkv s HR.out)
            have hst := Lib.hid (stem_ok s hok.out.1 hok.out.2)
            have HB := Lib.hid hbel
            have HS := Lib.hid hsn
            have HN3 := Lib.hid hN3
            have HN4 := Lib.hid hN4
            clear hbel hA hsn hN3 hN4 h0
            go_wp2_with (go_at_call 293; refine (stem_any s hs _).mono ?_; rintro e w3 ⟨rfl, rfl⟩)
            clear hlook
            go_loopw [10] (fun i wr => ∃ (n : Nat), 1 ≤ n ∧ n ≤ N ∧ i = .int .i64 n ∧ Hid (Seen wr w1.heap.size l) ∧ Hid (Below w.heap.size w wr)) (fun i _ => N - (intOf i).toNat)
            case atStart => exact ⟨1, Nat.le_refl _, hN1, rfl, HS.out, HB.out⟩
            case round =>
              obtain ⟨n, hn1, hnN, rfl, hseen, hbel⟩ := hrel
              have hC := Lib.hid (numbered_any (Qbx s) hst.out.1 hst.out.2 n (by omega) wr)
              have hnz := numS_sizeN (Qbx s) hst.out.1 hst.out.2 n (by omega)
              obtain ⟨x, hx⟩ : ∃ x, x = Qcc (Qbx s) n := ⟨_, rfl⟩
              rw [← hx] at hC hnz
              have HX := Lib.hid hx
              clear hx
              by_cases hc : cnt l x = 0
              · have hnN2 : n = N := by
                  by_cases h : n = N
                  · exact h
                  · have := HN4.out n hn1 (by omega)
                    rw [← HX.out] at this
                    exact absurd hc this
                have fin : Hid (x = Qct s l N) := finN.out x (by rw [HX.out, hnN2])
                clear hnN2
                have hc' : ((cnt l x : Int) == 0) = true := by rw [hc]; rfl
                go_wp2_with fail
                refine hC.out.mono ?_
                rintro e w4 ⟨rfl, hb4⟩
                have hlook := (hseen.out.later hb4 hseen.out.lt).look x (by unfold maxLen; omega)
                have HB4 := Lib.hid (hbel.out.trans (hb4.mono hbel.out.size))
                clear hb4
                go_wp2_with fail
                go_ret2
                exact ⟨Qbs fin.out finE.out.1.symm, HB4.out⟩
              · have hnN2 : n < N := by
                  by_cases h : n = N
                  · exfalso
                    apply hc
                    rw [HX.out, h]
                    exact HN3.out
                  · omega
                have hc' : ((cnt l x : Int) == 0) = false := by rw [beq_eq_false_iff_ne]; omega
                go_wp2_with fail
                refine hC.out.mono ?_
                rintro e w4 ⟨rfl, hb4⟩
                have hs4 := hseen.out.later hb4 hseen.out.lt
                have hlook := hs4.look x (by unfold maxLen; omega)
                have HB4 := Lib.hid (hbel.out.trans (hb4.mono hbel.out.size))
                have HS4 := Lib.hid hs4
                clear hb4 hs4
                go_wp2_with fail
                go_roundw
                case rel => exact ⟨n + 1, by omega, by omega, by simp, HS4.out, HB4.out⟩
                case measure => simp [intOf]; omega
def x1 : ByteArray := ⟨#[120, 49]⟩
end Go.Proofs.YtdklpbefbamchaaGreat
