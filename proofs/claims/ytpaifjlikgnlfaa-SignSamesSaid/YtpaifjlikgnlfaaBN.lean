import Derived.Test.YtpaifjlikgnlfaaBUtf
import Derived.Test.YtpaifjlikgnlfaaBK
import Derived.Handy
import Derived.Maps.OwnOps
import Derived.Maps.Views
set_option linter.unusedSimpArgs false
set_option linter.unusedVariables false
set_option maxHeartbeats 16000000
set_option maxRecDepth 100000
namespace Go.Proofs.Ytpaifjlikgnlfaa
open Go.RowKit
def digitB (n : Int) : Bool := decide (48 ≤ n ∧ n ≤ 57)
def markB (n : Int) : Bool := decide (n = 40 ∨ n = 41 ∨ n = 123 ∨ n = 125 ∨ n = 58 ∨ n = 61 ∨ n = 46 ∨ n = 44 ∨ n = 59 ∨ n = 124 ∨ n = 92 ∨ n = 955 ∨ n = 8594 ∨ n = 45 ∨ n = 62)
def Qdr (n : Int) : Bool := decide ((97 ≤ n ∧ n ≤ 122) ∨ (65 ≤ n ∧ n ≤ 90) ∨ (128 ≤ n ∧ right n = true ∧ markB n = false ∧ n ≠ 160 ∧ (n < 8192 ∨ 8303 < n)))
def Qdw (n : Int) : Bool := Qdr n || digitB n || n == 95 || n == 39
theorem digit_any (n : Int) (w : World) : Calls Try.prog 64 #[.int .i64 n] w fun e w' => e = .returned (.bool (digitB n)) ∧ w = w' := by
 go_enter Try.func64, Try.ntmps64
 go_wp2
 all_goals go_ret
 all_goals refine ⟨Qbk ?_, rfl⟩
 all_goals (unfold digitB; rw [Bool.eq_iff_iff]; simp; omega)
theorem mark_any (n : Int) (w : World) : Calls Try.prog 66 #[.int .i64 n] w fun e w' => e = .returned (.bool (markB n)) ∧ w = w' := by
 go_enter Try.func66, Try.ntmps66
 go_wp2
 all_goals go_ret
 all_goals refine ⟨Qbk ?_, rfl⟩
 all_goals (simp only [beq_iff_eq, beq_eq_false_iff_ne, ne_eq] at *; unfold markB; rw [Bool.eq_iff_iff]; simp; omega)
theorem Qel (n : Int) (w : World) : Calls Try.prog 52 #[.int .i64 n] w fun e w' => e = .returned (.bool (Qdr n)) ∧ w = w' := by
 go_enter Try.func52, Try.ntmps52
 go_wp2_with (first | (go_at_call 65; refine (Qex _ _).mono ?_; rintro e w1 ⟨rfl, rfl⟩; cases hr : right n) | (go_at_call 66; refine (mark_any _ _).mono ?_; rintro e w2 ⟨rfl, rfl⟩; cases hm : markB n))
 all_goals go_ret
 all_goals refine ⟨Qbk ?_, rfl⟩
 all_goals (unfold Qdr; (try rw [hr]); (try rw [hm]); rw [Bool.eq_iff_iff]; simp; omega)
def kwB (s : ByteArray) : Bool := s.toList == [100, 97, 116, 97] || s.toList == [114, 101, 99, 111, 114, 100] || s.toList == [100, 101, 102] || s.toList == [83, 101, 116]
theorem Qgp (s : ByteArray) (w : World) : Calls Try.prog 50 #[.string s] w fun e w' => e = .returned (.bool (kwB s)) ∧ w = w' := by
 go_enter Try.func50, Try.ntmps50
 go_wp2
 all_goals go_ret
 all_goals refine ⟨Qbk ?_, rfl⟩
 all_goals (unfold kwB; simp_all)
theorem inner_any (n : Int) (w : World) : Calls Try.prog 51 #[.int .i64 n] w fun e w' => e = .returned (.bool (Qdw n)) ∧ w = w' := by
 go_enter Try.func51, Try.ntmps51
 go_wp2_with (first | (go_at_call 52; refine (Qel _ _).mono ?_; rintro e w1 ⟨rfl, rfl⟩; cases hr : Qdr n) | (go_at_call 64; refine (digit_any _ _).mono ?_; rintro e w2 ⟨rfl, rfl⟩; cases hm : digitB n))
 all_goals go_ret
 all_goals refine ⟨Qbk ?_, rfl⟩
 all_goals (unfold Qdw; simp [*])
theorem slc_at {w wr : World} {a : Option Addr} {cap n : Nat} {xs : List Value} (h : Slc w (.slice a n cap) xs) (hb : Below w.heap.size w wr) (k : Nat) (hk : k < xs.length) :
  ∃ b off, a = some ⟨b, off, none⟩ ∧ wr.cell? ⟨b, off + k, none⟩ = some xs[k] := by
 obtain ⟨a', cap', hv, hm, hc⟩ := h
 obtain ⟨b, off, ha, hcell⟩ := hc (by intro e; rw [e] at hk; simp at hk)
 simp only [Value.slice.injEq] at hv
 have h1 := hcell k hk
 rw [List.getElem?_eq_getElem hk] at h1
 exact ⟨b, off, by rw [hv.1, ha], (hb.cell (World.block_lt_of_cell? w _ h1)).trans h1⟩
theorem slc_shape {w : World} {v : Value} {xs : List Value} (h : Slc w v xs) : ∃ a cap, v = .slice a xs.length cap ∧ xs.length ≤ 9223372036854775807 ∧ xs.length ≤ maxLen := by
 obtain ⟨a, cap, hv, hm, _⟩ := h
 exact ⟨a, cap, hv, by unfold maxLen at hm; omega, hm⟩
def Qbg (s : ByteArray) : Bool := allE s == 0 && decide (s.size ≠ 0 ∧ s.size ≤ 40) && !kwB s && (allS s).all Qdw && (Qdr ((allS s).headD 0) || ((allS s).headD 0 == 95 && decide (1 < (allS s).length)))
theorem allS_len (s : ByteArray) (h : allE s = 0) : (allS s).length = 0 ↔ s.size = 0 := by
 obtain ⟨_, hj⟩ := back_text s h
 constructor
 ·intro h0
  rw [List.eq_nil_of_length_eq_zero h0] at hj
  rw [← hj]; rfl
 ·intro h0
  have hs : s = ⟨#[]⟩ := by
   apply ByteArray.ext
   exact Array.eq_empty_of_size_eq_zero h0
  subst hs
  decide
theorem headD_get : ∀ (l : List Int) (h : 0 < l.length), l.headD 0 = l[0] := by
 intro l h
 cases l with
 | nil => simp at h
 | cons x xs => rfl
theorem all_take (l : List Int) (p : Int → Bool) (k : Nat) (h : k < l.length) : (l.take (k + 1)).all p = ((l.take k).all p && p l[k]) := by
 rw [List.take_succ_eq_append_getElem h, List.all_append]
 simp
theorem all_shape (s : ByteArray) (hs : s.size ≤ maxLen) (w : World) :
  Calls Try.prog 49 #[.string s] w fun e w' => ∃ a c L, e = .returned (.tuple #[.slice a L c, .int .i64 (allAt s), .int .i64 (allE s)]) ∧ Hid ((allS s).length = L) ∧ L ≤ 9223372036854775807 ∧ Slc w' (.slice a L c) ((allS s).map (Value.int .i64)) ∧ Below w.heap.size w w' := by
 refine (all_any s hs w).mono ?_
 rintro e w' ⟨v, rfl, ho, hb⟩
 have hS := Slc.own ho
 obtain ⟨a, c, hv, hl, -⟩ := slc_shape hS
 rw [List.length_map] at hv hl
 subst hv
 exact ⟨a, c, _, rfl, rfl, hl, hS, hb⟩
theorem right_name (s : ByteArray) (hs : s.size ≤ maxLen) (w : World) :
    Calls Try.prog 35 #[.string s] w fun e w' => e = .returned (.bool (Qbg s)) ∧ Below w.heap.size w w' := by
  have hs2 : s.size ≤ 9223372036854775807 := by unfold maxLen at hs; omega
  have hlen := Lib.hid (allS_len s)
  have HS := Lib.hid hs
  clear hs
  go_enter Try.func35, Try.ntmps35
  go_wp2_with fail
  refine (all_shape s HS.out _).mono ?_
  rintro e w1 ⟨a, c, L, rfl, hL, hl, hS, hb⟩
  by_cases hE : allE s = 0
  · have hll := hlen.out hE
    rw [hL.out] at hll
    by_cases h0 : s.size = 0
    · have hz : ((L : Int) == 0) = true := by have := hll.2 h0; simp; omega
      have fin : Hid (false = Qbg s) := by show _ = _; simp [Qbg, h0]
      go_wp2_with fail
      go_ret
      exact ⟨Qbk fin.out, hb⟩
    · have hz : ((L : Int) == 0) = false := by have := mt hll.1 h0; simp; omega
      have hz' : 0 < L := by have := mt hll.1 h0; omega
      clear hll
      by_cases h40 : 40 < (s.size : Int)
      · have hd40 : decide (40 < (s.size : Int)) = true := by simp; omega
        have fin : Hid (false = Qbg s) := by
          have : ¬ s.size ≤ 40 := by omega
          show _ = _; simp [Qbg, this]
        go_wp2_with fail
        all_goals go_ret
        all_goals exact ⟨Qbk fin.out, hb⟩
      · have hd40 : decide (40 < (s.size : Int)) = false := by simp; omega
        cases hk : kwB s with
        | true =>
          have fin : Hid (false = Qbg s) := by show _ = _; simp [Qbg, hk]
          have HK := Lib.hid hk
          clear hk
          go_wp2_with (go_at_call 50; refine (Qgp s _).mono ?_; rw [HK.out]; rintro e w2 ⟨rfl, rfl⟩)
          go_ret
          exact ⟨Qbk fin.out, hb⟩
        | false =>
          have fin : Hid (Qbg s = ((allS s).all Qdw && (Qdr ((allS s).headD 0) || ((allS s).headD 0 == 95 && decide (1 < (allS s).length))))) := by
            have : s.size ≤ 40 := by omega
            show _ = _; simp [Qbg, hk, hE, h0, this]
          have HK := Lib.hid hk
          clear hk
          go_wp2_with (go_at_call 50; refine (Qgp s _).mono ?_; rw [HK.out]; rintro e w2 ⟨rfl, rfl⟩)
          have hk0 : (0 : Int) < L := by omega
          go_loopw [32] (fun i wr => ∃ (k : Nat), k ≤ L ∧ i = .int .i64 k ∧ Hid (((allS s).take k).all Qdw = true) ∧ w1 = wr) (fun i _ => L - (intOf i).toNat)
          case atStart => exact ⟨0, Nat.zero_le _, rfl, rfl, rfl⟩
          case round =>
            obtain ⟨k, hk, rfl, hno, rfl⟩ := hrel
            by_cases hlt : k < L
            · have hltS : k < (allS s).length := by have := hL.out; omega
              obtain ⟨b, off, rfl, hc⟩ := slc_at hS (Below.refl _ _) k (by simpa using hltS)
              rw [List.getElem_map] at hc
              have hct := all_take (allS s) Qdw k hltS
              rw [hno.out, Bool.true_and] at hct
              have HCT := Lib.hid hct
              clear hct
              have hi0 : (0 : Int) ≤ k := by omega
              have hi1 : (k : Int) < L := by omega
              cases hq : Qdw (allS s)[k] with
              | true =>
                have HQ := Lib.hid hq
                clear hq
                go_wp2_with (go_at_call 51; refine (inner_any _ _).mono ?_; rw [HQ.out]; rintro e w2 ⟨rfl, rfl⟩)
                go_roundw
                case rel => exact ⟨k + 1, hlt, by simp, HCT.out.trans HQ.out, trivial⟩
                case measure => simp [intOf]; omega
              | false =>
                have HQ := Lib.hid hq
                clear hq
                have fin2 : Hid (false = Qbg s) := by
                  show _ = _
                  rw [fin.out]
                  have : (allS s).all Qdw = false := by
                    cases h : (allS s).all Qdw with
                    | false => rfl
                    | true =>
                      rw [List.all_eq_true] at h
                      have := h _ (List.getElem_mem hltS)
                      rw [HQ.out] at this
                      cases this
                  rw [this]; rfl
                go_wp2_with (go_at_call 51; refine (inner_any _ _).mono ?_; rw [HQ.out]; rintro e w2 ⟨rfl, rfl⟩)
                go_ret
                exact ⟨Qbk fin2.out, hb⟩
            · obtain rfl : k = L := by omega
              have hpS : 0 < (allS s).length := by have := hL.out; omega
              obtain ⟨b, off, rfl, hc⟩ := slc_at hS (Below.refl _ _) 0 (by simpa using hpS)
              rw [List.getElem_map, Nat.add_zero] at hc
              have hhd : Hid ((allS s).headD 0 = (allS s)[0]) := by
                exact headD_get _ hpS
              have fin2 : Hid (Qbg s = (Qdr (allS s)[0] || ((allS s)[0] == 95 && decide (1 < (k : Int))))) := by
                show _ = _
                have h := hno.out
                rw [List.take_of_length_le (by rw [hL.out]; exact Nat.le_refl _)] at h
                rw [fin.out, h, hhd.out, hL.out, Bool.true_and]
                congr 2
                simp
                omega
              have hi1 : (0 : Int) < k := by omega
              generalize (allS s)[0] = x at *
              cases hq : Qdr x with
              | true =>
                have HQ := Lib.hid hq
                clear hq
                have fin3 : Hid (true = Qbg s) := by show _ = _; rw [fin2.out, HQ.out]; rfl
                go_wp2_with (go_at_call 52; refine (Qel _ _).mono ?_; rw [HQ.out]; rintro e w2 ⟨rfl, rfl⟩)
                go_ret
                exact ⟨Qbk fin3.out, hb⟩
              | false =>
                have HQ := Lib.hid hq
                clear hq
                have fin3 : Hid ((x == 95 && decide (1 < (k : Int))) = Qbg s) := by show _ = _; rw [fin2.out, HQ.out]; rfl
                cases h95 : (x == 95) with
                | true =>
                  have fin4 : Hid (decide (1 < (k : Int)) = Qbg s) := by rw [← fin3.out, h95]; rfl
                  go_wp2_with (go_at_call 52; refine (Qel _ _).mono ?_; rw [HQ.out]; rintro e w2 ⟨rfl, rfl⟩)
                  all_goals go_ret
                  all_goals exact ⟨Qbk fin4.out, hb⟩
                | false =>
                  have fin4 : Hid (false = Qbg s) := by rw [← fin3.out, h95]; rfl
                  go_wp2_with (go_at_call 52; refine (Qel _ _).mono ?_; rw [HQ.out]; rintro e w2 ⟨rfl, rfl⟩)
                  all_goals go_ret
                  all_goals exact ⟨Qbk fin4.out, hb⟩
  · have fin : Hid (false = Qbg s) := by show _ = _; simp [Qbg, hE]
    go_wp2_with fail
    go_ret
    exact ⟨Qbk fin.out, hb⟩
end Go.Proofs.Ytpaifjlikgnlfaa
namespace Go.Proofs.Ytpaifjlikgnlfaa
open Go.RowKit Go.WideMaps
theorem zero3 (w : World) : (zeroValue 3).run Try.prog w = .ok (.int .i64 0) w := by rfl
def cnt (l : List ByteArray) (s : ByteArray) : Nat := (l.filter (fun x => x.toList == s.toList)).length
theorem cnt_snoc (l : List ByteArray) (x s : ByteArray) : cnt (l ++ [x]) s = cnt l s + (if x.toList == s.toList then 1 else 0) := by
 unfold cnt
 rw [List.filter_append, List.length_append]
 congr 1
 by_cases h : x.toList == s.toList <;> simp [h]
theorem cnt_le (l : List ByteArray) (s : ByteArray) : cnt l s ≤ l.length := List.length_filter_le _ _
def Seen (w : World) (b : Nat) (l : List ByteArray) : Prop :=
 ∃ (D : DataW Unit), w.ownsMap Try.prog 9 (plainElem Try.prog 3) b l.length D ∧ Maps.IsMap D ∧ ∀ s : ByteArray, D.atKey (.string s.data.toList) (.lit (.int .i64 0)) = .lit (.int .i64 (cnt l s))
theorem Seen.made (w : World) : Seen (w.alloc (.map #[] 0)) w.heap.size [] :=
 ⟨.map [], World.ownsMap_made w _ _ _, ⟨_, rfl⟩, fun _ => rfl⟩
theorem key_str (s : ByteArray) (hs : s.size ≤ maxLen) : keyOf Try.prog 9 (.string s) = some (.string s.data.toList) := keyOf_string_mk (P := Try.prog) Try.underlying9 hs
theorem Seen.look {w : World} {b : Nat} {l : List ByteArray} (h : Seen w b l) (s : ByteArray) (hs : s.size ≤ maxLen) :
  (Instr.lookup 62 (.map (some b)) (.string s) false).run Try.prog w = .ok (.int .i64 (cnt l s)) w := by
 obtain ⟨D, h1, h2, h3⟩ := h
 obtain ⟨c, hrun, hat, -⟩ := h1.lookup_int (Maps.string_keyed Try.underlying9) Try.underlying62 Try.underlying3 (zero3 _) (key_str s hs)
 rw [h3 s] at hat
 simp only [DataW.lit.injEq, Lit.int.injEq, true_and] at hat
 rw [hrun, hat]
theorem Seen.put {w : World} {b : Nat} {l : List ByteArray} (h : Seen w b l) (x : ByteArray) (hs : x.size ≤ maxLen) (hl : l.length < 100000) :
  ∃ w', (Instr.mapUpdate 62 (.map (some b)) (.string x) (.int .i64 (cnt l x + 1))).run Try.prog w = .ok () w' ∧ Seen w' b (l ++ [x]) ∧ w.grownBy w' (some b) := by
 obtain ⟨D, h1, h2, h3⟩ := h
 have hc := cnt_le l x
 obtain ⟨w', hrun, hown, hg⟩ := h1.update (Maps.string_keyed Try.underlying9) Try.underlying62 (by unfold maxLen; omega) (key_str x hs) (plainElem_int Try.underlying3 (a := (cnt l x + 1 : Int)) (by simp [Lit.wf, IntKind.min, IntKind.max, IntKind.signed, IntKind.bits]; omega))
 refine ⟨w', hrun, ⟨_, by rw [List.length_append]; exact hown, ?_, fun s => ?_⟩, hg⟩
 ·exact hown.isMap
 ·have hk : WideAt.IsKeyLit (.string x.data.toList) := trivial
  by_cases he : x.toList == s.toList
  ·have : x = s := by
    apply ByteArray.ext
    have := beq_iff_eq.1 he
    rw [ByteArray.toList_eq, ByteArray.toList_eq] at this
    exact Array.toList_inj.mp this
   subst this
   rw [Maps.atKey_put_same h2 hk, cnt_snoc, if_pos he]
   simp
  ·have hne : (Lit.string s.data.toList) ≠ Lit.string x.data.toList := by
    intro e
    simp only [Lit.string.injEq] at e
    apply he
    rw [ByteArray.toList_eq, ByteArray.toList_eq, e]
    simp
   rw [Maps.atKey_put_other hne, h3 s, cnt_snoc, if_neg he]
   rfl
theorem Seen.later {w w' : World} {b n : Nat} {l : List ByteArray} (h : Seen w b l) (hb : Below n w w') (hn : b < n) : Seen w' b l := by
 obtain ⟨D, ⟨es, clock, h1, h2⟩, h3⟩ := h
 exact ⟨D, ⟨es, clock, (hb.block b hn).trans h1, h2⟩, h3⟩
theorem Seen.lt {w : World} {b : Nat} {l : List ByteArray} (h : Seen w b l) : b < w.heap.size := by
 obtain ⟨D, h1, _⟩ := h
 exact h1.lt
def x1 : ByteArray := ⟨#[120, 49]⟩
def Qer (l : List ByteArray) (s : ByteArray) : Nat → Int
 | 0 => -1
 | k + 1 => if (l.getD k s).toList == s.toList then k else Qer l s k
theorem cnt_take (l : List ByteArray) (s : ByteArray) (k : Nat) (h : k < l.length) : cnt (l.take (k + 1)) s = cnt (l.take k) s + (if l[k].toList == s.toList then 1 else 0) := by
 rw [List.take_succ_eq_append_getElem h, cnt_snoc]
theorem place_cnt (l : List ByteArray) (s : ByteArray) : ∀ k, k ≤ l.length → (Qer l s k < 0 ↔ cnt (l.take k) s = 0) := by
  intro k
  induction k with
  | zero => intro _; simp [Qer, cnt]
  | succ k ih =>
    intro hk
    have ih' := ih (by omega)
    rw [cnt_take l s k (by omega)]
    simp only [Qer, List.getD_eq_getElem?_getD, List.getElem?_eq_getElem (show k < l.length by omega), Option.getD_some]
    by_cases h : l[k].toList == s.toList
    · rw [if_pos h, if_pos h]; omega
    · rw [if_neg h, if_neg h]; omega
theorem getD_at (l : List ByteArray) (s : ByteArray) (k : Nat) (h : k < l.length) : l.getD k s = l[k] := by
 simp [List.getD_eq_getElem?_getD, List.getElem?_eq_getElem h]
theorem place_spec (l : List ByteArray) (s : ByteArray) : ∀ k, (Qer l s k = -1 ∧ ∀ j, j < k → ((l.getD j s).toList == s.toList) = false) ∨ ∃ i, i < k ∧ Qer l s k = (i : Int) ∧ ((l.getD i s).toList == s.toList) = true ∧ ∀ j, i < j → j < k → ((l.getD j s).toList == s.toList) = false := by
  intro k
  induction k with
  | zero => left; exact ⟨rfl, fun j hj => by omega⟩
  | succ k ih =>
    simp only [Qer]
    cases hq : ((l.getD k s).toList == s.toList) with
    | true =>
      right
      exact ⟨k, by omega, by simp, hq, fun j h1 h2 => by omega⟩
    | false =>
      rw [if_neg (by decide)]
      rcases ih with ⟨h1, h2⟩ | ⟨i, hi, h1, h2, h3⟩
      · left
        refine ⟨h1, fun j hj => ?_⟩
        by_cases h : j = k
        · subst h; exact hq
        · exact h2 j (by omega)
      · right
        refine ⟨i, by omega, h1, h2, fun j hj hj2 => ?_⟩
        by_cases h : j = k
        · subst h; exact hq
        · exact h3 j hj (by omega)
def DistN (l : List ByteArray) (k : Nat) : Prop := ∀ i j, i < j → j < k → ((l.getD i ByteArray.empty).toList == (l.getD j ByteArray.empty).toList) = false
theorem getD_any (l : List ByteArray) (a b : ByteArray) (k : Nat) (h : k < l.length) : l.getD k a = l.getD k b := by
 rw [getD_at l a k h, getD_at l b k h]
theorem dist_step (l : List ByteArray) (k : Nat) (h : k < l.length) (hd : DistN l k) : (cnt (l.take k) l[k] = 0 → DistN l (k + 1)) ∧ (cnt (l.take k) l[k] ≠ 0 → ¬ DistN l l.length) := by
 have hpc := place_cnt l l[k] k (by omega)
 constructor
 ·intro h0
  have hp := hpc.2 h0
  intro i j hij hj
  by_cases hjk : j = k
  ·subst hjk
   rcases place_spec l l[j] j with ⟨_, h2⟩ | ⟨i', _, h1, _, _⟩
   ·have := h2 i hij
    rw [getD_at l _ j h, getD_any l _ l[j] i (by omega)]
    exact this
   ·omega
  ·exact hd i j hij (by omega)
 ·intro h0 hD
  have hp := mt hpc.1 h0
  rcases place_spec l l[k] k with ⟨h1, _⟩ | ⟨i, hi, _, h2, _⟩
  ·omega
  ·have := hD i k hi h
   rw [getD_at l _ k h, getD_any l _ l[k] i (by omega), h2] at this
   cases this
theorem distinct_any (l : List ByteArray) (v : Value) (w : World) (hv : Slc w v (l.map Value.string)) (hsz : ∀ x ∈ l, x.size ≤ maxLen) (hl : l.length ≤ 8192) :
  Calls Try.prog 23 #[v] w fun e w' => (∃ b, e = .returned (.bool b) ∧ (b = true ↔ DistN l l.length)) ∧ Below w.heap.size w w' := by
 have hmm := @run_makeMap Try.prog
 obtain ⟨a, cap, rfl, hll, -⟩ := slc_shape hv
 rw [List.length_map] at hv hll ⊢
 have HSZ := Lib.hid hsz
 clear hsz
 go_enter Try.func23, Try.ntmps23
 go_wp2_with fail
 go_loopw [9] (fun i wr => ∃ (k : Nat), k ≤ l.length ∧ i = .int .i64 k ∧ Hid (Seen wr w.heap.size (l.take k)) ∧ Hid (DistN l k) ∧ Below w.heap.size w wr) (fun i _ => l.length - (intOf i).toNat)
 case atStart => exact ⟨0, Nat.zero_le _, rfl, Seen.made w, fun i j h1 h2 => by omega, (Below.refl _ _).alloc (Nat.le_refl _) _⟩
 case round =>
  obtain ⟨k, hk, rfl, hseen, hd, hbel⟩ := hrel
  by_cases hlt : k < l.length
  ·obtain ⟨b, off, rfl, hc⟩ := slc_at hv hbel k (by simpa using hlt)
   rw [List.getElem_map] at hc
   have hxs := HSZ.out _ (List.getElem_mem hlt)
   have hlook := hseen.out.look l[k] hxs
   obtain ⟨hs0, hs1⟩ := dist_step l k hlt hd.out
   by_cases h0 : cnt (l.take k) l[k] = 0
   ·obtain ⟨w2, hput, hs2, hg2⟩ := hseen.out.put l[k] hxs (by rw [List.length_take]; omega)
    rw [← List.take_succ_eq_append_getElem hlt] at hs2
    have hb2 := Lib.hid (hbel.grown hg2 hbel.size (fun j hj => by cases hj; exact Nat.le_refl _))
    have HS2 := Lib.hid hs2
    have HD := Lib.hid (hs0 h0)
    have hcl : (cnt (l.take k) l[k] : Int) ≤ 8192 := by omega
    have hd0 : ¬ 0 < cnt (l.take k) l[k] := by omega
    clear hs2 hg2 hs0 hs1 h0
    go_wp2_with fail
    go_roundw
    case rel => exact ⟨k + 1, hlt, by simp, HS2.out, HD.out, hb2.out⟩
    case measure => simp [intOf]; omega
   ·have hgt : 0 < cnt (l.take k) l[k] := by omega
    have HF := Lib.hid (hs1 h0)
    have HB := Lib.hid hbel
    clear hs0 hs1 h0 hbel
    go_wp2_with fail
    go_ret
    exact ⟨⟨false, rfl, by constructor <;> intro h; exact absurd h (by decide); exact absurd h HF.out⟩, HB.out⟩
  ·obtain rfl : k = l.length := by omega
   have HB := Lib.hid hbel
   clear hbel
   go_wp2_with fail
   go_ret
   exact ⟨⟨true, rfl, fun _ => hd.out, fun _ => rfl⟩, HB.out⟩
end Go.Proofs.Ytpaifjlikgnlfaa
