import Derived.Test.YtahhgpafjiljfaaGreatEBUtf
import Derived.Test.YtahhgpafjiljfaaGreatEBK
set_option linter.unusedSimpArgs false
set_option linter.unusedVariables false
set_option maxHeartbeats 16000000
set_option maxRecDepth 100000
namespace Go.Proofs.YtahhgpafjiljfaaGreat
open Go.RowKit
def Qew (n : Int) : Bool := decide (n = 9 ∨ n = 10 ∨ n = 13 ∨ n = 32)
def Qak (n : Int) : Bool := decide (48 ≤ n ∧ n ≤ 57)
def markL : List Int := [40, 41, 123, 125, 58, 61, 46, 44, 59, 124, 92, 955, 8594, 45, 62]
def markB (n : Int) : Bool := decide (n = 40 ∨ n = 41 ∨ n = 123 ∨ n = 125 ∨ n = 58 ∨ n = 61 ∨ n = 46 ∨ n = 44 ∨ n = 59 ∨ n = 124 ∨ n = 92 ∨ n = 955 ∨ n = 8594 ∨ n = 45 ∨ n = 62)
def Qbb (n : Int) : Bool := decide ((97 ≤ n ∧ n ≤ 122) ∨ (65 ≤ n ∧ n ≤ 90) ∨ (128 ≤ n ∧ right n = true ∧ markB n = false ∧ n ≠ 160 ∧ (n < 8192 ∨ 8303 < n)))
def Qae (n : Int) : Bool := Qbb n || Qak n || n == 95 || n == 39
theorem blank_any (n : Int) (w : World) : Calls Tryz.prog 114 #[.int .i64 n] w fun e w' => e = .returned (.bool (Qew n)) ∧ w = w' := by
 go_enter Tryz.func114, Tryz.ntmps114
 go_wp2
 all_goals go_ret
 all_goals refine ⟨Qaf ?_, rfl⟩
 all_goals (unfold Qew; rw [Bool.eq_iff_iff]; simp; omega)
theorem digit_any (n : Int) (w : World) : Calls Tryz.prog 123 #[.int .i64 n] w fun e w' => e = .returned (.bool (Qak n)) ∧ w = w' := by
 go_enter Tryz.func123, Tryz.ntmps123
 go_wp2
 all_goals go_ret
 all_goals refine ⟨Qaf ?_, rfl⟩
 all_goals (unfold Qak; rw [Bool.eq_iff_iff]; simp; omega)
theorem Qfv (n : Int) (w : World) : Calls Tryz.prog 92 #[.int .i64 n] w fun e w' => e = .returned (.bool (Qak n)) ∧ w = w' := by
 go_enter Tryz.func92, Tryz.ntmps92
 go_wp2
 all_goals go_ret
 all_goals refine ⟨Qaf ?_, rfl⟩
 all_goals (unfold Qak; rw [Bool.eq_iff_iff]; simp; omega)
theorem mark_any (n : Int) (w : World) : Calls Tryz.prog 147 #[.int .i64 n] w fun e w' => e = .returned (.bool (markB n)) ∧ w = w' := by
 go_enter Tryz.func147, Tryz.ntmps147
 go_wp2
 all_goals go_ret
 all_goals refine ⟨Qaf ?_, rfl⟩
 all_goals (simp only [beq_iff_eq, beq_eq_false_iff_ne, ne_eq] at *; unfold markB; rw [Bool.eq_iff_iff]; simp; omega)
theorem Qgx (n : Int) (w : World) : Calls Tryz.prog 119 #[.int .i64 n] w fun e w' => e = .returned (.bool (Qbb n)) ∧ w = w' := by
 go_enter Tryz.func119, Tryz.ntmps119
 go_wp2_with (first | (go_at_call 145; refine (Qdg _ _).mono ?_; rintro e w1 ⟨rfl, rfl⟩; cases hr : right n) | (go_at_call 147; refine (mark_any _ _).mono ?_; rintro e w2 ⟨rfl, rfl⟩; cases hm : markB n))
 all_goals go_ret
 all_goals refine ⟨Qaf ?_, rfl⟩
 all_goals (unfold Qbb; (try rw [hr]); (try rw [hm]); rw [Bool.eq_iff_iff]; simp; omega)
def kwB (s : ByteArray) : Bool := s.toList == [100, 97, 116, 97] || s.toList == [114, 101, 99, 111, 114, 100] || s.toList == [100, 101, 102] || s.toList == [83, 101, 116]
theorem Qiv (s : ByteArray) (w : World) : Calls Tryz.prog 122 #[.string s] w fun e w' => e = .returned (.bool (kwB s)) ∧ w = w' := by
 go_enter Tryz.func122, Tryz.ntmps122
 go_wp2
 all_goals go_ret
 all_goals refine ⟨Qaf ?_, rfl⟩
 all_goals (unfold kwB; simp_all)
theorem Qgz (s : ByteArray) (w : World) : Calls Tryz.prog 90 #[.string s] w fun e w' => e = .returned (.bool (kwB s)) ∧ w = w' := by
 go_enter Tryz.func90, Tryz.ntmps90
 go_wp2
 all_goals go_ret
 all_goals refine ⟨Qaf ?_, rfl⟩
 all_goals (unfold kwB; simp_all)
theorem inner_any (n : Int) (w : World) : Calls Tryz.prog 143 #[.int .i64 n] w fun e w' => e = .returned (.bool (Qae n)) ∧ w = w' := by
 go_enter Tryz.func143, Tryz.ntmps143
 go_wp2_with (first | (go_at_call 119; refine (Qgx _ _).mono ?_; rintro e w1 ⟨rfl, rfl⟩; cases hr : Qbb n) | (go_at_call 123; refine (digit_any _ _).mono ?_; rintro e w2 ⟨rfl, rfl⟩; cases hm : Qak n))
 all_goals go_ret
 all_goals refine ⟨Qaf ?_, rfl⟩
 all_goals (unfold Qae; simp [*])
theorem slc_at {w wr : World} {a : Option Addr} {cap n : Nat} {xs : List Value} (h : Slc w (.slice a n cap) xs) (hb : Below w.heap.size w wr) (k : Nat) (hk : k < xs.length) :
  ∃ b off, a = some ⟨b, off, none⟩ ∧ wr.cell? ⟨b, off + k, none⟩ = some xs[k] := by
 obtain ⟨a', cap', hv, hm, hc⟩ := h
 obtain ⟨b, off, ha, hcell⟩ := hc (by intro e; rw [e] at hk; simp at hk)
 simp only [Value.slice.injEq] at hv
 have h1 := hcell k hk
 rw [List.getElem?_eq_getElem hk] at h1
 exact ⟨b, off, by rw [hv.1, ha], (hb.cell (World.block_lt_of_cell? w _ h1)).trans h1⟩
theorem Qkj {w : World} {v : Value} {xs : List Value} (h : Slc w v xs) : ∃ a cap, v = .slice a xs.length cap ∧ xs.length ≤ 9223372036854775807 ∧ xs.length ≤ maxLen := by
 obtain ⟨a, cap, hv, hm, _⟩ := h
 exact ⟨a, cap, hv, by unfold maxLen at hm; omega, hm⟩
theorem contains_take (l : List Int) (n : Int) (k : Nat) (h : k < l.length) : (l.take (k + 1)).contains n = ((l.take k).contains n || l[k] == n) := by
 rw [List.take_succ_eq_append_getElem h, List.contains_append]
 congr 1
 rw [List.contains_cons]
 simp [Bool.beq_comm]
theorem rin_any (l : List Int) (v : Value) (n : Int) (w0 w : World) (hv : Slc w0 v (l.map (Value.int .i64))) (hb : Below w0.heap.size w0 w) :
    Calls Tryz.prog 150 #[v, .int .i64 n] w fun e w' => e = .returned (.bool (l.contains n)) ∧ w = w' := by
  obtain ⟨a, cap, rfl, hm, -⟩ := Qkj hv
  rw [List.length_map] at hm hv ⊢
  go_enter Tryz.func150, Tryz.ntmps150
  go_wp2_with fail
  go_loopw [5] (fun i wr => ∃ (k : Nat), k ≤ l.length ∧ i = .int .i64 k ∧ Hid ((l.take k).contains n = false) ∧ w = wr) (fun i _ => l.length - (intOf i).toNat)
  case atStart => exact ⟨0, Nat.zero_le _, rfl, rfl, rfl⟩
  case round =>
    obtain ⟨k, hk, rfl, hno, rfl⟩ := hrel
    by_cases hlt : k < l.length
    · obtain ⟨b, off, rfl, hc⟩ := slc_at hv hb k (by simpa using hlt)
      rw [List.getElem_map] at hc
      have hct := contains_take l n k hlt
      rw [hno.out, Bool.false_or] at hct
      have HCT := Lib.hid hct
      clear hct
      cases hq : (l[k] == n) with
      | true =>
        have fin : Hid (true = l.contains n) := by
          have h := HCT.out
          rw [hq] at h
          show _ = _
          symm
          rw [List.contains_iff_mem] at h ⊢
          exact List.mem_of_mem_take h
        have HQ := Lib.hid hq
        go_wp2_with fail
        go_ret
        exact ⟨Qaf fin.out, rfl⟩
      | false =>
        have HQ : Hid ((l.take (k + 1)).contains n = false) := by rw [← hq]; exact HCT.out
        go_wp2_with fail
        go_roundw
        case rel => exact ⟨k + 1, hlt, by simp, HQ.out, trivial⟩
        case measure => simp [intOf]; omega
    · obtain rfl : k = l.length := by omega
      have fin : Hid (false = l.contains n) := by
        have h := hno.out
        rw [List.take_length] at h
        exact h.symm
      go_wp2_with fail
      go_ret
      exact ⟨Qaf fin.out, rfl⟩
theorem rmark_any (n : Int) (w : World) : Calls Tryz.prog 133 #[.int .i64 n] w fun e w' => e = .returned (.bool (markB n)) ∧ Below w.heap.size w w' := by
 have fin : Hid (decide (n ∈ markL) = markB n) := by
  show _ = _
  rw [Bool.eq_iff_iff]; simp [markL, markB]
 have hown : (w.alloc (.cells (markL.map (Value.int .i64)).toArray 3)).ownsRow w.heap.size 3 1 (.slice (some ⟨w.heap.size, 0, none⟩) 15 15) 15 (markL.map (Value.int .i64)) :=
  own_lit 3 rfl (by decide) (Below.refl _ _)
 go_enter Tryz.func133, Tryz.ntmps133
 go_wp2_with fail
 refine (rin_any markL _ n _ _ (Slc.own hown) (Below.refl _ _)).mono ?_
 rintro e w1 ⟨rfl, rfl⟩
 go_wp2_with fail
 go_ret
 exact ⟨Qaf fin.out, (Below.refl _ _).alloc (Nat.le_refl _) _⟩
theorem Qeb (n : Int) (w : World) : Calls Tryz.prog 88 #[.int .i64 n] w fun e w' => e = .returned (.bool (Qbb n)) ∧ Below w.heap.size w w' := by
 go_enter Tryz.func88, Tryz.ntmps88
 go_wp2_with (first | (go_at_call 132; refine (Qce _ _).mono ?_; rintro e w1 ⟨rfl, rfl⟩; cases hr : right n) | (go_at_call 133; refine (rmark_any _ _).mono ?_; rintro e w2 ⟨rfl, hb⟩; cases hm : markB n))
 all_goals go_ret
 all_goals refine ⟨Qaf ?_, by first | exact hb | exact Below.refl _ _⟩
 all_goals (unfold Qbb; (try rw [hr]); (try rw [hm]); rw [Bool.eq_iff_iff]; simp; omega)
def Qai (s : ByteArray) : Bool := allE s == 0 && decide (s.size ≠ 0 ∧ s.size ≤ 40) && !kwB s && (allS s).all Qae && (Qbb ((allS s).headD 0) || ((allS s).headD 0 == 95 && decide (1 < (allS s).length)))
theorem allS_len (s : ByteArray) (h : allE s = 0) : (allS s).length = 0 ↔ s.size = 0 := by
 obtain ⟨_, hj⟩ := Qhp s h
 constructor
 ·intro h0
  rw [List.eq_nil_of_length_eq_zero h0] at hj
  rw [← hj]; rfl
 ·intro h0
  have hs : s = ⟨#[]⟩ := by
   apply ByteArray.ext
   exact Array.eq_empty_of_size_eq_zero h0
  subst hs
  decide
theorem headD_get : ∀ (l : List Int) (h : 0 < l.length), l.headD 0 = l[0] := by
 intro l h
 cases l with
 | nil => simp at h
 | cons x xs => rfl
theorem all_take (l : List Int) (p : Int → Bool) (k : Nat) (h : k < l.length) : (l.take (k + 1)).all p = ((l.take k).all p && p l[k]) := by
 rw [List.take_succ_eq_append_getElem h, List.all_append]
 simp
theorem all_shape (s : ByteArray) (hs : s.size ≤ maxLen) (w : World) :
  Calls Tryz.prog 67 #[.string s] w fun e w' => ∃ a c L, e = .returned (.tuple #[.slice a L c, .int .i64 (Qdu s), .int .i64 (allE s)]) ∧ Hid ((allS s).length = L) ∧ L ≤ 9223372036854775807 ∧ Slc w' (.slice a L c) ((allS s).map (Value.int .i64)) ∧ Below w.heap.size w w' := by
 refine (all_any s hs w).mono ?_
 rintro e w' ⟨v, rfl, ho, hb⟩
 have hS := Slc.own ho
 obtain ⟨a, c, hv, hl, -⟩ := Qkj hS
 rw [List.length_map] at hv hl
 subst hv
 exact ⟨a, c, _, rfl, rfl, hl, hS, hb⟩
theorem rall_shape (s : ByteArray) (hs : s.size ≤ maxLen) (w : World) :
  Calls Tryz.prog 50 #[.string s] w fun e w' => ∃ a c L, e = .returned (.tuple #[.slice a L c, .int .i64 (Qdu s), .int .i64 (allE s)]) ∧ Hid ((allS s).length = L) ∧ L ≤ 9223372036854775807 ∧ Slc w' (.slice a L c) ((allS s).map (Value.int .i64)) ∧ Below w.heap.size w w' := by
 refine (rall_any s hs w).mono ?_
 rintro e w' ⟨v, rfl, ho, hb⟩
 have hS := Slc.own ho
 obtain ⟨a, c, hv, hl, -⟩ := Qkj hS
 rw [List.length_map] at hv hl
 subst hv
 exact ⟨a, c, _, rfl, rfl, hl, hS, hb⟩
theorem right_name (s : ByteArray) (hs : s.size ≤ maxLen) (w : World) :
    Calls Tryz.prog 107 #[.string s] w fun e w' => e = .returned (.bool (Qai s)) ∧ Below w.heap.size w w' := by
  have hs2 : s.size ≤ 9223372036854775807 := by unfold maxLen at hs; omega
  have hlen := Lib.hid (allS_len s)
  have HS := Lib.hid hs
  clear hs
  go_enter Tryz.func107, Tryz.ntmps107
  go_wp2_with fail
  refine (all_shape s HS.out _).mono ?_
  rintro e w1 ⟨a, c, L, rfl, hL, hl, hS, hb⟩
  by_cases hE : allE s = 0
  · have hll := hlen.out hE
    rw [hL.out] at hll
    by_cases h0 : s.size = 0
    · have hz : ((L : Int) == 0) = true := by have := hll.2 h0; simp; omega
      have fin : Hid (false = Qai s) := by show _ = _; simp [Qai, h0]
      go_wp2_with fail
      go_ret
      exact ⟨Qaf fin.out, hb⟩
    · have hz : ((L : Int) == 0) = false := by have := mt hll.1 h0; simp; omega
      have hz' : 0 < L := by have := mt hll.1 h0; omega
      clear hll
      by_cases h40 : 40 < (s.size : Int)
      · have hd40 : decide (40 < (s.size : Int)) = true := by simp; omega
        have fin : Hid (false = Qai s) := by
          have : ¬ s.size ≤ 40 := by omega
          show _ = _; simp [Qai, this]
        go_wp2_with fail
        all_goals go_ret
        all_goals exact ⟨Qaf fin.out, hb⟩
      · have hd40 : decide (40 < (s.size : Int)) = false := by simp; omega
        cases hk : kwB s with
        | true =>
          have fin : Hid (false = Qai s) := by show _ = _; simp [Qai, hk]
          have HK := Lib.hid hk
          clear hk
          go_wp2_with (go_at_call 122; refine (Qiv s _).mono ?_; rw [HK.out]; rintro e w2 ⟨rfl, rfl⟩)
          go_ret
          exact ⟨Qaf fin.out, hb⟩
        | false =>
          have fin : Hid (Qai s = ((allS s).all Qae && (Qbb ((allS s).headD 0) || ((allS s).headD 0 == 95 && decide (1 < (allS s).length))))) := by
            have : s.size ≤ 40 := by omega
            show _ = _; simp [Qai, hk, hE, h0, this]
          have HK := Lib.hid hk
          clear hk
          go_wp2_with (go_at_call 122; refine (Qiv s _).mono ?_; rw [HK.out]; rintro e w2 ⟨rfl, rfl⟩)
          have hk0 : (0 : Int) < L := by omega
          go_loopw [32] (fun i wr => ∃ (k : Nat), k ≤ L ∧ i = .int .i64 k ∧ Hid (((allS s).take k).all Qae = true) ∧ w1 = wr) (fun i _ => L - (intOf i).toNat)
          case atStart => exact ⟨0, Nat.zero_le _, rfl, rfl, rfl⟩
          case round =>
            obtain ⟨k, hk, rfl, hno, rfl⟩ := hrel
            by_cases hlt : k < L
            · have hltS : k < (allS s).length := by have := hL.out; omega
              obtain ⟨b, off, rfl, hc⟩ := slc_at hS (Below.refl _ _) k (by simpa using hltS)
              rw [List.getElem_map] at hc
              have hct := all_take (allS s) Qae k hltS
              rw [hno.out, Bool.true_and] at hct
              have HCT := Lib.hid hct
              clear hct
              have hi0 : (0 : Int) ≤ k := by omega
              have hi1 : (k : Int) < L := by omega
              cases hq : Qae (allS s)[k] with
              | true =>
                have HQ := Lib.hid hq
                clear hq
                go_wp2_with (go_at_call 143; refine (inner_any _ _).mono ?_; rw [HQ.out]; rintro e w2 ⟨rfl, rfl⟩)
                go_roundw
                case rel => exact ⟨k + 1, hlt, by simp, HCT.out.trans HQ.out, trivial⟩
                case measure => simp [intOf]; omega
              | false =>
                have HQ := Lib.hid hq
                clear hq
                have fin2 : Hid (false = Qai s) := by
                  show _ = _
                  rw [fin.out]
                  have : (allS s).all Qae = false := by
                    cases h : (allS s).all Qae with
                    | false => rfl
                    | true =>
                      rw [List.all_eq_true] at h
                      have := h _ (List.getElem_mem hltS)
                      rw [HQ.out] at this
                      cases this
                  rw [this]; rfl
                go_wp2_with (go_at_call 143; refine (inner_any _ _).mono ?_; rw [HQ.out]; rintro e w2 ⟨rfl, rfl⟩)
                go_ret
                exact ⟨Qaf fin2.out, hb⟩
            · obtain rfl : k = L := by omega
              have hpS : 0 < (allS s).length := by have := hL.out; omega
              obtain ⟨b, off, rfl, hc⟩ := slc_at hS (Below.refl _ _) 0 (by simpa using hpS)
              rw [List.getElem_map, Nat.add_zero] at hc
              have hhd : Hid ((allS s).headD 0 = (allS s)[0]) := by
                exact headD_get _ hpS
              have fin2 : Hid (Qai s = (Qbb (allS s)[0] || ((allS s)[0] == 95 && decide (1 < (k : Int))))) := by
                show _ = _
                have h := hno.out
                rw [List.take_of_length_le (by rw [hL.out]; exact Nat.le_refl _)] at h
                rw [fin.out, h, hhd.out, hL.out, Bool.true_and]
                congr 2
                simp
                omega
              have hi1 : (0 : Int) < k := by omega
              generalize (allS s)[0] = x at *
              cases hq : Qbb x with
              | true =>
                have HQ := Lib.hid hq
                clear hq
                have fin3 : Hid (true = Qai s) := by show _ = _; rw [fin2.out, HQ.out]; rfl
                go_wp2_with (go_at_call 119; refine (Qgx _ _).mono ?_; rw [HQ.out]; rintro e w2 ⟨rfl, rfl⟩)
                go_ret
                exact ⟨Qaf fin3.out, hb⟩
              | false =>
                have HQ := Lib.hid hq
                clear hq
                have fin3 : Hid ((x == 95 && decide (1 < (k : Int))) = Qai s) := by show _ = _; rw [fin2.out, HQ.out]; rfl
                cases h95 : (x == 95) with
                | true =>
                  have fin4 : Hid (decide (1 < (k : Int)) = Qai s) := by rw [← fin3.out, h95]; rfl
                  go_wp2_with (go_at_call 119; refine (Qgx _ _).mono ?_; rw [HQ.out]; rintro e w2 ⟨rfl, rfl⟩)
                  all_goals go_ret
                  all_goals exact ⟨Qaf fin4.out, hb⟩
                | false =>
                  have fin4 : Hid (false = Qai s) := by rw [← fin3.out, h95]; rfl
                  go_wp2_with (go_at_call 119; refine (Qgx _ _).mono ?_; rw [HQ.out]; rintro e w2 ⟨rfl, rfl⟩)
                  all_goals go_ret
                  all_goals exact ⟨Qaf fin4.out, hb⟩
  · have fin : Hid (false = Qai s) := by show _ = _; simp [Qai, hE]
    go_wp2_with fail
    go_ret
    exact ⟨Qaf fin.out, hb⟩
def Qha (k : Nat) (x : Int) : Bool := Qbb x || x == 95 || (k != 0 && (Qak x || x == 39))
def chk : List Int → Bool | [] => true | x :: xs => (Qbb x || x == 95) && xs.all Qae
theorem chk_take (l : List Int) (k : Nat) (h : k < l.length) : chk (l.take (k + 1)) = (chk (l.take k) && Qha k l[k]) := by
  cases l with
  | nil => simp at h
  | cons x xs =>
    cases k with
    | zero => simp [chk, Qha]
    | succ k =>
      have h' : k < xs.length := by simpa using h
      simp only [List.take_succ_cons, chk, List.getElem_cons_succ]
      rw [all_take xs Qae k h', ← Bool.and_assoc]
      congr 1
      simp only [Qae, Qha]
      cases Qbb xs[k] <;> cases Qak xs[k] <;> cases (xs[k] == 95) <;> cases (xs[k] == 39) <;> rfl
theorem chk_false (l : List Int) (m : Nat) (h3 : chk (l.take m) = false) : chk l = false := by
  cases l with
  | nil => simpa using h3
  | cons x xs =>
    cases m with
    | zero => simp [chk] at h3
    | succ m =>
      simp only [List.take_succ_cons, chk] at h3 ⊢
      cases hx : (Qbb x || x == 95) with
      | false => rfl
      | true =>
        rw [hx] at h3
        simp only [Bool.true_and] at h3 ⊢
        cases hy : xs.all Qae with
        | false => rfl
        | true =>
          rw [List.all_eq_true] at hy
          have : (xs.take m).all Qae = true := by rw [List.all_eq_true]; intro z hz; exact hy z (List.mem_of_mem_take hz)
          rw [this] at h3; cases h3
theorem under_iff (s : ByteArray) (h : allE s = 0) : (s.toList == [95]) = (allS s == [95]) := by
 rw [Bool.eq_iff_iff, beq_iff_eq, beq_iff_eq]
 constructor
 ·intro hs
  have : s = ⟨#[95]⟩ := by
   apply ByteArray.ext
   rw [ByteArray.toList_eq] at hs
   exact Array.toList_inj.mp hs
  subst this
  decide
 ·intro hs
  have := (Qhp s h).2
  rw [hs] at this
  rw [← this, ByteArray.toList_eq]
  decide +kernel
theorem rightN_ref (s : ByteArray) (hE : allE s = 0) (h0 : s.size ≠ 0) (h40 : s.size ≤ 40) (hk : kwB s = false) : Qai s = (!(s.toList == [95]) && chk (allS s)) := by
  have hl := mt (allS_len s hE).1 h0
  rw [under_iff s hE]
  simp only [Qai, hE, hk]
  cases hq : allS s with
  | nil => rw [hq] at hl; simp at hl
  | cons x xs =>
    have hL95 : Qbb 95 = false := by decide
    simp [h0, h40, chk, Qae]
    cases hx : Qbb x with
    | true =>
      have : x ≠ 95 := by intro e; rw [e, hL95] at hx; cases hx
      simp [this]
    | false =>
      by_cases h95 : x = 95
      · subst h95
        cases xs with
        | nil => simp
        | cons y ys => simp
      · have hb : (x == 95) = false := by simpa using h95
        rw [hb]
        simp
theorem Qkp (s : ByteArray) (hs : s.size ≤ maxLen) (w : World) :
    Calls Tryz.prog 91 #[.string s] w fun e w' => e = .returned (.bool (Qai s)) ∧ Below w.heap.size w w' := by
  have hs2 : s.size ≤ 9223372036854775807 := by unfold maxLen at hs; omega
  have hlen := Lib.hid (allS_len s)
  have HS := Lib.hid hs
  clear hs
  go_enter Tryz.func91, Tryz.ntmps91
  go_wp2_with fail
  refine (rall_shape s HS.out _).mono ?_
  rintro e w1 ⟨a, c, L, rfl, hL, hl, hS, hb⟩
  by_cases hE : allE s = 0
  · have hll := hlen.out hE
    rw [hL.out] at hll
    by_cases h0 : s.size = 0
    · have hz : ((s.size : Int) == 0) = true := beq_iff_eq.2 (by omega)
      have fin : Hid (false = Qai s) := by show _ = _; simp [Qai, h0]
      go_wp2_with fail
      go_ret
      exact ⟨Qaf fin.out, hb⟩
    · have hz : ((s.size : Int) == 0) = false := by rw [beq_eq_false_iff_ne]; omega
      have hz' : 0 < L := by have := mt hll.1 h0; omega
      have H0 := Lib.hid h0
      clear hll h0
      by_cases h40 : 40 < (s.size : Int)
      · have hd40 : decide (40 < (s.size : Int)) = true := by simp; omega
        have fin : Hid (false = Qai s) := by
          have : ¬ s.size ≤ 40 := by omega
          show _ = _; simp [Qai, this]
        go_wp2_with fail
        all_goals go_ret
        all_goals exact ⟨Qaf fin.out, hb⟩
      · have hd40 : decide (40 < (s.size : Int)) = false := by simp; omega
        cases hk : kwB s with
        | true =>
          have fin : Hid (false = Qai s) := by show _ = _; simp [Qai, hk]
          have HK := Lib.hid hk
          clear hk
          go_wp2_with (go_at_call 90; refine (Qgz s _).mono ?_; rw [HK.out]; rintro e w2 ⟨rfl, rfl⟩)
          go_ret
          exact ⟨Qaf fin.out, hb⟩
        | false =>
          have fin : Hid (Qai s = (!(s.toList == [95]) && chk (allS s))) := rightN_ref s hE H0.out (by omega) hk
          have HK := Lib.hid hk
          clear hk
          cases hu : (s.toList == [95]) with
          | true =>
            have fin2 : Hid (false = Qai s) := by show _ = _; rw [fin.out, hu]; rfl
            go_wp2_with (go_at_call 90; refine (Qgz s _).mono ?_; rw [HK.out]; rintro e w2 ⟨rfl, rfl⟩)
            go_ret
            exact ⟨Qaf fin2.out, hb⟩
          | false =>
            have fin2 : Hid (Qai s = chk (allS s)) := by show _ = _; rw [fin.out, hu]; rfl
            go_wp2_with (go_at_call 90; refine (Qgz s _).mono ?_; rw [HK.out]; rintro e w2 ⟨rfl, rfl⟩)
            clear hu fin
            go_loopw [6] (fun i wr => ∃ (k : Nat), k ≤ L ∧ i = .int .i64 k ∧ Hid (chk ((allS s).take k) = true) ∧ Below w.heap.size w wr ∧ Below w1.heap.size w1 wr) (fun i _ => L - (intOf i).toNat)
            case atStart => exact ⟨0, Nat.zero_le _, rfl, rfl, hb, Below.refl _ _⟩
            case round =>
              obtain ⟨k, hk, rfl, hno, hbel, hb1⟩ := hrel
              by_cases hlt : k < L
              · have hltS : k < (allS s).length := by have := hL.out; omega
                obtain ⟨b, off, rfl, hc⟩ := slc_at hS hb1 k (by simpa using hltS)
                rw [List.getElem_map] at hc
                have hct := chk_take (allS s) k hltS
                rw [hno.out, Bool.true_and] at hct
                have HCT := Lib.hid hct
                have hi0 : (0 : Int) ≤ k := by omega
                have hi1 : (k : Int) < L := by omega
                have FAIL : Hid (Qha k (allS s)[k] = false → false = Qai s) := by
                  intro h
                  rw [fin2.out]
                  have h2 : chk ((allS s).take (k + 1)) = false := by rw [hct, h]
                  symm
                  exact chk_false _ _ h2
                clear hct hno
                generalize (allS s)[k] = x at *
                have GO : Hid (Qha k x = true → chk ((allS s).take (k + 1)) = true) := fun h => HCT.out.trans h
                cases hx : Qbb x with
                | true =>
                  have HX := Lib.hid hx
                  clear hx
                  have G := Lib.hid (GO.out (by simp [Qha, HX.out]))
                  go_wp2_with (go_at_call 88; refine (Qeb _ _).mono ?_; rw [HX.out]; rintro e w2 ⟨rfl, hb2⟩)
                  go_roundw
                  case rel => exact ⟨k + 1, hlt, by simp, G.out, hbel.trans (hb2.mono hbel.size), hb1.trans (hb2.mono hb1.size)⟩
                  case measure => simp [intOf]; omega
                | false =>
                  have HX := Lib.hid hx
                  clear hx
                  cases h95 : (x != 95) with
                  | false =>
                    have G := Lib.hid (GO.out (by have : (x == 95) = true := by simpa using h95
                                                  simp [Qha, this]))
                    go_wp2_with (first | (go_at_call 88; refine (Qeb _ _).mono ?_; rw [HX.out]; rintro e w2 ⟨rfl, hb2⟩; have hc := (hb2.cell (World.block_lt_of_cell? _ _ hc)).trans hc) | (go_at_call 92; refine (Qfv _ _).mono ?_; rw [HD.out]; rintro e w3 ⟨rfl, rfl⟩))
                    go_roundw
                    case rel => exact ⟨k + 1, hlt, by simp, G.out, hbel.trans (hb2.mono hbel.size), hb1.trans (hb2.mono hb1.size)⟩
                    case measure => simp [intOf]; omega
                                      | true =>
                    have H95 : Hid ((x == 95) = false) := by show _ = _; simpa using h95
                    cases h0 : ((k : Int) == 0) with
                    | true =>
                      have F := Lib.hid (FAIL.out (by
                        have : k = 0 := by have := beq_iff_eq.1 h0; omega
                        simp [Qha, HX.out, H95.out, this]))
                      go_wp2_with (first | (go_at_call 88; refine (Qeb _ _).mono ?_; rw [HX.out]; rintro e w2 ⟨rfl, hb2⟩; have hc := (hb2.cell (World.block_lt_of_cell? _ _ hc)).trans hc) | (go_at_call 92; refine (Qfv _ _).mono ?_; rw [HD.out]; rintro e w3 ⟨rfl, rfl⟩))
                      go_ret
                      exact ⟨Qaf F.out, hbel.trans (hb2.mono hbel.size)⟩
                                          | false =>
                      have HK0 : Hid ((k != 0) = true) := by show _ = _; have := beq_eq_false_iff_ne.1 h0; simp; omega
                      cases hd : Qak x with
                      | true =>
                        have HD := Lib.hid hd
                        clear hd
                        have G := Lib.hid (GO.out (by simp only [Qha, HX.out, H95.out, HK0.out, HD.out]; rfl))
                        go_wp2_with (first | (go_at_call 88; refine (Qeb _ _).mono ?_; rw [HX.out]; rintro e w2 ⟨rfl, hb2⟩; have hc := (hb2.cell (World.block_lt_of_cell? _ _ hc)).trans hc) | (go_at_call 92; refine (Qfv _ _).mono ?_; rw [HD.out]; rintro e w3 ⟨rfl, rfl⟩))
                        go_roundw
                        case rel => exact ⟨k + 1, hlt, by simp, G.out, hbel.trans (hb2.mono hbel.size), hb1.trans (hb2.mono hb1.size)⟩
                        case measure => simp [intOf]; omega
                                              | false =>
                        have HD := Lib.hid hd
                        clear hd
                        cases h39 : (x != 39) with
                        | false =>
                          have G := Lib.hid (GO.out (by
                            have : (x == 39) = true := by simpa using h39
                            simp only [Qha, HX.out, H95.out, HK0.out, HD.out, this]; rfl))
                          go_wp2_with (first | (go_at_call 88; refine (Qeb _ _).mono ?_; rw [HX.out]; rintro e w2 ⟨rfl, hb2⟩; have hc := (hb2.cell (World.block_lt_of_cell? _ _ hc)).trans hc) | (go_at_call 92; refine (Qfv _ _).mono ?_; rw [HD.out]; rintro e w3 ⟨rfl, rfl⟩))
                          go_roundw
                          case rel => exact ⟨k + 1, hlt, by simp, G.out, hbel.trans (hb2.mono hbel.size), hb1.trans (hb2.mono hb1.size)⟩
                          case measure => simp [intOf]; omega
                                                  | true =>
                          have F := Lib.hid (FAIL.out (by
                            have : (x == 39) = false := by simpa using h39
                            simp only [Qha, HX.out, H95.out, HK0.out, HD.out, this]; rfl))
                          go_wp2_with (first | (go_at_call 88; refine (Qeb _ _).mono ?_; rw [HX.out]; rintro e w2 ⟨rfl, hb2⟩; have hc := (hb2.cell (World.block_lt_of_cell? _ _ hc)).trans hc) | (go_at_call 92; refine (Qfv _ _).mono ?_; rw [HD.out]; rintro e w3 ⟨rfl, rfl⟩))
                          go_ret
                          exact ⟨Qaf F.out, hbel.trans (hb2.mono hbel.size)⟩
              · obtain rfl : k = L := by omega
                have fin3 : Hid (true = Qai s) := by
                  show _ = _
                  have h := hno.out
                  rw [List.take_of_length_le (by rw [hL.out]; exact Nat.le_refl _)] at h
                  rw [fin2.out, h]
                go_wp2_with fail
                go_ret
                exact ⟨Qaf fin3.out, hbel⟩
  · have fin : Hid (false = Qai s) := by show _ = _; simp [Qai, hE]
    go_wp2_with fail
    go_ret
    exact ⟨Qaf fin.out, hb⟩
end Go.Proofs.YtahhgpafjiljfaaGreat
