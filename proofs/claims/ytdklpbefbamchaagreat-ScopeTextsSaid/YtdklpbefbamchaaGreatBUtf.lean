import Derived.WalkKit
import Derived.Laws.BitsAllLaws
import Derived.Test.YtdklpbefbamchaaGreatRows
import Derived.Test.YtdklpbefbamchaaGreatBK
import Derived.WalkSpells
import Derived.Lib.Hide
import Derived.WalkLawsBesides
import Derived.Laws.Bits128
import Derived.Laws.BytesArg
import Derived.Handy
import Derived.Deep.LoopGhost
import Derived.Lib.AppendStr
import Derived.Lib.ConvBytes
set_option linter.unusedSimpArgs false
set_option linter.unusedVariables false
set_option maxHeartbeats 16000000
set_option maxRecDepth 100000
namespace Go.Proofs.YtdklpbefbamchaaGreat
open Go.RowKit
def right (n : Int) : Bool := decide (0 ≤ n ∧ n ≤ 1114111 ∧ (n < 55296 ∨ 57343 < n))
def Qbi (n : Int) : Int := if n < 128 then 1 else if n < 2048 then 2 else if n < 65536 then 3 else 4
def Qbc (c : Int) : Int := if c < 128 then 1 else if 192 ≤ c ∧ c < 224 then 2 else if 224 ≤ c ∧ c < 240 then 3 else if 240 ≤ c ∧ c < 248 then 4 else 0
def Qdy (c : Int) : Int := if c < 128 then c else if 192 ≤ c ∧ c < 224 then c % 32 else if 224 ≤ c ∧ c < 240 then c % 16 else if 240 ≤ c ∧ c < 248 then c % 8 else 0
def nats (s : ByteArray) : List Nat := s.data.toList.map UInt8.toNat
def nb (s : ByteArray) (i : Nat) : Nat := (nats s).getD i 0
theorem Qbg (s : ByteArray) : (nats s).length = s.size := by simp [nats]
theorem nb_lt (s : ByteArray) (i : Nat) : nb s i < 256 := by
 unfold nb nats
 rw [List.getD_eq_getElem?_getD, List.getElem?_map]
 cases s.data.toList[i]? with
 | none => simp
 | some x => simpa using x.toNat_lt
theorem Qgs (s : ByteArray) (i : Nat) (h : i < s.size) : s[i].toNat = nb s i := by
 unfold nb nats
 rw [List.getD_eq_getElem?_getD, List.getElem?_map, List.getElem?_eq_getElem (by simpa using h)]; rfl
def accs (n : Int) (l : List Nat) : Int := l.foldl (fun n c => n * 64 + (c % 64 : Nat)) n
def Qgq (l : List Nat) : Bool := l.all (fun c => c / 64 == 2)
def dec : List Nat → Option (Int × Int)
  | [] => none
  | c :: r =>
    if Qbc c = 0 ∨ (r.length : Int) + 1 < Qbc c then none else
    if Qgq (r.take (Qbc c - 1).toNat) = true ∧ right (accs (Qdy c) (r.take (Qbc c - 1).toNat)) = true ∧ Qbi (accs (Qdy c) (r.take (Qbc c - 1).toNat)) = Qbc c
    then some (accs (Qdy c) (r.take (Qbc c - 1).toNat), Qbc c) else none
def Qch (s : ByteArray) (i : Int) : Option (Int × Int) := if 0 ≤ i ∧ i < s.size then dec ((nats s).drop i.toNat) else none
def Qcu (s : ByteArray) (i : Int) : Int := match Qch s i with | some x => x.1 | none => 0
def Qcy (s : ByteArray) (i : Int) : Int := match Qch s i with | some x => x.2 | none => 0
def Qfm (s : ByteArray) (i : Int) : Int := match Qch s i with | some _ => 0 | none => 1
theorem leadW_le (c : Int) : 0 ≤ Qbc c ∧ Qbc c ≤ 4 := by unfold Qbc; repeat' split <;> omega
theorem leadB_le (c : Int) (h : 0 ≤ c) : 0 ≤ Qdy c ∧ Qdy c ≤ 127 := by unfold Qdy; repeat' split <;> omega
def tl (s : ByteArray) (n : Nat) : List Nat := (nats s).drop (n + 1)
theorem Qkc (s : ByteArray) (n : Nat) (h : n < s.size) : (nats s).drop n = nb s n :: tl s n := by
 unfold tl nb
 rw [List.getD_eq_getElem?_getD, List.getElem?_eq_getElem (by rw [Qbg]; exact h), List.drop_eq_getElem_cons (by rw [Qbg]; exact h)]; rfl
theorem Qjy (s : ByteArray) (n : Nat) : (tl s n).length = s.size - (n + 1) := by unfold tl; rw [List.length_drop, Qbg]
theorem tl_get (s : ByteArray) (n k : Nat) : (tl s n).getD k 0 = nb s (n + 1 + k) := by
 unfold tl nb; rw [List.getD_eq_getElem?_getD, List.getElem?_drop, ← List.getD_eq_getElem?_getD]
theorem take_snoc {α : Type} (l : List α) (k : Nat) (d : α) (h : k < l.length) : l.take (k + 1) = l.take k ++ [l.getD k d] := by
 rw [List.take_succ_eq_append_getElem h, List.getD_eq_getElem?_getD, List.getElem?_eq_getElem h]; rfl
theorem accs_snoc (n : Int) (l : List Nat) (c : Nat) : accs n (l ++ [c]) = accs n l * 64 + (c % 64 : Nat) := by simp [accs]
theorem conts_snoc (l : List Nat) (c : Nat) : Qgq (l ++ [c]) = (Qgq l && (c / 64 == 2)) := by simp [Qgq, List.all_append]
theorem accs_nonneg (l : List Nat) : ∀ n : Int, 0 ≤ n → 0 ≤ accs n l := by
 induction l with
 | nil => intro n h; exact h
 | cons c r ih => intro n h; exact ih _ (by show (0:Int) ≤ n * 64 + (c % 64 : Nat); omega)
theorem accs_lt (l : List Nat) : ∀ n : Int, n ≤ 127 → accs n l < 128 * 64 ^ l.length := by
  intro n hn
  have : ∀ (l : List Nat) (n : Int), accs n l < (n + 1) * 64 ^ l.length := by
    intro l
    induction l with
    | nil => intro n; simp [accs]; omega
    | cons c r ih =>
      intro n
      have h1 := ih (n * 64 + (c % 64 : Nat))
      have e : accs n (c :: r) = accs (n * 64 + (c % 64 : Nat)) r := rfl
      rw [e, List.length_cons, Int.pow_succ]
      refine Int.lt_of_lt_of_le h1 ?_
      have h2 : n * 64 + (c % 64 : Nat) + 1 ≤ (n + 1) * 64 := by omega
      have h3 : (0:Int) ≤ 64 ^ r.length := Int.le_of_lt (Int.pow_pos (by decide))
      calc _ ≤ ((n + 1) * 64) * 64 ^ r.length := Int.mul_le_mul_of_nonneg_right h2 h3
        _ = _ := by rw [Int.mul_assoc, Int.mul_comm 64]
  refine Int.lt_of_lt_of_le (this l n) ?_
  exact Int.mul_le_mul_of_nonneg_right (by omega) (Int.le_of_lt (Int.pow_pos (by decide)))
theorem Qmb (s : ByteArray) (n : Nat) (h : n < s.size) : Qch s n = dec (nb s n :: tl s n) := by
 unfold Qch; rw [if_pos ⟨by omega, by omega⟩, ← Qkc s n h]; rfl
theorem and192 : ∀ c : Nat, c < 256 → bits BinOp.and .u8 (c : Int) 192 = ((c / 64 * 64 : Nat) : Int) := by
 decide +kernel
theorem and63 : ∀ c : Nat, c < 256 → bits BinOp.and .u8 (c : Int) 63 = ((c % 64 : Nat) : Int) := by
 decide +kernel
theorem or_i64 (a b : Nat) (ha : a < 9223372036854775808) (hb : b < 9223372036854775808) : bits .or .i64 (a : Int) (b : Int) = ((a ||| b : Nat) : Int) := by
 have h : a ||| b < 2 ^ 63 := Nat.or_lt_two_pow ha hb
 have hw : ∀ x : Nat, x < 2 ^ 63 → IntKind.i64.wrap (x : Int) = x := by
  intro x hx
  have : (x:Int) < 9223372036854775808 := by omega
  simp [IntKind.wrap, IntKind.bits, IntKind.signed]; omega
 have e1 : ∀ x : Nat, x < 9223372036854775808 → (BitVec.ofInt 64 (x : Int)).toNat = x := by
  intro x hx
  rw [BitVec.ofInt_natCast, BitVec.toNat_ofNat]; exact Nat.mod_eq_of_lt (by omega)
 show IntKind.i64.wrap ((BitVec.ofInt 64 (a : Int) ||| BitVec.ofInt 64 (b : Int)).toNat : Int) = _
 rw [BitVec.toNat_or, e1 a ha, e1 b hb, hw _ h]
theorem or_shl (a b : Nat) (ha : a < 1000000000) (hb : b < 64) : bits .or .i64 ((a : Int) * 64) (b : Int) = (a : Int) * 64 + b := by
 have h := or_i64 (a * 64) b (by omega) (by omega)
 have e : a * 64 ||| b = a * 64 + b := by
  have := Nat.shiftLeft_add_eq_or_of_lt (i := 6) (b := b) (by omega) a
  rw [Nat.shiftLeft_eq] at this; exact this.symm
 rw [e] at h; simpa using h
theorem or_acc (a : Int) (h0 : 0 ≤ a) (h1 : a < 128 * 64 ^ 3) (c : Nat) (hc : c < 256) : bits .or .i64 (wrap64 (a * 64)) (wrap64 (bits BinOp.and .u8 (c : Int) 63)) = a * 64 + (c % 64 : Nat) := by
 obtain ⟨n, rfl⟩ := Int.eq_ofNat_of_zero_le h0
 rw [and63 c hc, IntWalk.wrap64_in _ ⟨by omega, by omega⟩, IntWalk.wrap64_in _ ⟨by omega, by omega⟩]
 exact or_shl n (c % 64) (by omega) (by omega)
theorem and_cont (c : Nat) (hc : c < 256) : (bits BinOp.and .u8 (c : Int) 192 != 128) = !(c / 64 == 2) := by
 rw [and192 c hc, Bool.eq_iff_iff]; simp; omega
theorem Qec (n : Int) (w : World) :
  Calls Tryz.prog 286 #[.int .i64 n] w fun e w' => e = .returned (.bool (right n)) ∧ w = w' := by
 go_enter Tryz.func286, Tryz.ntmps286
 go_wp2
 all_goals go_ret
 all_goals refine ⟨Qah ?_, rfl⟩
 all_goals (unfold right; rw [Bool.eq_iff_iff]; simp; omega)
theorem Qcv (n : Int) (w : World) :
  Calls Tryz.prog 257 #[.int .i64 n] w fun e w' => e = .returned (.bool (right n)) ∧ w = w' := by
 go_enter Tryz.func257, Tryz.ntmps257
 go_wp2
 all_goals go_ret
 all_goals refine ⟨Qah ?_, rfl⟩
 all_goals (unfold right; rw [Bool.eq_iff_iff]; simp; omega)
theorem Qig (n : Int) (w : World) :
  Calls Tryz.prog 297 #[.int .i64 n] w fun e w' => e = .returned (.int .i64 (Qbi n)) ∧ w = w' := by
 go_enter Tryz.func297, Tryz.ntmps297
 go_wp2
 all_goals go_ret
 all_goals refine ⟨Qbl ?_, rfl⟩
 all_goals (unfold Qbi; repeat' split) <;> first | rfl | omega
theorem lead_any (c : Int) (h0 : 0 ≤ c) (h1 : c ≤ 255) (w : World) :
  Calls Tryz.prog 296 #[.int .u8 c] w fun e w' => e = .returned (.tuple #[.int .i64 (Qbc c), .int .i64 (Qdy c)]) ∧ w = w' := by
 go_enter Tryz.func296, Tryz.ntmps296
 go_wp2
 all_goals go_ret2
 all_goals refine ⟨ret_int2 ?_ ?_, rfl⟩
 all_goals (simp only [Qbc, Qdy]; repeat' split) <;> first | rfl | omega
theorem next_any (s : ByteArray) (hs : s.size ≤ maxLen) (i : Int) (w : World) :
    Calls Tryz.prog 265 #[.string s, .int .i64 i] w fun e w' => e = .returned (.tuple #[.int .i64 (Qcu s i), .int .i64 (Qcy s i), .int .i64 (Qfm s i)]) ∧ w = w' := by
  unfold maxLen at hs
  by_cases hi : 0 ≤ i ∧ i < s.size
  · obtain ⟨n, rfl⟩ := Int.eq_ofNat_of_zero_le hi.1
    have hlt : n < s.size := by omega
    clear hi
    by_cases hz : Qbc (s[n].toNat) = 0 ∨ (s.size : Int) - n < Qbc (s[n].toNat)
    · have hfin : Qch s n = none := by
        rw [Qmb s n hlt, ← Qgs s n hlt]
        simp only [dec, Qjy]; rw [if_pos (by omega)]
      have fin : Hid (Qcu s n = 0 ∧ Qcy s n = 0 ∧ Qfm s n = 1) := by
        simp only [Hid, Qcu, Qcy, Qfm, hfin]; exact ⟨trivial, trivial, trivial⟩
      have HZ := Lib.hid hz
      clear hfin hz
      go_enter Tryz.func265, Tryz.ntmps265
      go_wp2_with (go_at_call 296; refine (lead_any _ (Int.natCast_nonneg _) (by have := s[n].toNat_lt; omega) _).mono ?_; rintro e w' ⟨rfl, rfl⟩)
      · go_ret3
        exact ⟨Qha fin.out.1.symm fin.out.2.1.symm fin.out.2.2.symm, rfl⟩
      · go_ret3
        exact ⟨Qha fin.out.1.symm fin.out.2.1.symm fin.out.2.2.symm, rfl⟩
      · have hbad : (Qbc ↑s[n].toNat == 0) = false ∧ Qbc ↑s[n].toNat ≤ ↑s.size - ↑n := by assumption
        have h1 : ¬ Qbc ↑s[n].toNat = 0 := by simpa using hbad.1
        rcases HZ.out with h | h
        · exact absurd h h1
        · have := hbad.2; omega
    · have hz1 : (Qbc (s[n].toNat) == 0) = false := by simp; omega
      have hz2 : Qbc (s[n].toNat) ≤ (s.size : Int) - n := by omega
      have hw4 := (leadW_le s[n].toNat).2
      have hb := leadB_le s[n].toNat (Int.natCast_nonneg _)
      have hlead : Hid (Qbc (s[n].toNat) ≠ 0) := by show Qbc (s[n].toNat) ≠ 0; simpa using hz1
      clear hz
      go_enter Tryz.func265, Tryz.ntmps265
      go_wp2_with (go_at_call 296; refine (lead_any _ (Int.natCast_nonneg _) (by have := s[n].toNat_lt; omega) _).mono ?_; rintro e w' ⟨rfl, rfl⟩)
      go_loop [8, 9] (fun a i => ∃ k : Nat, 1 ≤ k ∧ (k:Int) ≤ Qbc (s[n].toNat) ∧ i = .int .i64 k ∧ a = .int .i64 (accs (Qdy s[n].toNat) ((tl s n).take (k-1))) ∧ Qgq ((tl s n).take (k-1)) = true)
         (fun _ i => 4 - (intOf i).toNat)
      case atStart => exact ⟨1, Nat.le_refl _, by have := (leadW_le s[n].toNat).1; have := hlead.out; omega, rfl, rfl, rfl⟩
      case round =>
        obtain ⟨k, hk, hk2, rfl, rfl, hc⟩ := hrel
        have HC := Lib.hid hc; clear hc
        have hkl : n + k ≤ s.size := by omega
        go_wp2_with fail
        case roundEnd =>
          have hlt : (k : Int) < Qbc s[n].toNat := by assumption
          have hnk : n + k < s.size := by omega
          have hcont : (bits BinOp.and IntKind.u8 (↑s[n + k].toNat) 192 != 128) = false := by assumption
          rw [and_cont _ s[n+k].toNat_lt] at hcont
          have hkt : k - 1 < (tl s n).length := by rw [Qjy]; omega
          have hg : (tl s n).getD (k-1) 0 = s[n+k].toNat := by rw [tl_get, Qgs]; congr 1; omega
          have hsn : (tl s n).take k = (tl s n).take (k-1) ++ [s[n+k].toNat] := by
            rw [← hg, ← take_snoc _ _ _ hkt]; congr 1; omega
          refine ⟨⟨k + 1, by omega, by omega, rfl, ?_, ?_⟩, by simp [intOf]; omega⟩
          · have hacc := accs_lt ((tl s n).take (k-1)) (Qdy s[n].toNat) hb.2
            have hlen : ((tl s n).take (k-1)).length ≤ 2 := by rw [List.length_take]; omega
            have hp : (64:Int) ^ ((tl s n).take (k-1)).length ≤ 64 ^ 2 := by
              have : ((tl s n).take (k-1)).length = 0 ∨ ((tl s n).take (k-1)).length = 1 ∨ ((tl s n).take (k-1)).length = 2 := by omega
              rcases this with h | h | h <;> rw [h] <;> decide
            rw [or_acc _ (accs_nonneg _ _ hb.1) (by omega) _ s[n+k].toNat_lt, Nat.add_sub_cancel, hsn, accs_snoc]
          · rw [Nat.add_sub_cancel, hsn, conts_snoc, HC.out]; simpa using hcont
        · have hlt : (k : Int) < Qbc s[n].toNat := by assumption
          have hnk : n + k < s.size := by omega
          have hcont : (bits BinOp.and IntKind.u8 (↑s[n + k].toNat) 192 != 128) = true := by assumption
          rw [and_cont _ s[n+k].toNat_lt] at hcont
          have hkt : k - 1 < (tl s n).length := by rw [Qjy]; omega
          have hg : (tl s n).getD (k-1) 0 = s[n+k].toNat := by rw [tl_get, Qgs]; congr 1; omega
          have hcf : Qgq ((tl s n).take (Qbc s[n].toNat - 1).toNat) = false := by
            have hmem : s[n+k].toNat ∈ (tl s n).take (Qbc s[n].toNat - 1).toNat := by
              rw [← hg, List.mem_take_iff_getElem]
              refine ⟨k - 1, by omega, ?_⟩
              rw [List.getD_eq_getElem?_getD, List.getElem?_eq_getElem hkt]; rfl
            unfold Qgq
            rw [List.all_eq_false]
            exact ⟨_, hmem, by simpa using hcont⟩
          have hnone : Qch s n = none := by
            rw [Qmb s n (by omega), ← Qgs s n (by omega)]
            simp only [dec, Qjy, hcf]
            rw [if_neg (by have := hlead.out; omega), if_neg (by simp)]
          go_ret3
          exact ⟨Qha (by simp only [Qcu, hnone]) (by simp only [Qcy, hnone]) (by simp only [Qfm, hnone]), rfl⟩
        · have hge : Qbc s[n].toNat ≤ k := by assumption
          have hkw : (k : Int) = Qbc s[n].toNat := by omega
          have hk1 : (Qbc s[n].toNat - 1).toNat = k - 1 := by omega
          have hD : Qch s n = if right (accs (Qdy s[n].toNat) ((tl s n).take (k-1))) = true ∧ Qbi (accs (Qdy s[n].toNat) ((tl s n).take (k-1))) = Qbc s[n].toNat then some (accs (Qdy s[n].toNat) ((tl s n).take (k-1)), Qbc s[n].toNat) else none := by
            rw [Qmb s n (by omega), ← Qgs s n (by omega)]
            simp only [dec, Qjy, hk1, HC.out]
            rw [if_neg (by have := hlead.out; omega)]; simp only [true_and]
          have HD := Lib.hid hD; clear hD
          generalize accs (Qdy s[n].toNat) ((tl s n).take (k-1)) = x at *
          clear hkw hk1
          by_cases hr : right x = true
          · by_cases hwd : Qbi x = Qbc s[n].toNat
            · have hS : Qch s n = some (x, Qbc s[n].toNat) := by rw [HD.out, if_pos ⟨hr, hwd⟩]
              have fin : Hid (Qcu s n = x ∧ Qcy s n = Qbc s[n].toNat ∧ Qfm s n = 0) := by
                simp only [Hid, Qcu, Qcy, Qfm, hS]; exact ⟨trivial, trivial, trivial⟩
              have hb1 : (Qbi x != Qbc s[n].toNat) = false := by rw [hwd]; simp
              clear hS HD hwd
              refine (Qec _ _).mono ?_
              rintro e w' ⟨rfl, rfl⟩
              go_wp2_with (go_at_call 297; refine (Qig _ _).mono ?_; rintro e w' ⟨rfl, rfl⟩)
              go_ret3
              exact ⟨Qha fin.out.1.symm fin.out.2.1.symm fin.out.2.2.symm, rfl⟩
            · have hS : Qch s n = none := by rw [HD.out, if_neg (fun h => hwd h.2)]
              have fin : Hid (Qcu s n = 0 ∧ Qcy s n = 0 ∧ Qfm s n = 1) := by
                simp only [Hid, Qcu, Qcy, Qfm, hS]; exact ⟨trivial, trivial, trivial⟩
              have hb1 : (Qbi x != Qbc s[n].toNat) = true := by simpa using hwd
              clear hS HD hwd
              refine (Qec _ _).mono ?_
              rintro e w' ⟨rfl, rfl⟩
              go_wp2_with (go_at_call 297; refine (Qig _ _).mono ?_; rintro e w' ⟨rfl, rfl⟩)
              go_ret3
              exact ⟨Qha fin.out.1.symm fin.out.2.1.symm fin.out.2.2.symm, rfl⟩
          · have hS : Qch s n = none := by rw [HD.out, if_neg (fun h => hr h.1)]
            have fin : Hid (Qcu s n = 0 ∧ Qcy s n = 0 ∧ Qfm s n = 1) := by
              simp only [Hid, Qcu, Qcy, Qfm, hS]; exact ⟨trivial, trivial, trivial⟩
            have hr' : right x = false := by simpa using hr
            clear hS HD hr
            refine (Qec _ _).mono ?_
            rintro e w' ⟨rfl, rfl⟩
            go_wp2_with fail
            go_ret3
            exact ⟨Qha fin.out.1.symm fin.out.2.1.symm fin.out.2.2.symm, rfl⟩
  · have hfin : Qch s i = none := by unfold Qch; rw [if_neg hi]
    have fin : Hid (Qcu s i = 0 ∧ Qcy s i = 0 ∧ Qfm s i = 1) := by
        simp only [Hid, Qcu, Qcy, Qfm, hfin]; exact ⟨trivial, trivial, trivial⟩
    clear hfin
    by_cases h0 : i < 0
    · go_enter Tryz.func265, Tryz.ntmps265
      go_wp2
      go_ret3
      exact ⟨Qha fin.out.1.symm fin.out.2.1.symm fin.out.2.2.symm, rfl⟩
    · have h1 : (s.size : Int) ≤ i := by omega
      clear hi
      go_enter Tryz.func265, Tryz.ntmps265
      go_wp2
      go_ret3
      exact ⟨Qha fin.out.1.symm fin.out.2.1.symm fin.out.2.2.symm, rfl⟩
theorem i64_and63 (n : Int) : bits .and .i64 n 63 = n % 64 := by
 have h63 : (BitVec.ofInt 64 63).toNat = 2 ^ 6 - 1 := by decide
 have key : (BitVec.ofInt 64 n &&& BitVec.ofInt 64 63).toNat = (n % ((2 ^ 64 : Nat) : Int)).toNat % 2 ^ 6 := by
  rw [BitVec.toNat_and, BitVec.toNat_ofInt, h63, Nat.and_two_pow_sub_one_eq_mod]
 show IntKind.i64.wrap ((BitVec.ofInt 64 n &&& BitVec.ofInt 64 63).toNat : Nat) = n % 64
 rw [key, IntKind.wrap_i64]
 omega
theorem or128N : ∀ y : Nat, y < 64 → bits .or .u8 128 (y : Int) = 128 + (y : Int) := by decide +kernel
theorem or128 (n : Int) : bits .or .u8 128 (bits .and .i64 n 63 % 256) = 128 + n % 64 := by
 rw [i64_and63]
 obtain ⟨y, hy⟩ := Int.eq_ofNat_of_zero_le (show 0 ≤ n % 64 % 256 by omega)
 rw [hy, or128N y (by omega)]; omega
theorem lead2N : ∀ y : Nat, y < 32 → bits .or .i64 (bits .and .i64 960 255) (y : Int) % 256 = 192 + (y : Int) := by decide +kernel
theorem lead3N : ∀ y : Nat, y < 16 → bits .or .i64 (bits .and .i64 480 255) (y : Int) % 256 = 224 + (y : Int) := by decide +kernel
theorem lead4N : ∀ y : Nat, y < 8 → bits .or .i64 (bits .and .i64 240 255) (y : Int) % 256 = 240 + (y : Int) := by decide +kernel
theorem lead2 (y : Int) (h0 : 0 ≤ y) (h : y < 32) : bits .or .i64 (bits .and .i64 960 255) y % 256 = 192 + y := by
 obtain ⟨n, rfl⟩ := Int.eq_ofNat_of_zero_le h0; exact lead2N n (by omega)
theorem lead3 (y : Int) (h0 : 0 ≤ y) (h : y < 16) : bits .or .i64 (bits .and .i64 480 255) y % 256 = 224 + y := by
 obtain ⟨n, rfl⟩ := Int.eq_ofNat_of_zero_le h0; exact lead3N n (by omega)
theorem lead4 (y : Int) (h0 : 0 ≤ y) (h : y < 8) : bits .or .i64 (bits .and .i64 240 255) y % 256 = 240 + y := by
 obtain ⟨n, rfl⟩ := Int.eq_ofNat_of_zero_le h0; exact lead4N n (by omega)
def encL (n : Int) : List Int :=
 if n < 128 then [n] else if n < 2048 then [192 + n / 64, 128 + n % 64] else if n < 65536 then [224 + n / 64 / 64, 128 + n / 64 % 64, 128 + n % 64]
 else [240 + n / 64 / 64 / 64, 128 + n / 64 / 64 % 64, 128 + n / 64 % 64, 128 + n % 64]
def enc (n : Int) : ByteArray := strOfNums (encL n)
def putS (n : Int) : ByteArray := if right n = true then enc n else ByteArray.empty
def putE (n : Int) : Int := if right n = true then 0 else 16
theorem Qjc (l : List Int) (n : Nat) (hl : l.length = n) (w : World) : (convert 276 9 (.slice (some ⟨w.heap.size, 0, none⟩) n n)).run Tryz.prog (w.alloc (.cells (l.map (Value.int .u8)).toArray 5)) = .ok (.string (strOfNums l)) (w.alloc (.cells (l.map (Value.int .u8)).toArray 5)) := by
 refine run_convert_bytes_arg _ 276 5 Tryz.underlying276 Tryz.underlying5 _ 0 n n l hl ?_ 9 Tryz.underlying9
 intro i hi
 rw [World.cell?_alloc_new]
 simp [List.getElem?_eq_getElem (show i < l.length by omega)]
theorem put1 (n : Int) (h0 : 0 ≤ n) (h1 : n < 128) (w : World) :
  Calls Tryz.prog 266 #[.int .i64 n] w fun e w' => e = .returned (.tuple #[.string (enc n), .int .i64 0]) ∧ Below w.heap.size w w' := by
 have hr : right n = true := by simp [right]; omega
 have hw : Qbi n = 1 := by unfold Qbi; repeat' split <;> omega
 have hcv := fun (w : World) (a : Int) => Qjc [a] 1 rfl w
 simp only [List.map] at hcv
 have fin := Lib.hid (show encL n = [n] by unfold encL; rw [if_pos (by omega)])
 go_enter Tryz.func266, Tryz.ntmps266
 go_wp2_with (first | (go_at_call 286; refine (Qec _ _).mono ?_; rintro e w' ⟨rfl, rfl⟩) | (go_at_call 297; refine (Qig _ _).mono ?_; rintro e w' ⟨rfl, rfl⟩))
 go_ret2
 refine ⟨Qgd ?_ rfl, (Below.refl _ _).alloc (Nat.le_refl _) _⟩
 rw [enc, fin.out]
theorem put2 (n : Int) (h0 : 128 ≤ n) (h1 : n < 2048) (w : World) :
  Calls Tryz.prog 266 #[.int .i64 n] w fun e w' => e = .returned (.tuple #[.string (enc n), .int .i64 0]) ∧ Below w.heap.size w w' := by
 have hr : right n = true := by simp [right]; omega
 have hw : Qbi n = 2 := by unfold Qbi; repeat' split <;> omega
 have hmk : ∀ w : World, (Instr.makeSlice 276 (.int .i64 2) (.int .i64 2)).run Tryz.prog w = .ok (.slice (some ⟨w.heap.size, 0, none⟩) 2 2) (w.alloc (.cells #[.int .u8 0, .int .u8 0] 5)) := fun _ => by kernel_rfl
 have hcv := fun (w : World) (a b : Int) => Qjc [a, b] 2 rfl w
 simp only [List.map] at hcv
 have fin := Lib.hid (show encL n = [192 + n / 64, 128 + n % 64] by unfold encL; rw [if_neg (by omega), if_pos (by omega)])
 go_enter Tryz.func266, Tryz.ntmps266
 go_wp2_with (first | (go_at_call 286; refine (Qec _ _).mono ?_; rintro e w' ⟨rfl, rfl⟩) | (go_at_call 297; refine (Qig _ _).mono ?_; rintro e w' ⟨rfl, rfl⟩))
 go_rounds 2
 go_ret2
 refine ⟨Qgd ?_ rfl, (Below.refl _ _).alloc (Nat.le_refl _) _⟩
 rw [enc, fin.out, or128, lead2 _ (by omega) (by omega)]
theorem put3 (n : Int) (h0 : 2048 ≤ n) (h1 : n < 65536) (hr : right n = true) (w : World) :
  Calls Tryz.prog 266 #[.int .i64 n] w fun e w' => e = .returned (.tuple #[.string (enc n), .int .i64 0]) ∧ Below w.heap.size w w' := by
 have hw : Qbi n = 3 := by unfold Qbi; repeat' split <;> omega
 have hmk : ∀ w : World, (Instr.makeSlice 276 (.int .i64 3) (.int .i64 3)).run Tryz.prog w = .ok (.slice (some ⟨w.heap.size, 0, none⟩) 3 3) (w.alloc (.cells #[.int .u8 0, .int .u8 0, .int .u8 0] 5)) := fun _ => by kernel_rfl
 have hcv := fun (w : World) (a b c : Int) => Qjc [a, b, c] 3 rfl w
 simp only [List.map] at hcv
 have fin := Lib.hid (show encL n = [224 + n / 64 / 64, 128 + n / 64 % 64, 128 + n % 64] by unfold encL; rw [if_neg (by omega), if_neg (by omega), if_pos (by omega)])
 go_enter Tryz.func266, Tryz.ntmps266
 go_wp2_with (first | (go_at_call 286; refine (Qec _ _).mono ?_; rintro e w' ⟨rfl, rfl⟩) | (go_at_call 297; refine (Qig _ _).mono ?_; rintro e w' ⟨rfl, rfl⟩))
 go_rounds 3
 go_ret2
 refine ⟨Qgd ?_ rfl, (Below.refl _ _).alloc (Nat.le_refl _) _⟩
 rw [enc, fin.out, or128, or128, lead3 _ (by omega) (by omega)]
theorem put4 (n : Int) (h0 : 65536 ≤ n) (h1 : n ≤ 1114111) (w : World) :
  Calls Tryz.prog 266 #[.int .i64 n] w fun e w' => e = .returned (.tuple #[.string (enc n), .int .i64 0]) ∧ Below w.heap.size w w' := by
 have hr : right n = true := by simp [right]; omega
 have hw : Qbi n = 4 := by unfold Qbi; repeat' split <;> omega
 have hmk : ∀ w : World, (Instr.makeSlice 276 (.int .i64 4) (.int .i64 4)).run Tryz.prog w = .ok (.slice (some ⟨w.heap.size, 0, none⟩) 4 4) (w.alloc (.cells #[.int .u8 0, .int .u8 0, .int .u8 0, .int .u8 0] 5)) := fun _ => by kernel_rfl
 have hcv := fun (w : World) (a b c d : Int) => Qjc [a, b, c, d] 4 rfl w
 simp only [List.map] at hcv
 have fin := Lib.hid (show encL n = [240 + n / 64 / 64 / 64, 128 + n / 64 / 64 % 64, 128 + n / 64 % 64, 128 + n % 64] by unfold encL; rw [if_neg (by omega), if_neg (by omega), if_neg (by omega)])
 go_enter Tryz.func266, Tryz.ntmps266
 go_wp2_with (first | (go_at_call 286; refine (Qec _ _).mono ?_; rintro e w' ⟨rfl, rfl⟩) | (go_at_call 297; refine (Qig _ _).mono ?_; rintro e w' ⟨rfl, rfl⟩))
 go_rounds 4
 go_ret2
 refine ⟨Qgd ?_ rfl, (Below.refl _ _).alloc (Nat.le_refl _) _⟩
 rw [enc, fin.out, or128, or128, or128, lead4 _ (by omega) (by omega)]
theorem put0 (n : Int) (hr : right n = false) (w : World) :
  Calls Tryz.prog 266 #[.int .i64 n] w fun e w' => e = .returned (.tuple #[.string ByteArray.empty, .int .i64 16]) ∧ Below w.heap.size w w' := by
 go_enter Tryz.func266, Tryz.ntmps266
 go_wp2_with (first | (go_at_call 286; refine (Qec _ _).mono ?_; rintro e w' ⟨rfl, rfl⟩))
 go_ret2
 exact ⟨rfl, Below.refl _ _⟩
theorem put_any (n : Int) (w : World) :
  Calls Tryz.prog 266 #[.int .i64 n] w fun e w' => e = .returned (.tuple #[.string (putS n), .int .i64 (putE n)]) ∧ Below w.heap.size w w' := by
 by_cases hr : right n = true
 ·have h : 0 ≤ n ∧ n ≤ 1114111 := by have := of_decide_eq_true hr; omega
  have e1 : putS n = enc n := if_pos hr
  have e2 : putE n = 0 := if_pos hr
  rw [e1, e2]
  by_cases h1 : n < 128
  ·exact put1 n h.1 h1 w
  ·by_cases h2 : n < 2048
   ·exact put2 n (by omega) h2 w
   ·by_cases h3 : n < 65536
    ·exact put3 n (by omega) h3 hr w
    ·exact put4 n (by omega) h.2 w
 ·have e1 : putS n = ByteArray.empty := if_neg hr
  have e2 : putE n = 16 := if_neg hr
  rw [e1, e2]
  exact put0 n (by simpa using hr) w
theorem info5 : (Tryz.prog.info? 5).map (fun i => (i.zero, i.size, i.bytes)) = some (some (.int .u8 0), 1, 1) := by kernel_rfl
def Qiq (n : Int) : Nat → Int | 0 => n | k + 1 => Qiq n k / 64
theorem Qkx (n : Int) (h : 0 ≤ n) : ∀ k, 0 ≤ Qiq n k
 | 0 => h
 | k + 1 => by have := Qkx n h k; unfold Qiq; omega
theorem quo64_le (n : Int) (h : 0 ≤ n) : ∀ k, Qiq n k ≤ n
 | 0 => Int.le_refl _
 | k + 1 => by have := quo64_le n h k; have := Qkx n h k; unfold Qiq; omega
def Qgt (n : Int) : Nat → List Int | 0 => [] | m + 1 => (128 + Qiq n m % 64) :: Qgt n m
theorem tail_any (n : Int) (h0 : 0 ≤ n) (h1 : n ≤ 1114111) (m : Nat) (hm : m ≤ 3) (w : World) :
    Calls Tryz.prog 314 #[.int .i64 n, .int .i64 m] w fun e w' => ∃ v, e = .returned v ∧ w'.ownsRow w.heap.size 5 1 v m ((Qgt n m).map (Value.int .u8)) ∧ Below w.heap.size w w' := by
  obtain ⟨i0, hi, hz0, hz1, hz2⟩ := info_parts info5
  go_enter Tryz.func314, Tryz.ntmps314
  go_wp2_with fail
  go_loopw [5, 6] (fun v i wr => ∃ k : Nat, k ≤ m ∧ i = .int .i64 (↑k - 1) ∧ (∃ l : List Int, l ++ Qgt n k = Qgt n m ∧ wr.ownsRow w.heap.size 5 1 v (m - k) (l.map (Value.int .u8))) ∧ Below w.heap.size w wr)
    (fun _ i _ => (intOf i + 1).toNat)
  case atStart =>
    exact ⟨m, Nat.le_refl _, rfl, ⟨[], rfl, by rw [Nat.sub_self]; exact World.ownsRow_made w #[] 0 (Nat.le_refl _) (Nat.zero_le _) rfl⟩, (Below.refl _ _).alloc (Nat.le_refl _) _⟩
  case round =>
    obtain ⟨k, hk, rfl, ⟨l, hl, hown⟩, hbel⟩ := hrel
    have HL := Lib.hid hl; clear hl
    cases k with
    | zero =>
      go_wp2_with fail
      go_ret
      have e : l = Qgt n m := by simpa [Qgt] using HL.out
      subst e
      exact ⟨_, rfl, by simpa using hown, hbel⟩
    | succ k =>
      have hq0 := Qkx n h0
      have hq1 := quo64_le n h0
      go_wp2_with fail
      go_loop [7, 8] (fun x j => ∃ j' : Nat, j' ≤ k ∧ x = .int .i64 (Qiq n j') ∧ j = .int .i64 j') (fun _ j => k - (intOf j).toNat)
      case atStart => exact ⟨0, Nat.zero_le _, rfl, rfl⟩
      case round =>
        obtain ⟨j, hj, rfl, rfl⟩ := hrel
        have hj0 := hq0 j
        have hj1 := hq1 j
        clear hq0 hq1
        by_cases hlt : j < k
        · go_wp2_with fail
          go_round
          case rel => exact ⟨j + 1, by omega, rfl, by go_num⟩
          case measure => simp [intOf]; omega
        · obtain rfl : j = k := by omega
          go_wp2_with (at_builtin; refine wpList_append_own _ rfl _ _ 276 rfl w.heap.size 5 i0 (.int .u8 0) 1 1 Tryz.underlying276 hi hz0 hz1 hz2 rfl (by decide) _ _ _ rfl (hown.alloc _) ⟨wr.heap.size, 0, none⟩ 1 1 [.int .u8 (128 + Qiq n j % 64)] rfl rfl ?c1 ?c2 ?c3 ?c4 ?c5 ?_)
          case c2 => rfl
          case c3 => unfold maxLen; omega
          case c4 => omega
          case c5 => have := hbel.size; simp; omega
          intro v' w1 hown' hgrow _
          have hb1 : Below w.heap.size w w1 := (hbel.alloc hbel.size _).grown hgrow (by have := hbel.size; simp; omega) (fun k hk => ((hown.alloc (.cells #[.int .u8 (128 + Qiq n j % 64)] 5)).lt k hk).1)
          have hown1 : w1.ownsRow w.heap.size 5 1 v' (m - j) ((l ++ [128 + Qiq n j % 64]).map (Value.int .u8)) := by
            rw [List.map_append]
            rw [show m - (j + 1) + 1 = m - j by omega] at hown'
            exact hown'
          have HL2 := Lib.hid (show (l ++ [128 + Qiq n j % 64]) ++ Qgt n j = Qgt n m by rw [List.append_assoc]; exact HL.out)
          clear hown' hgrow hown hbel HL
          go_wp2_with fail
          go_roundw
          case rel => exact ⟨j, by omega, by go_num, ⟨_, HL2.out, hown1⟩, hb1⟩
          case measure => simp [intOf]
theorem cv_own {w : World} {base : Nat} {v : Value} {n : Nat} {l : List Int} (h : w.ownsRow base 5 1 v n (l.map (Value.int .u8))) : (convert 276 9 v).run Tryz.prog w = .ok (.string (strOfNums l)) w := by
 have hn := Qlq h
 rcases h.2 with ⟨rfl, rfl⟩ | ⟨g, cap, cur, rfl, hg, hh, hr⟩
 ·have : l = [] := by simpa using hn
  subst this
  rw [run_convert_bytes_nil w 276 5 Tryz.underlying276 Tryz.underlying5 0 0 9 Tryz.underlying9]; rfl
 ·refine run_convert_bytes_arg _ 276 5 Tryz.underlying276 Tryz.underlying5 _ 0 n cap l (by simpa using hn) ?_ 9 Tryz.underlying9
  intro i hi
  have := h.cells (g := g) rfl i (.int .u8 (l.getD i 0)) (by
   rw [List.getElem?_map, List.getD_eq_getElem?_getD, List.getElem?_eq_getElem (by simp at hn; omega)]; rfl)
  have e : (⟨g, 0, none⟩ : Addr).add i = ⟨g, 0 + i, none⟩ := by unfold Addr.add; split <;> simp_all
  rw [e] at this; exact this
theorem rput2 (n : Int) (h0 : 128 ≤ n) (h1 : n < 2048) (w : World) :
  Calls Tryz.prog 295 #[.int .i64 n] w fun e w' => e = .returned (.string (enc n)) ∧ Below w.heap.size w w' := by
 obtain ⟨i0, hi, hz0, hz1, hz2⟩ := info_parts info5
 have fin := Lib.hid (show encL n = [192 + n / 64] ++ Qgt n 1 by unfold encL; rw [if_neg (by omega), if_pos (by omega)]; rfl)
 go_enter Tryz.func295, Tryz.ntmps295
 go_wp2_with fail
 refine (tail_any n (by omega) (by omega) 1 (by omega) _).mono ?_
 rintro e w' ⟨v, rfl, hown, hbel⟩
 obtain ⟨g, cap, rfl, hg⟩ := own_some hown (by omega)
 have hlit := own_lit (w := w) (xs := [.int .u8 (192 + n / 64)]) (n := 1) 5 rfl (by decide) (by simpa using hbel)
 go_wp2_with (at_builtin; refine wpList_append_own _ rfl _ _ 276 rfl w.heap.size 5 i0 (.int .u8 0) 1 1 Tryz.underlying276 hi hz0 hz1 hz2 rfl (by decide) _ _ _ rfl hlit ⟨g, 0, none⟩ 1 cap _ rfl (Qlq hown) (hown.cells rfl) ?c2 ?c3 ?c4 ?c5 ?_)
 case c2 => intro u hu; simp at hu; obtain ⟨x, _, rfl⟩ := hu; rfl
 case c3 => decide
 case c4 => decide
 case c5 => have := hbel.size; simp at this; omega
 intro v' w1 hown' hgrow _
 have hcv := cv_own (l := (192 + n / 64) :: Qgt n 1) hown'
 have hb1 : Below w.heap.size w w1 := (((Below.refl _ _).alloc (Nat.le_refl _) _).trans (hbel.mono (by simp))).grown hgrow (by have := hbel.size; simp at this; omega) (fun k hk => by simp [Value.ownBlock] at hk; omega)
 clear hown' hgrow hown hlit hbel
 go_wp2_with fail
 go_ret
 exact ⟨by rw [enc, fin.out]; rfl, hb1⟩
theorem rput3 (n : Int) (h0 : 2048 ≤ n) (h1 : n < 65536) (w : World) :
  Calls Tryz.prog 295 #[.int .i64 n] w fun e w' => e = .returned (.string (enc n)) ∧ Below w.heap.size w w' := by
 obtain ⟨i0, hi, hz0, hz1, hz2⟩ := info_parts info5
 have fin := Lib.hid (show encL n = [224 + n / 4096] ++ Qgt n 2 by unfold encL; rw [if_neg (by omega), if_neg (by omega), if_pos (by omega), show n / 64 / 64 = n / 4096 by omega]; rfl)
 go_enter Tryz.func295, Tryz.ntmps295
 go_wp2_with fail
 refine (tail_any n (by omega) (by omega) 2 (by omega) _).mono ?_
 rintro e w' ⟨v, rfl, hown, hbel⟩
 obtain ⟨g, cap, rfl, hg⟩ := own_some hown (by omega)
 have hlit := own_lit (w := w) (xs := [.int .u8 (224 + n / 4096)]) (n := 1) 5 rfl (by decide) (by simpa using hbel)
 go_wp2_with (at_builtin; refine wpList_append_own _ rfl _ _ 276 rfl w.heap.size 5 i0 (.int .u8 0) 1 1 Tryz.underlying276 hi hz0 hz1 hz2 rfl (by decide) _ _ _ rfl hlit ⟨g, 0, none⟩ 2 cap _ rfl (Qlq hown) (hown.cells rfl) ?c2 ?c3 ?c4 ?c5 ?_)
 case c2 => intro u hu; simp at hu; obtain ⟨x, _, rfl⟩ := hu; rfl
 case c3 => decide
 case c4 => decide
 case c5 => have := hbel.size; simp at this; omega
 intro v' w1 hown' hgrow _
 have hcv := cv_own (l := (224 + n / 4096) :: Qgt n 2) hown'
 have hb1 : Below w.heap.size w w1 := (((Below.refl _ _).alloc (Nat.le_refl _) _).trans (hbel.mono (by simp))).grown hgrow (by have := hbel.size; simp at this; omega) (fun k hk => by simp [Value.ownBlock] at hk; omega)
 clear hown' hgrow hown hlit hbel
 go_wp2_with fail
 go_ret
 exact ⟨by rw [enc, fin.out]; rfl, hb1⟩
theorem rput4 (n : Int) (h0 : 65536 ≤ n) (h1 : n ≤ 1114111) (w : World) :
  Calls Tryz.prog 295 #[.int .i64 n] w fun e w' => e = .returned (.string (enc n)) ∧ Below w.heap.size w w' := by
 obtain ⟨i0, hi, hz0, hz1, hz2⟩ := info_parts info5
 have fin := Lib.hid (show encL n = [240 + n / 262144] ++ Qgt n 3 by unfold encL; rw [if_neg (by omega), if_neg (by omega), if_neg (by omega), show n / 64 / 64 / 64 = n / 262144 by omega]; rfl)
 go_enter Tryz.func295, Tryz.ntmps295
 go_wp2_with fail
 refine (tail_any n (by omega) (by omega) 3 (by omega) _).mono ?_
 rintro e w' ⟨v, rfl, hown, hbel⟩
 obtain ⟨g, cap, rfl, hg⟩ := own_some hown (by omega)
 have hlit := own_lit (w := w) (xs := [.int .u8 (240 + n / 262144)]) (n := 1) 5 rfl (by decide) (by simpa using hbel)
 go_wp2_with (at_builtin; refine wpList_append_own _ rfl _ _ 276 rfl w.heap.size 5 i0 (.int .u8 0) 1 1 Tryz.underlying276 hi hz0 hz1 hz2 rfl (by decide) _ _ _ rfl hlit ⟨g, 0, none⟩ 3 cap _ rfl (Qlq hown) (hown.cells rfl) ?c2 ?c3 ?c4 ?c5 ?_)
 case c2 => intro u hu; simp at hu; obtain ⟨x, _, rfl⟩ := hu; rfl
 case c3 => decide
 case c4 => decide
 case c5 => have := hbel.size; simp at this; omega
 intro v' w1 hown' hgrow _
 have hcv := cv_own (l := (240 + n / 262144) :: Qgt n 3) hown'
 have hb1 : Below w.heap.size w w1 := (((Below.refl _ _).alloc (Nat.le_refl _) _).trans (hbel.mono (by simp))).grown hgrow (by have := hbel.size; simp at this; omega) (fun k hk => by simp [Value.ownBlock] at hk; omega)
 clear hown' hgrow hown hlit hbel
 go_wp2_with fail
 go_ret
 exact ⟨by rw [enc, fin.out]; rfl, hb1⟩
theorem rput1 (n : Int) (h0 : 0 ≤ n) (h1 : n < 128) (w : World) :
  Calls Tryz.prog 295 #[.int .i64 n] w fun e w' => e = .returned (.string (enc n)) ∧ Below w.heap.size w w' := by
 have hcv := fun (w : World) (a : Int) => Qjc [a] 1 rfl w
 simp only [List.map] at hcv
 have fin := Lib.hid (show encL n = [n] by unfold encL; rw [if_pos (by omega)])
 go_enter Tryz.func295, Tryz.ntmps295
 go_wp2_with fail
 go_ret
 exact ⟨by rw [enc, fin.out]; rfl, (Below.refl _ _).alloc (Nat.le_refl _) _⟩
theorem Qhb (n : Int) (hr : right n = true) (w : World) :
  Calls Tryz.prog 295 #[.int .i64 n] w fun e w' => e = .returned (.string (enc n)) ∧ Below w.heap.size w w' := by
 have h : 0 ≤ n ∧ n ≤ 1114111 := by have := of_decide_eq_true hr; omega
 by_cases h1 : n < 128
 ·exact rput1 n h.1 h1 w
 ·by_cases h2 : n < 2048
  ·exact rput2 n (by omega) h2 w
  ·by_cases h3 : n < 65536
   ·exact rput3 n (by omega) h3 w
   ·exact rput4 n (by omega) h.2 w
def Qfo : Nat → Int | 2 => 192 | 3 => 224 | 4 => 240 | _ => 0
def Qce (s : ByteArray) : Int := (nb s 0 : Int) - Qfo s.size
def Qda (s : ByteArray) : Nat → Int | 0 => Qce s | k + 1 => Qda s k * 64 + (nb s (k + 1) : Int) - 128
def Qas (s : ByteArray) : Int := if Qce s < 0 then -1 else if right (Qda s (s.size - 1)) = true ∧ enc (Qda s (s.size - 1)) = s then Qda s (s.size - 1) else -1
theorem Qlk {a b : ByteArray} (h : a ≠ b) : (a.toList == b.toList) = false := by
 rw [beq_eq_false_iff_ne, ByteArray.toList_eq, ByteArray.toList_eq]
 intro e; exact h (ByteArray.ext (Array.toList_inj.mp e))
theorem number1 (s : ByteArray) (hsz : s.size = 1) (w : World) :
  Calls Tryz.prog 281 #[.string s] w fun e w' => e = .returned (.int .i64 (Qas s)) ∧ Below w.heap.size w w' := by
 have HZ : Hid (Qce s = (nb s 0 : Int)) := by simp [Hid, Qce, Qfo, hsz]
 have HF : Hid (Qda s (s.size - 1) = (nb s 0 : Int)) := by simp [Hid, Qda, Qce, Qfo, hsz]
 have hnb := Qgs s
 have h0 := nb_lt s 0
 go_enter Tryz.func281, Tryz.ntmps281
 go_wp2_with fail
 have hz : 0 ≤ (nb s 0 : Int) := by omega
 refine wp_loop_rounds 1 ?_
 repeat any_goals (rw [rounds_succ]; go_wp2_with fail)
 generalize hx : (nb s 0 : Int) = x at *
 by_cases hr : right x = true
 ·by_cases he : enc x = s
  ·have hb : ((enc x).toList == s.toList) = true := by rw [he]; simp
   have hfin : Qas s = x := by rw [Qas, if_neg (by rw [HZ.out]; omega), HF.out, if_pos ⟨hr, he⟩]
   have FIN := Lib.hid hfin
   clear he hfin
   refine (Qcv _ _).mono ?_
   rintro e w' ⟨rfl, rfl⟩
   go_wp2_with (go_at_call 295; refine (Qhb x hr _).mono ?_; rintro e w' ⟨rfl, hbel⟩)
   go_ret
   exact ⟨Qbl FIN.out.symm, ((Below.refl _ _).alloc (Nat.le_refl _) _).trans (hbel.mono (by simp))⟩
  ·have hb := Qlk he
   have hfin : Qas s = -1 := by rw [Qas, if_neg (by rw [HZ.out]; omega), HF.out, if_neg (fun h => he h.2)]
   have FIN := Lib.hid hfin
   clear he hfin
   refine (Qcv _ _).mono ?_
   rintro e w' ⟨rfl, rfl⟩
   go_wp2_with (go_at_call 295; refine (Qhb x hr _).mono ?_; rintro e w' ⟨rfl, hbel⟩)
   go_ret
   exact ⟨Qbl FIN.out.symm, ((Below.refl _ _).alloc (Nat.le_refl _) _).trans (hbel.mono (by simp))⟩
 ·have hr' : right x = false := by simpa using hr
  have hfin : Qas s = -1 := by rw [Qas, if_neg (by rw [HZ.out]; omega), HF.out, if_neg (fun h => hr h.1)]
  have FIN := Lib.hid hfin
  clear hr hfin
  refine (Qcv _ _).mono ?_
  rintro e w' ⟨rfl, rfl⟩
  go_wp2_with fail
  go_ret
  exact ⟨Qbl FIN.out.symm, (Below.refl _ _).alloc (Nat.le_refl _) _⟩
theorem number2 (s : ByteArray) (hsz : s.size = 2) (w : World) :
    Calls Tryz.prog 281 #[.string s] w fun e w' => e = .returned (.int .i64 (Qas s)) ∧ Below w.heap.size w w' := by
  have HZ : Hid (Qce s = (nb s 0 : Int) - 192) := by simp [Hid, Qce, Qfo, hsz]
  have HF : Hid (Qda s (s.size - 1) = ((nb s 0 : Int) - 192) * 64 + (nb s 1 : Int) - 128) := by simp [Hid, Qda, Qce, Qfo, hsz]
  have hnb := Qgs s
  have h0 := nb_lt s 0
  have h1 := nb_lt s 1
  go_enter Tryz.func281, Tryz.ntmps281
  go_wp2_with fail
  · go_ret
    exact ⟨Qbl (by have : (nb s 0 : Int) - 192 < 0 := by assumption
                   rw [Qas, if_pos (by rw [HZ.out]; exact this)]), (Below.refl _ _).alloc (Nat.le_refl _) _⟩
  · have hz : 0 ≤ (nb s 0 : Int) - 192 := by assumption
    refine wp_loop_rounds 2 ?_
    repeat any_goals (rw [rounds_succ]; go_wp2_with fail)
    generalize hx : ((nb s 0 : Int) - 192) * 64 + (nb s 1 : Int) - 128 = x at *
    by_cases hr : right x = true
    · by_cases he : enc x = s
      · have hb : ((enc x).toList == s.toList) = true := by rw [he]; simp
        have hfin : Qas s = x := by rw [Qas, if_neg (by rw [HZ.out]; omega), HF.out, if_pos ⟨hr, he⟩]
        have FIN := Lib.hid hfin
        clear he hfin
        refine (Qcv _ _).mono ?_
        rintro e w' ⟨rfl, rfl⟩
        go_wp2_with (go_at_call 295; refine (Qhb x hr _).mono ?_; rintro e w' ⟨rfl, hbel⟩)
        go_ret
        exact ⟨Qbl FIN.out.symm, ((Below.refl _ _).alloc (Nat.le_refl _) _).trans (hbel.mono (by simp))⟩
      · have hb := Qlk he
        have hfin : Qas s = -1 := by rw [Qas, if_neg (by rw [HZ.out]; omega), HF.out, if_neg (fun h => he h.2)]
        have FIN := Lib.hid hfin
        clear he hfin
        refine (Qcv _ _).mono ?_
        rintro e w' ⟨rfl, rfl⟩
        go_wp2_with (go_at_call 295; refine (Qhb x hr _).mono ?_; rintro e w' ⟨rfl, hbel⟩)
        go_ret
        exact ⟨Qbl FIN.out.symm, ((Below.refl _ _).alloc (Nat.le_refl _) _).trans (hbel.mono (by simp))⟩
    · have hr' : right x = false := by simpa using hr
      have hfin : Qas s = -1 := by rw [Qas, if_neg (by rw [HZ.out]; omega), HF.out, if_neg (fun h => hr h.1)]
      have FIN := Lib.hid hfin
      clear hr hfin
      refine (Qcv _ _).mono ?_
      rintro e w' ⟨rfl, rfl⟩
      go_wp2_with fail
      go_ret
      exact ⟨Qbl FIN.out.symm, (Below.refl _ _).alloc (Nat.le_refl _) _⟩
theorem number3 (s : ByteArray) (hsz : s.size = 3) (w : World) :
    Calls Tryz.prog 281 #[.string s] w fun e w' => e = .returned (.int .i64 (Qas s)) ∧ Below w.heap.size w w' := by
  have HZ : Hid (Qce s = (nb s 0 : Int) - 224) := by simp [Hid, Qce, Qfo, hsz]
  have HF : Hid (Qda s (s.size - 1) = (((nb s 0 : Int) - 224) * 64 + (nb s 1 : Int) - 128) * 64 + (nb s 2 : Int) - 128) := by simp [Hid, Qda, Qce, Qfo, hsz]
  have hnb := Qgs s
  have h0 := nb_lt s 0
  have h1 := nb_lt s 1
  have h2 := nb_lt s 2
  go_enter Tryz.func281, Tryz.ntmps281
  go_wp2_with fail
  · go_ret
    exact ⟨Qbl (by have : (nb s 0 : Int) - 224 < 0 := by assumption
                   rw [Qas, if_pos (by rw [HZ.out]; exact this)]), (Below.refl _ _).alloc (Nat.le_refl _) _⟩
  · have hz : 0 ≤ (nb s 0 : Int) - 224 := by assumption
    refine wp_loop_rounds 3 ?_
    repeat any_goals (rw [rounds_succ]; go_wp2_with fail)
    generalize hx : (((nb s 0 : Int) - 224) * 64 + (nb s 1 : Int) - 128) * 64 + (nb s 2 : Int) - 128 = x at *
    by_cases hr : right x = true
    · by_cases he : enc x = s
      · have hb : ((enc x).toList == s.toList) = true := by rw [he]; simp
        have hfin : Qas s = x := by rw [Qas, if_neg (by rw [HZ.out]; omega), HF.out, if_pos ⟨hr, he⟩]
        have FIN := Lib.hid hfin
        clear he hfin
        refine (Qcv _ _).mono ?_
        rintro e w' ⟨rfl, rfl⟩
        go_wp2_with (go_at_call 295; refine (Qhb x hr _).mono ?_; rintro e w' ⟨rfl, hbel⟩)
        go_ret
        exact ⟨Qbl FIN.out.symm, ((Below.refl _ _).alloc (Nat.le_refl _) _).trans (hbel.mono (by simp))⟩
      · have hb := Qlk he
        have hfin : Qas s = -1 := by rw [Qas, if_neg (by rw [HZ.out]; omega), HF.out, if_neg (fun h => he h.2)]
        have FIN := Lib.hid hfin
        clear he hfin
        refine (Qcv _ _).mono ?_
        rintro e w' ⟨rfl, rfl⟩
        go_wp2_with (go_at_call 295; refine (Qhb x hr _).mono ?_; rintro e w' ⟨rfl, hbel⟩)
        go_ret
        exact ⟨Qbl FIN.out.symm, ((Below.refl _ _).alloc (Nat.le_refl _) _).trans (hbel.mono (by simp))⟩
    · have hr' : right x = false := by simpa using hr
      have hfin : Qas s = -1 := by rw [Qas, if_neg (by rw [HZ.out]; omega), HF.out, if_neg (fun h => hr h.1)]
      have FIN := Lib.hid hfin
      clear hr hfin
      refine (Qcv _ _).mono ?_
      rintro e w' ⟨rfl, rfl⟩
      go_wp2_with fail
      go_ret
      exact ⟨Qbl FIN.out.symm, (Below.refl _ _).alloc (Nat.le_refl _) _⟩
theorem number4 (s : ByteArray) (hsz : s.size = 4) (w : World) :
    Calls Tryz.prog 281 #[.string s] w fun e w' => e = .returned (.int .i64 (Qas s)) ∧ Below w.heap.size w w' := by
  have HZ : Hid (Qce s = (nb s 0 : Int) - 240) := by simp [Hid, Qce, Qfo, hsz]
  have HF : Hid (Qda s (s.size - 1) = ((((nb s 0 : Int) - 240) * 64 + (nb s 1 : Int) - 128) * 64 + (nb s 2 : Int) - 128) * 64 + (nb s 3 : Int) - 128) := by simp [Hid, Qda, Qce, Qfo, hsz]
  have hnb := Qgs s
  have h0 := nb_lt s 0
  have h1 := nb_lt s 1
  have h2 := nb_lt s 2
  have h3 := nb_lt s 3
  go_enter Tryz.func281, Tryz.ntmps281
  go_wp2_with fail
  · go_ret
    exact ⟨Qbl (by have : (nb s 0 : Int) - 240 < 0 := by assumption
                   rw [Qas, if_pos (by rw [HZ.out]; exact this)]), (Below.refl _ _).alloc (Nat.le_refl _) _⟩
  · have hz : 0 ≤ (nb s 0 : Int) - 240 := by assumption
    refine wp_loop_rounds 4 ?_
    repeat any_goals (rw [rounds_succ]; go_wp2_with fail)
    generalize hx : ((((nb s 0 : Int) - 240) * 64 + (nb s 1 : Int) - 128) * 64 + (nb s 2 : Int) - 128) * 64 + (nb s 3 : Int) - 128 = x at *
    by_cases hr : right x = true
    · by_cases he : enc x = s
      · have hb : ((enc x).toList == s.toList) = true := by rw [he]; simp
        have hfin : Qas s = x := by rw [Qas, if_neg (by rw [HZ.out]; omega), HF.out, if_pos ⟨hr, he⟩]
        have FIN := Lib.hid hfin
        clear he hfin
        refine (Qcv _ _).mono ?_
        rintro e w' ⟨rfl, rfl⟩
        go_wp2_with (go_at_call 295; refine (Qhb x hr _).mono ?_; rintro e w' ⟨rfl, hbel⟩)
        go_ret
        exact ⟨Qbl FIN.out.symm, ((Below.refl _ _).alloc (Nat.le_refl _) _).trans (hbel.mono (by simp))⟩
      · have hb := Qlk he
        have hfin : Qas s = -1 := by rw [Qas, if_neg (by rw [HZ.out]; omega), HF.out, if_neg (fun h => he h.2)]
        have FIN := Lib.hid hfin
        clear he hfin
        refine (Qcv _ _).mono ?_
        rintro e w' ⟨rfl, rfl⟩
        go_wp2_with (go_at_call 295; refine (Qhb x hr _).mono ?_; rintro e w' ⟨rfl, hbel⟩)
        go_ret
        exact ⟨Qbl FIN.out.symm, ((Below.refl _ _).alloc (Nat.le_refl _) _).trans (hbel.mono (by simp))⟩
    · have hr' : right x = false := by simpa using hr
      have hfin : Qas s = -1 := by rw [Qas, if_neg (by rw [HZ.out]; omega), HF.out, if_neg (fun h => hr h.1)]
      have FIN := Lib.hid hfin
      clear hr hfin
      refine (Qcv _ _).mono ?_
      rintro e w' ⟨rfl, rfl⟩
      go_wp2_with fail
      go_ret
      exact ⟨Qbl FIN.out.symm, (Below.refl _ _).alloc (Nat.le_refl _) _⟩
theorem number_any (s : ByteArray) (h0 : 1 ≤ s.size) (h4 : s.size ≤ 4) (w : World) :
  Calls Tryz.prog 281 #[.string s] w fun e w' => e = .returned (.int .i64 (Qas s)) ∧ Below w.heap.size w w' := by
 have h : s.size = 1 ∨ s.size = 2 ∨ s.size = 3 ∨ s.size = 4 := by omega
 rcases h with h | h | h | h
 ·exact number1 s h w
 ·exact number2 s h w
 ·exact number3 s h w
 ·exact number4 s h w
def encN (m : Int) : List Nat := (encL m).map Int.toNat
theorem Qfw (m : Int) : right m = true ↔ 0 ≤ m ∧ m ≤ 1114111 ∧ (m < 55296 ∨ 57343 < m) := by simp [right]
theorem leadW1 (c : Int) (h : c < 128) : Qbc c = 1 := if_pos h
theorem leadW2 (c : Int) (h : 192 ≤ c ∧ c < 224) : Qbc c = 2 := by unfold Qbc; rw [if_neg (by omega), if_pos h]
theorem leadW3 (c : Int) (h : 224 ≤ c ∧ c < 240) : Qbc c = 3 := by unfold Qbc; rw [if_neg (by omega), if_neg (by omega), if_pos h]
theorem leadW4 (c : Int) (h : 240 ≤ c ∧ c < 248) : Qbc c = 4 := by unfold Qbc; rw [if_neg (by omega), if_neg (by omega), if_neg (by omega), if_pos h]
theorem leadB1 (c : Int) (h : c < 128) : Qdy c = c := if_pos h
theorem leadB2 (c : Int) (h : 192 ≤ c ∧ c < 224) : Qdy c = c - 192 := by unfold Qdy; rw [if_neg (by omega), if_pos h]; omega
theorem leadB3 (c : Int) (h : 224 ≤ c ∧ c < 240) : Qdy c = c - 224 := by unfold Qdy; rw [if_neg (by omega), if_neg (by omega), if_pos h]; omega
theorem leadB4 (c : Int) (h : 240 ≤ c ∧ c < 248) : Qdy c = c - 240 := by unfold Qdy; rw [if_neg (by omega), if_neg (by omega), if_neg (by omega), if_pos h]; omega
theorem width1 (m : Int) (h : m < 128) : Qbi m = 1 := if_pos h
theorem width2 (m : Int) (h : 128 ≤ m) (h' : m < 2048) : Qbi m = 2 := by unfold Qbi; rw [if_neg (by omega), if_pos h']
theorem width3 (m : Int) (h : 2048 ≤ m) (h' : m < 65536) : Qbi m = 3 := by unfold Qbi; rw [if_neg (by omega), if_neg (by omega), if_pos h']
theorem width4 (m : Int) (h : 65536 ≤ m) : Qbi m = 4 := by unfold Qbi; rw [if_neg (by omega), if_neg (by omega), if_neg (by omega)]
theorem dec1 (a : Nat) (r : List Nat) (h : a < 128) : dec (a :: r) = some ((a : Int), 1) := by
 have e : right (a : Int) = true := (Qfw _).2 (by omega)
 simp only [dec, leadW1 (a : Int) (by omega), leadB1 (a : Int) (by omega)]
 rw [if_neg (by omega)]; simp [accs, Qgq, e, width1 (a : Int) (by omega)]
theorem dec2 (a b : Nat) (r : List Nat) (h : 192 ≤ a ∧ a < 224) : dec (a :: b :: r) = if b / 64 = 2 ∧ 194 ≤ a then some (((a : Int) - 192) * 64 + (b % 64 : Nat), 2) else none := by
 simp only [dec, leadW2 (a : Int) (by omega), leadB2 (a : Int) (by omega)]
 rw [if_neg (by simp; omega)]
 have e : (b :: r).take (((2 : Int) - 1).toNat) = [b] := rfl
 rw [e]
 by_cases hb : b / 64 = 2 ∧ 194 ≤ a
 ·rw [if_pos hb, if_pos ⟨by simpa [Qgq] using hb.1, (Qfw _).2 (by simp [accs]; omega), width2 _ (by simp [accs]; omega) (by simp [accs]; omega)⟩]; rfl
 ·rw [if_neg hb, if_neg]
  rintro ⟨h1, h2, h3⟩
  have h1' : b / 64 = 2 := by simpa [Qgq] using h1
  have : accs ((a:Int) - 192) [b] < 128 := by simp [accs]; omega
  rw [width1 _ this] at h3; omega
theorem dec3 (a b c : Nat) (r : List Nat) (h : 224 ≤ a ∧ a < 240) : dec (a :: b :: c :: r) = if b / 64 = 2 ∧ c / 64 = 2 ∧ right ((((a : Int) - 224) * 64 + (b % 64 : Nat)) * 64 + (c % 64 : Nat)) = true ∧ (225 ≤ a ∨ 160 ≤ b) then some ((((a : Int) - 224) * 64 + (b % 64 : Nat)) * 64 + (c % 64 : Nat), 3) else none := by
 simp only [dec, leadW3 (a : Int) (by omega), leadB3 (a : Int) (by omega)]
 rw [if_neg (by simp; omega)]
 have e : (b :: c :: r).take (((3 : Int) - 1).toNat) = [b, c] := rfl
 rw [e]
 have ea : accs ((a:Int) - 224) [b, c] = (((a : Int) - 224) * 64 + (b % 64 : Nat)) * 64 + (c % 64 : Nat) := rfl
 rw [ea]
 by_cases hb : b / 64 = 2 ∧ c / 64 = 2 ∧ right ((((a : Int) - 224) * 64 + (b % 64 : Nat)) * 64 + (c % 64 : Nat)) = true ∧ (225 ≤ a ∨ 160 ≤ b)
 ·rw [if_pos hb, if_pos ⟨by simpa [Qgq] using ⟨hb.1, hb.2.1⟩, hb.2.2.1, width3 _ (by omega) (by omega)⟩]
 ·rw [if_neg hb, if_neg]
  rintro ⟨h1, h2, h3⟩
  have h1' : b / 64 = 2 ∧ c / 64 = 2 := by simpa [Qgq] using h1
  refine hb ⟨h1'.1, h1'.2, h2, ?_⟩
  by_cases hx : (((a : Int) - 224) * 64 + (b % 64 : Nat)) * 64 + (c % 64 : Nat) < 2048
  ·unfold Qbi at h3; repeat' split at h3 <;> omega
  ·omega
theorem dec4 (a b c d : Nat) (r : List Nat) (h : 240 ≤ a ∧ a < 248) : dec (a :: b :: c :: d :: r) = if b / 64 = 2 ∧ c / 64 = 2 ∧ d / 64 = 2 ∧ right (((((a : Int) - 240) * 64 + (b % 64 : Nat)) * 64 + (c % 64 : Nat)) * 64 + (d % 64 : Nat)) = true ∧ (241 ≤ a ∨ 144 ≤ b) then some (((((a : Int) - 240) * 64 + (b % 64 : Nat)) * 64 + (c % 64 : Nat)) * 64 + (d % 64 : Nat), 4) else none := by
 simp only [dec, leadW4 (a : Int) (by omega), leadB4 (a : Int) (by omega)]
 rw [if_neg (by simp; omega)]
 have e : (b :: c :: d :: r).take (((4 : Int) - 1).toNat) = [b, c, d] := rfl
 rw [e]
 have ea : accs ((a:Int) - 240) [b, c, d] = ((((a : Int) - 240) * 64 + (b % 64 : Nat)) * 64 + (c % 64 : Nat)) * 64 + (d % 64 : Nat) := rfl
 rw [ea]
 by_cases hb : b / 64 = 2 ∧ c / 64 = 2 ∧ d / 64 = 2 ∧ right (((((a : Int) - 240) * 64 + (b % 64 : Nat)) * 64 + (c % 64 : Nat)) * 64 + (d % 64 : Nat)) = true ∧ (241 ≤ a ∨ 144 ≤ b)
 ·rw [if_pos hb, if_pos ⟨by simpa [Qgq] using ⟨hb.1, hb.2.1, hb.2.2.1⟩, hb.2.2.2.1, width4 _ (by omega)⟩]
 ·rw [if_neg hb, if_neg]
  rintro ⟨h1, h2, h3⟩
  have h1' : b / 64 = 2 ∧ c / 64 = 2 ∧ d / 64 = 2 := by simpa [Qgq] using h1
  refine hb ⟨h1'.1, h1'.2.1, h1'.2.2, h2, ?_⟩
  by_cases hx : ((((a : Int) - 240) * 64 + (b % 64 : Nat)) * 64 + (c % 64 : Nat)) * 64 + (d % 64 : Nat) < 65536
  ·unfold Qbi at h3; repeat' split at h3 <;> omega
  ·omega
theorem encL1 (m : Int) (h : m < 128) : encL m = [m] := if_pos h
theorem encL2 (m : Int) (h : 128 ≤ m) (h' : m < 2048) : encL m = [192 + m / 64, 128 + m % 64] := by unfold encL; rw [if_neg (by omega), if_pos h']
theorem encL3 (m : Int) (h : 2048 ≤ m) (h' : m < 65536) : encL m = [224 + m / 64 / 64, 128 + m / 64 % 64, 128 + m % 64] := by unfold encL; rw [if_neg (by omega), if_neg (by omega), if_pos h']
theorem encL4 (m : Int) (h : 65536 ≤ m) : encL m = [240 + m / 64 / 64 / 64, 128 + m / 64 / 64 % 64, 128 + m / 64 % 64, 128 + m % 64] := by unfold encL; rw [if_neg (by omega), if_neg (by omega), if_neg (by omega)]
theorem Qky (m : Int) (h : right m = true) : (0 ≤ m ∧ m < 128) ∨ (128 ≤ m ∧ m < 2048) ∨ (2048 ≤ m ∧ m < 65536) ∨ (65536 ≤ m ∧ m ≤ 1114111) := by
 have := (Qfw m).1 h; omega
theorem dec_enc (m : Int) (hm : right m = true) (r : List Nat) : dec (encN m ++ r) = some (m, Qbi m) := by
 rcases Qky m hm with h | h | h | h
 ·rw [encN, encL1 m h.2, width1 m h.2]
  have := dec1 m.toNat r (by omega)
  rw [show ((m.toNat : Nat) : Int) = m by omega] at this; exact this
 ·rw [encN, encL2 m h.1 h.2, width2 m h.1 h.2]
  have := dec2 (192 + m / 64).toNat (128 + m % 64).toNat r (by omega)
  rw [if_pos (by omega)] at this
  refine this.trans ?_
  rw [show (((192 + m / 64).toNat : Int) - 192) * 64 + (((128 + m % 64).toNat % 64 : Nat) : Int) = m by omega]
 ·rw [encN, encL3 m h.1 h.2, width3 m h.1 h.2]
  have := dec3 (224 + m / 64 / 64).toNat (128 + m / 64 % 64).toNat (128 + m % 64).toNat r (by omega)
  rw [show ((((224 + m / 64 / 64).toNat : Int) - 224) * 64 + (((128 + m / 64 % 64).toNat % 64 : Nat) : Int)) * 64 + (((128 + m % 64).toNat % 64 : Nat) : Int) = m by omega, if_pos ⟨by omega, by omega, hm, by omega⟩] at this
  exact this
 ·rw [encN, encL4 m h.1, width4 m h.1]
  have := dec4 (240 + m / 64 / 64 / 64).toNat (128 + m / 64 / 64 % 64).toNat (128 + m / 64 % 64).toNat (128 + m % 64).toNat r (by omega)
  rw [show (((((240 + m / 64 / 64 / 64).toNat : Int) - 240) * 64 + (((128 + m / 64 / 64 % 64).toNat % 64 : Nat) : Int)) * 64 + (((128 + m / 64 % 64).toNat % 64 : Nat) : Int)) * 64 + (((128 + m % 64).toNat % 64 : Nat) : Int) = m by omega, if_pos ⟨by omega, by omega, by omega, hm, by omega⟩] at this
  exact this
theorem dec_some (l : List Nat) (m w : Int) (h : dec l = some (m, w)) : right m = true ∧ w = Qbi m ∧ ∃ r, l = encN m ++ r := by
  match l with
  | [] => simp [dec] at h
  | a :: r =>
    by_cases h1 : a < 128
    · rw [dec1 a r h1] at h
      simp only [Option.some.injEq, Prod.mk.injEq] at h
      obtain ⟨rfl, rfl⟩ := h
      exact ⟨(Qfw _).2 (by omega), (width1 _ (by omega)).symm, r, by rw [encN, encL1 _ (by omega)]; rfl⟩
    by_cases h2 : 192 ≤ a ∧ a < 224
    · match r with
      | [] => simp [dec, leadW2 (a : Int) (by omega)] at h
      | b :: r =>
        rw [dec2 a b r h2] at h
        split at h
        · rename_i hb
          simp only [Option.some.injEq, Prod.mk.injEq] at h
          obtain ⟨rfl, rfl⟩ := h
          refine ⟨(Qfw _).2 (by omega), (width2 _ (by omega) (by omega)).symm, r, ?_⟩
          rw [encN, encL2 _ (by omega) (by omega)]
          simp only [List.map, List.cons_append, List.nil_append]
          congr 1
          · omega
          · congr 1; omega
        · cases h
    by_cases h3 : 224 ≤ a ∧ a < 240
    · match r with
      | [] => simp [dec, leadW3 (a : Int) (by omega)] at h
      | [_] => simp [dec, leadW3 (a : Int) (by omega)] at h
      | b :: c :: r =>
        rw [dec3 a b c r h3] at h
        split at h
        · rename_i hb
          simp only [Option.some.injEq, Prod.mk.injEq] at h
          obtain ⟨rfl, rfl⟩ := h
          refine ⟨hb.2.2.1, (width3 _ (by omega) (by omega)).symm, r, ?_⟩
          rw [encN, encL3 _ (by omega) (by omega)]
          simp only [List.map, List.cons_append, List.nil_append]
          congr 1
          · omega
          · congr 1
            · omega
            · congr 1; omega
        · cases h
    by_cases h4 : 240 ≤ a ∧ a < 248
    · match r with
      | [] => simp [dec, leadW4 (a : Int) (by omega)] at h
      | [_] => simp [dec, leadW4 (a : Int) (by omega)] at h
      | [_, _] => simp [dec, leadW4 (a : Int) (by omega)] at h
      | b :: c :: d :: r =>
        rw [dec4 a b c d r h4] at h
        split at h
        · rename_i hb
          simp only [Option.some.injEq, Prod.mk.injEq] at h
          obtain ⟨rfl, rfl⟩ := h
          refine ⟨hb.2.2.2.1, (width4 _ (by omega)).symm, r, ?_⟩
          rw [encN, encL4 _ (by omega)]
          simp only [List.map, List.cons_append, List.nil_append]
          congr 1
          · omega
          · congr 1
            · omega
            · congr 1
              · omega
              · congr 1; omega
        · cases h
    · have h0 : Qbc (a : Int) = 0 := by unfold Qbc; repeat' split <;> omega
      simp [dec, h0] at h
theorem encN_lt (m : Int) (h : right m = true) : ∀ c ∈ encN m, c < 256 := by
 rcases Qky m h with h | h | h | h
 ·rw [encN, encL1 m h.2]; intro c hc; simp at hc; omega
 ·rw [encN, encL2 m h.1 h.2]; intro c hc; simp at hc; omega
 ·rw [encN, encL3 m h.1 h.2]; intro c hc; simp at hc; omega
 ·rw [encN, encL4 m h.1]; intro c hc; simp at hc; omega
theorem Qgn (m : Int) (h : right m = true) : ((encN m).length : Int) = Qbi m := by
 rcases Qky m h with h | h | h | h
 ·rw [encN, encL1 m h.2, width1 m h.2]; rfl
 ·rw [encN, encL2 m h.1 h.2, width2 m h.1 h.2]; rfl
 ·rw [encN, encL3 m h.1 h.2, width3 m h.1 h.2]; rfl
 ·rw [encN, encL4 m h.1, width4 m h.1]; rfl
theorem width_le (m : Int) : 1 ≤ Qbi m ∧ Qbi m ≤ 4 := by unfold Qbi; repeat' split <;> omega
theorem nats_of (l : List Int) (h : ∀ c ∈ l.map Int.toNat, c < 256) : nats (strOfNums l) = l.map Int.toNat := by
 rw [nats, strOfNums_data, List.map_map]
 refine List.map_congr_left fun c hc => ?_
 have := h c.toNat (List.mem_map.2 ⟨c, hc, rfl⟩)
 simp; omega
theorem nats_enc (m : Int) (h : right m = true) : nats (enc m) = encN m := nats_of _ (encN_lt m h)
theorem nats_inj {a b : ByteArray} (h : nats a = nats b) : a = b := by
 refine ByteArray.ext (Array.toList_inj.mp ?_)
 exact (List.map_inj_right (fun x y h => UInt8.toNat_inj.1 h)).1 h
theorem Qnh (s : ByteArray) (n k : Nat) : nats (s.extract n (n + k)) = ((nats s).drop n).take k := by
 unfold nats
 rw [← List.map_drop, ← List.map_take]
 congr 1
 rw [ByteArray.data_extract, Array.toList_extract, List.extract_eq_take_drop, Nat.add_sub_cancel_left]
theorem Qkq (s : ByteArray) (n : Nat) (h : n < s.size) : Qch s n = dec ((nats s).drop n) := by
 unfold Qch; rw [if_pos ⟨by omega, by omega⟩]; rfl
theorem number_some (s : ByteArray) (n w : Nat) (h : 1 ≤ w) (_hw : w ≤ 4) (hl : n + w ≤ s.size) (h0 : 0 ≤ Qas (s.extract n (n + w))) : Qch s n = some (Qas (s.extract n (n + w)), (w : Int)) := by
 have hsz : (s.extract n (n + w)).size = w := by rw [ByteArray.size_extract]; omega
 by_cases h1 : Qce (s.extract n (n + w)) < 0
 ·rw [Qas, if_pos h1] at h0; omega
 rw [Qas, if_neg h1] at h0 ⊢
 split at h0
 ·rename_i hr
  rw [if_pos hr]
  obtain ⟨hr, he⟩ := hr
  generalize Qda (s.extract n (n + w)) ((s.extract n (n + w)).size - 1) = m at *
  have hn : nats (s.extract n (n + w)) = encN m := by rw [← he, nats_enc m hr]
  have hwd : (w : Int) = Qbi m := by rw [← Qgn m hr, ← hn, Qbg, hsz]
  rw [Qnh] at hn
  rw [Qkq s n (by omega), ← List.take_append_drop w ((nats s).drop n), hn, dec_enc m hr, hwd]
 ·omega
theorem number_of (s : ByteArray) (m : Int) (hr : right m = true) (h : nats s = encN m) : Qas s = m := by
 have he : enc m = s := nats_inj (by rw [nats_enc m hr, h])
 have hsz : (s.size : Int) = Qbi m := by rw [← Qbg, h, Qgn m hr]
 have hb : ∀ k, nb s k = (encN m).getD k 0 := fun k => by rw [nb, h]
 have key : Qce s ≥ 0 ∧ Qda s (s.size - 1) = m := by
  rcases Qky m hr with h | h | h | h
  ·rw [encN, encL1 m h.2] at hb
   rw [width1 m h.2] at hsz
   have e : s.size = 1 := by omega
   have := hb 0
   simp [List.getD] at this
   simp [Qda, Qce, Qfo, e, this]; omega
  ·rw [encN, encL2 m h.1 h.2] at hb
   rw [width2 m h.1 h.2] at hsz
   have e : s.size = 2 := by omega
   have b0 := hb 0
   have b1 := hb 1
   simp [List.getD] at b0 b1
   simp [Qda, Qce, Qfo, e, b0, b1]; omega
  ·rw [encN, encL3 m h.1 h.2] at hb
   rw [width3 m h.1 h.2] at hsz
   have e : s.size = 3 := by omega
   have b0 := hb 0
   have b1 := hb 1
   have b2 := hb 2
   simp [List.getD] at b0 b1 b2
   simp [Qda, Qce, Qfo, e, b0, b1, b2]; omega
  ·rw [encN, encL4 m h.1] at hb
   rw [width4 m h.1] at hsz
   have e : s.size = 4 := by omega
   have b0 := hb 0
   have b1 := hb 1
   have b2 := hb 2
   have b3 := hb 3
   simp [List.getD] at b0 b1 b2 b3
   simp [Qda, Qce, Qfo, e, b0, b1, b2, b3]; omega
 rw [Qas, if_neg (by omega), key.2, if_pos ⟨hr, he⟩]
theorem number_none (s : ByteArray) (n : Nat) (h : n < s.size) (hn : ∀ w : Nat, 1 ≤ w → w ≤ 4 → n + w ≤ s.size → Qas (s.extract n (n + w)) < 0) : Qch s n = none := by
  rw [Qkq s n h]
  cases hd : dec ((nats s).drop n) with
  | none => rfl
  | some x =>
    obtain ⟨m, w⟩ := x
    obtain ⟨hr, hw, r, hl⟩ := dec_some _ _ _ hd
    have h4 := width_le m
    have hlen := Qgn m hr
    have hle : (encN m).length ≤ s.size - n := by
      have := congrArg List.length hl
      rw [List.length_drop, Qbg, List.length_append] at this; omega
    have hx := hn (encN m).length (by omega) (by omega) (by omega)
    rw [number_of _ m hr (by rw [Qnh, hl, List.take_left])] at hx
    have := (Qfw m).1 hr
    omega
def Qeu (s : ByteArray) (i : Int) : Bool := (Qch s i).isSome
theorem Qnm (s : ByteArray) (hs : s.size ≤ maxLen) (i : Int) (w : World) :
  Calls Tryz.prog 226 #[.string s, .int .i64 i] w fun e w' => e = .returned (.tuple #[.int .i64 (Qcu s i), .int .i64 (Qcy s i), .bool (Qeu s i)]) ∧ Below w.heap.size w w' := by
 unfold maxLen at hs
 by_cases hi : 0 ≤ i ∧ i < s.size
 ·obtain ⟨n, rfl⟩ := Int.eq_ofNat_of_zero_le hi.1
  have hlt : n < s.size := by omega
  clear hi
  have hd1 : decide ((n : Int) < 0) = false := by simp
  have hd2 : decide (s.size ≤ n) = false := by simpa using hlt
  go_enter Tryz.func226, Tryz.ntmps226
  go_wp2_with fail
  go_loopw [7] (fun x wr => ∃ k : Nat, 1 ≤ k ∧ k ≤ 5 ∧ k ≤ s.size - n + 1 ∧ x = .int .i64 k ∧ Hid (∀ j : Nat, 1 ≤ j → j < k → Qas (s.extract n (n + j)) < 0) ∧ Below w.heap.size w wr) (fun x _ => (5 - intOf x).toNat)
  case atStart => exact ⟨1, Nat.le_refl _, by omega, by omega, rfl, fun j h1 h2 => by omega, Below.refl _ _⟩
  case round =>
   obtain ⟨k, hk1, hk5, hkn, rfl, hall, hbel⟩ := hrel
   by_cases hk : k ≤ 4 ∧ k ≤ s.size - n
   ·have hk4 := hk.1
    have hkl : (k : Int) ≤ s.size - n := by omega
    clear hk
    have hsz : (s.extract n (n + k)).size = k := by rw [ByteArray.size_extract]; omega
    have hsz1 := Lib.hid (show 1 ≤ (s.extract n (n+k)).size by omega)
    have hsz4 := Lib.hid (show (s.extract n (n+k)).size ≤ 4 by omega)
    clear hsz
    go_wp2_with (go_at_call 281; refine (number_any _ hsz1.out hsz4.out _).mono ?_; rintro e w' ⟨rfl, hb2⟩)
    ·have h0 : 0 ≤ Qas (s.extract n (n + k)) := by assumption
     have hS := number_some s n k hk1 hk4 (by omega) h0
     go_ret3
     exact ⟨Qls (by simp only [Qcu, hS]) (by simp only [Qcy, hS]) (by simp only [Qeu, hS]; rfl), hbel.trans (hb2.mono hbel.size)⟩
    ·have hneg : Qas (s.extract n (n + k)) < 0 := by assumption
     have hall2 : Hid (∀ j : Nat, 1 ≤ j → j < k + 1 → Qas (s.extract n (n + j)) < 0) := by
      intro j h1 h2
      by_cases e : j = k
      ·rw [e]; exact hneg
      ·exact hall.out j h1 (by omega)
     go_roundw
     case rel => exact ⟨k + 1, by omega, by omega, by omega, by go_num, hall2, hbel.trans (hb2.mono hbel.size)⟩
     case measure => simp [intOf]; omega
   ·have hN : Qch s n = none := by
     refine number_none s n hlt fun j h1 h4 hj => hall.out j h1 ?_
     omega
    have fin : Hid (Qcu s n = 0 ∧ Qcy s n = 0 ∧ Qeu s n = false) := by
     simp only [Hid, Qcu, Qcy, Qeu, hN]; exact ⟨trivial, trivial, rfl⟩
    clear hN
    by_cases hk4 : k ≤ 4
    ·have hkl : ¬ (k : Int) ≤ s.size - n := by omega
     clear hk
     go_wp2_with fail
     go_ret3
     exact ⟨Qls fin.out.1.symm fin.out.2.1.symm fin.out.2.2.symm, hbel⟩
    ·clear hk
     go_wp2_with fail
     go_ret3
     exact ⟨Qls fin.out.1.symm fin.out.2.1.symm fin.out.2.2.symm, hbel⟩
 ·have hN : Qch s i = none := by unfold Qch; rw [if_neg hi]
  have fin : Hid (Qcu s i = 0 ∧ Qcy s i = 0 ∧ Qeu s i = false) := by
    simp only [Hid, Qcu, Qcy, Qeu, hN]; exact ⟨trivial, trivial, rfl⟩
  clear hN
  by_cases h0 : i < 0
  ·go_enter Tryz.func226, Tryz.ntmps226
   go_wp2
   go_ret3
   exact ⟨Qls fin.out.1.symm fin.out.2.1.symm fin.out.2.2.symm, Below.refl _ _⟩
  ·have h1 : (s.size : Int) ≤ i := by omega
   clear hi
   go_enter Tryz.func226, Tryz.ntmps226
   go_wp2
   go_ret3
   exact ⟨Qls fin.out.1.symm fin.out.2.1.symm fin.out.2.2.symm, Below.refl _ _⟩
def allF (s : ByteArray) : Nat → Nat → List Int × Nat × Bool
 | 0, k => ([], k, true)
 | f + 1, k => if k < s.size then (match Qch s k with
   | some x => (x.1 :: (allF s f (k + x.2.toNat)).1, (allF s f (k + x.2.toNat)).2)
   | none => ([], k, false)) else ([], k, true)
def addP (l : List Int) (r : List Int × Nat × Bool) : List Int × Nat × Bool := (l ++ r.1, r.2)
def allA (s : ByteArray) : List Int × Nat × Bool := allF s s.size 0
def allS (s : ByteArray) : List Int := if 65535 < s.size then [] else if (allA s).2.2 = true then (allA s).1 else []
def Qfd (s : ByteArray) : Int := if 65535 < s.size then 0 else if (allA s).2.2 = true then s.size else (allA s).2.1
def allE (s : ByteArray) : Int := if 65535 < s.size then 2 else if (allA s).2.2 = true then 0 else 1
theorem allF_end (s : ByteArray) (f k : Nat) (h : s.size ≤ k) : allF s f k = ([], k, true) := by
 cases f with
 | zero => rfl
 | succ f => rw [allF, if_neg (by omega)]
theorem allF_none (s : ByteArray) (f k : Nat) (h : k < s.size) (hf : s.size ≤ k + f) (hd : Qch s k = none) : allF s f k = ([], k, false) := by
 cases f with
 | zero => omega
 | succ f => rw [allF, if_pos h, hd]
theorem allF_some (s : ByteArray) (f k : Nat) (x : Int × Int) (l : List Int) (h : k < s.size) (hf : s.size ≤ k + f) (hd : Qch s k = some x) (hw : 1 ≤ x.2) : ∃ f', s.size ≤ k + x.2.toNat + f' ∧ addP l (allF s f k) = addP (l ++ [x.1]) (allF s f' (k + x.2.toNat)) := by
  cases f with
  | zero => omega
  | succ f =>
    refine ⟨f, by omega, ?_⟩
    rw [allF, if_pos h, hd]
    simp [addP]
theorem decAt_bd (s : ByteArray) (k : Nat) (h : k < s.size) (x : Int × Int) (hd : Qch s k = some x) : 1 ≤ x.2 ∧ x.2 ≤ 4 ∧ (k : Int) + x.2 ≤ s.size := by
 rw [Qkq s k h] at hd
 obtain ⟨hr, hw, r, hl⟩ := dec_some _ _ _ hd
 have h4 := width_le x.1
 have hlen := Qgn x.1 hr
 have := congrArg List.length hl
 rw [List.length_drop, Qbg, List.length_append] at this
 omega
theorem info3 : (Tryz.prog.info? 3).map (fun i => (i.zero, i.size, i.bytes)) = some (some (.int .i64 0), 1, 8) := by kernel_rfl
theorem all_any (s : ByteArray) (hs : s.size ≤ maxLen) (w : World) :
    Calls Tryz.prog 218 #[.string s] w fun e w' => ∃ v, e = .returned (.tuple #[v, .int .i64 (Qfd s), .int .i64 (allE s)]) ∧ w'.ownsRow w.heap.size 3 1 v (allS s).length ((allS s).map (Value.int .i64)) ∧ Below w.heap.size w w' := by
  have hs0 := hs
  unfold maxLen at hs
  obtain ⟨i0, hi, hz0, hz1, hz2⟩ := info_parts info3
  by_cases hlong : 65535 < s.size
  · have e1 : allS s = [] := if_pos hlong
    have e2 : Qfd s = 0 := if_pos hlong
    have e3 : allE s = 2 := if_pos hlong
    rw [e1, e2, e3]
    go_enter Tryz.func218, Tryz.ntmps218
    go_wp2_with fail
    go_ret3
    exact ⟨_, rfl, World.ownsRow_nil _ _ _ _, Below.refl _ _⟩
  · have hshort : s.size ≤ 65535 := by omega
    have E1 := Lib.hid (show allS s = if (allA s).2.2 = true then (allA s).1 else [] from if_neg hlong)
    have E2 := Lib.hid (show Qfd s = if (allA s).2.2 = true then (s.size : Int) else (allA s).2.1 from if_neg hlong)
    have E3 := Lib.hid (show allE s = if (allA s).2.2 = true then 0 else 1 from if_neg hlong)
    clear hlong
    go_enter Tryz.func218, Tryz.ntmps218
    go_wp2_with fail
    go_loopw [5, 6] (fun v i wr => ∃ k : Nat, k ≤ s.size ∧ i = .int .i64 k ∧ (∃ l : List Int, l.length ≤ k ∧ Hid (∃ f, s.size ≤ k + f ∧ addP l (allF s f k) = allA s) ∧ wr.ownsRow w.heap.size 3 1 v l.length (l.map (Value.int .i64))) ∧ Below w.heap.size w wr)
      (fun _ i _ => s.size - (intOf i).toNat)
    case atStart => exact ⟨0, Nat.zero_le _, rfl, ⟨[], Nat.le_refl _, ⟨s.size, by omega, rfl⟩, World.ownsRow_nil _ _ _ _⟩, Below.refl _ _⟩
    case round =>
      obtain ⟨k, hk, rfl, ⟨l, hlk, HF, hown⟩, hbel⟩ := hrel
      by_cases hlt : k < s.size
      · cases hd : Qch s k with
        | none =>
          have n3 : Qfm s k = 1 := by simp only [Qfm, hd]
          have HN := Lib.hid (show allA s = (l, k, false) by
            obtain ⟨f, hf, hp⟩ := HF.out
            rw [← hp, allF_none s f k hlt hf hd]; simp [addP])
          clear hd
          go_wp2_with fail
          refine (next_any s hs0 _ _).mono ?_
          rintro e w' ⟨rfl, rfl⟩
          go_wp2_with fail
          go_ret3
          have hA := HN.out
          have x1 : allS s = [] := by rw [E1.out, hA]; rfl
          have x2 : Qfd s = k := by rw [E2.out, hA]; rfl
          have x3 : allE s = 1 := by rw [E3.out, hA]; rfl
          rw [x1, x2, x3]
          exact ⟨_, rfl, World.ownsRow_nil _ _ _ _, hbel⟩
        | some x =>
          have n1 : Qcu s k = x.1 := by simp only [Qcu, hd]
          have n2 : Qcy s k = x.2 := by simp only [Qcy, hd]
          have n3 : Qfm s k = 0 := by simp only [Qfm, hd]
          have hbd := decAt_bd s k hlt x hd
          have HF2 := Lib.hid (show ∃ f, s.size ≤ k + x.2.toNat + f ∧ addP (l ++ [x.1]) (allF s f (k + x.2.toNat)) = allA s by
            obtain ⟨f, hf, hp⟩ := HF.out
            obtain ⟨f', hf', hp'⟩ := allF_some s f k x l hlt hf hd hbd.1
            exact ⟨f', hf', hp'.symm.trans hp⟩)
          have hx1 := hbd.1
          have hx2 := hbd.2.1
          have hx3 := hbd.2.2
          clear hd HF hbd
          generalize x.1 = n at *
          generalize x.2 = wd at *
          go_wp2_with fail
          refine (next_any s hs0 _ _).mono ?_
          rintro e w' ⟨rfl, rfl⟩
          have hown2 := hown
          have hbel2 := hbel
          go_wp2_with (at_builtin; refine Qny [.int .i64 n] rfl _ _ 38 rfl w.heap.size 3 i0 (.int .i64 0) 1 8 Tryz.underlying38 hi hz0 hz1 hz2 rfl (by decide) _ _ _ hown2 rfl rfl rfl (by intro u hu; simp at hu; subst hu; rfl) (by unfold maxLen; omega) (by omega) hbel2.size ?_)
          intro v' w1 hown' hb1'
          have hb1 := hbel2.trans hb1'
          have hown1 : w1.ownsRow w.heap.size 3 1 v' (l ++ [n]).length ((l ++ [n]).map (Value.int .i64)) := by
            rw [List.map_append, List.length_append]; exact hown'
          have hl2 : (l ++ [n]).length ≤ k + wd.toNat := by simp; omega
          clear hown' hb1' hown hbel hown2 hbel2
          go_wp2_with fail
          go_roundw
          case rel => exact ⟨k + wd.toNat, by omega, by rw [Int.natCast_add, Int.toNat_of_nonneg (by omega)], ⟨l ++ [n], hl2, HF2, hown1⟩, hb1⟩
          case measure => simp [intOf]; omega
      · have HN := Lib.hid (show allA s = (l, k, true) by
          obtain ⟨f, hf, hp⟩ := HF.out
          rw [← hp, allF_end s f k (by omega)]; simp [addP])
        go_wp2_with fail
        go_ret3
        have hA := HN.out
        have x1 : allS s = l := by rw [E1.out, hA]; rfl
        have x2 : Qfd s = s.size := by rw [E2.out, hA]; rfl
        have x3 : allE s = 0 := by rw [E3.out, hA]; rfl
        rw [x1, x2, x3]
        exact ⟨_, rfl, hown, hbel⟩
theorem rall_any (s : ByteArray) (hs : s.size ≤ maxLen) (w : World) :
    Calls Tryz.prog 176 #[.string s] w fun e w' => ∃ v, e = .returned (.tuple #[v, .int .i64 (Qfd s), .int .i64 (allE s)]) ∧ w'.ownsRow w.heap.size 3 1 v (allS s).length ((allS s).map (Value.int .i64)) ∧ Below w.heap.size w w' := by
  have hs0 := hs
  unfold maxLen at hs
  obtain ⟨i0, hi, hz0, hz1, hz2⟩ := info_parts info3
  by_cases hlong : 65535 < s.size
  · have e1 : allS s = [] := if_pos hlong
    have e2 : Qfd s = 0 := if_pos hlong
    have e3 : allE s = 2 := if_pos hlong
    rw [e1, e2, e3]
    go_enter Tryz.func176, Tryz.ntmps176
    go_wp2_with fail
    go_ret3
    exact ⟨_, rfl, World.ownsRow_nil _ _ _ _, Below.refl _ _⟩
  · have hshort : s.size ≤ 65535 := by omega
    have E1 := Lib.hid (show allS s = if (allA s).2.2 = true then (allA s).1 else [] from if_neg hlong)
    have E2 := Lib.hid (show Qfd s = if (allA s).2.2 = true then (s.size : Int) else (allA s).2.1 from if_neg hlong)
    have E3 := Lib.hid (show allE s = if (allA s).2.2 = true then 0 else 1 from if_neg hlong)
    clear hlong
    go_enter Tryz.func176, Tryz.ntmps176
    go_wp2_with fail
    go_loopw [5, 6] (fun v i wr => ∃ k : Nat, k ≤ s.size ∧ i = .int .i64 k ∧ (∃ l : List Int, l.length ≤ k ∧ Hid (∃ f, s.size ≤ k + f ∧ addP l (allF s f k) = allA s) ∧ wr.ownsRow w.heap.size 3 1 v l.length (l.map (Value.int .i64))) ∧ Below w.heap.size w wr)
      (fun _ i _ => s.size - (intOf i).toNat)
    case atStart => exact ⟨0, Nat.zero_le _, rfl, ⟨[], Nat.le_refl _, ⟨s.size, by omega, rfl⟩, World.ownsRow_made w #[] 0 (Nat.le_refl _) (Nat.zero_le _) rfl⟩, (Below.refl _ _).alloc (Nat.le_refl _) _⟩
    case round =>
      obtain ⟨k, hk, rfl, ⟨l, hlk, HF, hown⟩, hbel⟩ := hrel
      by_cases hlt : k < s.size
      · cases hd : Qch s k with
        | none =>
          have n3 : Qeu s k = false := by simp only [Qeu, hd]; rfl
          have HN := Lib.hid (show allA s = (l, k, false) by
            obtain ⟨f, hf, hp⟩ := HF.out
            rw [← hp, allF_none s f k hlt hf hd]; simp [addP])
          clear hd
          go_wp2_with fail
          refine (Qnm s hs0 _ _).mono ?_
          rintro e w' ⟨rfl, hb2⟩
          go_wp2_with fail
          go_ret3
          have hA := HN.out
          have x1 : allS s = [] := by rw [E1.out, hA]; rfl
          have x2 : Qfd s = k := by rw [E2.out, hA]; rfl
          have x3 : allE s = 1 := by rw [E3.out, hA]; rfl
          rw [x1, x2, x3]
          exact ⟨_, rfl, World.ownsRow_nil _ _ _ _, hbel.trans (hb2.mono hbel.size)⟩
        | some x =>
          have n1 : Qcu s k = x.1 := by simp only [Qcu, hd]
          have n2 : Qcy s k = x.2 := by simp only [Qcy, hd]
          have n3 : Qeu s k = true := by simp only [Qeu, hd]; rfl
          have hbd := decAt_bd s k hlt x hd
          have HF2 := Lib.hid (show ∃ f, s.size ≤ k + x.2.toNat + f ∧ addP (l ++ [x.1]) (allF s f (k + x.2.toNat)) = allA s by
            obtain ⟨f, hf, hp⟩ := HF.out
            obtain ⟨f', hf', hp'⟩ := allF_some s f k x l hlt hf hd hbd.1
            exact ⟨f', hf', hp'.symm.trans hp⟩)
          have hx1 := hbd.1
          have hx2 := hbd.2.1
          have hx3 := hbd.2.2
          clear hd HF hbd
          generalize x.1 = n at *
          generalize x.2 = wd at *
          go_wp2_with fail
          refine (Qnm s hs0 _ _).mono ?_
          rintro e w' ⟨rfl, hb2⟩
          have hown2 := own_later hown hb2
          have hbel2 := hbel.trans (hb2.mono hbel.size)
          go_wp2_with (at_builtin; refine Qny [.int .i64 n] rfl _ _ 38 rfl w.heap.size 3 i0 (.int .i64 0) 1 8 Tryz.underlying38 hi hz0 hz1 hz2 rfl (by decide) _ _ _ hown2 rfl rfl rfl (by intro u hu; simp at hu; subst hu; rfl) (by unfold maxLen; omega) (by omega) hbel2.size ?_)
          intro v' w1 hown' hb1'
          have hb1 := hbel2.trans hb1'
          have hown1 : w1.ownsRow w.heap.size 3 1 v' (l ++ [n]).length ((l ++ [n]).map (Value.int .i64)) := by
            rw [List.map_append, List.length_append]; exact hown'
          have hl2 : (l ++ [n]).length ≤ k + wd.toNat := by simp; omega
          clear hown' hb1' hown hbel hown2 hbel2
          go_wp2_with fail
          go_roundw
          case rel => exact ⟨k + wd.toNat, by omega, by rw [Int.natCast_add, Int.toNat_of_nonneg (by omega)], ⟨l ++ [n], hl2, HF2, hown1⟩, hb1⟩
          case measure => simp [intOf]; omega
      · have HN := Lib.hid (show allA s = (l, k, true) by
          obtain ⟨f, hf, hp⟩ := HF.out
          rw [← hp, allF_end s f k (by omega)]; simp [addP])
        go_wp2_with fail
        go_ret3
        have hA := HN.out
        have x1 : allS s = l := by rw [E1.out, hA]; rfl
        have x2 : Qfd s = s.size := by rw [E2.out, hA]; rfl
        have x3 : allE s = 0 := by rw [E3.out, hA]; rfl
        rw [x1, x2, x3]
        exact ⟨_, rfl, hown, hbel⟩
def Qcg (l : List Int) : List Int := l.flatMap encL
def Qfe (l : List Int) : Int := if l.all right = true then (if 65535 < (Qcg l).length then 2 else 0) else 16
def Qay (l : List Int) : ByteArray := if Qfe l = 0 then strOfNums (Qcg l) else ByteArray.empty
theorem strCells_enc (n : Int) (h : right n = true) : Lib.strCells (enc n) = (encL n).map (Value.int .u8) := by
 have h2 := nats_enc n h
 unfold nats encN at h2
 have h3 : Lib.strCells (enc n) = ((enc n).data.toList.map UInt8.toNat).map (fun c : Nat => Value.int .u8 (c : Int)) := by
  simp [Lib.strCells]
 rw [h3, h2, List.map_map]
 refine List.map_congr_left fun c hc => ?_
 have : 0 ≤ c := by
  rcases Qky n h with h | h | h | h
  ·rw [encL1 n h.2] at hc; simp at hc; omega
  ·rw [encL2 n h.1 h.2] at hc; simp at hc; omega
  ·rw [encL3 n h.1 h.2] at hc; simp at hc; omega
  ·rw [encL4 n h.1] at hc; simp at hc; omega
 show Value.int .u8 ((c.toNat : Nat) : Int) = Value.int .u8 c
 rw [Int.toNat_of_nonneg this]
theorem Qkr (n : Int) : (enc n).size = (encL n).length := strOfNums_size _
theorem Qjz (l : List Int) (k : Nat) (h : k < l.length) : Qcg (l.take (k + 1)) = Qcg (l.take k) ++ encL l[k] := by
 unfold Qcg; rw [List.take_succ_eq_append_getElem h]; simp only [List.flatMap_append, List.flatMap_cons, List.flatMap_nil, List.append_nil]
theorem joinB_le (l : List Int) (k : Nat) : (Qcg (l.take k)).length ≤ (Qcg l).length := by
 have : Qcg l = Qcg (l.take k) ++ Qcg (l.drop k) := by unfold Qcg; rw [← List.flatMap_append, List.take_append_drop]
 rw [this, List.length_append]; omega
theorem encL_len (n : Int) : 1 ≤ (encL n).length ∧ (encL n).length ≤ 4 := by
 unfold encL; constructor <;> (repeat' split) <;> simp
theorem slc_cell {w w' : World} {xs : List Int} {k : IntKind} {b off : Nat} (h : ∀ i, i < xs.length → w.cell? ⟨b, off + i, none⟩ = (xs.map (Value.int k))[i]?) (hb : Below w.heap.size w w') (i : Nat) (hi : i < xs.length) :
  w'.cell? ⟨b, off + i, none⟩ = some (.int k xs[i]) := by
 have := h i hi
 rw [List.getElem?_map, List.getElem?_eq_getElem hi] at this
 rw [hb.cell (World.block_lt_of_cell? w _ this), this]; rfl
theorem ne_map {xs : List Int} {k : IntKind} {i : Nat} (h : i < xs.length) : xs.map (Value.int k) ≠ [] := by
 intro e; rw [List.map_eq_nil_iff] at e; rw [e] at h; simp at h
theorem join_any (l : List Int) (v : Value) (w : World) (hv : Slc w v (l.map (Value.int .i64))) :
  Calls Tryz.prog 298 #[v] w fun e w' => e = .returned (.tuple #[.string (Qay l), .int .i64 (Qfe l)]) ∧ Below w.heap.size w w' := by
 obtain ⟨i0, hi, hz0, hz1, hz2⟩ := info_parts info5
 obtain ⟨a, cap, rfl, hm, hc⟩ := hv
 have HC := Lib.hid hc; clear hc
 simp only [List.length_map] at *
 unfold maxLen at hm
 go_enter Tryz.func298, Tryz.ntmps298
 go_wp2_with fail
 go_loop [13] (fun i => ∃ k : Nat, k ≤ l.length ∧ i = .int .i64 k ∧ Hid ((l.take k).all right = true)) (fun i => l.length - (intOf i).toNat)
 case atStart => exact ⟨0, Nat.zero_le _, rfl, rfl⟩
 case round =>
  obtain ⟨k, hk, rfl, hall⟩ := hrel
  by_cases hlt : k < l.length
  ·obtain ⟨b, off, rfl, hcell⟩ := HC.out (ne_map hlt)
   have c1 := slc_cell hcell (Below.refl _ _) k hlt
   clear hcell
   by_cases hr : right l[k] = true
   ·go_wp2_with (go_at_call 286; refine (Qec _ _).mono ?_; rintro e w' ⟨rfl, rfl⟩)
    go_round
    case rel => exact ⟨k + 1, by omega, by go_num, by show (l.take (k+1)).all right = true; rw [List.take_succ_eq_append_getElem hlt, List.all_append, hall.out]; simp [hr]⟩
    case measure => simp [intOf]; omega
   ·have hr' : right l[k] = false := by simpa using hr
    have hE : Qfe l = 16 := by
     unfold Qfe
     rw [if_neg]
     intro h
     exact hr (List.all_eq_true.1 h _ (List.getElem_mem hlt))
    have hS : Qay l = ByteArray.empty := by unfold Qay; rw [if_neg (by rw [hE]; decide)]
    have fin := Lib.hid (And.intro hS hE)
    clear hr hE hS
    go_wp2_with (go_at_call 286; refine (Qec _ _).mono ?_; rintro e w' ⟨rfl, rfl⟩)
    go_ret2
    exact ⟨Qgd fin.out.1.symm fin.out.2.symm, Below.refl _ _⟩
  ·have hA := Lib.hid (show l.all right = true by have := hall.out; rwa [List.take_of_length_le (by omega)] at this)
   clear hall
   go_wp2_with fail
   go_loopw [6, 23] (fun bv i wr => ∃ k : Nat, k ≤ l.length ∧ i = .int .i64 k ∧ (Qcg (l.take k)).length ≤ 65535 ∧ wr.ownsRow w.heap.size 5 1 bv (Qcg (l.take k)).length ((Qcg (l.take k)).map (Value.int .u8)) ∧ Below w.heap.size w wr) (fun _ i _ => l.length - (intOf i).toNat)
   case atStart => exact ⟨0, Nat.zero_le _, rfl, Nat.zero_le _, World.ownsRow_nil _ _ _ _, Below.refl _ _⟩
   case round =>
    obtain ⟨j, hj, rfl, hlen, hown, hbel⟩ := hrel
    by_cases hjl : j < l.length
    ·obtain ⟨b, off, rfl, hcell⟩ := HC.out (ne_map hjl)
     have c1 := slc_cell hcell hbel j hjl
     clear hcell
     have hr : right l[j] = true := List.all_eq_true.1 hA.out _ (List.getElem_mem hjl)
     have e1 : putS l[j] = enc l[j] := if_pos hr
     have HR := Lib.hid hr; clear hr
     have hes := Qkr l[j]
     have hel := encL_len l[j]
     obtain ⟨aB, capB, hB, _⟩ := Slc.own hown
     simp only [List.length_map] at hB
     subst hB
     go_wp2_with fail
     refine (put_any _ _).mono ?_
     rintro e w' ⟨rfl, hb2⟩
     have hown2 := own_later hown hb2
     have hbel2 := hbel.trans (hb2.mono hbel.size)
     by_cases hbig : 65535 < (Qcg (l.take j)).length + (encL l[j]).length
     ·have hE : Qfe l = 2 := by
       have h1 := Qjz l j hjl
       have h2 := joinB_le l (j + 1)
       rw [h1, List.length_append] at h2
       unfold Qfe; rw [if_pos hA.out, if_pos (by omega)]
      have hS : Qay l = ByteArray.empty := by unfold Qay; rw [if_neg (by rw [hE]; decide)]
      have fin := Lib.hid (And.intro hS hE)
      clear hE hS
      go_wp2_with fail
      go_ret2
      exact ⟨Qgd fin.out.1.symm fin.out.2.symm, hbel2⟩
     ·have hb3 : (Qcg (l.take j)).length + (encL l[j]).length ≤ 65535 := by omega
      clear hbig
      go_wp2_with (at_builtin; refine Lib.wpList_append_own_string _ rfl _ _ 276 9 rfl w.heap.size 5 i0 Tryz.underlying276 Tryz.underlying9 hi hz0 hz1 hz2 _ _ _ rfl hown2 (enc l[j]) rfl (by unfold maxLen; omega) (by omega) hbel2.size ?_)
      intro v' w1 hown' hgrow _
      have hb1 : Below w.heap.size w w1 := hbel2.grown hgrow hbel2.size (fun k hk => (hown2.lt k hk).1)
      have hown1 : w1.ownsRow w.heap.size 5 1 v' (Qcg (l.take (j+1))).length ((Qcg (l.take (j+1))).map (Value.int .u8)) := by
       rw [Qjz l j hjl, List.map_append, ← strCells_enc _ HR.out, List.length_append]; exact hown'
      have hlen1 : (Qcg (l.take (j+1))).length ≤ 65535 := by rw [Qjz l j hjl, List.length_append]; exact hb3
      clear hown' hgrow hown hown2 hbel hbel2
      go_wp2_with fail
      go_roundw
      case rel => exact ⟨j + 1, by omega, by go_num, hlen1, hown1, hb1⟩
      case measure => simp [intOf]; omega
    ·rw [List.take_of_length_le (by omega)] at hlen hown
     have hE : Qfe l = 0 := by unfold Qfe; rw [if_pos hA.out, if_neg (by omega)]
     have hS : Qay l = strOfNums (Qcg l) := if_pos hE
     have fin := Lib.hid (And.intro hS hE)
     clear hE hS
     have hcv := cv_own hown
     clear hown
     go_wp2_with fail
     go_ret2
     exact ⟨Qgd fin.out.1.symm fin.out.2.symm, hbel⟩
def Qca (l : List Int) : List Nat := l.flatMap encN
theorem joinN_eq (l : List Int) : Qca l = (Qcg l).map Int.toNat := by
 unfold Qca Qcg encN; rw [List.map_flatMap]
theorem joinN_lt (l : List Int) (h : l.all right = true) : ∀ c ∈ Qca l, c < 256 := by
 intro c hc
 obtain ⟨n, hn, hcn⟩ := List.mem_flatMap.1 hc
 exact encN_lt n (List.all_eq_true.1 h n hn) c hcn
theorem Qni (l : List Int) (h : l.all right = true) : nats (strOfNums (Qcg l)) = Qca l := by
 rw [joinN_eq]; exact nats_of _ (by rw [← joinN_eq]; exact joinN_lt l h)
theorem Qim (l : List Int) : (Qca l).length = (Qcg l).length := by rw [joinN_eq, List.length_map]
theorem all_signs (s : ByteArray) : ∀ (f k : Nat), k ≤ s.size → s.size ≤ k + f → (allF s f k).2.2 = true → (allF s f k).1.all right = true ∧ (nats s).drop k = Qca (allF s f k).1 := by
  intro f
  induction f with
  | zero =>
    intro k hk hf _
    rw [allF]
    exact ⟨rfl, by rw [List.drop_of_length_le (by rw [Qbg]; omega)]; rfl⟩
  | succ f ih =>
    intro k hk hf h
    by_cases hlt : k < s.size
    · rw [allF, if_pos hlt] at h ⊢
      cases hd : Qch s k with
      | none => rw [hd] at h; simp at h
      | some x =>
        rw [hd] at h
        have hbd := decAt_bd s k hlt x hd
        have h2 := hd
        rw [Qkq s k hlt] at h2
        obtain ⟨hr, hw, r, hl⟩ := dec_some _ _ _ h2
        obtain ⟨h3, h4⟩ := ih (k + x.2.toNat) (by omega) (by omega) h
        refine ⟨by simp only [List.all_cons, hr, h3]; rfl, ?_⟩
        have hlen := Qgn x.1 hr
        have he : (encN x.1).length = x.2.toNat := by omega
        show (nats s).drop k = encN x.1 ++ Qca _
        rw [← h4, hl, ← List.drop_drop, hl, ← he, List.drop_left]
    · rw [allF_end s _ k (by omega)]
      exact ⟨rfl, by rw [List.drop_of_length_le (by rw [Qbg]; omega)]; rfl⟩
theorem Qjk (s : ByteArray) (h : allE s = 0) : Qfe (allS s) = 0 ∧ Qay (allS s) = s := by
 unfold allE at h
 by_cases hl : 65535 < s.size
 ·rw [if_pos hl] at h; omega
 rw [if_neg hl] at h
 by_cases hb : (allA s).2.2 = true
 ·have hS : allS s = (allA s).1 := by unfold allS; rw [if_neg hl, if_pos hb]
  obtain ⟨hr, hn⟩ := all_signs s s.size 0 (Nat.zero_le _) (by omega) hb
  rw [← show allA s = allF s s.size 0 from rfl, ← hS] at hr hn
  have hlen : (Qcg (allS s)).length = s.size := by rw [← Qim, ← hn, List.length_drop, Qbg]; omega
  have hE : Qfe (allS s) = 0 := by unfold Qfe; rw [if_pos hr, if_neg (by omega)]
  refine ⟨hE, ?_⟩
  unfold Qay; rw [if_pos hE]
  refine nats_inj ?_
  rw [Qni _ hr, ← hn]; rfl
 ·rw [if_neg hb] at h; omega
end Go.Proofs.YtdklpbefbamchaaGreat
