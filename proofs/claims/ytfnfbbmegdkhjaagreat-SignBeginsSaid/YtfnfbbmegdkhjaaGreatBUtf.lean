import Derived.WalkKit
import Derived.Laws.BitsAllLaws
import Derived.Test.YtfnfbbmegdkhjaaGreatRows
import Derived.Test.YtfnfbbmegdkhjaaGreatBK
import Derived.WalkSpells
import Derived.Lib.Hide
import Derived.WalkLawsBesides
import Derived.Laws.Bits128
import Derived.Laws.BytesArg
import Derived.Handy
import Derived.Deep.LoopGhost
import Derived.Lib.AppendStr
import Derived.Lib.ConvBytes
set_option linter.unusedSimpArgs false
set_option linter.unusedVariables false
namespace Go.Proofs.YtfnfbbmegdkhjaaGreat
open Go.RowKit
/-- a sign -/
def right (n : Int) : Bool := decide (0 ≤ n ∧ n ≤ 1114111 ∧ (n < 55296 ∨ 57343 < n))
def width (n : Int) : Int := if n < 128 then 1 else if n < 2048 then 2 else if n < 65536 then 3 else 4
def leadW (c : Int) : Int := if c < 128 then 1 else if 192 ≤ c ∧ c < 224 then 2 else if 224 ≤ c ∧ c < 240 then 3 else if 240 ≤ c ∧ c < 248 then 4 else 0
def leadB (c : Int) : Int := if c < 128 then c else if 192 ≤ c ∧ c < 224 then c % 32 else if 224 ≤ c ∧ c < 240 then c % 16 else if 240 ≤ c ∧ c < 248 then c % 8 else 0
/-- a text's bytes as numbers -/
def nats (s : ByteArray) : List Nat := s.data.toList.map UInt8.toNat
def nb (s : ByteArray) (i : Nat) : Nat := (nats s).getD i 0
theorem nats_length (s : ByteArray) : (nats s).length = s.size := by simp [nats]
theorem nb_lt (s : ByteArray) (i : Nat) : nb s i < 256 := by
  unfold nb nats
  rw [List.getD_eq_getElem?_getD, List.getElem?_map]
  cases s.data.toList[i]? with
  | none => simp
  | some x => simpa using x.toNat_lt
theorem nb_eq (s : ByteArray) (i : Nat) (h : i < s.size) : s[i].toNat = nb s i := by
  unfold nb nats
  rw [List.getD_eq_getElem?_getD, List.getElem?_map, List.getElem?_eq_getElem (by simpa using h)]; rfl
/-- what so many bytes behind the first one add -/
def accs (n : Int) (l : List Nat) : Int := l.foldl (fun n c => n * 64 + (c % 64 : Nat)) n
def conts (l : List Nat) : Bool := l.all (fun c => c / 64 == 2)
/-- the sign at a list's beginning, and its width -/
def dec : List Nat → Option (Int × Int)
  | [] => none
  | c :: r =>
    if leadW c = 0 ∨ (r.length : Int) + 1 < leadW c then none else
    if conts (r.take (leadW c - 1).toNat) = true ∧ right (accs (leadB c) (r.take (leadW c - 1).toNat)) = true ∧ width (accs (leadB c) (r.take (leadW c - 1).toNat)) = leadW c
    then some (accs (leadB c) (r.take (leadW c - 1).toNat), leadW c) else none
/-- the sign at a place -/
def decAt (s : ByteArray) (i : Int) : Option (Int × Int) := if 0 ≤ i ∧ i < s.size then dec ((nats s).drop i.toNat) else none
def nextN (s : ByteArray) (i : Int) : Int := match decAt s i with | some x => x.1 | none => 0
def nextW (s : ByteArray) (i : Int) : Int := match decAt s i with | some x => x.2 | none => 0
def nextE (s : ByteArray) (i : Int) : Int := match decAt s i with | some _ => 0 | none => 1

theorem leadW_le (c : Int) : 0 ≤ leadW c ∧ leadW c ≤ 4 := by unfold leadW; repeat' split <;> omega
theorem leadB_le (c : Int) (h : 0 ≤ c) : 0 ≤ leadB c ∧ leadB c ≤ 127 := by unfold leadB; repeat' split <;> omega

/-- the tail behind the first byte -/
def tl (s : ByteArray) (n : Nat) : List Nat := (nats s).drop (n + 1)
theorem drop_tl (s : ByteArray) (n : Nat) (h : n < s.size) : (nats s).drop n = nb s n :: tl s n := by
  unfold tl nb
  rw [List.getD_eq_getElem?_getD, List.getElem?_eq_getElem (by rw [nats_length]; exact h), List.drop_eq_getElem_cons (by rw [nats_length]; exact h)]; rfl
theorem tl_length (s : ByteArray) (n : Nat) : (tl s n).length = s.size - (n + 1) := by unfold tl; rw [List.length_drop, nats_length]
theorem tl_get (s : ByteArray) (n k : Nat) : (tl s n).getD k 0 = nb s (n + 1 + k) := by
  unfold tl nb; rw [List.getD_eq_getElem?_getD, List.getElem?_drop, ← List.getD_eq_getElem?_getD]
theorem take_snoc {α : Type} (l : List α) (k : Nat) (d : α) (h : k < l.length) : l.take (k + 1) = l.take k ++ [l.getD k d] := by
  rw [List.take_succ_eq_append_getElem h, List.getD_eq_getElem?_getD, List.getElem?_eq_getElem h]; rfl
theorem accs_snoc (n : Int) (l : List Nat) (c : Nat) : accs n (l ++ [c]) = accs n l * 64 + (c % 64 : Nat) := by simp [accs]
theorem conts_snoc (l : List Nat) (c : Nat) : conts (l ++ [c]) = (conts l && (c / 64 == 2)) := by simp [conts, List.all_append]
theorem accs_nonneg (l : List Nat) : ∀ n : Int, 0 ≤ n → 0 ≤ accs n l := by
  induction l with
  | nil => intro n h; exact h
  | cons c r ih => intro n h; exact ih _ (by show (0:Int) ≤ n * 64 + (c % 64 : Nat); omega)
theorem accs_lt (l : List Nat) : ∀ n : Int, n ≤ 127 → accs n l < 128 * 64 ^ l.length := by
  intro n hn
  have : ∀ (l : List Nat) (n : Int), accs n l < (n + 1) * 64 ^ l.length := by
    intro l
    induction l with
    | nil => intro n; simp [accs]; omega
    | cons c r ih =>
      intro n
      have h1 := ih (n * 64 + (c % 64 : Nat))
      have e : accs n (c :: r) = accs (n * 64 + (c % 64 : Nat)) r := rfl
      rw [e, List.length_cons, Int.pow_succ]
      refine Int.lt_of_lt_of_le h1 ?_
      have h2 : n * 64 + (c % 64 : Nat) + 1 ≤ (n + 1) * 64 := by omega
      have h3 : (0:Int) ≤ 64 ^ r.length := Int.le_of_lt (Int.pow_pos (by decide))
      calc _ ≤ ((n + 1) * 64) * 64 ^ r.length := Int.mul_le_mul_of_nonneg_right h2 h3
        _ = _ := by rw [Int.mul_assoc, Int.mul_comm 64]
  refine Int.lt_of_lt_of_le (this l n) ?_
  exact Int.mul_le_mul_of_nonneg_right (by omega) (Int.le_of_lt (Int.pow_pos (by decide)))

theorem decAt_cons (s : ByteArray) (n : Nat) (h : n < s.size) : decAt s n = dec (nb s n :: tl s n) := by
  unfold decAt; rw [if_pos ⟨by omega, by omega⟩, ← drop_tl s n h]; rfl
theorem and192 : ∀ c : Nat, c < 256 → bits BinOp.and .u8 (c : Int) 192 = ((c / 64 * 64 : Nat) : Int) := by
  decide +kernel
theorem and63 : ∀ c : Nat, c < 256 → bits BinOp.and .u8 (c : Int) 63 = ((c % 64 : Nat) : Int) := by
  decide +kernel
theorem or_i64 (a b : Nat) (ha : a < 9223372036854775808) (hb : b < 9223372036854775808) : bits .or .i64 (a : Int) (b : Int) = ((a ||| b : Nat) : Int) := by
  have h : a ||| b < 2 ^ 63 := Nat.or_lt_two_pow ha hb
  have hw : ∀ x : Nat, x < 2 ^ 63 → IntKind.i64.wrap (x : Int) = x := by
    intro x hx
    have : (x:Int) < 9223372036854775808 := by omega
    simp [IntKind.wrap, IntKind.bits, IntKind.signed]; omega
  have e1 : ∀ x : Nat, x < 9223372036854775808 → (BitVec.ofInt 64 (x : Int)).toNat = x := by
    intro x hx
    rw [BitVec.ofInt_natCast, BitVec.toNat_ofNat]; exact Nat.mod_eq_of_lt (by omega)
  show IntKind.i64.wrap ((BitVec.ofInt 64 (a : Int) ||| BitVec.ofInt 64 (b : Int)).toNat : Int) = _
  rw [BitVec.toNat_or, e1 a ha, e1 b hb, hw _ h]
theorem or_shl (a b : Nat) (ha : a < 1000000000) (hb : b < 64) : bits .or .i64 ((a : Int) * 64) (b : Int) = (a : Int) * 64 + b := by
  have h := or_i64 (a * 64) b (by omega) (by omega)
  have e : a * 64 ||| b = a * 64 + b := by
    have := Nat.shiftLeft_add_eq_or_of_lt (i := 6) (b := b) (by omega) a
    rw [Nat.shiftLeft_eq] at this; exact this.symm
  rw [e] at h; simpa using h

/-- what the round of Next makes of its number -/
theorem or_acc (a : Int) (h0 : 0 ≤ a) (h1 : a < 128 * 64 ^ 3) (c : Nat) (hc : c < 256) : bits .or .i64 (wrap64 (a * 64)) (wrap64 (bits BinOp.and .u8 (c : Int) 63)) = a * 64 + (c % 64 : Nat) := by
  obtain ⟨n, rfl⟩ := Int.eq_ofNat_of_zero_le h0
  rw [and63 c hc, IntWalk.wrap64_in _ ⟨by omega, by omega⟩, IntWalk.wrap64_in _ ⟨by omega, by omega⟩]
  exact or_shl n (c % 64) (by omega) (by omega)
theorem and_cont (c : Nat) (hc : c < 256) : (bits BinOp.and .u8 (c : Int) 192 != 128) = !(c / 64 == 2) := by
  rw [and192 c hc, Bool.eq_iff_iff]; simp; omega
end Go.Proofs.YtfnfbbmegdkhjaaGreat

namespace Go.Proofs.YtfnfbbmegdkhjaaGreat
open Go.RowKit
set_option maxHeartbeats 400000 in
theorem right_any (n : Int) (w : World) :
    Calls Tryz.prog 114 #[.int .i64 n] w fun e w' => e = .returned (.bool (right n)) ∧ w = w' := by
  go_enter Tryz.func114, Tryz.ntmps114
  go_wp2
  all_goals go_ret
  all_goals refine ⟨ret_bool ?_, rfl⟩
  all_goals (unfold right; rw [Bool.eq_iff_iff]; simp; omega)

set_option maxHeartbeats 400000 in
theorem rright_any (n : Int) (w : World) :
    Calls Tryz.prog 109 #[.int .i64 n] w fun e w' => e = .returned (.bool (right n)) ∧ w = w' := by
  go_enter Tryz.func109, Tryz.ntmps109
  go_wp2
  all_goals go_ret
  all_goals refine ⟨ret_bool ?_, rfl⟩
  all_goals (unfold right; rw [Bool.eq_iff_iff]; simp; omega)

set_option maxHeartbeats 400000 in
theorem width_any (n : Int) (w : World) :
    Calls Tryz.prog 126 #[.int .i64 n] w fun e w' => e = .returned (.int .i64 (width n)) ∧ w = w' := by
  go_enter Tryz.func126, Tryz.ntmps126
  go_wp2
  all_goals go_ret
  all_goals refine ⟨ret_int ?_, rfl⟩
  all_goals (unfold width; repeat' split) <;> first | rfl | omega

set_option maxHeartbeats 400000 in
theorem lead_any (c : Int) (h0 : 0 ≤ c) (h1 : c ≤ 255) (w : World) :
    Calls Tryz.prog 125 #[.int .u8 c] w fun e w' => e = .returned (.tuple #[.int .i64 (leadW c), .int .i64 (leadB c)]) ∧ w = w' := by
  go_enter Tryz.func125, Tryz.ntmps125
  go_wp2
  all_goals go_ret2
  all_goals refine ⟨ret_int2 ?_ ?_, rfl⟩
  all_goals (simp only [leadW, leadB]; repeat' split) <;> first | rfl | omega


set_option maxRecDepth 100000 in
theorem next_any (s : ByteArray) (hs : s.size ≤ maxLen) (i : Int) (w : World) :
    Calls Tryz.prog 112 #[.string s, .int .i64 i] w fun e w' => e = .returned (.tuple #[.int .i64 (nextN s i), .int .i64 (nextW s i), .int .i64 (nextE s i)]) ∧ w = w' := by
  unfold maxLen at hs
  by_cases hi : 0 ≤ i ∧ i < s.size
  · obtain ⟨n, rfl⟩ := Int.eq_ofNat_of_zero_le hi.1
    have hlt : n < s.size := by omega
    clear hi
    by_cases hz : leadW (s[n].toNat) = 0 ∨ (s.size : Int) - n < leadW (s[n].toNat)
    · have hfin : decAt s n = none := by
        rw [decAt_cons s n hlt, ← nb_eq s n hlt]
        simp only [dec, tl_length]; rw [if_pos (by omega)]
      have fin : Hid (nextN s n = 0 ∧ nextW s n = 0 ∧ nextE s n = 1) := by
        simp only [Hid, nextN, nextW, nextE, hfin]; exact ⟨trivial, trivial, trivial⟩
      have HZ := Lib.hid hz
      clear hfin hz
      go_enter Tryz.func112, Tryz.ntmps112
      go_wp2_with (go_at_call 125; refine (lead_any _ (Int.natCast_nonneg _) (by have := s[n].toNat_lt; omega) _).mono ?_; rintro e w' ⟨rfl, rfl⟩)
      · go_ret3
        exact ⟨ret_int3 fin.out.1.symm fin.out.2.1.symm fin.out.2.2.symm, rfl⟩
      · go_ret3
        exact ⟨ret_int3 fin.out.1.symm fin.out.2.1.symm fin.out.2.2.symm, rfl⟩
      · have hbad : (leadW ↑s[n].toNat == 0) = false ∧ leadW ↑s[n].toNat ≤ ↑s.size - ↑n := by assumption
        have h1 : ¬ leadW ↑s[n].toNat = 0 := by simpa using hbad.1
        rcases HZ.out with h | h
        · exact absurd h h1
        · have := hbad.2; omega
    · have hz1 : (leadW (s[n].toNat) == 0) = false := by simp; omega
      have hz2 : leadW (s[n].toNat) ≤ (s.size : Int) - n := by omega
      have hw4 := (leadW_le s[n].toNat).2
      have hb := leadB_le s[n].toNat (Int.natCast_nonneg _)
      have hlead : Hid (leadW (s[n].toNat) ≠ 0) := by show leadW (s[n].toNat) ≠ 0; simpa using hz1
      clear hz
      go_enter Tryz.func112, Tryz.ntmps112
      go_wp2_with (go_at_call 125; refine (lead_any _ (Int.natCast_nonneg _) (by have := s[n].toNat_lt; omega) _).mono ?_; rintro e w' ⟨rfl, rfl⟩)
      go_loop [8, 9] (fun a i => ∃ k : Nat, 1 ≤ k ∧ (k:Int) ≤ leadW (s[n].toNat) ∧ i = .int .i64 k ∧ a = .int .i64 (accs (leadB s[n].toNat) ((tl s n).take (k-1))) ∧ conts ((tl s n).take (k-1)) = true)
         (fun _ i => 4 - (intOf i).toNat)
      case atStart => exact ⟨1, Nat.le_refl _, by have := (leadW_le s[n].toNat).1; have := hlead.out; omega, rfl, rfl, rfl⟩
      case round =>
        obtain ⟨k, hk, hk2, rfl, rfl, hc⟩ := hrel
        have HC := Lib.hid hc; clear hc
        have hkl : n + k ≤ s.size := by omega
        go_wp2_with fail
        case roundEnd =>
          have hlt : (k : Int) < leadW s[n].toNat := by assumption
          have hnk : n + k < s.size := by omega
          have hcont : (bits BinOp.and IntKind.u8 (↑s[n + k].toNat) 192 != 128) = false := by assumption
          rw [and_cont _ s[n+k].toNat_lt] at hcont
          have hkt : k - 1 < (tl s n).length := by rw [tl_length]; omega
          have hg : (tl s n).getD (k-1) 0 = s[n+k].toNat := by rw [tl_get, nb_eq]; congr 1; omega
          have hsn : (tl s n).take k = (tl s n).take (k-1) ++ [s[n+k].toNat] := by
            rw [← hg, ← take_snoc _ _ _ hkt]; congr 1; omega
          refine ⟨⟨k + 1, by omega, by omega, rfl, ?_, ?_⟩, by simp [intOf]; omega⟩
          · have hacc := accs_lt ((tl s n).take (k-1)) (leadB s[n].toNat) hb.2
            have hlen : ((tl s n).take (k-1)).length ≤ 2 := by rw [List.length_take]; omega
            have hp : (64:Int) ^ ((tl s n).take (k-1)).length ≤ 64 ^ 2 := by
              have : ((tl s n).take (k-1)).length = 0 ∨ ((tl s n).take (k-1)).length = 1 ∨ ((tl s n).take (k-1)).length = 2 := by omega
              rcases this with h | h | h <;> rw [h] <;> decide
            rw [or_acc _ (accs_nonneg _ _ hb.1) (by omega) _ s[n+k].toNat_lt, Nat.add_sub_cancel, hsn, accs_snoc]
          · rw [Nat.add_sub_cancel, hsn, conts_snoc, HC.out]; simpa using hcont
        · have hlt : (k : Int) < leadW s[n].toNat := by assumption
          have hnk : n + k < s.size := by omega
          have hcont : (bits BinOp.and IntKind.u8 (↑s[n + k].toNat) 192 != 128) = true := by assumption
          rw [and_cont _ s[n+k].toNat_lt] at hcont
          have hkt : k - 1 < (tl s n).length := by rw [tl_length]; omega
          have hg : (tl s n).getD (k-1) 0 = s[n+k].toNat := by rw [tl_get, nb_eq]; congr 1; omega
          have hcf : conts ((tl s n).take (leadW s[n].toNat - 1).toNat) = false := by
            have hmem : s[n+k].toNat ∈ (tl s n).take (leadW s[n].toNat - 1).toNat := by
              rw [← hg, List.mem_take_iff_getElem]
              refine ⟨k - 1, by omega, ?_⟩
              rw [List.getD_eq_getElem?_getD, List.getElem?_eq_getElem hkt]; rfl
            unfold conts
            rw [List.all_eq_false]
            exact ⟨_, hmem, by simpa using hcont⟩
          have hnone : decAt s n = none := by
            rw [decAt_cons s n (by omega), ← nb_eq s n (by omega)]
            simp only [dec, tl_length, hcf]
            rw [if_neg (by have := hlead.out; omega), if_neg (by simp)]
          go_ret3
          exact ⟨ret_int3 (by simp only [nextN, hnone]) (by simp only [nextW, hnone]) (by simp only [nextE, hnone]), rfl⟩
        · have hge : leadW s[n].toNat ≤ k := by assumption
          have hkw : (k : Int) = leadW s[n].toNat := by omega
          have hk1 : (leadW s[n].toNat - 1).toNat = k - 1 := by omega
          have hD : decAt s n = if right (accs (leadB s[n].toNat) ((tl s n).take (k-1))) = true ∧ width (accs (leadB s[n].toNat) ((tl s n).take (k-1))) = leadW s[n].toNat then some (accs (leadB s[n].toNat) ((tl s n).take (k-1)), leadW s[n].toNat) else none := by
            rw [decAt_cons s n (by omega), ← nb_eq s n (by omega)]
            simp only [dec, tl_length, hk1, HC.out]
            rw [if_neg (by have := hlead.out; omega)]; simp only [true_and]
          have HD := Lib.hid hD; clear hD
          generalize accs (leadB s[n].toNat) ((tl s n).take (k-1)) = x at *
          clear hkw hk1
          by_cases hr : right x = true
          · by_cases hwd : width x = leadW s[n].toNat
            · have hS : decAt s n = some (x, leadW s[n].toNat) := by rw [HD.out, if_pos ⟨hr, hwd⟩]
              have fin : Hid (nextN s n = x ∧ nextW s n = leadW s[n].toNat ∧ nextE s n = 0) := by
                simp only [Hid, nextN, nextW, nextE, hS]; exact ⟨trivial, trivial, trivial⟩
              have hb1 : (width x != leadW s[n].toNat) = false := by rw [hwd]; simp
              clear hS HD hwd
              refine (right_any _ _).mono ?_
              rintro e w' ⟨rfl, rfl⟩
              go_wp2_with (go_at_call 126; refine (width_any _ _).mono ?_; rintro e w' ⟨rfl, rfl⟩)
              go_ret3
              exact ⟨ret_int3 fin.out.1.symm fin.out.2.1.symm fin.out.2.2.symm, rfl⟩
            · have hS : decAt s n = none := by rw [HD.out, if_neg (fun h => hwd h.2)]
              have fin : Hid (nextN s n = 0 ∧ nextW s n = 0 ∧ nextE s n = 1) := by
                simp only [Hid, nextN, nextW, nextE, hS]; exact ⟨trivial, trivial, trivial⟩
              have hb1 : (width x != leadW s[n].toNat) = true := by simpa using hwd
              clear hS HD hwd
              refine (right_any _ _).mono ?_
              rintro e w' ⟨rfl, rfl⟩
              go_wp2_with (go_at_call 126; refine (width_any _ _).mono ?_; rintro e w' ⟨rfl, rfl⟩)
              go_ret3
              exact ⟨ret_int3 fin.out.1.symm fin.out.2.1.symm fin.out.2.2.symm, rfl⟩
          · have hS : decAt s n = none := by rw [HD.out, if_neg (fun h => hr h.1)]
            have fin : Hid (nextN s n = 0 ∧ nextW s n = 0 ∧ nextE s n = 1) := by
              simp only [Hid, nextN, nextW, nextE, hS]; exact ⟨trivial, trivial, trivial⟩
            have hr' : right x = false := by simpa using hr
            clear hS HD hr
            refine (right_any _ _).mono ?_
            rintro e w' ⟨rfl, rfl⟩
            go_wp2_with fail
            go_ret3
            exact ⟨ret_int3 fin.out.1.symm fin.out.2.1.symm fin.out.2.2.symm, rfl⟩
  · have hfin : decAt s i = none := by unfold decAt; rw [if_neg hi]
    have fin : Hid (nextN s i = 0 ∧ nextW s i = 0 ∧ nextE s i = 1) := by
        simp only [Hid, nextN, nextW, nextE, hfin]; exact ⟨trivial, trivial, trivial⟩
    clear hfin
    by_cases h0 : i < 0
    · go_enter Tryz.func112, Tryz.ntmps112
      go_wp2
      go_ret3
      exact ⟨ret_int3 fin.out.1.symm fin.out.2.1.symm fin.out.2.2.symm, rfl⟩
    · have h1 : (s.size : Int) ≤ i := by omega
      clear hi
      go_enter Tryz.func112, Tryz.ntmps112
      go_wp2
      go_ret3
      exact ⟨ret_int3 fin.out.1.symm fin.out.2.1.symm fin.out.2.2.symm, rfl⟩
end Go.Proofs.YtfnfbbmegdkhjaaGreat

namespace Go.Proofs.YtfnfbbmegdkhjaaGreat
open Go.RowKit
/-- a sign's bytes -/
def encL (n : Int) : List Int :=
  if n < 128 then [n] else if n < 2048 then [192 + n / 64, 128 + n % 64] else if n < 65536 then [224 + n / 64 / 64, 128 + n / 64 % 64, 128 + n % 64]
  else [240 + n / 64 / 64 / 64, 128 + n / 64 / 64 % 64, 128 + n / 64 % 64, 128 + n % 64]
def enc (n : Int) : ByteArray := strOfNums (encL n)
end Go.Proofs.YtfnfbbmegdkhjaaGreat

namespace Go.Proofs.YtfnfbbmegdkhjaaGreat
open Go.RowKit
/-- the text of a block of bytes -/
theorem cv_bytes (l : List Int) (n : Nat) (hl : l.length = n) (w : World) : (convert 118 9 (.slice (some ⟨w.heap.size, 0, none⟩) n n)).run Tryz.prog (w.alloc (.cells (l.map (Value.int .u8)).toArray 5)) = .ok (.string (strOfNums l)) (w.alloc (.cells (l.map (Value.int .u8)).toArray 5)) := by
  refine run_convert_bytes_arg _ 118 5 Tryz.underlying118 Tryz.underlying5 _ 0 n n l hl ?_ 9 Tryz.underlying9
  intro i hi
  rw [World.cell?_alloc_new]
  simp [List.getElem?_eq_getElem (show i < l.length by omega)]
end Go.Proofs.YtfnfbbmegdkhjaaGreat

namespace Go.Proofs.YtfnfbbmegdkhjaaGreat
open Go.RowKit
theorem info5 : (Tryz.prog.info? 5).map (fun i => (i.zero, i.size, i.bytes)) = some (some (.int .u8 0), 1, 1) := by kernel_rfl
def quo64 (n : Int) : Nat → Int | 0 => n | k + 1 => quo64 n k / 64
theorem quo64_nonneg (n : Int) (h : 0 ≤ n) : ∀ k, 0 ≤ quo64 n k
  | 0 => h
  | k + 1 => by have := quo64_nonneg n h k; unfold quo64; omega
theorem quo64_le (n : Int) (h : 0 ≤ n) : ∀ k, quo64 n k ≤ n
  | 0 => Int.le_refl _
  | k + 1 => by have := quo64_le n h k; have := quo64_nonneg n h k; unfold quo64; omega
def tailL (n : Int) : Nat → List Int | 0 => [] | m + 1 => (128 + quo64 n m % 64) :: tailL n m
set_option maxRecDepth 100000 in
set_option maxHeartbeats 400000 in
theorem tail_any (n : Int) (h0 : 0 ≤ n) (h1 : n ≤ 1114111) (m : Nat) (hm : m ≤ 3) (w : World) :
    Calls Tryz.prog 134 #[.int .i64 n, .int .i64 m] w fun e w' => ∃ v, e = .returned v ∧ w'.ownsRow w.heap.size 5 1 v m ((tailL n m).map (Value.int .u8)) ∧ Below w.heap.size w w' := by
  obtain ⟨i0, hi, hz0, hz1, hz2⟩ := info_parts info5
  go_enter Tryz.func134, Tryz.ntmps134
  go_wp2_with fail
  go_loopw [5, 6] (fun v i wr => ∃ k : Nat, k ≤ m ∧ i = .int .i64 (↑k - 1) ∧ (∃ l : List Int, l ++ tailL n k = tailL n m ∧ wr.ownsRow w.heap.size 5 1 v (m - k) (l.map (Value.int .u8))) ∧ Below w.heap.size w wr)
    (fun _ i _ => (intOf i + 1).toNat)
  case atStart =>
    exact ⟨m, Nat.le_refl _, rfl, ⟨[], rfl, by rw [Nat.sub_self]; exact World.ownsRow_made w #[] 0 (Nat.le_refl _) (Nat.zero_le _) rfl⟩, (Below.refl _ _).alloc (Nat.le_refl _) _⟩
  case round =>
    obtain ⟨k, hk, rfl, ⟨l, hl, hown⟩, hbel⟩ := hrel
    have HL := Lib.hid hl; clear hl
    cases k with
    | zero =>
      go_wp2_with fail
      go_ret
      have e : l = tailL n m := by simpa [tailL] using HL.out
      subst e
      exact ⟨_, rfl, by simpa using hown, hbel⟩
    | succ k =>
      have hq0 := quo64_nonneg n h0
      have hq1 := quo64_le n h0
      go_wp2_with fail
      go_loop [7, 8] (fun x j => ∃ j' : Nat, j' ≤ k ∧ x = .int .i64 (quo64 n j') ∧ j = .int .i64 j') (fun _ j => k - (intOf j).toNat)
      case atStart => exact ⟨0, Nat.zero_le _, rfl, rfl⟩
      case round =>
        obtain ⟨j, hj, rfl, rfl⟩ := hrel
        have hj0 := hq0 j
        have hj1 := hq1 j
        clear hq0 hq1
        by_cases hlt : j < k
        · go_wp2_with fail
          go_round
          case rel => exact ⟨j + 1, by omega, rfl, by go_num⟩
          case measure => simp [intOf]; omega
        · obtain rfl : j = k := by omega
          go_wp2_with (at_builtin; refine wpList_append_own _ rfl _ _ 118 rfl w.heap.size 5 i0 (.int .u8 0) 1 1 Tryz.underlying118 hi hz0 hz1 hz2 rfl (by decide) _ _ _ rfl (hown.alloc _) ⟨wr.heap.size, 0, none⟩ 1 1 [.int .u8 (128 + quo64 n j % 64)] rfl rfl ?c1 ?c2 ?c3 ?c4 ?c5 ?_)
          case c2 => rfl
          case c3 => unfold maxLen; omega
          case c4 => omega
          case c5 => have := hbel.size; simp; omega
          intro v' w1 hown' hgrow _
          have hb1 : Below w.heap.size w w1 := (hbel.alloc hbel.size _).grown hgrow (by have := hbel.size; simp; omega) (fun k hk => ((hown.alloc (.cells #[.int .u8 (128 + quo64 n j % 64)] 5)).lt k hk).1)
          have hown1 : w1.ownsRow w.heap.size 5 1 v' (m - j) ((l ++ [128 + quo64 n j % 64]).map (Value.int .u8)) := by
            rw [List.map_append]
            rw [show m - (j + 1) + 1 = m - j by omega] at hown'
            exact hown'
          have HL2 := Lib.hid (show (l ++ [128 + quo64 n j % 64]) ++ tailL n j = tailL n m by rw [List.append_assoc]; exact HL.out)
          clear hown' hgrow hown hbel HL
          go_wp2_with fail
          go_roundw
          case rel => exact ⟨j, by omega, by go_num, ⟨_, HL2.out, hown1⟩, hb1⟩
          case measure => simp [intOf]
end Go.Proofs.YtfnfbbmegdkhjaaGreat

namespace Go.Proofs.YtfnfbbmegdkhjaaGreat
open Go.RowKit
/-- the text of an owned row of bytes -/
theorem cv_own {w : World} {base : Nat} {v : Value} {n : Nat} {l : List Int} (h : w.ownsRow base 5 1 v n (l.map (Value.int .u8))) : (convert 118 9 v).run Tryz.prog w = .ok (.string (strOfNums l)) w := by
  have hn := own_len h
  rcases h.2 with ⟨rfl, rfl⟩ | ⟨g, cap, cur, rfl, hg, hh, hr⟩
  · have : l = [] := by simpa using hn
    subst this
    rw [run_convert_bytes_nil w 118 5 Tryz.underlying118 Tryz.underlying5 0 0 9 Tryz.underlying9]; rfl
  · refine run_convert_bytes_arg _ 118 5 Tryz.underlying118 Tryz.underlying5 _ 0 n cap l (by simpa using hn) ?_ 9 Tryz.underlying9
    intro i hi
    have := h.cells (g := g) rfl i (.int .u8 (l.getD i 0)) (by
      rw [List.getElem?_map, List.getD_eq_getElem?_getD, List.getElem?_eq_getElem (by simp at hn; omega)]; rfl)
    have e : (⟨g, 0, none⟩ : Addr).add i = ⟨g, 0 + i, none⟩ := by unfold Addr.add; split <;> simp_all
    rw [e] at this; exact this
set_option maxRecDepth 100000 in
set_option maxHeartbeats 400000 in
theorem rput2 (n : Int) (h0 : 128 ≤ n) (h1 : n < 2048) (w : World) :
    Calls Tryz.prog 131 #[.int .i64 n] w fun e w' => e = .returned (.string (enc n)) ∧ Below w.heap.size w w' := by
  obtain ⟨i0, hi, hz0, hz1, hz2⟩ := info_parts info5
  have fin := Lib.hid (show encL n = [192 + n / 64] ++ tailL n 1 by unfold encL; rw [if_neg (by omega), if_pos (by omega)]; rfl)
  go_enter Tryz.func131, Tryz.ntmps131
  go_wp2_with fail
  refine (tail_any n (by omega) (by omega) 1 (by omega) _).mono ?_
  rintro e w' ⟨v, rfl, hown, hbel⟩
  obtain ⟨g, cap, rfl, hg⟩ := own_some hown (by omega)
  have hlit := own_lit (w := w) (xs := [.int .u8 (192 + n / 64)]) (n := 1) 5 rfl (by decide) (by simpa using hbel)
  go_wp2_with (at_builtin; refine wpList_append_own _ rfl _ _ 118 rfl w.heap.size 5 i0 (.int .u8 0) 1 1 Tryz.underlying118 hi hz0 hz1 hz2 rfl (by decide) _ _ _ rfl hlit ⟨g, 0, none⟩ 1 cap _ rfl (own_len hown) (hown.cells rfl) ?c2 ?c3 ?c4 ?c5 ?_)
  case c2 => intro u hu; simp at hu; obtain ⟨x, _, rfl⟩ := hu; rfl
  case c3 => decide
  case c4 => decide
  case c5 => have := hbel.size; simp at this; omega
  intro v' w1 hown' hgrow _
  have hcv := cv_own (l := (192 + n / 64) :: tailL n 1) hown'
  have hb1 : Below w.heap.size w w1 := (((Below.refl _ _).alloc (Nat.le_refl _) _).trans (hbel.mono (by simp))).grown hgrow (by have := hbel.size; simp at this; omega) (fun k hk => by simp [Value.ownBlock] at hk; omega)
  clear hown' hgrow hown hlit hbel
  go_wp2_with fail
  go_ret
  exact ⟨by rw [enc, fin.out]; rfl, hb1⟩
set_option maxRecDepth 100000 in
set_option maxHeartbeats 400000 in
theorem rput3 (n : Int) (h0 : 2048 ≤ n) (h1 : n < 65536) (w : World) :
    Calls Tryz.prog 131 #[.int .i64 n] w fun e w' => e = .returned (.string (enc n)) ∧ Below w.heap.size w w' := by
  obtain ⟨i0, hi, hz0, hz1, hz2⟩ := info_parts info5
  have fin := Lib.hid (show encL n = [224 + n / 4096] ++ tailL n 2 by unfold encL; rw [if_neg (by omega), if_neg (by omega), if_pos (by omega), show n / 64 / 64 = n / 4096 by omega]; rfl)
  go_enter Tryz.func131, Tryz.ntmps131
  go_wp2_with fail
  refine (tail_any n (by omega) (by omega) 2 (by omega) _).mono ?_
  rintro e w' ⟨v, rfl, hown, hbel⟩
  obtain ⟨g, cap, rfl, hg⟩ := own_some hown (by omega)
  have hlit := own_lit (w := w) (xs := [.int .u8 (224 + n / 4096)]) (n := 1) 5 rfl (by decide) (by simpa using hbel)
  go_wp2_with (at_builtin; refine wpList_append_own _ rfl _ _ 118 rfl w.heap.size 5 i0 (.int .u8 0) 1 1 Tryz.underlying118 hi hz0 hz1 hz2 rfl (by decide) _ _ _ rfl hlit ⟨g, 0, none⟩ 2 cap _ rfl (own_len hown) (hown.cells rfl) ?c2 ?c3 ?c4 ?c5 ?_)
  case c2 => intro u hu; simp at hu; obtain ⟨x, _, rfl⟩ := hu; rfl
  case c3 => decide
  case c4 => decide
  case c5 => have := hbel.size; simp at this; omega
  intro v' w1 hown' hgrow _
  have hcv := cv_own (l := (224 + n / 4096) :: tailL n 2) hown'
  have hb1 : Below w.heap.size w w1 := (((Below.refl _ _).alloc (Nat.le_refl _) _).trans (hbel.mono (by simp))).grown hgrow (by have := hbel.size; simp at this; omega) (fun k hk => by simp [Value.ownBlock] at hk; omega)
  clear hown' hgrow hown hlit hbel
  go_wp2_with fail
  go_ret
  exact ⟨by rw [enc, fin.out]; rfl, hb1⟩
set_option maxRecDepth 100000 in
set_option maxHeartbeats 400000 in
theorem rput4 (n : Int) (h0 : 65536 ≤ n) (h1 : n ≤ 1114111) (w : World) :
    Calls Tryz.prog 131 #[.int .i64 n] w fun e w' => e = .returned (.string (enc n)) ∧ Below w.heap.size w w' := by
  obtain ⟨i0, hi, hz0, hz1, hz2⟩ := info_parts info5
  have fin := Lib.hid (show encL n = [240 + n / 262144] ++ tailL n 3 by unfold encL; rw [if_neg (by omega), if_neg (by omega), if_neg (by omega), show n / 64 / 64 / 64 = n / 262144 by omega]; rfl)
  go_enter Tryz.func131, Tryz.ntmps131
  go_wp2_with fail
  refine (tail_any n (by omega) (by omega) 3 (by omega) _).mono ?_
  rintro e w' ⟨v, rfl, hown, hbel⟩
  obtain ⟨g, cap, rfl, hg⟩ := own_some hown (by omega)
  have hlit := own_lit (w := w) (xs := [.int .u8 (240 + n / 262144)]) (n := 1) 5 rfl (by decide) (by simpa using hbel)
  go_wp2_with (at_builtin; refine wpList_append_own _ rfl _ _ 118 rfl w.heap.size 5 i0 (.int .u8 0) 1 1 Tryz.underlying118 hi hz0 hz1 hz2 rfl (by decide) _ _ _ rfl hlit ⟨g, 0, none⟩ 3 cap _ rfl (own_len hown) (hown.cells rfl) ?c2 ?c3 ?c4 ?c5 ?_)
  case c2 => intro u hu; simp at hu; obtain ⟨x, _, rfl⟩ := hu; rfl
  case c3 => decide
  case c4 => decide
  case c5 => have := hbel.size; simp at this; omega
  intro v' w1 hown' hgrow _
  have hcv := cv_own (l := (240 + n / 262144) :: tailL n 3) hown'
  have hb1 : Below w.heap.size w w1 := (((Below.refl _ _).alloc (Nat.le_refl _) _).trans (hbel.mono (by simp))).grown hgrow (by have := hbel.size; simp at this; omega) (fun k hk => by simp [Value.ownBlock] at hk; omega)
  clear hown' hgrow hown hlit hbel
  go_wp2_with fail
  go_ret
  exact ⟨by rw [enc, fin.out]; rfl, hb1⟩
set_option maxRecDepth 100000 in
set_option maxHeartbeats 400000 in
theorem rput1 (n : Int) (h0 : 0 ≤ n) (h1 : n < 128) (w : World) :
    Calls Tryz.prog 131 #[.int .i64 n] w fun e w' => e = .returned (.string (enc n)) ∧ Below w.heap.size w w' := by
  have hcv := fun (w : World) (a : Int) => cv_bytes [a] 1 rfl w
  simp only [List.map] at hcv
  have fin := Lib.hid (show encL n = [n] by unfold encL; rw [if_pos (by omega)])
  go_enter Tryz.func131, Tryz.ntmps131
  go_wp2_with fail
  go_ret
  exact ⟨by rw [enc, fin.out]; rfl, (Below.refl _ _).alloc (Nat.le_refl _) _⟩
/-- the reference's Put -/
theorem rput_any (n : Int) (hr : right n = true) (w : World) :
    Calls Tryz.prog 131 #[.int .i64 n] w fun e w' => e = .returned (.string (enc n)) ∧ Below w.heap.size w w' := by
  have h : 0 ≤ n ∧ n ≤ 1114111 := by have := of_decide_eq_true hr; omega
  by_cases h1 : n < 128
  · exact rput1 n h.1 h1 w
  · by_cases h2 : n < 2048
    · exact rput2 n (by omega) h2 w
    · by_cases h3 : n < 65536
      · exact rput3 n (by omega) h3 w
      · exact rput4 n (by omega) h.2 w
end Go.Proofs.YtfnfbbmegdkhjaaGreat

namespace Go.Proofs.YtfnfbbmegdkhjaaGreat
open Go.RowKit
def firsts : Nat → Int | 2 => 192 | 3 => 224 | 4 => 240 | _ => 0
def numStart (s : ByteArray) : Int := (nb s 0 : Int) - firsts s.size
/-- the number behind k bytes more than the first -/
def numFold (s : ByteArray) : Nat → Int | 0 => numStart s | k + 1 => numFold s k * 64 + (nb s (k + 1) : Int) - 128
def numberR (s : ByteArray) : Int := if numStart s < 0 then -1 else if right (numFold s (s.size - 1)) = true ∧ enc (numFold s (s.size - 1)) = s then numFold s (s.size - 1) else -1
theorem toList_ne {a b : ByteArray} (h : a ≠ b) : (a.toList == b.toList) = false := by
  rw [beq_eq_false_iff_ne, ByteArray.toList_eq, ByteArray.toList_eq]
  intro e; exact h (ByteArray.ext (Array.toList_inj.mp e))
set_option maxRecDepth 100000 in
set_option maxHeartbeats 1000000 in
theorem number1 (s : ByteArray) (hsz : s.size = 1) (w : World) :
    Calls Tryz.prog 123 #[.string s] w fun e w' => e = .returned (.int .i64 (numberR s)) ∧ Below w.heap.size w w' := by
  have HZ : Hid (numStart s = (nb s 0 : Int)) := by simp [Hid, numStart, firsts, hsz]
  have HF : Hid (numFold s (s.size - 1) = (nb s 0 : Int)) := by simp [Hid, numFold, numStart, firsts, hsz]
  have hnb := nb_eq s
  have h0 := nb_lt s 0
  go_enter Tryz.func123, Tryz.ntmps123
  go_wp2_with fail
  have hz : 0 ≤ (nb s 0 : Int) := by omega
  refine wp_loop_rounds 1 ?_
  repeat any_goals (rw [rounds_succ]; go_wp2_with fail)
  generalize hx : (nb s 0 : Int) = x at *
  by_cases hr : right x = true
  · by_cases he : enc x = s
    · have hb : ((enc x).toList == s.toList) = true := by rw [he]; simp
      have hfin : numberR s = x := by rw [numberR, if_neg (by rw [HZ.out]; omega), HF.out, if_pos ⟨hr, he⟩]
      have FIN := Lib.hid hfin
      clear he hfin
      refine (rright_any _ _).mono ?_
      rintro e w' ⟨rfl, rfl⟩
      go_wp2_with (go_at_call 131; refine (rput_any x hr _).mono ?_; rintro e w' ⟨rfl, hbel⟩)
      go_ret
      exact ⟨ret_int FIN.out.symm, ((Below.refl _ _).alloc (Nat.le_refl _) _).trans (hbel.mono (by simp))⟩
    · have hb := toList_ne he
      have hfin : numberR s = -1 := by rw [numberR, if_neg (by rw [HZ.out]; omega), HF.out, if_neg (fun h => he h.2)]
      have FIN := Lib.hid hfin
      clear he hfin
      refine (rright_any _ _).mono ?_
      rintro e w' ⟨rfl, rfl⟩
      go_wp2_with (go_at_call 131; refine (rput_any x hr _).mono ?_; rintro e w' ⟨rfl, hbel⟩)
      go_ret
      exact ⟨ret_int FIN.out.symm, ((Below.refl _ _).alloc (Nat.le_refl _) _).trans (hbel.mono (by simp))⟩
  · have hr' : right x = false := by simpa using hr
    have hfin : numberR s = -1 := by rw [numberR, if_neg (by rw [HZ.out]; omega), HF.out, if_neg (fun h => hr h.1)]
    have FIN := Lib.hid hfin
    clear hr hfin
    refine (rright_any _ _).mono ?_
    rintro e w' ⟨rfl, rfl⟩
    go_wp2_with fail
    go_ret
    exact ⟨ret_int FIN.out.symm, (Below.refl _ _).alloc (Nat.le_refl _) _⟩
set_option maxRecDepth 100000 in
set_option maxHeartbeats 1000000 in
theorem number2 (s : ByteArray) (hsz : s.size = 2) (w : World) :
    Calls Tryz.prog 123 #[.string s] w fun e w' => e = .returned (.int .i64 (numberR s)) ∧ Below w.heap.size w w' := by
  have HZ : Hid (numStart s = (nb s 0 : Int) - 192) := by simp [Hid, numStart, firsts, hsz]
  have HF : Hid (numFold s (s.size - 1) = ((nb s 0 : Int) - 192) * 64 + (nb s 1 : Int) - 128) := by simp [Hid, numFold, numStart, firsts, hsz]
  have hnb := nb_eq s
  have h0 := nb_lt s 0
  have h1 := nb_lt s 1
  go_enter Tryz.func123, Tryz.ntmps123
  go_wp2_with fail
  · go_ret
    exact ⟨ret_int (by have : (nb s 0 : Int) - 192 < 0 := by assumption
                       rw [numberR, if_pos (by rw [HZ.out]; exact this)]), (Below.refl _ _).alloc (Nat.le_refl _) _⟩
  · have hz : 0 ≤ (nb s 0 : Int) - 192 := by assumption
    refine wp_loop_rounds 2 ?_
    repeat any_goals (rw [rounds_succ]; go_wp2_with fail)
    generalize hx : ((nb s 0 : Int) - 192) * 64 + (nb s 1 : Int) - 128 = x at *
    by_cases hr : right x = true
    · by_cases he : enc x = s
      · have hb : ((enc x).toList == s.toList) = true := by rw [he]; simp
        have hfin : numberR s = x := by rw [numberR, if_neg (by rw [HZ.out]; omega), HF.out, if_pos ⟨hr, he⟩]
        have FIN := Lib.hid hfin
        clear he hfin
        refine (rright_any _ _).mono ?_
        rintro e w' ⟨rfl, rfl⟩
        go_wp2_with (go_at_call 131; refine (rput_any x hr _).mono ?_; rintro e w' ⟨rfl, hbel⟩)
        go_ret
        exact ⟨ret_int FIN.out.symm, ((Below.refl _ _).alloc (Nat.le_refl _) _).trans (hbel.mono (by simp))⟩
      · have hb := toList_ne he
        have hfin : numberR s = -1 := by rw [numberR, if_neg (by rw [HZ.out]; omega), HF.out, if_neg (fun h => he h.2)]
        have FIN := Lib.hid hfin
        clear he hfin
        refine (rright_any _ _).mono ?_
        rintro e w' ⟨rfl, rfl⟩
        go_wp2_with (go_at_call 131; refine (rput_any x hr _).mono ?_; rintro e w' ⟨rfl, hbel⟩)
        go_ret
        exact ⟨ret_int FIN.out.symm, ((Below.refl _ _).alloc (Nat.le_refl _) _).trans (hbel.mono (by simp))⟩
    · have hr' : right x = false := by simpa using hr
      have hfin : numberR s = -1 := by rw [numberR, if_neg (by rw [HZ.out]; omega), HF.out, if_neg (fun h => hr h.1)]
      have FIN := Lib.hid hfin
      clear hr hfin
      refine (rright_any _ _).mono ?_
      rintro e w' ⟨rfl, rfl⟩
      go_wp2_with fail
      go_ret
      exact ⟨ret_int FIN.out.symm, (Below.refl _ _).alloc (Nat.le_refl _) _⟩
set_option maxRecDepth 100000 in
set_option maxHeartbeats 1000000 in
theorem number3 (s : ByteArray) (hsz : s.size = 3) (w : World) :
    Calls Tryz.prog 123 #[.string s] w fun e w' => e = .returned (.int .i64 (numberR s)) ∧ Below w.heap.size w w' := by
  have HZ : Hid (numStart s = (nb s 0 : Int) - 224) := by simp [Hid, numStart, firsts, hsz]
  have HF : Hid (numFold s (s.size - 1) = (((nb s 0 : Int) - 224) * 64 + (nb s 1 : Int) - 128) * 64 + (nb s 2 : Int) - 128) := by simp [Hid, numFold, numStart, firsts, hsz]
  have hnb := nb_eq s
  have h0 := nb_lt s 0
  have h1 := nb_lt s 1
  have h2 := nb_lt s 2
  go_enter Tryz.func123, Tryz.ntmps123
  go_wp2_with fail
  · go_ret
    exact ⟨ret_int (by have : (nb s 0 : Int) - 224 < 0 := by assumption
                       rw [numberR, if_pos (by rw [HZ.out]; exact this)]), (Below.refl _ _).alloc (Nat.le_refl _) _⟩
  · have hz : 0 ≤ (nb s 0 : Int) - 224 := by assumption
    refine wp_loop_rounds 3 ?_
    repeat any_goals (rw [rounds_succ]; go_wp2_with fail)
    generalize hx : (((nb s 0 : Int) - 224) * 64 + (nb s 1 : Int) - 128) * 64 + (nb s 2 : Int) - 128 = x at *
    by_cases hr : right x = true
    · by_cases he : enc x = s
      · have hb : ((enc x).toList == s.toList) = true := by rw [he]; simp
        have hfin : numberR s = x := by rw [numberR, if_neg (by rw [HZ.out]; omega), HF.out, if_pos ⟨hr, he⟩]
        have FIN := Lib.hid hfin
        clear he hfin
        refine (rright_any _ _).mono ?_
        rintro e w' ⟨rfl, rfl⟩
        go_wp2_with (go_at_call 131; refine (rput_any x hr _).mono ?_; rintro e w' ⟨rfl, hbel⟩)
        go_ret
        exact ⟨ret_int FIN.out.symm, ((Below.refl _ _).alloc (Nat.le_refl _) _).trans (hbel.mono (by simp))⟩
      · have hb := toList_ne he
        have hfin : numberR s = -1 := by rw [numberR, if_neg (by rw [HZ.out]; omega), HF.out, if_neg (fun h => he h.2)]
        have FIN := Lib.hid hfin
        clear he hfin
        refine (rright_any _ _).mono ?_
        rintro e w' ⟨rfl, rfl⟩
        go_wp2_with (go_at_call 131; refine (rput_any x hr _).mono ?_; rintro e w' ⟨rfl, hbel⟩)
        go_ret
        exact ⟨ret_int FIN.out.symm, ((Below.refl _ _).alloc (Nat.le_refl _) _).trans (hbel.mono (by simp))⟩
    · have hr' : right x = false := by simpa using hr
      have hfin : numberR s = -1 := by rw [numberR, if_neg (by rw [HZ.out]; omega), HF.out, if_neg (fun h => hr h.1)]
      have FIN := Lib.hid hfin
      clear hr hfin
      refine (rright_any _ _).mono ?_
      rintro e w' ⟨rfl, rfl⟩
      go_wp2_with fail
      go_ret
      exact ⟨ret_int FIN.out.symm, (Below.refl _ _).alloc (Nat.le_refl _) _⟩
set_option maxRecDepth 100000 in
set_option maxHeartbeats 1000000 in
theorem number4 (s : ByteArray) (hsz : s.size = 4) (w : World) :
    Calls Tryz.prog 123 #[.string s] w fun e w' => e = .returned (.int .i64 (numberR s)) ∧ Below w.heap.size w w' := by
  have HZ : Hid (numStart s = (nb s 0 : Int) - 240) := by simp [Hid, numStart, firsts, hsz]
  have HF : Hid (numFold s (s.size - 1) = ((((nb s 0 : Int) - 240) * 64 + (nb s 1 : Int) - 128) * 64 + (nb s 2 : Int) - 128) * 64 + (nb s 3 : Int) - 128) := by simp [Hid, numFold, numStart, firsts, hsz]
  have hnb := nb_eq s
  have h0 := nb_lt s 0
  have h1 := nb_lt s 1
  have h2 := nb_lt s 2
  have h3 := nb_lt s 3
  go_enter Tryz.func123, Tryz.ntmps123
  go_wp2_with fail
  · go_ret
    exact ⟨ret_int (by have : (nb s 0 : Int) - 240 < 0 := by assumption
                       rw [numberR, if_pos (by rw [HZ.out]; exact this)]), (Below.refl _ _).alloc (Nat.le_refl _) _⟩
  · have hz : 0 ≤ (nb s 0 : Int) - 240 := by assumption
    refine wp_loop_rounds 4 ?_
    repeat any_goals (rw [rounds_succ]; go_wp2_with fail)
    generalize hx : ((((nb s 0 : Int) - 240) * 64 + (nb s 1 : Int) - 128) * 64 + (nb s 2 : Int) - 128) * 64 + (nb s 3 : Int) - 128 = x at *
    by_cases hr : right x = true
    · by_cases he : enc x = s
      · have hb : ((enc x).toList == s.toList) = true := by rw [he]; simp
        have hfin : numberR s = x := by rw [numberR, if_neg (by rw [HZ.out]; omega), HF.out, if_pos ⟨hr, he⟩]
        have FIN := Lib.hid hfin
        clear he hfin
        refine (rright_any _ _).mono ?_
        rintro e w' ⟨rfl, rfl⟩
        go_wp2_with (go_at_call 131; refine (rput_any x hr _).mono ?_; rintro e w' ⟨rfl, hbel⟩)
        go_ret
        exact ⟨ret_int FIN.out.symm, ((Below.refl _ _).alloc (Nat.le_refl _) _).trans (hbel.mono (by simp))⟩
      · have hb := toList_ne he
        have hfin : numberR s = -1 := by rw [numberR, if_neg (by rw [HZ.out]; omega), HF.out, if_neg (fun h => he h.2)]
        have FIN := Lib.hid hfin
        clear he hfin
        refine (rright_any _ _).mono ?_
        rintro e w' ⟨rfl, rfl⟩
        go_wp2_with (go_at_call 131; refine (rput_any x hr _).mono ?_; rintro e w' ⟨rfl, hbel⟩)
        go_ret
        exact ⟨ret_int FIN.out.symm, ((Below.refl _ _).alloc (Nat.le_refl _) _).trans (hbel.mono (by simp))⟩
    · have hr' : right x = false := by simpa using hr
      have hfin : numberR s = -1 := by rw [numberR, if_neg (by rw [HZ.out]; omega), HF.out, if_neg (fun h => hr h.1)]
      have FIN := Lib.hid hfin
      clear hr hfin
      refine (rright_any _ _).mono ?_
      rintro e w' ⟨rfl, rfl⟩
      go_wp2_with fail
      go_ret
      exact ⟨ret_int FIN.out.symm, (Below.refl _ _).alloc (Nat.le_refl _) _⟩
theorem number_any (s : ByteArray) (h0 : 1 ≤ s.size) (h4 : s.size ≤ 4) (w : World) :
    Calls Tryz.prog 123 #[.string s] w fun e w' => e = .returned (.int .i64 (numberR s)) ∧ Below w.heap.size w w' := by
  have h : s.size = 1 ∨ s.size = 2 ∨ s.size = 3 ∨ s.size = 4 := by omega
  rcases h with h | h | h | h
  · exact number1 s h w
  · exact number2 s h w
  · exact number3 s h w
  · exact number4 s h w
end Go.Proofs.YtfnfbbmegdkhjaaGreat

namespace Go.Proofs.YtfnfbbmegdkhjaaGreat
open Go.RowKit
def encN (m : Int) : List Nat := (encL m).map Int.toNat
theorem right_iff (m : Int) : right m = true ↔ 0 ≤ m ∧ m ≤ 1114111 ∧ (m < 55296 ∨ 57343 < m) := by simp [right]
theorem leadW1 (c : Int) (h : c < 128) : leadW c = 1 := if_pos h
theorem leadW2 (c : Int) (h : 192 ≤ c ∧ c < 224) : leadW c = 2 := by unfold leadW; rw [if_neg (by omega), if_pos h]
theorem leadW3 (c : Int) (h : 224 ≤ c ∧ c < 240) : leadW c = 3 := by unfold leadW; rw [if_neg (by omega), if_neg (by omega), if_pos h]
theorem leadW4 (c : Int) (h : 240 ≤ c ∧ c < 248) : leadW c = 4 := by unfold leadW; rw [if_neg (by omega), if_neg (by omega), if_neg (by omega), if_pos h]
theorem leadB1 (c : Int) (h : c < 128) : leadB c = c := if_pos h
theorem leadB2 (c : Int) (h : 192 ≤ c ∧ c < 224) : leadB c = c - 192 := by unfold leadB; rw [if_neg (by omega), if_pos h]; omega
theorem leadB3 (c : Int) (h : 224 ≤ c ∧ c < 240) : leadB c = c - 224 := by unfold leadB; rw [if_neg (by omega), if_neg (by omega), if_pos h]; omega
theorem leadB4 (c : Int) (h : 240 ≤ c ∧ c < 248) : leadB c = c - 240 := by unfold leadB; rw [if_neg (by omega), if_neg (by omega), if_neg (by omega), if_pos h]; omega
theorem width1 (m : Int) (h : m < 128) : width m = 1 := if_pos h
theorem width2 (m : Int) (h : 128 ≤ m) (h' : m < 2048) : width m = 2 := by unfold width; rw [if_neg (by omega), if_pos h']
theorem width3 (m : Int) (h : 2048 ≤ m) (h' : m < 65536) : width m = 3 := by unfold width; rw [if_neg (by omega), if_neg (by omega), if_pos h']
theorem width4 (m : Int) (h : 65536 ≤ m) : width m = 4 := by unfold width; rw [if_neg (by omega), if_neg (by omega), if_neg (by omega)]
theorem dec1 (a : Nat) (r : List Nat) (h : a < 128) : dec (a :: r) = some ((a : Int), 1) := by
  have e : right (a : Int) = true := (right_iff _).2 (by omega)
  simp only [dec, leadW1 (a : Int) (by omega), leadB1 (a : Int) (by omega)]
  rw [if_neg (by omega)]; simp [accs, conts, e, width1 (a : Int) (by omega)]
theorem dec2 (a b : Nat) (r : List Nat) (h : 192 ≤ a ∧ a < 224) : dec (a :: b :: r) = if b / 64 = 2 ∧ 194 ≤ a then some (((a : Int) - 192) * 64 + (b % 64 : Nat), 2) else none := by
  simp only [dec, leadW2 (a : Int) (by omega), leadB2 (a : Int) (by omega)]
  rw [if_neg (by simp; omega)]
  have e : (b :: r).take (((2 : Int) - 1).toNat) = [b] := rfl
  rw [e]
  by_cases hb : b / 64 = 2 ∧ 194 ≤ a
  · rw [if_pos hb, if_pos ⟨by simpa [conts] using hb.1, (right_iff _).2 (by simp [accs]; omega), width2 _ (by simp [accs]; omega) (by simp [accs]; omega)⟩]; rfl
  · rw [if_neg hb, if_neg]
    rintro ⟨h1, h2, h3⟩
    have h1' : b / 64 = 2 := by simpa [conts] using h1
    have : accs ((a:Int) - 192) [b] < 128 := by simp [accs]; omega
    rw [width1 _ this] at h3; omega
theorem dec3 (a b c : Nat) (r : List Nat) (h : 224 ≤ a ∧ a < 240) : dec (a :: b :: c :: r) = if b / 64 = 2 ∧ c / 64 = 2 ∧ right ((((a : Int) - 224) * 64 + (b % 64 : Nat)) * 64 + (c % 64 : Nat)) = true ∧ (225 ≤ a ∨ 160 ≤ b) then some ((((a : Int) - 224) * 64 + (b % 64 : Nat)) * 64 + (c % 64 : Nat), 3) else none := by
  simp only [dec, leadW3 (a : Int) (by omega), leadB3 (a : Int) (by omega)]
  rw [if_neg (by simp; omega)]
  have e : (b :: c :: r).take (((3 : Int) - 1).toNat) = [b, c] := rfl
  rw [e]
  have ea : accs ((a:Int) - 224) [b, c] = (((a : Int) - 224) * 64 + (b % 64 : Nat)) * 64 + (c % 64 : Nat) := rfl
  rw [ea]
  by_cases hb : b / 64 = 2 ∧ c / 64 = 2 ∧ right ((((a : Int) - 224) * 64 + (b % 64 : Nat)) * 64 + (c % 64 : Nat)) = true ∧ (225 ≤ a ∨ 160 ≤ b)
  · rw [if_pos hb, if_pos ⟨by simpa [conts] using ⟨hb.1, hb.2.1⟩, hb.2.2.1, width3 _ (by omega) (by omega)⟩]
  · rw [if_neg hb, if_neg]
    rintro ⟨h1, h2, h3⟩
    have h1' : b / 64 = 2 ∧ c / 64 = 2 := by simpa [conts] using h1
    refine hb ⟨h1'.1, h1'.2, h2, ?_⟩
    by_cases hx : (((a : Int) - 224) * 64 + (b % 64 : Nat)) * 64 + (c % 64 : Nat) < 2048
    · unfold width at h3; repeat' split at h3 <;> omega
    · omega
theorem dec4 (a b c d : Nat) (r : List Nat) (h : 240 ≤ a ∧ a < 248) : dec (a :: b :: c :: d :: r) = if b / 64 = 2 ∧ c / 64 = 2 ∧ d / 64 = 2 ∧ right (((((a : Int) - 240) * 64 + (b % 64 : Nat)) * 64 + (c % 64 : Nat)) * 64 + (d % 64 : Nat)) = true ∧ (241 ≤ a ∨ 144 ≤ b) then some (((((a : Int) - 240) * 64 + (b % 64 : Nat)) * 64 + (c % 64 : Nat)) * 64 + (d % 64 : Nat), 4) else none := by
  simp only [dec, leadW4 (a : Int) (by omega), leadB4 (a : Int) (by omega)]
  rw [if_neg (by simp; omega)]
  have e : (b :: c :: d :: r).take (((4 : Int) - 1).toNat) = [b, c, d] := rfl
  rw [e]
  have ea : accs ((a:Int) - 240) [b, c, d] = ((((a : Int) - 240) * 64 + (b % 64 : Nat)) * 64 + (c % 64 : Nat)) * 64 + (d % 64 : Nat) := rfl
  rw [ea]
  by_cases hb : b / 64 = 2 ∧ c / 64 = 2 ∧ d / 64 = 2 ∧ right (((((a : Int) - 240) * 64 + (b % 64 : Nat)) * 64 + (c % 64 : Nat)) * 64 + (d % 64 : Nat)) = true ∧ (241 ≤ a ∨ 144 ≤ b)
  · rw [if_pos hb, if_pos ⟨by simpa [conts] using ⟨hb.1, hb.2.1, hb.2.2.1⟩, hb.2.2.2.1, width4 _ (by omega)⟩]
  · rw [if_neg hb, if_neg]
    rintro ⟨h1, h2, h3⟩
    have h1' : b / 64 = 2 ∧ c / 64 = 2 ∧ d / 64 = 2 := by simpa [conts] using h1
    refine hb ⟨h1'.1, h1'.2.1, h1'.2.2, h2, ?_⟩
    by_cases hx : ((((a : Int) - 240) * 64 + (b % 64 : Nat)) * 64 + (c % 64 : Nat)) * 64 + (d % 64 : Nat) < 65536
    · unfold width at h3; repeat' split at h3 <;> omega
    · omega
theorem encL1 (m : Int) (h : m < 128) : encL m = [m] := if_pos h
theorem encL2 (m : Int) (h : 128 ≤ m) (h' : m < 2048) : encL m = [192 + m / 64, 128 + m % 64] := by unfold encL; rw [if_neg (by omega), if_pos h']
theorem encL3 (m : Int) (h : 2048 ≤ m) (h' : m < 65536) : encL m = [224 + m / 64 / 64, 128 + m / 64 % 64, 128 + m % 64] := by unfold encL; rw [if_neg (by omega), if_neg (by omega), if_pos h']
theorem encL4 (m : Int) (h : 65536 ≤ m) : encL m = [240 + m / 64 / 64 / 64, 128 + m / 64 / 64 % 64, 128 + m / 64 % 64, 128 + m % 64] := by unfold encL; rw [if_neg (by omega), if_neg (by omega), if_neg (by omega)]
/-- a sign's four ranges -/
theorem ranges (m : Int) (h : right m = true) : (0 ≤ m ∧ m < 128) ∨ (128 ≤ m ∧ m < 2048) ∨ (2048 ≤ m ∧ m < 65536) ∨ (65536 ≤ m ∧ m ≤ 1114111) := by
  have := (right_iff m).1 h; omega
theorem dec_enc (m : Int) (hm : right m = true) (r : List Nat) : dec (encN m ++ r) = some (m, width m) := by
  rcases ranges m hm with h | h | h | h
  · rw [encN, encL1 m h.2, width1 m h.2]
    have := dec1 m.toNat r (by omega)
    rw [show ((m.toNat : Nat) : Int) = m by omega] at this; exact this
  · rw [encN, encL2 m h.1 h.2, width2 m h.1 h.2]
    have := dec2 (192 + m / 64).toNat (128 + m % 64).toNat r (by omega)
    rw [if_pos (by omega)] at this
    refine this.trans ?_
    rw [show (((192 + m / 64).toNat : Int) - 192) * 64 + (((128 + m % 64).toNat % 64 : Nat) : Int) = m by omega]
  · rw [encN, encL3 m h.1 h.2, width3 m h.1 h.2]
    have := dec3 (224 + m / 64 / 64).toNat (128 + m / 64 % 64).toNat (128 + m % 64).toNat r (by omega)
    rw [show ((((224 + m / 64 / 64).toNat : Int) - 224) * 64 + (((128 + m / 64 % 64).toNat % 64 : Nat) : Int)) * 64 + (((128 + m % 64).toNat % 64 : Nat) : Int) = m by omega, if_pos ⟨by omega, by omega, hm, by omega⟩] at this
    exact this
  · rw [encN, encL4 m h.1, width4 m h.1]
    have := dec4 (240 + m / 64 / 64 / 64).toNat (128 + m / 64 / 64 % 64).toNat (128 + m / 64 % 64).toNat (128 + m % 64).toNat r (by omega)
    rw [show (((((240 + m / 64 / 64 / 64).toNat : Int) - 240) * 64 + (((128 + m / 64 / 64 % 64).toNat % 64 : Nat) : Int)) * 64 + (((128 + m / 64 % 64).toNat % 64 : Nat) : Int)) * 64 + (((128 + m % 64).toNat % 64 : Nat) : Int) = m by omega, if_pos ⟨by omega, by omega, by omega, hm, by omega⟩] at this
    exact this
set_option maxRecDepth 100000 in
theorem dec_some (l : List Nat) (m w : Int) (h : dec l = some (m, w)) : right m = true ∧ w = width m ∧ ∃ r, l = encN m ++ r := by
  match l with
  | [] => simp [dec] at h
  | a :: r =>
    by_cases h1 : a < 128
    · rw [dec1 a r h1] at h
      simp only [Option.some.injEq, Prod.mk.injEq] at h
      obtain ⟨rfl, rfl⟩ := h
      exact ⟨(right_iff _).2 (by omega), (width1 _ (by omega)).symm, r, by rw [encN, encL1 _ (by omega)]; rfl⟩
    by_cases h2 : 192 ≤ a ∧ a < 224
    · match r with
      | [] => simp [dec, leadW2 (a : Int) (by omega)] at h
      | b :: r =>
        rw [dec2 a b r h2] at h
        split at h
        · rename_i hb
          simp only [Option.some.injEq, Prod.mk.injEq] at h
          obtain ⟨rfl, rfl⟩ := h
          refine ⟨(right_iff _).2 (by omega), (width2 _ (by omega) (by omega)).symm, r, ?_⟩
          rw [encN, encL2 _ (by omega) (by omega)]
          simp only [List.map, List.cons_append, List.nil_append]
          congr 1
          · omega
          · congr 1; omega
        · cases h
    by_cases h3 : 224 ≤ a ∧ a < 240
    · match r with
      | [] => simp [dec, leadW3 (a : Int) (by omega)] at h
      | [_] => simp [dec, leadW3 (a : Int) (by omega)] at h
      | b :: c :: r =>
        rw [dec3 a b c r h3] at h
        split at h
        · rename_i hb
          simp only [Option.some.injEq, Prod.mk.injEq] at h
          obtain ⟨rfl, rfl⟩ := h
          refine ⟨hb.2.2.1, (width3 _ (by omega) (by omega)).symm, r, ?_⟩
          rw [encN, encL3 _ (by omega) (by omega)]
          simp only [List.map, List.cons_append, List.nil_append]
          congr 1
          · omega
          · congr 1
            · omega
            · congr 1; omega
        · cases h
    by_cases h4 : 240 ≤ a ∧ a < 248
    · match r with
      | [] => simp [dec, leadW4 (a : Int) (by omega)] at h
      | [_] => simp [dec, leadW4 (a : Int) (by omega)] at h
      | [_, _] => simp [dec, leadW4 (a : Int) (by omega)] at h
      | b :: c :: d :: r =>
        rw [dec4 a b c d r h4] at h
        split at h
        · rename_i hb
          simp only [Option.some.injEq, Prod.mk.injEq] at h
          obtain ⟨rfl, rfl⟩ := h
          refine ⟨hb.2.2.2.1, (width4 _ (by omega)).symm, r, ?_⟩
          rw [encN, encL4 _ (by omega)]
          simp only [List.map, List.cons_append, List.nil_append]
          congr 1
          · omega
          · congr 1
            · omega
            · congr 1
              · omega
              · congr 1; omega
        · cases h
    · have h0 : leadW (a : Int) = 0 := by unfold leadW; repeat' split <;> omega
      simp [dec, h0] at h
theorem encN_lt (m : Int) (h : right m = true) : ∀ c ∈ encN m, c < 256 := by
  rcases ranges m h with h | h | h | h
  · rw [encN, encL1 m h.2]; intro c hc; simp at hc; omega
  · rw [encN, encL2 m h.1 h.2]; intro c hc; simp at hc; omega
  · rw [encN, encL3 m h.1 h.2]; intro c hc; simp at hc; omega
  · rw [encN, encL4 m h.1]; intro c hc; simp at hc; omega
theorem encN_length (m : Int) (h : right m = true) : ((encN m).length : Int) = width m := by
  rcases ranges m h with h | h | h | h
  · rw [encN, encL1 m h.2, width1 m h.2]; rfl
  · rw [encN, encL2 m h.1 h.2, width2 m h.1 h.2]; rfl
  · rw [encN, encL3 m h.1 h.2, width3 m h.1 h.2]; rfl
  · rw [encN, encL4 m h.1, width4 m h.1]; rfl
theorem width_le (m : Int) : 1 ≤ width m ∧ width m ≤ 4 := by unfold width; repeat' split <;> omega
theorem nats_of (l : List Int) (h : ∀ c ∈ l.map Int.toNat, c < 256) : nats (strOfNums l) = l.map Int.toNat := by
  rw [nats, strOfNums_data, List.map_map]
  refine List.map_congr_left fun c hc => ?_
  have := h c.toNat (List.mem_map.2 ⟨c, hc, rfl⟩)
  simp; omega
theorem nats_enc (m : Int) (h : right m = true) : nats (enc m) = encN m := nats_of _ (encN_lt m h)
theorem nats_inj {a b : ByteArray} (h : nats a = nats b) : a = b := by
  refine ByteArray.ext (Array.toList_inj.mp ?_)
  exact (List.map_inj_right (fun x y h => UInt8.toNat_inj.1 h)).1 h
theorem nats_extract (s : ByteArray) (n k : Nat) : nats (s.extract n (n + k)) = ((nats s).drop n).take k := by
  unfold nats
  rw [← List.map_drop, ← List.map_take]
  congr 1
  rw [ByteArray.data_extract, Array.toList_extract, List.extract_eq_take_drop, Nat.add_sub_cancel_left]
theorem decAt_of (s : ByteArray) (n : Nat) (h : n < s.size) : decAt s n = dec ((nats s).drop n) := by
  unfold decAt; rw [if_pos ⟨by omega, by omega⟩]; rfl
theorem number_some (s : ByteArray) (n w : Nat) (h : 1 ≤ w) (_hw : w ≤ 4) (hl : n + w ≤ s.size) (h0 : 0 ≤ numberR (s.extract n (n + w))) : decAt s n = some (numberR (s.extract n (n + w)), (w : Int)) := by
  have hsz : (s.extract n (n + w)).size = w := by rw [ByteArray.size_extract]; omega
  by_cases h1 : numStart (s.extract n (n + w)) < 0
  · rw [numberR, if_pos h1] at h0; omega
  rw [numberR, if_neg h1] at h0 ⊢
  split at h0
  · rename_i hr
    rw [if_pos hr]
    obtain ⟨hr, he⟩ := hr
    generalize numFold (s.extract n (n + w)) ((s.extract n (n + w)).size - 1) = m at *
    have hn : nats (s.extract n (n + w)) = encN m := by rw [← he, nats_enc m hr]
    have hwd : (w : Int) = width m := by rw [← encN_length m hr, ← hn, nats_length, hsz]
    rw [nats_extract] at hn
    rw [decAt_of s n (by omega), ← List.take_append_drop w ((nats s).drop n), hn, dec_enc m hr, hwd]
  · omega
theorem number_of (s : ByteArray) (m : Int) (hr : right m = true) (h : nats s = encN m) : numberR s = m := by
  have he : enc m = s := nats_inj (by rw [nats_enc m hr, h])
  have hsz : (s.size : Int) = width m := by rw [← nats_length, h, encN_length m hr]
  have hb : ∀ k, nb s k = (encN m).getD k 0 := fun k => by rw [nb, h]
  have key : numStart s ≥ 0 ∧ numFold s (s.size - 1) = m := by
    rcases ranges m hr with h | h | h | h
    · rw [encN, encL1 m h.2] at hb
      rw [width1 m h.2] at hsz
      have e : s.size = 1 := by omega
      have := hb 0
      simp [List.getD] at this
      simp [numFold, numStart, firsts, e, this]; omega
    · rw [encN, encL2 m h.1 h.2] at hb
      rw [width2 m h.1 h.2] at hsz
      have e : s.size = 2 := by omega
      have b0 := hb 0
      have b1 := hb 1
      simp [List.getD] at b0 b1
      simp [numFold, numStart, firsts, e, b0, b1]; omega
    · rw [encN, encL3 m h.1 h.2] at hb
      rw [width3 m h.1 h.2] at hsz
      have e : s.size = 3 := by omega
      have b0 := hb 0
      have b1 := hb 1
      have b2 := hb 2
      simp [List.getD] at b0 b1 b2
      simp [numFold, numStart, firsts, e, b0, b1, b2]; omega
    · rw [encN, encL4 m h.1] at hb
      rw [width4 m h.1] at hsz
      have e : s.size = 4 := by omega
      have b0 := hb 0
      have b1 := hb 1
      have b2 := hb 2
      have b3 := hb 3
      simp [List.getD] at b0 b1 b2 b3
      simp [numFold, numStart, firsts, e, b0, b1, b2, b3]; omega
  rw [numberR, if_neg (by omega), key.2, if_pos ⟨hr, he⟩]
theorem number_none (s : ByteArray) (n : Nat) (h : n < s.size) (hn : ∀ w : Nat, 1 ≤ w → w ≤ 4 → n + w ≤ s.size → numberR (s.extract n (n + w)) < 0) : decAt s n = none := by
  rw [decAt_of s n h]
  cases hd : dec ((nats s).drop n) with
  | none => rfl
  | some x =>
    obtain ⟨m, w⟩ := x
    obtain ⟨hr, hw, r, hl⟩ := dec_some _ _ _ hd
    have h4 := width_le m
    have hlen := encN_length m hr
    have hle : (encN m).length ≤ s.size - n := by
      have := congrArg List.length hl
      rw [List.length_drop, nats_length, List.length_append] at this; omega
    have hx := hn (encN m).length (by omega) (by omega) (by omega)
    rw [number_of _ m hr (by rw [nats_extract, hl, List.take_left])] at hx
    have := (right_iff m).1 hr
    omega
end Go.Proofs.YtfnfbbmegdkhjaaGreat

namespace Go.Proofs.YtfnfbbmegdkhjaaGreat
open Go.RowKit
def nextOk (s : ByteArray) (i : Int) : Bool := (decAt s i).isSome
set_option maxRecDepth 100000 in
set_option maxHeartbeats 1000000 in
theorem rnext_any (s : ByteArray) (hs : s.size ≤ maxLen) (i : Int) (w : World) :
    Calls Tryz.prog 108 #[.string s, .int .i64 i] w fun e w' => e = .returned (.tuple #[.int .i64 (nextN s i), .int .i64 (nextW s i), .bool (nextOk s i)]) ∧ Below w.heap.size w w' := by
  unfold maxLen at hs
  by_cases hi : 0 ≤ i ∧ i < s.size
  · obtain ⟨n, rfl⟩ := Int.eq_ofNat_of_zero_le hi.1
    have hlt : n < s.size := by omega
    clear hi
    have hd1 : decide ((n : Int) < 0) = false := by simp
    have hd2 : decide (s.size ≤ n) = false := by simpa using hlt
    go_enter Tryz.func108, Tryz.ntmps108
    go_wp2_with fail
    go_loopw [7] (fun x wr => ∃ k : Nat, 1 ≤ k ∧ k ≤ 5 ∧ k ≤ s.size - n + 1 ∧ x = .int .i64 k ∧ Hid (∀ j : Nat, 1 ≤ j → j < k → numberR (s.extract n (n + j)) < 0) ∧ Below w.heap.size w wr) (fun x _ => (5 - intOf x).toNat)
    case atStart => exact ⟨1, Nat.le_refl _, by omega, by omega, rfl, fun j h1 h2 => by omega, Below.refl _ _⟩
    case round =>
      obtain ⟨k, hk1, hk5, hkn, rfl, hall, hbel⟩ := hrel
      by_cases hk : k ≤ 4 ∧ k ≤ s.size - n
      · have hk4 := hk.1
        have hkl : (k : Int) ≤ s.size - n := by omega
        clear hk
        have hsz : (s.extract n (n + k)).size = k := by rw [ByteArray.size_extract]; omega
        have hsz1 := Lib.hid (show 1 ≤ (s.extract n (n+k)).size by omega)
        have hsz4 := Lib.hid (show (s.extract n (n+k)).size ≤ 4 by omega)
        clear hsz
        go_wp2_with (go_at_call 123; refine (number_any _ hsz1.out hsz4.out _).mono ?_; rintro e w' ⟨rfl, hb2⟩)
        · have h0 : 0 ≤ numberR (s.extract n (n + k)) := by assumption
          have hS := number_some s n k hk1 hk4 (by omega) h0
          go_ret3
          exact ⟨ret_iib (by simp only [nextN, hS]) (by simp only [nextW, hS]) (by simp only [nextOk, hS]; rfl), hbel.trans (hb2.mono hbel.size)⟩
        · have hneg : numberR (s.extract n (n + k)) < 0 := by assumption
          have hall2 : Hid (∀ j : Nat, 1 ≤ j → j < k + 1 → numberR (s.extract n (n + j)) < 0) := by
            intro j h1 h2
            by_cases e : j = k
            · rw [e]; exact hneg
            · exact hall.out j h1 (by omega)
          go_roundw
          case rel => exact ⟨k + 1, by omega, by omega, by omega, by go_num, hall2, hbel.trans (hb2.mono hbel.size)⟩
          case measure => simp [intOf]; omega
      · have hN : decAt s n = none := by
          refine number_none s n hlt fun j h1 h4 hj => hall.out j h1 ?_
          omega
        have fin : Hid (nextN s n = 0 ∧ nextW s n = 0 ∧ nextOk s n = false) := by
          simp only [Hid, nextN, nextW, nextOk, hN]; exact ⟨trivial, trivial, rfl⟩
        clear hN
        by_cases hk4 : k ≤ 4
        · have hkl : ¬ (k : Int) ≤ s.size - n := by omega
          clear hk
          go_wp2_with fail
          go_ret3
          exact ⟨ret_iib fin.out.1.symm fin.out.2.1.symm fin.out.2.2.symm, hbel⟩
        · clear hk
          go_wp2_with fail
          go_ret3
          exact ⟨ret_iib fin.out.1.symm fin.out.2.1.symm fin.out.2.2.symm, hbel⟩
  · have hN : decAt s i = none := by unfold decAt; rw [if_neg hi]
    have fin : Hid (nextN s i = 0 ∧ nextW s i = 0 ∧ nextOk s i = false) := by
        simp only [Hid, nextN, nextW, nextOk, hN]; exact ⟨trivial, trivial, rfl⟩
    clear hN
    by_cases h0 : i < 0
    · go_enter Tryz.func108, Tryz.ntmps108
      go_wp2
      go_ret3
      exact ⟨ret_iib fin.out.1.symm fin.out.2.1.symm fin.out.2.2.symm, Below.refl _ _⟩
    · have h1 : (s.size : Int) ≤ i := by omega
      clear hi
      go_enter Tryz.func108, Tryz.ntmps108
      go_wp2
      go_ret3
      exact ⟨ret_iib fin.out.1.symm fin.out.2.1.symm fin.out.2.2.symm, Below.refl _ _⟩
end Go.Proofs.YtfnfbbmegdkhjaaGreat

namespace Go.Proofs.YtfnfbbmegdkhjaaGreat
open Go.RowKit
def lexN : List Nat → List Nat → Bool
  | _, [] => false
  | [], _ :: _ => true
  | a :: x, b :: y => decide (a < b) || (a == b && lexN x y)
set_option maxHeartbeats 2000000 in
theorem lexN_enc (a b : Int) (ha : right a = true) (hb : right b = true) : lexN (encN a) (encN b) = decide (a < b) := by
  rcases ranges a ha with h | h | h | h <;> rcases ranges b hb with k | k | k | k
  all_goals
    unfold encN
    first | rw [encL1 a h.2] | rw [encL2 a h.1 h.2] | rw [encL3 a h.1 h.2] | rw [encL4 a h.1]
    first | rw [encL1 b k.2] | rw [encL2 b k.1 k.2] | rw [encL3 b k.1 k.2] | rw [encL4 b k.1]
    rw [Bool.eq_iff_iff]
    simp [lexN]
    omega
end Go.Proofs.YtfnfbbmegdkhjaaGreat

namespace Go.Proofs.YtfnfbbmegdkhjaaGreat
open Go.RowKit
/-- the signs from a place on, the place where it ends, whether that is the text's end -/
def allF (s : ByteArray) : Nat → Nat → List Int × Nat × Bool
  | 0, k => ([], k, true)
  | f + 1, k => if k < s.size then (match decAt s k with
      | some x => (x.1 :: (allF s f (k + x.2.toNat)).1, (allF s f (k + x.2.toNat)).2)
      | none => ([], k, false)) else ([], k, true)
def addP (l : List Int) (r : List Int × Nat × Bool) : List Int × Nat × Bool := (l ++ r.1, r.2)
def allA (s : ByteArray) : List Int × Nat × Bool := allF s s.size 0
def allS (s : ByteArray) : List Int := if 65535 < s.size then [] else if (allA s).2.2 = true then (allA s).1 else []
def allAt (s : ByteArray) : Int := if 65535 < s.size then 0 else if (allA s).2.2 = true then s.size else (allA s).2.1
def allE (s : ByteArray) : Int := if 65535 < s.size then 2 else if (allA s).2.2 = true then 0 else 1
theorem allF_end (s : ByteArray) (f k : Nat) (h : s.size ≤ k) : allF s f k = ([], k, true) := by
  cases f with
  | zero => rfl
  | succ f => rw [allF, if_neg (by omega)]
theorem allF_none (s : ByteArray) (f k : Nat) (h : k < s.size) (hf : s.size ≤ k + f) (hd : decAt s k = none) : allF s f k = ([], k, false) := by
  cases f with
  | zero => omega
  | succ f => rw [allF, if_pos h, hd]
theorem allF_some (s : ByteArray) (f k : Nat) (x : Int × Int) (l : List Int) (h : k < s.size) (hf : s.size ≤ k + f) (hd : decAt s k = some x) (hw : 1 ≤ x.2) : ∃ f', s.size ≤ k + x.2.toNat + f' ∧ addP l (allF s f k) = addP (l ++ [x.1]) (allF s f' (k + x.2.toNat)) := by
  cases f with
  | zero => omega
  | succ f =>
    refine ⟨f, by omega, ?_⟩
    rw [allF, if_pos h, hd]
    simp [addP]
/-- what a sign is: its width, and that it lies within the text -/
theorem decAt_bd (s : ByteArray) (k : Nat) (h : k < s.size) (x : Int × Int) (hd : decAt s k = some x) : 1 ≤ x.2 ∧ x.2 ≤ 4 ∧ (k : Int) + x.2 ≤ s.size := by
  rw [decAt_of s k h] at hd
  obtain ⟨hr, hw, r, hl⟩ := dec_some _ _ _ hd
  have h4 := width_le x.1
  have hlen := encN_length x.1 hr
  have := congrArg List.length hl
  rw [List.length_drop, nats_length, List.length_append] at this
  omega
theorem info3 : (Tryz.prog.info? 3).map (fun i => (i.zero, i.size, i.bytes)) = some (some (.int .i64 0), 1, 8) := by kernel_rfl
set_option maxRecDepth 100000 in
set_option maxHeartbeats 1000000 in
theorem all_any (s : ByteArray) (hs : s.size ≤ maxLen) (w : World) :
    Calls Tryz.prog 87 #[.string s] w fun e w' => ∃ v, e = .returned (.tuple #[v, .int .i64 (allAt s), .int .i64 (allE s)]) ∧ w'.ownsRow w.heap.size 3 1 v (allS s).length ((allS s).map (Value.int .i64)) ∧ Below w.heap.size w w' := by
  have hs0 := hs
  unfold maxLen at hs
  obtain ⟨i0, hi, hz0, hz1, hz2⟩ := info_parts info3
  by_cases hlong : 65535 < s.size
  · have e1 : allS s = [] := if_pos hlong
    have e2 : allAt s = 0 := if_pos hlong
    have e3 : allE s = 2 := if_pos hlong
    rw [e1, e2, e3]
    go_enter Tryz.func87, Tryz.ntmps87
    go_wp2_with fail
    go_ret3
    exact ⟨_, rfl, World.ownsRow_nil _ _ _ _, Below.refl _ _⟩
  · have hshort : s.size ≤ 65535 := by omega
    have E1 := Lib.hid (show allS s = if (allA s).2.2 = true then (allA s).1 else [] from if_neg hlong)
    have E2 := Lib.hid (show allAt s = if (allA s).2.2 = true then (s.size : Int) else (allA s).2.1 from if_neg hlong)
    have E3 := Lib.hid (show allE s = if (allA s).2.2 = true then 0 else 1 from if_neg hlong)
    clear hlong
    go_enter Tryz.func87, Tryz.ntmps87
    go_wp2_with fail
    go_loopw [5, 6] (fun v i wr => ∃ k : Nat, k ≤ s.size ∧ i = .int .i64 k ∧ (∃ l : List Int, l.length ≤ k ∧ Hid (∃ f, s.size ≤ k + f ∧ addP l (allF s f k) = allA s) ∧ wr.ownsRow w.heap.size 3 1 v l.length (l.map (Value.int .i64))) ∧ Below w.heap.size w wr)
      (fun _ i _ => s.size - (intOf i).toNat)
    case atStart => exact ⟨0, Nat.zero_le _, rfl, ⟨[], Nat.le_refl _, ⟨s.size, by omega, rfl⟩, World.ownsRow_nil _ _ _ _⟩, Below.refl _ _⟩
    case round =>
      obtain ⟨k, hk, rfl, ⟨l, hlk, HF, hown⟩, hbel⟩ := hrel
      by_cases hlt : k < s.size
      · cases hd : decAt s k with
        | none =>
          have n3 : nextE s k = 1 := by simp only [nextE, hd]
          have HN := Lib.hid (show allA s = (l, k, false) by
            obtain ⟨f, hf, hp⟩ := HF.out
            rw [← hp, allF_none s f k hlt hf hd]; simp [addP])
          clear hd
          go_wp2_with fail
          refine (next_any s hs0 _ _).mono ?_
          rintro e w' ⟨rfl, rfl⟩
          go_wp2_with fail
          go_ret3
          have hA := HN.out
          have x1 : allS s = [] := by rw [E1.out, hA]; rfl
          have x2 : allAt s = k := by rw [E2.out, hA]; rfl
          have x3 : allE s = 1 := by rw [E3.out, hA]; rfl
          rw [x1, x2, x3]
          exact ⟨_, rfl, World.ownsRow_nil _ _ _ _, hbel⟩
        | some x =>
          have n1 : nextN s k = x.1 := by simp only [nextN, hd]
          have n2 : nextW s k = x.2 := by simp only [nextW, hd]
          have n3 : nextE s k = 0 := by simp only [nextE, hd]
          have hbd := decAt_bd s k hlt x hd
          have HF2 := Lib.hid (show ∃ f, s.size ≤ k + x.2.toNat + f ∧ addP (l ++ [x.1]) (allF s f (k + x.2.toNat)) = allA s by
            obtain ⟨f, hf, hp⟩ := HF.out
            obtain ⟨f', hf', hp'⟩ := allF_some s f k x l hlt hf hd hbd.1
            exact ⟨f', hf', hp'.symm.trans hp⟩)
          have hx1 := hbd.1
          have hx2 := hbd.2.1
          have hx3 := hbd.2.2
          clear hd HF hbd
          generalize x.1 = n at *
          generalize x.2 = wd at *
          go_wp2_with fail
          refine (next_any s hs0 _ _).mono ?_
          rintro e w' ⟨rfl, rfl⟩
          have hown2 := hown
          have hbel2 := hbel
          go_wp2_with (at_builtin; refine wpList_app1 [.int .i64 n] rfl _ _ 28 rfl w.heap.size 3 i0 (.int .i64 0) 1 8 Tryz.underlying28 hi hz0 hz1 hz2 rfl (by decide) _ _ _ hown2 rfl rfl rfl (by intro u hu; simp at hu; subst hu; rfl) (by unfold maxLen; omega) (by omega) hbel2.size ?_)
          intro v' w1 hown' hb1'
          have hb1 := hbel2.trans hb1'
          have hown1 : w1.ownsRow w.heap.size 3 1 v' (l ++ [n]).length ((l ++ [n]).map (Value.int .i64)) := by
            rw [List.map_append, List.length_append]; exact hown'
          have hl2 : (l ++ [n]).length ≤ k + wd.toNat := by simp; omega
          clear hown' hb1' hown hbel hown2 hbel2
          go_wp2_with fail
          go_roundw
          case rel => exact ⟨k + wd.toNat, by omega, by rw [Int.natCast_add, Int.toNat_of_nonneg (by omega)], ⟨l ++ [n], hl2, HF2, hown1⟩, hb1⟩
          case measure => simp [intOf]; omega
      · have HN := Lib.hid (show allA s = (l, k, true) by
          obtain ⟨f, hf, hp⟩ := HF.out
          rw [← hp, allF_end s f k (by omega)]; simp [addP])
        go_wp2_with fail
        go_ret3
        have hA := HN.out
        have x1 : allS s = l := by rw [E1.out, hA]; rfl
        have x2 : allAt s = s.size := by rw [E2.out, hA]; rfl
        have x3 : allE s = 0 := by rw [E3.out, hA]; rfl
        rw [x1, x2, x3]
        exact ⟨_, rfl, hown, hbel⟩
set_option maxRecDepth 100000 in
set_option maxHeartbeats 1000000 in
theorem rall_any (s : ByteArray) (hs : s.size ≤ maxLen) (w : World) :
    Calls Tryz.prog 78 #[.string s] w fun e w' => ∃ v, e = .returned (.tuple #[v, .int .i64 (allAt s), .int .i64 (allE s)]) ∧ w'.ownsRow w.heap.size 3 1 v (allS s).length ((allS s).map (Value.int .i64)) ∧ Below w.heap.size w w' := by
  have hs0 := hs
  unfold maxLen at hs
  obtain ⟨i0, hi, hz0, hz1, hz2⟩ := info_parts info3
  by_cases hlong : 65535 < s.size
  · have e1 : allS s = [] := if_pos hlong
    have e2 : allAt s = 0 := if_pos hlong
    have e3 : allE s = 2 := if_pos hlong
    rw [e1, e2, e3]
    go_enter Tryz.func78, Tryz.ntmps78
    go_wp2_with fail
    go_ret3
    exact ⟨_, rfl, World.ownsRow_nil _ _ _ _, Below.refl _ _⟩
  · have hshort : s.size ≤ 65535 := by omega
    have E1 := Lib.hid (show allS s = if (allA s).2.2 = true then (allA s).1 else [] from if_neg hlong)
    have E2 := Lib.hid (show allAt s = if (allA s).2.2 = true then (s.size : Int) else (allA s).2.1 from if_neg hlong)
    have E3 := Lib.hid (show allE s = if (allA s).2.2 = true then 0 else 1 from if_neg hlong)
    clear hlong
    go_enter Tryz.func78, Tryz.ntmps78
    go_wp2_with fail
    go_loopw [5, 6] (fun v i wr => ∃ k : Nat, k ≤ s.size ∧ i = .int .i64 k ∧ (∃ l : List Int, l.length ≤ k ∧ Hid (∃ f, s.size ≤ k + f ∧ addP l (allF s f k) = allA s) ∧ wr.ownsRow w.heap.size 3 1 v l.length (l.map (Value.int .i64))) ∧ Below w.heap.size w wr)
      (fun _ i _ => s.size - (intOf i).toNat)
    case atStart => exact ⟨0, Nat.zero_le _, rfl, ⟨[], Nat.le_refl _, ⟨s.size, by omega, rfl⟩, World.ownsRow_made w #[] 0 (Nat.le_refl _) (Nat.zero_le _) rfl⟩, (Below.refl _ _).alloc (Nat.le_refl _) _⟩
    case round =>
      obtain ⟨k, hk, rfl, ⟨l, hlk, HF, hown⟩, hbel⟩ := hrel
      by_cases hlt : k < s.size
      · cases hd : decAt s k with
        | none =>
          have n3 : nextOk s k = false := by simp only [nextOk, hd]; rfl
          have HN := Lib.hid (show allA s = (l, k, false) by
            obtain ⟨f, hf, hp⟩ := HF.out
            rw [← hp, allF_none s f k hlt hf hd]; simp [addP])
          clear hd
          go_wp2_with fail
          refine (rnext_any s hs0 _ _).mono ?_
          rintro e w' ⟨rfl, hb2⟩
          go_wp2_with fail
          go_ret3
          have hA := HN.out
          have x1 : allS s = [] := by rw [E1.out, hA]; rfl
          have x2 : allAt s = k := by rw [E2.out, hA]; rfl
          have x3 : allE s = 1 := by rw [E3.out, hA]; rfl
          rw [x1, x2, x3]
          exact ⟨_, rfl, World.ownsRow_nil _ _ _ _, hbel.trans (hb2.mono hbel.size)⟩
        | some x =>
          have n1 : nextN s k = x.1 := by simp only [nextN, hd]
          have n2 : nextW s k = x.2 := by simp only [nextW, hd]
          have n3 : nextOk s k = true := by simp only [nextOk, hd]; rfl
          have hbd := decAt_bd s k hlt x hd
          have HF2 := Lib.hid (show ∃ f, s.size ≤ k + x.2.toNat + f ∧ addP (l ++ [x.1]) (allF s f (k + x.2.toNat)) = allA s by
            obtain ⟨f, hf, hp⟩ := HF.out
            obtain ⟨f', hf', hp'⟩ := allF_some s f k x l hlt hf hd hbd.1
            exact ⟨f', hf', hp'.symm.trans hp⟩)
          have hx1 := hbd.1
          have hx2 := hbd.2.1
          have hx3 := hbd.2.2
          clear hd HF hbd
          generalize x.1 = n at *
          generalize x.2 = wd at *
          go_wp2_with fail
          refine (rnext_any s hs0 _ _).mono ?_
          rintro e w' ⟨rfl, hb2⟩
          have hown2 := own_later hown hb2
          have hbel2 := hbel.trans (hb2.mono hbel.size)
          go_wp2_with (at_builtin; refine wpList_app1 [.int .i64 n] rfl _ _ 28 rfl w.heap.size 3 i0 (.int .i64 0) 1 8 Tryz.underlying28 hi hz0 hz1 hz2 rfl (by decide) _ _ _ hown2 rfl rfl rfl (by intro u hu; simp at hu; subst hu; rfl) (by unfold maxLen; omega) (by omega) hbel2.size ?_)
          intro v' w1 hown' hb1'
          have hb1 := hbel2.trans hb1'
          have hown1 : w1.ownsRow w.heap.size 3 1 v' (l ++ [n]).length ((l ++ [n]).map (Value.int .i64)) := by
            rw [List.map_append, List.length_append]; exact hown'
          have hl2 : (l ++ [n]).length ≤ k + wd.toNat := by simp; omega
          clear hown' hb1' hown hbel hown2 hbel2
          go_wp2_with fail
          go_roundw
          case rel => exact ⟨k + wd.toNat, by omega, by rw [Int.natCast_add, Int.toNat_of_nonneg (by omega)], ⟨l ++ [n], hl2, HF2, hown1⟩, hb1⟩
          case measure => simp [intOf]; omega
      · have HN := Lib.hid (show allA s = (l, k, true) by
          obtain ⟨f, hf, hp⟩ := HF.out
          rw [← hp, allF_end s f k (by omega)]; simp [addP])
        go_wp2_with fail
        go_ret3
        have hA := HN.out
        have x1 : allS s = l := by rw [E1.out, hA]; rfl
        have x2 : allAt s = s.size := by rw [E2.out, hA]; rfl
        have x3 : allE s = 0 := by rw [E3.out, hA]; rfl
        rw [x1, x2, x3]
        exact ⟨_, rfl, hown, hbel⟩
end Go.Proofs.YtfnfbbmegdkhjaaGreat

namespace Go.Proofs.YtfnfbbmegdkhjaaGreat
open Go.RowKit
def joinB (l : List Int) : List Int := l.flatMap encL
def joinE (l : List Int) : Int := if l.all right = true then (if 65535 < (joinB l).length then 2 else 0) else 16
def joinS (l : List Int) : ByteArray := if joinE l = 0 then strOfNums (joinB l) else ByteArray.empty
end Go.Proofs.YtfnfbbmegdkhjaaGreat

namespace Go.Proofs.YtfnfbbmegdkhjaaGreat
open Go.RowKit
end Go.Proofs.YtfnfbbmegdkhjaaGreat

namespace Go.Proofs.YtfnfbbmegdkhjaaGreat
open Go.RowKit
/-- what the signs' bytes are, as numbers -/
def joinN (l : List Int) : List Nat := l.flatMap encN
theorem joinN_eq (l : List Int) : joinN l = (joinB l).map Int.toNat := by
  unfold joinN joinB encN; rw [List.map_flatMap]
theorem joinN_lt (l : List Int) (h : l.all right = true) : ∀ c ∈ joinN l, c < 256 := by
  intro c hc
  obtain ⟨n, hn, hcn⟩ := List.mem_flatMap.1 hc
  exact encN_lt n (List.all_eq_true.1 h n hn) c hcn
theorem nats_join (l : List Int) (h : l.all right = true) : nats (strOfNums (joinB l)) = joinN l := by
  rw [joinN_eq]; exact nats_of _ (by rw [← joinN_eq]; exact joinN_lt l h)
theorem joinN_length (l : List Int) : (joinN l).length = (joinB l).length := by rw [joinN_eq, List.length_map]
theorem all_signs (s : ByteArray) : ∀ (f k : Nat), k ≤ s.size → s.size ≤ k + f → (allF s f k).2.2 = true → (allF s f k).1.all right = true ∧ (nats s).drop k = joinN (allF s f k).1 := by
  intro f
  induction f with
  | zero =>
    intro k hk hf _
    rw [allF]
    exact ⟨rfl, by rw [List.drop_of_length_le (by rw [nats_length]; omega)]; rfl⟩
  | succ f ih =>
    intro k hk hf h
    by_cases hlt : k < s.size
    · rw [allF, if_pos hlt] at h ⊢
      cases hd : decAt s k with
      | none => rw [hd] at h; simp at h
      | some x =>
        rw [hd] at h
        have hbd := decAt_bd s k hlt x hd
        have h2 := hd
        rw [decAt_of s k hlt] at h2
        obtain ⟨hr, hw, r, hl⟩ := dec_some _ _ _ h2
        obtain ⟨h3, h4⟩ := ih (k + x.2.toNat) (by omega) (by omega) h
        refine ⟨by simp only [List.all_cons, hr, h3]; rfl, ?_⟩
        have hlen := encN_length x.1 hr
        have he : (encN x.1).length = x.2.toNat := by omega
        show (nats s).drop k = encN x.1 ++ joinN _
        rw [← h4, hl, ← List.drop_drop, hl, ← he, List.drop_left]
    · rw [allF_end s _ k (by omega)]
      exact ⟨rfl, by rw [List.drop_of_length_le (by rw [nats_length]; omega)]; rfl⟩
theorem back_text (s : ByteArray) (h : allE s = 0) : joinE (allS s) = 0 ∧ joinS (allS s) = s := by
  unfold allE at h
  by_cases hl : 65535 < s.size
  · rw [if_pos hl] at h; omega
  rw [if_neg hl] at h
  by_cases hb : (allA s).2.2 = true
  · have hS : allS s = (allA s).1 := by unfold allS; rw [if_neg hl, if_pos hb]
    obtain ⟨hr, hn⟩ := all_signs s s.size 0 (Nat.zero_le _) (by omega) hb
    rw [← show allA s = allF s s.size 0 from rfl, ← hS] at hr hn
    have hlen : (joinB (allS s)).length = s.size := by rw [← joinN_length, ← hn, List.length_drop, nats_length]; omega
    have hE : joinE (allS s) = 0 := by unfold joinE; rw [if_pos hr, if_neg (by omega)]
    refine ⟨hE, ?_⟩
    unfold joinS; rw [if_pos hE]
    refine nats_inj ?_
    rw [nats_join _ hr, ← hn]; rfl
  · rw [if_neg hb] at h; omega
end Go.Proofs.YtfnfbbmegdkhjaaGreat
