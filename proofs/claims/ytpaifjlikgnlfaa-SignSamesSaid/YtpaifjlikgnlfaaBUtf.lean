import Derived.WalkKit
import Derived.Laws.BitsAllLaws
import Derived.Test.YtpaifjlikgnlfaaRows
import Derived.Test.YtpaifjlikgnlfaaBK
import Derived.WalkSpells
import Derived.Lib.Hide
import Derived.WalkLawsBesides
import Derived.Laws.Bits128
import Derived.Laws.BytesArg
import Derived.Handy
import Derived.Deep.LoopGhost
import Derived.Lib.AppendStr
import Derived.Lib.ConvBytes
set_option linter.unusedSimpArgs false
set_option linter.unusedVariables false
set_option maxHeartbeats 16000000
set_option maxRecDepth 100000
namespace Go.Proofs.Ytpaifjlikgnlfaa
open Go.RowKit
def right (n : Int) : Bool := decide (0 ≤ n ∧ n ≤ 1114111 ∧ (n < 55296 ∨ 57343 < n))
def Qbl (n : Int) : Int := if n < 128 then 1 else if n < 2048 then 2 else if n < 65536 then 3 else 4
def Qag (c : Int) : Int := if c < 128 then 1 else if 192 ≤ c ∧ c < 224 then 2 else if 224 ≤ c ∧ c < 240 then 3 else if 240 ≤ c ∧ c < 248 then 4 else 0
def Qbs (c : Int) : Int := if c < 128 then c else if 192 ≤ c ∧ c < 224 then c % 32 else if 224 ≤ c ∧ c < 240 then c % 16 else if 240 ≤ c ∧ c < 248 then c % 8 else 0
def nats (s : ByteArray) : List Nat := s.data.toList.map UInt8.toNat
def nb (s : ByteArray) (i : Nat) : Nat := (nats s).getD i 0
theorem Qck (s : ByteArray) : (nats s).length = s.size := by simp [nats]
theorem nb_eq (s : ByteArray) (i : Nat) (h : i < s.size) : s[i].toNat = nb s i := by
 unfold nb nats
 rw [List.getD_eq_getElem?_getD, List.getElem?_map, List.getElem?_eq_getElem (by simpa using h)]; rfl
def accs (n : Int) (l : List Nat) : Int := l.foldl (fun n c => n * 64 + (c % 64 : Nat)) n
def Qcz (l : List Nat) : Bool := l.all (fun c => c / 64 == 2)
def dec : List Nat → Option (Int × Int)
  | [] => none
  | c :: r =>
    if Qag c = 0 ∨ (r.length : Int) + 1 < Qag c then none else
    if Qcz (r.take (Qag c - 1).toNat) = true ∧ right (accs (Qbs c) (r.take (Qag c - 1).toNat)) = true ∧ Qbl (accs (Qbs c) (r.take (Qag c - 1).toNat)) = Qag c
    then some (accs (Qbs c) (r.take (Qag c - 1).toNat), Qag c) else none
def Qbr (s : ByteArray) (i : Int) : Option (Int × Int) := if 0 ≤ i ∧ i < s.size then dec ((nats s).drop i.toNat) else none
def Qda (s : ByteArray) (i : Int) : Int := match Qbr s i with | some x => x.1 | none => 0
def Qdb (s : ByteArray) (i : Int) : Int := match Qbr s i with | some x => x.2 | none => 0
def Qcm (s : ByteArray) (i : Int) : Int := match Qbr s i with | some _ => 0 | none => 1
theorem leadW_le (c : Int) : 0 ≤ Qag c ∧ Qag c ≤ 4 := by unfold Qag; repeat' split <;> omega
theorem leadB_le (c : Int) (h : 0 ≤ c) : 0 ≤ Qbs c ∧ Qbs c ≤ 127 := by unfold Qbs; repeat' split <;> omega
def tl (s : ByteArray) (n : Nat) : List Nat := (nats s).drop (n + 1)
theorem drop_tl (s : ByteArray) (n : Nat) (h : n < s.size) : (nats s).drop n = nb s n :: tl s n := by
 unfold tl nb
 rw [List.getD_eq_getElem?_getD, List.getElem?_eq_getElem (by rw [Qck]; exact h), List.drop_eq_getElem_cons (by rw [Qck]; exact h)]; rfl
theorem Qek (s : ByteArray) (n : Nat) : (tl s n).length = s.size - (n + 1) := by unfold tl; rw [List.length_drop, Qck]
theorem tl_get (s : ByteArray) (n k : Nat) : (tl s n).getD k 0 = nb s (n + 1 + k) := by
 unfold tl nb; rw [List.getD_eq_getElem?_getD, List.getElem?_drop, ← List.getD_eq_getElem?_getD]
theorem take_snoc {α : Type} (l : List α) (k : Nat) (d : α) (h : k < l.length) : l.take (k + 1) = l.take k ++ [l.getD k d] := by
 rw [List.take_succ_eq_append_getElem h, List.getD_eq_getElem?_getD, List.getElem?_eq_getElem h]; rfl
theorem accs_snoc (n : Int) (l : List Nat) (c : Nat) : accs n (l ++ [c]) = accs n l * 64 + (c % 64 : Nat) := by simp [accs]
theorem conts_snoc (l : List Nat) (c : Nat) : Qcz (l ++ [c]) = (Qcz l && (c / 64 == 2)) := by simp [Qcz, List.all_append]
theorem accs_nonneg (l : List Nat) : ∀ n : Int, 0 ≤ n → 0 ≤ accs n l := by
 induction l with
 | nil => intro n h; exact h
 | cons c r ih => intro n h; exact ih _ (by show (0:Int) ≤ n * 64 + (c % 64 : Nat); omega)
theorem accs_lt (l : List Nat) : ∀ n : Int, n ≤ 127 → accs n l < 128 * 64 ^ l.length := by
  intro n hn
  have : ∀ (l : List Nat) (n : Int), accs n l < (n + 1) * 64 ^ l.length := by
    intro l
    induction l with
    | nil => intro n; simp [accs]; omega
    | cons c r ih =>
      intro n
      have h1 := ih (n * 64 + (c % 64 : Nat))
      have e : accs n (c :: r) = accs (n * 64 + (c % 64 : Nat)) r := rfl
      rw [e, List.length_cons, Int.pow_succ]
      refine Int.lt_of_lt_of_le h1 ?_
      have h2 : n * 64 + (c % 64 : Nat) + 1 ≤ (n + 1) * 64 := by omega
      have h3 : (0:Int) ≤ 64 ^ r.length := Int.le_of_lt (Int.pow_pos (by decide))
      calc _ ≤ ((n + 1) * 64) * 64 ^ r.length := Int.mul_le_mul_of_nonneg_right h2 h3
        _ = _ := by rw [Int.mul_assoc, Int.mul_comm 64]
  refine Int.lt_of_lt_of_le (this l n) ?_
  exact Int.mul_le_mul_of_nonneg_right (by omega) (Int.le_of_lt (Int.pow_pos (by decide)))
theorem Qfl (s : ByteArray) (n : Nat) (h : n < s.size) : Qbr s n = dec (nb s n :: tl s n) := by
 unfold Qbr; rw [if_pos ⟨by omega, by omega⟩, ← drop_tl s n h]; rfl
theorem and192 : ∀ c : Nat, c < 256 → bits BinOp.and .u8 (c : Int) 192 = ((c / 64 * 64 : Nat) : Int) := by
 decide +kernel
theorem and63 : ∀ c : Nat, c < 256 → bits BinOp.and .u8 (c : Int) 63 = ((c % 64 : Nat) : Int) := by
 decide +kernel
theorem or_i64 (a b : Nat) (ha : a < 9223372036854775808) (hb : b < 9223372036854775808) : bits .or .i64 (a : Int) (b : Int) = ((a ||| b : Nat) : Int) := by
 have h : a ||| b < 2 ^ 63 := Nat.or_lt_two_pow ha hb
 have hw : ∀ x : Nat, x < 2 ^ 63 → IntKind.i64.wrap (x : Int) = x := by
  intro x hx
  have : (x:Int) < 9223372036854775808 := by omega
  simp [IntKind.wrap, IntKind.bits, IntKind.signed]; omega
 have e1 : ∀ x : Nat, x < 9223372036854775808 → (BitVec.ofInt 64 (x : Int)).toNat = x := by
  intro x hx
  rw [BitVec.ofInt_natCast, BitVec.toNat_ofNat]; exact Nat.mod_eq_of_lt (by omega)
 show IntKind.i64.wrap ((BitVec.ofInt 64 (a : Int) ||| BitVec.ofInt 64 (b : Int)).toNat : Int) = _
 rw [BitVec.toNat_or, e1 a ha, e1 b hb, hw _ h]
theorem or_shl (a b : Nat) (ha : a < 1000000000) (hb : b < 64) : bits .or .i64 ((a : Int) * 64) (b : Int) = (a : Int) * 64 + b := by
 have h := or_i64 (a * 64) b (by omega) (by omega)
 have e : a * 64 ||| b = a * 64 + b := by
  have := Nat.shiftLeft_add_eq_or_of_lt (i := 6) (b := b) (by omega) a
  rw [Nat.shiftLeft_eq] at this; exact this.symm
 rw [e] at h; simpa using h
theorem or_acc (a : Int) (h0 : 0 ≤ a) (h1 : a < 128 * 64 ^ 3) (c : Nat) (hc : c < 256) : bits .or .i64 (wrap64 (a * 64)) (wrap64 (bits BinOp.and .u8 (c : Int) 63)) = a * 64 + (c % 64 : Nat) := by
 obtain ⟨n, rfl⟩ := Int.eq_ofNat_of_zero_le h0
 rw [and63 c hc, IntWalk.wrap64_in _ ⟨by omega, by omega⟩, IntWalk.wrap64_in _ ⟨by omega, by omega⟩]
 exact or_shl n (c % 64) (by omega) (by omega)
theorem and_cont (c : Nat) (hc : c < 256) : (bits BinOp.and .u8 (c : Int) 192 != 128) = !(c / 64 == 2) := by
 rw [and192 c hc, Bool.eq_iff_iff]; simp; omega
theorem Qex (n : Int) (w : World) :
  Calls Try.prog 65 #[.int .i64 n] w fun e w' => e = .returned (.bool (right n)) ∧ w = w' := by
 go_enter Try.func65, Try.ntmps65
 go_wp2
 all_goals go_ret
 all_goals refine ⟨Qbk ?_, rfl⟩
 all_goals (unfold right; rw [Bool.eq_iff_iff]; simp; omega)
theorem width_any (n : Int) (w : World) :
  Calls Try.prog 73 #[.int .i64 n] w fun e w' => e = .returned (.int .i64 (Qbl n)) ∧ w = w' := by
 go_enter Try.func73, Try.ntmps73
 go_wp2
 all_goals go_ret
 all_goals refine ⟨ret_int ?_, rfl⟩
 all_goals (unfold Qbl; repeat' split) <;> first | rfl | omega
theorem lead_any (c : Int) (h0 : 0 ≤ c) (h1 : c ≤ 255) (w : World) :
  Calls Try.prog 72 #[.int .u8 c] w fun e w' => e = .returned (.tuple #[.int .i64 (Qag c), .int .i64 (Qbs c)]) ∧ w = w' := by
 go_enter Try.func72, Try.ntmps72
 go_wp2
 all_goals go_ret2
 all_goals refine ⟨ret_int2 ?_ ?_, rfl⟩
 all_goals (simp only [Qag, Qbs]; repeat' split) <;> first | rfl | omega
theorem next_any (s : ByteArray) (hs : s.size ≤ maxLen) (i : Int) (w : World) :
    Calls Try.prog 63 #[.string s, .int .i64 i] w fun e w' => e = .returned (.tuple #[.int .i64 (Qda s i), .int .i64 (Qdb s i), .int .i64 (Qcm s i)]) ∧ w = w' := by
  unfold maxLen at hs
  by_cases hi : 0 ≤ i ∧ i < s.size
  · obtain ⟨n, rfl⟩ := Int.eq_ofNat_of_zero_le hi.1
    have hlt : n < s.size := by omega
    clear hi
    by_cases hz : Qag (s[n].toNat) = 0 ∨ (s.size : Int) - n < Qag (s[n].toNat)
    · have hfin : Qbr s n = none := by
        rw [Qfl s n hlt, ← nb_eq s n hlt]
        simp only [dec, Qek]; rw [if_pos (by omega)]
      have fin : Hid (Qda s n = 0 ∧ Qdb s n = 0 ∧ Qcm s n = 1) := by
        simp only [Hid, Qda, Qdb, Qcm, hfin]; exact ⟨trivial, trivial, trivial⟩
      have HZ := Lib.hid hz
      clear hfin hz
      go_enter Try.func63, Try.ntmps63
      go_wp2_with (go_at_call 72; refine (lead_any _ (Int.natCast_nonneg _) (by have := s[n].toNat_lt; omega) _).mono ?_; rintro e w' ⟨rfl, rfl⟩)
      · go_ret3
        exact ⟨Qdg fin.out.1.symm fin.out.2.1.symm fin.out.2.2.symm, rfl⟩
      · go_ret3
        exact ⟨Qdg fin.out.1.symm fin.out.2.1.symm fin.out.2.2.symm, rfl⟩
      · have hbad : (Qag ↑s[n].toNat == 0) = false ∧ Qag ↑s[n].toNat ≤ ↑s.size - ↑n := by assumption
        have h1 : ¬ Qag ↑s[n].toNat = 0 := by simpa using hbad.1
        rcases HZ.out with h | h
        · exact absurd h h1
        · have := hbad.2; omega
    · have hz1 : (Qag (s[n].toNat) == 0) = false := by simp; omega
      have hz2 : Qag (s[n].toNat) ≤ (s.size : Int) - n := by omega
      have hw4 := (leadW_le s[n].toNat).2
      have hb := leadB_le s[n].toNat (Int.natCast_nonneg _)
      have hlead : Hid (Qag (s[n].toNat) ≠ 0) := by show Qag (s[n].toNat) ≠ 0; simpa using hz1
      clear hz
      go_enter Try.func63, Try.ntmps63
      go_wp2_with (go_at_call 72; refine (lead_any _ (Int.natCast_nonneg _) (by have := s[n].toNat_lt; omega) _).mono ?_; rintro e w' ⟨rfl, rfl⟩)
      go_loop [8, 9] (fun a i => ∃ k : Nat, 1 ≤ k ∧ (k:Int) ≤ Qag (s[n].toNat) ∧ i = .int .i64 k ∧ a = .int .i64 (accs (Qbs s[n].toNat) ((tl s n).take (k-1))) ∧ Qcz ((tl s n).take (k-1)) = true)
         (fun _ i => 4 - (intOf i).toNat)
      case atStart => exact ⟨1, Nat.le_refl _, by have := (leadW_le s[n].toNat).1; have := hlead.out; omega, rfl, rfl, rfl⟩
      case round =>
        obtain ⟨k, hk, hk2, rfl, rfl, hc⟩ := hrel
        have HC := Lib.hid hc; clear hc
        have hkl : n + k ≤ s.size := by omega
        go_wp2_with fail
        case roundEnd =>
          have hlt : (k : Int) < Qag s[n].toNat := by assumption
          have hnk : n + k < s.size := by omega
          have hcont : (bits BinOp.and IntKind.u8 (↑s[n + k].toNat) 192 != 128) = false := by assumption
          rw [and_cont _ s[n+k].toNat_lt] at hcont
          have hkt : k - 1 < (tl s n).length := by rw [Qek]; omega
          have hg : (tl s n).getD (k-1) 0 = s[n+k].toNat := by rw [tl_get, nb_eq]; congr 1; omega
          have hsn : (tl s n).take k = (tl s n).take (k-1) ++ [s[n+k].toNat] := by
            rw [← hg, ← take_snoc _ _ _ hkt]; congr 1; omega
          refine ⟨⟨k + 1, by omega, by omega, rfl, ?_, ?_⟩, by simp [intOf]; omega⟩
          · have hacc := accs_lt ((tl s n).take (k-1)) (Qbs s[n].toNat) hb.2
            have hlen : ((tl s n).take (k-1)).length ≤ 2 := by rw [List.length_take]; omega
            have hp : (64:Int) ^ ((tl s n).take (k-1)).length ≤ 64 ^ 2 := by
              have : ((tl s n).take (k-1)).length = 0 ∨ ((tl s n).take (k-1)).length = 1 ∨ ((tl s n).take (k-1)).length = 2 := by omega
              rcases this with h | h | h <;> rw [h] <;> decide
            rw [or_acc _ (accs_nonneg _ _ hb.1) (by omega) _ s[n+k].toNat_lt, Nat.add_sub_cancel, hsn, accs_snoc]
          · rw [Nat.add_sub_cancel, hsn, conts_snoc, HC.out]; simpa using hcont
        · have hlt : (k : Int) < Qag s[n].toNat := by assumption
          have hnk : n + k < s.size := by omega
          have hcont : (bits BinOp.and IntKind.u8 (↑s[n + k].toNat) 192 != 128) = true := by assumption
          rw [and_cont _ s[n+k].toNat_lt] at hcont
          have hkt : k - 1 < (tl s n).length := by rw [Qek]; omega
          have hg : (tl s n).getD (k-1) 0 = s[n+k].toNat := by rw [tl_get, nb_eq]; congr 1; omega
          have hcf : Qcz ((tl s n).take (Qag s[n].toNat - 1).toNat) = false := by
            have hmem : s[n+k].toNat ∈ (tl s n).take (Qag s[n].toNat - 1).toNat := by
              rw [← hg, List.mem_take_iff_getElem]
              refine ⟨k - 1, by omega, ?_⟩
              rw [List.getD_eq_getElem?_getD, List.getElem?_eq_getElem hkt]; rfl
            unfold Qcz
            rw [List.all_eq_false]
            exact ⟨_, hmem, by simpa using hcont⟩
          have hnone : Qbr s n = none := by
            rw [Qfl s n (by omega), ← nb_eq s n (by omega)]
            simp only [dec, Qek, hcf]
            rw [if_neg (by have := hlead.out; omega), if_neg (by simp)]
          go_ret3
          exact ⟨Qdg (by simp only [Qda, hnone]) (by simp only [Qdb, hnone]) (by simp only [Qcm, hnone]), rfl⟩
        · have hge : Qag s[n].toNat ≤ k := by assumption
          have hkw : (k : Int) = Qag s[n].toNat := by omega
          have hk1 : (Qag s[n].toNat - 1).toNat = k - 1 := by omega
          have hD : Qbr s n = if right (accs (Qbs s[n].toNat) ((tl s n).take (k-1))) = true ∧ Qbl (accs (Qbs s[n].toNat) ((tl s n).take (k-1))) = Qag s[n].toNat then some (accs (Qbs s[n].toNat) ((tl s n).take (k-1)), Qag s[n].toNat) else none := by
            rw [Qfl s n (by omega), ← nb_eq s n (by omega)]
            simp only [dec, Qek, hk1, HC.out]
            rw [if_neg (by have := hlead.out; omega)]; simp only [true_and]
          have HD := Lib.hid hD; clear hD
          generalize accs (Qbs s[n].toNat) ((tl s n).take (k-1)) = x at *
          clear hkw hk1
          by_cases hr : right x = true
          · by_cases hwd : Qbl x = Qag s[n].toNat
            · have hS : Qbr s n = some (x, Qag s[n].toNat) := by rw [HD.out, if_pos ⟨hr, hwd⟩]
              have fin : Hid (Qda s n = x ∧ Qdb s n = Qag s[n].toNat ∧ Qcm s n = 0) := by
                simp only [Hid, Qda, Qdb, Qcm, hS]; exact ⟨trivial, trivial, trivial⟩
              have hb1 : (Qbl x != Qag s[n].toNat) = false := by rw [hwd]; simp
              clear hS HD hwd
              refine (Qex _ _).mono ?_
              rintro e w' ⟨rfl, rfl⟩
              go_wp2_with (go_at_call 73; refine (width_any _ _).mono ?_; rintro e w' ⟨rfl, rfl⟩)
              go_ret3
              exact ⟨Qdg fin.out.1.symm fin.out.2.1.symm fin.out.2.2.symm, rfl⟩
            · have hS : Qbr s n = none := by rw [HD.out, if_neg (fun h => hwd h.2)]
              have fin : Hid (Qda s n = 0 ∧ Qdb s n = 0 ∧ Qcm s n = 1) := by
                simp only [Hid, Qda, Qdb, Qcm, hS]; exact ⟨trivial, trivial, trivial⟩
              have hb1 : (Qbl x != Qag s[n].toNat) = true := by simpa using hwd
              clear hS HD hwd
              refine (Qex _ _).mono ?_
              rintro e w' ⟨rfl, rfl⟩
              go_wp2_with (go_at_call 73; refine (width_any _ _).mono ?_; rintro e w' ⟨rfl, rfl⟩)
              go_ret3
              exact ⟨Qdg fin.out.1.symm fin.out.2.1.symm fin.out.2.2.symm, rfl⟩
          · have hS : Qbr s n = none := by rw [HD.out, if_neg (fun h => hr h.1)]
            have fin : Hid (Qda s n = 0 ∧ Qdb s n = 0 ∧ Qcm s n = 1) := by
              simp only [Hid, Qda, Qdb, Qcm, hS]; exact ⟨trivial, trivial, trivial⟩
            have hr' : right x = false := by simpa using hr
            clear hS HD hr
            refine (Qex _ _).mono ?_
            rintro e w' ⟨rfl, rfl⟩
            go_wp2_with fail
            go_ret3
            exact ⟨Qdg fin.out.1.symm fin.out.2.1.symm fin.out.2.2.symm, rfl⟩
  · have hfin : Qbr s i = none := by unfold Qbr; rw [if_neg hi]
    have fin : Hid (Qda s i = 0 ∧ Qdb s i = 0 ∧ Qcm s i = 1) := by
        simp only [Hid, Qda, Qdb, Qcm, hfin]; exact ⟨trivial, trivial, trivial⟩
    clear hfin
    by_cases h0 : i < 0
    · go_enter Try.func63, Try.ntmps63
      go_wp2
      go_ret3
      exact ⟨Qdg fin.out.1.symm fin.out.2.1.symm fin.out.2.2.symm, rfl⟩
    · have h1 : (s.size : Int) ≤ i := by omega
      clear hi
      go_enter Try.func63, Try.ntmps63
      go_wp2
      go_ret3
      exact ⟨Qdg fin.out.1.symm fin.out.2.1.symm fin.out.2.2.symm, rfl⟩
def encL (n : Int) : List Int :=
 if n < 128 then [n] else if n < 2048 then [192 + n / 64, 128 + n % 64] else if n < 65536 then [224 + n / 64 / 64, 128 + n / 64 % 64, 128 + n % 64]
 else [240 + n / 64 / 64 / 64, 128 + n / 64 / 64 % 64, 128 + n / 64 % 64, 128 + n % 64]
def enc (n : Int) : ByteArray := strOfNums (encL n)
def encN (m : Int) : List Nat := (encL m).map Int.toNat
theorem Qeh (m : Int) : right m = true ↔ 0 ≤ m ∧ m ≤ 1114111 ∧ (m < 55296 ∨ 57343 < m) := by simp [right]
theorem leadW1 (c : Int) (h : c < 128) : Qag c = 1 := if_pos h
theorem leadW2 (c : Int) (h : 192 ≤ c ∧ c < 224) : Qag c = 2 := by unfold Qag; rw [if_neg (by omega), if_pos h]
theorem leadW3 (c : Int) (h : 224 ≤ c ∧ c < 240) : Qag c = 3 := by unfold Qag; rw [if_neg (by omega), if_neg (by omega), if_pos h]
theorem leadW4 (c : Int) (h : 240 ≤ c ∧ c < 248) : Qag c = 4 := by unfold Qag; rw [if_neg (by omega), if_neg (by omega), if_neg (by omega), if_pos h]
theorem leadB1 (c : Int) (h : c < 128) : Qbs c = c := if_pos h
theorem leadB2 (c : Int) (h : 192 ≤ c ∧ c < 224) : Qbs c = c - 192 := by unfold Qbs; rw [if_neg (by omega), if_pos h]; omega
theorem leadB3 (c : Int) (h : 224 ≤ c ∧ c < 240) : Qbs c = c - 224 := by unfold Qbs; rw [if_neg (by omega), if_neg (by omega), if_pos h]; omega
theorem leadB4 (c : Int) (h : 240 ≤ c ∧ c < 248) : Qbs c = c - 240 := by unfold Qbs; rw [if_neg (by omega), if_neg (by omega), if_neg (by omega), if_pos h]; omega
theorem width1 (m : Int) (h : m < 128) : Qbl m = 1 := if_pos h
theorem width2 (m : Int) (h : 128 ≤ m) (h' : m < 2048) : Qbl m = 2 := by unfold Qbl; rw [if_neg (by omega), if_pos h']
theorem width3 (m : Int) (h : 2048 ≤ m) (h' : m < 65536) : Qbl m = 3 := by unfold Qbl; rw [if_neg (by omega), if_neg (by omega), if_pos h']
theorem width4 (m : Int) (h : 65536 ≤ m) : Qbl m = 4 := by unfold Qbl; rw [if_neg (by omega), if_neg (by omega), if_neg (by omega)]
theorem dec1 (a : Nat) (r : List Nat) (h : a < 128) : dec (a :: r) = some ((a : Int), 1) := by
 have e : right (a : Int) = true := (Qeh _).2 (by omega)
 simp only [dec, leadW1 (a : Int) (by omega), leadB1 (a : Int) (by omega)]
 rw [if_neg (by omega)]; simp [accs, Qcz, e, width1 (a : Int) (by omega)]
theorem dec2 (a b : Nat) (r : List Nat) (h : 192 ≤ a ∧ a < 224) : dec (a :: b :: r) = if b / 64 = 2 ∧ 194 ≤ a then some (((a : Int) - 192) * 64 + (b % 64 : Nat), 2) else none := by
 simp only [dec, leadW2 (a : Int) (by omega), leadB2 (a : Int) (by omega)]
 rw [if_neg (by simp; omega)]
 have e : (b :: r).take (((2 : Int) - 1).toNat) = [b] := rfl
 rw [e]
 by_cases hb : b / 64 = 2 ∧ 194 ≤ a
 ·rw [if_pos hb, if_pos ⟨by simpa [Qcz] using hb.1, (Qeh _).2 (by simp [accs]; omega), width2 _ (by simp [accs]; omega) (by simp [accs]; omega)⟩]; rfl
 ·rw [if_neg hb, if_neg]
  rintro ⟨h1, h2, h3⟩
  have h1' : b / 64 = 2 := by simpa [Qcz] using h1
  have : accs ((a:Int) - 192) [b] < 128 := by simp [accs]; omega
  rw [width1 _ this] at h3; omega
theorem dec3 (a b c : Nat) (r : List Nat) (h : 224 ≤ a ∧ a < 240) : dec (a :: b :: c :: r) = if b / 64 = 2 ∧ c / 64 = 2 ∧ right ((((a : Int) - 224) * 64 + (b % 64 : Nat)) * 64 + (c % 64 : Nat)) = true ∧ (225 ≤ a ∨ 160 ≤ b) then some ((((a : Int) - 224) * 64 + (b % 64 : Nat)) * 64 + (c % 64 : Nat), 3) else none := by
 simp only [dec, leadW3 (a : Int) (by omega), leadB3 (a : Int) (by omega)]
 rw [if_neg (by simp; omega)]
 have e : (b :: c :: r).take (((3 : Int) - 1).toNat) = [b, c] := rfl
 rw [e]
 have ea : accs ((a:Int) - 224) [b, c] = (((a : Int) - 224) * 64 + (b % 64 : Nat)) * 64 + (c % 64 : Nat) := rfl
 rw [ea]
 by_cases hb : b / 64 = 2 ∧ c / 64 = 2 ∧ right ((((a : Int) - 224) * 64 + (b % 64 : Nat)) * 64 + (c % 64 : Nat)) = true ∧ (225 ≤ a ∨ 160 ≤ b)
 ·rw [if_pos hb, if_pos ⟨by simpa [Qcz] using ⟨hb.1, hb.2.1⟩, hb.2.2.1, width3 _ (by omega) (by omega)⟩]
 ·rw [if_neg hb, if_neg]
  rintro ⟨h1, h2, h3⟩
  have h1' : b / 64 = 2 ∧ c / 64 = 2 := by simpa [Qcz] using h1
  refine hb ⟨h1'.1, h1'.2, h2, ?_⟩
  by_cases hx : (((a : Int) - 224) * 64 + (b % 64 : Nat)) * 64 + (c % 64 : Nat) < 2048
  ·unfold Qbl at h3; repeat' split at h3 <;> omega
  ·omega
theorem dec4 (a b c d : Nat) (r : List Nat) (h : 240 ≤ a ∧ a < 248) : dec (a :: b :: c :: d :: r) = if b / 64 = 2 ∧ c / 64 = 2 ∧ d / 64 = 2 ∧ right (((((a : Int) - 240) * 64 + (b % 64 : Nat)) * 64 + (c % 64 : Nat)) * 64 + (d % 64 : Nat)) = true ∧ (241 ≤ a ∨ 144 ≤ b) then some (((((a : Int) - 240) * 64 + (b % 64 : Nat)) * 64 + (c % 64 : Nat)) * 64 + (d % 64 : Nat), 4) else none := by
 simp only [dec, leadW4 (a : Int) (by omega), leadB4 (a : Int) (by omega)]
 rw [if_neg (by simp; omega)]
 have e : (b :: c :: d :: r).take (((4 : Int) - 1).toNat) = [b, c, d] := rfl
 rw [e]
 have ea : accs ((a:Int) - 240) [b, c, d] = ((((a : Int) - 240) * 64 + (b % 64 : Nat)) * 64 + (c % 64 : Nat)) * 64 + (d % 64 : Nat) := rfl
 rw [ea]
 by_cases hb : b / 64 = 2 ∧ c / 64 = 2 ∧ d / 64 = 2 ∧ right (((((a : Int) - 240) * 64 + (b % 64 : Nat)) * 64 + (c % 64 : Nat)) * 64 + (d % 64 : Nat)) = true ∧ (241 ≤ a ∨ 144 ≤ b)
 ·rw [if_pos hb, if_pos ⟨by simpa [Qcz] using ⟨hb.1, hb.2.1, hb.2.2.1⟩, hb.2.2.2.1, width4 _ (by omega)⟩]
 ·rw [if_neg hb, if_neg]
  rintro ⟨h1, h2, h3⟩
  have h1' : b / 64 = 2 ∧ c / 64 = 2 ∧ d / 64 = 2 := by simpa [Qcz] using h1
  refine hb ⟨h1'.1, h1'.2.1, h1'.2.2, h2, ?_⟩
  by_cases hx : ((((a : Int) - 240) * 64 + (b % 64 : Nat)) * 64 + (c % 64 : Nat)) * 64 + (d % 64 : Nat) < 65536
  ·unfold Qbl at h3; repeat' split at h3 <;> omega
  ·omega
theorem encL1 (m : Int) (h : m < 128) : encL m = [m] := if_pos h
theorem encL2 (m : Int) (h : 128 ≤ m) (h' : m < 2048) : encL m = [192 + m / 64, 128 + m % 64] := by unfold encL; rw [if_neg (by omega), if_pos h']
theorem encL3 (m : Int) (h : 2048 ≤ m) (h' : m < 65536) : encL m = [224 + m / 64 / 64, 128 + m / 64 % 64, 128 + m % 64] := by unfold encL; rw [if_neg (by omega), if_neg (by omega), if_pos h']
theorem encL4 (m : Int) (h : 65536 ≤ m) : encL m = [240 + m / 64 / 64 / 64, 128 + m / 64 / 64 % 64, 128 + m / 64 % 64, 128 + m % 64] := by unfold encL; rw [if_neg (by omega), if_neg (by omega), if_neg (by omega)]
theorem ranges (m : Int) (h : right m = true) : (0 ≤ m ∧ m < 128) ∨ (128 ≤ m ∧ m < 2048) ∨ (2048 ≤ m ∧ m < 65536) ∨ (65536 ≤ m ∧ m ≤ 1114111) := by
 have := (Qeh m).1 h; omega
theorem dec_some (l : List Nat) (m w : Int) (h : dec l = some (m, w)) : right m = true ∧ w = Qbl m ∧ ∃ r, l = encN m ++ r := by
  match l with
  | [] => simp [dec] at h
  | a :: r =>
    by_cases h1 : a < 128
    · rw [dec1 a r h1] at h
      simp only [Option.some.injEq, Prod.mk.injEq] at h
      obtain ⟨rfl, rfl⟩ := h
      exact ⟨(Qeh _).2 (by omega), (width1 _ (by omega)).symm, r, by rw [encN, encL1 _ (by omega)]; rfl⟩
    by_cases h2 : 192 ≤ a ∧ a < 224
    · match r with
      | [] => simp [dec, leadW2 (a : Int) (by omega)] at h
      | b :: r =>
        rw [dec2 a b r h2] at h
        split at h
        · rename_i hb
          simp only [Option.some.injEq, Prod.mk.injEq] at h
          obtain ⟨rfl, rfl⟩ := h
          refine ⟨(Qeh _).2 (by omega), (width2 _ (by omega) (by omega)).symm, r, ?_⟩
          rw [encN, encL2 _ (by omega) (by omega)]
          simp only [List.map, List.cons_append, List.nil_append]
          congr 1
          · omega
          · congr 1; omega
        · cases h
    by_cases h3 : 224 ≤ a ∧ a < 240
    · match r with
      | [] => simp [dec, leadW3 (a : Int) (by omega)] at h
      | [_] => simp [dec, leadW3 (a : Int) (by omega)] at h
      | b :: c :: r =>
        rw [dec3 a b c r h3] at h
        split at h
        · rename_i hb
          simp only [Option.some.injEq, Prod.mk.injEq] at h
          obtain ⟨rfl, rfl⟩ := h
          refine ⟨hb.2.2.1, (width3 _ (by omega) (by omega)).symm, r, ?_⟩
          rw [encN, encL3 _ (by omega) (by omega)]
          simp only [List.map, List.cons_append, List.nil_append]
          congr 1
          · omega
          · congr 1
            · omega
            · congr 1; omega
        · cases h
    by_cases h4 : 240 ≤ a ∧ a < 248
    · match r with
      | [] => simp [dec, leadW4 (a : Int) (by omega)] at h
      | [_] => simp [dec, leadW4 (a : Int) (by omega)] at h
      | [_, _] => simp [dec, leadW4 (a : Int) (by omega)] at h
      | b :: c :: d :: r =>
        rw [dec4 a b c d r h4] at h
        split at h
        · rename_i hb
          simp only [Option.some.injEq, Prod.mk.injEq] at h
          obtain ⟨rfl, rfl⟩ := h
          refine ⟨hb.2.2.2.1, (width4 _ (by omega)).symm, r, ?_⟩
          rw [encN, encL4 _ (by omega)]
          simp only [List.map, List.cons_append, List.nil_append]
          congr 1
          · omega
          · congr 1
            · omega
            · congr 1
              · omega
              · congr 1; omega
        · cases h
    · have h0 : Qag (a : Int) = 0 := by unfold Qag; repeat' split <;> omega
      simp [dec, h0] at h
theorem encN_lt (m : Int) (h : right m = true) : ∀ c ∈ encN m, c < 256 := by
 rcases ranges m h with h | h | h | h
 ·rw [encN, encL1 m h.2]; intro c hc; simp at hc; omega
 ·rw [encN, encL2 m h.1 h.2]; intro c hc; simp at hc; omega
 ·rw [encN, encL3 m h.1 h.2]; intro c hc; simp at hc; omega
 ·rw [encN, encL4 m h.1]; intro c hc; simp at hc; omega
theorem Qgn (m : Int) (h : right m = true) : ((encN m).length : Int) = Qbl m := by
 rcases ranges m h with h | h | h | h
 ·rw [encN, encL1 m h.2, width1 m h.2]; rfl
 ·rw [encN, encL2 m h.1 h.2, width2 m h.1 h.2]; rfl
 ·rw [encN, encL3 m h.1 h.2, width3 m h.1 h.2]; rfl
 ·rw [encN, encL4 m h.1, width4 m h.1]; rfl
theorem width_le (m : Int) : 1 ≤ Qbl m ∧ Qbl m ≤ 4 := by unfold Qbl; repeat' split <;> omega
theorem nats_of (l : List Int) (h : ∀ c ∈ l.map Int.toNat, c < 256) : nats (strOfNums l) = l.map Int.toNat := by
 rw [nats, strOfNums_data, List.map_map]
 refine List.map_congr_left fun c hc => ?_
 have := h c.toNat (List.mem_map.2 ⟨c, hc, rfl⟩)
 simp; omega
theorem nats_inj {a b : ByteArray} (h : nats a = nats b) : a = b := by
 refine ByteArray.ext (Array.toList_inj.mp ?_)
 exact (List.map_inj_right (fun x y h => UInt8.toNat_inj.1 h)).1 h
theorem decAt_of (s : ByteArray) (n : Nat) (h : n < s.size) : Qbr s n = dec ((nats s).drop n) := by
 unfold Qbr; rw [if_pos ⟨by omega, by omega⟩]; rfl
def allF (s : ByteArray) : Nat → Nat → List Int × Nat × Bool
 | 0, k => ([], k, true)
 | f + 1, k => if k < s.size then (match Qbr s k with
   | some x => (x.1 :: (allF s f (k + x.2.toNat)).1, (allF s f (k + x.2.toNat)).2)
   | none => ([], k, false)) else ([], k, true)
def addP (l : List Int) (r : List Int × Nat × Bool) : List Int × Nat × Bool := (l ++ r.1, r.2)
def allA (s : ByteArray) : List Int × Nat × Bool := allF s s.size 0
def allS (s : ByteArray) : List Int := if 65535 < s.size then [] else if (allA s).2.2 = true then (allA s).1 else []
def allAt (s : ByteArray) : Int := if 65535 < s.size then 0 else if (allA s).2.2 = true then s.size else (allA s).2.1
def allE (s : ByteArray) : Int := if 65535 < s.size then 2 else if (allA s).2.2 = true then 0 else 1
theorem allF_end (s : ByteArray) (f k : Nat) (h : s.size ≤ k) : allF s f k = ([], k, true) := by
 cases f with
 | zero => rfl
 | succ f => rw [allF, if_neg (by omega)]
theorem allF_none (s : ByteArray) (f k : Nat) (h : k < s.size) (hf : s.size ≤ k + f) (hd : Qbr s k = none) : allF s f k = ([], k, false) := by
 cases f with
 | zero => omega
 | succ f => rw [allF, if_pos h, hd]
theorem allF_some (s : ByteArray) (f k : Nat) (x : Int × Int) (l : List Int) (h : k < s.size) (hf : s.size ≤ k + f) (hd : Qbr s k = some x) (hw : 1 ≤ x.2) : ∃ f', s.size ≤ k + x.2.toNat + f' ∧ addP l (allF s f k) = addP (l ++ [x.1]) (allF s f' (k + x.2.toNat)) := by
  cases f with
  | zero => omega
  | succ f =>
    refine ⟨f, by omega, ?_⟩
    rw [allF, if_pos h, hd]
    simp [addP]
theorem decAt_bd (s : ByteArray) (k : Nat) (h : k < s.size) (x : Int × Int) (hd : Qbr s k = some x) : 1 ≤ x.2 ∧ x.2 ≤ 4 ∧ (k : Int) + x.2 ≤ s.size := by
 rw [decAt_of s k h] at hd
 obtain ⟨hr, hw, r, hl⟩ := dec_some _ _ _ hd
 have h4 := width_le x.1
 have hlen := Qgn x.1 hr
 have := congrArg List.length hl
 rw [List.length_drop, Qck, List.length_append] at this
 omega
theorem info3 : (Try.prog.info? 3).map (fun i => (i.zero, i.size, i.bytes)) = some (some (.int .i64 0), 1, 8) := by kernel_rfl
theorem all_any (s : ByteArray) (hs : s.size ≤ maxLen) (w : World) :
    Calls Try.prog 49 #[.string s] w fun e w' => ∃ v, e = .returned (.tuple #[v, .int .i64 (allAt s), .int .i64 (allE s)]) ∧ w'.ownsRow w.heap.size 3 1 v (allS s).length ((allS s).map (Value.int .i64)) ∧ Below w.heap.size w w' := by
  have hs0 := hs
  unfold maxLen at hs
  obtain ⟨i0, hi, hz0, hz1, hz2⟩ := info_parts info3
  by_cases hlong : 65535 < s.size
  · have e1 : allS s = [] := if_pos hlong
    have e2 : allAt s = 0 := if_pos hlong
    have e3 : allE s = 2 := if_pos hlong
    rw [e1, e2, e3]
    go_enter Try.func49, Try.ntmps49
    go_wp2_with fail
    go_ret3
    exact ⟨_, rfl, World.ownsRow_nil _ _ _ _, Below.refl _ _⟩
  · have hshort : s.size ≤ 65535 := by omega
    have E1 := Lib.hid (show allS s = if (allA s).2.2 = true then (allA s).1 else [] from if_neg hlong)
    have E2 := Lib.hid (show allAt s = if (allA s).2.2 = true then (s.size : Int) else (allA s).2.1 from if_neg hlong)
    have E3 := Lib.hid (show allE s = if (allA s).2.2 = true then 0 else 1 from if_neg hlong)
    clear hlong
    go_enter Try.func49, Try.ntmps49
    go_wp2_with fail
    go_loopw [5, 6] (fun v i wr => ∃ k : Nat, k ≤ s.size ∧ i = .int .i64 k ∧ (∃ l : List Int, l.length ≤ k ∧ Hid (∃ f, s.size ≤ k + f ∧ addP l (allF s f k) = allA s) ∧ wr.ownsRow w.heap.size 3 1 v l.length (l.map (Value.int .i64))) ∧ Below w.heap.size w wr)
      (fun _ i _ => s.size - (intOf i).toNat)
    case atStart => exact ⟨0, Nat.zero_le _, rfl, ⟨[], Nat.le_refl _, ⟨s.size, by omega, rfl⟩, World.ownsRow_nil _ _ _ _⟩, Below.refl _ _⟩
    case round =>
      obtain ⟨k, hk, rfl, ⟨l, hlk, HF, hown⟩, hbel⟩ := hrel
      by_cases hlt : k < s.size
      · cases hd : Qbr s k with
        | none =>
          have n3 : Qcm s k = 1 := by simp only [Qcm, hd]
          have HN := Lib.hid (show allA s = (l, k, false) by
            obtain ⟨f, hf, hp⟩ := HF.out
            rw [← hp, allF_none s f k hlt hf hd]; simp [addP])
          clear hd
          go_wp2_with fail
          refine (next_any s hs0 _ _).mono ?_
          rintro e w' ⟨rfl, rfl⟩
          go_wp2_with fail
          go_ret3
          have hA := HN.out
          have x1 : allS s = [] := by rw [E1.out, hA]; rfl
          have x2 : allAt s = k := by rw [E2.out, hA]; rfl
          have x3 : allE s = 1 := by rw [E3.out, hA]; rfl
          rw [x1, x2, x3]
          exact ⟨_, rfl, World.ownsRow_nil _ _ _ _, hbel⟩
        | some x =>
          have n1 : Qda s k = x.1 := by simp only [Qda, hd]
          have n2 : Qdb s k = x.2 := by simp only [Qdb, hd]
          have n3 : Qcm s k = 0 := by simp only [Qcm, hd]
          have hbd := decAt_bd s k hlt x hd
          have HF2 := Lib.hid (show ∃ f, s.size ≤ k + x.2.toNat + f ∧ addP (l ++ [x.1]) (allF s f (k + x.2.toNat)) = allA s by
            obtain ⟨f, hf, hp⟩ := HF.out
            obtain ⟨f', hf', hp'⟩ := allF_some s f k x l hlt hf hd hbd.1
            exact ⟨f', hf', hp'.symm.trans hp⟩)
          have hx1 := hbd.1
          have hx2 := hbd.2.1
          have hx3 := hbd.2.2
          clear hd HF hbd
          generalize x.1 = n at *
          generalize x.2 = wd at *
          go_wp2_with fail
          refine (next_any s hs0 _ _).mono ?_
          rintro e w' ⟨rfl, rfl⟩
          have hown2 := hown
          have hbel2 := hbel
          go_wp2_with (at_builtin; refine wpList_app1 [.int .i64 n] rfl _ _ 31 rfl w.heap.size 3 i0 (.int .i64 0) 1 8 Try.underlying31 hi hz0 hz1 hz2 rfl (by decide) _ _ _ hown2 rfl rfl rfl (by intro u hu; simp at hu; subst hu; rfl) (by unfold maxLen; omega) (by omega) hbel2.size ?_)
          intro v' w1 hown' hb1'
          have hb1 := hbel2.trans hb1'
          have hown1 : w1.ownsRow w.heap.size 3 1 v' (l ++ [n]).length ((l ++ [n]).map (Value.int .i64)) := by
            rw [List.map_append, List.length_append]; exact hown'
          have hl2 : (l ++ [n]).length ≤ k + wd.toNat := by simp; omega
          clear hown' hb1' hown hbel hown2 hbel2
          go_wp2_with fail
          go_roundw
          case rel => exact ⟨k + wd.toNat, by omega, by rw [Int.natCast_add, Int.toNat_of_nonneg (by omega)], ⟨l ++ [n], hl2, HF2, hown1⟩, hb1⟩
          case measure => simp [intOf]; omega
      · have HN := Lib.hid (show allA s = (l, k, true) by
          obtain ⟨f, hf, hp⟩ := HF.out
          rw [← hp, allF_end s f k (by omega)]; simp [addP])
        go_wp2_with fail
        go_ret3
        have hA := HN.out
        have x1 : allS s = l := by rw [E1.out, hA]; rfl
        have x2 : allAt s = s.size := by rw [E2.out, hA]; rfl
        have x3 : allE s = 0 := by rw [E3.out, hA]; rfl
        rw [x1, x2, x3]
        exact ⟨_, rfl, hown, hbel⟩
def joinB (l : List Int) : List Int := l.flatMap encL
def joinE (l : List Int) : Int := if l.all right = true then (if 65535 < (joinB l).length then 2 else 0) else 16
def joinS (l : List Int) : ByteArray := if joinE l = 0 then strOfNums (joinB l) else ByteArray.empty
def joinN (l : List Int) : List Nat := l.flatMap encN
theorem joinN_eq (l : List Int) : joinN l = (joinB l).map Int.toNat := by
 unfold joinN joinB encN; rw [List.map_flatMap]
theorem joinN_lt (l : List Int) (h : l.all right = true) : ∀ c ∈ joinN l, c < 256 := by
 intro c hc
 obtain ⟨n, hn, hcn⟩ := List.mem_flatMap.1 hc
 exact encN_lt n (List.all_eq_true.1 h n hn) c hcn
theorem nats_join (l : List Int) (h : l.all right = true) : nats (strOfNums (joinB l)) = joinN l := by
 rw [joinN_eq]; exact nats_of _ (by rw [← joinN_eq]; exact joinN_lt l h)
theorem joinN_length (l : List Int) : (joinN l).length = (joinB l).length := by rw [joinN_eq, List.length_map]
theorem all_signs (s : ByteArray) : ∀ (f k : Nat), k ≤ s.size → s.size ≤ k + f → (allF s f k).2.2 = true → (allF s f k).1.all right = true ∧ (nats s).drop k = joinN (allF s f k).1 := by
  intro f
  induction f with
  | zero =>
    intro k hk hf _
    rw [allF]
    exact ⟨rfl, by rw [List.drop_of_length_le (by rw [Qck]; omega)]; rfl⟩
  | succ f ih =>
    intro k hk hf h
    by_cases hlt : k < s.size
    · rw [allF, if_pos hlt] at h ⊢
      cases hd : Qbr s k with
      | none => rw [hd] at h; simp at h
      | some x =>
        rw [hd] at h
        have hbd := decAt_bd s k hlt x hd
        have h2 := hd
        rw [decAt_of s k hlt] at h2
        obtain ⟨hr, hw, r, hl⟩ := dec_some _ _ _ h2
        obtain ⟨h3, h4⟩ := ih (k + x.2.toNat) (by omega) (by omega) h
        refine ⟨by simp only [List.all_cons, hr, h3]; rfl, ?_⟩
        have hlen := Qgn x.1 hr
        have he : (encN x.1).length = x.2.toNat := by omega
        show (nats s).drop k = encN x.1 ++ joinN _
        rw [← h4, hl, ← List.drop_drop, hl, ← he, List.drop_left]
    · rw [allF_end s _ k (by omega)]
      exact ⟨rfl, by rw [List.drop_of_length_le (by rw [Qck]; omega)]; rfl⟩
theorem back_text (s : ByteArray) (h : allE s = 0) : joinE (allS s) = 0 ∧ joinS (allS s) = s := by
 unfold allE at h
 by_cases hl : 65535 < s.size
 ·rw [if_pos hl] at h; omega
 rw [if_neg hl] at h
 by_cases hb : (allA s).2.2 = true
 ·have hS : allS s = (allA s).1 := by unfold allS; rw [if_neg hl, if_pos hb]
  obtain ⟨hr, hn⟩ := all_signs s s.size 0 (Nat.zero_le _) (by omega) hb
  rw [← show allA s = allF s s.size 0 from rfl, ← hS] at hr hn
  have hlen : (joinB (allS s)).length = s.size := by rw [← joinN_length, ← hn, List.length_drop, Qck]; omega
  have hE : joinE (allS s) = 0 := by unfold joinE; rw [if_pos hr, if_neg (by omega)]
  refine ⟨hE, ?_⟩
  unfold joinS; rw [if_pos hE]
  refine nats_inj ?_
  rw [nats_join _ hr, ← hn]; rfl
 ·rw [if_neg hb] at h; omega
end Go.Proofs.Ytpaifjlikgnlfaa
