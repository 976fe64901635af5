import Derived.WalkKit
import Derived.Laws.BitsAllLaws
import Derived.Test.YtahhgpafjiljfaaRows
import Derived.Test.YtahhgpafjiljfaaOBK
import Derived.WalkSpells
import Derived.Lib.Hide
import Derived.WalkLawsBesides
import Derived.Laws.Bits128
import Derived.Laws.BytesArg
import Derived.Handy
import Derived.Deep.LoopGhost
import Derived.Lib.AppendStr
import Derived.Lib.ConvBytes
set_option linter.unusedSimpArgs false
set_option linter.unusedVariables false
set_option maxHeartbeats 16000000
set_option maxRecDepth 100000
namespace Go.Proofs.Ytahhgpafjiljfaa
open Go.RowKit
def right (n : Int) : Bool := decide (0 ≤ n ∧ n ≤ 1114111 ∧ (n < 55296 ∨ 57343 < n))
def Qbd (n : Int) : Int := if n < 128 then 1 else if n < 2048 then 2 else if n < 65536 then 3 else 4
def Qaw (c : Int) : Int := if c < 128 then 1 else if 192 ≤ c ∧ c < 224 then 2 else if 224 ≤ c ∧ c < 240 then 3 else if 240 ≤ c ∧ c < 248 then 4 else 0
def Qdl (c : Int) : Int := if c < 128 then c else if 192 ≤ c ∧ c < 224 then c % 32 else if 224 ≤ c ∧ c < 240 then c % 16 else if 240 ≤ c ∧ c < 248 then c % 8 else 0
def nats (s : ByteArray) : List Nat := s.data.toList.map UInt8.toNat
def nb (s : ByteArray) (i : Nat) : Nat := (nats s).getD i 0
theorem Qcg (s : ByteArray) : (nats s).length = s.size := by simp [nats]
theorem nb_eq (s : ByteArray) (i : Nat) (h : i < s.size) : s[i].toNat = nb s i := by
 unfold nb nats
 rw [List.getD_eq_getElem?_getD, List.getElem?_map, List.getElem?_eq_getElem (by simpa using h)]; rfl
def accs (n : Int) (l : List Nat) : Int := l.foldl (fun n c => n * 64 + (c % 64 : Nat)) n
def Qfl (l : List Nat) : Bool := l.all (fun c => c / 64 == 2)
def dec : List Nat → Option (Int × Int)
  | [] => none
  | c :: r =>
    if Qaw c = 0 ∨ (r.length : Int) + 1 < Qaw c then none else
    if Qfl (r.take (Qaw c - 1).toNat) = true ∧ right (accs (Qdl c) (r.take (Qaw c - 1).toNat)) = true ∧ Qbd (accs (Qdl c) (r.take (Qaw c - 1).toNat)) = Qaw c
    then some (accs (Qdl c) (r.take (Qaw c - 1).toNat), Qaw c) else none
def Qcq (s : ByteArray) (i : Int) : Option (Int × Int) := if 0 ≤ i ∧ i < s.size then dec ((nats s).drop i.toNat) else none
def Qfo (s : ByteArray) (i : Int) : Int := match Qcq s i with | some x => x.1 | none => 0
def Qfp (s : ByteArray) (i : Int) : Int := match Qcq s i with | some x => x.2 | none => 0
def Qeu (s : ByteArray) (i : Int) : Int := match Qcq s i with | some _ => 0 | none => 1
theorem leadW_le (c : Int) : 0 ≤ Qaw c ∧ Qaw c ≤ 4 := by unfold Qaw; repeat' split <;> omega
theorem leadB_le (c : Int) (h : 0 ≤ c) : 0 ≤ Qdl c ∧ Qdl c ≤ 127 := by unfold Qdl; repeat' split <;> omega
def tl (s : ByteArray) (n : Nat) : List Nat := (nats s).drop (n + 1)
theorem drop_tl (s : ByteArray) (n : Nat) (h : n < s.size) : (nats s).drop n = nb s n :: tl s n := by
 unfold tl nb
 rw [List.getD_eq_getElem?_getD, List.getElem?_eq_getElem (by rw [Qcg]; exact h), List.drop_eq_getElem_cons (by rw [Qcg]; exact h)]; rfl
theorem Qik (s : ByteArray) (n : Nat) : (tl s n).length = s.size - (n + 1) := by unfold tl; rw [List.length_drop, Qcg]
theorem tl_get (s : ByteArray) (n k : Nat) : (tl s n).getD k 0 = nb s (n + 1 + k) := by
 unfold tl nb; rw [List.getD_eq_getElem?_getD, List.getElem?_drop, ← List.getD_eq_getElem?_getD]
theorem take_snoc {α : Type} (l : List α) (k : Nat) (d : α) (h : k < l.length) : l.take (k + 1) = l.take k ++ [l.getD k d] := by
 rw [List.take_succ_eq_append_getElem h, List.getD_eq_getElem?_getD, List.getElem?_eq_getElem h]; rfl
theorem accs_snoc (n : Int) (l : List Nat) (c : Nat) : accs n (l ++ [c]) = accs n l * 64 + (c % 64 : Nat) := by simp [accs]
theorem conts_snoc (l : List Nat) (c : Nat) : Qfl (l ++ [c]) = (Qfl l && (c / 64 == 2)) := by simp [Qfl, List.all_append]
theorem accs_nonneg (l : List Nat) : ∀ n : Int, 0 ≤ n → 0 ≤ accs n l := by
 induction l with
 | nil => intro n h; exact h
 | cons c r ih => intro n h; exact ih _ (by show (0:Int) ≤ n * 64 + (c % 64 : Nat); omega)
theorem accs_lt (l : List Nat) : ∀ n : Int, n ≤ 127 → accs n l < 128 * 64 ^ l.length := by
  intro n hn
  have : ∀ (l : List Nat) (n : Int), accs n l < (n + 1) * 64 ^ l.length := by
    intro l
    induction l with
    | nil => intro n; simp [accs]; omega
    | cons c r ih =>
      intro n
      have h1 := ih (n * 64 + (c % 64 : Nat))
      have e : accs n (c :: r) = accs (n * 64 + (c % 64 : Nat)) r := rfl
      rw [e, List.length_cons, Int.pow_succ]
      refine Int.lt_of_lt_of_le h1 ?_
      have h2 : n * 64 + (c % 64 : Nat) + 1 ≤ (n + 1) * 64 := by omega
      have h3 : (0:Int) ≤ 64 ^ r.length := Int.le_of_lt (Int.pow_pos (by decide))
      calc _ ≤ ((n + 1) * 64) * 64 ^ r.length := Int.mul_le_mul_of_nonneg_right h2 h3
        _ = _ := by rw [Int.mul_assoc, Int.mul_comm 64]
  refine Int.lt_of_lt_of_le (this l n) ?_
  exact Int.mul_le_mul_of_nonneg_right (by omega) (Int.le_of_lt (Int.pow_pos (by decide)))
theorem Qkc (s : ByteArray) (n : Nat) (h : n < s.size) : Qcq s n = dec (nb s n :: tl s n) := by
 unfold Qcq; rw [if_pos ⟨by omega, by omega⟩, ← drop_tl s n h]; rfl
theorem and192 : ∀ c : Nat, c < 256 → bits BinOp.and .u8 (c : Int) 192 = ((c / 64 * 64 : Nat) : Int) := by
 decide +kernel
theorem and63 : ∀ c : Nat, c < 256 → bits BinOp.and .u8 (c : Int) 63 = ((c % 64 : Nat) : Int) := by
 decide +kernel
theorem or_i64 (a b : Nat) (ha : a < 9223372036854775808) (hb : b < 9223372036854775808) : bits .or .i64 (a : Int) (b : Int) = ((a ||| b : Nat) : Int) := by
 have h : a ||| b < 2 ^ 63 := Nat.or_lt_two_pow ha hb
 have hw : ∀ x : Nat, x < 2 ^ 63 → IntKind.i64.wrap (x : Int) = x := by
  intro x hx
  have : (x:Int) < 9223372036854775808 := by omega
  simp [IntKind.wrap, IntKind.bits, IntKind.signed]; omega
 have e1 : ∀ x : Nat, x < 9223372036854775808 → (BitVec.ofInt 64 (x : Int)).toNat = x := by
  intro x hx
  rw [BitVec.ofInt_natCast, BitVec.toNat_ofNat]; exact Nat.mod_eq_of_lt (by omega)
 show IntKind.i64.wrap ((BitVec.ofInt 64 (a : Int) ||| BitVec.ofInt 64 (b : Int)).toNat : Int) = _
 rw [BitVec.toNat_or, e1 a ha, e1 b hb, hw _ h]
theorem or_shl (a b : Nat) (ha : a < 1000000000) (hb : b < 64) : bits .or .i64 ((a : Int) * 64) (b : Int) = (a : Int) * 64 + b := by
 have h := or_i64 (a * 64) b (by omega) (by omega)
 have e : a * 64 ||| b = a * 64 + b := by
  have := Nat.shiftLeft_add_eq_or_of_lt (i := 6) (b := b) (by omega) a
  rw [Nat.shiftLeft_eq] at this; exact this.symm
 rw [e] at h; simpa using h
theorem or_acc (a : Int) (h0 : 0 ≤ a) (h1 : a < 128 * 64 ^ 3) (c : Nat) (hc : c < 256) : bits .or .i64 (wrap64 (a * 64)) (wrap64 (bits BinOp.and .u8 (c : Int) 63)) = a * 64 + (c % 64 : Nat) := by
 obtain ⟨n, rfl⟩ := Int.eq_ofNat_of_zero_le h0
 rw [and63 c hc, IntWalk.wrap64_in _ ⟨by omega, by omega⟩, IntWalk.wrap64_in _ ⟨by omega, by omega⟩]
 exact or_shl n (c % 64) (by omega) (by omega)
theorem and_cont (c : Nat) (hc : c < 256) : (bits BinOp.and .u8 (c : Int) 192 != 128) = !(c / 64 == 2) := by
 rw [and192 c hc, Bool.eq_iff_iff]; simp; omega
theorem Qdq (n : Int) (w : World) :
  Calls Try.prog 91 #[.int .i64 n] w fun e w' => e = .returned (.bool (right n)) ∧ w = w' := by
 go_enter Try.func91, Try.ntmps91
 go_wp2
 all_goals go_ret
 all_goals refine ⟨Qae ?_, rfl⟩
 all_goals (unfold right; rw [Bool.eq_iff_iff]; simp; omega)
theorem Qhg (n : Int) (w : World) :
  Calls Try.prog 92 #[.int .i64 n] w fun e w' => e = .returned (.int .i64 (Qbd n)) ∧ w = w' := by
 go_enter Try.func92, Try.ntmps92
 go_wp2
 all_goals go_ret
 all_goals refine ⟨Qgj ?_, rfl⟩
 all_goals (unfold Qbd; repeat' split) <;> first | rfl | omega
theorem lead_any (c : Int) (h0 : 0 ≤ c) (h1 : c ≤ 255) (w : World) :
  Calls Try.prog 90 #[.int .u8 c] w fun e w' => e = .returned (.tuple #[.int .i64 (Qaw c), .int .i64 (Qdl c)]) ∧ w = w' := by
 go_enter Try.func90, Try.ntmps90
 go_wp2
 all_goals go_ret2
 all_goals refine ⟨ret_int2 ?_ ?_, rfl⟩
 all_goals (simp only [Qaw, Qdl]; repeat' split) <;> first | rfl | omega
theorem next_any (s : ByteArray) (hs : s.size ≤ maxLen) (i : Int) (w : World) :
    Calls Try.prog 58 #[.string s, .int .i64 i] w fun e w' => e = .returned (.tuple #[.int .i64 (Qfo s i), .int .i64 (Qfp s i), .int .i64 (Qeu s i)]) ∧ w = w' := by
  unfold maxLen at hs
  by_cases hi : 0 ≤ i ∧ i < s.size
  · obtain ⟨n, rfl⟩ := Int.eq_ofNat_of_zero_le hi.1
    have hlt : n < s.size := by omega
    clear hi
    by_cases hz : Qaw (s[n].toNat) = 0 ∨ (s.size : Int) - n < Qaw (s[n].toNat)
    · have hfin : Qcq s n = none := by
        rw [Qkc s n hlt, ← nb_eq s n hlt]
        simp only [dec, Qik]; rw [if_pos (by omega)]
      have fin : Hid (Qfo s n = 0 ∧ Qfp s n = 0 ∧ Qeu s n = 1) := by
        simp only [Hid, Qfo, Qfp, Qeu, hfin]; exact ⟨trivial, trivial, trivial⟩
      have HZ := Lib.hid hz
      clear hfin hz
      go_enter Try.func58, Try.ntmps58
      go_wp2_with (go_at_call 90; refine (lead_any _ (Int.natCast_nonneg _) (by have := s[n].toNat_lt; omega) _).mono ?_; rintro e w' ⟨rfl, rfl⟩)
      · go_ret3
        exact ⟨Qfy fin.out.1.symm fin.out.2.1.symm fin.out.2.2.symm, rfl⟩
      · go_ret3
        exact ⟨Qfy fin.out.1.symm fin.out.2.1.symm fin.out.2.2.symm, rfl⟩
      · have hbad : (Qaw ↑s[n].toNat == 0) = false ∧ Qaw ↑s[n].toNat ≤ ↑s.size - ↑n := by assumption
        have h1 : ¬ Qaw ↑s[n].toNat = 0 := by simpa using hbad.1
        rcases HZ.out with h | h
        · exact absurd h h1
        · have := hbad.2; omega
    · have hz1 : (Qaw (s[n].toNat) == 0) = false := by simp; omega
      have hz2 : Qaw (s[n].toNat) ≤ (s.size : Int) - n := by omega
      have hw4 := (leadW_le s[n].toNat).2
      have hb := leadB_le s[n].toNat (Int.natCast_nonneg _)
      have hlead : Hid (Qaw (s[n].toNat) ≠ 0) := by show Qaw (s[n].toNat) ≠ 0; simpa using hz1
      clear hz
      go_enter Try.func58, Try.ntmps58
      go_wp2_with (go_at_call 90; refine (lead_any _ (Int.natCast_nonneg _) (by have := s[n].toNat_lt; omega) _).mono ?_; rintro e w' ⟨rfl, rfl⟩)
      go_loop [8, 9] (fun a i => ∃ k : Nat, 1 ≤ k ∧ (k:Int) ≤ Qaw (s[n].toNat) ∧ i = .int .i64 k ∧ a = .int .i64 (accs (Qdl s[n].toNat) ((tl s n).take (k-1))) ∧ Qfl ((tl s n).take (k-1)) = true)
         (fun _ i => 4 - (intOf i).toNat)
      case atStart => exact ⟨1, Nat.le_refl _, by have := (leadW_le s[n].toNat).1; have := hlead.out; omega, rfl, rfl, rfl⟩
      case round =>
        obtain ⟨k, hk, hk2, rfl, rfl, hc⟩ := hrel
        have HC := Lib.hid hc; clear hc
        have hkl : n + k ≤ s.size := by omega
        go_wp2_with fail
        case roundEnd =>
          have hlt : (k : Int) < Qaw s[n].toNat := by assumption
          have hnk : n + k < s.size := by omega
          have hcont : (bits BinOp.and IntKind.u8 (↑s[n + k].toNat) 192 != 128) = false := by assumption
          rw [and_cont _ s[n+k].toNat_lt] at hcont
          have hkt : k - 1 < (tl s n).length := by rw [Qik]; omega
          have hg : (tl s n).getD (k-1) 0 = s[n+k].toNat := by rw [tl_get, nb_eq]; congr 1; omega
          have hsn : (tl s n).take k = (tl s n).take (k-1) ++ [s[n+k].toNat] := by
            rw [← hg, ← take_snoc _ _ _ hkt]; congr 1; omega
          refine ⟨⟨k + 1, by omega, by omega, rfl, ?_, ?_⟩, by simp [intOf]; omega⟩
          · have hacc := accs_lt ((tl s n).take (k-1)) (Qdl s[n].toNat) hb.2
            have hlen : ((tl s n).take (k-1)).length ≤ 2 := by rw [List.length_take]; omega
            have hp : (64:Int) ^ ((tl s n).take (k-1)).length ≤ 64 ^ 2 := by
              have : ((tl s n).take (k-1)).length = 0 ∨ ((tl s n).take (k-1)).length = 1 ∨ ((tl s n).take (k-1)).length = 2 := by omega
              rcases this with h | h | h <;> rw [h] <;> decide
            rw [or_acc _ (accs_nonneg _ _ hb.1) (by omega) _ s[n+k].toNat_lt, Nat.add_sub_cancel, hsn, accs_snoc]
          · rw [Nat.add_sub_cancel, hsn, conts_snoc, HC.out]; simpa using hcont
        · have hlt : (k : Int) < Qaw s[n].toNat := by assumption
          have hnk : n + k < s.size := by omega
          have hcont : (bits BinOp.and IntKind.u8 (↑s[n + k].toNat) 192 != 128) = true := by assumption
          rw [and_cont _ s[n+k].toNat_lt] at hcont
          have hkt : k - 1 < (tl s n).length := by rw [Qik]; omega
          have hg : (tl s n).getD (k-1) 0 = s[n+k].toNat := by rw [tl_get, nb_eq]; congr 1; omega
          have hcf : Qfl ((tl s n).take (Qaw s[n].toNat - 1).toNat) = false := by
            have hmem : s[n+k].toNat ∈ (tl s n).take (Qaw s[n].toNat - 1).toNat := by
              rw [← hg, List.mem_take_iff_getElem]
              refine ⟨k - 1, by omega, ?_⟩
              rw [List.getD_eq_getElem?_getD, List.getElem?_eq_getElem hkt]; rfl
            unfold Qfl
            rw [List.all_eq_false]
            exact ⟨_, hmem, by simpa using hcont⟩
          have hnone : Qcq s n = none := by
            rw [Qkc s n (by omega), ← nb_eq s n (by omega)]
            simp only [dec, Qik, hcf]
            rw [if_neg (by have := hlead.out; omega), if_neg (by simp)]
          go_ret3
          exact ⟨Qfy (by simp only [Qfo, hnone]) (by simp only [Qfp, hnone]) (by simp only [Qeu, hnone]), rfl⟩
        · have hge : Qaw s[n].toNat ≤ k := by assumption
          have hkw : (k : Int) = Qaw s[n].toNat := by omega
          have hk1 : (Qaw s[n].toNat - 1).toNat = k - 1 := by omega
          have hD : Qcq s n = if right (accs (Qdl s[n].toNat) ((tl s n).take (k-1))) = true ∧ Qbd (accs (Qdl s[n].toNat) ((tl s n).take (k-1))) = Qaw s[n].toNat then some (accs (Qdl s[n].toNat) ((tl s n).take (k-1)), Qaw s[n].toNat) else none := by
            rw [Qkc s n (by omega), ← nb_eq s n (by omega)]
            simp only [dec, Qik, hk1, HC.out]
            rw [if_neg (by have := hlead.out; omega)]; simp only [true_and]
          have HD := Lib.hid hD; clear hD
          generalize accs (Qdl s[n].toNat) ((tl s n).take (k-1)) = x at *
          clear hkw hk1
          by_cases hr : right x = true
          · by_cases hwd : Qbd x = Qaw s[n].toNat
            · have hS : Qcq s n = some (x, Qaw s[n].toNat) := by rw [HD.out, if_pos ⟨hr, hwd⟩]
              have fin : Hid (Qfo s n = x ∧ Qfp s n = Qaw s[n].toNat ∧ Qeu s n = 0) := by
                simp only [Hid, Qfo, Qfp, Qeu, hS]; exact ⟨trivial, trivial, trivial⟩
              have hb1 : (Qbd x != Qaw s[n].toNat) = false := by rw [hwd]; simp
              clear hS HD hwd
              refine (Qdq _ _).mono ?_
              rintro e w' ⟨rfl, rfl⟩
              go_wp2_with (go_at_call 92; refine (Qhg _ _).mono ?_; rintro e w' ⟨rfl, rfl⟩)
              go_ret3
              exact ⟨Qfy fin.out.1.symm fin.out.2.1.symm fin.out.2.2.symm, rfl⟩
            · have hS : Qcq s n = none := by rw [HD.out, if_neg (fun h => hwd h.2)]
              have fin : Hid (Qfo s n = 0 ∧ Qfp s n = 0 ∧ Qeu s n = 1) := by
                simp only [Hid, Qfo, Qfp, Qeu, hS]; exact ⟨trivial, trivial, trivial⟩
              have hb1 : (Qbd x != Qaw s[n].toNat) = true := by simpa using hwd
              clear hS HD hwd
              refine (Qdq _ _).mono ?_
              rintro e w' ⟨rfl, rfl⟩
              go_wp2_with (go_at_call 92; refine (Qhg _ _).mono ?_; rintro e w' ⟨rfl, rfl⟩)
              go_ret3
              exact ⟨Qfy fin.out.1.symm fin.out.2.1.symm fin.out.2.2.symm, rfl⟩
          · have hS : Qcq s n = none := by rw [HD.out, if_neg (fun h => hr h.1)]
            have fin : Hid (Qfo s n = 0 ∧ Qfp s n = 0 ∧ Qeu s n = 1) := by
              simp only [Hid, Qfo, Qfp, Qeu, hS]; exact ⟨trivial, trivial, trivial⟩
            have hr' : right x = false := by simpa using hr
            clear hS HD hr
            refine (Qdq _ _).mono ?_
            rintro e w' ⟨rfl, rfl⟩
            go_wp2_with fail
            go_ret3
            exact ⟨Qfy fin.out.1.symm fin.out.2.1.symm fin.out.2.2.symm, rfl⟩
  · have hfin : Qcq s i = none := by unfold Qcq; rw [if_neg hi]
    have fin : Hid (Qfo s i = 0 ∧ Qfp s i = 0 ∧ Qeu s i = 1) := by
        simp only [Hid, Qfo, Qfp, Qeu, hfin]; exact ⟨trivial, trivial, trivial⟩
    clear hfin
    by_cases h0 : i < 0
    · go_enter Try.func58, Try.ntmps58
      go_wp2
      go_ret3
      exact ⟨Qfy fin.out.1.symm fin.out.2.1.symm fin.out.2.2.symm, rfl⟩
    · have h1 : (s.size : Int) ≤ i := by omega
      clear hi
      go_enter Try.func58, Try.ntmps58
      go_wp2
      go_ret3
      exact ⟨Qfy fin.out.1.symm fin.out.2.1.symm fin.out.2.2.symm, rfl⟩
theorem i64_and63 (n : Int) : bits .and .i64 n 63 = n % 64 := by
 have h63 : (BitVec.ofInt 64 63).toNat = 2 ^ 6 - 1 := by decide
 have key : (BitVec.ofInt 64 n &&& BitVec.ofInt 64 63).toNat = (n % ((2 ^ 64 : Nat) : Int)).toNat % 2 ^ 6 := by
  rw [BitVec.toNat_and, BitVec.toNat_ofInt, h63, Nat.and_two_pow_sub_one_eq_mod]
 show IntKind.i64.wrap ((BitVec.ofInt 64 n &&& BitVec.ofInt 64 63).toNat : Nat) = n % 64
 rw [key, IntKind.wrap_i64]
 omega
theorem or128N : ∀ y : Nat, y < 64 → bits .or .u8 128 (y : Int) = 128 + (y : Int) := by decide +kernel
theorem or128 (n : Int) : bits .or .u8 128 (bits .and .i64 n 63 % 256) = 128 + n % 64 := by
 rw [i64_and63]
 obtain ⟨y, hy⟩ := Int.eq_ofNat_of_zero_le (show 0 ≤ n % 64 % 256 by omega)
 rw [hy, or128N y (by omega)]; omega
theorem lead2N : ∀ y : Nat, y < 32 → bits .or .i64 (bits .and .i64 960 255) (y : Int) % 256 = 192 + (y : Int) := by decide +kernel
theorem lead3N : ∀ y : Nat, y < 16 → bits .or .i64 (bits .and .i64 480 255) (y : Int) % 256 = 224 + (y : Int) := by decide +kernel
theorem lead4N : ∀ y : Nat, y < 8 → bits .or .i64 (bits .and .i64 240 255) (y : Int) % 256 = 240 + (y : Int) := by decide +kernel
theorem lead2 (y : Int) (h0 : 0 ≤ y) (h : y < 32) : bits .or .i64 (bits .and .i64 960 255) y % 256 = 192 + y := by
 obtain ⟨n, rfl⟩ := Int.eq_ofNat_of_zero_le h0; exact lead2N n (by omega)
theorem lead3 (y : Int) (h0 : 0 ≤ y) (h : y < 16) : bits .or .i64 (bits .and .i64 480 255) y % 256 = 224 + y := by
 obtain ⟨n, rfl⟩ := Int.eq_ofNat_of_zero_le h0; exact lead3N n (by omega)
theorem lead4 (y : Int) (h0 : 0 ≤ y) (h : y < 8) : bits .or .i64 (bits .and .i64 240 255) y % 256 = 240 + y := by
 obtain ⟨n, rfl⟩ := Int.eq_ofNat_of_zero_le h0; exact lead4N n (by omega)
def encL (n : Int) : List Int :=
 if n < 128 then [n] else if n < 2048 then [192 + n / 64, 128 + n % 64] else if n < 65536 then [224 + n / 64 / 64, 128 + n / 64 % 64, 128 + n % 64]
 else [240 + n / 64 / 64 / 64, 128 + n / 64 / 64 % 64, 128 + n / 64 % 64, 128 + n % 64]
def enc (n : Int) : ByteArray := strOfNums (encL n)
def putS (n : Int) : ByteArray := if right n = true then enc n else ByteArray.empty
def putE (n : Int) : Int := if right n = true then 0 else 16
theorem Qhq (l : List Int) (n : Nat) (hl : l.length = n) (w : World) : (convert 56 9 (.slice (some ⟨w.heap.size, 0, none⟩) n n)).run Try.prog (w.alloc (.cells (l.map (Value.int .u8)).toArray 5)) = .ok (.string (strOfNums l)) (w.alloc (.cells (l.map (Value.int .u8)).toArray 5)) := by
 refine run_convert_bytes_arg _ 56 5 Try.underlying56 Try.underlying5 _ 0 n n l hl ?_ 9 Try.underlying9
 intro i hi
 rw [World.cell?_alloc_new]
 simp [List.getElem?_eq_getElem (show i < l.length by omega)]
theorem put1 (n : Int) (h0 : 0 ≤ n) (h1 : n < 128) (w : World) :
  Calls Try.prog 59 #[.int .i64 n] w fun e w' => e = .returned (.tuple #[.string (enc n), .int .i64 0]) ∧ Below w.heap.size w w' := by
 have hr : right n = true := by simp [right]; omega
 have hw : Qbd n = 1 := by unfold Qbd; repeat' split <;> omega
 have hcv := fun (w : World) (a : Int) => Qhq [a] 1 rfl w
 simp only [List.map] at hcv
 have fin := Lib.hid (show encL n = [n] by unfold encL; rw [if_pos (by omega)])
 go_enter Try.func59, Try.ntmps59
 go_wp2_with (first | (go_at_call 91; refine (Qdq _ _).mono ?_; rintro e w' ⟨rfl, rfl⟩) | (go_at_call 92; refine (Qhg _ _).mono ?_; rintro e w' ⟨rfl, rfl⟩))
 go_ret2
 refine ⟨Qfe ?_ rfl, (Below.refl _ _).alloc (Nat.le_refl _) _⟩
 rw [enc, fin.out]
theorem put2 (n : Int) (h0 : 128 ≤ n) (h1 : n < 2048) (w : World) :
  Calls Try.prog 59 #[.int .i64 n] w fun e w' => e = .returned (.tuple #[.string (enc n), .int .i64 0]) ∧ Below w.heap.size w w' := by
 have hr : right n = true := by simp [right]; omega
 have hw : Qbd n = 2 := by unfold Qbd; repeat' split <;> omega
 have hmk : ∀ w : World, (Instr.makeSlice 56 (.int .i64 2) (.int .i64 2)).run Try.prog w = .ok (.slice (some ⟨w.heap.size, 0, none⟩) 2 2) (w.alloc (.cells #[.int .u8 0, .int .u8 0] 5)) := fun _ => by kernel_rfl
 have hcv := fun (w : World) (a b : Int) => Qhq [a, b] 2 rfl w
 simp only [List.map] at hcv
 have fin := Lib.hid (show encL n = [192 + n / 64, 128 + n % 64] by unfold encL; rw [if_neg (by omega), if_pos (by omega)])
 go_enter Try.func59, Try.ntmps59
 go_wp2_with (first | (go_at_call 91; refine (Qdq _ _).mono ?_; rintro e w' ⟨rfl, rfl⟩) | (go_at_call 92; refine (Qhg _ _).mono ?_; rintro e w' ⟨rfl, rfl⟩))
 go_rounds 2
 go_ret2
 refine ⟨Qfe ?_ rfl, (Below.refl _ _).alloc (Nat.le_refl _) _⟩
 rw [enc, fin.out, or128, lead2 _ (by omega) (by omega)]
theorem put3 (n : Int) (h0 : 2048 ≤ n) (h1 : n < 65536) (hr : right n = true) (w : World) :
  Calls Try.prog 59 #[.int .i64 n] w fun e w' => e = .returned (.tuple #[.string (enc n), .int .i64 0]) ∧ Below w.heap.size w w' := by
 have hw : Qbd n = 3 := by unfold Qbd; repeat' split <;> omega
 have hmk : ∀ w : World, (Instr.makeSlice 56 (.int .i64 3) (.int .i64 3)).run Try.prog w = .ok (.slice (some ⟨w.heap.size, 0, none⟩) 3 3) (w.alloc (.cells #[.int .u8 0, .int .u8 0, .int .u8 0] 5)) := fun _ => by kernel_rfl
 have hcv := fun (w : World) (a b c : Int) => Qhq [a, b, c] 3 rfl w
 simp only [List.map] at hcv
 have fin := Lib.hid (show encL n = [224 + n / 64 / 64, 128 + n / 64 % 64, 128 + n % 64] by unfold encL; rw [if_neg (by omega), if_neg (by omega), if_pos (by omega)])
 go_enter Try.func59, Try.ntmps59
 go_wp2_with (first | (go_at_call 91; refine (Qdq _ _).mono ?_; rintro e w' ⟨rfl, rfl⟩) | (go_at_call 92; refine (Qhg _ _).mono ?_; rintro e w' ⟨rfl, rfl⟩))
 go_rounds 3
 go_ret2
 refine ⟨Qfe ?_ rfl, (Below.refl _ _).alloc (Nat.le_refl _) _⟩
 rw [enc, fin.out, or128, or128, lead3 _ (by omega) (by omega)]
theorem put4 (n : Int) (h0 : 65536 ≤ n) (h1 : n ≤ 1114111) (w : World) :
  Calls Try.prog 59 #[.int .i64 n] w fun e w' => e = .returned (.tuple #[.string (enc n), .int .i64 0]) ∧ Below w.heap.size w w' := by
 have hr : right n = true := by simp [right]; omega
 have hw : Qbd n = 4 := by unfold Qbd; repeat' split <;> omega
 have hmk : ∀ w : World, (Instr.makeSlice 56 (.int .i64 4) (.int .i64 4)).run Try.prog w = .ok (.slice (some ⟨w.heap.size, 0, none⟩) 4 4) (w.alloc (.cells #[.int .u8 0, .int .u8 0, .int .u8 0, .int .u8 0] 5)) := fun _ => by kernel_rfl
 have hcv := fun (w : World) (a b c d : Int) => Qhq [a, b, c, d] 4 rfl w
 simp only [List.map] at hcv
 have fin := Lib.hid (show encL n = [240 + n / 64 / 64 / 64, 128 + n / 64 / 64 % 64, 128 + n / 64 % 64, 128 + n % 64] by unfold encL; rw [if_neg (by omega), if_neg (by omega), if_neg (by omega)])
 go_enter Try.func59, Try.ntmps59
 go_wp2_with (first | (go_at_call 91; refine (Qdq _ _).mono ?_; rintro e w' ⟨rfl, rfl⟩) | (go_at_call 92; refine (Qhg _ _).mono ?_; rintro e w' ⟨rfl, rfl⟩))
 go_rounds 4
 go_ret2
 refine ⟨Qfe ?_ rfl, (Below.refl _ _).alloc (Nat.le_refl _) _⟩
 rw [enc, fin.out, or128, or128, or128, lead4 _ (by omega) (by omega)]
theorem put0 (n : Int) (hr : right n = false) (w : World) :
  Calls Try.prog 59 #[.int .i64 n] w fun e w' => e = .returned (.tuple #[.string ByteArray.empty, .int .i64 16]) ∧ Below w.heap.size w w' := by
 go_enter Try.func59, Try.ntmps59
 go_wp2_with (first | (go_at_call 91; refine (Qdq _ _).mono ?_; rintro e w' ⟨rfl, rfl⟩))
 go_ret2
 exact ⟨rfl, Below.refl _ _⟩
theorem put_any (n : Int) (w : World) :
  Calls Try.prog 59 #[.int .i64 n] w fun e w' => e = .returned (.tuple #[.string (putS n), .int .i64 (putE n)]) ∧ Below w.heap.size w w' := by
 by_cases hr : right n = true
 ·have h : 0 ≤ n ∧ n ≤ 1114111 := by have := of_decide_eq_true hr; omega
  have e1 : putS n = enc n := if_pos hr
  have e2 : putE n = 0 := if_pos hr
  rw [e1, e2]
  by_cases h1 : n < 128
  ·exact put1 n h.1 h1 w
  ·by_cases h2 : n < 2048
   ·exact put2 n (by omega) h2 w
   ·by_cases h3 : n < 65536
    ·exact put3 n (by omega) h3 hr w
    ·exact put4 n (by omega) h.2 w
 ·have e1 : putS n = ByteArray.empty := if_neg hr
  have e2 : putE n = 16 := if_neg hr
  rw [e1, e2]
  exact put0 n (by simpa using hr) w
theorem info5 : (Try.prog.info? 5).map (fun i => (i.zero, i.size, i.bytes)) = some (some (.int .u8 0), 1, 1) := by kernel_rfl
theorem cv_own {w : World} {base : Nat} {v : Value} {n : Nat} {l : List Int} (h : w.ownsRow base 5 1 v n (l.map (Value.int .u8))) : (convert 56 9 v).run Try.prog w = .ok (.string (strOfNums l)) w := by
 have hn := own_len h
 rcases h.2 with ⟨rfl, rfl⟩ | ⟨g, cap, cur, rfl, hg, hh, hr⟩
 ·have : l = [] := by simpa using hn
  subst this
  rw [run_convert_bytes_nil w 56 5 Try.underlying56 Try.underlying5 0 0 9 Try.underlying9]; rfl
 ·refine run_convert_bytes_arg _ 56 5 Try.underlying56 Try.underlying5 _ 0 n cap l (by simpa using hn) ?_ 9 Try.underlying9
  intro i hi
  have := h.cells (g := g) rfl i (.int .u8 (l.getD i 0)) (by
   rw [List.getElem?_map, List.getD_eq_getElem?_getD, List.getElem?_eq_getElem (by simp at hn; omega)]; rfl)
  have e : (⟨g, 0, none⟩ : Addr).add i = ⟨g, 0 + i, none⟩ := by unfold Addr.add; split <;> simp_all
  rw [e] at this; exact this
def encN (m : Int) : List Nat := (encL m).map Int.toNat
theorem Qhc (m : Int) : right m = true ↔ 0 ≤ m ∧ m ≤ 1114111 ∧ (m < 55296 ∨ 57343 < m) := by simp [right]
theorem leadW1 (c : Int) (h : c < 128) : Qaw c = 1 := if_pos h
theorem leadW2 (c : Int) (h : 192 ≤ c ∧ c < 224) : Qaw c = 2 := by unfold Qaw; rw [if_neg (by omega), if_pos h]
theorem leadW3 (c : Int) (h : 224 ≤ c ∧ c < 240) : Qaw c = 3 := by unfold Qaw; rw [if_neg (by omega), if_neg (by omega), if_pos h]
theorem leadW4 (c : Int) (h : 240 ≤ c ∧ c < 248) : Qaw c = 4 := by unfold Qaw; rw [if_neg (by omega), if_neg (by omega), if_neg (by omega), if_pos h]
theorem leadB1 (c : Int) (h : c < 128) : Qdl c = c := if_pos h
theorem leadB2 (c : Int) (h : 192 ≤ c ∧ c < 224) : Qdl c = c - 192 := by unfold Qdl; rw [if_neg (by omega), if_pos h]; omega
theorem leadB3 (c : Int) (h : 224 ≤ c ∧ c < 240) : Qdl c = c - 224 := by unfold Qdl; rw [if_neg (by omega), if_neg (by omega), if_pos h]; omega
theorem leadB4 (c : Int) (h : 240 ≤ c ∧ c < 248) : Qdl c = c - 240 := by unfold Qdl; rw [if_neg (by omega), if_neg (by omega), if_neg (by omega), if_pos h]; omega
theorem width1 (m : Int) (h : m < 128) : Qbd m = 1 := if_pos h
theorem width2 (m : Int) (h : 128 ≤ m) (h' : m < 2048) : Qbd m = 2 := by unfold Qbd; rw [if_neg (by omega), if_pos h']
theorem width3 (m : Int) (h : 2048 ≤ m) (h' : m < 65536) : Qbd m = 3 := by unfold Qbd; rw [if_neg (by omega), if_neg (by omega), if_pos h']
theorem width4 (m : Int) (h : 65536 ≤ m) : Qbd m = 4 := by unfold Qbd; rw [if_neg (by omega), if_neg (by omega), if_neg (by omega)]
theorem dec1 (a : Nat) (r : List Nat) (h : a < 128) : dec (a :: r) = some ((a : Int), 1) := by
 have e : right (a : Int) = true := (Qhc _).2 (by omega)
 simp only [dec, leadW1 (a : Int) (by omega), leadB1 (a : Int) (by omega)]
 rw [if_neg (by omega)]; simp [accs, Qfl, e, width1 (a : Int) (by omega)]
theorem dec2 (a b : Nat) (r : List Nat) (h : 192 ≤ a ∧ a < 224) : dec (a :: b :: r) = if b / 64 = 2 ∧ 194 ≤ a then some (((a : Int) - 192) * 64 + (b % 64 : Nat), 2) else none := by
 simp only [dec, leadW2 (a : Int) (by omega), leadB2 (a : Int) (by omega)]
 rw [if_neg (by simp; omega)]
 have e : (b :: r).take (((2 : Int) - 1).toNat) = [b] := rfl
 rw [e]
 by_cases hb : b / 64 = 2 ∧ 194 ≤ a
 ·rw [if_pos hb, if_pos ⟨by simpa [Qfl] using hb.1, (Qhc _).2 (by simp [accs]; omega), width2 _ (by simp [accs]; omega) (by simp [accs]; omega)⟩]; rfl
 ·rw [if_neg hb, if_neg]
  rintro ⟨h1, h2, h3⟩
  have h1' : b / 64 = 2 := by simpa [Qfl] using h1
  have : accs ((a:Int) - 192) [b] < 128 := by simp [accs]; omega
  rw [width1 _ this] at h3; omega
theorem dec3 (a b c : Nat) (r : List Nat) (h : 224 ≤ a ∧ a < 240) : dec (a :: b :: c :: r) = if b / 64 = 2 ∧ c / 64 = 2 ∧ right ((((a : Int) - 224) * 64 + (b % 64 : Nat)) * 64 + (c % 64 : Nat)) = true ∧ (225 ≤ a ∨ 160 ≤ b) then some ((((a : Int) - 224) * 64 + (b % 64 : Nat)) * 64 + (c % 64 : Nat), 3) else none := by
 simp only [dec, leadW3 (a : Int) (by omega), leadB3 (a : Int) (by omega)]
 rw [if_neg (by simp; omega)]
 have e : (b :: c :: r).take (((3 : Int) - 1).toNat) = [b, c] := rfl
 rw [e]
 have ea : accs ((a:Int) - 224) [b, c] = (((a : Int) - 224) * 64 + (b % 64 : Nat)) * 64 + (c % 64 : Nat) := rfl
 rw [ea]
 by_cases hb : b / 64 = 2 ∧ c / 64 = 2 ∧ right ((((a : Int) - 224) * 64 + (b % 64 : Nat)) * 64 + (c % 64 : Nat)) = true ∧ (225 ≤ a ∨ 160 ≤ b)
 ·rw [if_pos hb, if_pos ⟨by simpa [Qfl] using ⟨hb.1, hb.2.1⟩, hb.2.2.1, width3 _ (by omega) (by omega)⟩]
 ·rw [if_neg hb, if_neg]
  rintro ⟨h1, h2, h3⟩
  have h1' : b / 64 = 2 ∧ c / 64 = 2 := by simpa [Qfl] using h1
  refine hb ⟨h1'.1, h1'.2, h2, ?_⟩
  by_cases hx : (((a : Int) - 224) * 64 + (b % 64 : Nat)) * 64 + (c % 64 : Nat) < 2048
  ·unfold Qbd at h3; repeat' split at h3 <;> omega
  ·omega
theorem dec4 (a b c d : Nat) (r : List Nat) (h : 240 ≤ a ∧ a < 248) : dec (a :: b :: c :: d :: r) = if b / 64 = 2 ∧ c / 64 = 2 ∧ d / 64 = 2 ∧ right (((((a : Int) - 240) * 64 + (b % 64 : Nat)) * 64 + (c % 64 : Nat)) * 64 + (d % 64 : Nat)) = true ∧ (241 ≤ a ∨ 144 ≤ b) then some (((((a : Int) - 240) * 64 + (b % 64 : Nat)) * 64 + (c % 64 : Nat)) * 64 + (d % 64 : Nat), 4) else none := by
 simp only [dec, leadW4 (a : Int) (by omega), leadB4 (a : Int) (by omega)]
 rw [if_neg (by simp; omega)]
 have e : (b :: c :: d :: r).take (((4 : Int) - 1).toNat) = [b, c, d] := rfl
 rw [e]
 have ea : accs ((a:Int) - 240) [b, c, d] = ((((a : Int) - 240) * 64 + (b % 64 : Nat)) * 64 + (c % 64 : Nat)) * 64 + (d % 64 : Nat) := rfl
 rw [ea]
 by_cases hb : b / 64 = 2 ∧ c / 64 = 2 ∧ d / 64 = 2 ∧ right (((((a : Int) - 240) * 64 + (b % 64 : Nat)) * 64 + (c % 64 : Nat)) * 64 + (d % 64 : Nat)) = true ∧ (241 ≤ a ∨ 144 ≤ b)
 ·rw [if_pos hb, if_pos ⟨by simpa [Qfl] using ⟨hb.1, hb.2.1, hb.2.2.1⟩, hb.2.2.2.1, width4 _ (by omega)⟩]
 ·rw [if_neg hb, if_neg]
  rintro ⟨h1, h2, h3⟩
  have h1' : b / 64 = 2 ∧ c / 64 = 2 ∧ d / 64 = 2 := by simpa [Qfl] using h1
  refine hb ⟨h1'.1, h1'.2.1, h1'.2.2, h2, ?_⟩
  by_cases hx : ((((a : Int) - 240) * 64 + (b % 64 : Nat)) * 64 + (c % 64 : Nat)) * 64 + (d % 64 : Nat) < 65536
  ·unfold Qbd at h3; repeat' split at h3 <;> omega
  ·omega
theorem encL1 (m : Int) (h : m < 128) : encL m = [m] := if_pos h
theorem encL2 (m : Int) (h : 128 ≤ m) (h' : m < 2048) : encL m = [192 + m / 64, 128 + m % 64] := by unfold encL; rw [if_neg (by omega), if_pos h']
theorem encL3 (m : Int) (h : 2048 ≤ m) (h' : m < 65536) : encL m = [224 + m / 64 / 64, 128 + m / 64 % 64, 128 + m % 64] := by unfold encL; rw [if_neg (by omega), if_neg (by omega), if_pos h']
theorem encL4 (m : Int) (h : 65536 ≤ m) : encL m = [240 + m / 64 / 64 / 64, 128 + m / 64 / 64 % 64, 128 + m / 64 % 64, 128 + m % 64] := by unfold encL; rw [if_neg (by omega), if_neg (by omega), if_neg (by omega)]
theorem Qjc (m : Int) (h : right m = true) : (0 ≤ m ∧ m < 128) ∨ (128 ≤ m ∧ m < 2048) ∨ (2048 ≤ m ∧ m < 65536) ∨ (65536 ≤ m ∧ m ≤ 1114111) := by
 have := (Qhc m).1 h; omega
theorem dec_enc (m : Int) (hm : right m = true) (r : List Nat) : dec (encN m ++ r) = some (m, Qbd m) := by
 rcases Qjc m hm with h | h | h | h
 ·rw [encN, encL1 m h.2, width1 m h.2]
  have := dec1 m.toNat r (by omega)
  rw [show ((m.toNat : Nat) : Int) = m by omega] at this; exact this
 ·rw [encN, encL2 m h.1 h.2, width2 m h.1 h.2]
  have := dec2 (192 + m / 64).toNat (128 + m % 64).toNat r (by omega)
  rw [if_pos (by omega)] at this
  refine this.trans ?_
  rw [show (((192 + m / 64).toNat : Int) - 192) * 64 + (((128 + m % 64).toNat % 64 : Nat) : Int) = m by omega]
 ·rw [encN, encL3 m h.1 h.2, width3 m h.1 h.2]
  have := dec3 (224 + m / 64 / 64).toNat (128 + m / 64 % 64).toNat (128 + m % 64).toNat r (by omega)
  rw [show ((((224 + m / 64 / 64).toNat : Int) - 224) * 64 + (((128 + m / 64 % 64).toNat % 64 : Nat) : Int)) * 64 + (((128 + m % 64).toNat % 64 : Nat) : Int) = m by omega, if_pos ⟨by omega, by omega, hm, by omega⟩] at this
  exact this
 ·rw [encN, encL4 m h.1, width4 m h.1]
  have := dec4 (240 + m / 64 / 64 / 64).toNat (128 + m / 64 / 64 % 64).toNat (128 + m / 64 % 64).toNat (128 + m % 64).toNat r (by omega)
  rw [show (((((240 + m / 64 / 64 / 64).toNat : Int) - 240) * 64 + (((128 + m / 64 / 64 % 64).toNat % 64 : Nat) : Int)) * 64 + (((128 + m / 64 % 64).toNat % 64 : Nat) : Int)) * 64 + (((128 + m % 64).toNat % 64 : Nat) : Int) = m by omega, if_pos ⟨by omega, by omega, by omega, hm, by omega⟩] at this
  exact this
theorem dec_some (l : List Nat) (m w : Int) (h : dec l = some (m, w)) : right m = true ∧ w = Qbd m ∧ ∃ r, l = encN m ++ r := by
  match l with
  | [] => simp [dec] at h
  | a :: r =>
    by_cases h1 : a < 128
    · rw [dec1 a r h1] at h
      simp only [Option.some.injEq, Prod.mk.injEq] at h
      obtain ⟨rfl, rfl⟩ := h
      exact ⟨(Qhc _).2 (by omega), (width1 _ (by omega)).symm, r, by rw [encN, encL1 _ (by omega)]; rfl⟩
    by_cases h2 : 192 ≤ a ∧ a < 224
    · match r with
      | [] => simp [dec, leadW2 (a : Int) (by omega)] at h
      | b :: r =>
        rw [dec2 a b r h2] at h
        split at h
        · rename_i hb
          simp only [Option.some.injEq, Prod.mk.injEq] at h
          obtain ⟨rfl, rfl⟩ := h
          refine ⟨(Qhc _).2 (by omega), (width2 _ (by omega) (by omega)).symm, r, ?_⟩
          rw [encN, encL2 _ (by omega) (by omega)]
          simp only [List.map, List.cons_append, List.nil_append]
          congr 1
          · omega
          · congr 1; omega
        · cases h
    by_cases h3 : 224 ≤ a ∧ a < 240
    · match r with
      | [] => simp [dec, leadW3 (a : Int) (by omega)] at h
      | [_] => simp [dec, leadW3 (a : Int) (by omega)] at h
      | b :: c :: r =>
        rw [dec3 a b c r h3] at h
        split at h
        · rename_i hb
          simp only [Option.some.injEq, Prod.mk.injEq] at h
          obtain ⟨rfl, rfl⟩ := h
          refine ⟨hb.2.2.1, (width3 _ (by omega) (by omega)).symm, r, ?_⟩
          rw [encN, encL3 _ (by omega) (by omega)]
          simp only [List.map, List.cons_append, List.nil_append]
          congr 1
          · omega
          · congr 1
            · omega
            · congr 1; omega
        · cases h
    by_cases h4 : 240 ≤ a ∧ a < 248
    · match r with
      | [] => simp [dec, leadW4 (a : Int) (by omega)] at h
      | [_] => simp [dec, leadW4 (a : Int) (by omega)] at h
      | [_, _] => simp [dec, leadW4 (a : Int) (by omega)] at h
      | b :: c :: d :: r =>
        rw [dec4 a b c d r h4] at h
        split at h
        · rename_i hb
          simp only [Option.some.injEq, Prod.mk.injEq] at h
          obtain ⟨rfl, rfl⟩ := h
          refine ⟨hb.2.2.2.1, (width4 _ (by omega)).symm, r, ?_⟩
          rw [encN, encL4 _ (by omega)]
          simp only [List.map, List.cons_append, List.nil_append]
          congr 1
          · omega
          · congr 1
            · omega
            · congr 1
              · omega
              · congr 1; omega
        · cases h
    · have h0 : Qaw (a : Int) = 0 := by unfold Qaw; repeat' split <;> omega
      simp [dec, h0] at h
theorem encN_lt (m : Int) (h : right m = true) : ∀ c ∈ encN m, c < 256 := by
 rcases Qjc m h with h | h | h | h
 ·rw [encN, encL1 m h.2]; intro c hc; simp at hc; omega
 ·rw [encN, encL2 m h.1 h.2]; intro c hc; simp at hc; omega
 ·rw [encN, encL3 m h.1 h.2]; intro c hc; simp at hc; omega
 ·rw [encN, encL4 m h.1]; intro c hc; simp at hc; omega
theorem Qhy (m : Int) (h : right m = true) : ((encN m).length : Int) = Qbd m := by
 rcases Qjc m h with h | h | h | h
 ·rw [encN, encL1 m h.2, width1 m h.2]; rfl
 ·rw [encN, encL2 m h.1 h.2, width2 m h.1 h.2]; rfl
 ·rw [encN, encL3 m h.1 h.2, width3 m h.1 h.2]; rfl
 ·rw [encN, encL4 m h.1, width4 m h.1]; rfl
theorem width_le (m : Int) : 1 ≤ Qbd m ∧ Qbd m ≤ 4 := by unfold Qbd; repeat' split <;> omega
theorem nats_of (l : List Int) (h : ∀ c ∈ l.map Int.toNat, c < 256) : nats (strOfNums l) = l.map Int.toNat := by
 rw [nats, strOfNums_data, List.map_map]
 refine List.map_congr_left fun c hc => ?_
 have := h c.toNat (List.mem_map.2 ⟨c, hc, rfl⟩)
 simp; omega
theorem nats_enc (m : Int) (h : right m = true) : nats (enc m) = encN m := nats_of _ (encN_lt m h)
theorem nats_inj {a b : ByteArray} (h : nats a = nats b) : a = b := by
 refine ByteArray.ext (Array.toList_inj.mp ?_)
 exact (List.map_inj_right (fun x y h => UInt8.toNat_inj.1 h)).1 h
theorem Qkd (s : ByteArray) (n : Nat) (h : n < s.size) : Qcq s n = dec ((nats s).drop n) := by
 unfold Qcq; rw [if_pos ⟨by omega, by omega⟩]; rfl
def allF (s : ByteArray) : Nat → Nat → List Int × Nat × Bool
 | 0, k => ([], k, true)
 | f + 1, k => if k < s.size then (match Qcq s k with
   | some x => (x.1 :: (allF s f (k + x.2.toNat)).1, (allF s f (k + x.2.toNat)).2)
   | none => ([], k, false)) else ([], k, true)
def addP (l : List Int) (r : List Int × Nat × Bool) : List Int × Nat × Bool := (l ++ r.1, r.2)
def allA (s : ByteArray) : List Int × Nat × Bool := allF s s.size 0
def allS (s : ByteArray) : List Int := if 65535 < s.size then [] else if (allA s).2.2 = true then (allA s).1 else []
def allAt (s : ByteArray) : Int := if 65535 < s.size then 0 else if (allA s).2.2 = true then s.size else (allA s).2.1
def allE (s : ByteArray) : Int := if 65535 < s.size then 2 else if (allA s).2.2 = true then 0 else 1
theorem allF_end (s : ByteArray) (f k : Nat) (h : s.size ≤ k) : allF s f k = ([], k, true) := by
 cases f with
 | zero => rfl
 | succ f => rw [allF, if_neg (by omega)]
theorem allF_none (s : ByteArray) (f k : Nat) (h : k < s.size) (hf : s.size ≤ k + f) (hd : Qcq s k = none) : allF s f k = ([], k, false) := by
 cases f with
 | zero => omega
 | succ f => rw [allF, if_pos h, hd]
theorem allF_some (s : ByteArray) (f k : Nat) (x : Int × Int) (l : List Int) (h : k < s.size) (hf : s.size ≤ k + f) (hd : Qcq s k = some x) (hw : 1 ≤ x.2) : ∃ f', s.size ≤ k + x.2.toNat + f' ∧ addP l (allF s f k) = addP (l ++ [x.1]) (allF s f' (k + x.2.toNat)) := by
  cases f with
  | zero => omega
  | succ f =>
    refine ⟨f, by omega, ?_⟩
    rw [allF, if_pos h, hd]
    simp [addP]
theorem decAt_bd (s : ByteArray) (k : Nat) (h : k < s.size) (x : Int × Int) (hd : Qcq s k = some x) : 1 ≤ x.2 ∧ x.2 ≤ 4 ∧ (k : Int) + x.2 ≤ s.size := by
 rw [Qkd s k h] at hd
 obtain ⟨hr, hw, r, hl⟩ := dec_some _ _ _ hd
 have h4 := width_le x.1
 have hlen := Qhy x.1 hr
 have := congrArg List.length hl
 rw [List.length_drop, Qcg, List.length_append] at this
 omega
theorem info3 : (Try.prog.info? 3).map (fun i => (i.zero, i.size, i.bytes)) = some (some (.int .i64 0), 1, 8) := by kernel_rfl
theorem all_any (s : ByteArray) (hs : s.size ≤ maxLen) (w : World) :
    Calls Try.prog 30 #[.string s] w fun e w' => ∃ v, e = .returned (.tuple #[v, .int .i64 (allAt s), .int .i64 (allE s)]) ∧ w'.ownsRow w.heap.size 3 1 v (allS s).length ((allS s).map (Value.int .i64)) ∧ Below w.heap.size w w' := by
  have hs0 := hs
  unfold maxLen at hs
  obtain ⟨i0, hi, hz0, hz1, hz2⟩ := info_parts info3
  by_cases hlong : 65535 < s.size
  · have e1 : allS s = [] := if_pos hlong
    have e2 : allAt s = 0 := if_pos hlong
    have e3 : allE s = 2 := if_pos hlong
    rw [e1, e2, e3]
    go_enter Try.func30, Try.ntmps30
    go_wp2_with fail
    go_ret3
    exact ⟨_, rfl, World.ownsRow_nil _ _ _ _, Below.refl _ _⟩
  · have hshort : s.size ≤ 65535 := by omega
    have E1 := Lib.hid (show allS s = if (allA s).2.2 = true then (allA s).1 else [] from if_neg hlong)
    have E2 := Lib.hid (show allAt s = if (allA s).2.2 = true then (s.size : Int) else (allA s).2.1 from if_neg hlong)
    have E3 := Lib.hid (show allE s = if (allA s).2.2 = true then 0 else 1 from if_neg hlong)
    clear hlong
    go_enter Try.func30, Try.ntmps30
    go_wp2_with fail
    go_loopw [5, 6] (fun v i wr => ∃ k : Nat, k ≤ s.size ∧ i = .int .i64 k ∧ (∃ l : List Int, l.length ≤ k ∧ Hid (∃ f, s.size ≤ k + f ∧ addP l (allF s f k) = allA s) ∧ wr.ownsRow w.heap.size 3 1 v l.length (l.map (Value.int .i64))) ∧ Below w.heap.size w wr)
      (fun _ i _ => s.size - (intOf i).toNat)
    case atStart => exact ⟨0, Nat.zero_le _, rfl, ⟨[], Nat.le_refl _, ⟨s.size, by omega, rfl⟩, World.ownsRow_nil _ _ _ _⟩, Below.refl _ _⟩
    case round =>
      obtain ⟨k, hk, rfl, ⟨l, hlk, HF, hown⟩, hbel⟩ := hrel
      by_cases hlt : k < s.size
      · cases hd : Qcq s k with
        | none =>
          have n3 : Qeu s k = 1 := by simp only [Qeu, hd]
          have HN := Lib.hid (show allA s = (l, k, false) by
            obtain ⟨f, hf, hp⟩ := HF.out
            rw [← hp, allF_none s f k hlt hf hd]; simp [addP])
          clear hd
          go_wp2_with fail
          refine (next_any s hs0 _ _).mono ?_
          rintro e w' ⟨rfl, rfl⟩
          go_wp2_with fail
          go_ret3
          have hA := HN.out
          have x1 : allS s = [] := by rw [E1.out, hA]; rfl
          have x2 : allAt s = k := by rw [E2.out, hA]; rfl
          have x3 : allE s = 1 := by rw [E3.out, hA]; rfl
          rw [x1, x2, x3]
          exact ⟨_, rfl, World.ownsRow_nil _ _ _ _, hbel⟩
        | some x =>
          have n1 : Qfo s k = x.1 := by simp only [Qfo, hd]
          have n2 : Qfp s k = x.2 := by simp only [Qfp, hd]
          have n3 : Qeu s k = 0 := by simp only [Qeu, hd]
          have hbd := decAt_bd s k hlt x hd
          have HF2 := Lib.hid (show ∃ f, s.size ≤ k + x.2.toNat + f ∧ addP (l ++ [x.1]) (allF s f (k + x.2.toNat)) = allA s by
            obtain ⟨f, hf, hp⟩ := HF.out
            obtain ⟨f', hf', hp'⟩ := allF_some s f k x l hlt hf hd hbd.1
            exact ⟨f', hf', hp'.symm.trans hp⟩)
          have hx1 := hbd.1
          have hx2 := hbd.2.1
          have hx3 := hbd.2.2
          clear hd HF hbd
          generalize x.1 = n at *
          generalize x.2 = wd at *
          go_wp2_with fail
          refine (next_any s hs0 _ _).mono ?_
          rintro e w' ⟨rfl, rfl⟩
          have hown2 := hown
          have hbel2 := hbel
          go_wp2_with (at_builtin; refine wpList_app1 [.int .i64 n] rfl _ _ 67 rfl w.heap.size 3 i0 (.int .i64 0) 1 8 Try.underlying67 hi hz0 hz1 hz2 rfl (by decide) _ _ _ hown2 rfl rfl rfl (by intro u hu; simp at hu; subst hu; rfl) (by unfold maxLen; omega) (by omega) hbel2.size ?_)
          intro v' w1 hown' hb1'
          have hb1 := hbel2.trans hb1'
          have hown1 : w1.ownsRow w.heap.size 3 1 v' (l ++ [n]).length ((l ++ [n]).map (Value.int .i64)) := by
            rw [List.map_append, List.length_append]; exact hown'
          have hl2 : (l ++ [n]).length ≤ k + wd.toNat := by simp; omega
          clear hown' hb1' hown hbel hown2 hbel2
          go_wp2_with fail
          go_roundw
          case rel => exact ⟨k + wd.toNat, by omega, by rw [Int.natCast_add, Int.toNat_of_nonneg (by omega)], ⟨l ++ [n], hl2, HF2, hown1⟩, hb1⟩
          case measure => simp [intOf]; omega
      · have HN := Lib.hid (show allA s = (l, k, true) by
          obtain ⟨f, hf, hp⟩ := HF.out
          rw [← hp, allF_end s f k (by omega)]; simp [addP])
        go_wp2_with fail
        go_ret3
        have hA := HN.out
        have x1 : allS s = l := by rw [E1.out, hA]; rfl
        have x2 : allAt s = s.size := by rw [E2.out, hA]; rfl
        have x3 : allE s = 0 := by rw [E3.out, hA]; rfl
        rw [x1, x2, x3]
        exact ⟨_, rfl, hown, hbel⟩
def Qaz (l : List Int) : List Int := l.flatMap encL
def Qee (l : List Int) : Int := if l.all right = true then (if 65535 < (Qaz l).length then 2 else 0) else 16
def Qas (l : List Int) : ByteArray := if Qee l = 0 then strOfNums (Qaz l) else ByteArray.empty
theorem strCells_enc (n : Int) (h : right n = true) : Lib.strCells (enc n) = (encL n).map (Value.int .u8) := by
 have h2 := nats_enc n h
 unfold nats encN at h2
 have h3 : Lib.strCells (enc n) = ((enc n).data.toList.map UInt8.toNat).map (fun c : Nat => Value.int .u8 (c : Int)) := by
  simp [Lib.strCells]
 rw [h3, h2, List.map_map]
 refine List.map_congr_left fun c hc => ?_
 have : 0 ≤ c := by
  rcases Qjc n h with h | h | h | h
  ·rw [encL1 n h.2] at hc; simp at hc; omega
  ·rw [encL2 n h.1 h.2] at hc; simp at hc; omega
  ·rw [encL3 n h.1 h.2] at hc; simp at hc; omega
  ·rw [encL4 n h.1] at hc; simp at hc; omega
 show Value.int .u8 ((c.toNat : Nat) : Int) = Value.int .u8 c
 rw [Int.toNat_of_nonneg this]
theorem Qja (n : Int) : (enc n).size = (encL n).length := strOfNums_size _
theorem Qiq (l : List Int) (k : Nat) (h : k < l.length) : Qaz (l.take (k + 1)) = Qaz (l.take k) ++ encL l[k] := by
 unfold Qaz; rw [List.take_succ_eq_append_getElem h]; simp only [List.flatMap_append, List.flatMap_cons, List.flatMap_nil, List.append_nil]
theorem joinB_le (l : List Int) (k : Nat) : (Qaz (l.take k)).length ≤ (Qaz l).length := by
 have : Qaz l = Qaz (l.take k) ++ Qaz (l.drop k) := by unfold Qaz; rw [← List.flatMap_append, List.take_append_drop]
 rw [this, List.length_append]; omega
theorem encL_len (n : Int) : 1 ≤ (encL n).length ∧ (encL n).length ≤ 4 := by
 unfold encL; constructor <;> (repeat' split) <;> simp
theorem slc_cell {w w' : World} {xs : List Int} {k : IntKind} {b off : Nat} (h : ∀ i, i < xs.length → w.cell? ⟨b, off + i, none⟩ = (xs.map (Value.int k))[i]?) (hb : Below w.heap.size w w') (i : Nat) (hi : i < xs.length) :
  w'.cell? ⟨b, off + i, none⟩ = some (.int k xs[i]) := by
 have := h i hi
 rw [List.getElem?_map, List.getElem?_eq_getElem hi] at this
 rw [hb.cell (World.block_lt_of_cell? w _ this), this]; rfl
theorem ne_map {xs : List Int} {k : IntKind} {i : Nat} (h : i < xs.length) : xs.map (Value.int k) ≠ [] := by
 intro e; rw [List.map_eq_nil_iff] at e; rw [e] at h; simp at h
theorem join_any (l : List Int) (v : Value) (w : World) (hv : Slc w v (l.map (Value.int .i64))) :
  Calls Try.prog 94 #[v] w fun e w' => e = .returned (.tuple #[.string (Qas l), .int .i64 (Qee l)]) ∧ Below w.heap.size w w' := by
 obtain ⟨i0, hi, hz0, hz1, hz2⟩ := info_parts info5
 obtain ⟨a, cap, rfl, hm, hc⟩ := hv
 have HC := Lib.hid hc; clear hc
 simp only [List.length_map] at *
 unfold maxLen at hm
 go_enter Try.func94, Try.ntmps94
 go_wp2_with fail
 go_loop [13] (fun i => ∃ k : Nat, k ≤ l.length ∧ i = .int .i64 k ∧ Hid ((l.take k).all right = true)) (fun i => l.length - (intOf i).toNat)
 case atStart => exact ⟨0, Nat.zero_le _, rfl, rfl⟩
 case round =>
  obtain ⟨k, hk, rfl, hall⟩ := hrel
  by_cases hlt : k < l.length
  ·obtain ⟨b, off, rfl, hcell⟩ := HC.out (ne_map hlt)
   have c1 := slc_cell hcell (Below.refl _ _) k hlt
   clear hcell
   by_cases hr : right l[k] = true
   ·go_wp2_with (go_at_call 91; refine (Qdq _ _).mono ?_; rintro e w' ⟨rfl, rfl⟩)
    go_round
    case rel => exact ⟨k + 1, by omega, by go_num, by show (l.take (k+1)).all right = true; rw [List.take_succ_eq_append_getElem hlt, List.all_append, hall.out]; simp [hr]⟩
    case measure => simp [intOf]; omega
   ·have hr' : right l[k] = false := by simpa using hr
    have hE : Qee l = 16 := by
     unfold Qee
     rw [if_neg]
     intro h
     exact hr (List.all_eq_true.1 h _ (List.getElem_mem hlt))
    have hS : Qas l = ByteArray.empty := by unfold Qas; rw [if_neg (by rw [hE]; decide)]
    have fin := Lib.hid (And.intro hS hE)
    clear hr hE hS
    go_wp2_with (go_at_call 91; refine (Qdq _ _).mono ?_; rintro e w' ⟨rfl, rfl⟩)
    go_ret2
    exact ⟨Qfe fin.out.1.symm fin.out.2.symm, Below.refl _ _⟩
  ·have hA := Lib.hid (show l.all right = true by have := hall.out; rwa [List.take_of_length_le (by omega)] at this)
   clear hall
   go_wp2_with fail
   go_loopw [6, 23] (fun bv i wr => ∃ k : Nat, k ≤ l.length ∧ i = .int .i64 k ∧ (Qaz (l.take k)).length ≤ 65535 ∧ wr.ownsRow w.heap.size 5 1 bv (Qaz (l.take k)).length ((Qaz (l.take k)).map (Value.int .u8)) ∧ Below w.heap.size w wr) (fun _ i _ => l.length - (intOf i).toNat)
   case atStart => exact ⟨0, Nat.zero_le _, rfl, Nat.zero_le _, World.ownsRow_nil _ _ _ _, Below.refl _ _⟩
   case round =>
    obtain ⟨j, hj, rfl, hlen, hown, hbel⟩ := hrel
    by_cases hjl : j < l.length
    ·obtain ⟨b, off, rfl, hcell⟩ := HC.out (ne_map hjl)
     have c1 := slc_cell hcell hbel j hjl
     clear hcell
     have hr : right l[j] = true := List.all_eq_true.1 hA.out _ (List.getElem_mem hjl)
     have e1 : putS l[j] = enc l[j] := if_pos hr
     have HR := Lib.hid hr; clear hr
     have hes := Qja l[j]
     have hel := encL_len l[j]
     obtain ⟨aB, capB, hB, _⟩ := Slc.own hown
     simp only [List.length_map] at hB
     subst hB
     go_wp2_with fail
     refine (put_any _ _).mono ?_
     rintro e w' ⟨rfl, hb2⟩
     have hown2 := own_later hown hb2
     have hbel2 := hbel.trans (hb2.mono hbel.size)
     by_cases hbig : 65535 < (Qaz (l.take j)).length + (encL l[j]).length
     ·have hE : Qee l = 2 := by
       have h1 := Qiq l j hjl
       have h2 := joinB_le l (j + 1)
       rw [h1, List.length_append] at h2
       unfold Qee; rw [if_pos hA.out, if_pos (by omega)]
      have hS : Qas l = ByteArray.empty := by unfold Qas; rw [if_neg (by rw [hE]; decide)]
      have fin := Lib.hid (And.intro hS hE)
      clear hE hS
      go_wp2_with fail
      go_ret2
      exact ⟨Qfe fin.out.1.symm fin.out.2.symm, hbel2⟩
     ·have hb3 : (Qaz (l.take j)).length + (encL l[j]).length ≤ 65535 := by omega
      clear hbig
      go_wp2_with (at_builtin; refine Lib.wpList_append_own_string _ rfl _ _ 56 9 rfl w.heap.size 5 i0 Try.underlying56 Try.underlying9 hi hz0 hz1 hz2 _ _ _ rfl hown2 (enc l[j]) rfl (by unfold maxLen; omega) (by omega) hbel2.size ?_)
      intro v' w1 hown' hgrow _
      have hb1 : Below w.heap.size w w1 := hbel2.grown hgrow hbel2.size (fun k hk => (hown2.lt k hk).1)
      have hown1 : w1.ownsRow w.heap.size 5 1 v' (Qaz (l.take (j+1))).length ((Qaz (l.take (j+1))).map (Value.int .u8)) := by
       rw [Qiq l j hjl, List.map_append, ← strCells_enc _ HR.out, List.length_append]; exact hown'
      have hlen1 : (Qaz (l.take (j+1))).length ≤ 65535 := by rw [Qiq l j hjl, List.length_append]; exact hb3
      clear hown' hgrow hown hown2 hbel hbel2
      go_wp2_with fail
      go_roundw
      case rel => exact ⟨j + 1, by omega, by go_num, hlen1, hown1, hb1⟩
      case measure => simp [intOf]; omega
    ·rw [List.take_of_length_le (by omega)] at hlen hown
     have hE : Qee l = 0 := by unfold Qee; rw [if_pos hA.out, if_neg (by omega)]
     have hS : Qas l = strOfNums (Qaz l) := if_pos hE
     have fin := Lib.hid (And.intro hS hE)
     clear hE hS
     have hcv := cv_own hown
     clear hown
     go_wp2_with fail
     go_ret2
     exact ⟨Qfe fin.out.1.symm fin.out.2.symm, hbel⟩
def Qda (l : List Int) : List Nat := l.flatMap encN
theorem Qki (l : List Int) : Qda l = (Qaz l).map Int.toNat := by
 unfold Qda Qaz encN; rw [List.map_flatMap]
theorem joinN_lt (l : List Int) (h : l.all right = true) : ∀ c ∈ Qda l, c < 256 := by
 intro c hc
 obtain ⟨n, hn, hcn⟩ := List.mem_flatMap.1 hc
 exact encN_lt n (List.all_eq_true.1 h n hn) c hcn
theorem Qlh (l : List Int) (h : l.all right = true) : nats (strOfNums (Qaz l)) = Qda l := by
 rw [Qki]; exact nats_of _ (by rw [← Qki]; exact joinN_lt l h)
theorem Qjb (l : List Int) : (Qda l).length = (Qaz l).length := by rw [Qki, List.length_map]
theorem all_signs (s : ByteArray) : ∀ (f k : Nat), k ≤ s.size → s.size ≤ k + f → (allF s f k).2.2 = true → (allF s f k).1.all right = true ∧ (nats s).drop k = Qda (allF s f k).1 := by
  intro f
  induction f with
  | zero =>
    intro k hk hf _
    rw [allF]
    exact ⟨rfl, by rw [List.drop_of_length_le (by rw [Qcg]; omega)]; rfl⟩
  | succ f ih =>
    intro k hk hf h
    by_cases hlt : k < s.size
    · rw [allF, if_pos hlt] at h ⊢
      cases hd : Qcq s k with
      | none => rw [hd] at h; simp at h
      | some x =>
        rw [hd] at h
        have hbd := decAt_bd s k hlt x hd
        have h2 := hd
        rw [Qkd s k hlt] at h2
        obtain ⟨hr, hw, r, hl⟩ := dec_some _ _ _ h2
        obtain ⟨h3, h4⟩ := ih (k + x.2.toNat) (by omega) (by omega) h
        refine ⟨by simp only [List.all_cons, hr, h3]; rfl, ?_⟩
        have hlen := Qhy x.1 hr
        have he : (encN x.1).length = x.2.toNat := by omega
        show (nats s).drop k = encN x.1 ++ Qda _
        rw [← h4, hl, ← List.drop_drop, hl, ← he, List.drop_left]
    · rw [allF_end s _ k (by omega)]
      exact ⟨rfl, by rw [List.drop_of_length_le (by rw [Qcg]; omega)]; rfl⟩
theorem join_signs (s : ByteArray) : ∀ (l : List Int) (f k : Nat), l.all right = true → (nats s).drop k = Qda l → s.size ≤ k + f → (allF s f k).1 = l ∧ (allF s f k).2.2 = true := by
  intro l
  induction l with
  | nil =>
    intro f k _ hk hf
    have : s.size ≤ k := by
      have := congrArg List.length hk
      rw [List.length_drop, Qcg] at this; simp [Qda] at this; omega
    rw [allF_end s f k this]; exact ⟨rfl, rfl⟩
  | cons n l ih =>
    intro f k hr hk hf
    simp only [List.all_cons, Bool.and_eq_true] at hr
    have hlen := Qhy n hr.1
    have hw := width_le n
    have hlt : k < s.size := by
      have := congrArg List.length hk
      rw [List.length_drop, Qcg] at this
      simp only [Qda, List.flatMap_cons, List.length_append] at this; omega
    have hd : Qcq s k = some (n, Qbd n) := by
      rw [Qkd s k hlt, hk]; exact dec_enc n hr.1 (Qda l)
    cases f with
    | zero => omega
    | succ f =>
      rw [allF, if_pos hlt, hd]
      have h2 : (nats s).drop (k + (Qbd n).toNat) = Qda l := by
        rw [← List.drop_drop, hk]
        show (encN n ++ Qda l).drop _ = _
        rw [show (Qbd n).toNat = (encN n).length by omega, List.drop_left]
      obtain ⟨h3, h4⟩ := ih f (k + (Qbd n).toNat) hr.2 h2 (by omega)
      exact ⟨by show n :: _ = _; rw [h3], h4⟩
theorem Qel (s : ByteArray) (h : allE s = 0) : Qee (allS s) = 0 ∧ Qas (allS s) = s := by
 unfold allE at h
 by_cases hl : 65535 < s.size
 ·rw [if_pos hl] at h; omega
 rw [if_neg hl] at h
 by_cases hb : (allA s).2.2 = true
 ·have hS : allS s = (allA s).1 := by unfold allS; rw [if_neg hl, if_pos hb]
  obtain ⟨hr, hn⟩ := all_signs s s.size 0 (Nat.zero_le _) (by omega) hb
  rw [← show allA s = allF s s.size 0 from rfl, ← hS] at hr hn
  have hlen : (Qaz (allS s)).length = s.size := by rw [← Qjb, ← hn, List.length_drop, Qcg]; omega
  have hE : Qee (allS s) = 0 := by unfold Qee; rw [if_pos hr, if_neg (by omega)]
  refine ⟨hE, ?_⟩
  unfold Qas; rw [if_pos hE]
  refine nats_inj ?_
  rw [Qlh _ hr, ← hn]; rfl
 ·rw [if_neg hb] at h; omega
theorem back_signs (l : List Int) (h : Qee l = 0) : allE (Qas l) = 0 ∧ allS (Qas l) = l := by
 have hS : Qas l = strOfNums (Qaz l) := if_pos h
 unfold Qee at h
 by_cases hr : l.all right = true
 ·rw [if_pos hr] at h
  by_cases hb : 65535 < (Qaz l).length
  ·rw [if_pos hb] at h; omega
  have hsz : ¬ 65535 < (Qas l).size := by rw [hS, strOfNums_size]; exact hb
  obtain ⟨h1, h2⟩ := join_signs (Qas l) l (Qas l).size 0 hr (by rw [hS, Qlh l hr]; rfl) (by omega)
  have h2' : (allA (Qas l)).2.2 = true := h2
  have h1' : (allA (Qas l)).1 = l := h1
  exact ⟨by unfold allE; rw [if_neg hsz, if_pos h2'], by unfold allS; rw [if_neg hsz, if_pos h2', h1']⟩
 ·rw [if_neg hr] at h; omega
end Go.Proofs.Ytahhgpafjiljfaa
