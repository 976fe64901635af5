import Derived.WalkKit
import Derived.Laws.BitsAllLaws
import Derived.Test.YtdklpbefbamchaaGreatRows
import Derived.Test.YtdklpbefbamchaaGreatBK
import Derived.WalkSpells
import Derived.Lib.Hide
import Derived.WalkLawsBesides
import Derived.Laws.Bits128
import Derived.Laws.BytesArg
import Derived.Handy
import Derived.Deep.LoopGhost
set_option linter.unusedSimpArgs false
set_option linter.unusedVariables false
set_option maxHeartbeats 16000000
set_option maxRecDepth 100000
namespace Go.Proofs.YtdklpbefbamchaaGreat
open Go.RowKit
def right (n : Int) : Bool := decide (0 ≤ n ∧ n ≤ 1114111 ∧ (n < 55296 ∨ 57343 < n))
def Qcn (n : Int) : Int := if n < 128 then 1 else if n < 2048 then 2 else if n < 65536 then 3 else 4
def Qbg (c : Int) : Int := if c < 128 then 1 else if 192 ≤ c ∧ c < 224 then 2 else if 224 ≤ c ∧ c < 240 then 3 else if 240 ≤ c ∧ c < 248 then 4 else 0
def Qdh (c : Int) : Int := if c < 128 then c else if 192 ≤ c ∧ c < 224 then c % 32 else if 224 ≤ c ∧ c < 240 then c % 16 else if 240 ≤ c ∧ c < 248 then c % 8 else 0
def nats (s : ByteArray) : List Nat := s.data.toList.map UInt8.toNat
def nb (s : ByteArray) (i : Nat) : Nat := (nats s).getD i 0
theorem Qcx (s : ByteArray) : (nats s).length = s.size := by simp [nats]
theorem nb_lt (s : ByteArray) (i : Nat) : nb s i < 256 := by
 unfold nb nats
 rw [List.getD_eq_getElem?_getD, List.getElem?_map]
 cases s.data.toList[i]? with
 | none => simp
 | some x => simpa using x.toNat_lt
theorem nb_eq (s : ByteArray) (i : Nat) (h : i < s.size) : s[i].toNat = nb s i := by
 unfold nb nats
 rw [List.getD_eq_getElem?_getD, List.getElem?_map, List.getElem?_eq_getElem (by simpa using h)]; rfl
def accs (n : Int) (l : List Nat) : Int := l.foldl (fun n c => n * 64 + (c % 64 : Nat)) n
def Qek (l : List Nat) : Bool := l.all (fun c => c / 64 == 2)
def dec : List Nat → Option (Int × Int)
  | [] => none
  | c :: r =>
    if Qbg c = 0 ∨ (r.length : Int) + 1 < Qbg c then none else
    if Qek (r.take (Qbg c - 1).toNat) = true ∧ right (accs (Qdh c) (r.take (Qbg c - 1).toNat)) = true ∧ Qcn (accs (Qdh c) (r.take (Qbg c - 1).toNat)) = Qbg c
    then some (accs (Qdh c) (r.take (Qbg c - 1).toNat), Qbg c) else none
def Qcf (s : ByteArray) (i : Int) : Option (Int × Int) := if 0 ≤ i ∧ i < s.size then dec ((nats s).drop i.toNat) else none
def Qdd (s : ByteArray) (i : Int) : Int := match Qcf s i with | some x => x.1 | none => 0
def Qde (s : ByteArray) (i : Int) : Int := match Qcf s i with | some x => x.2 | none => 0
def Qdz (s : ByteArray) (i : Int) : Int := match Qcf s i with | some _ => 0 | none => 1
theorem leadW_le (c : Int) : 0 ≤ Qbg c ∧ Qbg c ≤ 4 := by unfold Qbg; repeat' split <;> omega
theorem leadB_le (c : Int) (h : 0 ≤ c) : 0 ≤ Qdh c ∧ Qdh c ≤ 127 := by unfold Qdh; repeat' split <;> omega
def tl (s : ByteArray) (n : Nat) : List Nat := (nats s).drop (n + 1)
theorem drop_tl (s : ByteArray) (n : Nat) (h : n < s.size) : (nats s).drop n = nb s n :: tl s n := by
 unfold tl nb
 rw [List.getD_eq_getElem?_getD, List.getElem?_eq_getElem (by rw [Qcx]; exact h), List.drop_eq_getElem_cons (by rw [Qcx]; exact h)]; rfl
theorem Qhb (s : ByteArray) (n : Nat) : (tl s n).length = s.size - (n + 1) := by unfold tl; rw [List.length_drop, Qcx]
theorem tl_get (s : ByteArray) (n k : Nat) : (tl s n).getD k 0 = nb s (n + 1 + k) := by
 unfold tl nb; rw [List.getD_eq_getElem?_getD, List.getElem?_drop, ← List.getD_eq_getElem?_getD]
theorem take_snoc {α : Type} (l : List α) (k : Nat) (d : α) (h : k < l.length) : l.take (k + 1) = l.take k ++ [l.getD k d] := by
 rw [List.take_succ_eq_append_getElem h, List.getD_eq_getElem?_getD, List.getElem?_eq_getElem h]; rfl
theorem accs_snoc (n : Int) (l : List Nat) (c : Nat) : accs n (l ++ [c]) = accs n l * 64 + (c % 64 : Nat) := by simp [accs]
theorem conts_snoc (l : List Nat) (c : Nat) : Qek (l ++ [c]) = (Qek l && (c / 64 == 2)) := by simp [Qek, List.all_append]
theorem accs_nonneg (l : List Nat) : ∀ n : Int, 0 ≤ n → 0 ≤ accs n l := by
 induction l with
 | nil => intro n h; exact h
 | cons c r ih => intro n h; exact ih _ (by show (0:Int) ≤ n * 64 + (c % 64 : Nat); omega)
theorem accs_lt (l : List Nat) : ∀ n : Int, n ≤ 127 → accs n l < 128 * 64 ^ l.length := by
  intro n hn
  have : ∀ (l : List Nat) (n : Int), accs n l < (n + 1) * 64 ^ l.length := by
    intro l
    induction l with
    | nil => intro n; simp [accs]; omega
    | cons c r ih =>
      intro n
      have h1 := ih (n * 64 + (c % 64 : Nat))
      have e : accs n (c :: r) = accs (n * 64 + (c % 64 : Nat)) r := rfl
      rw [e, List.length_cons, Int.pow_succ]
      refine Int.lt_of_lt_of_le h1 ?_
      have h2 : n * 64 + (c % 64 : Nat) + 1 ≤ (n + 1) * 64 := by omega
      have h3 : (0:Int) ≤ 64 ^ r.length := Int.le_of_lt (Int.pow_pos (by decide))
      calc _ ≤ ((n + 1) * 64) * 64 ^ r.length := Int.mul_le_mul_of_nonneg_right h2 h3
        _ = _ := by rw [Int.mul_assoc, Int.mul_comm 64]
  refine Int.lt_of_lt_of_le (this l n) ?_
  exact Int.mul_le_mul_of_nonneg_right (by omega) (Int.le_of_lt (Int.pow_pos (by decide)))
theorem Qip (s : ByteArray) (n : Nat) (h : n < s.size) : Qcf s n = dec (nb s n :: tl s n) := by
 unfold Qcf; rw [if_pos ⟨by omega, by omega⟩, ← drop_tl s n h]; rfl
theorem and192 : ∀ c : Nat, c < 256 → bits BinOp.and .u8 (c : Int) 192 = ((c / 64 * 64 : Nat) : Int) := by
 decide +kernel
theorem and63 : ∀ c : Nat, c < 256 → bits BinOp.and .u8 (c : Int) 63 = ((c % 64 : Nat) : Int) := by
 decide +kernel
theorem or_i64 (a b : Nat) (ha : a < 9223372036854775808) (hb : b < 9223372036854775808) : bits .or .i64 (a : Int) (b : Int) = ((a ||| b : Nat) : Int) := by
 have h : a ||| b < 2 ^ 63 := Nat.or_lt_two_pow ha hb
 have hw : ∀ x : Nat, x < 2 ^ 63 → IntKind.i64.wrap (x : Int) = x := by
  intro x hx
  have : (x:Int) < 9223372036854775808 := by omega
  simp [IntKind.wrap, IntKind.bits, IntKind.signed]; omega
 have e1 : ∀ x : Nat, x < 9223372036854775808 → (BitVec.ofInt 64 (x : Int)).toNat = x := by
  intro x hx
  rw [BitVec.ofInt_natCast, BitVec.toNat_ofNat]; exact Nat.mod_eq_of_lt (by omega)
 show IntKind.i64.wrap ((BitVec.ofInt 64 (a : Int) ||| BitVec.ofInt 64 (b : Int)).toNat : Int) = _
 rw [BitVec.toNat_or, e1 a ha, e1 b hb, hw _ h]
theorem or_shl (a b : Nat) (ha : a < 1000000000) (hb : b < 64) : bits .or .i64 ((a : Int) * 64) (b : Int) = (a : Int) * 64 + b := by
 have h := or_i64 (a * 64) b (by omega) (by omega)
 have e : a * 64 ||| b = a * 64 + b := by
  have := Nat.shiftLeft_add_eq_or_of_lt (i := 6) (b := b) (by omega) a
  rw [Nat.shiftLeft_eq] at this; exact this.symm
 rw [e] at h; simpa using h
theorem or_acc (a : Int) (h0 : 0 ≤ a) (h1 : a < 128 * 64 ^ 3) (c : Nat) (hc : c < 256) : bits .or .i64 (wrap64 (a * 64)) (wrap64 (bits BinOp.and .u8 (c : Int) 63)) = a * 64 + (c % 64 : Nat) := by
 obtain ⟨n, rfl⟩ := Int.eq_ofNat_of_zero_le h0
 rw [and63 c hc, IntWalk.wrap64_in _ ⟨by omega, by omega⟩, IntWalk.wrap64_in _ ⟨by omega, by omega⟩]
 exact or_shl n (c % 64) (by omega) (by omega)
theorem and_cont (c : Nat) (hc : c < 256) : (bits BinOp.and .u8 (c : Int) 192 != 128) = !(c / 64 == 2) := by
 rw [and192 c hc, Bool.eq_iff_iff]; simp; omega
theorem Qhx (n : Int) (w : World) :
  Calls Tryz.prog 286 #[.int .i64 n] w fun e w' => e = .returned (.bool (right n)) ∧ w = w' := by
 go_enter Tryz.func286, Tryz.ntmps286
 go_wp2
 all_goals go_ret
 all_goals refine ⟨Qbf ?_, rfl⟩
 all_goals (unfold right; rw [Bool.eq_iff_iff]; simp; omega)
theorem Qck (n : Int) (w : World) :
  Calls Tryz.prog 257 #[.int .i64 n] w fun e w' => e = .returned (.bool (right n)) ∧ w = w' := by
 go_enter Tryz.func257, Tryz.ntmps257
 go_wp2
 all_goals go_ret
 all_goals refine ⟨Qbf ?_, rfl⟩
 all_goals (unfold right; rw [Bool.eq_iff_iff]; simp; omega)
theorem width_any (n : Int) (w : World) :
  Calls Tryz.prog 297 #[.int .i64 n] w fun e w' => e = .returned (.int .i64 (Qcn n)) ∧ w = w' := by
 go_enter Tryz.func297, Tryz.ntmps297
 go_wp2
 all_goals go_ret
 all_goals refine ⟨Qcp ?_, rfl⟩
 all_goals (unfold Qcn; repeat' split) <;> first | rfl | omega
theorem lead_any (c : Int) (h0 : 0 ≤ c) (h1 : c ≤ 255) (w : World) :
  Calls Tryz.prog 296 #[.int .u8 c] w fun e w' => e = .returned (.tuple #[.int .i64 (Qbg c), .int .i64 (Qdh c)]) ∧ w = w' := by
 go_enter Tryz.func296, Tryz.ntmps296
 go_wp2
 all_goals go_ret2
 all_goals refine ⟨ret_int2 ?_ ?_, rfl⟩
 all_goals (simp only [Qbg, Qdh]; repeat' split) <;> first | rfl | omega
theorem next_any (s : ByteArray) (hs : s.size ≤ maxLen) (i : Int) (w : World) :
    Calls Tryz.prog 265 #[.string s, .int .i64 i] w fun e w' => e = .returned (.tuple #[.int .i64 (Qdd s i), .int .i64 (Qde s i), .int .i64 (Qdz s i)]) ∧ w = w' := by
  unfold maxLen at hs
  by_cases hi : 0 ≤ i ∧ i < s.size
  · obtain ⟨n, rfl⟩ := Int.eq_ofNat_of_zero_le hi.1
    have hlt : n < s.size := by omega
    clear hi
    by_cases hz : Qbg (s[n].toNat) = 0 ∨ (s.size : Int) - n < Qbg (s[n].toNat)
    · have hfin : Qcf s n = none := by
        rw [Qip s n hlt, ← nb_eq s n hlt]
        simp only [dec, Qhb]; rw [if_pos (by omega)]
      have fin : Hid (Qdd s n = 0 ∧ Qde s n = 0 ∧ Qdz s n = 1) := by
        simp only [Hid, Qdd, Qde, Qdz, hfin]; exact ⟨trivial, trivial, trivial⟩
      have HZ := Lib.hid hz
      clear hfin hz
      go_enter Tryz.func265, Tryz.ntmps265
      go_wp2_with (go_at_call 296; refine (lead_any _ (Int.natCast_nonneg _) (by have := s[n].toNat_lt; omega) _).mono ?_; rintro e w' ⟨rfl, rfl⟩)
      · go_ret3
        exact ⟨Qer fin.out.1.symm fin.out.2.1.symm fin.out.2.2.symm, rfl⟩
      · go_ret3
        exact ⟨Qer fin.out.1.symm fin.out.2.1.symm fin.out.2.2.symm, rfl⟩
      · have hbad : (Qbg ↑s[n].toNat == 0) = false ∧ Qbg ↑s[n].toNat ≤ ↑s.size - ↑n := by assumption
        have h1 : ¬ Qbg ↑s[n].toNat = 0 := by simpa using hbad.1
        rcases HZ.out with h | h
        · exact absurd h h1
        · have := hbad.2; omega
    · have hz1 : (Qbg (s[n].toNat) == 0) = false := by simp; omega
      have hz2 : Qbg (s[n].toNat) ≤ (s.size : Int) - n := by omega
      have hw4 := (leadW_le s[n].toNat).2
      have hb := leadB_le s[n].toNat (Int.natCast_nonneg _)
      have hlead : Hid (Qbg (s[n].toNat) ≠ 0) := by show Qbg (s[n].toNat) ≠ 0; simpa using hz1
      clear hz
      go_enter Tryz.func265, Tryz.ntmps265
      go_wp2_with (go_at_call 296; refine (lead_any _ (Int.natCast_nonneg _) (by have := s[n].toNat_lt; omega) _).mono ?_; rintro e w' ⟨rfl, rfl⟩)
      go_loop [8, 9] (fun a i => ∃ k : Nat, 1 ≤ k ∧ (k:Int) ≤ Qbg (s[n].toNat) ∧ i = .int .i64 k ∧ a = .int .i64 (accs (Qdh s[n].toNat) ((tl s n).take (k-1))) ∧ Qek ((tl s n).take (k-1)) = true)
         (fun _ i => 4 - (intOf i).toNat)
      case atStart => exact ⟨1, Nat.le_refl _, by have := (leadW_le s[n].toNat).1; have := hlead.out; omega, rfl, rfl, rfl⟩
      case round =>
        obtain ⟨k, hk, hk2, rfl, rfl, hc⟩ := hrel
        have HC := Lib.hid hc; clear hc
        have hkl : n + k ≤ s.size := by omega
        go_wp2_with fail
        case roundEnd =>
          have hlt : (k : Int) < Qbg s[n].toNat := by assumption
          have hnk : n + k < s.size := by omega
          have hcont : (bits BinOp.and IntKind.u8 (↑s[n + k].toNat) 192 != 128) = false := by assumption
          rw [and_cont _ s[n+k].toNat_lt] at hcont
          have hkt : k - 1 < (tl s n).length := by rw [Qhb]; omega
          have hg : (tl s n).getD (k-1) 0 = s[n+k].toNat := by rw [tl_get, nb_eq]; congr 1; omega
          have hsn : (tl s n).take k = (tl s n).take (k-1) ++ [s[n+k].toNat] := by
            rw [← hg, ← take_snoc _ _ _ hkt]; congr 1; omega
          refine ⟨⟨k + 1, by omega, by omega, rfl, ?_, ?_⟩, by simp [intOf]; omega⟩
          · have hacc := accs_lt ((tl s n).take (k-1)) (Qdh s[n].toNat) hb.2
            have hlen : ((tl s n).take (k-1)).length ≤ 2 := by rw [List.length_take]; omega
            have hp : (64:Int) ^ ((tl s n).take (k-1)).length ≤ 64 ^ 2 := by
              have : ((tl s n).take (k-1)).length = 0 ∨ ((tl s n).take (k-1)).length = 1 ∨ ((tl s n).take (k-1)).length = 2 := by omega
              rcases this with h | h | h <;> rw [h] <;> decide
            rw [or_acc _ (accs_nonneg _ _ hb.1) (by omega) _ s[n+k].toNat_lt, Nat.add_sub_cancel, hsn, accs_snoc]
          · rw [Nat.add_sub_cancel, hsn, conts_snoc, HC.out]; simpa using hcont
        · have hlt : (k : Int) < Qbg s[n].toNat := by assumption
          have hnk : n + k < s.size := by omega
          have hcont : (bits BinOp.and IntKind.u8 (↑s[n + k].toNat) 192 != 128) = true := by assumption
          rw [and_cont _ s[n+k].toNat_lt] at hcont
          have hkt : k - 1 < (tl s n).length := by rw [Qhb]; omega
          have hg : (tl s n).getD (k-1) 0 = s[n+k].toNat := by rw [tl_get, nb_eq]; congr 1; omega
          have hcf : Qek ((tl s n).take (Qbg s[n].toNat - 1).toNat) = false := by
            have hmem : s[n+k].toNat ∈ (tl s n).take (Qbg s[n].toNat - 1).toNat := by
              rw [← hg, List.mem_take_iff_getElem]
              refine ⟨k - 1, by omega, ?_⟩
              rw [List.getD_eq_getElem?_getD, List.getElem?_eq_getElem hkt]; rfl
            unfold Qek
            rw [List.all_eq_false]
            exact ⟨_, hmem, by simpa using hcont⟩
          have hnone : Qcf s n = none := by
            rw [Qip s n (by omega), ← nb_eq s n (by omega)]
            simp only [dec, Qhb, hcf]
            rw [if_neg (by have := hlead.out; omega), if_neg (by simp)]
          go_ret3
          exact ⟨Qer (by simp only [Qdd, hnone]) (by simp only [Qde, hnone]) (by simp only [Qdz, hnone]), rfl⟩
        · have hge : Qbg s[n].toNat ≤ k := by assumption
          have hkw : (k : Int) = Qbg s[n].toNat := by omega
          have hk1 : (Qbg s[n].toNat - 1).toNat = k - 1 := by omega
          have hD : Qcf s n = if right (accs (Qdh s[n].toNat) ((tl s n).take (k-1))) = true ∧ Qcn (accs (Qdh s[n].toNat) ((tl s n).take (k-1))) = Qbg s[n].toNat then some (accs (Qdh s[n].toNat) ((tl s n).take (k-1)), Qbg s[n].toNat) else none := by
            rw [Qip s n (by omega), ← nb_eq s n (by omega)]
            simp only [dec, Qhb, hk1, HC.out]
            rw [if_neg (by have := hlead.out; omega)]; simp only [true_and]
          have HD := Lib.hid hD; clear hD
          generalize accs (Qdh s[n].toNat) ((tl s n).take (k-1)) = x at *
          clear hkw hk1
          by_cases hr : right x = true
          · by_cases hwd : Qcn x = Qbg s[n].toNat
            · have hS : Qcf s n = some (x, Qbg s[n].toNat) := by rw [HD.out, if_pos ⟨hr, hwd⟩]
              have fin : Hid (Qdd s n = x ∧ Qde s n = Qbg s[n].toNat ∧ Qdz s n = 0) := by
                simp only [Hid, Qdd, Qde, Qdz, hS]; exact ⟨trivial, trivial, trivial⟩
              have hb1 : (Qcn x != Qbg s[n].toNat) = false := by rw [hwd]; simp
              clear hS HD hwd
              refine (Qhx _ _).mono ?_
              rintro e w' ⟨rfl, rfl⟩
              go_wp2_with (go_at_call 297; refine (width_any _ _).mono ?_; rintro e w' ⟨rfl, rfl⟩)
              go_ret3
              exact ⟨Qer fin.out.1.symm fin.out.2.1.symm fin.out.2.2.symm, rfl⟩
            · have hS : Qcf s n = none := by rw [HD.out, if_neg (fun h => hwd h.2)]
              have fin : Hid (Qdd s n = 0 ∧ Qde s n = 0 ∧ Qdz s n = 1) := by
                simp only [Hid, Qdd, Qde, Qdz, hS]; exact ⟨trivial, trivial, trivial⟩
              have hb1 : (Qcn x != Qbg s[n].toNat) = true := by simpa using hwd
              clear hS HD hwd
              refine (Qhx _ _).mono ?_
              rintro e w' ⟨rfl, rfl⟩
              go_wp2_with (go_at_call 297; refine (width_any _ _).mono ?_; rintro e w' ⟨rfl, rfl⟩)
              go_ret3
              exact ⟨Qer fin.out.1.symm fin.out.2.1.symm fin.out.2.2.symm, rfl⟩
          · have hS : Qcf s n = none := by rw [HD.out, if_neg (fun h => hr h.1)]
            have fin : Hid (Qdd s n = 0 ∧ Qde s n = 0 ∧ Qdz s n = 1) := by
              simp only [Hid, Qdd, Qde, Qdz, hS]; exact ⟨trivial, trivial, trivial⟩
            have hr' : right x = false := by simpa using hr
            clear hS HD hr
            refine (Qhx _ _).mono ?_
            rintro e w' ⟨rfl, rfl⟩
            go_wp2_with fail
            go_ret3
            exact ⟨Qer fin.out.1.symm fin.out.2.1.symm fin.out.2.2.symm, rfl⟩
  · have hfin : Qcf s i = none := by unfold Qcf; rw [if_neg hi]
    have fin : Hid (Qdd s i = 0 ∧ Qde s i = 0 ∧ Qdz s i = 1) := by
        simp only [Hid, Qdd, Qde, Qdz, hfin]; exact ⟨trivial, trivial, trivial⟩
    clear hfin
    by_cases h0 : i < 0
    · go_enter Tryz.func265, Tryz.ntmps265
      go_wp2
      go_ret3
      exact ⟨Qer fin.out.1.symm fin.out.2.1.symm fin.out.2.2.symm, rfl⟩
    · have h1 : (s.size : Int) ≤ i := by omega
      clear hi
      go_enter Tryz.func265, Tryz.ntmps265
      go_wp2
      go_ret3
      exact ⟨Qer fin.out.1.symm fin.out.2.1.symm fin.out.2.2.symm, rfl⟩
def encL (n : Int) : List Int :=
 if n < 128 then [n] else if n < 2048 then [192 + n / 64, 128 + n % 64] else if n < 65536 then [224 + n / 64 / 64, 128 + n / 64 % 64, 128 + n % 64]
 else [240 + n / 64 / 64 / 64, 128 + n / 64 / 64 % 64, 128 + n / 64 % 64, 128 + n % 64]
def enc (n : Int) : ByteArray := strOfNums (encL n)
theorem cv_bytes (l : List Int) (n : Nat) (hl : l.length = n) (w : World) : (convert 276 9 (.slice (some ⟨w.heap.size, 0, none⟩) n n)).run Tryz.prog (w.alloc (.cells (l.map (Value.int .u8)).toArray 5)) = .ok (.string (strOfNums l)) (w.alloc (.cells (l.map (Value.int .u8)).toArray 5)) := by
 refine run_convert_bytes_arg _ 276 5 Tryz.underlying276 Tryz.underlying5 _ 0 n n l hl ?_ 9 Tryz.underlying9
 intro i hi
 rw [World.cell?_alloc_new]
 simp [List.getElem?_eq_getElem (show i < l.length by omega)]
theorem info5 : (Tryz.prog.info? 5).map (fun i => (i.zero, i.size, i.bytes)) = some (some (.int .u8 0), 1, 1) := by kernel_rfl
def Qfy (n : Int) : Nat → Int | 0 => n | k + 1 => Qfy n k / 64
theorem Qhp (n : Int) (h : 0 ≤ n) : ∀ k, 0 ≤ Qfy n k
 | 0 => h
 | k + 1 => by have := Qhp n h k; unfold Qfy; omega
theorem quo64_le (n : Int) (h : 0 ≤ n) : ∀ k, Qfy n k ≤ n
 | 0 => Int.le_refl _
 | k + 1 => by have := quo64_le n h k; have := Qhp n h k; unfold Qfy; omega
def Qem (n : Int) : Nat → List Int | 0 => [] | m + 1 => (128 + Qfy n m % 64) :: Qem n m
theorem tail_any (n : Int) (h0 : 0 ≤ n) (h1 : n ≤ 1114111) (m : Nat) (hm : m ≤ 3) (w : World) :
    Calls Tryz.prog 314 #[.int .i64 n, .int .i64 m] w fun e w' => ∃ v, e = .returned v ∧ w'.ownsRow w.heap.size 5 1 v m ((Qem n m).map (Value.int .u8)) ∧ Below w.heap.size w w' := by
  obtain ⟨i0, hi, hz0, hz1, hz2⟩ := info_parts info5
  go_enter Tryz.func314, Tryz.ntmps314
  go_wp2_with fail
  go_loopw [5, 6] (fun v i wr => ∃ k : Nat, k ≤ m ∧ i = .int .i64 (↑k - 1) ∧ (∃ l : List Int, l ++ Qem n k = Qem n m ∧ wr.ownsRow w.heap.size 5 1 v (m - k) (l.map (Value.int .u8))) ∧ Below w.heap.size w wr)
    (fun _ i _ => (intOf i + 1).toNat)
  case atStart =>
    exact ⟨m, Nat.le_refl _, rfl, ⟨[], rfl, by rw [Nat.sub_self]; exact World.ownsRow_made w #[] 0 (Nat.le_refl _) (Nat.zero_le _) rfl⟩, (Below.refl _ _).alloc (Nat.le_refl _) _⟩
  case round =>
    obtain ⟨k, hk, rfl, ⟨l, hl, hown⟩, hbel⟩ := hrel
    have HL := Lib.hid hl; clear hl
    cases k with
    | zero =>
      go_wp2_with fail
      go_ret
      have e : l = Qem n m := by simpa [Qem] using HL.out
      subst e
      exact ⟨_, rfl, by simpa using hown, hbel⟩
    | succ k =>
      have hq0 := Qhp n h0
      have hq1 := quo64_le n h0
      go_wp2_with fail
      go_loop [7, 8] (fun x j => ∃ j' : Nat, j' ≤ k ∧ x = .int .i64 (Qfy n j') ∧ j = .int .i64 j') (fun _ j => k - (intOf j).toNat)
      case atStart => exact ⟨0, Nat.zero_le _, rfl, rfl⟩
      case round =>
        obtain ⟨j, hj, rfl, rfl⟩ := hrel
        have hj0 := hq0 j
        have hj1 := hq1 j
        clear hq0 hq1
        by_cases hlt : j < k
        · go_wp2_with fail
          go_round
          case rel => exact ⟨j + 1, by omega, rfl, by go_num⟩
          case measure => simp [intOf]; omega
        · obtain rfl : j = k := by omega
          go_wp2_with (at_builtin; refine wpList_append_own _ rfl _ _ 276 rfl w.heap.size 5 i0 (.int .u8 0) 1 1 Tryz.underlying276 hi hz0 hz1 hz2 rfl (by decide) _ _ _ rfl (hown.alloc _) ⟨wr.heap.size, 0, none⟩ 1 1 [.int .u8 (128 + Qfy n j % 64)] rfl rfl ?c1 ?c2 ?c3 ?c4 ?c5 ?_)
          case c2 => rfl
          case c3 => unfold maxLen; omega
          case c4 => omega
          case c5 => have := hbel.size; simp; omega
          intro v' w1 hown' hgrow _
          have hb1 : Below w.heap.size w w1 := (hbel.alloc hbel.size _).grown hgrow (by have := hbel.size; simp; omega) (fun k hk => ((hown.alloc (.cells #[.int .u8 (128 + Qfy n j % 64)] 5)).lt k hk).1)
          have hown1 : w1.ownsRow w.heap.size 5 1 v' (m - j) ((l ++ [128 + Qfy n j % 64]).map (Value.int .u8)) := by
            rw [List.map_append]
            rw [show m - (j + 1) + 1 = m - j by omega] at hown'
            exact hown'
          have HL2 := Lib.hid (show (l ++ [128 + Qfy n j % 64]) ++ Qem n j = Qem n m by rw [List.append_assoc]; exact HL.out)
          clear hown' hgrow hown hbel HL
          go_wp2_with fail
          go_roundw
          case rel => exact ⟨j, by omega, by go_num, ⟨_, HL2.out, hown1⟩, hb1⟩
          case measure => simp [intOf]
theorem cv_own {w : World} {base : Nat} {v : Value} {n : Nat} {l : List Int} (h : w.ownsRow base 5 1 v n (l.map (Value.int .u8))) : (convert 276 9 v).run Tryz.prog w = .ok (.string (strOfNums l)) w := by
 have hn := Qid h
 rcases h.2 with ⟨rfl, rfl⟩ | ⟨g, cap, cur, rfl, hg, hh, hr⟩
 ·have : l = [] := by simpa using hn
  subst this
  rw [run_convert_bytes_nil w 276 5 Tryz.underlying276 Tryz.underlying5 0 0 9 Tryz.underlying9]; rfl
 ·refine run_convert_bytes_arg _ 276 5 Tryz.underlying276 Tryz.underlying5 _ 0 n cap l (by simpa using hn) ?_ 9 Tryz.underlying9
  intro i hi
  have := h.cells (g := g) rfl i (.int .u8 (l.getD i 0)) (by
   rw [List.getElem?_map, List.getD_eq_getElem?_getD, List.getElem?_eq_getElem (by simp at hn; omega)]; rfl)
  have e : (⟨g, 0, none⟩ : Addr).add i = ⟨g, 0 + i, none⟩ := by unfold Addr.add; split <;> simp_all
  rw [e] at this; exact this
theorem rput2 (n : Int) (h0 : 128 ≤ n) (h1 : n < 2048) (w : World) :
  Calls Tryz.prog 295 #[.int .i64 n] w fun e w' => e = .returned (.string (enc n)) ∧ Below w.heap.size w w' := by
 obtain ⟨i0, hi, hz0, hz1, hz2⟩ := info_parts info5
 have fin := Lib.hid (show encL n = [192 + n / 64] ++ Qem n 1 by unfold encL; rw [if_neg (by omega), if_pos (by omega)]; rfl)
 go_enter Tryz.func295, Tryz.ntmps295
 go_wp2_with fail
 refine (tail_any n (by omega) (by omega) 1 (by omega) _).mono ?_
 rintro e w' ⟨v, rfl, hown, hbel⟩
 obtain ⟨g, cap, rfl, hg⟩ := own_some hown (by omega)
 have hlit := own_lit (w := w) (xs := [.int .u8 (192 + n / 64)]) (n := 1) 5 rfl (by decide) (by simpa using hbel)
 go_wp2_with (at_builtin; refine wpList_append_own _ rfl _ _ 276 rfl w.heap.size 5 i0 (.int .u8 0) 1 1 Tryz.underlying276 hi hz0 hz1 hz2 rfl (by decide) _ _ _ rfl hlit ⟨g, 0, none⟩ 1 cap _ rfl (Qid hown) (hown.cells rfl) ?c2 ?c3 ?c4 ?c5 ?_)
 case c2 => intro u hu; simp at hu; obtain ⟨x, _, rfl⟩ := hu; rfl
 case c3 => decide
 case c4 => decide
 case c5 => have := hbel.size; simp at this; omega
 intro v' w1 hown' hgrow _
 have hcv := cv_own (l := (192 + n / 64) :: Qem n 1) hown'
 have hb1 : Below w.heap.size w w1 := (((Below.refl _ _).alloc (Nat.le_refl _) _).trans (hbel.mono (by simp))).grown hgrow (by have := hbel.size; simp at this; omega) (fun k hk => by simp [Value.ownBlock] at hk; omega)
 clear hown' hgrow hown hlit hbel
 go_wp2_with fail
 go_ret
 exact ⟨by rw [enc, fin.out]; rfl, hb1⟩
theorem rput3 (n : Int) (h0 : 2048 ≤ n) (h1 : n < 65536) (w : World) :
  Calls Tryz.prog 295 #[.int .i64 n] w fun e w' => e = .returned (.string (enc n)) ∧ Below w.heap.size w w' := by
 obtain ⟨i0, hi, hz0, hz1, hz2⟩ := info_parts info5
 have fin := Lib.hid (show encL n = [224 + n / 4096] ++ Qem n 2 by unfold encL; rw [if_neg (by omega), if_neg (by omega), if_pos (by omega), show n / 64 / 64 = n / 4096 by omega]; rfl)
 go_enter Tryz.func295, Tryz.ntmps295
 go_wp2_with fail
 refine (tail_any n (by omega) (by omega) 2 (by omega) _).mono ?_
 rintro e w' ⟨v, rfl, hown, hbel⟩
 obtain ⟨g, cap, rfl, hg⟩ := own_some hown (by omega)
 have hlit := own_lit (w := w) (xs := [.int .u8 (224 + n / 4096)]) (n := 1) 5 rfl (by decide) (by simpa using hbel)
 go_wp2_with (at_builtin; refine wpList_append_own _ rfl _ _ 276 rfl w.heap.size 5 i0 (.int .u8 0) 1 1 Tryz.underlying276 hi hz0 hz1 hz2 rfl (by decide) _ _ _ rfl hlit ⟨g, 0, none⟩ 2 cap _ rfl (Qid hown) (hown.cells rfl) ?c2 ?c3 ?c4 ?c5 ?_)
 case c2 => intro u hu; simp at hu; obtain ⟨x, _, rfl⟩ := hu; rfl
 case c3 => decide
 case c4 => decide
 case c5 => have := hbel.size; simp at this; omega
 intro v' w1 hown' hgrow _
 have hcv := cv_own (l := (224 + n / 4096) :: Qem n 2) hown'
 have hb1 : Below w.heap.size w w1 := (((Below.refl _ _).alloc (Nat.le_refl _) _).trans (hbel.mono (by simp))).grown hgrow (by have := hbel.size; simp at this; omega) (fun k hk => by simp [Value.ownBlock] at hk; omega)
 clear hown' hgrow hown hlit hbel
 go_wp2_with fail
 go_ret
 exact ⟨by rw [enc, fin.out]; rfl, hb1⟩
theorem rput4 (n : Int) (h0 : 65536 ≤ n) (h1 : n ≤ 1114111) (w : World) :
  Calls Tryz.prog 295 #[.int .i64 n] w fun e w' => e = .returned (.string (enc n)) ∧ Below w.heap.size w w' := by
 obtain ⟨i0, hi, hz0, hz1, hz2⟩ := info_parts info5
 have fin := Lib.hid (show encL n = [240 + n / 262144] ++ Qem n 3 by unfold encL; rw [if_neg (by omega), if_neg (by omega), if_neg (by omega), show n / 64 / 64 / 64 = n / 262144 by omega]; rfl)
 go_enter Tryz.func295, Tryz.ntmps295
 go_wp2_with fail
 refine (tail_any n (by omega) (by omega) 3 (by omega) _).mono ?_
 rintro e w' ⟨v, rfl, hown, hbel⟩
 obtain ⟨g, cap, rfl, hg⟩ := own_some hown (by omega)
 have hlit := own_lit (w := w) (xs := [.int .u8 (240 + n / 262144)]) (n := 1) 5 rfl (by decide) (by simpa using hbel)
 go_wp2_with (at_builtin; refine wpList_append_own _ rfl _ _ 276 rfl w.heap.size 5 i0 (.int .u8 0) 1 1 Tryz.underlying276 hi hz0 hz1 hz2 rfl (by decide) _ _ _ rfl hlit ⟨g, 0, none⟩ 3 cap _ rfl (Qid hown) (hown.cells rfl) ?c2 ?c3 ?c4 ?c5 ?_)
 case c2 => intro u hu; simp at hu; obtain ⟨x, _, rfl⟩ := hu; rfl
 case c3 => decide
 case c4 => decide
 case c5 => have := hbel.size; simp at this; omega
 intro v' w1 hown' hgrow _
 have hcv := cv_own (l := (240 + n / 262144) :: Qem n 3) hown'
 have hb1 : Below w.heap.size w w1 := (((Below.refl _ _).alloc (Nat.le_refl _) _).trans (hbel.mono (by simp))).grown hgrow (by have := hbel.size; simp at this; omega) (fun k hk => by simp [Value.ownBlock] at hk; omega)
 clear hown' hgrow hown hlit hbel
 go_wp2_with fail
 go_ret
 exact ⟨by rw [enc, fin.out]; rfl, hb1⟩
theorem rput1 (n : Int) (h0 : 0 ≤ n) (h1 : n < 128) (w : World) :
  Calls Tryz.prog 295 #[.int .i64 n] w fun e w' => e = .returned (.string (enc n)) ∧ Below w.heap.size w w' := by
 have hcv := fun (w : World) (a : Int) => cv_bytes [a] 1 rfl w
 simp only [List.map] at hcv
 have fin := Lib.hid (show encL n = [n] by unfold encL; rw [if_pos (by omega)])
 go_enter Tryz.func295, Tryz.ntmps295
 go_wp2_with fail
 go_ret
 exact ⟨by rw [enc, fin.out]; rfl, (Below.refl _ _).alloc (Nat.le_refl _) _⟩
theorem Qes (n : Int) (hr : right n = true) (w : World) :
  Calls Tryz.prog 295 #[.int .i64 n] w fun e w' => e = .returned (.string (enc n)) ∧ Below w.heap.size w w' := by
 have h : 0 ≤ n ∧ n ≤ 1114111 := by have := of_decide_eq_true hr; omega
 by_cases h1 : n < 128
 ·exact rput1 n h.1 h1 w
 ·by_cases h2 : n < 2048
  ·exact rput2 n (by omega) h2 w
  ·by_cases h3 : n < 65536
   ·exact rput3 n (by omega) h3 w
   ·exact rput4 n (by omega) h.2 w
def Qeb : Nat → Int | 2 => 192 | 3 => 224 | 4 => 240 | _ => 0
def Qbz (s : ByteArray) : Int := (nb s 0 : Int) - Qeb s.size
def Qco (s : ByteArray) : Nat → Int | 0 => Qbz s | k + 1 => Qco s k * 64 + (nb s (k + 1) : Int) - 128
def Qav (s : ByteArray) : Int := if Qbz s < 0 then -1 else if right (Qco s (s.size - 1)) = true ∧ enc (Qco s (s.size - 1)) = s then Qco s (s.size - 1) else -1
theorem Qhz {a b : ByteArray} (h : a ≠ b) : (a.toList == b.toList) = false := by
 rw [beq_eq_false_iff_ne, ByteArray.toList_eq, ByteArray.toList_eq]
 intro e; exact h (ByteArray.ext (Array.toList_inj.mp e))
theorem number1 (s : ByteArray) (hsz : s.size = 1) (w : World) :
  Calls Tryz.prog 281 #[.string s] w fun e w' => e = .returned (.int .i64 (Qav s)) ∧ Below w.heap.size w w' := by
 have HZ : Hid (Qbz s = (nb s 0 : Int)) := by simp [Hid, Qbz, Qeb, hsz]
 have HF : Hid (Qco s (s.size - 1) = (nb s 0 : Int)) := by simp [Hid, Qco, Qbz, Qeb, hsz]
 have hnb := nb_eq s
 have h0 := nb_lt s 0
 go_enter Tryz.func281, Tryz.ntmps281
 go_wp2_with fail
 have hz : 0 ≤ (nb s 0 : Int) := by omega
 refine wp_loop_rounds 1 ?_
 repeat any_goals (rw [rounds_succ]; go_wp2_with fail)
 generalize hx : (nb s 0 : Int) = x at *
 by_cases hr : right x = true
 ·by_cases he : enc x = s
  ·have hb : ((enc x).toList == s.toList) = true := by rw [he]; simp
   have hfin : Qav s = x := by rw [Qav, if_neg (by rw [HZ.out]; omega), HF.out, if_pos ⟨hr, he⟩]
   have FIN := Lib.hid hfin
   clear he hfin
   refine (Qck _ _).mono ?_
   rintro e w' ⟨rfl, rfl⟩
   go_wp2_with (go_at_call 295; refine (Qes x hr _).mono ?_; rintro e w' ⟨rfl, hbel⟩)
   go_ret
   exact ⟨Qcp FIN.out.symm, ((Below.refl _ _).alloc (Nat.le_refl _) _).trans (hbel.mono (by simp))⟩
  ·have hb := Qhz he
   have hfin : Qav s = -1 := by rw [Qav, if_neg (by rw [HZ.out]; omega), HF.out, if_neg (fun h => he h.2)]
   have FIN := Lib.hid hfin
   clear he hfin
   refine (Qck _ _).mono ?_
   rintro e w' ⟨rfl, rfl⟩
   go_wp2_with (go_at_call 295; refine (Qes x hr _).mono ?_; rintro e w' ⟨rfl, hbel⟩)
   go_ret
   exact ⟨Qcp FIN.out.symm, ((Below.refl _ _).alloc (Nat.le_refl _) _).trans (hbel.mono (by simp))⟩
 ·have hr' : right x = false := by simpa using hr
  have hfin : Qav s = -1 := by rw [Qav, if_neg (by rw [HZ.out]; omega), HF.out, if_neg (fun h => hr h.1)]
  have FIN := Lib.hid hfin
  clear hr hfin
  refine (Qck _ _).mono ?_
  rintro e w' ⟨rfl, rfl⟩
  go_wp2_with fail
  go_ret
  exact ⟨Qcp FIN.out.symm, (Below.refl _ _).alloc (Nat.le_refl _) _⟩
theorem number2 (s : ByteArray) (hsz : s.size = 2) (w : World) :
    Calls Tryz.prog 281 #[.string s] w fun e w' => e = .returned (.int .i64 (Qav s)) ∧ Below w.heap.size w w' := by
  have HZ : Hid (Qbz s = (nb s 0 : Int) - 192) := by simp [Hid, Qbz, Qeb, hsz]
  have HF : Hid (Qco s (s.size - 1) = ((nb s 0 : Int) - 192) * 64 + (nb s 1 : Int) - 128) := by simp [Hid, Qco, Qbz, Qeb, hsz]
  have hnb := nb_eq s
  have h0 := nb_lt s 0
  have h1 := nb_lt s 1
  go_enter Tryz.func281, Tryz.ntmps281
  go_wp2_with fail
  · go_ret
    exact ⟨Qcp (by have : (nb s 0 : Int) - 192 < 0 := by assumption
                   rw [Qav, if_pos (by rw [HZ.out]; exact this)]), (Below.refl _ _).alloc (Nat.le_refl _) _⟩
  · have hz : 0 ≤ (nb s 0 : Int) - 192 := by assumption
    refine wp_loop_rounds 2 ?_
    repeat any_goals (rw [rounds_succ]; go_wp2_with fail)
    generalize hx : ((nb s 0 : Int) - 192) * 64 + (nb s 1 : Int) - 128 = x at *
    by_cases hr : right x = true
    · by_cases he : enc x = s
      · have hb : ((enc x).toList == s.toList) = true := by rw [he]; simp
        have hfin : Qav s = x := by rw [Qav, if_neg (by rw [HZ.out]; omega), HF.out, if_pos ⟨hr, he⟩]
        have FIN := Lib.hid hfin
        clear he hfin
        refine (Qck _ _).mono ?_
        rintro e w' ⟨rfl, rfl⟩
        go_wp2_with (go_at_call 295; refine (Qes x hr _).mono ?_; rintro e w' ⟨rfl, hbel⟩)
        go_ret
        exact ⟨Qcp FIN.out.symm, ((Below.refl _ _).alloc (Nat.le_refl _) _).trans (hbel.mono (by simp))⟩
      · have hb := Qhz he
        have hfin : Qav s = -1 := by rw [Qav, if_neg (by rw [HZ.out]; omega), HF.out, if_neg (fun h => he h.2)]
        have FIN := Lib.hid hfin
        clear he hfin
        refine (Qck _ _).mono ?_
        rintro e w' ⟨rfl, rfl⟩
        go_wp2_with (go_at_call 295; refine (Qes x hr _).mono ?_; rintro e w' ⟨rfl, hbel⟩)
        go_ret
        exact ⟨Qcp FIN.out.symm, ((Below.refl _ _).alloc (Nat.le_refl _) _).trans (hbel.mono (by simp))⟩
    · have hr' : right x = false := by simpa using hr
      have hfin : Qav s = -1 := by rw [Qav, if_neg (by rw [HZ.out]; omega), HF.out, if_neg (fun h => hr h.1)]
      have FIN := Lib.hid hfin
      clear hr hfin
      refine (Qck _ _).mono ?_
      rintro e w' ⟨rfl, rfl⟩
      go_wp2_with fail
      go_ret
      exact ⟨Qcp FIN.out.symm, (Below.refl _ _).alloc (Nat.le_refl _) _⟩
theorem number3 (s : ByteArray) (hsz : s.size = 3) (w : World) :
    Calls Tryz.prog 281 #[.string s] w fun e w' => e = .returned (.int .i64 (Qav s)) ∧ Below w.heap.size w w' := by
  have HZ : Hid (Qbz s = (nb s 0 : Int) - 224) := by simp [Hid, Qbz, Qeb, hsz]
  have HF : Hid (Qco s (s.size - 1) = (((nb s 0 : Int) - 224) * 64 + (nb s 1 : Int) - 128) * 64 + (nb s 2 : Int) - 128) := by simp [Hid, Qco, Qbz, Qeb, hsz]
  have hnb := nb_eq s
  have h0 := nb_lt s 0
  have h1 := nb_lt s 1
  have h2 := nb_lt s 2
  go_enter Tryz.func281, Tryz.ntmps281
  go_wp2_with fail
  · go_ret
    exact ⟨Qcp (by have : (nb s 0 : Int) - 224 < 0 := by assumption
                   rw [Qav, if_pos (by rw [HZ.out]; exact this)]), (Below.refl _ _).alloc (Nat.le_refl _) _⟩
  · have hz : 0 ≤ (nb s 0 : Int) - 224 := by assumption
    refine wp_loop_rounds 3 ?_
    repeat any_goals (rw [rounds_succ]; go_wp2_with fail)
    generalize hx : (((nb s 0 : Int) - 224) * 64 + (nb s 1 : Int) - 128) * 64 + (nb s 2 : Int) - 128 = x at *
    by_cases hr : right x = true
    · by_cases he : enc x = s
      · have hb : ((enc x).toList == s.toList) = true := by rw [he]; simp
        have hfin : Qav s = x := by rw [Qav, if_neg (by rw [HZ.out]; omega), HF.out, if_pos ⟨hr, he⟩]
        have FIN := Lib.hid hfin
        clear he hfin
        refine (Qck _ _).mono ?_
        rintro e w' ⟨rfl, rfl⟩
        go_wp2_with (go_at_call 295; refine (Qes x hr _).mono ?_; rintro e w' ⟨rfl, hbel⟩)
        go_ret
        exact ⟨Qcp FIN.out.symm, ((Below.refl _ _).alloc (Nat.le_refl _) _).trans (hbel.mono (by simp))⟩
      · have hb := Qhz he
        have hfin : Qav s = -1 := by rw [Qav, if_neg (by rw [HZ.out]; omega), HF.out, if_neg (fun h => he h.2)]
        have FIN := Lib.hid hfin
        clear he hfin
        refine (Qck _ _).mono ?_
        rintro e w' ⟨rfl, rfl⟩
        go_wp2_with (go_at_call 295; refine (Qes x hr _).mono ?_; rintro e w' ⟨rfl, hbel⟩)
        go_ret
        exact ⟨Qcp FIN.out.symm, ((Below.refl _ _).alloc (Nat.le_refl _) _).trans (hbel.mono (by simp))⟩
    · have hr' : right x = false := by simpa using hr
      have hfin : Qav s = -1 := by rw [Qav, if_neg (by rw [HZ.out]; omega), HF.out, if_neg (fun h => hr h.1)]
      have FIN := Lib.hid hfin
      clear hr hfin
      refine (Qck _ _).mono ?_
      rintro e w' ⟨rfl, rfl⟩
      go_wp2_with fail
      go_ret
      exact ⟨Qcp FIN.out.symm, (Below.refl _ _).alloc (Nat.le_refl _) _⟩
theorem number4 (s : ByteArray) (hsz : s.size = 4) (w : World) :
    Calls Tryz.prog 281 #[.string s] w fun e w' => e = .returned (.int .i64 (Qav s)) ∧ Below w.heap.size w w' := by
  have HZ : Hid (Qbz s = (nb s 0 : Int) - 240) := by simp [Hid, Qbz, Qeb, hsz]
  have HF : Hid (Qco s (s.size - 1) = ((((nb s 0 : Int) - 240) * 64 + (nb s 1 : Int) - 128) * 64 + (nb s 2 : Int) - 128) * 64 + (nb s 3 : Int) - 128) := by simp [Hid, Qco, Qbz, Qeb, hsz]
  have hnb := nb_eq s
  have h0 := nb_lt s 0
  have h1 := nb_lt s 1
  have h2 := nb_lt s 2
  have h3 := nb_lt s 3
  go_enter Tryz.func281, Tryz.ntmps281
  go_wp2_with fail
  · go_ret
    exact ⟨Qcp (by have : (nb s 0 : Int) - 240 < 0 := by assumption
                   rw [Qav, if_pos (by rw [HZ.out]; exact this)]), (Below.refl _ _).alloc (Nat.le_refl _) _⟩
  · have hz : 0 ≤ (nb s 0 : Int) - 240 := by assumption
    refine wp_loop_rounds 4 ?_
    repeat any_goals (rw [rounds_succ]; go_wp2_with fail)
    generalize hx : ((((nb s 0 : Int) - 240) * 64 + (nb s 1 : Int) - 128) * 64 + (nb s 2 : Int) - 128) * 64 + (nb s 3 : Int) - 128 = x at *
    by_cases hr : right x = true
    · by_cases he : enc x = s
      · have hb : ((enc x).toList == s.toList) = true := by rw [he]; simp
        have hfin : Qav s = x := by rw [Qav, if_neg (by rw [HZ.out]; omega), HF.out, if_pos ⟨hr, he⟩]
        have FIN := Lib.hid hfin
        clear he hfin
        refine (Qck _ _).mono ?_
        rintro e w' ⟨rfl, rfl⟩
        go_wp2_with (go_at_call 295; refine (Qes x hr _).mono ?_; rintro e w' ⟨rfl, hbel⟩)
        go_ret
        exact ⟨Qcp FIN.out.symm, ((Below.refl _ _).alloc (Nat.le_refl _) _).trans (hbel.mono (by simp))⟩
      · have hb := Qhz he
        have hfin : Qav s = -1 := by rw [Qav, if_neg (by rw [HZ.out]; omega), HF.out, if_neg (fun h => he h.2)]
        have FIN := Lib.hid hfin
        clear he hfin
        refine (Qck _ _).mono ?_
        rintro e w' ⟨rfl, rfl⟩
        go_wp2_with (go_at_call 295; refine (Qes x hr _).mono ?_; rintro e w' ⟨rfl, hbel⟩)
        go_ret
        exact ⟨Qcp FIN.out.symm, ((Below.refl _ _).alloc (Nat.le_refl _) _).trans (hbel.mono (by simp))⟩
    · have hr' : right x = false := by simpa using hr
      have hfin : Qav s = -1 := by rw [Qav, if_neg (by rw [HZ.out]; omega), HF.out, if_neg (fun h => hr h.1)]
      have FIN := Lib.hid hfin
      clear hr hfin
      refine (Qck _ _).mono ?_
      rintro e w' ⟨rfl, rfl⟩
      go_wp2_with fail
      go_ret
      exact ⟨Qcp FIN.out.symm, (Below.refl _ _).alloc (Nat.le_refl _) _⟩
theorem number_any (s : ByteArray) (h0 : 1 ≤ s.size) (h4 : s.size ≤ 4) (w : World) :
  Calls Tryz.prog 281 #[.string s] w fun e w' => e = .returned (.int .i64 (Qav s)) ∧ Below w.heap.size w w' := by
 have h : s.size = 1 ∨ s.size = 2 ∨ s.size = 3 ∨ s.size = 4 := by omega
 rcases h with h | h | h | h
 ·exact number1 s h w
 ·exact number2 s h w
 ·exact number3 s h w
 ·exact number4 s h w
def encN (m : Int) : List Nat := (encL m).map Int.toNat
theorem Qfq (m : Int) : right m = true ↔ 0 ≤ m ∧ m ≤ 1114111 ∧ (m < 55296 ∨ 57343 < m) := by simp [right]
theorem leadW1 (c : Int) (h : c < 128) : Qbg c = 1 := if_pos h
theorem leadW2 (c : Int) (h : 192 ≤ c ∧ c < 224) : Qbg c = 2 := by unfold Qbg; rw [if_neg (by omega), if_pos h]
theorem leadW3 (c : Int) (h : 224 ≤ c ∧ c < 240) : Qbg c = 3 := by unfold Qbg; rw [if_neg (by omega), if_neg (by omega), if_pos h]
theorem leadW4 (c : Int) (h : 240 ≤ c ∧ c < 248) : Qbg c = 4 := by unfold Qbg; rw [if_neg (by omega), if_neg (by omega), if_neg (by omega), if_pos h]
theorem leadB1 (c : Int) (h : c < 128) : Qdh c = c := if_pos h
theorem leadB2 (c : Int) (h : 192 ≤ c ∧ c < 224) : Qdh c = c - 192 := by unfold Qdh; rw [if_neg (by omega), if_pos h]; omega
theorem leadB3 (c : Int) (h : 224 ≤ c ∧ c < 240) : Qdh c = c - 224 := by unfold Qdh; rw [if_neg (by omega), if_neg (by omega), if_pos h]; omega
theorem leadB4 (c : Int) (h : 240 ≤ c ∧ c < 248) : Qdh c = c - 240 := by unfold Qdh; rw [if_neg (by omega), if_neg (by omega), if_neg (by omega), if_pos h]; omega
theorem width1 (m : Int) (h : m < 128) : Qcn m = 1 := if_pos h
theorem width2 (m : Int) (h : 128 ≤ m) (h' : m < 2048) : Qcn m = 2 := by unfold Qcn; rw [if_neg (by omega), if_pos h']
theorem width3 (m : Int) (h : 2048 ≤ m) (h' : m < 65536) : Qcn m = 3 := by unfold Qcn; rw [if_neg (by omega), if_neg (by omega), if_pos h']
theorem width4 (m : Int) (h : 65536 ≤ m) : Qcn m = 4 := by unfold Qcn; rw [if_neg (by omega), if_neg (by omega), if_neg (by omega)]
theorem dec1 (a : Nat) (r : List Nat) (h : a < 128) : dec (a :: r) = some ((a : Int), 1) := by
 have e : right (a : Int) = true := (Qfq _).2 (by omega)
 simp only [dec, leadW1 (a : Int) (by omega), leadB1 (a : Int) (by omega)]
 rw [if_neg (by omega)]; simp [accs, Qek, e, width1 (a : Int) (by omega)]
theorem dec2 (a b : Nat) (r : List Nat) (h : 192 ≤ a ∧ a < 224) : dec (a :: b :: r) = if b / 64 = 2 ∧ 194 ≤ a then some (((a : Int) - 192) * 64 + (b % 64 : Nat), 2) else none := by
 simp only [dec, leadW2 (a : Int) (by omega), leadB2 (a : Int) (by omega)]
 rw [if_neg (by simp; omega)]
 have e : (b :: r).take (((2 : Int) - 1).toNat) = [b] := rfl
 rw [e]
 by_cases hb : b / 64 = 2 ∧ 194 ≤ a
 ·rw [if_pos hb, if_pos ⟨by simpa [Qek] using hb.1, (Qfq _).2 (by simp [accs]; omega), width2 _ (by simp [accs]; omega) (by simp [accs]; omega)⟩]; rfl
 ·rw [if_neg hb, if_neg]
  rintro ⟨h1, h2, h3⟩
  have h1' : b / 64 = 2 := by simpa [Qek] using h1
  have : accs ((a:Int) - 192) [b] < 128 := by simp [accs]; omega
  rw [width1 _ this] at h3; omega
theorem dec3 (a b c : Nat) (r : List Nat) (h : 224 ≤ a ∧ a < 240) : dec (a :: b :: c :: r) = if b / 64 = 2 ∧ c / 64 = 2 ∧ right ((((a : Int) - 224) * 64 + (b % 64 : Nat)) * 64 + (c % 64 : Nat)) = true ∧ (225 ≤ a ∨ 160 ≤ b) then some ((((a : Int) - 224) * 64 + (b % 64 : Nat)) * 64 + (c % 64 : Nat), 3) else none := by
 simp only [dec, leadW3 (a : Int) (by omega), leadB3 (a : Int) (by omega)]
 rw [if_neg (by simp; omega)]
 have e : (b :: c :: r).take (((3 : Int) - 1).toNat) = [b, c] := rfl
 rw [e]
 have ea : accs ((a:Int) - 224) [b, c] = (((a : Int) - 224) * 64 + (b % 64 : Nat)) * 64 + (c % 64 : Nat) := rfl
 rw [ea]
 by_cases hb : b / 64 = 2 ∧ c / 64 = 2 ∧ right ((((a : Int) - 224) * 64 + (b % 64 : Nat)) * 64 + (c % 64 : Nat)) = true ∧ (225 ≤ a ∨ 160 ≤ b)
 ·rw [if_pos hb, if_pos ⟨by simpa [Qek] using ⟨hb.1, hb.2.1⟩, hb.2.2.1, width3 _ (by omega) (by omega)⟩]
 ·rw [if_neg hb, if_neg]
  rintro ⟨h1, h2, h3⟩
  have h1' : b / 64 = 2 ∧ c / 64 = 2 := by simpa [Qek] using h1
  refine hb ⟨h1'.1, h1'.2, h2, ?_⟩
  by_cases hx : (((a : Int) - 224) * 64 + (b % 64 : Nat)) * 64 + (c % 64 : Nat) < 2048
  ·unfold Qcn at h3; repeat' split at h3 <;> omega
  ·omega
theorem dec4 (a b c d : Nat) (r : List Nat) (h : 240 ≤ a ∧ a < 248) : dec (a :: b :: c :: d :: r) = if b / 64 = 2 ∧ c / 64 = 2 ∧ d / 64 = 2 ∧ right (((((a : Int) - 240) * 64 + (b % 64 : Nat)) * 64 + (c % 64 : Nat)) * 64 + (d % 64 : Nat)) = true ∧ (241 ≤ a ∨ 144 ≤ b) then some (((((a : Int) - 240) * 64 + (b % 64 : Nat)) * 64 + (c % 64 : Nat)) * 64 + (d % 64 : Nat), 4) else none := by
 simp only [dec, leadW4 (a : Int) (by omega), leadB4 (a : Int) (by omega)]
 rw [if_neg (by simp; omega)]
 have e : (b :: c :: d :: r).take (((4 : Int) - 1).toNat) = [b, c, d] := rfl
 rw [e]
 have ea : accs ((a:Int) - 240) [b, c, d] = ((((a : Int) - 240) * 64 + (b % 64 : Nat)) * 64 + (c % 64 : Nat)) * 64 + (d % 64 : Nat) := rfl
 rw [ea]
 by_cases hb : b / 64 = 2 ∧ c / 64 = 2 ∧ d / 64 = 2 ∧ right (((((a : Int) - 240) * 64 + (b % 64 : Nat)) * 64 + (c % 64 : Nat)) * 64 + (d % 64 : Nat)) = true ∧ (241 ≤ a ∨ 144 ≤ b)
 ·rw [if_pos hb, if_pos ⟨by simpa [Qek] using ⟨hb.1, hb.2.1, hb.2.2.1⟩, hb.2.2.2.1, width4 _ (by omega)⟩]
 ·rw [if_neg hb, if_neg]
  rintro ⟨h1, h2, h3⟩
  have h1' : b / 64 = 2 ∧ c / 64 = 2 ∧ d / 64 = 2 := by simpa [Qek] using h1
  refine hb ⟨h1'.1, h1'.2.1, h1'.2.2, h2, ?_⟩
  by_cases hx : ((((a : Int) - 240) * 64 + (b % 64 : Nat)) * 64 + (c % 64 : Nat)) * 64 + (d % 64 : Nat) < 65536
  ·unfold Qcn at h3; repeat' split at h3 <;> omega
  ·omega
theorem encL1 (m : Int) (h : m < 128) : encL m = [m] := if_pos h
theorem encL2 (m : Int) (h : 128 ≤ m) (h' : m < 2048) : encL m = [192 + m / 64, 128 + m % 64] := by unfold encL; rw [if_neg (by omega), if_pos h']
theorem encL3 (m : Int) (h : 2048 ≤ m) (h' : m < 65536) : encL m = [224 + m / 64 / 64, 128 + m / 64 % 64, 128 + m % 64] := by unfold encL; rw [if_neg (by omega), if_neg (by omega), if_pos h']
theorem encL4 (m : Int) (h : 65536 ≤ m) : encL m = [240 + m / 64 / 64 / 64, 128 + m / 64 / 64 % 64, 128 + m / 64 % 64, 128 + m % 64] := by unfold encL; rw [if_neg (by omega), if_neg (by omega), if_neg (by omega)]
theorem ranges (m : Int) (h : right m = true) : (0 ≤ m ∧ m < 128) ∨ (128 ≤ m ∧ m < 2048) ∨ (2048 ≤ m ∧ m < 65536) ∨ (65536 ≤ m ∧ m ≤ 1114111) := by
 have := (Qfq m).1 h; omega
theorem dec_enc (m : Int) (hm : right m = true) (r : List Nat) : dec (encN m ++ r) = some (m, Qcn m) := by
 rcases ranges m hm with h | h | h | h
 ·rw [encN, encL1 m h.2, width1 m h.2]
  have := dec1 m.toNat r (by omega)
  rw [show ((m.toNat : Nat) : Int) = m by omega] at this; exact this
 ·rw [encN, encL2 m h.1 h.2, width2 m h.1 h.2]
  have := dec2 (192 + m / 64).toNat (128 + m % 64).toNat r (by omega)
  rw [if_pos (by omega)] at this
  refine this.trans ?_
  rw [show (((192 + m / 64).toNat : Int) - 192) * 64 + (((128 + m % 64).toNat % 64 : Nat) : Int) = m by omega]
 ·rw [encN, encL3 m h.1 h.2, width3 m h.1 h.2]
  have := dec3 (224 + m / 64 / 64).toNat (128 + m / 64 % 64).toNat (128 + m % 64).toNat r (by omega)
  rw [show ((((224 + m / 64 / 64).toNat : Int) - 224) * 64 + (((128 + m / 64 % 64).toNat % 64 : Nat) : Int)) * 64 + (((128 + m % 64).toNat % 64 : Nat) : Int) = m by omega, if_pos ⟨by omega, by omega, hm, by omega⟩] at this
  exact this
 ·rw [encN, encL4 m h.1, width4 m h.1]
  have := dec4 (240 + m / 64 / 64 / 64).toNat (128 + m / 64 / 64 % 64).toNat (128 + m / 64 % 64).toNat (128 + m % 64).toNat r (by omega)
  rw [show (((((240 + m / 64 / 64 / 64).toNat : Int) - 240) * 64 + (((128 + m / 64 / 64 % 64).toNat % 64 : Nat) : Int)) * 64 + (((128 + m / 64 % 64).toNat % 64 : Nat) : Int)) * 64 + (((128 + m % 64).toNat % 64 : Nat) : Int) = m by omega, if_pos ⟨by omega, by omega, by omega, hm, by omega⟩] at this
  exact this
theorem dec_some (l : List Nat) (m w : Int) (h : dec l = some (m, w)) : right m = true ∧ w = Qcn m ∧ ∃ r, l = encN m ++ r := by
  match l with
  | [] => simp [dec] at h
  | a :: r =>
    by_cases h1 : a < 128
    · rw [dec1 a r h1] at h
      simp only [Option.some.injEq, Prod.mk.injEq] at h
      obtain ⟨rfl, rfl⟩ := h
      exact ⟨(Qfq _).2 (by omega), (width1 _ (by omega)).symm, r, by rw [encN, encL1 _ (by omega)]; rfl⟩
    by_cases h2 : 192 ≤ a ∧ a < 224
    · match r with
      | [] => simp [dec, leadW2 (a : Int) (by omega)] at h
      | b :: r =>
        rw [dec2 a b r h2] at h
        split at h
        · rename_i hb
          simp only [Option.some.injEq, Prod.mk.injEq] at h
          obtain ⟨rfl, rfl⟩ := h
          refine ⟨(Qfq _).2 (by omega), (width2 _ (by omega) (by omega)).symm, r, ?_⟩
          rw [encN, encL2 _ (by omega) (by omega)]
          simp only [List.map, List.cons_append, List.nil_append]
          congr 1
          · omega
          · congr 1; omega
        · cases h
    by_cases h3 : 224 ≤ a ∧ a < 240
    · match r with
      | [] => simp [dec, leadW3 (a : Int) (by omega)] at h
      | [_] => simp [dec, leadW3 (a : Int) (by omega)] at h
      | b :: c :: r =>
        rw [dec3 a b c r h3] at h
        split at h
        · rename_i hb
          simp only [Option.some.injEq, Prod.mk.injEq] at h
          obtain ⟨rfl, rfl⟩ := h
          refine ⟨hb.2.2.1, (width3 _ (by omega) (by omega)).symm, r, ?_⟩
          rw [encN, encL3 _ (by omega) (by omega)]
          simp only [List.map, List.cons_append, List.nil_append]
          congr 1
          · omega
          · congr 1
            · omega
            · congr 1; omega
        · cases h
    by_cases h4 : 240 ≤ a ∧ a < 248
    · match r with
      | [] => simp [dec, leadW4 (a : Int) (by omega)] at h
      | [_] => simp [dec, leadW4 (a : Int) (by omega)] at h
      | [_, _] => simp [dec, leadW4 (a : Int) (by omega)] at h
      | b :: c :: d :: r =>
        rw [dec4 a b c d r h4] at h
        split at h
        · rename_i hb
          simp only [Option.some.injEq, Prod.mk.injEq] at h
          obtain ⟨rfl, rfl⟩ := h
          refine ⟨hb.2.2.2.1, (width4 _ (by omega)).symm, r, ?_⟩
          rw [encN, encL4 _ (by omega)]
          simp only [List.map, List.cons_append, List.nil_append]
          congr 1
          · omega
          · congr 1
            · omega
            · congr 1
              · omega
              · congr 1; omega
        · cases h
    · have h0 : Qbg (a : Int) = 0 := by unfold Qbg; repeat' split <;> omega
      simp [dec, h0] at h
theorem encN_lt (m : Int) (h : right m = true) : ∀ c ∈ encN m, c < 256 := by
 rcases ranges m h with h | h | h | h
 ·rw [encN, encL1 m h.2]; intro c hc; simp at hc; omega
 ·rw [encN, encL2 m h.1 h.2]; intro c hc; simp at hc; omega
 ·rw [encN, encL3 m h.1 h.2]; intro c hc; simp at hc; omega
 ·rw [encN, encL4 m h.1]; intro c hc; simp at hc; omega
theorem Qfc (m : Int) (h : right m = true) : ((encN m).length : Int) = Qcn m := by
 rcases ranges m h with h | h | h | h
 ·rw [encN, encL1 m h.2, width1 m h.2]; rfl
 ·rw [encN, encL2 m h.1 h.2, width2 m h.1 h.2]; rfl
 ·rw [encN, encL3 m h.1 h.2, width3 m h.1 h.2]; rfl
 ·rw [encN, encL4 m h.1, width4 m h.1]; rfl
theorem width_le (m : Int) : 1 ≤ Qcn m ∧ Qcn m ≤ 4 := by unfold Qcn; repeat' split <;> omega
theorem nats_of (l : List Int) (h : ∀ c ∈ l.map Int.toNat, c < 256) : nats (strOfNums l) = l.map Int.toNat := by
 rw [nats, strOfNums_data, List.map_map]
 refine List.map_congr_left fun c hc => ?_
 have := h c.toNat (List.mem_map.2 ⟨c, hc, rfl⟩)
 simp; omega
theorem nats_enc (m : Int) (h : right m = true) : nats (enc m) = encN m := nats_of _ (encN_lt m h)
theorem nats_inj {a b : ByteArray} (h : nats a = nats b) : a = b := by
 refine ByteArray.ext (Array.toList_inj.mp ?_)
 exact (List.map_inj_right (fun x y h => UInt8.toNat_inj.1 h)).1 h
theorem Qji (s : ByteArray) (n k : Nat) : nats (s.extract n (n + k)) = ((nats s).drop n).take k := by
 unfold nats
 rw [← List.map_drop, ← List.map_take]
 congr 1
 rw [ByteArray.data_extract, Array.toList_extract, List.extract_eq_take_drop, Nat.add_sub_cancel_left]
theorem Qiq (s : ByteArray) (n : Nat) (h : n < s.size) : Qcf s n = dec ((nats s).drop n) := by
 unfold Qcf; rw [if_pos ⟨by omega, by omega⟩]; rfl
theorem number_some (s : ByteArray) (n w : Nat) (h : 1 ≤ w) (_hw : w ≤ 4) (hl : n + w ≤ s.size) (h0 : 0 ≤ Qav (s.extract n (n + w))) : Qcf s n = some (Qav (s.extract n (n + w)), (w : Int)) := by
 have hsz : (s.extract n (n + w)).size = w := by rw [ByteArray.size_extract]; omega
 by_cases h1 : Qbz (s.extract n (n + w)) < 0
 ·rw [Qav, if_pos h1] at h0; omega
 rw [Qav, if_neg h1] at h0 ⊢
 split at h0
 ·rename_i hr
  rw [if_pos hr]
  obtain ⟨hr, he⟩ := hr
  generalize Qco (s.extract n (n + w)) ((s.extract n (n + w)).size - 1) = m at *
  have hn : nats (s.extract n (n + w)) = encN m := by rw [← he, nats_enc m hr]
  have hwd : (w : Int) = Qcn m := by rw [← Qfc m hr, ← hn, Qcx, hsz]
  rw [Qji] at hn
  rw [Qiq s n (by omega), ← List.take_append_drop w ((nats s).drop n), hn, dec_enc m hr, hwd]
 ·omega
theorem number_of (s : ByteArray) (m : Int) (hr : right m = true) (h : nats s = encN m) : Qav s = m := by
 have he : enc m = s := nats_inj (by rw [nats_enc m hr, h])
 have hsz : (s.size : Int) = Qcn m := by rw [← Qcx, h, Qfc m hr]
 have hb : ∀ k, nb s k = (encN m).getD k 0 := fun k => by rw [nb, h]
 have key : Qbz s ≥ 0 ∧ Qco s (s.size - 1) = m := by
  rcases ranges m hr with h | h | h | h
  ·rw [encN, encL1 m h.2] at hb
   rw [width1 m h.2] at hsz
   have e : s.size = 1 := by omega
   have := hb 0
   simp [List.getD] at this
   simp [Qco, Qbz, Qeb, e, this]; omega
  ·rw [encN, encL2 m h.1 h.2] at hb
   rw [width2 m h.1 h.2] at hsz
   have e : s.size = 2 := by omega
   have b0 := hb 0
   have b1 := hb 1
   simp [List.getD] at b0 b1
   simp [Qco, Qbz, Qeb, e, b0, b1]; omega
  ·rw [encN, encL3 m h.1 h.2] at hb
   rw [width3 m h.1 h.2] at hsz
   have e : s.size = 3 := by omega
   have b0 := hb 0
   have b1 := hb 1
   have b2 := hb 2
   simp [List.getD] at b0 b1 b2
   simp [Qco, Qbz, Qeb, e, b0, b1, b2]; omega
  ·rw [encN, encL4 m h.1] at hb
   rw [width4 m h.1] at hsz
   have e : s.size = 4 := by omega
   have b0 := hb 0
   have b1 := hb 1
   have b2 := hb 2
   have b3 := hb 3
   simp [List.getD] at b0 b1 b2 b3
   simp [Qco, Qbz, Qeb, e, b0, b1, b2, b3]; omega
 rw [Qav, if_neg (by omega), key.2, if_pos ⟨hr, he⟩]
theorem number_none (s : ByteArray) (n : Nat) (h : n < s.size) (hn : ∀ w : Nat, 1 ≤ w → w ≤ 4 → n + w ≤ s.size → Qav (s.extract n (n + w)) < 0) : Qcf s n = none := by
  rw [Qiq s n h]
  cases hd : dec ((nats s).drop n) with
  | none => rfl
  | some x =>
    obtain ⟨m, w⟩ := x
    obtain ⟨hr, hw, r, hl⟩ := dec_some _ _ _ hd
    have h4 := width_le m
    have hlen := Qfc m hr
    have hle : (encN m).length ≤ s.size - n := by
      have := congrArg List.length hl
      rw [List.length_drop, Qcx, List.length_append] at this; omega
    have hx := hn (encN m).length (by omega) (by omega) (by omega)
    rw [number_of _ m hr (by rw [Qji, hl, List.take_left])] at hx
    have := (Qfq m).1 hr
    omega
def Qfd (s : ByteArray) (i : Int) : Bool := (Qcf s i).isSome
theorem rnext_any (s : ByteArray) (hs : s.size ≤ maxLen) (i : Int) (w : World) :
  Calls Tryz.prog 226 #[.string s, .int .i64 i] w fun e w' => e = .returned (.tuple #[.int .i64 (Qdd s i), .int .i64 (Qde s i), .bool (Qfd s i)]) ∧ Below w.heap.size w w' := by
 unfold maxLen at hs
 by_cases hi : 0 ≤ i ∧ i < s.size
 ·obtain ⟨n, rfl⟩ := Int.eq_ofNat_of_zero_le hi.1
  have hlt : n < s.size := by omega
  clear hi
  have hd1 : decide ((n : Int) < 0) = false := by simp
  have hd2 : decide (s.size ≤ n) = false := by simpa using hlt
  go_enter Tryz.func226, Tryz.ntmps226
  go_wp2_with fail
  go_loopw [7] (fun x wr => ∃ k : Nat, 1 ≤ k ∧ k ≤ 5 ∧ k ≤ s.size - n + 1 ∧ x = .int .i64 k ∧ Hid (∀ j : Nat, 1 ≤ j → j < k → Qav (s.extract n (n + j)) < 0) ∧ Below w.heap.size w wr) (fun x _ => (5 - intOf x).toNat)
  case atStart => exact ⟨1, Nat.le_refl _, by omega, by omega, rfl, fun j h1 h2 => by omega, Below.refl _ _⟩
  case round =>
   obtain ⟨k, hk1, hk5, hkn, rfl, hall, hbel⟩ := hrel
   by_cases hk : k ≤ 4 ∧ k ≤ s.size - n
   ·have hk4 := hk.1
    have hkl : (k : Int) ≤ s.size - n := by omega
    clear hk
    have hsz : (s.extract n (n + k)).size = k := by rw [ByteArray.size_extract]; omega
    have hsz1 := Lib.hid (show 1 ≤ (s.extract n (n+k)).size by omega)
    have hsz4 := Lib.hid (show (s.extract n (n+k)).size ≤ 4 by omega)
    clear hsz
    go_wp2_with (go_at_call 281; refine (number_any _ hsz1.out hsz4.out _).mono ?_; rintro e w' ⟨rfl, hb2⟩)
    ·have h0 : 0 ≤ Qav (s.extract n (n + k)) := by assumption
     have hS := number_some s n k hk1 hk4 (by omega) h0
     go_ret3
     exact ⟨Qif (by simp only [Qdd, hS]) (by simp only [Qde, hS]) (by simp only [Qfd, hS]; rfl), hbel.trans (hb2.mono hbel.size)⟩
    ·have hneg : Qav (s.extract n (n + k)) < 0 := by assumption
     have hall2 : Hid (∀ j : Nat, 1 ≤ j → j < k + 1 → Qav (s.extract n (n + j)) < 0) := by
      intro j h1 h2
      by_cases e : j = k
      ·rw [e]; exact hneg
      ·exact hall.out j h1 (by omega)
     go_roundw
     case rel => exact ⟨k + 1, by omega, by omega, by omega, by go_num, hall2, hbel.trans (hb2.mono hbel.size)⟩
     case measure => simp [intOf]; omega
   ·have hN : Qcf s n = none := by
     refine number_none s n hlt fun j h1 h4 hj => hall.out j h1 ?_
     omega
    have fin : Hid (Qdd s n = 0 ∧ Qde s n = 0 ∧ Qfd s n = false) := by
     simp only [Hid, Qdd, Qde, Qfd, hN]; exact ⟨trivial, trivial, rfl⟩
    clear hN
    by_cases hk4 : k ≤ 4
    ·have hkl : ¬ (k : Int) ≤ s.size - n := by omega
     clear hk
     go_wp2_with fail
     go_ret3
     exact ⟨Qif fin.out.1.symm fin.out.2.1.symm fin.out.2.2.symm, hbel⟩
    ·clear hk
     go_wp2_with fail
     go_ret3
     exact ⟨Qif fin.out.1.symm fin.out.2.1.symm fin.out.2.2.symm, hbel⟩
 ·have hN : Qcf s i = none := by unfold Qcf; rw [if_neg hi]
  have fin : Hid (Qdd s i = 0 ∧ Qde s i = 0 ∧ Qfd s i = false) := by
    simp only [Hid, Qdd, Qde, Qfd, hN]; exact ⟨trivial, trivial, rfl⟩
  clear hN
  by_cases h0 : i < 0
  ·go_enter Tryz.func226, Tryz.ntmps226
   go_wp2
   go_ret3
   exact ⟨Qif fin.out.1.symm fin.out.2.1.symm fin.out.2.2.symm, Below.refl _ _⟩
  ·have h1 : (s.size : Int) ≤ i := by omega
   clear hi
   go_enter Tryz.func226, Tryz.ntmps226
   go_wp2
   go_ret3
   exact ⟨Qif fin.out.1.symm fin.out.2.1.symm fin.out.2.2.symm, Below.refl _ _⟩
end Go.Proofs.YtdklpbefbamchaaGreat
