import Derived.WalkKit
import Derived.Laws.BitsAllLaws
namespace Go.Proofs.Ytffgfjnbgplckaa
open Go.RowKit
/-- a sign -/
def right (n : Int) : Bool := decide (0 ≤ n ∧ n ≤ 1114111 ∧ (n < 55296 ∨ 57343 < n))
def width (n : Int) : Int := if n < 128 then 1 else if n < 2048 then 2 else if n < 65536 then 3 else 4
def leadW (c : Int) : Int := if c < 128 then 1 else if 192 ≤ c ∧ c < 224 then 2 else if 224 ≤ c ∧ c < 240 then 3 else if 240 ≤ c ∧ c < 248 then 4 else 0
def leadB (c : Int) : Int := if c < 128 then c else if 192 ≤ c ∧ c < 224 then c % 32 else if 224 ≤ c ∧ c < 240 then c % 16 else if 240 ≤ c ∧ c < 248 then c % 8 else 0
/-- a text's bytes as numbers -/
def nats (s : ByteArray) : List Nat := s.data.toList.map UInt8.toNat
def nb (s : ByteArray) (i : Nat) : Nat := (nats s).getD i 0
theorem nats_length (s : ByteArray) : (nats s).length = s.size := by simp [nats]
theorem nb_lt (s : ByteArray) (i : Nat) : nb s i < 256 := by
  unfold nb nats
  rw [List.getD_eq_getElem?_getD, List.getElem?_map]
  cases s.data.toList[i]? with
  | none => simp
  | some x => simpa using x.toNat_lt
theorem nb_eq (s : ByteArray) (i : Nat) (h : i < s.size) : s[i].toNat = nb s i := by
  unfold nb nats
  rw [List.getD_eq_getElem?_getD, List.getElem?_map, List.getElem?_eq_getElem (by simpa using h)]; rfl
/-- what so many bytes behind the first one add -/
def accs (n : Int) (l : List Nat) : Int := l.foldl (fun n c => n * 64 + (c % 64 : Nat)) n
def conts (l : List Nat) : Bool := l.all (fun c => c / 64 == 2)
/-- the sign at a list's beginning, and its width -/
def dec : List Nat → Option (Int × Int)
  | [] => none
  | c :: r =>
    if leadW c = 0 ∨ (r.length : Int) + 1 < leadW c then none else
    if conts (r.take (leadW c - 1).toNat) = true ∧ right (accs (leadB c) (r.take (leadW c - 1).toNat)) = true ∧ width (accs (leadB c) (r.take (leadW c - 1).toNat)) = leadW c
    then some (accs (leadB c) (r.take (leadW c - 1).toNat), leadW c) else none
/-- the sign at a place -/
def decAt (s : ByteArray) (i : Int) : Option (Int × Int) := if 0 ≤ i ∧ i < s.size then dec ((nats s).drop i.toNat) else none
def nextN (s : ByteArray) (i : Int) : Int := match decAt s i with | some x => x.1 | none => 0
def nextW (s : ByteArray) (i : Int) : Int := match decAt s i with | some x => x.2 | none => 0
def nextE (s : ByteArray) (i : Int) : Int := match decAt s i with | some _ => 0 | none => 1

theorem leadW_le (c : Int) : 0 ≤ leadW c ∧ leadW c ≤ 4 := by unfold leadW; repeat' split <;> omega
theorem leadB_le (c : Int) (h : 0 ≤ c) : 0 ≤ leadB c ∧ leadB c ≤ 127 := by unfold leadB; repeat' split <;> omega

/-- the tail behind the first byte -/
def tl (s : ByteArray) (n : Nat) : List Nat := (nats s).drop (n + 1)
theorem drop_tl (s : ByteArray) (n : Nat) (h : n < s.size) : (nats s).drop n = nb s n :: tl s n := by
  unfold tl nb
  rw [List.getD_eq_getElem?_getD, List.getElem?_eq_getElem (by rw [nats_length]; exact h), List.drop_eq_getElem_cons (by rw [nats_length]; exact h)]; rfl
theorem tl_length (s : ByteArray) (n : Nat) : (tl s n).length = s.size - (n + 1) := by unfold tl; rw [List.length_drop, nats_length]
theorem tl_get (s : ByteArray) (n k : Nat) : (tl s n).getD k 0 = nb s (n + 1 + k) := by
  unfold tl nb; rw [List.getD_eq_getElem?_getD, List.getElem?_drop, ← List.getD_eq_getElem?_getD]
theorem take_snoc {α : Type} (l : List α) (k : Nat) (d : α) (h : k < l.length) : l.take (k + 1) = l.take k ++ [l.getD k d] := by
  rw [List.take_succ_eq_append_getElem h, List.getD_eq_getElem?_getD, List.getElem?_eq_getElem h]; rfl
theorem accs_snoc (n : Int) (l : List Nat) (c : Nat) : accs n (l ++ [c]) = accs n l * 64 + (c % 64 : Nat) := by simp [accs]
theorem conts_snoc (l : List Nat) (c : Nat) : conts (l ++ [c]) = (conts l && (c / 64 == 2)) := by simp [conts, List.all_append]
theorem accs_nonneg (l : List Nat) : ∀ n : Int, 0 ≤ n → 0 ≤ accs n l := by
  induction l with
  | nil => intro n h; exact h
  | cons c r ih => intro n h; exact ih _ (by show (0:Int) ≤ n * 64 + (c % 64 : Nat); omega)
theorem accs_lt (l : List Nat) : ∀ n : Int, n ≤ 127 → accs n l < 128 * 64 ^ l.length := by
  intro n hn
  have : ∀ (l : List Nat) (n : Int), accs n l < (n + 1) * 64 ^ l.length := by
    intro l
    induction l with
    | nil => intro n; simp [accs]; omega
    | cons c r ih =>
      intro n
      have h1 := ih (n * 64 + (c % 64 : Nat))
      have e : accs n (c :: r) = accs (n * 64 + (c % 64 : Nat)) r := rfl
      rw [e, List.length_cons, Int.pow_succ]
      refine Int.lt_of_lt_of_le h1 ?_
      have h2 : n * 64 + (c % 64 : Nat) + 1 ≤ (n + 1) * 64 := by omega
      have h3 : (0:Int) ≤ 64 ^ r.length := Int.le_of_lt (Int.pow_pos (by decide))
      calc _ ≤ ((n + 1) * 64) * 64 ^ r.length := Int.mul_le_mul_of_nonneg_right h2 h3
        _ = _ := by rw [Int.mul_assoc, Int.mul_comm 64]
  refine Int.lt_of_lt_of_le (this l n) ?_
  exact Int.mul_le_mul_of_nonneg_right (by omega) (Int.le_of_lt (Int.pow_pos (by decide)))

theorem decAt_cons (s : ByteArray) (n : Nat) (h : n < s.size) : decAt s n = dec (nb s n :: tl s n) := by
  unfold decAt; rw [if_pos ⟨by omega, by omega⟩, ← drop_tl s n h]; rfl
theorem and192 : ∀ c : Nat, c < 256 → bits BinOp.and .u8 (c : Int) 192 = ((c / 64 * 64 : Nat) : Int) := by
  decide +kernel
theorem and63 : ∀ c : Nat, c < 256 → bits BinOp.and .u8 (c : Int) 63 = ((c % 64 : Nat) : Int) := by
  decide +kernel
theorem or_i64 (a b : Nat) (ha : a < 9223372036854775808) (hb : b < 9223372036854775808) : bits .or .i64 (a : Int) (b : Int) = ((a ||| b : Nat) : Int) := by
  have h : a ||| b < 2 ^ 63 := Nat.or_lt_two_pow ha hb
  have hw : ∀ x : Nat, x < 2 ^ 63 → IntKind.i64.wrap (x : Int) = x := by
    intro x hx
    have : (x:Int) < 9223372036854775808 := by omega
    simp [IntKind.wrap, IntKind.bits, IntKind.signed]; omega
  have e1 : ∀ x : Nat, x < 9223372036854775808 → (BitVec.ofInt 64 (x : Int)).toNat = x := by
    intro x hx
    rw [BitVec.ofInt_natCast, BitVec.toNat_ofNat]; exact Nat.mod_eq_of_lt (by omega)
  show IntKind.i64.wrap ((BitVec.ofInt 64 (a : Int) ||| BitVec.ofInt 64 (b : Int)).toNat : Int) = _
  rw [BitVec.toNat_or, e1 a ha, e1 b hb, hw _ h]
theorem or_shl (a b : Nat) (ha : a < 1000000000) (hb : b < 64) : bits .or .i64 ((a : Int) * 64) (b : Int) = (a : Int) * 64 + b := by
  have h := or_i64 (a * 64) b (by omega) (by omega)
  have e : a * 64 ||| b = a * 64 + b := by
    have := Nat.shiftLeft_add_eq_or_of_lt (i := 6) (b := b) (by omega) a
    rw [Nat.shiftLeft_eq] at this; exact this.symm
  rw [e] at h; simpa using h

/-- what the round of Next makes of its number -/
theorem or_acc (a : Int) (h0 : 0 ≤ a) (h1 : a < 128 * 64 ^ 3) (c : Nat) (hc : c < 256) : bits .or .i64 (wrap64 (a * 64)) (wrap64 (bits BinOp.and .u8 (c : Int) 63)) = a * 64 + (c % 64 : Nat) := by
  obtain ⟨n, rfl⟩ := Int.eq_ofNat_of_zero_le h0
  rw [and63 c hc, IntWalk.wrap64_in _ ⟨by omega, by omega⟩, IntWalk.wrap64_in _ ⟨by omega, by omega⟩]
  exact or_shl n (c % 64) (by omega) (by omega)
theorem and_cont (c : Nat) (hc : c < 256) : (bits BinOp.and .u8 (c : Int) 192 != 128) = !(c / 64 == 2) := by
  rw [and192 c hc, Bool.eq_iff_iff]; simp; omega
end Go.Proofs.Ytffgfjnbgplckaa
