import Derived.Test.YtffgfjnbgplckaaUtf0
import Derived.Laws.Bits128
import Derived.Laws.BytesArg
namespace Go.Proofs.Ytffgfjnbgplckaa
open Go.RowKit
theorem i64_and63 (n : Int) : bits .and .i64 n 63 = n % 64 := by
  have h63 : (BitVec.ofInt 64 63).toNat = 2 ^ 6 - 1 := by decide
  have key : (BitVec.ofInt 64 n &&& BitVec.ofInt 64 63).toNat = (n % ((2 ^ 64 : Nat) : Int)).toNat % 2 ^ 6 := by
    rw [BitVec.toNat_and, BitVec.toNat_ofInt, h63, Nat.and_two_pow_sub_one_eq_mod]
  show IntKind.i64.wrap ((BitVec.ofInt 64 n &&& BitVec.ofInt 64 63).toNat : Nat) = n % 64
  rw [key, IntKind.wrap_i64]
  omega
theorem or128N : ∀ y : Nat, y < 64 → bits .or .u8 128 (y : Int) = 128 + (y : Int) := by decide +kernel
theorem or128 (n : Int) : bits .or .u8 128 (bits .and .i64 n 63 % 256) = 128 + n % 64 := by
  rw [i64_and63]
  obtain ⟨y, hy⟩ := Int.eq_ofNat_of_zero_le (show 0 ≤ n % 64 % 256 by omega)
  rw [hy, or128N y (by omega)]; omega
theorem lead2N : ∀ y : Nat, y < 32 → bits .or .i64 (bits .and .i64 960 255) (y : Int) % 256 = 192 + (y : Int) := by decide +kernel
theorem lead3N : ∀ y : Nat, y < 16 → bits .or .i64 (bits .and .i64 480 255) (y : Int) % 256 = 224 + (y : Int) := by decide +kernel
theorem lead4N : ∀ y : Nat, y < 8 → bits .or .i64 (bits .and .i64 240 255) (y : Int) % 256 = 240 + (y : Int) := by decide +kernel
theorem lead2 (y : Int) (h0 : 0 ≤ y) (h : y < 32) : bits .or .i64 (bits .and .i64 960 255) y % 256 = 192 + y := by
  obtain ⟨n, rfl⟩ := Int.eq_ofNat_of_zero_le h0; exact lead2N n (by omega)
theorem lead3 (y : Int) (h0 : 0 ≤ y) (h : y < 16) : bits .or .i64 (bits .and .i64 480 255) y % 256 = 224 + y := by
  obtain ⟨n, rfl⟩ := Int.eq_ofNat_of_zero_le h0; exact lead3N n (by omega)
theorem lead4 (y : Int) (h0 : 0 ≤ y) (h : y < 8) : bits .or .i64 (bits .and .i64 240 255) y % 256 = 240 + y := by
  obtain ⟨n, rfl⟩ := Int.eq_ofNat_of_zero_le h0; exact lead4N n (by omega)
/-- a sign's bytes -/
def encL (n : Int) : List Int :=
  if n < 128 then [n] else if n < 2048 then [192 + n / 64, 128 + n % 64] else if n < 65536 then [224 + n / 64 / 64, 128 + n / 64 % 64, 128 + n % 64]
  else [240 + n / 64 / 64 / 64, 128 + n / 64 / 64 % 64, 128 + n / 64 % 64, 128 + n % 64]
def enc (n : Int) : ByteArray := strOfNums (encL n)
def putS (n : Int) : ByteArray := if right n = true then enc n else ByteArray.empty
def putE (n : Int) : Int := if right n = true then 0 else 16
end Go.Proofs.Ytffgfjnbgplckaa
