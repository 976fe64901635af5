import Derived.Test.YtffgfjnbgplckaaUtf6
namespace Go.Proofs.Ytffgfjnbgplckaa
open Go.RowKit
def lexN : List Nat → List Nat → Bool
  | _, [] => false
  | [], _ :: _ => true
  | a :: x, b :: y => decide (a < b) || (a == b && lexN x y)
theorem bytesLess_nats : ∀ x y : List UInt8, Op.bytesLess x y = lexN (x.map UInt8.toNat) (y.map UInt8.toNat)
  | _, [] => by simp [Op.bytesLess, lexN]
  | [], _ :: _ => by simp [Op.bytesLess, lexN]
  | a :: x, b :: y => by
    simp only [Op.bytesLess, List.map_cons, lexN, bytesLess_nats x y]
    congr 1
    congr 1
    rw [Bool.eq_iff_iff, beq_iff_eq, beq_iff_eq]; exact UInt8.toNat_inj.symm
set_option maxHeartbeats 2000000 in
theorem lexN_enc (a b : Int) (ha : right a = true) (hb : right b = true) : lexN (encN a) (encN b) = decide (a < b) := by
  rcases ranges a ha with h | h | h | h <;> rcases ranges b hb with k | k | k | k
  all_goals
    unfold encN
    first | rw [encL1 a h.2] | rw [encL2 a h.1 h.2] | rw [encL3 a h.1 h.2] | rw [encL4 a h.1]
    first | rw [encL1 b k.2] | rw [encL2 b k.1 k.2] | rw [encL3 b k.1 k.2] | rw [encL4 b k.1]
    rw [Bool.eq_iff_iff]
    simp [lexN]
    omega
theorem less_enc (a b : Int) (ha : right a = true) (hb : right b = true) : Op.bytesLess (enc a).toList (enc b).toList = decide (a < b) := by
  rw [ByteArray.toList_eq, ByteArray.toList_eq, bytesLess_nats]
  exact (congr (congrArg lexN (nats_enc a ha)) (nats_enc b hb)).trans (lexN_enc a b ha hb)
theorem enc_inj (a b : Int) (ha : right a = true) (hb : right b = true) (h : enc a = enc b) : a = b := by
  have h1 := dec_enc a ha []
  have h2 := dec_enc b hb []
  rw [← nats_enc a ha, h, nats_enc b hb] at h1
  rw [h1] at h2
  exact (Prod.mk.inj (Option.some.inj h2)).1
theorem eq_enc (a b : Int) (ha : right a = true) (hb : right b = true) : ((enc a).toList == (enc b).toList) = (a == b) := by
  rw [Bool.eq_iff_iff, beq_iff_eq, beq_iff_eq, ByteArray.toList_eq, ByteArray.toList_eq]
  constructor
  · intro h; exact enc_inj a b ha hb (ByteArray.ext (Array.toList_inj.mp h))
  · intro h; rw [h]
end Go.Proofs.Ytffgfjnbgplckaa
