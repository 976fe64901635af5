import Derived.Test.YtffgfjnbgplckaaUtf9
import Derived.Lib.AppendStr
import Derived.Lib.ConvBytes
namespace Go.Proofs.Ytffgfjnbgplckaa
open Go.RowKit
def joinB (l : List Int) : List Int := l.flatMap encL
def joinE (l : List Int) : Int := if l.all right = true then (if 65535 < (joinB l).length then 2 else 0) else 16
def joinS (l : List Int) : ByteArray := if joinE l = 0 then strOfNums (joinB l) else ByteArray.empty
theorem strCells_enc (n : Int) (h : right n = true) : Lib.strCells (enc n) = (encL n).map (Value.int .u8) := by
  have h2 := nats_enc n h
  unfold nats encN at h2
  have h3 : Lib.strCells (enc n) = ((enc n).data.toList.map UInt8.toNat).map (fun c : Nat => Value.int .u8 (c : Int)) := by
    simp [Lib.strCells]
  rw [h3, h2, List.map_map]
  refine List.map_congr_left fun c hc => ?_
  have : 0 ≤ c := by
    rcases ranges n h with h | h | h | h
    · rw [encL1 n h.2] at hc; simp at hc; omega
    · rw [encL2 n h.1 h.2] at hc; simp at hc; omega
    · rw [encL3 n h.1 h.2] at hc; simp at hc; omega
    · rw [encL4 n h.1] at hc; simp at hc; omega
  show Value.int .u8 ((c.toNat : Nat) : Int) = Value.int .u8 c
  rw [Int.toNat_of_nonneg this]
theorem enc_size (n : Int) : (enc n).size = (encL n).length := strOfNums_size _
theorem joinB_take (l : List Int) (k : Nat) (h : k < l.length) : joinB (l.take (k + 1)) = joinB (l.take k) ++ encL l[k] := by
  unfold joinB; rw [List.take_succ_eq_append_getElem h]; simp only [List.flatMap_append, List.flatMap_cons, List.flatMap_nil, List.append_nil]
theorem joinB_le (l : List Int) (k : Nat) : (joinB (l.take k)).length ≤ (joinB l).length := by
  have : joinB l = joinB (l.take k) ++ joinB (l.drop k) := by unfold joinB; rw [← List.flatMap_append, List.take_append_drop]
  rw [this, List.length_append]; omega
theorem encL_len (n : Int) : 1 ≤ (encL n).length ∧ (encL n).length ≤ 4 := by
  unfold encL; constructor <;> (repeat' split) <;> simp
/-- a cell of a slice that is read, in a later world -/
theorem slc_cell {w w' : World} {xs : List Int} {k : IntKind} {b off : Nat} (h : ∀ i, i < xs.length → w.cell? ⟨b, off + i, none⟩ = (xs.map (Value.int k))[i]?) (hb : Below w.heap.size w w') (i : Nat) (hi : i < xs.length) :
    w'.cell? ⟨b, off + i, none⟩ = some (.int k xs[i]) := by
  have := h i hi
  rw [List.getElem?_map, List.getElem?_eq_getElem hi] at this
  rw [hb.cell (World.block_lt_of_cell? w _ this), this]; rfl
theorem ne_map {xs : List Int} {k : IntKind} {i : Nat} (h : i < xs.length) : xs.map (Value.int k) ≠ [] := by
  intro e; rw [List.map_eq_nil_iff] at e; rw [e] at h; simp at h
end Go.Proofs.Ytffgfjnbgplckaa
