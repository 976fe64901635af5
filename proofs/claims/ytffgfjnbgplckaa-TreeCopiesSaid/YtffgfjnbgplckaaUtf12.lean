import Derived.Test.YtffgfjnbgplckaaUtf11
namespace Go.Proofs.Ytffgfjnbgplckaa
open Go.RowKit
theorem below_bytes (w : World) (e : TypeId) (s : ByteArray) : Below w.heap.size w (Lib.bytesWorld w e s) :=
  ⟨rfl, rfl, rfl, by rw [Lib.bytesWorld_size]; omega, fun k hk => Lib.bytesWorld_at_old w e s k hk⟩
theorem bytes_cells (w : World) (e : TypeId) (s : ByteArray) : ∀ j u, (Lib.strCells s)[j]? = some u → (Lib.bytesWorld w e s).cell? ((⟨w.heap.size, 0, none⟩ : Addr).add j) = some u := by
  intro j u hu
  have hj : j < s.size := by
    rw [← Lib.strCells_length]; exact (List.getElem?_eq_some_iff.1 hu).1
  have e1 : (⟨w.heap.size, 0, none⟩ : Addr).add j = ⟨w.heap.size, j, none⟩ := by unfold Addr.add; split <;> simp_all
  rw [e1, Lib.bytesWorld_cell w e s j hj, ← hu, Lib.strCells, List.getElem?_map]
  have hj2 : j < s.data.toList.length := by simpa using hj
  rw [List.getD_eq_getElem?_getD, List.getElem?_eq_getElem hj2]; rfl
end Go.Proofs.Ytffgfjnbgplckaa
