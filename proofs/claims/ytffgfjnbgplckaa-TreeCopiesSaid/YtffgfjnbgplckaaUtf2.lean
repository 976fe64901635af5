import Derived.Test.YtffgfjnbgplckaaUtf1
import Derived.Test.YtffgfjnbgplckaaUtfB
import Derived.Handy
namespace Go.Proofs.Ytffgfjnbgplckaa
open Go.RowKit
/-- the text of a block of bytes -/
theorem cv_bytes (l : List Int) (n : Nat) (hl : l.length = n) (w : World) : (convert 96 9 (.slice (some ⟨w.heap.size, 0, none⟩) n n)).run Try.prog (w.alloc (.cells (l.map (Value.int .u8)).toArray 5)) = .ok (.string (strOfNums l)) (w.alloc (.cells (l.map (Value.int .u8)).toArray 5)) := by
  refine run_convert_bytes_arg _ 96 5 Try.underlying96 Try.underlying5 _ 0 n n l hl ?_ 9 Try.underlying9
  intro i hi
  rw [World.cell?_alloc_new]
  simp [List.getElem?_eq_getElem (show i < l.length by omega)]
end Go.Proofs.Ytffgfjnbgplckaa
