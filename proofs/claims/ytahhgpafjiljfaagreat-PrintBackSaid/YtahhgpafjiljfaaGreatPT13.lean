import Derived.Test.YtahhgpafjiljfaaGreatPT8
import Derived.Test.YtahhgpafjiljfaaGreatPQ0
import Derived.Test.YtahhgpafjiljfaaGreatPBD
import Derived.Test.YtahhgpafjiljfaaGreatPBNd
import Derived.Deep.RegionHeld3
set_option linter.unusedSimpArgs false
set_option linter.unusedVariables false
set_option maxHeartbeats 16000000
set_option maxRecDepth 100000
namespace Go.Proofs.YtahhgpafjiljfaaGreat
open Go.RowKit
theorem own_made {α : Type} [Enc α] {S : Nat → Prop} {T : TypeId} {lo : Nat} {w : World} (h : lo ≤ w.heap.size) : Own S T lo (.slice (some ⟨w.heap.size, 0, none⟩) 0 0) ([] : List α) (w.alloc (.cells #[] T)) :=
 ⟨[], World.ownsRow_made w #[] 0 h (Nat.zero_le _) (by simp), by simp only [List.map_nil, RepL]⟩
end Go.Proofs.YtahhgpafjiljfaaGreat
