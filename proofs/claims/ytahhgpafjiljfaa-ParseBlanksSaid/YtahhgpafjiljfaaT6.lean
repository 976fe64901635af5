import Derived.Test.YtahhgpafjiljfaaT5
import Derived.Deep.RegionHeld3
namespace Go.Proofs.Ytahhgpafjiljfaa
open Go.RowKit
theorem goodT_mk (k a n : Int) (s : ByteArray) (sub : List Nd) (p : Bool) : goodT (.mk k a s n sub) p = (decide (1 ≤ k ∧ k ≤ 10) && manyB k sub.length && namedB k s && numB k n && (decide (6 ≤ k) == p) && goodL sub (k == 8)) := by
  simp only [goodT, headB, Nd.kind, Nd.name, Nd.num, Nd.sub]; rfl
end Go.Proofs.Ytahhgpafjiljfaa
