import Derived.Test.YtdklpbefbamchaaGreatBD
import Derived.Test.YtdklpbefbamchaaGreatBNd
import Derived.Test.YtdklpbefbamchaaGreatT6
set_option linter.unusedSimpArgs false
set_option linter.unusedVariables false
set_option maxHeartbeats 16000000
set_option maxRecDepth 100000
namespace Go.Proofs.YtdklpbefbamchaaGreat
open Go.RowKit
def Qex (t : Nd) : Bool := Qft t && Qcf t false
def patB (t : Nd) : Bool := Qft t && Qcf t true
theorem expr_any (t : Nd) (cs : List Value) (w : World) (ht : NdC w t cs) : Calls Tryz.prog 102 #[.agg cs.toArray] w fun e w' => e = .returned (.bool (Qex t)) ∧ Below w.heap.size w w' := by
  obtain ⟨a, cap, rfl, hsub, hlen, hnsa⟩ := Qcz ht
  have E := boxes1 w #[.int .i64 t.kind, .int .i64 t.at, .string t.name, .int .i64 t.num, .slice a t.sub.length cap] 68
  have ht2 := ht.later E.2.1
  have HT2 := Lib.hid ht2
  have SM := Lib.hid (small_any t _ _ ht2)
  have HE := Lib.hid E
  have fin : Hid (Qex t = (Qft t && Qcf t false)) := rfl
  clear hsub hlen ht ht2 E
  generalize Qex t = r at *
  cases hs : Qft t with
  | false =>
    rw [hs] at SM fin
    clear hs
    go_enter Tryz.func102, Tryz.ntmps102
    go_wp2_with ((go_at_call 138; refine SM.out.mono ?_; rintro e w1 ⟨rfl, hb1⟩))
    go_ret
    exact ⟨Qah fin.out.symm, HE.out.2.1.trans (hb1.mono HE.out.2.1.size)⟩
  | true =>
    rw [hs] at SM fin
    clear hs
    go_enter Tryz.func102, Tryz.ntmps102
    go_wp2_with (first | (go_at_call 138; refine SM.out.mono ?_; rintro e w1 ⟨rfl, hb1⟩; obtain ⟨d0, d1, d2, d3, d4⟩ := (show Box5 _ _ _ _ _ _ _ _ from HE.out.1).later hb1 (by have := HE.out.2.2; omega) |>.cells; have HB1 := Lib.hid hb1; clear hb1) | (go_at_call 139; refine (good_any t _ _ _ (HT2.out.later HB1.out)).mono ?_; rintro e w2 ⟨rfl, hb2⟩))
    go_ret
    exact ⟨Qah fin.out.symm, HE.out.2.1.trans ((HB1.out.trans (hb2.mono HB1.out.size)).mono HE.out.2.1.size)⟩
end Go.Proofs.YtdklpbefbamchaaGreat
