import Derived.Test.YtahhgpafjiljfaaGreatPT3
import Derived.Test.YtahhgpafjiljfaaGreatPT6
import Derived.Test.YtahhgpafjiljfaaGreatPBNd
import Derived.Deep.RegionHeld3
set_option linter.unusedSimpArgs false
set_option linter.unusedVariables false
set_option maxHeartbeats 16000000
set_option maxRecDepth 100000
namespace Go.Proofs.YtahhgpafjiljfaaGreat
open Go.RowKit
def Qbt (t : Nd) : Bool := Qcs t && Qaj t false
def patB (t : Nd) : Bool := Qcs t && Qaj t true
def Qbv (t u : Nd) : Bool := Qcs t && Qcs u && eqT t u
theorem Qkz (t : Nd) (cs : List Value) (w : World) (ht : NdC w t cs) : Calls Tryz.prog 33 #[.agg cs.toArray] w fun e w' => e = .returned (.bool (Qbt t)) ∧ Below w.heap.size w w' := by
  obtain ⟨a, cap, rfl, hsub, hlen, hnsa⟩ := Qcc ht
  have E := Qhx w #[.int .i64 t.kind, .int .i64 t.at, .string t.name, .int .i64 t.num, .slice a t.sub.length cap] 25
  have ht2 := ht.later E.2.1
  have HT2 := Lib.hid ht2
  have SM := Lib.hid (Qix t _ _ ht2)
  have HE := Lib.hid E
  have fin : Hid (Qbt t = (Qcs t && Qaj t false)) := rfl
  clear hsub hlen ht ht2 E
  generalize Qbt t = r at *
  cases hs : Qcs t with
  | false =>
    rw [hs] at SM fin
    clear hs
    go_enter Tryz.func33, Tryz.ntmps33
    go_wp2_with ((go_at_call 36; refine SM.out.mono ?_; rintro e w1 ⟨rfl, hb1⟩))
    go_ret
    exact ⟨Qab fin.out.symm, HE.out.2.1.trans (hb1.mono HE.out.2.1.size)⟩
  | true =>
    rw [hs] at SM fin
    clear hs
    go_enter Tryz.func33, Tryz.ntmps33
    go_wp2_with (first | (go_at_call 36; refine SM.out.mono ?_; rintro e w1 ⟨rfl, hb1⟩; obtain ⟨d0, d1, d2, d3, d4⟩ := (show Box5 _ _ _ _ _ _ _ _ from HE.out.1).later hb1 (by have := HE.out.2.2; omega) |>.cells; have HB1 := Lib.hid hb1; clear hb1) | (go_at_call 58; refine (good_any t _ _ _ (HT2.out.later HB1.out)).mono ?_; rintro e w2 ⟨rfl, hb2⟩))
    go_ret
    exact ⟨Qab fin.out.symm, HE.out.2.1.trans ((HB1.out.trans (hb2.mono HB1.out.size)).mono HE.out.2.1.size)⟩
end Go.Proofs.YtahhgpafjiljfaaGreat
