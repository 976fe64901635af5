import Derived.Test.YtahhgpafjiljfaaOT7
set_option linter.unusedSimpArgs false
set_option linter.unusedVariables false
set_option maxHeartbeats 16000000
set_option maxRecDepth 100000
namespace Go.Proofs.Ytahhgpafjiljfaa
open Go.RowKit
theorem pattern_any (t : Nd) (cs : List Value) (w : World) (ht : NdC w t cs) : Calls Try.prog 99 #[.agg cs.toArray] w fun e w' => e = .returned (.bool (patB t)) ∧ Below w.heap.size w w' := by
  obtain ⟨a, cap, rfl, hsub, hlen, hnsa⟩ := Qev ht
  have E := Qiz w #[.int .i64 t.kind, .int .i64 t.at, .string t.name, .int .i64 t.num, .slice a t.sub.length cap] 31
  have ht2 := ht.later E.2.1
  have HT2 := Lib.hid ht2
  have SM := Lib.hid (small_any t _ _ ht2)
  have HE := Lib.hid E
  have fin : Hid (patB t = (Qey t && Qak t true)) := rfl
  clear hsub hlen ht ht2 E
  generalize patB t = r at *
  cases hs : Qey t with
  | false =>
    rw [hs] at SM fin
    clear hs
    go_enter Try.func99, Try.ntmps99
    go_wp2_with ((go_at_call 71; refine SM.out.mono ?_; rintro e w1 ⟨rfl, hb1⟩))
    go_ret
    exact ⟨Qae fin.out.symm, HE.out.2.1.trans (hb1.mono HE.out.2.1.size)⟩
  | true =>
    rw [hs] at SM fin
    clear hs
    go_enter Try.func99, Try.ntmps99
    go_wp2_with (first | (go_at_call 71; refine SM.out.mono ?_; rintro e w1 ⟨rfl, hb1⟩; obtain ⟨d0, d1, d2, d3, d4⟩ := (show Box5 _ _ _ _ _ _ _ _ from HE.out.1).later hb1 (by have := HE.out.2.2; omega) |>.cells; have HB1 := Lib.hid hb1; clear hb1) | (go_at_call 96; refine (good_any t _ _ _ (HT2.out.later HB1.out)).mono ?_; rintro e w2 ⟨rfl, hb2⟩))
    go_ret
    exact ⟨Qae fin.out.symm, HE.out.2.1.trans ((HB1.out.trans (hb2.mono HB1.out.size)).mono HE.out.2.1.size)⟩
end Go.Proofs.Ytahhgpafjiljfaa
