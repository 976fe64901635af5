import Derived.Test.YtahhgpafjiljfaaGreatPT7
set_option linter.unusedSimpArgs false
set_option linter.unusedVariables false
set_option maxHeartbeats 16000000
set_option maxRecDepth 100000
namespace Go.Proofs.YtahhgpafjiljfaaGreat
open Go.RowKit
theorem Qmw (t : Nd) (cs : List Value) (w : World) (ht : NdC w t cs) : Calls Tryz.prog 38 #[.agg cs.toArray] w fun e w' => e = .returned (.bool (patB t)) ∧ Below w.heap.size w w' := by
  obtain ⟨a, cap, rfl, hsub, hlen, hnsa⟩ := Qcc ht
  have E := Qhx w #[.int .i64 t.kind, .int .i64 t.at, .string t.name, .int .i64 t.num, .slice a t.sub.length cap] 25
  have ht2 := ht.later E.2.1
  have HT2 := Lib.hid ht2
  have SM := Lib.hid (Qix t _ _ ht2)
  have HE := Lib.hid E
  have fin : Hid (patB t = (Qcs t && Qaj t true)) := rfl
  clear hsub hlen ht ht2 E
  generalize patB t = r at *
  cases hs : Qcs t with
  | false =>
    rw [hs] at SM fin
    clear hs
    go_enter Tryz.func38, Tryz.ntmps38
    go_wp2_with ((go_at_call 36; refine SM.out.mono ?_; rintro e w1 ⟨rfl, hb1⟩))
    go_ret
    exact ⟨Qab fin.out.symm, HE.out.2.1.trans (hb1.mono HE.out.2.1.size)⟩
  | true =>
    rw [hs] at SM fin
    clear hs
    go_enter Tryz.func38, Tryz.ntmps38
    go_wp2_with (first | (go_at_call 36; refine SM.out.mono ?_; rintro e w1 ⟨rfl, hb1⟩; obtain ⟨d0, d1, d2, d3, d4⟩ := (show Box5 _ _ _ _ _ _ _ _ from HE.out.1).later hb1 (by have := HE.out.2.2; omega) |>.cells; have HB1 := Lib.hid hb1; clear hb1) | (go_at_call 58; refine (good_any t _ _ _ (HT2.out.later HB1.out)).mono ?_; rintro e w2 ⟨rfl, hb2⟩))
    go_ret
    exact ⟨Qab fin.out.symm, HE.out.2.1.trans ((HB1.out.trans (hb2.mono HB1.out.size)).mono HE.out.2.1.size)⟩
theorem Qjv (t u : Nd) (cs ds : List Value) (w : World) (ht : NdC w t cs) (hu : NdC w u ds) : Calls Tryz.prog 14 #[.agg cs.toArray, .agg ds.toArray] w fun e w' => e = .returned (.bool (Qbv t u)) ∧ Below w.heap.size w w' := by
  obtain ⟨a, cap, rfl, hsub, hlen, hnsa⟩ := Qcc ht
  obtain ⟨a2, cap2, rfl, hsub2, hlen2, hnsa2⟩ := Qcc hu
  have E := boxes2 w #[.int .i64 t.kind, .int .i64 t.at, .string t.name, .int .i64 t.num, .slice a t.sub.length cap] #[.int .i64 u.kind, .int .i64 u.at, .string u.name, .int .i64 u.num, .slice a2 u.sub.length cap2] 25 25
  have ht2 := ht.later E.2.2.1
  have hu2 := hu.later E.2.2.1
  have HT2 := Lib.hid ht2
  have HU2 := Lib.hid hu2
  have HE := Lib.hid E
  have SM1 := Lib.hid (Qix t _ _ ht2)
  have fin : Hid (Qbv t u = (Qcs t && Qcs u && eqT t u)) := rfl
  clear hsub hlen ht ht2 hsub2 hlen2 hu hu2 E
  generalize Qbv t u = r at *
  cases hs : Qcs t with
  | false =>
    rw [hs] at SM1 fin
    clear hs
    go_enter Tryz.func14, Tryz.ntmps14
    go_wp2_with ((go_at_call 36; refine SM1.out.mono ?_; rintro e w1 ⟨rfl, hb1⟩))
    go_ret
    exact ⟨Qab fin.out.symm, HE.out.2.2.1.trans (hb1.mono HE.out.2.2.1.size)⟩
  | true =>
    rw [hs] at SM1 fin
    clear hs
    cases hs2 : Qcs u with
    | false =>
      rw [hs2] at fin
      go_enter Tryz.func14, Tryz.ntmps14
      go_wp2_with fail
      refine SM1.out.mono ?_
      rintro e w1 ⟨rfl, hb1⟩
      obtain ⟨d0, d1, d2, d3, d4⟩ := (show Box5 _ _ _ _ _ _ _ _ from HE.out.2.1).later hb1 (by have := HE.out.2.2.2; omega) |>.cells
      have HB1 := Lib.hid hb1
      have SM2 := Qix u _ _ (HU2.out.later hb1)
      rw [hs2] at SM2
      replace SM2 := Lib.hid SM2
      clear hb1 hs2
      go_wp2_with ((go_at_call 36; refine SM2.out.mono ?_; rintro e w2 ⟨rfl, hb2⟩))
      go_ret
      exact ⟨Qab (by rw [fin.out]; rfl), HE.out.2.2.1.trans ((HB1.out.trans (hb2.mono HB1.out.size)).mono HE.out.2.2.1.size)⟩
    | true =>
      rw [hs2] at fin
      go_enter Tryz.func14, Tryz.ntmps14
      go_wp2_with fail
      refine SM1.out.mono ?_
      rintro e w1 ⟨rfl, hb1⟩
      obtain ⟨d0, d1, d2, d3, d4⟩ := (show Box5 _ _ _ _ _ _ _ _ from HE.out.2.1).later hb1 (by have := HE.out.2.2.2; omega) |>.cells
      have HB1 := Lib.hid hb1
      have SM2 := Qix u _ _ (HU2.out.later hb1)
      rw [hs2] at SM2
      replace SM2 := Lib.hid SM2
      clear hb1 hs2
      go_wp2_with fail
      refine SM2.out.mono ?_
      rintro e w2 ⟨rfl, hb2⟩
      have hb12 := HB1.out.trans (hb2.mono HB1.out.size)
      clear d0 d1 d2 d3 d4
      obtain ⟨c0, c1, c2, c3, c4⟩ := (show Box5 _ _ _ _ _ _ _ _ from HE.out.1).later hb12 (by have := HE.out.2.2.2; omega) |>.cells
      obtain ⟨d0, d1, d2, d3, d4⟩ := (show Box5 _ _ _ _ _ _ _ _ from HE.out.2.1).later hb12 (by have := HE.out.2.2.2; omega) |>.cells
      have EQ := Lib.hid (equal_any t u _ _ _ (HT2.out.later hb12) (HU2.out.later hb12))
      have HB12 := Lib.hid hb12
      clear hb12 hb2
      go_wp2_with ((go_at_call 37; refine EQ.out.mono ?_; rintro e w3 ⟨rfl, hb3⟩))
      go_ret
      exact ⟨Qab (by rw [fin.out]; rfl), HE.out.2.2.1.trans ((HB12.out.trans (hb3.mono HB12.out.size)).mono HE.out.2.2.1.size)⟩
end Go.Proofs.YtahhgpafjiljfaaGreat
