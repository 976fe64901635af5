import Derived.Test.YtahhgpafjiljfaaT7
namespace Go.Proofs.Ytahhgpafjiljfaa
open Go.RowKit
set_option maxHeartbeats 4000000 in
theorem pattern_any (t : Nd) (cs : List Value) (w : World) (ht : NdC w t cs) : Calls Try.prog 99 #[.agg cs.toArray] w fun e w' => e = .returned (.bool (patB t)) ∧ Below w.heap.size w w' := by
  obtain ⟨a, cap, rfl, hsub, hlen, hnsa⟩ := nd_open ht
  have E := boxes1 w #[.int .i64 t.kind, .int .i64 t.at, .string t.name, .int .i64 t.num, .slice a t.sub.length cap] 31
  have ht2 := ht.later E.2.1
  have HT2 := Lib.hid ht2
  have SM := Lib.hid (small_any t _ _ ht2)
  have HE := Lib.hid E
  have fin : Hid (patB t = (smallB t && goodT t true)) := rfl
  clear hsub hlen ht ht2 E
  generalize patB t = r at *
  cases hs : smallB t with
  | false =>
    rw [hs] at SM fin
    clear hs
    go_enter Try.func99, Try.ntmps99
    go_wp2_with ((go_at_call 71; refine SM.out.mono ?_; rintro e w1 ⟨rfl, hb1⟩))
    go_ret
    exact ⟨ret_bool fin.out.symm, HE.out.2.1.trans (hb1.mono HE.out.2.1.size)⟩
  | true =>
    rw [hs] at SM fin
    clear hs
    go_enter Try.func99, Try.ntmps99
    go_wp2_with (first | (go_at_call 71; refine SM.out.mono ?_; rintro e w1 ⟨rfl, hb1⟩; obtain ⟨d0, d1, d2, d3, d4⟩ := (show Box5 _ _ _ _ _ _ _ _ from HE.out.1).later hb1 (by have := HE.out.2.2; omega) |>.cells; have HB1 := Lib.hid hb1; clear hb1) | (go_at_call 96; refine (good_any t _ _ _ (HT2.out.later HB1.out)).mono ?_; rintro e w2 ⟨rfl, hb2⟩))
    go_ret
    exact ⟨ret_bool fin.out.symm, HE.out.2.1.trans ((HB1.out.trans (hb2.mono HB1.out.size)).mono HE.out.2.1.size)⟩
set_option maxHeartbeats 4000000 in
theorem same_any (t u : Nd) (cs ds : List Value) (w : World) (ht : NdC w t cs) (hu : NdC w u ds) : Calls Try.prog 34 #[.agg cs.toArray, .agg ds.toArray] w fun e w' => e = .returned (.bool (sameB t u)) ∧ Below w.heap.size w w' := by
  obtain ⟨a, cap, rfl, hsub, hlen, hnsa⟩ := nd_open ht
  obtain ⟨a2, cap2, rfl, hsub2, hlen2, hnsa2⟩ := nd_open hu
  have E := boxes2 w #[.int .i64 t.kind, .int .i64 t.at, .string t.name, .int .i64 t.num, .slice a t.sub.length cap] #[.int .i64 u.kind, .int .i64 u.at, .string u.name, .int .i64 u.num, .slice a2 u.sub.length cap2] 31 31
  have ht2 := ht.later E.2.2.1
  have hu2 := hu.later E.2.2.1
  have HT2 := Lib.hid ht2
  have HU2 := Lib.hid hu2
  have HE := Lib.hid E
  have SM1 := Lib.hid (small_any t _ _ ht2)
  have fin : Hid (sameB t u = (smallB t && smallB u && eqT t u)) := rfl
  clear hsub hlen ht ht2 hsub2 hlen2 hu hu2 E
  generalize sameB t u = r at *
  cases hs : smallB t with
  | false =>
    rw [hs] at SM1 fin
    clear hs
    go_enter Try.func34, Try.ntmps34
    go_wp2_with ((go_at_call 71; refine SM1.out.mono ?_; rintro e w1 ⟨rfl, hb1⟩))
    go_ret
    exact ⟨ret_bool fin.out.symm, HE.out.2.2.1.trans (hb1.mono HE.out.2.2.1.size)⟩
  | true =>
    rw [hs] at SM1 fin
    clear hs
    cases hs2 : smallB u with
    | false =>
      rw [hs2] at fin
      go_enter Try.func34, Try.ntmps34
      go_wp2_with fail
      refine SM1.out.mono ?_
      rintro e w1 ⟨rfl, hb1⟩
      obtain ⟨d0, d1, d2, d3, d4⟩ := (show Box5 _ _ _ _ _ _ _ _ from HE.out.2.1).later hb1 (by have := HE.out.2.2.2; omega) |>.cells
      have HB1 := Lib.hid hb1
      have SM2 := small_any u _ _ (HU2.out.later hb1)
      rw [hs2] at SM2
      replace SM2 := Lib.hid SM2
      clear hb1 hs2
      go_wp2_with ((go_at_call 71; refine SM2.out.mono ?_; rintro e w2 ⟨rfl, hb2⟩))
      go_ret
      exact ⟨ret_bool (by rw [fin.out]; rfl), HE.out.2.2.1.trans ((HB1.out.trans (hb2.mono HB1.out.size)).mono HE.out.2.2.1.size)⟩
    | true =>
      rw [hs2] at fin
      go_enter Try.func34, Try.ntmps34
      go_wp2_with fail
      refine SM1.out.mono ?_
      rintro e w1 ⟨rfl, hb1⟩
      obtain ⟨d0, d1, d2, d3, d4⟩ := (show Box5 _ _ _ _ _ _ _ _ from HE.out.2.1).later hb1 (by have := HE.out.2.2.2; omega) |>.cells
      have HB1 := Lib.hid hb1
      have SM2 := small_any u _ _ (HU2.out.later hb1)
      rw [hs2] at SM2
      replace SM2 := Lib.hid SM2
      clear hb1 hs2
      go_wp2_with fail
      refine SM2.out.mono ?_
      rintro e w2 ⟨rfl, hb2⟩
      have hb12 := HB1.out.trans (hb2.mono HB1.out.size)
      clear d0 d1 d2 d3 d4
      obtain ⟨c0, c1, c2, c3, c4⟩ := (show Box5 _ _ _ _ _ _ _ _ from HE.out.1).later hb12 (by have := HE.out.2.2.2; omega) |>.cells
      obtain ⟨d0, d1, d2, d3, d4⟩ := (show Box5 _ _ _ _ _ _ _ _ from HE.out.2.1).later hb12 (by have := HE.out.2.2.2; omega) |>.cells
      have EQ := Lib.hid (equal_any t u _ _ _ (HT2.out.later hb12) (HU2.out.later hb12))
      have HB12 := Lib.hid hb12
      clear hb12 hb2
      go_wp2_with ((go_at_call 72; refine EQ.out.mono ?_; rintro e w3 ⟨rfl, hb3⟩))
      go_ret
      exact ⟨ret_bool (by rw [fin.out]; rfl), HE.out.2.2.1.trans ((HB12.out.trans (hb3.mono HB12.out.size)).mono HE.out.2.2.1.size)⟩
end Go.Proofs.Ytahhgpafjiljfaa
