import Derived.Test.YtffgfjnbgplckaaT10
namespace Go.Proofs.Ytffgfjnbgplckaa
open Go.RowKit
set_option maxRecDepth 100000 in
set_option maxHeartbeats 4000000 in
theorem nodes_walk (t : Nd) (cs : List Value) (w : World) (ht : NdC w t cs) :
    Calls Try.prog 4 #[.agg cs.toArray] w fun e w' => e = .returned (.bool true) ∧ Below w.heap.size w w' := by
  obtain ⟨a, cap, rfl, hsub, hlen, hnsa⟩ := nd_open ht
  have E := boxes1 w #[.int .i64 t.kind, .int .i64 t.at, .string t.name, .int .i64 t.num, .slice a t.sub.length cap] 24
  have HT2 := Lib.hid (ht.later E.2.1)
  have HE := Lib.hid E
  clear hsub hlen ht E
  go_enter Try.func4, Try.ntmps4
  go_wp2_with fail
  refine (of_any t _ _ HT2.out).mono ?_
  rintro e w1 ⟨v1, rfl, hr1, hb1⟩
  obtain ⟨a3, n3, c3, rfl⟩ := hr1.form
  have HR1 := Lib.hid hr1
  have HB1 := Lib.hid (hb1.alloc hb1.size (.cells #[.int .i64 t.kind, .int .i64 t.at, .string t.name, .int .i64 t.num, .slice a3 n3 c3] 27))
  have HT1 : Hid (Box5 27 (w1.alloc (.cells #[.int .i64 t.kind, .int .i64 t.at, .string t.name, .int .i64 t.num, .slice a3 n3 c3] 27)) w1.heap.size (.int .i64 t.kind) (.int .i64 t.at) (.string t.name) (.int .i64 t.num) (.slice a3 n3 c3)) := Box5.new _ _ _ _ _ _ _
  have HA : Hid (Box5 24 (w1.alloc (.cells #[.int .i64 t.kind, .int .i64 t.at, .string t.name, .int .i64 t.num, .slice a3 n3 c3] 27)) w.heap.size (.int .i64 t.kind) (.int .i64 t.at) (.string t.name) (.int .i64 t.num) (.slice a t.sub.length cap)) := (show Box5 _ _ _ _ _ _ _ _ from HE.out.1).later HB1.out (by have := HE.out.2.2; omega)
  have NA : Hid (∀ x : Later (w1.alloc (.cells #[.int .i64 t.kind, .int .i64 t.at, .string t.name, .int .i64 t.num, .slice a3 n3 c3] 27)), NdC x.w t [.int .i64 t.kind, .int .i64 t.at, .string t.name, .int .i64 t.num, .slice a t.sub.length cap]) := fun x => (HT2.out.later HB1.out).later x.b
  have RA : Hid (okN t = true → ∀ x : Later (w1.alloc (.cells #[.int .i64 t.kind, .int .i64 t.at, .string t.name, .int .i64 t.num, .slice a3 n3 c3] 27)), NdC x.w t [.int .i64 t.kind, .int .i64 t.at, .string t.name, .int .i64 t.num, .slice a3 n3 c3]) := fun h x => (of_yes h hnsa ((HR1.out.later ((Below.refl _ _).alloc (Nat.le_refl _) _)))).later x.b
  have FIN : Hid (∀ x : Later (w1.alloc (.cells #[.int .i64 t.kind, .int .i64 t.at, .string t.name, .int .i64 t.num, .slice a3 n3 c3] 27)), Below w.heap.size w x.w) := fun x => (HE.out.2.1.trans (HB1.out.mono HE.out.2.1.size)).trans (x.b.mono (Nat.le_trans HE.out.2.1.size HB1.out.size))
  have CE : Hid (∀ x : Later (w1.alloc (.cells #[.int .i64 t.kind, .int .i64 t.at, .string t.name, .int .i64 t.num, .slice a3 n3 c3] 27)), Calls Try.prog 16 #[.agg #[.int .i64 t.kind, .int .i64 t.at, .string t.name, .int .i64 t.num, .slice a t.sub.length cap]] x.w fun e w'' => e = .returned (.bool (exprB t)) ∧ ∃ y : Later (w1.alloc (.cells #[.int .i64 t.kind, .int .i64 t.at, .string t.name, .int .i64 t.num, .slice a3 n3 c3] 27)), w'' = y.w) := fun x => Calls.later x (expr_any t _ _ (NA.out x))
  have CP : Hid (∀ x : Later (w1.alloc (.cells #[.int .i64 t.kind, .int .i64 t.at, .string t.name, .int .i64 t.num, .slice a3 n3 c3] 27)), Calls Try.prog 17 #[.agg #[.int .i64 t.kind, .int .i64 t.at, .string t.name, .int .i64 t.num, .slice a t.sub.length cap]] x.w fun e w'' => e = .returned (.bool (patB t)) ∧ ∃ y : Later (w1.alloc (.cells #[.int .i64 t.kind, .int .i64 t.at, .string t.name, .int .i64 t.num, .slice a3 n3 c3] 27)), w'' = y.w) := fun x => Calls.later x (pattern_any t _ _ (NA.out x))
  have CS : Hid (∀ x : Later (w1.alloc (.cells #[.int .i64 t.kind, .int .i64 t.at, .string t.name, .int .i64 t.num, .slice a3 n3 c3] 27)), Calls Try.prog 18 #[.agg #[.int .i64 t.kind, .int .i64 t.at, .string t.name, .int .i64 t.num, .slice a t.sub.length cap]] x.w fun e w'' => e = .returned (.int .i64 (sizeT t)) ∧ ∃ y : Later (w1.alloc (.cells #[.int .i64 t.kind, .int .i64 t.at, .string t.name, .int .i64 t.num, .slice a3 n3 c3] 27)), w'' = y.w) := fun x => Calls.later x (size0_any t _ _ (NA.out x))
  have CD : Hid (∀ x : Later (w1.alloc (.cells #[.int .i64 t.kind, .int .i64 t.at, .string t.name, .int .i64 t.num, .slice a3 n3 c3] 27)), Calls Try.prog 19 #[.agg #[.int .i64 t.kind, .int .i64 t.at, .string t.name, .int .i64 t.num, .slice a t.sub.length cap]] x.w fun e w'' => e = .returned (.int .i64 (depthT t)) ∧ ∃ y : Later (w1.alloc (.cells #[.int .i64 t.kind, .int .i64 t.at, .string t.name, .int .i64 t.num, .slice a3 n3 c3] 27)), w'' = y.w) := fun x => Calls.later x (depth_any t _ _ (NA.out x))
  have DE : Hid (okN t = true → ∀ x : Later (w1.alloc (.cells #[.int .i64 t.kind, .int .i64 t.at, .string t.name, .int .i64 t.num, .slice a3 n3 c3] 27)), Calls Try.prog 20 #[.agg #[.int .i64 t.kind, .int .i64 t.at, .string t.name, .int .i64 t.num, .slice a3 n3 c3]] x.w fun e w'' => e = .returned (.bool (exprB t)) ∧ ∃ y : Later (w1.alloc (.cells #[.int .i64 t.kind, .int .i64 t.at, .string t.name, .int .i64 t.num, .slice a3 n3 c3] 27)), w'' = y.w) := fun h x => Calls.later x (rexpr_any t _ _ (RA.out h x))
  have DP : Hid (okN t = true → ∀ x : Later (w1.alloc (.cells #[.int .i64 t.kind, .int .i64 t.at, .string t.name, .int .i64 t.num, .slice a3 n3 c3] 27)), Calls Try.prog 21 #[.agg #[.int .i64 t.kind, .int .i64 t.at, .string t.name, .int .i64 t.num, .slice a3 n3 c3]] x.w fun e w'' => e = .returned (.bool (patB t)) ∧ ∃ y : Later (w1.alloc (.cells #[.int .i64 t.kind, .int .i64 t.at, .string t.name, .int .i64 t.num, .slice a3 n3 c3] 27)), w'' = y.w) := fun h x => Calls.later x (rpattern_any t _ _ (RA.out h x))
  have DS : Hid (okN t = true → ∀ x : Later (w1.alloc (.cells #[.int .i64 t.kind, .int .i64 t.at, .string t.name, .int .i64 t.num, .slice a3 n3 c3] 27)), Calls Try.prog 22 #[.agg #[.int .i64 t.kind, .int .i64 t.at, .string t.name, .int .i64 t.num, .slice a3 n3 c3]] x.w fun e w'' => e = .returned (.int .i64 (sizeT t)) ∧ ∃ y : Later (w1.alloc (.cells #[.int .i64 t.kind, .int .i64 t.at, .string t.name, .int .i64 t.num, .slice a3 n3 c3] 27)), w'' = y.w) := fun h x => Calls.later x (rsize_any t _ _ (RA.out h x))
  have DD : Hid (okN t = true → ∀ x : Later (w1.alloc (.cells #[.int .i64 t.kind, .int .i64 t.at, .string t.name, .int .i64 t.num, .slice a3 n3 c3] 27)), Calls Try.prog 23 #[.agg #[.int .i64 t.kind, .int .i64 t.at, .string t.name, .int .i64 t.num, .slice a3 n3 c3]] x.w fun e w'' => e = .returned (.int .i64 (depthT t)) ∧ ∃ y : Later (w1.alloc (.cells #[.int .i64 t.kind, .int .i64 t.at, .string t.name, .int .i64 t.num, .slice a3 n3 c3] 27)), w'' = y.w) := fun h x => Calls.later x (rdepth_any t _ _ (RA.out h x))
  have AW : Hid (∀ x : Later (w1.alloc (.cells #[.int .i64 t.kind, .int .i64 t.at, .string t.name, .int .i64 t.num, .slice a3 n3 c3] 27)), Calls Try.prog 14 #[] x.w fun e w'' => e = .returned (.bool true) ∧ ∃ y : Later (w1.alloc (.cells #[.int .i64 t.kind, .int .i64 t.at, .string t.name, .int .i64 t.num, .slice a3 n3 c3] 27)), w'' = y.w) := fun x => Calls.later x (awake_any _)
  have KS : Hid (okN t = false → exprB t = false ∧ patB t = false ∧ sizeT t = 8193 ∧ depthT t = 129) := fun h => ⟨by unfold exprB; rw [ok_small h]; rfl, by unfold patB; rw [ok_small h]; rfl, (ok_big h).1, (ok_big h).2⟩
  clear hr1 hb1 NA RA HR1
  obtain ⟨p0, p1, p2, p3, p4⟩ := HA.out.cells
  obtain ⟨r0, r1, r2, r3, r4⟩ := HT1.out.cells
  generalize exprB t = be at *
  generalize patB t = bp at *
  generalize sizeT t = ns at *
  generalize depthT t = nd at *
  generalize okN t = k1 at *
  have P0 := Later.cell p0
  have P1 := Later.cell p1
  have P2 := Later.cell p2
  have P3 := Later.cell p3
  have P4 := Later.cell p4
  cases k1 with
  | false =>
    obtain ⟨rfl, rfl, rfl, rfl⟩ := KS.out rfl
    go_wp2_with fail
    refine (CE.out ⟨_, Below.refl _ _⟩).mono ?_
    rintro e w3 ⟨rfl, ⟨x3, rfl⟩⟩
    go_wp2_with fail
    refine (CP.out x3).mono ?_
    rintro e w4 ⟨rfl, ⟨x4, rfl⟩⟩
    go_wp2_with fail
    refine (CS.out x4).mono ?_
    rintro e w5 ⟨rfl, ⟨x5, rfl⟩⟩
    go_wp2_with fail
    refine (CD.out x5).mono ?_
    rintro e w6 ⟨rfl, ⟨x6, rfl⟩⟩
    go_wp2_with fail
    refine (AW.out x6).mono ?_
    rintro e w7 ⟨rfl, ⟨x7, rfl⟩⟩
    go_wp2_with fail
    go_ret
    exact ⟨rfl, FIN.out x7⟩
  | true =>
    have CX1 := Lib.hid (DE.out rfl)
    have CX2 := Lib.hid (DP.out rfl)
    have CX3 := Lib.hid (DS.out rfl)
    have CX4 := Lib.hid (DD.out rfl)
    have R0 := Later.cell r0
    have R1 := Later.cell r1
    have R2 := Later.cell r2
    have R3 := Later.cell r3
    have R4 := Later.cell r4
    go_wp2_with fail
    refine wp_region_class (X := Later (w1.alloc (.cells #[.int .i64 t.kind, .int .i64 t.at, .string t.name, .int .i64 t.num, .slice a3 n3 c3] 27))) Later.w (by kernel_rfl) (by kernel_rfl) ⟨(w1.alloc (.cells #[.int .i64 t.kind, .int .i64 t.at, .string t.name, .int .i64 t.num, .slice a3 n3 c3] 27)).drew, (Below.refl _ _).drew⟩ rfl ?_
    repeat (go_big_quiet_step ((first | (with_reducible exact CE.out _) | (with_reducible exact CP.out _) | (with_reducible exact CS.out _) | (with_reducible exact CD.out _) | (with_reducible exact CX1.out _) | (with_reducible exact CX2.out _) | (with_reducible exact CX3.out _) | (with_reducible exact CX4.out _) | (with_reducible exact AW.out _))))
    refine wpQuiet_nil ?_
    intro x
    go_wp2_with fail
    go_ret
    exact ⟨by simp, FIN.out x⟩
end Go.Proofs.Ytffgfjnbgplckaa
