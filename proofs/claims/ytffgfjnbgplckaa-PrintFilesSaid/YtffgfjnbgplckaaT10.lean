import Derived.Test.YtffgfjnbgplckaaT9
import Derived.Test.YtffgfjnbgplckaaQ0
namespace Go.Proofs.Ytffgfjnbgplckaa
open Go.RowKit
theorem sameB_comm (t u : Nd) : sameB t u = sameB u t := by unfold sameB; rw [eqT_comm t u]; cases smallB t <;> cases smallB u <;> rfl
theorem ok_small {t : Nd} (h : okN t = false) : smallB t = false := by unfold smallB; rw [(ok_big h).2]; rfl
set_option maxRecDepth 100000 in
set_option maxHeartbeats 4000000 in
theorem sames_walk (t : Nd) (cs : List Value) (u : Nd) (ds : List Value) (w : World) (ht : NdC w t cs) (hu : NdC w u ds) :
    Calls Try.prog 3 #[.agg cs.toArray, .agg ds.toArray] w fun e w' => e = .returned (.bool true) ∧ Below w.heap.size w w' := by
  obtain ⟨a, cap, rfl, hsub, hlen, hnsa⟩ := nd_open ht
  obtain ⟨a2, cap2, rfl, hsub2, hlen2, hnsa2⟩ := nd_open hu
  have E := boxes2 w #[.int .i64 t.kind, .int .i64 t.at, .string t.name, .int .i64 t.num, .slice a t.sub.length cap] #[.int .i64 u.kind, .int .i64 u.at, .string u.name, .int .i64 u.num, .slice a2 u.sub.length cap2] 24 24
  have HT2 := Lib.hid (ht.later E.2.2.1)
  have HU2 := Lib.hid (hu.later E.2.2.1)
  have HE := Lib.hid E
  have hcomm := sameB_comm u t
  clear hsub hlen ht hsub2 hlen2 hu E
  go_enter Try.func3, Try.ntmps3
  go_wp2_with fail
  refine (of_any t _ _ HT2.out).mono ?_
  rintro e w1 ⟨v1, rfl, hr1, hb1⟩
  obtain ⟨a3, n3, c3, rfl⟩ := hr1.form
  have HR1 := Lib.hid hr1
  have HB1 := Lib.hid (hb1.alloc hb1.size (.cells #[.int .i64 t.kind, .int .i64 t.at, .string t.name, .int .i64 t.num, .slice a3 n3 c3] 27))
  obtain ⟨d0, d1, d2, d3, d4⟩ := (show Box5 _ _ _ _ _ _ _ _ from HE.out.2.1).later HB1.out (by have := HE.out.2.2.2; omega) |>.cells
  have HT1 : Hid (Box5 27 (w1.alloc (.cells #[.int .i64 t.kind, .int .i64 t.at, .string t.name, .int .i64 t.num, .slice a3 n3 c3] 27)) w1.heap.size (.int .i64 t.kind) (.int .i64 t.at) (.string t.name) (.int .i64 t.num) (.slice a3 n3 c3)) := Box5.new _ _ _ _ _ _ _
  have HS1 := Lib.hid hb1.size
  clear hr1 hb1
  go_wp2_with fail
  refine (of_any u _ _ (HU2.out.later HB1.out)).mono ?_
  rintro e w2 ⟨v2, rfl, hr2, hb2⟩
  obtain ⟨a4, n4, c4, rfl⟩ := hr2.form
  have HR2 := Lib.hid hr2
  have HB2 : Hid (Below (w1.alloc (.cells #[.int .i64 t.kind, .int .i64 t.at, .string t.name, .int .i64 t.num, .slice a3 n3 c3] 27)).heap.size (w1.alloc (.cells #[.int .i64 t.kind, .int .i64 t.at, .string t.name, .int .i64 t.num, .slice a3 n3 c3] 27)) (w2.alloc (.cells #[.int .i64 u.kind, .int .i64 u.at, .string u.name, .int .i64 u.num, .slice a4 n4 c4] 27))) := hb2.alloc hb2.size _
  have HT2' : Hid (Box5 27 (w2.alloc (.cells #[.int .i64 u.kind, .int .i64 u.at, .string u.name, .int .i64 u.num, .slice a4 n4 c4] 27)) w2.heap.size (.int .i64 u.kind) (.int .i64 u.at) (.string u.name) (.int .i64 u.num) (.slice a4 n4 c4)) := Box5.new _ _ _ _ _ _ _
  have HT1' : Hid (Box5 27 (w2.alloc (.cells #[.int .i64 u.kind, .int .i64 u.at, .string u.name, .int .i64 u.num, .slice a4 n4 c4] 27)) w1.heap.size (.int .i64 t.kind) (.int .i64 t.at) (.string t.name) (.int .i64 t.num) (.slice a3 n3 c3)) := HT1.out.later HB2.out (by simp)
  have HBa := Lib.hid (HB1.out.trans (HB2.out.mono HB1.out.size))
  have HA : Hid (Box5 24 (w2.alloc (.cells #[.int .i64 u.kind, .int .i64 u.at, .string u.name, .int .i64 u.num, .slice a4 n4 c4] 27)) w.heap.size (.int .i64 t.kind) (.int .i64 t.at) (.string t.name) (.int .i64 t.num) (.slice a t.sub.length cap)) := (show Box5 _ _ _ _ _ _ _ _ from HE.out.1).later HBa.out (by have := HE.out.2.2.2; omega)
  have HB : Hid (Box5 24 (w2.alloc (.cells #[.int .i64 u.kind, .int .i64 u.at, .string u.name, .int .i64 u.num, .slice a4 n4 c4] 27)) (w.heap.size + 1) (.int .i64 u.kind) (.int .i64 u.at) (.string u.name) (.int .i64 u.num) (.slice a2 u.sub.length cap2)) := (show Box5 _ _ _ _ _ _ _ _ from HE.out.2.1).later HBa.out (by have := HE.out.2.2.2; omega)
  have NA : Hid (∀ x : Later (w2.alloc (.cells #[.int .i64 u.kind, .int .i64 u.at, .string u.name, .int .i64 u.num, .slice a4 n4 c4] 27)), NdC x.w t [.int .i64 t.kind, .int .i64 t.at, .string t.name, .int .i64 t.num, .slice a t.sub.length cap]) := fun x => (HT2.out.later HBa.out).later x.b
  have NB : Hid (∀ x : Later (w2.alloc (.cells #[.int .i64 u.kind, .int .i64 u.at, .string u.name, .int .i64 u.num, .slice a4 n4 c4] 27)), NdC x.w u [.int .i64 u.kind, .int .i64 u.at, .string u.name, .int .i64 u.num, .slice a2 u.sub.length cap2]) := fun x => (HU2.out.later HBa.out).later x.b
  have RA : Hid (okN t = true → ∀ x : Later (w2.alloc (.cells #[.int .i64 u.kind, .int .i64 u.at, .string u.name, .int .i64 u.num, .slice a4 n4 c4] 27)), NdC x.w t [.int .i64 t.kind, .int .i64 t.at, .string t.name, .int .i64 t.num, .slice a3 n3 c3]) := fun h x => (of_yes h hnsa (((HR1.out.later ((Below.refl _ _).alloc (Nat.le_refl _) _)).later HB2.out))).later x.b
  have RB : Hid (okN u = true → ∀ x : Later (w2.alloc (.cells #[.int .i64 u.kind, .int .i64 u.at, .string u.name, .int .i64 u.num, .slice a4 n4 c4] 27)), NdC x.w u [.int .i64 u.kind, .int .i64 u.at, .string u.name, .int .i64 u.num, .slice a4 n4 c4]) := fun h x => (of_yes h hnsa2 (HR2.out.later ((Below.refl _ _).alloc (Nat.le_refl _) _))).later x.b
  have FIN : Hid (∀ x : Later (w2.alloc (.cells #[.int .i64 u.kind, .int .i64 u.at, .string u.name, .int .i64 u.num, .slice a4 n4 c4] 27)), Below w.heap.size w x.w) := fun x => (HE.out.2.2.1.trans (HBa.out.mono HE.out.2.2.1.size)).trans (x.b.mono (Nat.le_trans HE.out.2.2.1.size HBa.out.size))
  have CAB : Hid (∀ x : Later (w2.alloc (.cells #[.int .i64 u.kind, .int .i64 u.at, .string u.name, .int .i64 u.num, .slice a4 n4 c4] 27)), Calls Try.prog 13 #[.agg #[.int .i64 t.kind, .int .i64 t.at, .string t.name, .int .i64 t.num, .slice a t.sub.length cap], .agg #[.int .i64 u.kind, .int .i64 u.at, .string u.name, .int .i64 u.num, .slice a2 u.sub.length cap2]] x.w fun e w'' => e = .returned (.bool (sameB t u)) ∧ ∃ y : Later (w2.alloc (.cells #[.int .i64 u.kind, .int .i64 u.at, .string u.name, .int .i64 u.num, .slice a4 n4 c4] 27)), w'' = y.w) := fun x => Calls.later x (same_any t u _ _ _ (NA.out x) (NB.out x))
  have CBA : Hid (∀ x : Later (w2.alloc (.cells #[.int .i64 u.kind, .int .i64 u.at, .string u.name, .int .i64 u.num, .slice a4 n4 c4] 27)), Calls Try.prog 13 #[.agg #[.int .i64 u.kind, .int .i64 u.at, .string u.name, .int .i64 u.num, .slice a2 u.sub.length cap2], .agg #[.int .i64 t.kind, .int .i64 t.at, .string t.name, .int .i64 t.num, .slice a t.sub.length cap]] x.w fun e w'' => e = .returned (.bool (sameB t u)) ∧ ∃ y : Later (w2.alloc (.cells #[.int .i64 u.kind, .int .i64 u.at, .string u.name, .int .i64 u.num, .slice a4 n4 c4] 27)), w'' = y.w) := fun x => hcomm ▸ Calls.later x (same_any u t _ _ _ (NB.out x) (NA.out x))
  have CXY : Hid (okN t = true → okN u = true → ∀ x : Later (w2.alloc (.cells #[.int .i64 u.kind, .int .i64 u.at, .string u.name, .int .i64 u.num, .slice a4 n4 c4] 27)), Calls Try.prog 15 #[.agg #[.int .i64 t.kind, .int .i64 t.at, .string t.name, .int .i64 t.num, .slice a3 n3 c3], .agg #[.int .i64 u.kind, .int .i64 u.at, .string u.name, .int .i64 u.num, .slice a4 n4 c4]] x.w fun e w'' => e = .returned (.bool (sameB t u)) ∧ ∃ y : Later (w2.alloc (.cells #[.int .i64 u.kind, .int .i64 u.at, .string u.name, .int .i64 u.num, .slice a4 n4 c4] 27)), w'' = y.w) := fun h1 h2 x => Calls.later x (rsame_any t u _ _ _ (RA.out h1 x) (RB.out h2 x))
  have AW : Hid (∀ x : Later (w2.alloc (.cells #[.int .i64 u.kind, .int .i64 u.at, .string u.name, .int .i64 u.num, .slice a4 n4 c4] 27)), Calls Try.prog 14 #[] x.w fun e w'' => e = .returned (.bool true) ∧ ∃ y : Later (w2.alloc (.cells #[.int .i64 u.kind, .int .i64 u.at, .string u.name, .int .i64 u.num, .slice a4 n4 c4] 27)), w'' = y.w) := fun x => Calls.later x (awake_any _)
  have KS : Hid (okN t = false ∨ okN u = false → sameB t u = false) := fun h => by
    unfold sameB
    rcases h with h | h
    · rw [ok_small h]; rfl
    · rw [ok_small h]; simp
  clear hr2 hb2 d0 d1 d2 d3 d4 hcomm NA NB RA RB HR1 HR2
  obtain ⟨p0, p1, p2, p3, p4⟩ := HA.out.cells
  obtain ⟨q0, q1, q2, q3, q4⟩ := HB.out.cells
  obtain ⟨r0, r1, r2, r3, r4⟩ := HT1'.out.cells
  obtain ⟨s0, s1, s2, s3, s4⟩ := HT2'.out.cells
  generalize sameB t u = r at *
  generalize okN t = k1 at *
  generalize okN u = k2 at *
  cases k1 with
  | false =>
    have hr := KS.out (.inl rfl)
    subst hr
    go_wp2_with (first | (go_at_call 13; refine (CAB.out ⟨_, Below.refl _ _⟩).mono ?_; rintro e w3 ⟨rfl, ⟨x3, rfl⟩⟩) | (go_at_call 14; refine (AW.out x3).mono ?_; rintro e w4 ⟨rfl, ⟨x4, rfl⟩⟩))
    go_ret
    exact ⟨rfl, FIN.out x4⟩
  | true =>
    cases k2 with
    | false =>
      have hr := KS.out (.inr rfl)
      subst hr
      go_wp2_with (first | (go_at_call 13; refine (CAB.out ⟨_, Below.refl _ _⟩).mono ?_; rintro e w3 ⟨rfl, ⟨x3, rfl⟩⟩) | (go_at_call 14; refine (AW.out x3).mono ?_; rintro e w4 ⟨rfl, ⟨x4, rfl⟩⟩))
      go_ret
      exact ⟨rfl, FIN.out x4⟩
    | true =>
      have CX := Lib.hid (CXY.out rfl rfl)
      go_wp2_with fail
      refine wp_region_class (X := Later (w2.alloc (.cells #[.int .i64 u.kind, .int .i64 u.at, .string u.name, .int .i64 u.num, .slice a4 n4 c4] 27))) Later.w (by kernel_rfl) (by kernel_rfl) ⟨(w2.alloc (.cells #[.int .i64 u.kind, .int .i64 u.at, .string u.name, .int .i64 u.num, .slice a4 n4 c4] 27)).drew, (Below.refl _ _).drew⟩ rfl ?_
      have P0 := Later.cell p0
      have P1 := Later.cell p1
      have P2 := Later.cell p2
      have P3 := Later.cell p3
      have P4 := Later.cell p4
      have Q0 := Later.cell q0
      have Q1 := Later.cell q1
      have Q2 := Later.cell q2
      have Q3 := Later.cell q3
      have Q4 := Later.cell q4
      have R0 := Later.cell r0
      have R1 := Later.cell r1
      have R2 := Later.cell r2
      have R3 := Later.cell r3
      have R4 := Later.cell r4
      have S0 := Later.cell s0
      have S1 := Later.cell s1
      have S2 := Later.cell s2
      have S3 := Later.cell s3
      have S4 := Later.cell s4
      repeat (go_big_quiet_step ((first | (with_reducible exact CAB.out _) | (with_reducible exact CBA.out _) | (with_reducible exact CX.out _) | (with_reducible exact AW.out _))))
      refine wpQuiet_nil ?_
      intro x
      go_wp2_with fail
      go_ret
      exact ⟨by simp, FIN.out x⟩
end Go.Proofs.Ytffgfjnbgplckaa
