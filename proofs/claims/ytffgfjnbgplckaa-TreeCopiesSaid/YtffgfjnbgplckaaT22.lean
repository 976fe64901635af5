import Derived.Test.YtffgfjnbgplckaaT21
namespace Go.Proofs.Ytffgfjnbgplckaa
open Go.RowKit
theorem sameB_refl {t : Nd} (h : smallB t = true) : sameB t t = true := by unfold sameB; rw [h, eqT_refl]; rfl
theorem depth_not {t : Nd} (h : smallB t = false) : 128 < depthT t := by have := of_decide_eq_false h; omega
theorem depth_yes {t : Nd} (h : smallB t = true) : depthT t ≤ 128 := of_decide_eq_true h
set_option maxRecDepth 100000 in
set_option maxHeartbeats 8000000 in
theorem copies_walk (t : Nd) (cs : List Value) (w : World) (ht : NdC w t cs) :
    Calls Try.prog 6 #[.agg cs.toArray] w fun e w' => e = .returned (.bool true) ∧ Below w.heap.size w w' := by
  obtain ⟨a, cap, rfl, hsub, hlen, hnsa⟩ := nd_open ht
  have E := boxes1 w #[.int .i64 t.kind, .int .i64 t.at, .string t.name, .int .i64 t.num, .slice a t.sub.length cap] 24
  have HT2 := Lib.hid (ht.later E.2.1)
  have HE := Lib.hid E
  clear hsub hlen ht E
  go_enter Try.func6, Try.ntmps6
  go_wp2_with fail
  refine (of_any t _ _ HT2.out).mono ?_
  rintro e w1 ⟨v1, rfl, hr1, hb1⟩
  obtain ⟨a3, n3, c3, rfl⟩ := hr1.form
  have HR1 := Lib.hid hr1
  have HB1 := Lib.hid (hb1.alloc hb1.size (.cells #[.int .i64 t.kind, .int .i64 t.at, .string t.name, .int .i64 t.num, .slice a3 n3 c3] 27))
  have HT1 : Hid (Box5 27 (w1.alloc (.cells #[.int .i64 t.kind, .int .i64 t.at, .string t.name, .int .i64 t.num, .slice a3 n3 c3] 27)) w1.heap.size (.int .i64 t.kind) (.int .i64 t.at) (.string t.name) (.int .i64 t.num) (.slice a3 n3 c3)) := Box5.new _ _ _ _ _ _ _
  have HA : Hid (Box5 24 (w1.alloc (.cells #[.int .i64 t.kind, .int .i64 t.at, .string t.name, .int .i64 t.num, .slice a3 n3 c3] 27)) w.heap.size (.int .i64 t.kind) (.int .i64 t.at) (.string t.name) (.int .i64 t.num) (.slice a t.sub.length cap)) := (show Box5 _ _ _ _ _ _ _ _ from HE.out.1).later HB1.out (by have := HE.out.2.2; omega)
  have NA : Hid (NdC (w1.alloc (.cells #[.int .i64 t.kind, .int .i64 t.at, .string t.name, .int .i64 t.num, .slice a3 n3 c3] 27)) t [.int .i64 t.kind, .int .i64 t.at, .string t.name, .int .i64 t.num, .slice a t.sub.length cap]) := HT2.out.later HB1.out
  have RA : Hid (okN t = true → NdC (w1.alloc (.cells #[.int .i64 t.kind, .int .i64 t.at, .string t.name, .int .i64 t.num, .slice a3 n3 c3] 27)) t [.int .i64 t.kind, .int .i64 t.at, .string t.name, .int .i64 t.num, .slice a3 n3 c3]) := fun h => of_yes h hnsa ((HR1.out.later ((Below.refl _ _).alloc (Nat.le_refl _) _)))
  have HBW : Hid (Below w.heap.size w (w1.alloc (.cells #[.int .i64 t.kind, .int .i64 t.at, .string t.name, .int .i64 t.num, .slice a3 n3 c3] 27))) := HE.out.2.1.trans (HB1.out.mono HE.out.2.1.size)
  have AW : Hid (∀ x : Later (w1.alloc (.cells #[.int .i64 t.kind, .int .i64 t.at, .string t.name, .int .i64 t.num, .slice a3 n3 c3] 27)), Calls Try.prog 14 #[] x.w fun e w'' => e = .returned (.bool true) ∧ ∃ y : Later (w1.alloc (.cells #[.int .i64 t.kind, .int .i64 t.at, .string t.name, .int .i64 t.num, .slice a3 n3 c3] 27)), w'' = y.w) := fun x => Calls.later x (awake_any _)
  obtain ⟨p0, p1, p2, p3, p4⟩ := HA.out.cells
  clear hr1 hb1
  cases hs : smallB t with
  | false =>
    have CN := Lib.hid (copy_no t _ _ hs NA.out)
    go_wp2_with fail
    refine CN.out.mono ?_
    rintro e w2 ⟨rfl, hb2⟩
    have HB2 := Lib.hid (hb2.alloc hb2.size (.cells #[.int .i64 0, .int .i64 0, .string ⟨#[]⟩, .int .i64 0, .slice none 0 0] 24))
    have X0 : Hid (Box5 24 (w2.alloc (.cells #[.int .i64 0, .int .i64 0, .string ⟨#[]⟩, .int .i64 0, .slice none 0 0] 24)) w2.heap.size (.int .i64 0) (.int .i64 0) (.string ⟨#[]⟩) (.int .i64 0) (.slice none 0 0)) := Box5.new _ _ _ _ _ _ _
    obtain ⟨q0, q1, q2, q3, q4⟩ := X0.out.cells
    clear hb2 p0 p1 p2 p3 p4
    cases hk : okN t with
    | false =>
      clear hk hs
      go_wp2_with fail
      refine (AW.out ⟨_, HB2.out⟩).mono ?_
      rintro e w3 ⟨rfl, ⟨x3, rfl⟩⟩
      go_wp2_with fail
      go_ret
      exact ⟨rfl, HBW.out.trans (x3.b.mono HBW.out.size)⟩
    | true =>
      have NR := Lib.hid ((RA.out hk).later HB2.out)
      have HD := depth_not hs
      obtain ⟨r0, r1, r2, r3, r4⟩ := (HT1.out.later HB2.out (by simp)).cells
      clear hk hs
      go_wp2_with fail
      refine (rdepth_any t _ _ NR.out).mono ?_
      rintro e w3 ⟨rfl, hb3⟩
      obtain ⟨s0, s1, s2, s3, s4⟩ := (X0.out.later hb3 (by simp)).cells
      have HB3 := Lib.hid (HB2.out.trans (hb3.mono HB2.out.size))
      clear hb3 q0 q1 q2 q3 q4 r0 r1 r2 r3 r4
      generalize depthT t = dp at *
      go_wp2_with fail
      refine (AW.out ⟨_, HB3.out⟩).mono ?_
      rintro e w4 ⟨rfl, ⟨x4, rfl⟩⟩
      go_wp2_with fail
      go_ret
      exact ⟨rfl, HBW.out.trans (x4.b.mono HBW.out.size)⟩
  | true =>
    have hok : okN t = true := by
      have h1 := small_nd hs
      have h2 := (bud_facts t 1000).2.1
      exact decide_eq_true (by omega)
    have NR := Lib.hid (RA.out hok)
    have HD := depth_yes hs
    have HSM := Lib.hid hs
    have HOK := Lib.hid hok
    clear hs hok
    rw [HOK.out]
    go_wp2_with fail
    refine (copy_yes t _ _ HSM.out NA.out).mono ?_
    rintro e w2 ⟨vc, rfl, hrc, hb2⟩
    obtain ⟨a5, n5, c5, rfl⟩ := hrc.form
    have HRC := Lib.hid hrc
    have HZ2 := Lib.hid hb2.size
    have HB2 := Lib.hid (hb2.alloc hb2.size (.cells #[.int .i64 t.kind, .int .i64 t.at, .string t.name, .int .i64 t.num, .slice a5 n5 c5] 24))
    have X5 : Hid (Box5 24 (w2.alloc (.cells #[.int .i64 t.kind, .int .i64 t.at, .string t.name, .int .i64 t.num, .slice a5 n5 c5] 24)) w2.heap.size (.int .i64 t.kind) (.int .i64 t.at) (.string t.name) (.int .i64 t.num) (.slice a5 n5 c5)) := Box5.new _ _ _ _ _ _ _
    have NC : Hid (NdC (w2.alloc (.cells #[.int .i64 t.kind, .int .i64 t.at, .string t.name, .int .i64 t.num, .slice a5 n5 c5] 24)) t [.int .i64 t.kind, .int .i64 t.at, .string t.name, .int .i64 t.num, .slice a5 n5 c5]) := (Rep.toC _ _ (rep_nd.2 ⟨_, rfl, hnsa, HRC.out⟩)).later ((Below.refl _ _).alloc (Nat.le_refl _) _)
    obtain ⟨r0, r1, r2, r3, r4⟩ := (HT1.out.later HB2.out (by simp)).cells
    clear hrc hb2 p0 p1 p2 p3 p4
    go_wp2_with fail
    refine (rdepth_any t _ _ (NR.out.later HB2.out)).mono ?_
    rintro e w3 ⟨rfl, hb3⟩
    generalize depthT t = dp at *
    have HB3 := Lib.hid (HB2.out.trans (hb3.mono HB2.out.size))
    have HC3 := Lib.hid hb3
    have X53 := Lib.hid (X5.out.later hb3 (by simp))
    obtain ⟨q0, q1, q2, q3, q4⟩ := X53.out.cells
    have NC3 := Lib.hid (NC.out.later hb3)
    clear hb3 r0 r1 r2 r3 r4
    go_wp2_with fail
    refine (copy_yes t _ _ HSM.out NC3.out).mono ?_
    rintro e w4 ⟨vd, rfl, hrd, hb4⟩
    obtain ⟨a6, n6, c6, rfl⟩ := hrd.form
    have HRD := Lib.hid hrd
    have HC4 := Lib.hid hb4
    have HB4 := Lib.hid (HB3.out.trans ((hb4.alloc hb4.size (.cells #[.int .i64 t.kind, .int .i64 t.at, .string t.name, .int .i64 t.num, .slice a6 n6 c6] 24)).mono HB3.out.size))
    have X6 : Hid (Box5 24 (w4.alloc (.cells #[.int .i64 t.kind, .int .i64 t.at, .string t.name, .int .i64 t.num, .slice a6 n6 c6] 24)) w4.heap.size (.int .i64 t.kind) (.int .i64 t.at) (.string t.name) (.int .i64 t.num) (.slice a6 n6 c6)) := Box5.new _ _ _ _ _ _ _
    have HC5 : Hid (Below w2.heap.size w2 (w4.alloc (.cells #[.int .i64 t.kind, .int .i64 t.at, .string t.name, .int .i64 t.num, .slice a6 n6 c6] 24))) := ((Below.refl _ _).alloc (Nat.le_refl _) _).trans ((HC3.out.mono (by simp)).trans ((HC4.out.mono (by have := HC3.out.size; simp at this; omega)).alloc (by have := HC3.out.size; have := HC4.out.size; simp at *; omega) _))
    obtain ⟨q0', q1', q2', q3', q4'⟩ := (X53.out.later (hb4.alloc hb4.size (.cells #[.int .i64 t.kind, .int .i64 t.at, .string t.name, .int .i64 t.num, .slice a6 n6 c6] 24)) X53.out.lt).cells
    clear hrd hb4 q0 q1 q2 q3 q4
    have SH : Hid (ShT (fun b => (w1.alloc (.cells #[.int .i64 t.kind, .int .i64 t.at, .string t.name, .int .i64 t.num, .slice a3 n3 c3] 27)).heap.size ≤ b ∧ b < w2.heap.size ∧ Unf w2 b) (w4.alloc (.cells #[.int .i64 t.kind, .int .i64 t.at, .string t.name, .int .i64 t.num, .slice a6 n6 c6] 24)) t (.slice a5 n5 c5)) :=
      RepS.shape5 _ _ (RepS.move (fun b hb hl => ⟨⟨hb.1, hl, hb.2⟩, HC5.out.block b hl⟩) HRC.out)
    have TU := Lib.hid (turned_any (fun b => (w1.alloc (.cells #[.int .i64 t.kind, .int .i64 t.at, .string t.name, .int .i64 t.num, .slice a3 n3 c3] 27)).heap.size ≤ b ∧ b < w2.heap.size ∧ Unf w2 b) (w1.alloc (.cells #[.int .i64 t.kind, .int .i64 t.at, .string t.name, .int .i64 t.num, .slice a3 n3 c3] 27)).heap.size (fun b h => h.1) t (.slice a5 n5 c5) t.kind t.at t.num t.name (w4.alloc (.cells #[.int .i64 t.kind, .int .i64 t.at, .string t.name, .int .i64 t.num, .slice a6 n6 c6] 24)) SH.out (fun b h => Nat.lt_of_lt_of_le h.2.1 HC5.out.size) (fun b h => unf_block (HC5.out.block b h.2.1) h.2.2) HB4.out.size)
    go_wp2_with fail
    refine TU.out.mono ?_
    rintro e w6 ⟨rfl, htr⟩
    have hz34 : w2.heap.size ≤ w3.heap.size := by have := HC3.out.size; simp at this; omega
    have hz44 := HC4.out.size
    have X66 : Hid (Box5 24 w6 w4.heap.size (.int .i64 t.kind) (.int .i64 t.at) (.string t.name) (.int .i64 t.num) (.slice a6 n6 c6)) := (htr.rest w4.heap.size (by simp) (fun h => by have := h.2.1; omega)).trans X6.out
    have RD : Hid (RepS (fun b => w3.heap.size ≤ b) w6 (.slice a6 n6 c6) t.sub) := RepS.move (fun b hb hl => ⟨hb.1, (htr.rest b (by simp; omega) (fun h => by have := h.2.1; have := hb.1; omega)).trans (Below.heap_alloc _ _ _ hl)⟩) HRD.out
    have HB6 := Lib.hid (HB4.out.trans htr.below)
    have ND := Lib.hid (Rep.toC _ _ (rep_nd.2 ⟨_, rfl, hnsa, RD.out⟩ : Rep (fun b => w3.heap.size ≤ b) w6 t _))
    clear htr q0' q1' q2' q3' q4'
    obtain ⟨q0, q1, q2, q3, q4⟩ := X66.out.cells
    go_wp2_with fail
    refine (of_any t _ _ ND.out).mono ?_
    rintro e w7 ⟨v7, rfl, hr7, hb7⟩
    obtain ⟨a7, n7, c7, rfl⟩ := hr7.form
    have HB7 := Lib.hid (HB6.out.trans ((hb7.alloc hb7.size (.cells #[.int .i64 t.kind, .int .i64 t.at, .string t.name, .int .i64 t.num, .slice a7 n7 c7] 27)).mono HB6.out.size))
    have X7 : Hid (Box5 27 (w7.alloc (.cells #[.int .i64 t.kind, .int .i64 t.at, .string t.name, .int .i64 t.num, .slice a7 n7 c7] 27)) w7.heap.size (.int .i64 t.kind) (.int .i64 t.at) (.string t.name) (.int .i64 t.num) (.slice a7 n7 c7)) := Box5.new _ _ _ _ _ _ _
    have N7 : Hid (NdC (w7.alloc (.cells #[.int .i64 t.kind, .int .i64 t.at, .string t.name, .int .i64 t.num, .slice a7 n7 c7] 27)) t [.int .i64 t.kind, .int .i64 t.at, .string t.name, .int .i64 t.num, .slice a7 n7 c7]) := of_yes HOK.out hnsa (hr7.later ((Below.refl _ _).alloc (Nat.le_refl _) _))
    have X67 := Lib.hid (X66.out.later (hb7.alloc hb7.size (.cells #[.int .i64 t.kind, .int .i64 t.at, .string t.name, .int .i64 t.num, .slice a7 n7 c7] 27)) X66.out.lt)
    clear hr7 hb7 q0 q1 q2 q3 q4
    obtain ⟨r0, r1, r2, r3, r4⟩ := (HT1.out.later HB7.out (by simp)).cells
    obtain ⟨q0, q1, q2, q3, q4⟩ := X7.out.cells
    go_wp2_with fail
    refine (rsame_any t t _ _ _ N7.out (NR.out.later HB7.out)).mono ?_
    rintro e w8 ⟨rfl, hb8⟩
    rw [sameB_refl HSM.out]
    have HB8 := Lib.hid (HB7.out.trans (hb8.mono HB7.out.size))
    obtain ⟨s0, s1, s2, s3, s4⟩ := (X67.out.later hb8 X67.out.lt).cells
    obtain ⟨p0, p1, p2, p3, p4⟩ := (HA.out.later HB8.out (by have := HA.out.lt; exact this)).cells
    clear hb8 q0 q1 q2 q3 q4 r0 r1 r2 r3 r4
    go_wp2_with fail
    refine (AW.out ⟨_, HB8.out⟩).mono ?_
    rintro e w9 ⟨rfl, ⟨x9, rfl⟩⟩
    go_wp2_with fail
    go_ret
    exact ⟨rfl, HBW.out.trans (x9.b.mono HBW.out.size)⟩
end Go.Proofs.Ytffgfjnbgplckaa
