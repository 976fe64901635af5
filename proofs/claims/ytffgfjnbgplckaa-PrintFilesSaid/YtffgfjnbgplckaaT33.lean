import Derived.Test.YtffgfjnbgplckaaT32
namespace Go.Proofs.Ytffgfjnbgplckaa
open Go.RowKit
set_option maxRecDepth 100000 in
set_option maxHeartbeats 8000000 in
theorem rsamedecl_any (S S' : Nat → Prop) (d e : Dc) (cs ds : List Value) (w : World) (hd : Rep S w d cs) (he : Rep S' w e ds) : Calls Try.prog 34 #[.agg cs.toArray, .agg ds.toArray] w fun e' w' => e' = .returned (.bool (declEq d e)) ∧ Below w.heap.size w w' := by
  obtain ⟨dk, da, dn, dt, ⟨bk, ba, bn, bm, bs⟩, dc, dr⟩ := d
  obtain ⟨ek, ea, en, et, ⟨fk, fa, fn, fm, fs⟩, ec, er⟩ := e
  obtain ⟨t, v, c, r, rfl, hdn, ht, hbn, hv, hc, hr⟩ := rep_dc.1 hd
  obtain ⟨t2, v2, c2, r2, rfl, hdn2, ht2, hbn2, hv2, hc2, hr2⟩ := rep_dc.1 he
  simp only [Nd.kind, Nd.at, Nd.name, Nd.num, Nd.sub] at ht hbn hv hc hr hdn ht2 hbn2 hv2 hc2 hr2 hdn2 ⊢
  obtain ⟨ta, tc, rfl, -, -⟩ := ht.shape
  obtain ⟨va, vc, rfl, -, -⟩ := hv.shape
  obtain ⟨ca, cc, rfl, -, -⟩ := hc.shape
  obtain ⟨ra, rc, rfl, hrl, hrm⟩ := hr.shape
  obtain ⟨ta2, tc2, rfl, -, -⟩ := ht2.shape
  obtain ⟨va2, vc2, rfl, -, -⟩ := hv2.shape
  obtain ⟨ca2, cc2, rfl, -, -⟩ := hc2.shape
  obtain ⟨ra2, rc2, rfl, hrl2, hrm2⟩ := hr2.shape
  have hlr : dr.length ≤ 9223372036854775807 := by unfold maxLen at hrm; omega
  have hlr2 : er.length ≤ 9223372036854775807 := by unfold maxLen at hrm2; omega
  have E := boxes2 w #[.int .i64 dk, .int .i64 da, .string dn, .slice ta dt.length tc, .int .i64 bk, .int .i64 ba, .string bn, .int .i64 bm, .slice va bs.length vc, .slice ca dc.length cc, .slice ra dr.length rc] #[.int .i64 ek, .int .i64 ea, .string en, .slice ta2 et.length tc2, .int .i64 fk, .int .i64 fa, .string fn, .int .i64 fm, .slice va2 fs.length vc2, .slice ca2 ec.length cc2, .slice ra2 er.length rc2] 53 53
  have HT := Lib.hid ht
  have HC := Lib.hid hc
  have HR := Lib.hid hr
  have HT2 := Lib.hid ht2
  have HC2 := Lib.hid hc2
  have HR2 := Lib.hid hr2
  have HB := Lib.hid (Rep.toC _ _ ((rep_nd (t := .mk bk ba bn bm bs)).2 ⟨_, rfl, hbn, hv⟩))
  have HB2 := Lib.hid (Rep.toC _ _ ((rep_nd (t := .mk fk fa fn fm fs)).2 ⟨_, rfl, hbn2, hv2⟩))
  have hbox := fun (y : Later ((w.alloc (.cells #[.int .i64 dk, .int .i64 da, .string dn, .slice ta dt.length tc, .int .i64 bk, .int .i64 ba, .string bn, .int .i64 bm, .slice va bs.length vc, .slice ca dc.length cc, .slice ra dr.length rc] 53)).alloc (.cells #[.int .i64 ek, .int .i64 ea, .string en, .slice ta2 et.length tc2, .int .i64 fk, .int .i64 fa, .string fn, .int .i64 fm, .slice va2 fs.length vc2, .slice ca2 ec.length cc2, .slice ra2 er.length rc2] 53))) (j : Nat) => (cell_at (w := y.w) ((y.b.block w.heap.size (by simp; omega)).trans E.1) j)
  have hbox2 := fun (y : Later ((w.alloc (.cells #[.int .i64 dk, .int .i64 da, .string dn, .slice ta dt.length tc, .int .i64 bk, .int .i64 ba, .string bn, .int .i64 bm, .slice va bs.length vc, .slice ca dc.length cc, .slice ra dr.length rc] 53)).alloc (.cells #[.int .i64 ek, .int .i64 ea, .string en, .slice ta2 et.length tc2, .int .i64 fk, .int .i64 fa, .string fn, .int .i64 fm, .slice va2 fs.length vc2, .slice ca2 ec.length cc2, .slice ra2 er.length rc2] 53))) (j : Nat) => (cell_at (w := y.w) ((y.b.block (w.heap.size + 1) (by simp)).trans E.2.1) j)
  have g0 : ∀ y : Later ((w.alloc (.cells #[.int .i64 dk, .int .i64 da, .string dn, .slice ta dt.length tc, .int .i64 bk, .int .i64 ba, .string bn, .int .i64 bm, .slice va bs.length vc, .slice ca dc.length cc, .slice ra dr.length rc] 53)).alloc (.cells #[.int .i64 ek, .int .i64 ea, .string en, .slice ta2 et.length tc2, .int .i64 fk, .int .i64 fa, .string fn, .int .i64 fm, .slice va2 fs.length vc2, .slice ca2 ec.length cc2, .slice ra2 er.length rc2] 53)), y.w.cell? ⟨w.heap.size, 0, none⟩ = some (.int .i64 dk) := fun y => hbox y 0
  have g2 : ∀ y : Later ((w.alloc (.cells #[.int .i64 dk, .int .i64 da, .string dn, .slice ta dt.length tc, .int .i64 bk, .int .i64 ba, .string bn, .int .i64 bm, .slice va bs.length vc, .slice ca dc.length cc, .slice ra dr.length rc] 53)).alloc (.cells #[.int .i64 ek, .int .i64 ea, .string en, .slice ta2 et.length tc2, .int .i64 fk, .int .i64 fa, .string fn, .int .i64 fm, .slice va2 fs.length vc2, .slice ca2 ec.length cc2, .slice ra2 er.length rc2] 53)), y.w.cell? ⟨w.heap.size, 2, none⟩ = some (.string dn) := fun y => hbox y 2
  have g3 : ∀ y : Later ((w.alloc (.cells #[.int .i64 dk, .int .i64 da, .string dn, .slice ta dt.length tc, .int .i64 bk, .int .i64 ba, .string bn, .int .i64 bm, .slice va bs.length vc, .slice ca dc.length cc, .slice ra dr.length rc] 53)).alloc (.cells #[.int .i64 ek, .int .i64 ea, .string en, .slice ta2 et.length tc2, .int .i64 fk, .int .i64 fa, .string fn, .int .i64 fm, .slice va2 fs.length vc2, .slice ca2 ec.length cc2, .slice ra2 er.length rc2] 53)), y.w.cell? ⟨w.heap.size, 3, none⟩ = some (.slice ta dt.length tc) := fun y => hbox y 3
  have g4 : ∀ y : Later ((w.alloc (.cells #[.int .i64 dk, .int .i64 da, .string dn, .slice ta dt.length tc, .int .i64 bk, .int .i64 ba, .string bn, .int .i64 bm, .slice va bs.length vc, .slice ca dc.length cc, .slice ra dr.length rc] 53)).alloc (.cells #[.int .i64 ek, .int .i64 ea, .string en, .slice ta2 et.length tc2, .int .i64 fk, .int .i64 fa, .string fn, .int .i64 fm, .slice va2 fs.length vc2, .slice ca2 ec.length cc2, .slice ra2 er.length rc2] 53)), y.w.cell? ⟨w.heap.size, 4, none⟩ = some (.int .i64 bk) := fun y => hbox y 4
  have g5 : ∀ y : Later ((w.alloc (.cells #[.int .i64 dk, .int .i64 da, .string dn, .slice ta dt.length tc, .int .i64 bk, .int .i64 ba, .string bn, .int .i64 bm, .slice va bs.length vc, .slice ca dc.length cc, .slice ra dr.length rc] 53)).alloc (.cells #[.int .i64 ek, .int .i64 ea, .string en, .slice ta2 et.length tc2, .int .i64 fk, .int .i64 fa, .string fn, .int .i64 fm, .slice va2 fs.length vc2, .slice ca2 ec.length cc2, .slice ra2 er.length rc2] 53)), y.w.cell? ⟨w.heap.size, 5, none⟩ = some (.int .i64 ba) := fun y => hbox y 5
  have g6 : ∀ y : Later ((w.alloc (.cells #[.int .i64 dk, .int .i64 da, .string dn, .slice ta dt.length tc, .int .i64 bk, .int .i64 ba, .string bn, .int .i64 bm, .slice va bs.length vc, .slice ca dc.length cc, .slice ra dr.length rc] 53)).alloc (.cells #[.int .i64 ek, .int .i64 ea, .string en, .slice ta2 et.length tc2, .int .i64 fk, .int .i64 fa, .string fn, .int .i64 fm, .slice va2 fs.length vc2, .slice ca2 ec.length cc2, .slice ra2 er.length rc2] 53)), y.w.cell? ⟨w.heap.size, 6, none⟩ = some (.string bn) := fun y => hbox y 6
  have g7 : ∀ y : Later ((w.alloc (.cells #[.int .i64 dk, .int .i64 da, .string dn, .slice ta dt.length tc, .int .i64 bk, .int .i64 ba, .string bn, .int .i64 bm, .slice va bs.length vc, .slice ca dc.length cc, .slice ra dr.length rc] 53)).alloc (.cells #[.int .i64 ek, .int .i64 ea, .string en, .slice ta2 et.length tc2, .int .i64 fk, .int .i64 fa, .string fn, .int .i64 fm, .slice va2 fs.length vc2, .slice ca2 ec.length cc2, .slice ra2 er.length rc2] 53)), y.w.cell? ⟨w.heap.size, 7, none⟩ = some (.int .i64 bm) := fun y => hbox y 7
  have g8 : ∀ y : Later ((w.alloc (.cells #[.int .i64 dk, .int .i64 da, .string dn, .slice ta dt.length tc, .int .i64 bk, .int .i64 ba, .string bn, .int .i64 bm, .slice va bs.length vc, .slice ca dc.length cc, .slice ra dr.length rc] 53)).alloc (.cells #[.int .i64 ek, .int .i64 ea, .string en, .slice ta2 et.length tc2, .int .i64 fk, .int .i64 fa, .string fn, .int .i64 fm, .slice va2 fs.length vc2, .slice ca2 ec.length cc2, .slice ra2 er.length rc2] 53)), y.w.cell? ⟨w.heap.size, 8, none⟩ = some (.slice va bs.length vc) := fun y => hbox y 8
  have g9 : ∀ y : Later ((w.alloc (.cells #[.int .i64 dk, .int .i64 da, .string dn, .slice ta dt.length tc, .int .i64 bk, .int .i64 ba, .string bn, .int .i64 bm, .slice va bs.length vc, .slice ca dc.length cc, .slice ra dr.length rc] 53)).alloc (.cells #[.int .i64 ek, .int .i64 ea, .string en, .slice ta2 et.length tc2, .int .i64 fk, .int .i64 fa, .string fn, .int .i64 fm, .slice va2 fs.length vc2, .slice ca2 ec.length cc2, .slice ra2 er.length rc2] 53)), y.w.cell? ⟨w.heap.size, 9, none⟩ = some (.slice ca dc.length cc) := fun y => hbox y 9
  have g10 : ∀ y : Later ((w.alloc (.cells #[.int .i64 dk, .int .i64 da, .string dn, .slice ta dt.length tc, .int .i64 bk, .int .i64 ba, .string bn, .int .i64 bm, .slice va bs.length vc, .slice ca dc.length cc, .slice ra dr.length rc] 53)).alloc (.cells #[.int .i64 ek, .int .i64 ea, .string en, .slice ta2 et.length tc2, .int .i64 fk, .int .i64 fa, .string fn, .int .i64 fm, .slice va2 fs.length vc2, .slice ca2 ec.length cc2, .slice ra2 er.length rc2] 53)), y.w.cell? ⟨w.heap.size, 10, none⟩ = some (.slice ra dr.length rc) := fun y => hbox y 10
  have k0 : ∀ y : Later ((w.alloc (.cells #[.int .i64 dk, .int .i64 da, .string dn, .slice ta dt.length tc, .int .i64 bk, .int .i64 ba, .string bn, .int .i64 bm, .slice va bs.length vc, .slice ca dc.length cc, .slice ra dr.length rc] 53)).alloc (.cells #[.int .i64 ek, .int .i64 ea, .string en, .slice ta2 et.length tc2, .int .i64 fk, .int .i64 fa, .string fn, .int .i64 fm, .slice va2 fs.length vc2, .slice ca2 ec.length cc2, .slice ra2 er.length rc2] 53)), y.w.cell? ⟨w.heap.size + 1, 0, none⟩ = some (.int .i64 ek) := fun y => hbox2 y 0
  have k2 : ∀ y : Later ((w.alloc (.cells #[.int .i64 dk, .int .i64 da, .string dn, .slice ta dt.length tc, .int .i64 bk, .int .i64 ba, .string bn, .int .i64 bm, .slice va bs.length vc, .slice ca dc.length cc, .slice ra dr.length rc] 53)).alloc (.cells #[.int .i64 ek, .int .i64 ea, .string en, .slice ta2 et.length tc2, .int .i64 fk, .int .i64 fa, .string fn, .int .i64 fm, .slice va2 fs.length vc2, .slice ca2 ec.length cc2, .slice ra2 er.length rc2] 53)), y.w.cell? ⟨w.heap.size + 1, 2, none⟩ = some (.string en) := fun y => hbox2 y 2
  have k3 : ∀ y : Later ((w.alloc (.cells #[.int .i64 dk, .int .i64 da, .string dn, .slice ta dt.length tc, .int .i64 bk, .int .i64 ba, .string bn, .int .i64 bm, .slice va bs.length vc, .slice ca dc.length cc, .slice ra dr.length rc] 53)).alloc (.cells #[.int .i64 ek, .int .i64 ea, .string en, .slice ta2 et.length tc2, .int .i64 fk, .int .i64 fa, .string fn, .int .i64 fm, .slice va2 fs.length vc2, .slice ca2 ec.length cc2, .slice ra2 er.length rc2] 53)), y.w.cell? ⟨w.heap.size + 1, 3, none⟩ = some (.slice ta2 et.length tc2) := fun y => hbox2 y 3
  have k4 : ∀ y : Later ((w.alloc (.cells #[.int .i64 dk, .int .i64 da, .string dn, .slice ta dt.length tc, .int .i64 bk, .int .i64 ba, .string bn, .int .i64 bm, .slice va bs.length vc, .slice ca dc.length cc, .slice ra dr.length rc] 53)).alloc (.cells #[.int .i64 ek, .int .i64 ea, .string en, .slice ta2 et.length tc2, .int .i64 fk, .int .i64 fa, .string fn, .int .i64 fm, .slice va2 fs.length vc2, .slice ca2 ec.length cc2, .slice ra2 er.length rc2] 53)), y.w.cell? ⟨w.heap.size + 1, 4, none⟩ = some (.int .i64 fk) := fun y => hbox2 y 4
  have k5 : ∀ y : Later ((w.alloc (.cells #[.int .i64 dk, .int .i64 da, .string dn, .slice ta dt.length tc, .int .i64 bk, .int .i64 ba, .string bn, .int .i64 bm, .slice va bs.length vc, .slice ca dc.length cc, .slice ra dr.length rc] 53)).alloc (.cells #[.int .i64 ek, .int .i64 ea, .string en, .slice ta2 et.length tc2, .int .i64 fk, .int .i64 fa, .string fn, .int .i64 fm, .slice va2 fs.length vc2, .slice ca2 ec.length cc2, .slice ra2 er.length rc2] 53)), y.w.cell? ⟨w.heap.size + 1, 5, none⟩ = some (.int .i64 fa) := fun y => hbox2 y 5
  have k6 : ∀ y : Later ((w.alloc (.cells #[.int .i64 dk, .int .i64 da, .string dn, .slice ta dt.length tc, .int .i64 bk, .int .i64 ba, .string bn, .int .i64 bm, .slice va bs.length vc, .slice ca dc.length cc, .slice ra dr.length rc] 53)).alloc (.cells #[.int .i64 ek, .int .i64 ea, .string en, .slice ta2 et.length tc2, .int .i64 fk, .int .i64 fa, .string fn, .int .i64 fm, .slice va2 fs.length vc2, .slice ca2 ec.length cc2, .slice ra2 er.length rc2] 53)), y.w.cell? ⟨w.heap.size + 1, 6, none⟩ = some (.string fn) := fun y => hbox2 y 6
  have k7 : ∀ y : Later ((w.alloc (.cells #[.int .i64 dk, .int .i64 da, .string dn, .slice ta dt.length tc, .int .i64 bk, .int .i64 ba, .string bn, .int .i64 bm, .slice va bs.length vc, .slice ca dc.length cc, .slice ra dr.length rc] 53)).alloc (.cells #[.int .i64 ek, .int .i64 ea, .string en, .slice ta2 et.length tc2, .int .i64 fk, .int .i64 fa, .string fn, .int .i64 fm, .slice va2 fs.length vc2, .slice ca2 ec.length cc2, .slice ra2 er.length rc2] 53)), y.w.cell? ⟨w.heap.size + 1, 7, none⟩ = some (.int .i64 fm) := fun y => hbox2 y 7
  have k8 : ∀ y : Later ((w.alloc (.cells #[.int .i64 dk, .int .i64 da, .string dn, .slice ta dt.length tc, .int .i64 bk, .int .i64 ba, .string bn, .int .i64 bm, .slice va bs.length vc, .slice ca dc.length cc, .slice ra dr.length rc] 53)).alloc (.cells #[.int .i64 ek, .int .i64 ea, .string en, .slice ta2 et.length tc2, .int .i64 fk, .int .i64 fa, .string fn, .int .i64 fm, .slice va2 fs.length vc2, .slice ca2 ec.length cc2, .slice ra2 er.length rc2] 53)), y.w.cell? ⟨w.heap.size + 1, 8, none⟩ = some (.slice va2 fs.length vc2) := fun y => hbox2 y 8
  have k9 : ∀ y : Later ((w.alloc (.cells #[.int .i64 dk, .int .i64 da, .string dn, .slice ta dt.length tc, .int .i64 bk, .int .i64 ba, .string bn, .int .i64 bm, .slice va bs.length vc, .slice ca dc.length cc, .slice ra dr.length rc] 53)).alloc (.cells #[.int .i64 ek, .int .i64 ea, .string en, .slice ta2 et.length tc2, .int .i64 fk, .int .i64 fa, .string fn, .int .i64 fm, .slice va2 fs.length vc2, .slice ca2 ec.length cc2, .slice ra2 er.length rc2] 53)), y.w.cell? ⟨w.heap.size + 1, 9, none⟩ = some (.slice ca2 ec.length cc2) := fun y => hbox2 y 9
  have k10 : ∀ y : Later ((w.alloc (.cells #[.int .i64 dk, .int .i64 da, .string dn, .slice ta dt.length tc, .int .i64 bk, .int .i64 ba, .string bn, .int .i64 bm, .slice va bs.length vc, .slice ca dc.length cc, .slice ra dr.length rc] 53)).alloc (.cells #[.int .i64 ek, .int .i64 ea, .string en, .slice ta2 et.length tc2, .int .i64 fk, .int .i64 fa, .string fn, .int .i64 fm, .slice va2 fs.length vc2, .slice ca2 ec.length cc2, .slice ra2 er.length rc2] 53)), y.w.cell? ⟨w.heap.size + 1, 10, none⟩ = some (.slice ra2 er.length rc2) := fun y => hbox2 y 10
  have FIN : Hid (∀ y : Later ((w.alloc (.cells #[.int .i64 dk, .int .i64 da, .string dn, .slice ta dt.length tc, .int .i64 bk, .int .i64 ba, .string bn, .int .i64 bm, .slice va bs.length vc, .slice ca dc.length cc, .slice ra dr.length rc] 53)).alloc (.cells #[.int .i64 ek, .int .i64 ea, .string en, .slice ta2 et.length tc2, .int .i64 fk, .int .i64 fa, .string fn, .int .i64 fm, .slice va2 fs.length vc2, .slice ca2 ec.length cc2, .slice ra2 er.length rc2] 53)), Below w.heap.size w y.w) := fun y => E.2.2.1.trans (y.b.mono E.2.2.1.size)
  have Y0 : Hid (Below ((w.alloc (.cells #[.int .i64 dk, .int .i64 da, .string dn, .slice ta dt.length tc, .int .i64 bk, .int .i64 ba, .string bn, .int .i64 bm, .slice va bs.length vc, .slice ca dc.length cc, .slice ra dr.length rc] 53)).alloc (.cells #[.int .i64 ek, .int .i64 ea, .string en, .slice ta2 et.length tc2, .int .i64 fk, .int .i64 fa, .string fn, .int .i64 fm, .slice va2 fs.length vc2, .slice ca2 ec.length cc2, .slice ra2 er.length rc2] 53)).heap.size ((w.alloc (.cells #[.int .i64 dk, .int .i64 da, .string dn, .slice ta dt.length tc, .int .i64 bk, .int .i64 ba, .string bn, .int .i64 bm, .slice va bs.length vc, .slice ca dc.length cc, .slice ra dr.length rc] 53)).alloc (.cells #[.int .i64 ek, .int .i64 ea, .string en, .slice ta2 et.length tc2, .int .i64 fk, .int .i64 fa, .string fn, .int .i64 fm, .slice va2 fs.length vc2, .slice ca2 ec.length cc2, .slice ra2 er.length rc2] 53)) ((w.alloc (.cells #[.int .i64 dk, .int .i64 da, .string dn, .slice ta dt.length tc, .int .i64 bk, .int .i64 ba, .string bn, .int .i64 bm, .slice va bs.length vc, .slice ca dc.length cc, .slice ra dr.length rc] 53)).alloc (.cells #[.int .i64 ek, .int .i64 ea, .string en, .slice ta2 et.length tc2, .int .i64 fk, .int .i64 fa, .string fn, .int .i64 fm, .slice va2 fs.length vc2, .slice ca2 ec.length cc2, .slice ra2 er.length rc2] 53))) := Below.refl _ _
  have HRES : Hid (declEq ⟨dk, da, dn, dt, .mk bk ba bn bm bs, dc, dr⟩ ⟨ek, ea, en, et, .mk fk fa fn fm fs, ec, er⟩ = ((dk == ek) && (dn.toList == en.toList) && sameB (.mk bk ba bn bm bs) (.mk fk fa fn fm fs) && eqA bindEq dt et && eqA bindEq dc ec && eqA rowEq dr er)) := rfl
  have C1 : Hid (∀ y : Later ((w.alloc (.cells #[.int .i64 dk, .int .i64 da, .string dn, .slice ta dt.length tc, .int .i64 bk, .int .i64 ba, .string bn, .int .i64 bm, .slice va bs.length vc, .slice ca dc.length cc, .slice ra dr.length rc] 53)).alloc (.cells #[.int .i64 ek, .int .i64 ea, .string en, .slice ta2 et.length tc2, .int .i64 fk, .int .i64 fa, .string fn, .int .i64 fm, .slice va2 fs.length vc2, .slice ca2 ec.length cc2, .slice ra2 er.length rc2] 53)), Calls Try.prog 15 #[.agg #[.int .i64 bk, .int .i64 ba, .string bn, .int .i64 bm, .slice va bs.length vc], .agg #[.int .i64 fk, .int .i64 fa, .string fn, .int .i64 fm, .slice va2 fs.length vc2]] y.w fun e w'' => e = .returned (.bool (sameB (.mk bk ba bn bm bs) (.mk fk fa fn fm fs))) ∧ ∃ z : Later ((w.alloc (.cells #[.int .i64 dk, .int .i64 da, .string dn, .slice ta dt.length tc, .int .i64 bk, .int .i64 ba, .string bn, .int .i64 bm, .slice va bs.length vc, .slice ca dc.length cc, .slice ra dr.length rc] 53)).alloc (.cells #[.int .i64 ek, .int .i64 ea, .string en, .slice ta2 et.length tc2, .int .i64 fk, .int .i64 fa, .string fn, .int .i64 fm, .slice va2 fs.length vc2, .slice ca2 ec.length cc2, .slice ra2 er.length rc2] 53)), w'' = z.w) := fun y => Calls.later y (rsame_any _ _ _ _ _ (HB.out.later (FIN.out y)) (HB2.out.later (FIN.out y)))
  have C2 : Hid (∀ y : Later ((w.alloc (.cells #[.int .i64 dk, .int .i64 da, .string dn, .slice ta dt.length tc, .int .i64 bk, .int .i64 ba, .string bn, .int .i64 bm, .slice va bs.length vc, .slice ca dc.length cc, .slice ra dr.length rc] 53)).alloc (.cells #[.int .i64 ek, .int .i64 ea, .string en, .slice ta2 et.length tc2, .int .i64 fk, .int .i64 fa, .string fn, .int .i64 fm, .slice va2 fs.length vc2, .slice ca2 ec.length cc2, .slice ra2 er.length rc2] 53)), Calls Try.prog 67 #[.slice ta dt.length tc, .slice ta2 et.length tc2] y.w fun e w'' => e = .returned (.bool (eqA bindEq dt et)) ∧ ∃ z : Later ((w.alloc (.cells #[.int .i64 dk, .int .i64 da, .string dn, .slice ta dt.length tc, .int .i64 bk, .int .i64 ba, .string bn, .int .i64 bm, .slice va bs.length vc, .slice ca dc.length cc, .slice ra dr.length rc] 53)).alloc (.cells #[.int .i64 ek, .int .i64 ea, .string en, .slice ta2 et.length tc2, .int .i64 fk, .int .i64 fa, .string fn, .int .i64 fm, .slice va2 fs.length vc2, .slice ca2 ec.length cc2, .slice ra2 er.length rc2] 53)), w'' = z.w) := fun y => Calls.later y (rsamebinds_any S S' _ _ _ _ _ (HT.out.later (FIN.out y)) (HT2.out.later (FIN.out y)))
  have C3 : Hid (∀ y : Later ((w.alloc (.cells #[.int .i64 dk, .int .i64 da, .string dn, .slice ta dt.length tc, .int .i64 bk, .int .i64 ba, .string bn, .int .i64 bm, .slice va bs.length vc, .slice ca dc.length cc, .slice ra dr.length rc] 53)).alloc (.cells #[.int .i64 ek, .int .i64 ea, .string en, .slice ta2 et.length tc2, .int .i64 fk, .int .i64 fa, .string fn, .int .i64 fm, .slice va2 fs.length vc2, .slice ca2 ec.length cc2, .slice ra2 er.length rc2] 53)), Calls Try.prog 67 #[.slice ca dc.length cc, .slice ca2 ec.length cc2] y.w fun e w'' => e = .returned (.bool (eqA bindEq dc ec)) ∧ ∃ z : Later ((w.alloc (.cells #[.int .i64 dk, .int .i64 da, .string dn, .slice ta dt.length tc, .int .i64 bk, .int .i64 ba, .string bn, .int .i64 bm, .slice va bs.length vc, .slice ca dc.length cc, .slice ra dr.length rc] 53)).alloc (.cells #[.int .i64 ek, .int .i64 ea, .string en, .slice ta2 et.length tc2, .int .i64 fk, .int .i64 fa, .string fn, .int .i64 fm, .slice va2 fs.length vc2, .slice ca2 ec.length cc2, .slice ra2 er.length rc2] 53)), w'' = z.w) := fun y => Calls.later y (rsamebinds_any S S' _ _ _ _ _ (HC.out.later (FIN.out y)) (HC2.out.later (FIN.out y)))
  generalize declEq ⟨dk, da, dn, dt, .mk bk ba bn bm bs, dc, dr⟩ ⟨ek, ea, en, et, .mk fk fa fn fm fs, ec, er⟩ = res at *
  generalize sameB (.mk bk ba bn bm bs) (.mk fk fa fn fm fs) = b1 at *
  generalize eqA bindEq dt et = b2 at *
  generalize eqA bindEq dc ec = b3 at *
  clear hd he ht hv hc hr ht2 hv2 hc2 hr2 hbn hdn hbn2 hdn2 hrm hrm2 hrl hrl2 E hbox hbox2 HB HB2 HT HC HT2 HC2
  cases q1 : (dk == ek) with
  | false =>
    have n1 : (dk != ek) = true := by unfold bne; rw [q1]; rfl
    have fin : Hid (res = false) := by show _ = _; rw [HRES.out]; rw [q1]; rfl
    clear HRES
    go_enter Try.func34, Try.ntmps34
    go_wp2_with fail
    go_ret
    exact ⟨ret_bool fin.out.symm, FIN.out ⟨_, Y0.out⟩⟩
  | true =>
  have n1 : (dk != ek) = false := by unfold bne; rw [q1]; rfl
  cases q2 : (dn.toList == en.toList) with
  | false =>
    have n2 : (dn.toList != en.toList) = true := by unfold bne; rw [q2]; rfl
    have fin : Hid (res = false) := by show _ = _; rw [HRES.out]; rw [q2]; simp
    clear HRES
    go_enter Try.func34, Try.ntmps34
    go_wp2_with fail
    go_ret
    exact ⟨ret_bool fin.out.symm, FIN.out ⟨_, Y0.out⟩⟩
  | true =>
  have n2 : (dn.toList != en.toList) = false := by unfold bne; rw [q2]; rfl
  cases b1 with
  | false =>
    have fin : Hid (res = false) := by show _ = _; rw [HRES.out]; simp
    clear HRES
    go_enter Try.func34, Try.ntmps34
    go_wp2_with fail
    refine (C1.out ⟨_, Y0.out⟩).mono ?_
    rintro e w2 ⟨rfl, ⟨y2, rfl⟩⟩
    go_wp2_with fail
    go_ret
    exact ⟨ret_bool fin.out.symm, FIN.out y2⟩
  | true =>
  cases b2 with
  | false =>
    have fin : Hid (res = false) := by show _ = _; rw [HRES.out]; simp
    clear HRES
    go_enter Try.func34, Try.ntmps34
    go_wp2_with fail
    refine (C1.out ⟨_, Y0.out⟩).mono ?_
    rintro e w2 ⟨rfl, ⟨y2, rfl⟩⟩
    go_wp2_with fail
    refine (C2.out y2).mono ?_
    rintro e w3 ⟨rfl, ⟨y3, rfl⟩⟩
    go_wp2_with fail
    go_ret
    exact ⟨ret_bool fin.out.symm, FIN.out y3⟩
  | true =>
  cases b3 with
  | false =>
    have fin : Hid (res = false) := by show _ = _; rw [HRES.out]; simp
    clear HRES
    go_enter Try.func34, Try.ntmps34
    go_wp2_with fail
    refine (C1.out ⟨_, Y0.out⟩).mono ?_
    rintro e w2 ⟨rfl, ⟨y2, rfl⟩⟩
    go_wp2_with fail
    refine (C2.out y2).mono ?_
    rintro e w3 ⟨rfl, ⟨y3, rfl⟩⟩
    go_wp2_with fail
    refine (C3.out y3).mono ?_
    rintro e w4 ⟨rfl, ⟨y4, rfl⟩⟩
    go_wp2_with fail
    go_ret
    exact ⟨ret_bool fin.out.symm, FIN.out y4⟩
  | true =>
  by_cases hlen : (dr.length : Int) = er.length
  rotate_left
  · have m1 : ((dr.length : Int) == er.length) = false := by simpa using hlen
    have m2 : ((dr.length : Int) != er.length) = true := by simpa using hlen
    have fin : Hid (res = false) := by show _ = _; rw [HRES.out]; rw [eqA_len (by omega)]; simp
    clear HRES
    go_enter Try.func34, Try.ntmps34
    go_wp2_with fail
    refine (C1.out ⟨_, Y0.out⟩).mono ?_
    rintro e w2 ⟨rfl, ⟨y2, rfl⟩⟩
    go_wp2_with fail
    refine (C2.out y2).mono ?_
    rintro e w3 ⟨rfl, ⟨y3, rfl⟩⟩
    go_wp2_with fail
    refine (C3.out y3).mono ?_
    rintro e w4 ⟨rfl, ⟨y4, rfl⟩⟩
    go_wp2_with fail
    go_ret
    exact ⟨ret_bool fin.out.symm, FIN.out y4⟩
  have m1 : ((dr.length : Int) == er.length) = true := by simpa using hlen
  have m2 : ((dr.length : Int) != er.length) = false := by rw [hlen]; simp
  have HLEN : Hid (dr.length = er.length) := by show _ = _; omega
  clear hlen
  have HG0 : Hid (eqA rowEq dr er = res) := by show _ = _; rw [HRES.out, q1, q2]; simp
  clear HRES
  go_enter Try.func34, Try.ntmps34
  go_wp2_with fail
  refine (C1.out ⟨_, Y0.out⟩).mono ?_
  rintro e w2 ⟨rfl, ⟨y2, rfl⟩⟩
  go_wp2_with fail
  refine (C2.out y2).mono ?_
  rintro e w3 ⟨rfl, ⟨y3, rfl⟩⟩
  go_wp2_with fail
  refine (C3.out y3).mono ?_
  rintro e w4 ⟨rfl, ⟨y4, rfl⟩⟩
  go_wp2_with fail
  have HY := Lib.hid y4.b
  go_loopw [5] (fun i wr => ∃ (k : Nat) (x : Later ((w.alloc (.cells #[.int .i64 dk, .int .i64 da, .string dn, .slice ta dt.length tc, .int .i64 bk, .int .i64 ba, .string bn, .int .i64 bm, .slice va bs.length vc, .slice ca dc.length cc, .slice ra dr.length rc] 53)).alloc (.cells #[.int .i64 ek, .int .i64 ea, .string en, .slice ta2 et.length tc2, .int .i64 fk, .int .i64 fa, .string fn, .int .i64 fm, .slice va2 fs.length vc2, .slice ca2 ec.length cc2, .slice ra2 er.length rc2] 53))), k ≤ dr.length ∧ i = .int .i64 k ∧ wr = x.w ∧ Hid (eqA rowEq (dr.drop k) (er.drop k) = res)) (fun i _ => dr.length - (intOf i).toNat)
  case atStart => exact ⟨0, ⟨_, HY.out⟩, Nat.zero_le _, rfl, rfl, HG0.out⟩
  case round =>
    obtain ⟨k, x, hk, rfl, rfl, HG⟩ := hrel
    by_cases hlt : k < dr.length
    · have hlt2 : k < er.length := by have := HLEN.out; omega
      obtain ⟨b, off, p0, p1, p2, q0, q1, q2', rfl, e0, e1, e2, e3, e4, e5, e6, e7, hrow⟩ := rw_at (HR.out.later (FIN.out x)) k hlt
      obtain ⟨b', off', s0, s1, s2, t0, t1, t2, rfl, f0, f1, f2, f3, f4, f5, f6, f7, hrow2⟩ := rw_at (HR2.out.later (FIN.out x)) k hlt2
      have hb0 : (0 : Int) ≤ k := by omega
      have hb1 : (k : Int) < dr.length := by omega
      have hb2 : (k : Int) < er.length := by omega
      have hstep : eqA rowEq (dr.drop k) (er.drop k) = (rowEq dr[k] er[k] && eqA rowEq (dr.drop (k + 1)) (er.drop (k + 1))) := by
        rw [List.drop_eq_getElem_cons hlt, List.drop_eq_getElem_cons hlt2]; rfl
      have HG2 : Hid ((rowEq dr[k] er[k] && eqA rowEq (dr.drop (k + 1)) (er.drop (k + 1))) = res) := by show _ = _; rw [← hstep]; exact HG.out
      clear hstep HG
      generalize dr[k] = rk at *
      generalize er[k] = sk at *
      obtain ⟨xa, xp, xh, ⟨x1, x2, x3, x4, x5⟩⟩ := rk
      obtain ⟨ya, yp, yh, ⟨y1, y2, y3, y4', y5⟩⟩ := sk
      dsimp only [Nd.kind, Nd.at, Nd.name, Nd.num, Nd.sub] at e0 e2 e3 e4 e5 e6 f0 f2 f3 f4 f5 f6 hrow hrow2
      obtain ⟨pp, vv, hcs, hxp, hx3, hxv⟩ := rep_rw.1 hrow
      obtain ⟨pp2, vv2, hcs2, hyp, hy3, hyv⟩ := rep_rw.1 hrow2
      simp only [List.cons.injEq, true_and, and_true] at hcs hcs2
      obtain ⟨rfl, -, -, -, -, rfl⟩ := hcs
      obtain ⟨rfl, -, -, -, -, rfl⟩ := hcs2
      dsimp only [Nd.name, Nd.sub] at hxp hx3 hxv hyp hy3 hyv
      obtain ⟨pa, pc, he1, hl1, hl2⟩ := hxp.shape
      obtain ⟨qa, qc, he2, hl3, hl4⟩ := hyp.shape
      simp only [Value.slice.injEq] at he1 he2
      obtain ⟨rfl, rfl, rfl⟩ := he1
      obtain ⟨rfl, rfl, rfl⟩ := he2
      have hxl : xp.length ≤ 9223372036854775807 := by unfold maxLen at hl2; omega
      have hyl : yp.length ≤ 9223372036854775807 := by unfold maxLen at hl4; omega
      have E := boxes2 x.w #[.int .i64 xa, .slice p0 xp.length p2, .bool xh, .int .i64 x1, .int .i64 x2, .string x3, .int .i64 x4, .slice q0 q1 q2'] #[.int .i64 ya, .slice s0 yp.length s2, .bool yh, .int .i64 y1, .int .i64 y2, .string y3, .int .i64 y4', .slice t0 t1 t2] 86 86
      have hbox := fun (y : Later ((x.w.alloc (.cells #[.int .i64 xa, .slice p0 xp.length p2, .bool xh, .int .i64 x1, .int .i64 x2, .string x3, .int .i64 x4, .slice q0 q1 q2'] 86)).alloc (.cells #[.int .i64 ya, .slice s0 yp.length s2, .bool yh, .int .i64 y1, .int .i64 y2, .string y3, .int .i64 y4', .slice t0 t1 t2] 86))) (j : Nat) => (cell_at (w := y.w) ((y.b.block x.w.heap.size (by simp; omega)).trans E.1) j)
      have hbox2 := fun (y : Later ((x.w.alloc (.cells #[.int .i64 xa, .slice p0 xp.length p2, .bool xh, .int .i64 x1, .int .i64 x2, .string x3, .int .i64 x4, .slice q0 q1 q2'] 86)).alloc (.cells #[.int .i64 ya, .slice s0 yp.length s2, .bool yh, .int .i64 y1, .int .i64 y2, .string y3, .int .i64 y4', .slice t0 t1 t2] 86))) (j : Nat) => (cell_at (w := y.w) ((y.b.block (x.w.heap.size + 1) (by simp)).trans E.2.1) j)
      have a1 : ∀ y : Later ((x.w.alloc (.cells #[.int .i64 xa, .slice p0 xp.length p2, .bool xh, .int .i64 x1, .int .i64 x2, .string x3, .int .i64 x4, .slice q0 q1 q2'] 86)).alloc (.cells #[.int .i64 ya, .slice s0 yp.length s2, .bool yh, .int .i64 y1, .int .i64 y2, .string y3, .int .i64 y4', .slice t0 t1 t2] 86)), y.w.cell? ⟨x.w.heap.size, 1, none⟩ = some (.slice p0 xp.length p2) := fun y => hbox y 1
      have c1 : ∀ y : Later ((x.w.alloc (.cells #[.int .i64 xa, .slice p0 xp.length p2, .bool xh, .int .i64 x1, .int .i64 x2, .string x3, .int .i64 x4, .slice q0 q1 q2'] 86)).alloc (.cells #[.int .i64 ya, .slice s0 yp.length s2, .bool yh, .int .i64 y1, .int .i64 y2, .string y3, .int .i64 y4', .slice t0 t1 t2] 86)), y.w.cell? ⟨x.w.heap.size + 1, 1, none⟩ = some (.slice s0 yp.length s2) := fun y => hbox2 y 1
      have FX : Hid (∀ y : Later ((x.w.alloc (.cells #[.int .i64 xa, .slice p0 xp.length p2, .bool xh, .int .i64 x1, .int .i64 x2, .string x3, .int .i64 x4, .slice q0 q1 q2'] 86)).alloc (.cells #[.int .i64 ya, .slice s0 yp.length s2, .bool yh, .int .i64 y1, .int .i64 y2, .string y3, .int .i64 y4', .slice t0 t1 t2] 86)), Below x.w.heap.size x.w y.w) := fun y => E.2.2.1.trans (y.b.mono E.2.2.1.size)
      have FW := Lib.hid (fun (y : Later ((x.w.alloc (.cells #[.int .i64 xa, .slice p0 xp.length p2, .bool xh, .int .i64 x1, .int .i64 x2, .string x3, .int .i64 x4, .slice q0 q1 q2'] 86)).alloc (.cells #[.int .i64 ya, .slice s0 yp.length s2, .bool yh, .int .i64 y1, .int .i64 y2, .string y3, .int .i64 y4', .slice t0 t1 t2] 86))) => x.b.trans ((FX.out y).mono x.b.size))
      have NX := Lib.hid (fun (y : Later ((x.w.alloc (.cells #[.int .i64 xa, .slice p0 xp.length p2, .bool xh, .int .i64 x1, .int .i64 x2, .string x3, .int .i64 x4, .slice q0 q1 q2'] 86)).alloc (.cells #[.int .i64 ya, .slice s0 yp.length s2, .bool yh, .int .i64 y1, .int .i64 y2, .string y3, .int .i64 y4', .slice t0 t1 t2] 86))) => (hxp.later (FX.out y)).toC)
      have NY := Lib.hid (fun (y : Later ((x.w.alloc (.cells #[.int .i64 xa, .slice p0 xp.length p2, .bool xh, .int .i64 x1, .int .i64 x2, .string x3, .int .i64 x4, .slice q0 q1 q2'] 86)).alloc (.cells #[.int .i64 ya, .slice s0 yp.length s2, .bool yh, .int .i64 y1, .int .i64 y2, .string y3, .int .i64 y4', .slice t0 t1 t2] 86))) => (hyp.later (FX.out y)).toC)
      have BX := Rep.toC _ _ ((rep_nd (t := .mk x1 x2 x3 x4 x5)).2 ⟨_, rfl, hx3, hxv⟩)
      have BY := Rep.toC _ _ ((rep_nd (t := .mk y1 y2 y3 y4' y5)).2 ⟨_, rfl, hy3, hyv⟩)
      have CB : Hid (∀ y : Later ((x.w.alloc (.cells #[.int .i64 xa, .slice p0 xp.length p2, .bool xh, .int .i64 x1, .int .i64 x2, .string x3, .int .i64 x4, .slice q0 q1 q2'] 86)).alloc (.cells #[.int .i64 ya, .slice s0 yp.length s2, .bool yh, .int .i64 y1, .int .i64 y2, .string y3, .int .i64 y4', .slice t0 t1 t2] 86)), Calls Try.prog 15 #[.agg #[.int .i64 x1, .int .i64 x2, .string x3, .int .i64 x4, .slice q0 q1 q2'], .agg #[.int .i64 y1, .int .i64 y2, .string y3, .int .i64 y4', .slice t0 t1 t2]] y.w fun e w'' => e = .returned (.bool (sameB (.mk x1 x2 x3 x4 x5) (.mk y1 y2 y3 y4' y5))) ∧ ∃ z : Later ((x.w.alloc (.cells #[.int .i64 xa, .slice p0 xp.length p2, .bool xh, .int .i64 x1, .int .i64 x2, .string x3, .int .i64 x4, .slice q0 q1 q2'] 86)).alloc (.cells #[.int .i64 ya, .slice s0 yp.length s2, .bool yh, .int .i64 y1, .int .i64 y2, .string y3, .int .i64 y4', .slice t0 t1 t2] 86)), w'' = z.w) := fun y => Calls.later y (rsame_any _ _ _ _ _ (BX.later (FX.out y)) (BY.later (FX.out y)))
      have Z0 : Hid (Below ((x.w.alloc (.cells #[.int .i64 xa, .slice p0 xp.length p2, .bool xh, .int .i64 x1, .int .i64 x2, .string x3, .int .i64 x4, .slice q0 q1 q2'] 86)).alloc (.cells #[.int .i64 ya, .slice s0 yp.length s2, .bool yh, .int .i64 y1, .int .i64 y2, .string y3, .int .i64 y4', .slice t0 t1 t2] 86)).heap.size ((x.w.alloc (.cells #[.int .i64 xa, .slice p0 xp.length p2, .bool xh, .int .i64 x1, .int .i64 x2, .string x3, .int .i64 x4, .slice q0 q1 q2'] 86)).alloc (.cells #[.int .i64 ya, .slice s0 yp.length s2, .bool yh, .int .i64 y1, .int .i64 y2, .string y3, .int .i64 y4', .slice t0 t1 t2] 86)) ((x.w.alloc (.cells #[.int .i64 xa, .slice p0 xp.length p2, .bool xh, .int .i64 x1, .int .i64 x2, .string x3, .int .i64 x4, .slice q0 q1 q2'] 86)).alloc (.cells #[.int .i64 ya, .slice s0 yp.length s2, .bool yh, .int .i64 y1, .int .i64 y2, .string y3, .int .i64 y4', .slice t0 t1 t2] 86))) := Below.refl _ _
      have RE : Hid (rowEq ⟨xa, xp, xh, .mk x1 x2 x3 x4 x5⟩ ⟨ya, yp, yh, .mk y1 y2 y3 y4' y5⟩ = ((xh == yh) && sameB (.mk x1 x2 x3 x4 x5) (.mk y1 y2 y3 y4' y5) && eqA sameB xp yp)) := rfl
      generalize rowEq ⟨xa, xp, xh, .mk x1 x2 x3 x4 x5⟩ ⟨ya, yp, yh, .mk y1 y2 y3 y4' y5⟩ = rr at *
      generalize sameB (.mk x1 x2 x3 x4 x5) (.mk y1 y2 y3 y4' y5) = sb at *
      have G10 := g10 x
      have K10 := k10 x
      have mv : ∀ {p : Addr} {v : Value}, x.w.cell? p = some v → (x.w.alloc (.cells #[.int .i64 xa, .slice p0 xp.length p2, .bool xh, .int .i64 x1, .int .i64 x2, .string x3, .int .i64 x4, .slice q0 q1 q2'] 86)).cell? p = some v := fun {p v} h => (((Below.refl x.w.heap.size x.w).alloc (Nat.le_refl _) _).cell (World.block_lt_of_cell? x.w p h)).trans h
      have K10a := mv K10
      have f0a := mv f0
      have f1a := mv f1
      have f2a := mv f2
      have f3a := mv f3
      have f4a := mv f4
      have f5a := mv f5
      have f6a := mv f6
      have f7a := mv f7
      clear mv f0 f1 f2 f3 f4 f5 f6 f7
      clear hrow hrow2 hxp hyp hx3 hy3 hxv hyv BX BY E hbox hbox2 hl1 hl2 hl3 hl4
      by_cases hh : xh = yh
      rotate_left
      · have n1' : (xh == yh) = false := by cases xh <;> cases yh <;> simp_all
        have n2' : (xh != yh) = true := by cases xh <;> cases yh <;> simp_all
        have fin : Hid (res = false) := by show _ = _; rw [← HG2.out, RE.out, n1']; rfl
        clear HG2 RE
        go_wp2_with fail
        go_ret
        exact ⟨ret_bool fin.out.symm, FIN.out ⟨_, FW.out ⟨_, Z0.out⟩⟩⟩
      subst hh
      by_cases hlen : (xp.length : Int) = yp.length
      rotate_left
      · have l1 : ((xp.length : Int) == yp.length) = false := by simpa using hlen
        have l2 : ((xp.length : Int) != yp.length) = true := by simpa using hlen
        have fin : Hid (res = false) := by show _ = _; rw [← HG2.out, RE.out, eqA_len (show xp.length ≠ yp.length by omega)]; simp
        clear HG2 RE
        go_wp2_with fail
        go_ret
        exact ⟨ret_bool fin.out.symm, FIN.out ⟨_, FW.out ⟨_, Z0.out⟩⟩⟩
      have l1 : ((xp.length : Int) == yp.length) = true := by simpa using hlen
      have l2 : ((xp.length : Int) != yp.length) = false := by rw [hlen]; simp
      have XLEN : Hid (xp.length = yp.length) := by show _ = _; omega
      clear hlen
      cases sb with
      | false =>
        have fin : Hid (res = false) := by show _ = _; rw [← HG2.out, RE.out]; simp
        clear HG2 RE
        go_wp2_with fail
        refine (CB.out ⟨_, Z0.out⟩).mono ?_
        rintro e v2 ⟨rfl, ⟨z2, rfl⟩⟩
        go_wp2_with fail
        go_ret
        exact ⟨ret_bool fin.out.symm, FIN.out ⟨_, FW.out z2⟩⟩
      | true =>
        have HG4 : Hid ((eqA sameB xp yp && eqA rowEq (dr.drop (k + 1)) (er.drop (k + 1))) = res) := by show _ = _; rw [← HG2.out, RE.out]; simp
        clear HG2 RE
        go_wp2_with fail
        refine (CB.out ⟨_, Z0.out⟩).mono ?_
        rintro e v2 ⟨rfl, ⟨z2, rfl⟩⟩
        go_wp2_with fail
        have HZ2 := Lib.hid z2.b
        go_loopw [8] (fun i wr => ∃ (j : Nat) (z : Later ((x.w.alloc (.cells #[.int .i64 xa, .slice p0 xp.length p2, .bool xh, .int .i64 x1, .int .i64 x2, .string x3, .int .i64 x4, .slice q0 q1 q2'] 86)).alloc (.cells #[.int .i64 ya, .slice s0 yp.length s2, .bool xh, .int .i64 y1, .int .i64 y2, .string y3, .int .i64 y4', .slice t0 t1 t2] 86))), j ≤ xp.length ∧ i = .int .i64 j ∧ wr = z.w ∧ Hid ((eqA sameB (xp.drop j) (yp.drop j) && eqA rowEq (dr.drop (k + 1)) (er.drop (k + 1))) = res)) (fun i _ => xp.length - (intOf i).toNat)
        case atStart => exact ⟨0, ⟨_, HZ2.out⟩, Nat.zero_le _, rfl, rfl, HG4.out⟩
        case round =>
          obtain ⟨j, z, hj, rfl, rfl, HJ⟩ := hrel
          by_cases hjt : j < xp.length
          · have hjt2 : j < yp.length := by have := XLEN.out; omega
            obtain ⟨bb, oo, a', cap', rfl, e0, e1, e2, e3, e4, hts⟩ := sub_at (NX.out z) (Below.refl _ _) j hjt
            obtain ⟨bb2, oo2, a2, cap2, rfl, f0, f1, f2, f3, f4, hus⟩ := sub_at (NY.out z) (Below.refl _ _) j hjt2
            have hb0 : (0 : Int) ≤ j := by omega
            have hb1 : (j : Int) < xp.length := by omega
            have hb2 : (j : Int) < yp.length := by omega
            have hstep : eqA sameB (xp.drop j) (yp.drop j) = (sameB xp[j] yp[j] && eqA sameB (xp.drop (j + 1)) (yp.drop (j + 1))) := by
              rw [List.drop_eq_getElem_cons hjt, List.drop_eq_getElem_cons hjt2]; rfl
            have HJ2 := HJ.out
            rw [hstep] at HJ2
            have C2 : Hid (∀ y : Later z.w, Calls Try.prog 15 #[.agg #[.int .i64 xp[j].kind, .int .i64 xp[j].at, .string xp[j].name, .int .i64 xp[j].num, .slice a' xp[j].sub.length cap'], .agg #[.int .i64 yp[j].kind, .int .i64 yp[j].at, .string yp[j].name, .int .i64 yp[j].num, .slice a2 yp[j].sub.length cap2]] y.w fun e w'' => e = .returned (.bool (sameB xp[j] yp[j])) ∧ ∃ z' : Later z.w, w'' = z'.w) := fun y => Calls.later y (rsame_any _ _ _ _ _ (hts.later y.b) (hus.later y.b))
            have HZ := Lib.hid (fun (y : Later z.w) => z.b.trans (y.b.mono z.b.size))
            have E0 := Later.cell e0
            have E1 := Later.cell e1
            have E2 := Later.cell e2
            have E3 := Later.cell e3
            have E4 := Later.cell e4
            have F0 := Later.cell f0
            have F1 := Later.cell f1
            have F2 := Later.cell f2
            have F3 := Later.cell f3
            have F4 := Later.cell f4
            have A1 := Later.cell (a1 z)
            have C1' := Later.cell (c1 z)
            have X0 : Hid (Below z.w.heap.size z.w z.w.drew) := (Below.refl _ _).drew
            have HJ3 := Lib.hid HJ2
            clear hstep HJ HJ2 hts hus e0 e1 e2 e3 e4 f0 f1 f2 f3 f4
            generalize sameB xp[j] yp[j] = sb at *
            cases sb with
            | false =>
              have fin : Hid (res = false) := by show _ = _; rw [← HJ3.out]; rfl
              clear HJ3
              go_wp2_with fail
              refine wp_region_class (X := Later z.w) Later.w (by kernel_rfl) (by kernel_rfl) ⟨_, X0.out⟩ rfl ?_
              repeat (go_big_quiet_step ((with_reducible exact C2.out _)))
              refine wpQuiet_nil ?_
              intro y
              go_wp2_with fail
              go_ret
              exact ⟨ret_bool fin.out.symm, FIN.out ⟨_, FW.out ⟨_, HZ.out y⟩⟩⟩
            | true =>
              have HJ4 : Hid ((eqA sameB (xp.drop (j + 1)) (yp.drop (j + 1)) && eqA rowEq (dr.drop (k + 1)) (er.drop (k + 1))) = res) := by show _ = _; rw [← HJ3.out]; rfl
              clear HJ3
              go_wp2_with fail
              refine wp_region_class (X := Later z.w) Later.w (by kernel_rfl) (by kernel_rfl) ⟨_, X0.out⟩ rfl ?_
              repeat (go_big_quiet_step ((with_reducible exact C2.out _)))
              refine wpQuiet_nil ?_
              intro y
              go_wp2_with fail
              go_roundw
              case rel => exact ⟨j + 1, ⟨_, HZ.out y⟩, by omega, by go_num, rfl, HJ4⟩
              case measure => simp [intOf]; omega
          · have HG3 : Hid (eqA rowEq (dr.drop (k + 1)) (er.drop (k + 1)) = res) := by
              have := HJ.out
              rw [List.drop_of_length_le (by omega), List.drop_of_length_le (by have := XLEN.out; omega)] at this
              show _ = _; rw [← this]; rfl
            have HW := Lib.hid (FW.out z)
            have HLT := Lib.hid hlt
            go_wp2_with fail
            go_roundw
            case rel => exact ⟨k + 1, ⟨_, HW.out⟩, by have := HLT.out; omega, by go_num, rfl, HG3⟩
            case measure => have := HLT.out; simp [intOf]; omega
    · have fin : Hid (res = true) := by
        have := HG.out
        rw [List.drop_of_length_le (by omega), List.drop_of_length_le (by have := HLEN.out; omega)] at this
        show _ = _; rw [← this]; rfl
      have HX := Lib.hid (FIN.out x)
      go_wp2_with fail
      go_ret
      exact ⟨ret_bool fin.out.symm, HX.out⟩
end Go.Proofs.Ytffgfjnbgplckaa
