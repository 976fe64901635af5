import Derived.Test.YtahhgpafjiljfaaGreatPT31
set_option linter.unusedSimpArgs false
set_option linter.unusedVariables false
set_option maxHeartbeats 16000000
set_option maxRecDepth 100000
namespace Go.Proofs.YtahhgpafjiljfaaGreat
open Go.RowKit
def Qjm (d e : Dc) : Bool := (d.kind == e.kind) && (d.name.toList == e.name.toList) && Qbv d.ty e.ty && eqA Qbz d.tele e.tele && eqA Qbz d.cons e.cons && eqA Qes d.rows e.rows
theorem samedecl_any (S S' : Nat → Prop) (d e : Dc) (cs ds : List Value) (w : World) (hd : Rep S w d cs) (he : Rep S' w e ds) : Calls Tryz.prog 20 #[.agg cs.toArray, .agg ds.toArray] w fun e' w' => e' = .returned (.bool (Qjm d e)) ∧ Below w.heap.size w w' := by
  obtain ⟨dk, da, dn, dt, ⟨bk, ba, bn, bm, bs⟩, dc, dr⟩ := d
  obtain ⟨ek, ea, en, et, ⟨fk, fa, fn, fm, fs⟩, ec, er⟩ := e
  obtain ⟨t, v, c, r, rfl, hdn, ht, hbn, hv, hc, hr⟩ := rep_dc.1 hd
  obtain ⟨t2, v2, c2, r2, rfl, hdn2, ht2, hbn2, hv2, hc2, hr2⟩ := rep_dc.1 he
  simp only [Nd.kind, Nd.at, Nd.name, Nd.num, Nd.sub] at ht hbn hv hc hr hdn ht2 hbn2 hv2 hc2 hr2 hdn2 ⊢
  obtain ⟨ta, tc, rfl, -, -⟩ := ht.shape
  obtain ⟨va, vc, rfl, -, -⟩ := hv.shape
  obtain ⟨ca, cc, rfl, -, -⟩ := hc.shape
  obtain ⟨ra, rc, rfl, hrl, hrm⟩ := hr.shape
  obtain ⟨ta2, tc2, rfl, -, -⟩ := ht2.shape
  obtain ⟨va2, vc2, rfl, -, -⟩ := hv2.shape
  obtain ⟨ca2, cc2, rfl, -, -⟩ := hc2.shape
  obtain ⟨ra2, rc2, rfl, hrl2, hrm2⟩ := hr2.shape
  have hlr : dr.length ≤ 9223372036854775807 := by unfold maxLen at hrm; omega
  have hlr2 : er.length ≤ 9223372036854775807 := by unfold maxLen at hrm2; omega
  have E := boxes2 w #[.int .i64 dk, .int .i64 da, .string dn, .slice ta dt.length tc, .int .i64 bk, .int .i64 ba, .string bn, .int .i64 bm, .slice va bs.length vc, .slice ca dc.length cc, .slice ra dr.length rc] #[.int .i64 ek, .int .i64 ea, .string en, .slice ta2 et.length tc2, .int .i64 fk, .int .i64 fa, .string fn, .int .i64 fm, .slice va2 fs.length vc2, .slice ca2 ec.length cc2, .slice ra2 er.length rc2] 40 40
  have HT := Lib.hid ht
  have HC := Lib.hid hc
  have HR := Lib.hid hr
  have HT2 := Lib.hid ht2
  have HC2 := Lib.hid hc2
  have HR2 := Lib.hid hr2
  have HB := Lib.hid (Rep.toC _ _ ((rep_nd (t := .mk bk ba bn bm bs)).2 ⟨_, rfl, hbn, hv⟩))
  have HB2 := Lib.hid (Rep.toC _ _ ((rep_nd (t := .mk fk fa fn fm fs)).2 ⟨_, rfl, hbn2, hv2⟩))
  have hbox := fun (y : Later ((w.alloc (.cells #[.int .i64 dk, .int .i64 da, .string dn, .slice ta dt.length tc, .int .i64 bk, .int .i64 ba, .string bn, .int .i64 bm, .slice va bs.length vc, .slice ca dc.length cc, .slice ra dr.length rc] 40)).alloc (.cells #[.int .i64 ek, .int .i64 ea, .string en, .slice ta2 et.length tc2, .int .i64 fk, .int .i64 fa, .string fn, .int .i64 fm, .slice va2 fs.length vc2, .slice ca2 ec.length cc2, .slice ra2 er.length rc2] 40))) (j : Nat) => (Qih (w := y.w) ((y.b.block w.heap.size (by simp; omega)).trans E.1) j)
  have hbox2 := fun (y : Later ((w.alloc (.cells #[.int .i64 dk, .int .i64 da, .string dn, .slice ta dt.length tc, .int .i64 bk, .int .i64 ba, .string bn, .int .i64 bm, .slice va bs.length vc, .slice ca dc.length cc, .slice ra dr.length rc] 40)).alloc (.cells #[.int .i64 ek, .int .i64 ea, .string en, .slice ta2 et.length tc2, .int .i64 fk, .int .i64 fa, .string fn, .int .i64 fm, .slice va2 fs.length vc2, .slice ca2 ec.length cc2, .slice ra2 er.length rc2] 40))) (j : Nat) => (Qih (w := y.w) ((y.b.block (w.heap.size + 1) (by simp)).trans E.2.1) j)
  have g0 : ∀ y : Later ((w.alloc (.cells #[.int .i64 dk, .int .i64 da, .string dn, .slice ta dt.length tc, .int .i64 bk, .int .i64 ba, .string bn, .int .i64 bm, .slice va bs.length vc, .slice ca dc.length cc, .slice ra dr.length rc] 40)).alloc (.cells #[.int .i64 ek, .int .i64 ea, .string en, .slice ta2 et.length tc2, .int .i64 fk, .int .i64 fa, .string fn, .int .i64 fm, .slice va2 fs.length vc2, .slice ca2 ec.length cc2, .slice ra2 er.length rc2] 40)), y.w.cell? ⟨w.heap.size, 0, none⟩ = some (.int .i64 dk) := fun y => hbox y 0
  have g2 : ∀ y : Later ((w.alloc (.cells #[.int .i64 dk, .int .i64 da, .string dn, .slice ta dt.length tc, .int .i64 bk, .int .i64 ba, .string bn, .int .i64 bm, .slice va bs.length vc, .slice ca dc.length cc, .slice ra dr.length rc] 40)).alloc (.cells #[.int .i64 ek, .int .i64 ea, .string en, .slice ta2 et.length tc2, .int .i64 fk, .int .i64 fa, .string fn, .int .i64 fm, .slice va2 fs.length vc2, .slice ca2 ec.length cc2, .slice ra2 er.length rc2] 40)), y.w.cell? ⟨w.heap.size, 2, none⟩ = some (.string dn) := fun y => hbox y 2
  have g3 : ∀ y : Later ((w.alloc (.cells #[.int .i64 dk, .int .i64 da, .string dn, .slice ta dt.length tc, .int .i64 bk, .int .i64 ba, .string bn, .int .i64 bm, .slice va bs.length vc, .slice ca dc.length cc, .slice ra dr.length rc] 40)).alloc (.cells #[.int .i64 ek, .int .i64 ea, .string en, .slice ta2 et.length tc2, .int .i64 fk, .int .i64 fa, .string fn, .int .i64 fm, .slice va2 fs.length vc2, .slice ca2 ec.length cc2, .slice ra2 er.length rc2] 40)), y.w.cell? ⟨w.heap.size, 3, none⟩ = some (.slice ta dt.length tc) := fun y => hbox y 3
  have g4 : ∀ y : Later ((w.alloc (.cells #[.int .i64 dk, .int .i64 da, .string dn, .slice ta dt.length tc, .int .i64 bk, .int .i64 ba, .string bn, .int .i64 bm, .slice va bs.length vc, .slice ca dc.length cc, .slice ra dr.length rc] 40)).alloc (.cells #[.int .i64 ek, .int .i64 ea, .string en, .slice ta2 et.length tc2, .int .i64 fk, .int .i64 fa, .string fn, .int .i64 fm, .slice va2 fs.length vc2, .slice ca2 ec.length cc2, .slice ra2 er.length rc2] 40)), y.w.cell? ⟨w.heap.size, 4, none⟩ = some (.int .i64 bk) := fun y => hbox y 4
  have g5 : ∀ y : Later ((w.alloc (.cells #[.int .i64 dk, .int .i64 da, .string dn, .slice ta dt.length tc, .int .i64 bk, .int .i64 ba, .string bn, .int .i64 bm, .slice va bs.length vc, .slice ca dc.length cc, .slice ra dr.length rc] 40)).alloc (.cells #[.int .i64 ek, .int .i64 ea, .string en, .slice ta2 et.length tc2, .int .i64 fk, .int .i64 fa, .string fn, .int .i64 fm, .slice va2 fs.length vc2, .slice ca2 ec.length cc2, .slice ra2 er.length rc2] 40)), y.w.cell? ⟨w.heap.size, 5, none⟩ = some (.int .i64 ba) := fun y => hbox y 5
  have g6 : ∀ y : Later ((w.alloc (.cells #[.int .i64 dk, .int .i64 da, .string dn, .slice ta dt.length tc, .int .i64 bk, .int .i64 ba, .string bn, .int .i64 bm, .slice va bs.length vc, .slice ca dc.length cc, .slice ra dr.length rc] 40)).alloc (.cells #[.int .i64 ek, .int .i64 ea, .string en, .slice ta2 et.length tc2, .int .i64 fk, .int .i64 fa, .string fn, .int .i64 fm, .slice va2 fs.length vc2, .slice ca2 ec.length cc2, .slice ra2 er.length rc2] 40)), y.w.cell? ⟨w.heap.size, 6, none⟩ = some (.string bn) := fun y => hbox y 6
  have g7 : ∀ y : Later ((w.alloc (.cells #[.int .i64 dk, .int .i64 da, .string dn, .slice ta dt.length tc, .int .i64 bk, .int .i64 ba, .string bn, .int .i64 bm, .slice va bs.length vc, .slice ca dc.length cc, .slice ra dr.length rc] 40)).alloc (.cells #[.int .i64 ek, .int .i64 ea, .string en, .slice ta2 et.length tc2, .int .i64 fk, .int .i64 fa, .string fn, .int .i64 fm, .slice va2 fs.length vc2, .slice ca2 ec.length cc2, .slice ra2 er.length rc2] 40)), y.w.cell? ⟨w.heap.size, 7, none⟩ = some (.int .i64 bm) := fun y => hbox y 7
  have g8 : ∀ y : Later ((w.alloc (.cells #[.int .i64 dk, .int .i64 da, .string dn, .slice ta dt.length tc, .int .i64 bk, .int .i64 ba, .string bn, .int .i64 bm, .slice va bs.length vc, .slice ca dc.length cc, .slice ra dr.length rc] 40)).alloc (.cells #[.int .i64 ek, .int .i64 ea, .string en, .slice ta2 et.length tc2, .int .i64 fk, .int .i64 fa, .string fn, .int .i64 fm, .slice va2 fs.length vc2, .slice ca2 ec.length cc2, .slice ra2 er.length rc2] 40)), y.w.cell? ⟨w.heap.size, 8, none⟩ = some (.slice va bs.length vc) := fun y => hbox y 8
  have g9 : ∀ y : Later ((w.alloc (.cells #[.int .i64 dk, .int .i64 da, .string dn, .slice ta dt.length tc, .int .i64 bk, .int .i64 ba, .string bn, .int .i64 bm, .slice va bs.length vc, .slice ca dc.length cc, .slice ra dr.length rc] 40)).alloc (.cells #[.int .i64 ek, .int .i64 ea, .string en, .slice ta2 et.length tc2, .int .i64 fk, .int .i64 fa, .string fn, .int .i64 fm, .slice va2 fs.length vc2, .slice ca2 ec.length cc2, .slice ra2 er.length rc2] 40)), y.w.cell? ⟨w.heap.size, 9, none⟩ = some (.slice ca dc.length cc) := fun y => hbox y 9
  have g10 : ∀ y : Later ((w.alloc (.cells #[.int .i64 dk, .int .i64 da, .string dn, .slice ta dt.length tc, .int .i64 bk, .int .i64 ba, .string bn, .int .i64 bm, .slice va bs.length vc, .slice ca dc.length cc, .slice ra dr.length rc] 40)).alloc (.cells #[.int .i64 ek, .int .i64 ea, .string en, .slice ta2 et.length tc2, .int .i64 fk, .int .i64 fa, .string fn, .int .i64 fm, .slice va2 fs.length vc2, .slice ca2 ec.length cc2, .slice ra2 er.length rc2] 40)), y.w.cell? ⟨w.heap.size, 10, none⟩ = some (.slice ra dr.length rc) := fun y => hbox y 10
  have k0 : ∀ y : Later ((w.alloc (.cells #[.int .i64 dk, .int .i64 da, .string dn, .slice ta dt.length tc, .int .i64 bk, .int .i64 ba, .string bn, .int .i64 bm, .slice va bs.length vc, .slice ca dc.length cc, .slice ra dr.length rc] 40)).alloc (.cells #[.int .i64 ek, .int .i64 ea, .string en, .slice ta2 et.length tc2, .int .i64 fk, .int .i64 fa, .string fn, .int .i64 fm, .slice va2 fs.length vc2, .slice ca2 ec.length cc2, .slice ra2 er.length rc2] 40)), y.w.cell? ⟨w.heap.size + 1, 0, none⟩ = some (.int .i64 ek) := fun y => hbox2 y 0
  have k2 : ∀ y : Later ((w.alloc (.cells #[.int .i64 dk, .int .i64 da, .string dn, .slice ta dt.length tc, .int .i64 bk, .int .i64 ba, .string bn, .int .i64 bm, .slice va bs.length vc, .slice ca dc.length cc, .slice ra dr.length rc] 40)).alloc (.cells #[.int .i64 ek, .int .i64 ea, .string en, .slice ta2 et.length tc2, .int .i64 fk, .int .i64 fa, .string fn, .int .i64 fm, .slice va2 fs.length vc2, .slice ca2 ec.length cc2, .slice ra2 er.length rc2] 40)), y.w.cell? ⟨w.heap.size + 1, 2, none⟩ = some (.string en) := fun y => hbox2 y 2
  have k3 : ∀ y : Later ((w.alloc (.cells #[.int .i64 dk, .int .i64 da, .string dn, .slice ta dt.length tc, .int .i64 bk, .int .i64 ba, .string bn, .int .i64 bm, .slice va bs.length vc, .slice ca dc.length cc, .slice ra dr.length rc] 40)).alloc (.cells #[.int .i64 ek, .int .i64 ea, .string en, .slice ta2 et.length tc2, .int .i64 fk, .int .i64 fa, .string fn, .int .i64 fm, .slice va2 fs.length vc2, .slice ca2 ec.length cc2, .slice ra2 er.length rc2] 40)), y.w.cell? ⟨w.heap.size + 1, 3, none⟩ = some (.slice ta2 et.length tc2) := fun y => hbox2 y 3
  have k4 : ∀ y : Later ((w.alloc (.cells #[.int .i64 dk, .int .i64 da, .string dn, .slice ta dt.length tc, .int .i64 bk, .int .i64 ba, .string bn, .int .i64 bm, .slice va bs.length vc, .slice ca dc.length cc, .slice ra dr.length rc] 40)).alloc (.cells #[.int .i64 ek, .int .i64 ea, .string en, .slice ta2 et.length tc2, .int .i64 fk, .int .i64 fa, .string fn, .int .i64 fm, .slice va2 fs.length vc2, .slice ca2 ec.length cc2, .slice ra2 er.length rc2] 40)), y.w.cell? ⟨w.heap.size + 1, 4, none⟩ = some (.int .i64 fk) := fun y => hbox2 y 4
  have k5 : ∀ y : Later ((w.alloc (.cells #[.int .i64 dk, .int .i64 da, .string dn, .slice ta dt.length tc, .int .i64 bk, .int .i64 ba, .string bn, .int .i64 bm, .slice va bs.length vc, .slice ca dc.length cc, .slice ra dr.length rc] 40)).alloc (.cells #[.int .i64 ek, .int .i64 ea, .string en, .slice ta2 et.length tc2, .int .i64 fk, .int .i64 fa, .string fn, .int .i64 fm, .slice va2 fs.length vc2, .slice ca2 ec.length cc2, .slice ra2 er.length rc2] 40)), y.w.cell? ⟨w.heap.size + 1, 5, none⟩ = some (.int .i64 fa) := fun y => hbox2 y 5
  have k6 : ∀ y : Later ((w.alloc (.cells #[.int .i64 dk, .int .i64 da, .string dn, .slice ta dt.length tc, .int .i64 bk, .int .i64 ba, .string bn, .int .i64 bm, .slice va bs.length vc, .slice ca dc.length cc, .slice ra dr.length rc] 40)).alloc (.cells #[.int .i64 ek, .int .i64 ea, .string en, .slice ta2 et.length tc2, .int .i64 fk, .int .i64 fa, .string fn, .int .i64 fm, .slice va2 fs.length vc2, .slice ca2 ec.length cc2, .slice ra2 er.length rc2] 40)), y.w.cell? ⟨w.heap.size + 1, 6, none⟩ = some (.string fn) := fun y => hbox2 y 6
  have k7 : ∀ y : Later ((w.alloc (.cells #[.int .i64 dk, .int .i64 da, .string dn, .slice ta dt.length tc, .int .i64 bk, .int .i64 ba, .string bn, .int .i64 bm, .slice va bs.length vc, .slice ca dc.length cc, .slice ra dr.length rc] 40)).alloc (.cells #[.int .i64 ek, .int .i64 ea, .string en, .slice ta2 et.length tc2, .int .i64 fk, .int .i64 fa, .string fn, .int .i64 fm, .slice va2 fs.length vc2, .slice ca2 ec.length cc2, .slice ra2 er.length rc2] 40)), y.w.cell? ⟨w.heap.size + 1, 7, none⟩ = some (.int .i64 fm) := fun y => hbox2 y 7
  have k8 : ∀ y : Later ((w.alloc (.cells #[.int .i64 dk, .int .i64 da, .string dn, .slice ta dt.length tc, .int .i64 bk, .int .i64 ba, .string bn, .int .i64 bm, .slice va bs.length vc, .slice ca dc.length cc, .slice ra dr.length rc] 40)).alloc (.cells #[.int .i64 ek, .int .i64 ea, .string en, .slice ta2 et.length tc2, .int .i64 fk, .int .i64 fa, .string fn, .int .i64 fm, .slice va2 fs.length vc2, .slice ca2 ec.length cc2, .slice ra2 er.length rc2] 40)), y.w.cell? ⟨w.heap.size + 1, 8, none⟩ = some (.slice va2 fs.length vc2) := fun y => hbox2 y 8
  have k9 : ∀ y : Later ((w.alloc (.cells #[.int .i64 dk, .int .i64 da, .string dn, .slice ta dt.length tc, .int .i64 bk, .int .i64 ba, .string bn, .int .i64 bm, .slice va bs.length vc, .slice ca dc.length cc, .slice ra dr.length rc] 40)).alloc (.cells #[.int .i64 ek, .int .i64 ea, .string en, .slice ta2 et.length tc2, .int .i64 fk, .int .i64 fa, .string fn, .int .i64 fm, .slice va2 fs.length vc2, .slice ca2 ec.length cc2, .slice ra2 er.length rc2] 40)), y.w.cell? ⟨w.heap.size + 1, 9, none⟩ = some (.slice ca2 ec.length cc2) := fun y => hbox2 y 9
  have k10 : ∀ y : Later ((w.alloc (.cells #[.int .i64 dk, .int .i64 da, .string dn, .slice ta dt.length tc, .int .i64 bk, .int .i64 ba, .string bn, .int .i64 bm, .slice va bs.length vc, .slice ca dc.length cc, .slice ra dr.length rc] 40)).alloc (.cells #[.int .i64 ek, .int .i64 ea, .string en, .slice ta2 et.length tc2, .int .i64 fk, .int .i64 fa, .string fn, .int .i64 fm, .slice va2 fs.length vc2, .slice ca2 ec.length cc2, .slice ra2 er.length rc2] 40)), y.w.cell? ⟨w.heap.size + 1, 10, none⟩ = some (.slice ra2 er.length rc2) := fun y => hbox2 y 10
  have FIN : Hid (∀ y : Later ((w.alloc (.cells #[.int .i64 dk, .int .i64 da, .string dn, .slice ta dt.length tc, .int .i64 bk, .int .i64 ba, .string bn, .int .i64 bm, .slice va bs.length vc, .slice ca dc.length cc, .slice ra dr.length rc] 40)).alloc (.cells #[.int .i64 ek, .int .i64 ea, .string en, .slice ta2 et.length tc2, .int .i64 fk, .int .i64 fa, .string fn, .int .i64 fm, .slice va2 fs.length vc2, .slice ca2 ec.length cc2, .slice ra2 er.length rc2] 40)), Below w.heap.size w y.w) := fun y => E.2.2.1.trans (y.b.mono E.2.2.1.size)
  have Y0 : Hid (Below ((w.alloc (.cells #[.int .i64 dk, .int .i64 da, .string dn, .slice ta dt.length tc, .int .i64 bk, .int .i64 ba, .string bn, .int .i64 bm, .slice va bs.length vc, .slice ca dc.length cc, .slice ra dr.length rc] 40)).alloc (.cells #[.int .i64 ek, .int .i64 ea, .string en, .slice ta2 et.length tc2, .int .i64 fk, .int .i64 fa, .string fn, .int .i64 fm, .slice va2 fs.length vc2, .slice ca2 ec.length cc2, .slice ra2 er.length rc2] 40)).heap.size ((w.alloc (.cells #[.int .i64 dk, .int .i64 da, .string dn, .slice ta dt.length tc, .int .i64 bk, .int .i64 ba, .string bn, .int .i64 bm, .slice va bs.length vc, .slice ca dc.length cc, .slice ra dr.length rc] 40)).alloc (.cells #[.int .i64 ek, .int .i64 ea, .string en, .slice ta2 et.length tc2, .int .i64 fk, .int .i64 fa, .string fn, .int .i64 fm, .slice va2 fs.length vc2, .slice ca2 ec.length cc2, .slice ra2 er.length rc2] 40)) ((w.alloc (.cells #[.int .i64 dk, .int .i64 da, .string dn, .slice ta dt.length tc, .int .i64 bk, .int .i64 ba, .string bn, .int .i64 bm, .slice va bs.length vc, .slice ca dc.length cc, .slice ra dr.length rc] 40)).alloc (.cells #[.int .i64 ek, .int .i64 ea, .string en, .slice ta2 et.length tc2, .int .i64 fk, .int .i64 fa, .string fn, .int .i64 fm, .slice va2 fs.length vc2, .slice ca2 ec.length cc2, .slice ra2 er.length rc2] 40))) := Below.refl _ _
  have HRES : Hid (Qjm ⟨dk, da, dn, dt, .mk bk ba bn bm bs, dc, dr⟩ ⟨ek, ea, en, et, .mk fk fa fn fm fs, ec, er⟩ = ((dk == ek) && (dn.toList == en.toList) && Qbv (.mk bk ba bn bm bs) (.mk fk fa fn fm fs) && eqA Qbz dt et && eqA Qbz dc ec && eqA Qes dr er)) := rfl
  have C1 : Hid (∀ y : Later ((w.alloc (.cells #[.int .i64 dk, .int .i64 da, .string dn, .slice ta dt.length tc, .int .i64 bk, .int .i64 ba, .string bn, .int .i64 bm, .slice va bs.length vc, .slice ca dc.length cc, .slice ra dr.length rc] 40)).alloc (.cells #[.int .i64 ek, .int .i64 ea, .string en, .slice ta2 et.length tc2, .int .i64 fk, .int .i64 fa, .string fn, .int .i64 fm, .slice va2 fs.length vc2, .slice ca2 ec.length cc2, .slice ra2 er.length rc2] 40)), Calls Tryz.prog 14 #[.agg #[.int .i64 bk, .int .i64 ba, .string bn, .int .i64 bm, .slice va bs.length vc], .agg #[.int .i64 fk, .int .i64 fa, .string fn, .int .i64 fm, .slice va2 fs.length vc2]] y.w fun e w'' => e = .returned (.bool (Qbv (.mk bk ba bn bm bs) (.mk fk fa fn fm fs))) ∧ ∃ z : Later ((w.alloc (.cells #[.int .i64 dk, .int .i64 da, .string dn, .slice ta dt.length tc, .int .i64 bk, .int .i64 ba, .string bn, .int .i64 bm, .slice va bs.length vc, .slice ca dc.length cc, .slice ra dr.length rc] 40)).alloc (.cells #[.int .i64 ek, .int .i64 ea, .string en, .slice ta2 et.length tc2, .int .i64 fk, .int .i64 fa, .string fn, .int .i64 fm, .slice va2 fs.length vc2, .slice ca2 ec.length cc2, .slice ra2 er.length rc2] 40)), w'' = z.w) := fun y => Calls.later y (Qjv _ _ _ _ _ (HB.out.later (FIN.out y)) (HB2.out.later (FIN.out y)))
  have C2 : Hid (∀ y : Later ((w.alloc (.cells #[.int .i64 dk, .int .i64 da, .string dn, .slice ta dt.length tc, .int .i64 bk, .int .i64 ba, .string bn, .int .i64 bm, .slice va bs.length vc, .slice ca dc.length cc, .slice ra dr.length rc] 40)).alloc (.cells #[.int .i64 ek, .int .i64 ea, .string en, .slice ta2 et.length tc2, .int .i64 fk, .int .i64 fa, .string fn, .int .i64 fm, .slice va2 fs.length vc2, .slice ca2 ec.length cc2, .slice ra2 er.length rc2] 40)), Calls Tryz.prog 45 #[.slice ta dt.length tc, .slice ta2 et.length tc2] y.w fun e w'' => e = .returned (.bool (eqA Qbz dt et)) ∧ ∃ z : Later ((w.alloc (.cells #[.int .i64 dk, .int .i64 da, .string dn, .slice ta dt.length tc, .int .i64 bk, .int .i64 ba, .string bn, .int .i64 bm, .slice va bs.length vc, .slice ca dc.length cc, .slice ra dr.length rc] 40)).alloc (.cells #[.int .i64 ek, .int .i64 ea, .string en, .slice ta2 et.length tc2, .int .i64 fk, .int .i64 fa, .string fn, .int .i64 fm, .slice va2 fs.length vc2, .slice ca2 ec.length cc2, .slice ra2 er.length rc2] 40)), w'' = z.w) := fun y => Calls.later y (Qlv S S' _ _ _ _ _ (HT.out.later (FIN.out y)) (HT2.out.later (FIN.out y)))
  have C3 : Hid (∀ y : Later ((w.alloc (.cells #[.int .i64 dk, .int .i64 da, .string dn, .slice ta dt.length tc, .int .i64 bk, .int .i64 ba, .string bn, .int .i64 bm, .slice va bs.length vc, .slice ca dc.length cc, .slice ra dr.length rc] 40)).alloc (.cells #[.int .i64 ek, .int .i64 ea, .string en, .slice ta2 et.length tc2, .int .i64 fk, .int .i64 fa, .string fn, .int .i64 fm, .slice va2 fs.length vc2, .slice ca2 ec.length cc2, .slice ra2 er.length rc2] 40)), Calls Tryz.prog 45 #[.slice ca dc.length cc, .slice ca2 ec.length cc2] y.w fun e w'' => e = .returned (.bool (eqA Qbz dc ec)) ∧ ∃ z : Later ((w.alloc (.cells #[.int .i64 dk, .int .i64 da, .string dn, .slice ta dt.length tc, .int .i64 bk, .int .i64 ba, .string bn, .int .i64 bm, .slice va bs.length vc, .slice ca dc.length cc, .slice ra dr.length rc] 40)).alloc (.cells #[.int .i64 ek, .int .i64 ea, .string en, .slice ta2 et.length tc2, .int .i64 fk, .int .i64 fa, .string fn, .int .i64 fm, .slice va2 fs.length vc2, .slice ca2 ec.length cc2, .slice ra2 er.length rc2] 40)), w'' = z.w) := fun y => Calls.later y (Qlv S S' _ _ _ _ _ (HC.out.later (FIN.out y)) (HC2.out.later (FIN.out y)))
  generalize Qjm ⟨dk, da, dn, dt, .mk bk ba bn bm bs, dc, dr⟩ ⟨ek, ea, en, et, .mk fk fa fn fm fs, ec, er⟩ = res at *
  generalize Qbv (.mk bk ba bn bm bs) (.mk fk fa fn fm fs) = b1 at *
  generalize eqA Qbz dt et = b2 at *
  generalize eqA Qbz dc ec = b3 at *
  clear hd he ht hv hc hr ht2 hv2 hc2 hr2 hbn hdn hbn2 hdn2 hrm hrm2 hrl hrl2 E hbox hbox2 HB HB2 HT HC HT2 HC2
  cases q1 : (dk == ek) with
  | false =>
    have n1 : (dk != ek) = true := by unfold bne; rw [q1]; rfl
    have fin : Hid (res = false) := by show _ = _; rw [HRES.out]; rw [q1]; rfl
    clear HRES
    go_enter Tryz.func20, Tryz.ntmps20
    go_wp2_with fail
    go_ret
    exact ⟨Qab fin.out.symm, FIN.out ⟨_, Y0.out⟩⟩
  | true =>
  have n1 : (dk != ek) = false := by unfold bne; rw [q1]; rfl
  cases q2 : (dn.toList == en.toList) with
  | false =>
    have n2 : (dn.toList != en.toList) = true := by unfold bne; rw [q2]; rfl
    have fin : Hid (res = false) := by show _ = _; rw [HRES.out]; rw [q2]; simp
    clear HRES
    go_enter Tryz.func20, Tryz.ntmps20
    go_wp2_with fail
    go_ret
    exact ⟨Qab fin.out.symm, FIN.out ⟨_, Y0.out⟩⟩
  | true =>
  have n2 : (dn.toList != en.toList) = false := by unfold bne; rw [q2]; rfl
  by_cases hlen : (dr.length : Int) = er.length
  rotate_left
  · have m1 : ((dr.length : Int) == er.length) = false := by simpa using hlen
    have m2 : ((dr.length : Int) != er.length) = true := by simpa using hlen
    have fin : Hid (res = false) := by show _ = _; rw [HRES.out]; rw [eqA_len (by omega)]; simp
    clear HRES
    go_enter Tryz.func20, Tryz.ntmps20
    go_wp2_with fail
    go_ret
    exact ⟨Qab fin.out.symm, FIN.out ⟨_, Y0.out⟩⟩
  have m1 : ((dr.length : Int) == er.length) = true := by simpa using hlen
  have m2 : ((dr.length : Int) != er.length) = false := by rw [hlen]; simp
  have HLEN : Hid (dr.length = er.length) := by show _ = _; omega
  clear hlen
  cases b1 with
  | false =>
    have fin : Hid (res = false) := by show _ = _; rw [HRES.out]; simp
    clear HRES
    go_enter Tryz.func20, Tryz.ntmps20
    go_wp2_with fail
    refine (C1.out ⟨_, Y0.out⟩).mono ?_
    rintro e w2 ⟨rfl, ⟨y2, rfl⟩⟩
    go_wp2_with fail
    go_ret
    exact ⟨Qab fin.out.symm, FIN.out y2⟩
  | true =>
  cases b2 with
  | false =>
    have fin : Hid (res = false) := by show _ = _; rw [HRES.out]; simp
    clear HRES
    go_enter Tryz.func20, Tryz.ntmps20
    go_wp2_with fail
    refine (C1.out ⟨_, Y0.out⟩).mono ?_
    rintro e w2 ⟨rfl, ⟨y2, rfl⟩⟩
    go_wp2_with fail
    refine (C2.out y2).mono ?_
    rintro e w3 ⟨rfl, ⟨y3, rfl⟩⟩
    go_wp2_with fail
    go_ret
    exact ⟨Qab fin.out.symm, FIN.out y3⟩
  | true =>
  cases b3 with
  | false =>
    have fin : Hid (res = false) := by show _ = _; rw [HRES.out]; simp
    clear HRES
    go_enter Tryz.func20, Tryz.ntmps20
    go_wp2_with fail
    refine (C1.out ⟨_, Y0.out⟩).mono ?_
    rintro e w2 ⟨rfl, ⟨y2, rfl⟩⟩
    go_wp2_with fail
    refine (C2.out y2).mono ?_
    rintro e w3 ⟨rfl, ⟨y3, rfl⟩⟩
    go_wp2_with fail
    refine (C3.out y3).mono ?_
    rintro e w4 ⟨rfl, ⟨y4, rfl⟩⟩
    go_wp2_with fail
    go_ret
    exact ⟨Qab fin.out.symm, FIN.out y4⟩
  | true =>
  have HG0 : Hid (eqA Qes dr er = res) := by show _ = _; rw [HRES.out, q1, q2]; simp
  clear HRES
  go_enter Tryz.func20, Tryz.ntmps20
  go_wp2_with fail
  refine (C1.out ⟨_, Y0.out⟩).mono ?_
  rintro e w2 ⟨rfl, ⟨y2, rfl⟩⟩
  go_wp2_with fail
  refine (C2.out y2).mono ?_
  rintro e w3 ⟨rfl, ⟨y3, rfl⟩⟩
  go_wp2_with fail
  refine (C3.out y3).mono ?_
  rintro e w4 ⟨rfl, ⟨y4, rfl⟩⟩
  go_wp2_with fail
  have HY := Lib.hid y4.b
  go_loopw [54] (fun i wr => ∃ (k : Nat) (x : Later ((w.alloc (.cells #[.int .i64 dk, .int .i64 da, .string dn, .slice ta dt.length tc, .int .i64 bk, .int .i64 ba, .string bn, .int .i64 bm, .slice va bs.length vc, .slice ca dc.length cc, .slice ra dr.length rc] 40)).alloc (.cells #[.int .i64 ek, .int .i64 ea, .string en, .slice ta2 et.length tc2, .int .i64 fk, .int .i64 fa, .string fn, .int .i64 fm, .slice va2 fs.length vc2, .slice ca2 ec.length cc2, .slice ra2 er.length rc2] 40))), k ≤ dr.length ∧ i = .int .i64 k ∧ wr = x.w ∧ Hid (eqA Qes (dr.drop k) (er.drop k) = res)) (fun i _ => dr.length - (intOf i).toNat)
  case atStart => exact ⟨0, ⟨_, HY.out⟩, Nat.zero_le _, rfl, rfl, HG0.out⟩
  case round =>
    obtain ⟨k, x, hk, rfl, rfl, HG⟩ := hrel
    by_cases hlt : k < dr.length
    · have hlt2 : k < er.length := by have := HLEN.out; omega
      obtain ⟨b, off, p0, p1, p2, q0, q1, q2', rfl, e0, e1, e2, e3, e4, e5, e6, e7, hrow⟩ := rw_at (HR.out.later (FIN.out x)) k hlt
      obtain ⟨b', off', s0, s1, s2, t0, t1, t2, rfl, f0, f1, f2, f3, f4, f5, f6, f7, hrow2⟩ := rw_at (HR2.out.later (FIN.out x)) k hlt2
      have hb0 : (0 : Int) ≤ k := by omega
      have hb1 : (k : Int) < dr.length := by omega
      have hb2 : (k : Int) < er.length := by omega
      have hstep : eqA Qes (dr.drop k) (er.drop k) = (Qes dr[k] er[k] && eqA Qes (dr.drop (k + 1)) (er.drop (k + 1))) := by
        rw [List.drop_eq_getElem_cons hlt, List.drop_eq_getElem_cons hlt2]; rfl
      have CR : Hid (∀ y : Later x.w, Calls Tryz.prog 46 #[.agg #[.int .i64 dr[k].at_, .slice p0 p1 p2, .bool dr[k].has, .int .i64 dr[k].body.kind, .int .i64 dr[k].body.at, .string dr[k].body.name, .int .i64 dr[k].body.num, .slice q0 q1 q2'], .agg #[.int .i64 er[k].at_, .slice s0 s1 s2, .bool er[k].has, .int .i64 er[k].body.kind, .int .i64 er[k].body.at, .string er[k].body.name, .int .i64 er[k].body.num, .slice t0 t1 t2]] y.w fun e w'' => e = .returned (.bool (Qes dr[k] er[k])) ∧ ∃ z : Later x.w, w'' = z.w) := fun y => Calls.later y (samerow_any S S' _ _ _ _ _ (hrow.later y.b) (hrow2.later y.b))
      have HX := Lib.hid (fun (y : Later x.w) => x.b.trans (y.b.mono x.b.size))
      have HG2 : Hid ((Qes dr[k] er[k] && eqA Qes (dr.drop (k + 1)) (er.drop (k + 1))) = res) := by show _ = _; rw [← hstep]; exact HG.out
      have E0 := Later.cell e0
      have F0 := Later.cell f0
      have E1 := Later.cell e1
      have F1 := Later.cell f1
      have E2 := Later.cell e2
      have F2 := Later.cell f2
      have E3 := Later.cell e3
      have F3 := Later.cell f3
      have E4 := Later.cell e4
      have F4 := Later.cell f4
      have E5 := Later.cell e5
      have F5 := Later.cell f5
      have E6 := Later.cell e6
      have F6 := Later.cell f6
      have E7 := Later.cell e7
      have F7 := Later.cell f7
      have G10 := Later.cell (g10 x)
      have K10 := Later.cell (k10 x)
      have X0 : Hid (Below x.w.heap.size x.w x.w.drew) := (Below.refl _ _).drew
      clear hstep HG hrow hrow2 e0 e1 e2 e3 e4 e5 e6 e7 f0 f1 f2 f3 f4 f5 f6 f7
      generalize Qes dr[k] er[k] = sb at *
      cases sb with
      | false =>
        have fin : Hid (res = false) := by show _ = _; rw [← HG2.out]; rfl
        clear HG2
        go_wp2_with fail
        refine Qcw (X := Later x.w) Later.w (by kernel_rfl) (by kernel_rfl) ⟨_, X0.out⟩ rfl ?_
        repeat (go_big_quiet_step ((with_reducible exact CR.out _)))
        refine wpQuiet_nil ?_
        intro y
        go_wp2_with fail
        go_ret
        exact ⟨Qab fin.out.symm, FIN.out ⟨_, HX.out y⟩⟩
      | true =>
        have HG3 : Hid (eqA Qes (dr.drop (k + 1)) (er.drop (k + 1)) = res) := by show _ = _; rw [← HG2.out]; rfl
        clear HG2
        go_wp2_with fail
        refine Qcw (X := Later x.w) Later.w (by kernel_rfl) (by kernel_rfl) ⟨_, X0.out⟩ rfl ?_
        repeat (go_big_quiet_step ((with_reducible exact CR.out _)))
        refine wpQuiet_nil ?_
        intro y
        go_wp2_with fail
        go_roundw
        case rel => exact ⟨k + 1, ⟨_, HX.out y⟩, by omega, by go_num, rfl, HG3⟩
        case measure => simp [intOf]; omega
    · have fin : Hid (res = true) := by
        have := HG.out
        rw [List.drop_of_length_le (by omega), List.drop_of_length_le (by have := HLEN.out; omega)] at this
        show _ = _; rw [← this]; rfl
      have HX := Lib.hid (FIN.out x)
      go_wp2_with fail
      go_ret
      exact ⟨Qab fin.out.symm, HX.out⟩
end Go.Proofs.YtahhgpafjiljfaaGreat
