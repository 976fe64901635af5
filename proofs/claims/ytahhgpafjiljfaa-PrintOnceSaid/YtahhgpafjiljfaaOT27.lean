import Derived.Test.YtahhgpafjiljfaaOT25
set_option linter.unusedSimpArgs false
set_option linter.unusedVariables false
set_option maxHeartbeats 16000000
set_option maxRecDepth 100000
namespace Go.Proofs.Ytahhgpafjiljfaa
open Go.RowKit
def Qbt (d : Dc) : Bool := decide (1 ≤ d.kind ∧ d.kind ≤ 3) && Qaj d.name && Qby d.ty && Qcb d.tele 24 && Qcb d.cons 16 && !(decide (d.kind = 3 ∧ 0 < (d.tele.length : Int) + d.cons.length)) && !(decide (d.kind ≠ 3 ∧ 0 < d.rows.length)) && decide (d.rows.length ≤ 32) && d.rows.all rowB
theorem rw_at {S : Nat → Prop} {w : World} {l : List Rw} {ad : Option Addr} {len cap : Nat} (h : RepS S w (.slice ad len cap) l) (k : Nat) (hk : k < l.length) : ∃ b off p0 p1 p2 q0 q1 q2, ad = some ⟨b, off, none⟩ ∧ w.cell? ⟨b, off + k * 8, none⟩ = some (.int .i64 l[k].at_) ∧ w.cell? ⟨b, off + k * 8 + 1, none⟩ = some (.slice p0 p1 p2) ∧ w.cell? ⟨b, off + k * 8 + 2, none⟩ = some (.bool l[k].has) ∧ w.cell? ⟨b, off + k * 8 + 3, none⟩ = some (.int .i64 l[k].body.kind) ∧ w.cell? ⟨b, off + k * 8 + 4, none⟩ = some (.int .i64 l[k].body.at) ∧ w.cell? ⟨b, off + k * 8 + 5, none⟩ = some (.string l[k].body.name) ∧ w.cell? ⟨b, off + k * 8 + 6, none⟩ = some (.int .i64 l[k].body.num) ∧ w.cell? ⟨b, off + k * 8 + 7, none⟩ = some (.slice q0 q1 q2) ∧ Rep S w l[k] [.int .i64 l[k].at_, .slice p0 p1 p2, .bool l[k].has, .int .i64 l[k].body.kind, .int .i64 l[k].body.at, .string l[k].body.name, .int .i64 l[k].body.num, .slice q0 q1 q2] := by
 obtain ⟨b, off, cs, h1, _, _, h4, h5⟩ := h.at k hk
 obtain ⟨p, v, rfl, h6, h7, h8⟩ := rep_rw.1 h4
 obtain ⟨p0, p1, p2, rfl⟩ := h6.form
 obtain ⟨q0, q1, q2, rfl⟩ := h8.form
 exact ⟨b, off, p0, p1, p2, q0, q1, q2, h1, h5 0 _ rfl, h5 1 _ rfl, h5 2 _ rfl, h5 3 _ rfl, h5 4 _ rfl, h5 5 _ rfl, h5 6 _ rfl, h5 7 _ rfl, h4⟩
theorem dright_any (S : Nat → Prop) (d : Dc) (cs : List Value) (w : World) (hd : Rep S w d cs) : Calls Try.prog 41 #[.agg cs.toArray] w fun e w' => e = .returned (.bool (Qbt d)) ∧ Below w.heap.size w w' := by
  obtain ⟨dk, da, dn, dt, ⟨bk, ba, bn, bm, bs⟩, dc, dr⟩ := d
  obtain ⟨t, v, c, r, rfl, hdn, ht, hbn, hv, hc, hr⟩ := rep_dc.1 hd
  simp only [Nd.kind, Nd.at, Nd.name, Nd.num, Nd.sub] at ht hbn hv hc hr hdn ⊢
  obtain ⟨ta, tc, rfl, ht1, ht2⟩ := ht.shape
  obtain ⟨va, vc, rfl, hv1, hv2⟩ := hv.shape
  obtain ⟨ca, cc, rfl, hc1, hc2⟩ := hc.shape
  obtain ⟨ra, rc, rfl, hr1, hr2⟩ := hr.shape
  have L3 : Hid (Qcb dt 24 = true → (dt.length : Int) ≤ 24) := fun h => by unfold Qcb at h; rw [Bool.and_eq_true] at h; exact of_decide_eq_true h.1
  have L4 : Hid (Qcb dc 16 = true → (dc.length : Int) ≤ 16) := fun h => by unfold Qcb at h; rw [Bool.and_eq_true] at h; exact of_decide_eq_true h.1
  have hlr : dr.length ≤ 9223372036854775807 := by unfold maxLen at hr2; omega
  have E := Qiz w #[.int .i64 dk, .int .i64 da, .string dn, .slice ta dt.length tc, .int .i64 bk, .int .i64 ba, .string bn, .int .i64 bm, .slice va bs.length vc, .slice ca dc.length cc, .slice ra dr.length rc] 43
  have HT := Lib.hid ht
  have HC := Lib.hid hc
  have HR := Lib.hid hr
  have HB := Lib.hid (Rep.toC _ _ ((rep_nd (t := .mk bk ba bn bm bs)).2 ⟨_, rfl, hbn, hv⟩))
  have hbox := fun (y : Later (w.alloc (.cells #[.int .i64 dk, .int .i64 da, .string dn, .slice ta dt.length tc, .int .i64 bk, .int .i64 ba, .string bn, .int .i64 bm, .slice va bs.length vc, .slice ca dc.length cc, .slice ra dr.length rc] 43))) (j : Nat) => (cell_at (w := y.w) ((y.b.block w.heap.size (by simp)).trans E.1) j)
  have g0 : ∀ y : Later (w.alloc (.cells #[.int .i64 dk, .int .i64 da, .string dn, .slice ta dt.length tc, .int .i64 bk, .int .i64 ba, .string bn, .int .i64 bm, .slice va bs.length vc, .slice ca dc.length cc, .slice ra dr.length rc] 43)), y.w.cell? ⟨w.heap.size, 0, none⟩ = some (.int .i64 dk) := fun y => hbox y 0
  have g2 : ∀ y : Later (w.alloc (.cells #[.int .i64 dk, .int .i64 da, .string dn, .slice ta dt.length tc, .int .i64 bk, .int .i64 ba, .string bn, .int .i64 bm, .slice va bs.length vc, .slice ca dc.length cc, .slice ra dr.length rc] 43)), y.w.cell? ⟨w.heap.size, 2, none⟩ = some (.string dn) := fun y => hbox y 2
  have g3 : ∀ y : Later (w.alloc (.cells #[.int .i64 dk, .int .i64 da, .string dn, .slice ta dt.length tc, .int .i64 bk, .int .i64 ba, .string bn, .int .i64 bm, .slice va bs.length vc, .slice ca dc.length cc, .slice ra dr.length rc] 43)), y.w.cell? ⟨w.heap.size, 3, none⟩ = some (.slice ta dt.length tc) := fun y => hbox y 3
  have g4 : ∀ y : Later (w.alloc (.cells #[.int .i64 dk, .int .i64 da, .string dn, .slice ta dt.length tc, .int .i64 bk, .int .i64 ba, .string bn, .int .i64 bm, .slice va bs.length vc, .slice ca dc.length cc, .slice ra dr.length rc] 43)), y.w.cell? ⟨w.heap.size, 4, none⟩ = some (.int .i64 bk) := fun y => hbox y 4
  have g5 : ∀ y : Later (w.alloc (.cells #[.int .i64 dk, .int .i64 da, .string dn, .slice ta dt.length tc, .int .i64 bk, .int .i64 ba, .string bn, .int .i64 bm, .slice va bs.length vc, .slice ca dc.length cc, .slice ra dr.length rc] 43)), y.w.cell? ⟨w.heap.size, 5, none⟩ = some (.int .i64 ba) := fun y => hbox y 5
  have g6 : ∀ y : Later (w.alloc (.cells #[.int .i64 dk, .int .i64 da, .string dn, .slice ta dt.length tc, .int .i64 bk, .int .i64 ba, .string bn, .int .i64 bm, .slice va bs.length vc, .slice ca dc.length cc, .slice ra dr.length rc] 43)), y.w.cell? ⟨w.heap.size, 6, none⟩ = some (.string bn) := fun y => hbox y 6
  have g7 : ∀ y : Later (w.alloc (.cells #[.int .i64 dk, .int .i64 da, .string dn, .slice ta dt.length tc, .int .i64 bk, .int .i64 ba, .string bn, .int .i64 bm, .slice va bs.length vc, .slice ca dc.length cc, .slice ra dr.length rc] 43)), y.w.cell? ⟨w.heap.size, 7, none⟩ = some (.int .i64 bm) := fun y => hbox y 7
  have g8 : ∀ y : Later (w.alloc (.cells #[.int .i64 dk, .int .i64 da, .string dn, .slice ta dt.length tc, .int .i64 bk, .int .i64 ba, .string bn, .int .i64 bm, .slice va bs.length vc, .slice ca dc.length cc, .slice ra dr.length rc] 43)), y.w.cell? ⟨w.heap.size, 8, none⟩ = some (.slice va bs.length vc) := fun y => hbox y 8
  have g9 : ∀ y : Later (w.alloc (.cells #[.int .i64 dk, .int .i64 da, .string dn, .slice ta dt.length tc, .int .i64 bk, .int .i64 ba, .string bn, .int .i64 bm, .slice va bs.length vc, .slice ca dc.length cc, .slice ra dr.length rc] 43)), y.w.cell? ⟨w.heap.size, 9, none⟩ = some (.slice ca dc.length cc) := fun y => hbox y 9
  have g10 : ∀ y : Later (w.alloc (.cells #[.int .i64 dk, .int .i64 da, .string dn, .slice ta dt.length tc, .int .i64 bk, .int .i64 ba, .string bn, .int .i64 bm, .slice va bs.length vc, .slice ca dc.length cc, .slice ra dr.length rc] 43)), y.w.cell? ⟨w.heap.size, 10, none⟩ = some (.slice ra dr.length rc) := fun y => hbox y 10
  have FIN : Hid (∀ y : Later (w.alloc (.cells #[.int .i64 dk, .int .i64 da, .string dn, .slice ta dt.length tc, .int .i64 bk, .int .i64 ba, .string bn, .int .i64 bm, .slice va bs.length vc, .slice ca dc.length cc, .slice ra dr.length rc] 43)), Below w.heap.size w y.w) := fun y => E.2.1.trans (y.b.mono E.2.1.size)
  have Y0 : Hid (Below (w.alloc (.cells #[.int .i64 dk, .int .i64 da, .string dn, .slice ta dt.length tc, .int .i64 bk, .int .i64 ba, .string bn, .int .i64 bm, .slice va bs.length vc, .slice ca dc.length cc, .slice ra dr.length rc] 43)).heap.size (w.alloc (.cells #[.int .i64 dk, .int .i64 da, .string dn, .slice ta dt.length tc, .int .i64 bk, .int .i64 ba, .string bn, .int .i64 bm, .slice va bs.length vc, .slice ca dc.length cc, .slice ra dr.length rc] 43)) (w.alloc (.cells #[.int .i64 dk, .int .i64 da, .string dn, .slice ta dt.length tc, .int .i64 bk, .int .i64 ba, .string bn, .int .i64 bm, .slice va bs.length vc, .slice ca dc.length cc, .slice ra dr.length rc] 43))) := Below.refl _ _
  have HRES : Hid (Qbt ⟨dk, da, dn, dt, .mk bk ba bn bm bs, dc, dr⟩ = (decide (1 ≤ dk ∧ dk ≤ 3) && Qaj dn && Qby (.mk bk ba bn bm bs) && Qcb dt 24 && Qcb dc 16 && !(decide (dk = 3 ∧ 0 < (dt.length : Int) + dc.length)) && !(decide (dk ≠ 3 ∧ 0 < dr.length)) && decide (dr.length ≤ 32) && dr.all rowB)) := rfl
  have C1 : Hid (∀ y : Later (w.alloc (.cells #[.int .i64 dk, .int .i64 da, .string dn, .slice ta dt.length tc, .int .i64 bk, .int .i64 ba, .string bn, .int .i64 bm, .slice va bs.length vc, .slice ca dc.length cc, .slice ra dr.length rc] 43)), Calls Try.prog 69 #[.string dn] y.w fun e w'' => e = .returned (.bool (Qaj dn)) ∧ ∃ z : Later (w.alloc (.cells #[.int .i64 dk, .int .i64 da, .string dn, .slice ta dt.length tc, .int .i64 bk, .int .i64 ba, .string bn, .int .i64 bm, .slice va bs.length vc, .slice ca dc.length cc, .slice ra dr.length rc] 43)), w'' = z.w) := fun y => Calls.later y (Qis _ hdn _)
  have C2 : Hid (∀ y : Later (w.alloc (.cells #[.int .i64 dk, .int .i64 da, .string dn, .slice ta dt.length tc, .int .i64 bk, .int .i64 ba, .string bn, .int .i64 bm, .slice va bs.length vc, .slice ca dc.length cc, .slice ra dr.length rc] 43)), Calls Try.prog 73 #[.agg #[.int .i64 bk, .int .i64 ba, .string bn, .int .i64 bm, .slice va bs.length vc]] y.w fun e w'' => e = .returned (.bool (Qby (.mk bk ba bn bm bs))) ∧ ∃ z : Later (w.alloc (.cells #[.int .i64 dk, .int .i64 da, .string dn, .slice ta dt.length tc, .int .i64 bk, .int .i64 ba, .string bn, .int .i64 bm, .slice va bs.length vc, .slice ca dc.length cc, .slice ra dr.length rc] 43)), w'' = z.w) := fun y => Calls.later y (Qkg _ _ _ (HB.out.later (FIN.out y)))
  have C3 : Hid (∀ y : Later (w.alloc (.cells #[.int .i64 dk, .int .i64 da, .string dn, .slice ta dt.length tc, .int .i64 bk, .int .i64 ba, .string bn, .int .i64 bm, .slice va bs.length vc, .slice ca dc.length cc, .slice ra dr.length rc] 43)), Calls Try.prog 75 #[.slice ta dt.length tc, .int .i64 24] y.w fun e w'' => e = .returned (.bool (Qcb dt 24)) ∧ ∃ z : Later (w.alloc (.cells #[.int .i64 dk, .int .i64 da, .string dn, .slice ta dt.length tc, .int .i64 bk, .int .i64 ba, .string bn, .int .i64 bm, .slice va bs.length vc, .slice ca dc.length cc, .slice ra dr.length rc] 43)), w'' = z.w) := fun y => Calls.later y (binds_any S _ _ _ _ (by omega) (HT.out.later (FIN.out y)))
  have C4 : Hid (∀ y : Later (w.alloc (.cells #[.int .i64 dk, .int .i64 da, .string dn, .slice ta dt.length tc, .int .i64 bk, .int .i64 ba, .string bn, .int .i64 bm, .slice va bs.length vc, .slice ca dc.length cc, .slice ra dr.length rc] 43)), Calls Try.prog 75 #[.slice ca dc.length cc, .int .i64 16] y.w fun e w'' => e = .returned (.bool (Qcb dc 16)) ∧ ∃ z : Later (w.alloc (.cells #[.int .i64 dk, .int .i64 da, .string dn, .slice ta dt.length tc, .int .i64 bk, .int .i64 ba, .string bn, .int .i64 bm, .slice va bs.length vc, .slice ca dc.length cc, .slice ra dr.length rc] 43)), w'' = z.w) := fun y => Calls.later y (binds_any S _ _ _ _ (by omega) (HC.out.later (FIN.out y)))
  generalize Qbt ⟨dk, da, dn, dt, .mk bk ba bn bm bs, dc, dr⟩ = res at *
  generalize Qaj dn = b1 at *
  generalize Qby (.mk bk ba bn bm bs) = b2 at *
  generalize Qcb dt 24 = b3 at *
  generalize Qcb dc 16 = b4 at *
  clear hd ht hv hc hr ht1 ht2 hv1 hv2 hc1 hc2 hr1 hr2 hbn hdn E hbox HB HT HC
  by_cases k1 : dk < 1
  · have fin : Hid (res = false) := by
        have : decide (1 ≤ dk ∧ dk ≤ 3) = false := decide_eq_false (by omega)
        show _ = _; rw [HRES.out]; rw [this]; rfl
    clear HRES
    go_enter Try.func41, Try.ntmps41
    go_wp2_with fail
    go_ret
    exact ⟨Qae fin.out.symm, FIN.out ⟨_, Y0.out⟩⟩
  by_cases k3 : 3 < dk
  · have fin : Hid (res = false) := by
        have : decide (1 ≤ dk ∧ dk ≤ 3) = false := decide_eq_false (by omega)
        show _ = _; rw [HRES.out]; rw [this]; rfl
    clear HRES
    go_enter Try.func41, Try.ntmps41
    go_wp2_with fail
    go_ret
    exact ⟨Qae fin.out.symm, FIN.out ⟨_, Y0.out⟩⟩
  cases b1 with
  | false =>
    have fin : Hid (res = false) := by show _ = _; rw [HRES.out]; simp
    clear HRES
    go_enter Try.func41, Try.ntmps41
    go_wp2_with fail
    refine (C1.out ⟨_, Y0.out⟩).mono ?_
    rintro e w2 ⟨rfl, ⟨y2, rfl⟩⟩
    go_wp2_with fail
    go_ret
    exact ⟨Qae fin.out.symm, FIN.out y2⟩
  | true =>
  cases b2 with
  | false =>
    have fin : Hid (res = false) := by show _ = _; rw [HRES.out]; simp
    clear HRES
    go_enter Try.func41, Try.ntmps41
    go_wp2_with fail
    refine (C1.out ⟨_, Y0.out⟩).mono ?_
    rintro e w2 ⟨rfl, ⟨y2, rfl⟩⟩
    go_wp2_with fail
    refine (C2.out y2).mono ?_
    rintro e w3 ⟨rfl, ⟨y3, rfl⟩⟩
    go_wp2_with fail
    go_ret
    exact ⟨Qae fin.out.symm, FIN.out y3⟩
  | true =>
  cases b3 with
  | false =>
    have fin : Hid (res = false) := by show _ = _; rw [HRES.out]; simp
    clear HRES
    go_enter Try.func41, Try.ntmps41
    go_wp2_with fail
    refine (C1.out ⟨_, Y0.out⟩).mono ?_
    rintro e w2 ⟨rfl, ⟨y2, rfl⟩⟩
    go_wp2_with fail
    refine (C2.out y2).mono ?_
    rintro e w3 ⟨rfl, ⟨y3, rfl⟩⟩
    go_wp2_with fail
    refine (C3.out y3).mono ?_
    rintro e w4 ⟨rfl, ⟨y4, rfl⟩⟩
    go_wp2_with fail
    go_ret
    exact ⟨Qae fin.out.symm, FIN.out y4⟩
  | true =>
  cases b4 with
  | false =>
    have fin : Hid (res = false) := by show _ = _; rw [HRES.out]; simp
    clear HRES
    go_enter Try.func41, Try.ntmps41
    go_wp2_with fail
    refine (C1.out ⟨_, Y0.out⟩).mono ?_
    rintro e w2 ⟨rfl, ⟨y2, rfl⟩⟩
    go_wp2_with fail
    refine (C2.out y2).mono ?_
    rintro e w3 ⟨rfl, ⟨y3, rfl⟩⟩
    go_wp2_with fail
    refine (C3.out y3).mono ?_
    rintro e w4 ⟨rfl, ⟨y4, rfl⟩⟩
    go_wp2_with fail
    refine (C4.out y4).mono ?_
    rintro e w5 ⟨rfl, ⟨y5, rfl⟩⟩
    go_wp2_with fail
    go_ret
    exact ⟨Qae fin.out.symm, FIN.out y5⟩
  | true =>
  have hlt := L3.out rfl
  have hlc := L4.out rfl
  by_cases h3 : dk = 3
  · subst h3
    have e33 : ((3 : Int) == 3) = true := rfl
    by_cases ht0 : 0 < (dt.length : Int) + dc.length
    · have fin : Hid (res = false) := by
          have : decide ((3 : Int) = 3 ∧ 0 < (dt.length : Int) + dc.length) = true := decide_eq_true ⟨rfl, by omega⟩
          show _ = _; rw [HRES.out]; rw [this]; simp
      clear HRES
      go_enter Try.func41, Try.ntmps41
      go_wp2_with fail
      refine (C1.out ⟨_, Y0.out⟩).mono ?_
      rintro e w2 ⟨rfl, ⟨y2, rfl⟩⟩
      go_wp2_with fail
      refine (C2.out y2).mono ?_
      rintro e w3 ⟨rfl, ⟨y3, rfl⟩⟩
      go_wp2_with fail
      refine (C3.out y3).mono ?_
      rintro e w4 ⟨rfl, ⟨y4, rfl⟩⟩
      go_wp2_with fail
      refine (C4.out y4).mono ?_
      rintro e w5 ⟨rfl, ⟨y5, rfl⟩⟩
      go_wp2_with fail
      go_ret
      exact ⟨Qae fin.out.symm, FIN.out y5⟩
    by_cases r32 : 32 < (dr.length : Int)
    · have fin : Hid (res = false) := by
          have : decide (dr.length ≤ 32) = false := decide_eq_false (by omega)
          show _ = _; rw [HRES.out]; rw [this]; simp
      clear HRES
      go_enter Try.func41, Try.ntmps41
      go_wp2_with fail
      refine (C1.out ⟨_, Y0.out⟩).mono ?_
      rintro e w2 ⟨rfl, ⟨y2, rfl⟩⟩
      go_wp2_with fail
      refine (C2.out y2).mono ?_
      rintro e w3 ⟨rfl, ⟨y3, rfl⟩⟩
      go_wp2_with fail
      refine (C3.out y3).mono ?_
      rintro e w4 ⟨rfl, ⟨y4, rfl⟩⟩
      go_wp2_with fail
      refine (C4.out y4).mono ?_
      rintro e w5 ⟨rfl, ⟨y5, rfl⟩⟩
      go_wp2_with fail
      go_ret
      exact ⟨Qae fin.out.symm, FIN.out y5⟩
    have HR2 : Hid (res = dr.all rowB) := by
      show _ = _; rw [HRES.out, decide_eq_false (p := (3 : Int) = 3 ∧ 0 < (dt.length : Int) + dc.length) (by omega), decide_eq_false (p := (3 : Int) ≠ 3 ∧ 0 < dr.length) (by omega), decide_eq_true (p := 1 ≤ (3 : Int) ∧ (3 : Int) ≤ 3) (by omega), decide_eq_true (p := dr.length ≤ 32) (by omega)]; simp
    clear HRES
    go_enter Try.func41, Try.ntmps41
    go_wp2_with fail
    refine (C1.out ⟨_, Y0.out⟩).mono ?_
    rintro e w2 ⟨rfl, ⟨y2, rfl⟩⟩
    go_wp2_with fail
    refine (C2.out y2).mono ?_
    rintro e w3 ⟨rfl, ⟨y3, rfl⟩⟩
    go_wp2_with fail
    refine (C3.out y3).mono ?_
    rintro e w4 ⟨rfl, ⟨y4, rfl⟩⟩
    go_wp2_with fail
    refine (C4.out y4).mono ?_
    rintro e w5 ⟨rfl, ⟨y5, rfl⟩⟩
    go_wp2_with fail
    have HY := Lib.hid y5.b
    go_loopw [70] (fun i wr => ∃ (k : Nat) (x : Later (w.alloc (.cells #[.int .i64 3, .int .i64 da, .string dn, .slice ta dt.length tc, .int .i64 bk, .int .i64 ba, .string bn, .int .i64 bm, .slice va bs.length vc, .slice ca dc.length cc, .slice ra dr.length rc] 43))), k ≤ dr.length ∧ i = .int .i64 k ∧ wr = x.w ∧ Hid ((dr.take k).all rowB = true)) (fun i _ => dr.length - (intOf i).toNat)
    case atStart => exact ⟨0, ⟨_, HY.out⟩, Nat.zero_le _, rfl, rfl, rfl⟩
    case round =>
      obtain ⟨k, x, hk, rfl, rfl, HA⟩ := hrel
      by_cases hlt : k < dr.length
      · obtain ⟨b, off, p0, p1, p2, q0, q1, q2, rfl, e0, e1, e2, e3, e4, e5, e6, e7, hrow⟩ := rw_at (HR.out.later (FIN.out x)) k hlt
        have hb0 : (0 : Int) ≤ k := by omega
        have hb1 : (k : Int) < dr.length := by omega
        have hstep := Qin rowB dr k hlt
        rw [HA.out, Bool.true_and] at hstep
        have hno : rowB dr[k] = false → res = false := fun h => by rw [HR2.out, Qhx k hlt h]
        have E2 := Qiz x.w #[.int .i64 dr[k].at_, .slice p0 p1 p2, .bool dr[k].has, .int .i64 dr[k].body.kind, .int .i64 dr[k].body.at, .string dr[k].body.name, .int .i64 dr[k].body.num, .slice q0 q1 q2] 66
        have HE2 := Lib.hid E2
        have CR := Lib.hid (row_any S dr[k] _ _ (hrow.later E2.2.1))
        clear E2
        clear hrow
        cases hp : rowB dr[k] with
        | false =>
          have fin := Lib.hid (hno hp)
          rw [hp] at CR
          clear hp hno hstep
          go_wp2_with fail
          refine CR.out.mono ?_
          rintro e w9 ⟨rfl, hb2⟩
          go_wp2_with fail
          go_ret
          exact ⟨Qae fin.out.symm, (FIN.out x).trans ((HE2.out.2.1.trans (hb2.mono HE2.out.2.1.size)).mono (FIN.out x).size)⟩
        | true =>
          rw [hp] at CR hstep
          have HA2 := Lib.hid hstep
          clear hp hno hstep
          go_wp2_with fail
          refine CR.out.mono ?_
          rintro e w9 ⟨rfl, hb2⟩
          go_wp2_with fail
          have hx2 := x.b.trans ((HE2.out.2.1.trans (hb2.mono HE2.out.2.1.size)).mono x.b.size)
          clear hb2
          go_roundw
          case rel => first | exact ⟨k + 1, ⟨_, hx2⟩, by omega, by go_num, rfl, HA2⟩ | exact ⟨_, ⟨k + 1, ⟨_, hx2⟩, by omega, by go_num, rfl, HA2⟩, rfl⟩ | exact ⟨_, _, ⟨k + 1, ⟨_, hx2⟩, by omega, by go_num, rfl, HA2⟩, rfl⟩ | exact ⟨_, _, _, ⟨k + 1, ⟨_, hx2⟩, by omega, by go_num, rfl, HA2⟩, rfl⟩ | exact ⟨_, _, _, _, ⟨k + 1, ⟨_, hx2⟩, by omega, by go_num, rfl, HA2⟩, rfl⟩ | skip
          case measure => simp [intOf]; omega
      · obtain rfl : k = dr.length := by omega
        rw [List.take_length] at HA
        have fin : Hid (res = true) := by show _ = _; rw [HR2.out, HA.out]
        have HX := Lib.hid (FIN.out x)
        go_wp2_with fail
        go_ret
        exact ⟨Qae fin.out.symm, HX.out⟩
  · have e3 : (dk == 3) = false := by simpa using h3
    have e3' : (dk != 3) = true := by simpa using h3
    by_cases hr0 : 0 < (dr.length : Int)
    · have fin : Hid (res = false) := by
          have : decide (dk ≠ 3 ∧ 0 < dr.length) = true := decide_eq_true ⟨h3, by omega⟩
          show _ = _; rw [HRES.out]; rw [this]; simp
      clear HRES
      have hne : ¬ dr = [] := by intro e; rw [e] at hr0; simp at hr0
      go_enter Try.func41, Try.ntmps41
      go_wp2_with fail
      refine (C1.out ⟨_, Y0.out⟩).mono ?_
      rintro e w2 ⟨rfl, ⟨y2, rfl⟩⟩
      go_wp2_with fail
      refine (C2.out y2).mono ?_
      rintro e w3 ⟨rfl, ⟨y3, rfl⟩⟩
      go_wp2_with fail
      refine (C3.out y3).mono ?_
      rintro e w4 ⟨rfl, ⟨y4, rfl⟩⟩
      go_wp2_with fail
      refine (C4.out y4).mono ?_
      rintro e w5 ⟨rfl, ⟨y5, rfl⟩⟩
      go_wp2_with fail
      go_ret
      exact ⟨Qae fin.out.symm, FIN.out y5⟩
    have hr1 : (dr = []) = True := eq_true (List.eq_nil_of_length_eq_zero (by omega))
    have HR2 : Hid (res = dr.all rowB) := by
      show _ = _; rw [HRES.out, decide_eq_false (p := dk = 3 ∧ 0 < (dt.length : Int) + dc.length) (by omega), decide_eq_false (p := dk ≠ 3 ∧ 0 < dr.length) (by omega), decide_eq_true (p := 1 ≤ dk ∧ dk ≤ 3) (by omega), decide_eq_true (p := dr.length ≤ 32) (by omega)]; simp
    clear HRES
    go_enter Try.func41, Try.ntmps41
    go_wp2_with fail
    refine (C1.out ⟨_, Y0.out⟩).mono ?_
    rintro e w2 ⟨rfl, ⟨y2, rfl⟩⟩
    go_wp2_with fail
    refine (C2.out y2).mono ?_
    rintro e w3 ⟨rfl, ⟨y3, rfl⟩⟩
    go_wp2_with fail
    refine (C3.out y3).mono ?_
    rintro e w4 ⟨rfl, ⟨y4, rfl⟩⟩
    go_wp2_with fail
    refine (C4.out y4).mono ?_
    rintro e w5 ⟨rfl, ⟨y5, rfl⟩⟩
    go_wp2_with fail
    have HY := Lib.hid y5.b
    go_loopw [70] (fun i wr => ∃ (k : Nat) (x : Later (w.alloc (.cells #[.int .i64 dk, .int .i64 da, .string dn, .slice ta dt.length tc, .int .i64 bk, .int .i64 ba, .string bn, .int .i64 bm, .slice va bs.length vc, .slice ca dc.length cc, .slice ra dr.length rc] 43))), k ≤ dr.length ∧ i = .int .i64 k ∧ wr = x.w ∧ Hid ((dr.take k).all rowB = true)) (fun i _ => dr.length - (intOf i).toNat)
    case atStart => exact ⟨0, ⟨_, HY.out⟩, Nat.zero_le _, rfl, rfl, rfl⟩
    case round =>
      obtain ⟨k, x, hk, rfl, rfl, HA⟩ := hrel
      by_cases hlt : k < dr.length
      · exact absurd hlt (by omega)
      · obtain rfl : k = dr.length := by omega
        rw [List.take_length] at HA
        have fin : Hid (res = true) := by show _ = _; rw [HR2.out, HA.out]
        have HX := Lib.hid (FIN.out x)
        go_wp2_with fail
        go_ret
        exact ⟨Qae fin.out.symm, HX.out⟩
end Go.Proofs.Ytahhgpafjiljfaa
