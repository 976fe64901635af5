import Derived.Test.YtahhgpafjiljfaaGreatPT29
set_option linter.unusedSimpArgs false
set_option linter.unusedVariables false
set_option maxHeartbeats 16000000
set_option maxRecDepth 100000
namespace Go.Proofs.YtahhgpafjiljfaaGreat
open Go.RowKit
def Qes (a b : Rw) : Bool := (a.has == b.has) && Qbv a.body b.body && eqA Qbv a.pats b.pats
theorem samerow_any (S S' : Nat → Prop) (p q : Rw) (cs ds : List Value) (w : World) (hp : Rep S w p cs) (hq : Rep S' w q ds) : Calls Tryz.prog 46 #[.agg cs.toArray, .agg ds.toArray] w fun e w' => e = .returned (.bool (Qes p q)) ∧ Below w.heap.size w w' := by
  obtain ⟨ra, rp, rh, ⟨bk, ba, bn, bm, bs⟩⟩ := p
  obtain ⟨sa, sp, sh, ⟨ck, ca, cn, cm, ct⟩⟩ := q
  obtain ⟨p, v, rfl, hp1, hbn, hv⟩ := rep_rw.1 hp
  obtain ⟨q, u, rfl, hq1, hcn, hu⟩ := rep_rw.1 hq
  simp only [Nd.kind, Nd.at, Nd.name, Nd.num, Nd.sub] at hp1 hbn hv hq1 hcn hu ⊢
  obtain ⟨pa, pc, rfl, h1, h2⟩ := hp1.shape
  obtain ⟨va, vc, rfl, -, -⟩ := hv.shape
  obtain ⟨qa, qc, rfl, h3, h4⟩ := hq1.shape
  obtain ⟨ua, uc, rfl, -, -⟩ := hu.shape
  have hl : rp.length ≤ 9223372036854775807 := by unfold maxLen at h2; omega
  have hm : sp.length ≤ 9223372036854775807 := by unfold maxLen at h4; omega
  have E := boxes2 w #[.int .i64 ra, .slice pa rp.length pc, .bool rh, .int .i64 bk, .int .i64 ba, .string bn, .int .i64 bm, .slice va bs.length vc] #[.int .i64 sa, .slice qa sp.length qc, .bool sh, .int .i64 ck, .int .i64 ca, .string cn, .int .i64 cm, .slice ua ct.length uc] 62 62
  have HP := Lib.hid hp1.toC
  have HQ := Lib.hid hq1.toC
  have HB := Lib.hid (Rep.toC _ _ ((rep_nd (t := .mk bk ba bn bm bs)).2 ⟨_, rfl, hbn, hv⟩))
  have HC := Lib.hid (Rep.toC _ _ ((rep_nd (t := .mk ck ca cn cm ct)).2 ⟨_, rfl, hcn, hu⟩))
  have hbox := fun (y : Later ((w.alloc (.cells #[.int .i64 ra, .slice pa rp.length pc, .bool rh, .int .i64 bk, .int .i64 ba, .string bn, .int .i64 bm, .slice va bs.length vc] 62)).alloc (.cells #[.int .i64 sa, .slice qa sp.length qc, .bool sh, .int .i64 ck, .int .i64 ca, .string cn, .int .i64 cm, .slice ua ct.length uc] 62))) (j : Nat) => (Qih (w := y.w) ((y.b.block w.heap.size (by simp; omega)).trans E.1) j)
  have hbox2 := fun (y : Later ((w.alloc (.cells #[.int .i64 ra, .slice pa rp.length pc, .bool rh, .int .i64 bk, .int .i64 ba, .string bn, .int .i64 bm, .slice va bs.length vc] 62)).alloc (.cells #[.int .i64 sa, .slice qa sp.length qc, .bool sh, .int .i64 ck, .int .i64 ca, .string cn, .int .i64 cm, .slice ua ct.length uc] 62))) (j : Nat) => (Qih (w := y.w) ((y.b.block (w.heap.size + 1) (by simp)).trans E.2.1) j)
  have g1 : ∀ y : Later ((w.alloc (.cells #[.int .i64 ra, .slice pa rp.length pc, .bool rh, .int .i64 bk, .int .i64 ba, .string bn, .int .i64 bm, .slice va bs.length vc] 62)).alloc (.cells #[.int .i64 sa, .slice qa sp.length qc, .bool sh, .int .i64 ck, .int .i64 ca, .string cn, .int .i64 cm, .slice ua ct.length uc] 62)), y.w.cell? ⟨w.heap.size, 1, none⟩ = some (.slice pa rp.length pc) := fun y => hbox y 1
  have g2 : ∀ y : Later ((w.alloc (.cells #[.int .i64 ra, .slice pa rp.length pc, .bool rh, .int .i64 bk, .int .i64 ba, .string bn, .int .i64 bm, .slice va bs.length vc] 62)).alloc (.cells #[.int .i64 sa, .slice qa sp.length qc, .bool sh, .int .i64 ck, .int .i64 ca, .string cn, .int .i64 cm, .slice ua ct.length uc] 62)), y.w.cell? ⟨w.heap.size, 2, none⟩ = some (.bool rh) := fun y => hbox y 2
  have g3 : ∀ y : Later ((w.alloc (.cells #[.int .i64 ra, .slice pa rp.length pc, .bool rh, .int .i64 bk, .int .i64 ba, .string bn, .int .i64 bm, .slice va bs.length vc] 62)).alloc (.cells #[.int .i64 sa, .slice qa sp.length qc, .bool sh, .int .i64 ck, .int .i64 ca, .string cn, .int .i64 cm, .slice ua ct.length uc] 62)), y.w.cell? ⟨w.heap.size, 3, none⟩ = some (.int .i64 bk) := fun y => hbox y 3
  have g4 : ∀ y : Later ((w.alloc (.cells #[.int .i64 ra, .slice pa rp.length pc, .bool rh, .int .i64 bk, .int .i64 ba, .string bn, .int .i64 bm, .slice va bs.length vc] 62)).alloc (.cells #[.int .i64 sa, .slice qa sp.length qc, .bool sh, .int .i64 ck, .int .i64 ca, .string cn, .int .i64 cm, .slice ua ct.length uc] 62)), y.w.cell? ⟨w.heap.size, 4, none⟩ = some (.int .i64 ba) := fun y => hbox y 4
  have g5 : ∀ y : Later ((w.alloc (.cells #[.int .i64 ra, .slice pa rp.length pc, .bool rh, .int .i64 bk, .int .i64 ba, .string bn, .int .i64 bm, .slice va bs.length vc] 62)).alloc (.cells #[.int .i64 sa, .slice qa sp.length qc, .bool sh, .int .i64 ck, .int .i64 ca, .string cn, .int .i64 cm, .slice ua ct.length uc] 62)), y.w.cell? ⟨w.heap.size, 5, none⟩ = some (.string bn) := fun y => hbox y 5
  have g6 : ∀ y : Later ((w.alloc (.cells #[.int .i64 ra, .slice pa rp.length pc, .bool rh, .int .i64 bk, .int .i64 ba, .string bn, .int .i64 bm, .slice va bs.length vc] 62)).alloc (.cells #[.int .i64 sa, .slice qa sp.length qc, .bool sh, .int .i64 ck, .int .i64 ca, .string cn, .int .i64 cm, .slice ua ct.length uc] 62)), y.w.cell? ⟨w.heap.size, 6, none⟩ = some (.int .i64 bm) := fun y => hbox y 6
  have g7 : ∀ y : Later ((w.alloc (.cells #[.int .i64 ra, .slice pa rp.length pc, .bool rh, .int .i64 bk, .int .i64 ba, .string bn, .int .i64 bm, .slice va bs.length vc] 62)).alloc (.cells #[.int .i64 sa, .slice qa sp.length qc, .bool sh, .int .i64 ck, .int .i64 ca, .string cn, .int .i64 cm, .slice ua ct.length uc] 62)), y.w.cell? ⟨w.heap.size, 7, none⟩ = some (.slice va bs.length vc) := fun y => hbox y 7
  have k1 : ∀ y : Later ((w.alloc (.cells #[.int .i64 ra, .slice pa rp.length pc, .bool rh, .int .i64 bk, .int .i64 ba, .string bn, .int .i64 bm, .slice va bs.length vc] 62)).alloc (.cells #[.int .i64 sa, .slice qa sp.length qc, .bool sh, .int .i64 ck, .int .i64 ca, .string cn, .int .i64 cm, .slice ua ct.length uc] 62)), y.w.cell? ⟨w.heap.size + 1, 1, none⟩ = some (.slice qa sp.length qc) := fun y => hbox2 y 1
  have k2 : ∀ y : Later ((w.alloc (.cells #[.int .i64 ra, .slice pa rp.length pc, .bool rh, .int .i64 bk, .int .i64 ba, .string bn, .int .i64 bm, .slice va bs.length vc] 62)).alloc (.cells #[.int .i64 sa, .slice qa sp.length qc, .bool sh, .int .i64 ck, .int .i64 ca, .string cn, .int .i64 cm, .slice ua ct.length uc] 62)), y.w.cell? ⟨w.heap.size + 1, 2, none⟩ = some (.bool sh) := fun y => hbox2 y 2
  have k3 : ∀ y : Later ((w.alloc (.cells #[.int .i64 ra, .slice pa rp.length pc, .bool rh, .int .i64 bk, .int .i64 ba, .string bn, .int .i64 bm, .slice va bs.length vc] 62)).alloc (.cells #[.int .i64 sa, .slice qa sp.length qc, .bool sh, .int .i64 ck, .int .i64 ca, .string cn, .int .i64 cm, .slice ua ct.length uc] 62)), y.w.cell? ⟨w.heap.size + 1, 3, none⟩ = some (.int .i64 ck) := fun y => hbox2 y 3
  have k4 : ∀ y : Later ((w.alloc (.cells #[.int .i64 ra, .slice pa rp.length pc, .bool rh, .int .i64 bk, .int .i64 ba, .string bn, .int .i64 bm, .slice va bs.length vc] 62)).alloc (.cells #[.int .i64 sa, .slice qa sp.length qc, .bool sh, .int .i64 ck, .int .i64 ca, .string cn, .int .i64 cm, .slice ua ct.length uc] 62)), y.w.cell? ⟨w.heap.size + 1, 4, none⟩ = some (.int .i64 ca) := fun y => hbox2 y 4
  have k5 : ∀ y : Later ((w.alloc (.cells #[.int .i64 ra, .slice pa rp.length pc, .bool rh, .int .i64 bk, .int .i64 ba, .string bn, .int .i64 bm, .slice va bs.length vc] 62)).alloc (.cells #[.int .i64 sa, .slice qa sp.length qc, .bool sh, .int .i64 ck, .int .i64 ca, .string cn, .int .i64 cm, .slice ua ct.length uc] 62)), y.w.cell? ⟨w.heap.size + 1, 5, none⟩ = some (.string cn) := fun y => hbox2 y 5
  have k6 : ∀ y : Later ((w.alloc (.cells #[.int .i64 ra, .slice pa rp.length pc, .bool rh, .int .i64 bk, .int .i64 ba, .string bn, .int .i64 bm, .slice va bs.length vc] 62)).alloc (.cells #[.int .i64 sa, .slice qa sp.length qc, .bool sh, .int .i64 ck, .int .i64 ca, .string cn, .int .i64 cm, .slice ua ct.length uc] 62)), y.w.cell? ⟨w.heap.size + 1, 6, none⟩ = some (.int .i64 cm) := fun y => hbox2 y 6
  have k7 : ∀ y : Later ((w.alloc (.cells #[.int .i64 ra, .slice pa rp.length pc, .bool rh, .int .i64 bk, .int .i64 ba, .string bn, .int .i64 bm, .slice va bs.length vc] 62)).alloc (.cells #[.int .i64 sa, .slice qa sp.length qc, .bool sh, .int .i64 ck, .int .i64 ca, .string cn, .int .i64 cm, .slice ua ct.length uc] 62)), y.w.cell? ⟨w.heap.size + 1, 7, none⟩ = some (.slice ua ct.length uc) := fun y => hbox2 y 7
  have FIN : Hid (∀ y : Later ((w.alloc (.cells #[.int .i64 ra, .slice pa rp.length pc, .bool rh, .int .i64 bk, .int .i64 ba, .string bn, .int .i64 bm, .slice va bs.length vc] 62)).alloc (.cells #[.int .i64 sa, .slice qa sp.length qc, .bool sh, .int .i64 ck, .int .i64 ca, .string cn, .int .i64 cm, .slice ua ct.length uc] 62)), Below w.heap.size w y.w) := fun y => E.2.2.1.trans (y.b.mono E.2.2.1.size)
  have Y0 : Hid (Below ((w.alloc (.cells #[.int .i64 ra, .slice pa rp.length pc, .bool rh, .int .i64 bk, .int .i64 ba, .string bn, .int .i64 bm, .slice va bs.length vc] 62)).alloc (.cells #[.int .i64 sa, .slice qa sp.length qc, .bool sh, .int .i64 ck, .int .i64 ca, .string cn, .int .i64 cm, .slice ua ct.length uc] 62)).heap.size ((w.alloc (.cells #[.int .i64 ra, .slice pa rp.length pc, .bool rh, .int .i64 bk, .int .i64 ba, .string bn, .int .i64 bm, .slice va bs.length vc] 62)).alloc (.cells #[.int .i64 sa, .slice qa sp.length qc, .bool sh, .int .i64 ck, .int .i64 ca, .string cn, .int .i64 cm, .slice ua ct.length uc] 62)) ((w.alloc (.cells #[.int .i64 ra, .slice pa rp.length pc, .bool rh, .int .i64 bk, .int .i64 ba, .string bn, .int .i64 bm, .slice va bs.length vc] 62)).alloc (.cells #[.int .i64 sa, .slice qa sp.length qc, .bool sh, .int .i64 ck, .int .i64 ca, .string cn, .int .i64 cm, .slice ua ct.length uc] 62))) := Below.refl _ _
  have CS : Hid (∀ y : Later ((w.alloc (.cells #[.int .i64 ra, .slice pa rp.length pc, .bool rh, .int .i64 bk, .int .i64 ba, .string bn, .int .i64 bm, .slice va bs.length vc] 62)).alloc (.cells #[.int .i64 sa, .slice qa sp.length qc, .bool sh, .int .i64 ck, .int .i64 ca, .string cn, .int .i64 cm, .slice ua ct.length uc] 62)), Calls Tryz.prog 14 #[.agg #[.int .i64 bk, .int .i64 ba, .string bn, .int .i64 bm, .slice va bs.length vc], .agg #[.int .i64 ck, .int .i64 ca, .string cn, .int .i64 cm, .slice ua ct.length uc]] y.w fun e w'' => e = .returned (.bool (Qbv (.mk bk ba bn bm bs) (.mk ck ca cn cm ct))) ∧ ∃ z : Later ((w.alloc (.cells #[.int .i64 ra, .slice pa rp.length pc, .bool rh, .int .i64 bk, .int .i64 ba, .string bn, .int .i64 bm, .slice va bs.length vc] 62)).alloc (.cells #[.int .i64 sa, .slice qa sp.length qc, .bool sh, .int .i64 ck, .int .i64 ca, .string cn, .int .i64 cm, .slice ua ct.length uc] 62)), w'' = z.w) := fun y => Calls.later y (Qjv _ _ _ _ _ (HB.out.later (FIN.out y)) (HC.out.later (FIN.out y)))
  have HRES : Hid (Qes ⟨ra, rp, rh, .mk bk ba bn bm bs⟩ ⟨sa, sp, sh, .mk ck ca cn cm ct⟩ = ((rh == sh) && Qbv (.mk bk ba bn bm bs) (.mk ck ca cn cm ct) && eqA Qbv rp sp)) := rfl
  generalize Qes ⟨ra, rp, rh, .mk bk ba bn bm bs⟩ ⟨sa, sp, sh, .mk ck ca cn cm ct⟩ = res at *
  generalize Qbv (.mk bk ba bn bm bs) (.mk ck ca cn cm ct) = sb at *
  clear hp hq hp1 hq1 hv hu h1 h2 h3 h4 hbn hcn E hbox hbox2 HB HC
  by_cases hh : rh = sh
  rotate_left
  · have n1 : (rh == sh) = false := by cases rh <;> cases sh <;> simp_all
    have n2 : (rh != sh) = true := by cases rh <;> cases sh <;> simp_all
    have fin : Hid (res = false) := by show _ = _; rw [HRES.out, n1]; rfl
    clear HRES
    go_enter Tryz.func46, Tryz.ntmps46
    go_wp2_with fail
    go_ret
    exact ⟨Qab fin.out.symm, FIN.out ⟨_, Y0.out⟩⟩
  subst hh
  by_cases hlen : (rp.length : Int) = sp.length
  rotate_left
  · have n1 : ((rp.length : Int) == sp.length) = false := by simpa using hlen
    have n2 : ((rp.length : Int) != sp.length) = true := by simpa using hlen
    have fin : Hid (res = false) := by show _ = _; rw [HRES.out, eqA_len (by omega)]; simp
    clear HRES
    go_enter Tryz.func46, Tryz.ntmps46
    go_wp2_with fail
    go_ret
    exact ⟨Qab fin.out.symm, FIN.out ⟨_, Y0.out⟩⟩
  have n1 : ((rp.length : Int) == sp.length) = true := by simpa using hlen
  have n2 : ((rp.length : Int) != sp.length) = false := by rw [hlen]; simp
  have HLEN : Hid (rp.length = sp.length) := by show _ = _; omega
  clear hlen
  cases sb with
  | false =>
    have fin : Hid (res = false) := by show _ = _; rw [HRES.out]; simp
    clear HRES
    go_enter Tryz.func46, Tryz.ntmps46
    go_wp2_with fail
    refine (CS.out ⟨_, Y0.out⟩).mono ?_
    rintro e w2 ⟨rfl, ⟨y2, rfl⟩⟩
    go_wp2_with fail
    go_ret
    exact ⟨Qab fin.out.symm, FIN.out y2⟩
  | true =>
    have HR : Hid (eqA Qbv rp sp = res) := by show _ = _; rw [HRES.out]; simp
    clear HRES
    go_enter Tryz.func46, Tryz.ntmps46
    go_wp2_with fail
    refine (CS.out ⟨_, Y0.out⟩).mono ?_
    rintro e w2 ⟨rfl, ⟨y2, rfl⟩⟩
    go_wp2_with fail
    have HY2 := Lib.hid y2.b
    go_loopw [31] (fun i wr => ∃ (k : Nat) (x : Later ((w.alloc (.cells #[.int .i64 ra, .slice pa rp.length pc, .bool rh, .int .i64 bk, .int .i64 ba, .string bn, .int .i64 bm, .slice va bs.length vc] 62)).alloc (.cells #[.int .i64 sa, .slice qa sp.length qc, .bool rh, .int .i64 ck, .int .i64 ca, .string cn, .int .i64 cm, .slice ua ct.length uc] 62))), k ≤ rp.length ∧ i = .int .i64 k ∧ wr = x.w ∧ Hid (eqA Qbv (rp.drop k) (sp.drop k) = res)) (fun i _ => rp.length - (intOf i).toNat)
    case atStart => exact ⟨0, ⟨_, HY2.out⟩, Nat.zero_le _, rfl, rfl, HR.out⟩
    case round =>
      obtain ⟨k, x, hk, rfl, rfl, HG⟩ := hrel
      by_cases hlt : k < rp.length
      · have hlt2 : k < sp.length := by have := HLEN.out; omega
        obtain ⟨b, off, a', cap', rfl, e0, e1, e2, e3, e4, hts⟩ := Qid HP.out (FIN.out x) k hlt
        obtain ⟨b2, off2, a2, cap2, rfl, f0, f1, f2, f3, f4, hus⟩ := Qid HQ.out (FIN.out x) k hlt2
        have hb0 : (0 : Int) ≤ k := by omega
        have hb1 : (k : Int) < rp.length := by omega
        have hb2 : (k : Int) < sp.length := by omega
        have hstep : eqA Qbv (rp.drop k) (sp.drop k) = (Qbv rp[k] sp[k] && eqA Qbv (rp.drop (k + 1)) (sp.drop (k + 1))) := by
          rw [List.drop_eq_getElem_cons hlt, List.drop_eq_getElem_cons hlt2]; rfl
        have C2 : Hid (∀ y : Later x.w, Calls Tryz.prog 14 #[.agg #[.int .i64 rp[k].kind, .int .i64 rp[k].at, .string rp[k].name, .int .i64 rp[k].num, .slice a' rp[k].sub.length cap'], .agg #[.int .i64 sp[k].kind, .int .i64 sp[k].at, .string sp[k].name, .int .i64 sp[k].num, .slice a2 sp[k].sub.length cap2]] y.w fun e w'' => e = .returned (.bool (Qbv rp[k] sp[k])) ∧ ∃ z : Later x.w, w'' = z.w) := fun y => Calls.later y (Qjv _ _ _ _ _ (hts.later y.b) (hus.later y.b))
        have HX := Lib.hid (fun (y : Later x.w) => x.b.trans (y.b.mono x.b.size))
        have HG2 : Hid ((Qbv rp[k] sp[k] && eqA Qbv (rp.drop (k + 1)) (sp.drop (k + 1))) = res) := by show _ = _; rw [← hstep]; exact HG.out
        have E0 := Later.cell e0
        have E1 := Later.cell e1
        have E2 := Later.cell e2
        have E3 := Later.cell e3
        have E4 := Later.cell e4
        have F0 := Later.cell f0
        have F1 := Later.cell f1
        have F2 := Later.cell f2
        have F3 := Later.cell f3
        have F4 := Later.cell f4
        have G1 := Later.cell (g1 x)
        have K1 := Later.cell (k1 x)
        have X0 : Hid (Below x.w.heap.size x.w x.w.drew) := (Below.refl _ _).drew
        clear hstep HG hts hus e0 e1 e2 e3 e4 f0 f1 f2 f3 f4
        generalize Qbv rp[k] sp[k] = sb at *
        cases sb with
        | false =>
          have fin : Hid (res = false) := by show _ = _; rw [← HG2.out]; rfl
          clear HG2
          go_wp2_with fail
          refine Qcw (X := Later x.w) Later.w (by kernel_rfl) (by kernel_rfl) ⟨_, X0.out⟩ rfl ?_
          repeat (go_big_quiet_step ((with_reducible exact C2.out _)))
          refine wpQuiet_nil ?_
          intro y
          go_wp2_with fail
          go_ret
          exact ⟨Qab fin.out.symm, FIN.out ⟨_, HX.out y⟩⟩
        | true =>
          have HG3 : Hid (eqA Qbv (rp.drop (k + 1)) (sp.drop (k + 1)) = res) := by show _ = _; rw [← HG2.out]; rfl
          clear HG2
          go_wp2_with fail
          refine Qcw (X := Later x.w) Later.w (by kernel_rfl) (by kernel_rfl) ⟨_, X0.out⟩ rfl ?_
          repeat (go_big_quiet_step ((with_reducible exact C2.out _)))
          refine wpQuiet_nil ?_
          intro y
          go_wp2_with fail
          go_roundw
          case rel => exact ⟨k + 1, ⟨_, HX.out y⟩, by omega, by go_num, rfl, HG3⟩
          case measure => simp [intOf]; omega
      · have fin : Hid (res = true) := by
          have := HG.out
          rw [List.drop_of_length_le (by omega), List.drop_of_length_le (by have := HLEN.out; omega)] at this
          show _ = _; rw [← this]; rfl
        have HX := Lib.hid (FIN.out x)
        go_wp2_with fail
        go_ret
        exact ⟨Qab fin.out.symm, HX.out⟩
end Go.Proofs.YtahhgpafjiljfaaGreat
