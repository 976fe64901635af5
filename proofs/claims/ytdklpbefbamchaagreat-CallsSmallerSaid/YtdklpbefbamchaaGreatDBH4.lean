import Derived.Test.YtdklpbefbamchaaGreatDBH3
set_option linter.unusedSimpArgs false
set_option linter.unusedVariables false
set_option maxHeartbeats 16000000
set_option maxRecDepth 100000
namespace Go.Proofs.YtdklpbefbamchaaGreat
open Go.RowKit
theorem stand_two {l : List En} {p : Pt} {t : Tm} (h : Qat l p t = 2) : plsT l p t = true := by
 unfold Qat at h
 split at h
 ·omega
 ·split at h
  ·assumption
  ·omega
theorem smaller29_p (p : Pt) (t : Tm) (vs : List Tm) : PCalls Tryz.prog 7 [aggD p, aggD t, .d (.sl (vs.map encD))] [] fun r s => r = .d (.v (.bool true)) ∧ s = [] := by
  have hO := Lib.hid (of29_p [p])
  have hW := Lib.hid Qjn
  have hB := Lib.hid rbase_p
  obtain ⟨hof1, hof2⟩ := Qjb [p] 300
  generalize ofL [p] 300 = W at *
  by_cases h2 : 0 < W.2
  rotate_left
  · generalize baseL = B at *
    clear hof1 hof2
    simp only [aggD, Qao, Jl, List.map_cons, List.map_nil] at hO ⊢
    refine PCalls.enter Tryz.func7 rfl Tryz.ntmps7 (by simp) ?_
    simp only [Qab]
    refine go_ ?_
    refine Jd ?_
    intro i0 hi0
    try simp only [Ja, Rh, Rg, Jb] at hi0
    refine go_ ?_
    refine Jd ?_
    intro i1 hi1
    try simp only [Ja, Rh, Rg, Jb] at hi1
    refine go_ ?_
    refine Jc (hB.out) ?_
    refine go_ ?_
    refine Qam ?_
    refine go_ ?_
    refine Jc (hO.out) ?_
    refine go_ ?_
    refine Jc (hW.out) ?_
    refine go_ ?_
    refine Jm (by simp) (by simp only [Tryz.results7]; rfl) (by simp [resP, St.box?, PF.get, Jn, TyK.agg, *]; rfl) Nl ?_
    exact ⟨rfl, rfl⟩
  obtain ⟨e1, e2⟩ := hof2 h2
  simp only [pndL] at e2
  have hpn : pndT p ≤ 300 := by omega
  rw [e1] at hO
  clear hof1 hof2 e1 e2
  have hR1 := Lib.hid (Qhy baseL p Qft (by omega))
  have HT : Hid (pRight baseL p = true → PCalls Tryz.prog 20 [.d (.sl (baseL.map encD)), aggD p, .d (.sl (prs29.map encD))] [] fun r s => r = bldP (bldT baseL prs29 p) ∧ s = []) := fun h => r24Term_p baseL Qer prs29 (by decide) (fun c => Qiq c) p (Qee h).2.2
  have hS := Lib.hid (Qfc t)
  have hC0 := Lib.hid (bC_p 0)
  have hC3 := Lib.hid (bC_p 3)
  have HPl : Hid (Qad t = true → PCalls Tryz.prog 41 [.d (.sl (baseL.map encD)), aggD t] [] fun r s => r = .d (.v (.bool (plN baseL 8192 t))) ∧ s = []) := fun h => plain_p baseL Qer 8192 t (Qaq h).2.2 (by omega) (Qaq h).1
  have HSt : Hid (pRight baseL p = true → Qad t = true → PCalls Tryz.prog 40 [.d (.sl (baseL.map encD)), aggD p, aggD t] [] fun r s => r = .d (.v (.int .i64 (Qat baseL p t))) ∧ s = []) := fun h1 h3 => by
    have q1 := Qgl baseL p t Qft (by omega)
    rw [if_pos ⟨h1, h3⟩] at q1; exact q1
  have HZ : Hid (∀ v : Tm, PCalls Tryz.prog 16 [aggD v] [] fun p s => p = .d (.v (.int .i64 (Qca v))) ∧ s = []) := fun v => rSize_p v
  have HE : Hid (∀ x : Tm, Qac x = true → cndT x ≤ 8192 → PCalls Tryz.prog 43 [.d (.sl (baseL.map encD)), aggD x] [] fun r s => r = aggD (erN baseL 8192 x) ∧ s = []) := fun x hg hc => erased_p baseL Qer 8192 x hc (by omega) hg
  have HV : Hid ((∀ v ∈ vs, ¬ 60 < Qca v) → vs.length ≤ 12 → ∀ x : Tm, Qac x = true → cndT x ≤ 8192 → PCalls Tryz.prog 42 [.d (.sl (vs.map encD)), aggD (erN baseL 8192 x)] [] fun r s => r = .d (.v (.int .i64 (svT vs (erN baseL 8192 x) : Int))) ∧ s = []) := fun hv hl x hg hc => by
    have hv2 : ∀ v ∈ vs, cndT v ≤ 60 := fun v hm => by
      have h1 := hv v hm
      rw [size_nd] at h1
      omega
    have h3 := sv_le hv2 (erN baseL 8192 x)
    have h4 := erN_cnd (l := baseL) 8192 x hg
    exact size29_p vs (by omega) (fun v hm => by have := hv2 v hm; omega) _ (by omega)
  have HB : Hid (∀ x : Tm, pRight baseL p = true → bldT baseL prs29 p = some x → Qac x = true ∧ cndT x ≤ 8192) := fun x h1 h3 => by
    obtain ⟨q1, q2⟩ := bld_good (l := baseL) (by decide) Qer (by decide) prs_good p x (Qee h1).2.2 h3
    exact ⟨q1, by omega⟩
  have HL : Hid (∀ x : Tm, pRight baseL p = true → bldT baseL prs29 p = some x → Qad t = true → plN baseL 8192 t = true → Qat baseL p t = 2 → svT vs (erN baseL 8192 t) < svT vs (erN baseL 8192 x)) := fun x h1 h3 h4 h5 h6 => by
    obtain ⟨q1, q2⟩ := HB.out x h1 h3
    obtain ⟨g1, -, g3⟩ := Qaq h4
    have h7 := smaller_law (l := baseL) (pars := prs29) (vs := vs) (fun c => Qiq c) (fun u hu => (prs_good u hu).1) g1 (pl_pap h5) p x (Qee h1).2.2 q1 (stand_two h6) h3
    unfold erT at h7
    rw [erN_le (cndT t) 8192 t (Nat.le_refl _) g3 g1, erN_le (cndT x) 8192 x (Nat.le_refl _) q2 q1] at h7
    exact h7
  have HG : Hid (Qad t = true → Qac t = true ∧ cndT t ≤ 8192) := fun h => ⟨(Qaq h).1, (Qaq h).2.2⟩
  generalize pRight baseL p = r1 at *
  generalize bldT baseL prs29 p = o at *
  generalize plN baseL 8192 t = pl at *
  generalize Qat baseL p t = st at *
  generalize Qad t = sh at *
  have HE0 : Hid (∀ f : Tm → Tm, f = erN baseL 8192 → True) := fun _ _ => trivial
  clear HE0
  generalize erN baseL 8192 = er at *
  generalize baseL = B at *
  simp only [prs29, aggD, Qao, Jl, List.map_cons, List.map_nil, Tm.kind_mk, Tm.num_mk, Tm.sub_mk] at hO hR1 HT hS hC0 hC3 HPl HSt HZ HE HV ⊢
  by_cases hbad : r1 = false ∨ sh = false ∨ pl = false ∨ (12 : Int) < vs.length ∨ st ≠ 2
  · clear HT HZ HE HV HB HL HG hC0 hC3
    cases r1 with
    | false =>
      clear hbad HPl HSt
      refine PCalls.enter Tryz.func7 rfl Tryz.ntmps7 (by simp) ?_
      simp only [Qab]
      refine go_ ?_
      refine Jd ?_
      intro i0 hi0
      try simp only [Ja, Rh, Rg, Jb] at hi0
      refine go_ ?_
      refine Jd ?_
      intro i1 hi1
      try simp only [Ja, Rh, Rg, Jb] at hi1
      refine go_ ?_
      refine Jc (hB.out) ?_
      refine go_ ?_
      refine Qam ?_
      refine go_ ?_
      refine Jc (hO.out) ?_
      refine go_ ?_
      refine Jr (hR1.out) ?_
      refine go_ ?_
      refine Jc (hW.out) ?_
      refine go_ ?_
      refine Jm (by simp) (by simp only [Tryz.results7]; rfl) (by simp [resP, St.box?, PF.get, Jn, TyK.agg, *]; rfl) Nl ?_
      exact ⟨rfl, rfl⟩
    | true =>
    cases sh with
    | false =>
      clear hbad HPl HSt
      refine PCalls.enter Tryz.func7 rfl Tryz.ntmps7 (by simp) ?_
      simp only [Qab]
      refine go_ ?_
      refine Jd ?_
      intro i0 hi0
      try simp only [Ja, Rh, Rg, Jb] at hi0
      refine go_ ?_
      refine Jd ?_
      intro i1 hi1
      try simp only [Ja, Rh, Rg, Jb] at hi1
      refine go_ ?_
      refine Jc (hB.out) ?_
      refine go_ ?_
      refine Qam ?_
      refine go_ ?_
      refine Jc (hO.out) ?_
      refine go_ ?_
      refine Jr (hR1.out) ?_
      refine go_ ?_
      refine Jr (hS.out) ?_
      refine go_ ?_
      refine Jc (hW.out) ?_
      refine go_ ?_
      refine Jm (by simp) (by simp only [Tryz.results7]; rfl) (by simp [resP, St.box?, PF.get, Jn, TyK.agg, *]; rfl) Nl ?_
      exact ⟨rfl, rfl⟩
    | true =>
    have hPl := Lib.hid (HPl.out rfl)
    have hSt := Lib.hid (HSt.out rfl rfl)
    clear HPl HSt
    refine PCalls.enter Tryz.func7 rfl Tryz.ntmps7 (by simp) ?_
    simp only [Qab]
    refine go_ ?_
    refine Jd ?_
    intro i0 hi0
    try simp only [Ja, Rh, Rg, Jb] at hi0
    refine go_ ?_
    refine Jd ?_
    intro i1 hi1
    try simp only [Ja, Rh, Rg, Jb] at hi1
    refine go_ ?_
    refine Jc (hB.out) ?_
    refine go_ ?_
    refine Qam ?_
    refine go_ ?_
    refine Jc (hO.out) ?_
    refine go_ ?_
    refine Jr (hR1.out) ?_
    refine go_ ?_
    refine Jr (hS.out) ?_
    refine go_ ?_
    refine Jr (hPl.out) ?_
    cases pl with
    | false =>
      clear hbad
      refine go_ ?_
      refine Jc (hW.out) ?_
      refine go_ ?_
      refine Jm (by simp) (by simp only [Tryz.results7]; rfl) (by simp [resP, St.box?, PF.get, Jn, TyK.agg, *]; rfl) Nl ?_
      exact ⟨rfl, rfl⟩
    | true =>
    refine go_ ?_
    by_cases h12 : (12 : Int) < vs.length
    · clear hbad
      refine go_ ?_
      refine Jc (hW.out) ?_
      refine go_ ?_
      refine Jm (by simp) (by simp only [Tryz.results7]; rfl) (by simp [resP, St.box?, PF.get, Jn, TyK.agg, *]; rfl) Nl ?_
      exact ⟨rfl, rfl⟩
    have hst : (st != 2) = true := by
      rcases hbad with h | h | h | h | h
      · cases h
      · cases h
      · cases h
      · exact absurd h h12
      · simpa using h
    clear hbad
    refine go_ ?_
    refine Jr (hSt.out) ?_
    refine go_ ?_
    refine Jc (hW.out) ?_
    refine go_ ?_
    refine Jm (by simp) (by simp only [Tryz.results7]; rfl) (by simp [resP, St.box?, PF.get, Jn, TyK.agg, *]; rfl) Nl ?_
    exact ⟨rfl, rfl⟩
  have hr1 : r1 = true := by cases r1 <;> simp_all
  have hsh : sh = true := by cases sh <;> simp_all
  have hpl : pl = true := by cases pl <;> simp_all
  have h12 : ¬ (12 : Int) < vs.length := fun h => hbad (.inr (.inr (.inr (.inl h))))
  have hst2 : st = 2 := Decidable.byContradiction fun h => hbad (.inr (.inr (.inr (.inr h))))
  subst hr1 hsh hpl hst2
  clear hbad
  have hPl := Lib.hid (HPl.out rfl)
  have hSt := Lib.hid (HSt.out rfl rfl)
  have hT := Lib.hid (HT.out rfl)
  obtain ⟨g1, g2⟩ := HG.out rfl
  have hE1 := Lib.hid (HE.out t g1 g2)
  clear HPl HSt HT HG
  refine PCalls.enter Tryz.func7 rfl Tryz.ntmps7 (by simp) ?_
  simp only [Qab]
  refine go_ ?_
  refine Jd ?_
  intro i0 hi0
  try simp only [Ja, Rh, Rg, Jb] at hi0
  refine go_ ?_
  refine Jd ?_
  intro i1 hi1
  try simp only [Ja, Rh, Rg, Jb] at hi1
  refine go_ ?_
  refine Jc (hB.out) ?_
  refine go_ ?_
  refine Qam ?_
  refine go_ ?_
  refine Jc (hO.out) ?_
  refine go_ ?_
  refine Jr (hR1.out) ?_
  refine go_ ?_
  refine Jr (hS.out) ?_
  refine go_ ?_
  refine Jr (hPl.out) ?_
  refine go_ ?_
  refine Jr (hSt.out) ?_
  refine go_ ?_
  refine Qak (ι := Nat) (fun y => y ≤ vs.length ∧ Hid (∀ v ∈ vs.take y, ¬ 60 < Qca v)) (fun y => [(2, .d (.sl (vs.map encD))), (4, .ptr i1 0), (7, .d (.sl (B.map encD))), (8, .d (.sl [[.v (.int .i64 p.kind), .v (.int .i64 p.num), .v (.int .i64 p.at_), .sl (p.sub.map encD), .v (.int .i64 p.t.kind), .v (.int .i64 p.t.num), .sl (p.t.sub.map encD)]])), (10, .d (.v (.int .i64 (y : Int))))]) (fun _ => [.box i1 26 [.d (.v (.int .i64 t.kind)), .d (.v (.int .i64 t.num)), .d (.sl (t.sub.map encD))]]) (fun y => vs.length - y) 0 ⟨Nat.zero_le _, fun v hv => by simp at hv⟩ ?_ ?_ ?_
  · repeat (first | exact Jt _ | refine Js (by simp [PF.get]; rfl) (by first | rfl | (simp [*]; done) | fail) ?_)
  · repeat (first | exact List.Sublist.refl _ | exact List.nil_sublist _ | refine List.Sublist.cons_cons _ ?_ | refine List.Sublist.cons _ ?_)
  rintro j ⟨hj, hR⟩
  by_cases hlt : j < vs.length
  · have hxs := Qal hlt
    have hc : (j : Int) < vs.length := by omega
    have hn1 : (0 : Int) ≤ j := by omega
    have hin := wr64 (n := (j : Int) + 1) (by omega) (by omega)
    have hc1 := Lib.hid (HZ.out vs[j])
    have hR2 : Hid (¬ 60 < Qca vs[j] → ∀ v ∈ vs.take (j + 1), ¬ 60 < Qca v) := fun h v hv => by
      rw [List.take_succ_eq_append_getElem hlt, List.mem_append, List.mem_singleton] at hv
      rcases hv with hv | rfl
      · exact hR.out v hv
      · exact h
    clear hR
    generalize Qca vs[j] = z at *
    refine go_ ?_
    refine Jc (hc1.out) ?_
    by_cases hz : 60 < z
    · refine go_ ?_
      refine Jc (hW.out) ?_
      refine go_ ?_
      refine Jm (by simp) (by simp only [Tryz.results7]; rfl) (by simp [resP, St.box?, PF.get, Jn, TyK.agg, *]; rfl) Nl ?_
      exact ⟨rfl, rfl⟩
    · have hR3 := hR2.out hz
      refine go_ ?_
      exact ⟨j + 1, ⟨hlt, hR3⟩, by omega, by repeat (first | exact Jt _ | refine Js (by simp [PF.get]; rfl) (by first | rfl | (simp [*]; done) | fail) ?_), by repeat (first | exact List.Sublist.refl _ | exact List.nil_sublist _ | refine List.Sublist.cons_cons _ ?_ | refine List.Sublist.cons _ ?_)⟩
  have hc : ¬ (j : Int) < vs.length := by omega
  have hvall : ∀ v ∈ vs, ¬ 60 < Qca v := fun v hv => hR.out v (by rw [List.take_of_length_le (by omega)]; exact hv)
  have HV2 := Lib.hid (HV.out hvall (by omega))
  have hV1 := Lib.hid (HV2.out t g1 g2)
  clear hR HV
  cases o with
  | none =>
    simp only [bldP, aggD, Jl, List.map_nil, Tm.kind_mk, Tm.num_mk, Tm.sub_mk] at hT
    refine go_ ?_
    refine Qek (J := Qcy [(i1, _)]) [(0, .a), (1, .a), (2, .a), (3, .a), (4, .a), (5, .a), (6, .a), (7, .a), (8, .a), (9, .a), (10, .a), (11, .e), (12, .e), (13, .a)] (by kernel_rfl) (by rfl) (by kernel_rfl) (by (repeat (first | exact Qap _ | refine Ju (by simp [St.box?, *] <;> rfl) ?_))) ?_
    repeat (first | with_reducible refine Qaw ?_ | refine Qay ?_ | refine Qbe ?_ | refine Qbg ?_)
    refine Qdp (hC0.out) ?_
    repeat (first | with_reducible refine Qaw ?_ | refine Qay ?_ | refine Qbe ?_ | refine Qbg ?_)
    refine Qdp (hC3.out) ?_
    repeat (first | with_reducible refine Qaw ?_ | refine Qay ?_ | refine Qbe ?_ | refine Qbg ?_)
    refine PJ_bs ?_ rfl (by decide) rfl (by simp; rfl) (by rfl) (by simp; rfl) (by rfl) (by decide) (by decide) (by simp [nev, nevA, nevB, Jp, PF.eval, PF.get, PF.wants, cPV, Qag, PV.rows, Qah, evUn, Jq, Qaj, Qai, Jn, TyK.agg, Qaf, St.box?, St.tok?, St.setBox, St.setTok, Qae, spl, PV.ps, PV.one, Jo, aggD, slD, Jh, Jk, Ji, Jj, Jg, Jf, *]; rfl) (by simp [Qco, toDs, PV.toD]; rfl)
    repeat (first | with_reducible refine Qaw ?_ | refine Qay ?_ | refine Qbe ?_ | refine Qbg ?_)
    refine Qdp (hT.out) ?_
    repeat (first | with_reducible refine Qaw ?_ | refine Qay ?_ | refine Qbe ?_ | refine Qbg ?_)
    refine Qgh rfl (by decide) rfl (by simp; rfl) (fun i hi => by simp only [Ja, Rh, Rg] at hi; (repeat (first | exact Qap _ | refine Ju (by simp [St.box?, *] <;> rfl) ?_))) ?_
    intro i2 hi2
    try simp only [Ja, Rh, Rg, Jb] at hi2
    repeat (first | with_reducible refine Qaw ?_ | refine Qay ?_ | refine Qbe ?_ | refine Qbg ?_)
    refine Qgi rfl rfl (by simp [nev, nevA, nevB, Jp, PF.eval, PF.get, PF.wants, cPV, Qag, PV.rows, Qah, evUn, Jq, Qaj, Qai, Jn, TyK.agg, Qaf, St.box?, St.tok?, St.setBox, St.setTok, Qae, spl, PV.ps, PV.one, Jo, aggD, slD, Jh, Jk, Ji, Jj, Jg, Jf, *]; rfl) (by rfl) (by simp [nev, nevA, nevB, Jp, PF.eval, PF.get, PF.wants, cPV, Qag, PV.rows, Qah, evUn, Jq, Qaj, Qai, Jn, TyK.agg, Qaf, St.box?, St.tok?, St.setBox, St.setTok, Qae, spl, PV.ps, PV.one, Jo, aggD, slD, Jh, Jk, Ji, Jj, Jg, Jf, *]; rfl) (by simp [PV.ps, aggD, slD, Jh, Jk, Ji, Jj, Jg, Jf]; rfl) (by first | rfl | (simp [*]; done) | (simp [PV.one, *]; done) | fail) (by simp; rfl) (by first | (simp; done) | fail) (by simp [nev, nevA, nevB, Jp, PF.eval, PF.get, PF.wants, cPV, Qag, PV.rows, Qah, evUn, Jq, Qaj, Qai, Jn, TyK.agg, Qaf, St.box?, St.tok?, St.setBox, St.setTok, Qae, spl, PV.ps, PV.one, Jo, aggD, slD, Jh, Jk, Ji, Jj, Jg, Jf, *]; rfl) (by rfl) (by first | (simp; done) | fail) (by simp [St.setBox, spl, *]; rfl) (by (repeat (first | exact Qap _ | refine Ju (by simp [St.box?, *] <;> rfl) ?_))) ?_
    repeat (first | with_reducible refine Qaw ?_ | refine Qay ?_ | refine Qbe ?_ | refine Qbg ?_)
    refine go_ ?_
    refine Jc (hW.out) ?_
    refine go_ ?_
    refine Jm (by simp) (by simp only [Tryz.results7]; rfl) (by simp [resP, St.box?, PF.get, Jn, TyK.agg, *]; rfl) Nl ?_
    exact ⟨rfl, rfl⟩
  | some x =>
    obtain ⟨x1, x2⟩ := HB.out x rfl rfl
    have hE2 := Lib.hid (HE.out x x1 x2)
    have hV3 := Lib.hid (HV2.out x x1 x2)
    have hlt2 := HL.out x rfl rfl rfl rfl rfl
    simp only [bldP, aggD, Jl] at hT
    clear HE HV2 HB HL HZ
    generalize er t = ta at *
    generalize er x = xa at *
    generalize svT vs ta = na at *
    generalize svT vs xa = nb at *
    have hlt3 : (na : Int) < nb := by omega
    clear hlt2
    refine go_ ?_
    refine Qek (J := Qcy [(i1, _)]) [(0, .a), (1, .a), (2, .a), (3, .a), (4, .a), (5, .a), (6, .a), (7, .a), (8, .a), (9, .a), (10, .a), (11, .e), (12, .e), (13, .a)] (by kernel_rfl) (by rfl) (by kernel_rfl) (by (repeat (first | exact Qap _ | refine Ju (by simp [St.box?, *] <;> rfl) ?_))) ?_
    repeat (first | with_reducible refine Qaw ?_ | refine Qay ?_ | refine Qbe ?_ | refine Qbg ?_)
    refine Qdp (hC0.out) ?_
    repeat (first | with_reducible refine Qaw ?_ | refine Qay ?_ | refine Qbe ?_ | refine Qbg ?_)
    refine Qdp (hC3.out) ?_
    repeat (first | with_reducible refine Qaw ?_ | refine Qay ?_ | refine Qbe ?_ | refine Qbg ?_)
    refine PJ_bs ?_ rfl (by decide) rfl (by simp; rfl) (by rfl) (by simp; rfl) (by rfl) (by decide) (by decide) (by simp [nev, nevA, nevB, Jp, PF.eval, PF.get, PF.wants, cPV, Qag, PV.rows, Qah, evUn, Jq, Qaj, Qai, Jn, TyK.agg, Qaf, St.box?, St.tok?, St.setBox, St.setTok, Qae, spl, PV.ps, PV.one, Jo, aggD, slD, Jh, Jk, Ji, Jj, Jg, Jf, *]; rfl) (by simp [Qco, toDs, PV.toD]; rfl)
    repeat (first | with_reducible refine Qaw ?_ | refine Qay ?_ | refine Qbe ?_ | refine Qbg ?_)
    refine Qdp (hT.out) ?_
    repeat (first | with_reducible refine Qaw ?_ | refine Qay ?_ | refine Qbe ?_ | refine Qbg ?_)
    refine Qgh rfl (by decide) rfl (by simp; rfl) (fun i hi => by simp only [Ja, Rh, Rg] at hi; (repeat (first | exact Qap _ | refine Ju (by simp [St.box?, *] <;> rfl) ?_))) ?_
    intro i2 hi2
    try simp only [Ja, Rh, Rg, Jb] at hi2
    repeat (first | with_reducible refine Qaw ?_ | refine Qay ?_ | refine Qbe ?_ | refine Qbg ?_)
    refine Qgi rfl rfl (by simp [nev, nevA, nevB, Jp, PF.eval, PF.get, PF.wants, cPV, Qag, PV.rows, Qah, evUn, Jq, Qaj, Qai, Jn, TyK.agg, Qaf, St.box?, St.tok?, St.setBox, St.setTok, Qae, spl, PV.ps, PV.one, Jo, aggD, slD, Jh, Jk, Ji, Jj, Jg, Jf, *]; rfl) (by rfl) (by simp [nev, nevA, nevB, Jp, PF.eval, PF.get, PF.wants, cPV, Qag, PV.rows, Qah, evUn, Jq, Qaj, Qai, Jn, TyK.agg, Qaf, St.box?, St.tok?, St.setBox, St.setTok, Qae, spl, PV.ps, PV.one, Jo, aggD, slD, Jh, Jk, Ji, Jj, Jg, Jf, *]; rfl) (by simp [PV.ps, aggD, slD, Jh, Jk, Ji, Jj, Jg, Jf]; rfl) (by first | rfl | (simp [*]; done) | (simp [PV.one, *]; done) | fail) (by simp; rfl) (by first | (simp; done) | fail) (by simp [nev, nevA, nevB, Jp, PF.eval, PF.get, PF.wants, cPV, Qag, PV.rows, Qah, evUn, Jq, Qaj, Qai, Jn, TyK.agg, Qaf, St.box?, St.tok?, St.setBox, St.setTok, Qae, spl, PV.ps, PV.one, Jo, aggD, slD, Jh, Jk, Ji, Jj, Jg, Jf, *]; rfl) (by rfl) (by first | (simp; done) | fail) (by simp [St.setBox, spl, *]; rfl) (by (repeat (first | exact Qap _ | refine Ju (by simp [St.box?, *] <;> rfl) ?_))) ?_
    repeat (first | with_reducible refine Qaw ?_ | refine Qay ?_ | refine Qbe ?_ | refine Qbg ?_)
    refine go_ ?_
    refine Qax [(0, .a), (1, .a), (2, .b), (3, .a), (4, .a), (5, .a), (6, .a), (7, .b), (8, .a), (9, .a), (10, .a), (11, .a), (12, .a), (13, .a), (14, .a)] (by kernel_rfl) (by rfl) (by kernel_rfl) ?_
    refine go_ ?_
    refine Qaa (hE1.out) ?_
    refine go_ ?_
    refine Qaa (hV1.out) ?_
    refine go_ ?_
    refine Qaa (hE2.out) ?_
    refine go_ ?_
    refine Qaa (hV3.out) ?_
    refine go_ ?_
    refine Qbm (hW.out) ?_
    refine go_ ?_
    refine Jm (by simp) (by simp only [Tryz.results7]; rfl) (by simp [resP, St.box?, PF.get, Jn, TyK.agg, *]; rfl) Nl ?_
    exact ⟨rfl, rfl⟩
section
variable {H : Type} {enc : TypeId × Value → H} {w : World} {base : Nat} {spare : Nat → Bool} {held : Bool}
def TvC (w : World) (t : Tm) (cs : List Value) : Prop := Rep (fun _ => True) w t cs
theorem open_tv (n : Nat) (cs : List Value) (x : DataW H × List MemPlace) (h : DataW.trod enc Tryz.prog w base spare held n 26 cs = some x) : ∃ t, TvC w t cs := opn_tm n cs x h
end
theorem smaller_walk (p : Pt) (cs : List Value) (t : Tm) (cs2 : List Value) (v : Value) (vs : List Tm) (w : World) (h : PtC w p cs) (h2 : TvC w t cs2) (h3 : TwS w v vs) : Calls Tryz.prog 7 #[.agg cs.toArray, .agg cs2.toArray, v] w fun e w' => e = .returned (.bool true) ∧ Below w.heap.size w w' := by
 refine PCalls.top ((smaller29_p p t vs).mono fun _ _ h => h.1) ?_
 exact Qby (rel_rep (K := K0 w) (fun b o v _ h => ⟨v, h⟩) h) (Qby (rel_rep (K := K0 w) (fun b o v _ h => ⟨v, h⟩) h2) (Qby (.d (relS_of (fun b o v _ hv => ⟨v, hv⟩) (by decide) h3)) (Qel _ _)))
end Go.Proofs.YtdklpbefbamchaaGreat
