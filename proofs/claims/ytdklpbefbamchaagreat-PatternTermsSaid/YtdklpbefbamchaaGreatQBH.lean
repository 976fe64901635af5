import Derived.Test.YtdklpbefbamchaaGreatDBH2
import Derived.Test.YtdklpbefbamchaaGreatQBG
set_option linter.unusedSimpArgs false
set_option linter.unusedVariables false
set_option maxHeartbeats 16000000
set_option maxRecDepth 100000
namespace Go.Proofs.YtdklpbefbamchaaGreat
open Go.RowKit
theorem r24TermC_p (l : List En) (hF : formedB l = true) (pars : List Tm) (hpl : pars.length ≤ 1000) (hp : ∀ (i : Nat) (k : Nat), arN l i = k → parN l i ≤ pars.length) : ∀ p : Pt, pgT l p = true → PCalls Tryz.prog 20 [.d (.sl (l.map encD)), aggD p, .d (.sl (pars.map encD))] [] fun r s => r = bldP (bldT l pars p) ∧ s = [] := by
  refine Pt.ind ?_
  intro k n a sub d ih hg
  obtain ⟨R, hR⟩ : ∃ R, R = bldT l pars (.mk k n a sub d) := ⟨_, rfl⟩
  rw [← hR]
  by_cases k1 : k = 1
  · subst k1
    rw [bld_var] at hR
    have hL := Lib.hid (rleaf_p 8 n)
    subst hR
    clear ih hg hF hp
    simp only [bldP, aggD, Qao, Jl, List.map_cons, List.map_nil, Pt.kind_mk, Pt.num_mk, Pt.at_mk, Pt.sub_mk, Pt.t_mk, Tm.kind_mk, Tm.num_mk, Tm.sub_mk] at hL ⊢
    refine PCalls.enter Tryz.func20 rfl Tryz.ntmps20 (by simp) ?_
    simp only [Qab]
    refine go_ ?_
    refine Jd ?_
    intro i0 hi0
    try simp only [Ja, Rh, Rg, Jb] at hi0
    refine go_ ?_
    refine Je ?_
    intro i1 hi1
    try simp only [Ja, Rh, Rg, Jb] at hi1
    refine go_ ?_
    refine Jc (hL.out) ?_
    refine go_ ?_
    refine Rd ?_
    refine go_ ?_
    refine Jm (by simp) (by simp only [Tryz.results20]; rfl) (by simp [resP, St.box?, PF.get, Jn, TyK.agg, *]; rfl) Nl ?_
    exact ⟨rfl, rfl⟩
  by_cases k2 : k = 2
  rotate_left
  · rw [bld_no k1 k2] at hR
    subst hR
    have k2b : (k != 2) = true := bne_iff_ne.2 k2
    clear ih hg hF hp k2
    simp only [bldP, aggD, Qao, Jl, List.map_cons, List.map_nil, Pt.kind_mk, Pt.num_mk, Pt.at_mk, Pt.sub_mk, Pt.t_mk, Tm.kind_mk, Tm.num_mk, Tm.sub_mk]
    refine PCalls.enter Tryz.func20 rfl Tryz.ntmps20 (by simp) ?_
    simp only [Qab]
    refine go_ ?_
    refine Jd ?_
    intro i0 hi0
    try simp only [Ja, Rh, Rg, Jb] at hi0
    refine go_ ?_
    refine Je ?_
    intro i1 hi1
    try simp only [Ja, Rh, Rg, Jb] at hi1
    refine go_ ?_
    refine Rd ?_
    refine go_ ?_
    refine Jm (by simp) (by simp only [Tryz.results20]; rfl) (by simp [resP, St.box?, PF.get, Jn, TyK.agg, *]; rfl) Nl ?_
    exact ⟨rfl, rfl⟩
  subst k2
  rw [Qie] at hR
  obtain ⟨har, hgs⟩ := Qhf hg
  obtain ⟨i, x, m, rfl, hil, hx, hx0, hpm, hmp, hm24, hs24⟩ := con_at hF har
  rw [← hmp] at hR
  have hmp2 : m ≤ pars.length := by rw [hmp]; exact hp i _ har
  have IH : Hid (∀ s ∈ sub, PCalls Tryz.prog 20 [.d (.sl (l.map encD)), aggD s, .d (.sl (pars.map encD))] [] fun r s' => r = bldP (bldT l pars s) ∧ s' = []) := fun s hs => ih s hs (hgs s hs)
  have HS : Hid (List.drop 0 (List.take m (pars.map encD)) = ((pars.take m).map encD)) := by show _ = _; rw [List.drop_zero, List.map_take]
  have hC := Lib.hid (bC_p i)
  have hAp := Lib.hid (rapply07_p (.mk 6 i []) (pars.take m) (by rw [List.length_take]; omega))
  rw [apT_apply] at hAp
  generalize Qau (.mk 6 i []) (pars.take m) = t0 at *
  obtain ⟨B, hB⟩ : ∃ B, B = pars.take m := ⟨_, rfl⟩
  rw [← hB] at hAp HS
  have HR : Hid (R = (bldL l pars (sub.drop 0)).map fun ts => Qau t0 ts) := hR
  have hc0 : (i : Int) < l.length := by omega
  have hn0 : (0 : Int) ≤ i := by omega
  have hmi : (m : Int) ≤ pars.length := by omega
  clear hR k1 hF hg har hgs ih hmp hx0 hil hp hB
  simp only [aggD, Qao, Jl, List.map_cons, List.map_nil, Pt.kind_mk, Pt.num_mk, Pt.at_mk, Pt.sub_mk, Pt.t_mk, Tm.kind_mk, Tm.num_mk, Tm.sub_mk] at hC hAp ⊢
  refine PCalls.enter Tryz.func20 rfl Tryz.ntmps20 (by simp) ?_
  simp only [Qab]
  refine go_ ?_
  refine Jd ?_
  intro i0 hi0
  try simp only [Ja, Rh, Rg, Jb] at hi0
  refine go_ ?_
  refine Je ?_
  intro i1 hi1
  try simp only [Ja, Rh, Rg, Jb] at hi1
  refine go_ ?_
  refine Qek (J := Qcy [(i0, _)]) [(0, .a), (1, .a), (2, .a), (3, .a), (4, .a), (5, .a), (6, .a), (7, .a), (8, .a), (9, .a), (10, .a), (11, .a), (12, .e), (13, .e)] (by kernel_rfl) (by rfl) (by kernel_rfl) (by (repeat (first | exact Qap _ | refine Ju (by simp [St.box?, *] <;> rfl) ?_))) ?_
  repeat (first | with_reducible refine Qaw ?_ | refine Qay ?_ | refine Qbe ?_ | refine Qbg ?_)
  refine Qdp (hC.out) ?_
  repeat (first | with_reducible refine Qaw ?_ | refine Qay ?_ | refine Qbe ?_ | refine Qbg ?_)
  refine Qhg 0 m ?_ ?_ HS.out
  rotate_left
  · exact Qem _
  repeat (first | with_reducible refine Qaw ?_ | refine Qay ?_ | refine Qbe ?_ | refine Qbg ?_)
  refine Qdp (hAp.out) ?_
  repeat (first | with_reducible refine Qaw ?_ | refine Qay ?_ | refine Qbe ?_ | refine Qbg ?_)
  refine Qgh rfl (by decide) rfl (by simp; rfl) (fun i hi => by simp only [Ja, Rh, Rg] at hi; (repeat (first | exact Qap _ | refine Ju (by simp [St.box?, *] <;> rfl) ?_))) ?_
  intro i2 hi2
  try simp only [Ja, Rh, Rg, Jb] at hi2
  repeat (first | with_reducible refine Qaw ?_ | refine Qay ?_ | refine Qbe ?_ | refine Qbg ?_)
  refine Qgi rfl rfl (by simp [nev, nevA, nevB, Jp, PF.eval, PF.get, PF.wants, cPV, Qag, PV.rows, Qah, evUn, Jq, Qaj, Qai, Jn, TyK.agg, Qaf, St.box?, St.tok?, St.setBox, St.setTok, Qae, spl, PV.ps, PV.one, Jo, aggD, slD, Jh, Jk, Ji, Jj, Jg, Jf, *]; rfl) (by rfl) (by simp [nev, nevA, nevB, Jp, PF.eval, PF.get, PF.wants, cPV, Qag, PV.rows, Qah, evUn, Jq, Qaj, Qai, Jn, TyK.agg, Qaf, St.box?, St.tok?, St.setBox, St.setTok, Qae, spl, PV.ps, PV.one, Jo, aggD, slD, Jh, Jk, Ji, Jj, Jg, Jf, *]; rfl) (by simp [PV.ps, aggD, slD, Jh, Jk, Ji, Jj, Jg, Jf]; rfl) (by first | rfl | (simp [*]; done) | (simp [PV.one, *]; done) | fail) (by simp; rfl) (by first | (simp; done) | fail) (by simp [nev, nevA, nevB, Jp, PF.eval, PF.get, PF.wants, cPV, Qag, PV.rows, Qah, evUn, Jq, Qaj, Qai, Jn, TyK.agg, Qaf, St.box?, St.tok?, St.setBox, St.setTok, Qae, spl, PV.ps, PV.one, Jo, aggD, slD, Jh, Jk, Ji, Jj, Jg, Jf, *]; rfl) (by rfl) (by first | (simp; done) | fail) (by simp [St.setBox, spl, *]; rfl) (by (repeat (first | exact Qap _ | refine Ju (by simp [St.box?, *] <;> rfl) ?_))) ?_
  repeat (first | with_reducible refine Qaw ?_ | refine Qay ?_ | refine Qbe ?_ | refine Qbg ?_)
  refine go_ ?_
  clear HS hC hAp
  refine Qak (ι := Nat × Tm) (fun y => y.1 ≤ sub.length ∧ Hid (R = (bldL l pars (sub.drop y.1)).map fun ts => Qau y.2 ts)) (fun y => [(0, .d (.sl (l.map encD))), (2, .d (.sl (pars.map encD))), (4, .ptr i0 0), (6, .ptr i1 0), (8, .ptr i2 0), (9, .d (.v (.int .i64 (y.1 : Int))))]) (fun y => [.box i2 26 [.d (.v (.int .i64 y.2.kind)), .d (.v (.int .i64 y.2.num)), .d (.sl (y.2.sub.map encD))], .box i1 26 [.d (.v (.int .i64 0)), .d (.v (.int .i64 0)), .nils], .box i0 44 [.d (.v (.int .i64 2)), .d (.v (.int .i64 (i : Int))), .d (.v (.int .i64 a)), .d (.sl (sub.map encD)), .d (.v (.int .i64 d.kind)), .d (.v (.int .i64 d.num)), .d (.sl (d.sub.map encD))]]) (fun y => sub.length - y.1) (0, t0) ⟨Nat.zero_le _, HR.out⟩ ?_ ?_ ?_
  · repeat (first | exact Jt _ | refine Js (by simp [PF.get]; rfl) (by first | rfl | (simp [*]; done) | fail) ?_)
  · repeat (first | exact List.Sublist.refl _ | exact List.nil_sublist _ | refine List.Sublist.cons_cons _ ?_ | refine List.Sublist.cons _ ?_)
  rintro ⟨j, u⟩ ⟨hj, hR⟩
  simp only at hj hR ⊢
  clear HR
  by_cases hlt : j < sub.length
  · have hxs := Qal hlt
    have hc : (j : Int) < sub.length := by omega
    have hn1 : (0 : Int) ≤ j := by omega
    have hin := wr64 (n := (j : Int) + 1) (by omega) (by omega)
    have hc1 := Lib.hid (IH.out _ (List.getElem_mem hlt))
    have hR2 : Hid (R = match bldT l pars sub[j] with | none => none | some t => (bldL l pars (sub.drop (j + 1))).map fun ts => Qau u (t :: ts)) := by
      show _ = _
      rw [show R = _ from hR.out, List.drop_eq_getElem_cons hlt]
      simp only [bldL]
      cases bldT l pars sub[j] with
      | none => rfl
      | some t => simp only [Option.map_map]; rfl
    simp only [aggD, Qao, Jl, List.map_cons, List.map_nil] at hc1
    clear hR
    generalize bldT l pars sub[j] = o at *
    cases o with
    | none =>
      have hf : Hid (R = none) := hR2.out
      clear hR2
      simp only [bldP, aggD, Jl, List.map_nil, Tm.kind_mk, Tm.num_mk, Tm.sub_mk] at hc1
      refine go_ ?_
      refine Jc (hc1.out) ?_
      refine go_ ?_
      refine Je ?_
      intro i3 hi3
      try simp only [Ja, Rh, Rg, Jb] at hi3
      refine go_ ?_
      refine Rd ?_
      refine go_ ?_
      refine Rd ?_
      refine go_ ?_
      refine Jm (by simp) (by simp only [Tryz.results20]; rfl) (by simp [resP, St.box?, PF.get, Jn, TyK.agg, *]; rfl) Nl ?_
      exact ⟨by rw [hf.out]; rfl, rfl⟩
    | some t =>
      have hR3 : Hid (R = (bldL l pars (sub.drop (j + 1))).map fun ts => Qau (.mk 5 0 [u, t]) ts) := hR2.out
      have hA1 := Lib.hid (bA_p u [t] (by simp))
      rw [show apT u [t] = .mk 5 0 [u, t] from rfl] at hA1
      clear hR2
      simp only [bldP, aggD, Jl, List.map_cons, List.map_nil, Tm.kind_mk, Tm.num_mk, Tm.sub_mk] at hc1 hA1
      refine go_ ?_
      refine Jc (hc1.out) ?_
      refine go_ ?_
      refine Je ?_
      intro i3 hi3
      try simp only [Ja, Rh, Rg, Jb] at hi3
      refine go_ ?_
      refine Rd ?_
      refine go_ ?_
      refine Qam ?_
      refine go_ ?_
      refine Jc (hA1.out) ?_
      refine go_ ?_
      refine Rd ?_
      refine go_ ?_
      refine ⟨(j + 1, .mk 5 0 [u, t]), ⟨hlt, hR3.out⟩, by simp only; omega, by repeat (first | exact Jt _ | refine Js (by simp [PF.get]; rfl) (by first | rfl | (simp [*]; done) | fail) ?_), ?_⟩
      simp only [Tm.kind_mk, Tm.num_mk, Tm.sub_mk, List.map_cons, List.map_nil, Jl]
      repeat (first | exact List.Sublist.refl _ | exact List.nil_sublist _ | refine List.Sublist.cons_cons _ ?_ | refine List.Sublist.cons _ ?_)
  · have hc : ¬ (j : Int) < sub.length := by omega
    have hf : Hid (R = some u) := by show _ = _; rw [show R = _ from hR.out, List.drop_of_length_le (by omega)]; rfl
    clear hR
    refine go_ ?_
    refine Rd ?_
    refine go_ ?_
    refine Jm (by simp) (by simp only [Tryz.results20]; rfl) (by simp [resP, St.box?, PF.get, Jn, TyK.agg, *]; rfl) Nl ?_
    exact ⟨by rw [hf.out]; simp only [bldP, aggD, Jl]; rfl, rfl⟩
end Go.Proofs.YtdklpbefbamchaaGreat
