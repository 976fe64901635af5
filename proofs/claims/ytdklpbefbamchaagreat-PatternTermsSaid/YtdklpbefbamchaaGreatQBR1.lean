import Derived.Test.YtdklpbefbamchaaGreatQBR
set_option linter.unusedSimpArgs false
set_option linter.unusedVariables false
set_option maxHeartbeats 16000000
set_option maxRecDepth 100000
namespace Go.Proofs.YtdklpbefbamchaaGreat
open Go.RowKit
theorem Ask24_p (B : List En) (e2 : En) (hB2 : B[2]? = some e2) (hpar : e2.pars = 0) (hlen : (2 : Int) < B.length) (hA : PCalls Tryz.prog 134 [.d (.sl (B.map encD)), .d (.v (.int .i64 2))] [] fun p s => p = .d (.v (.int .i64 1)) ∧ s = [])
  (hF : PCalls Tryz.prog 80 [.d (.sl (B.map encD))] [] fun p s => p = .d (.v (.bool true)) ∧ s = []) (hg : PCalls Tryz.prog 82 [.d (.sl (B.map encD)), aggD x24] [] fun p s => p = .d (.v (.bool true)) ∧ s = []) :
  PCalls Tryz.prog 29 [.d (.sl (B.map encD)), .d (.sl ([x24].map encD)), .d (.sl ([o24].map encD))] [] fun p s => p = .tup [.agg [.d (.v (.bool true)), .d (.v (.bool false)), .d (.sl [[.v (.int .i64 0)]]), .d (.sl [[.v (.int .i64 6), .v (.int .i64 1), .sl []]])], .d (.v (.int .i64 0))] ∧ s = [] := by
 refine PCalls.freeze4 (E := 26) (es := 3) (rows := [[.v (.int .i64 6), .v (.int .i64 1), .sl []]]) (Qbw rfl) ?_
 have H2 : Hid (∀ b, _) := fun b => ask2_p b B e2 hB2 hpar hlen hA
 have HF := Lib.hid hF
 have HG := Lib.hid hg
 have hSm := Lib.hid (psmall_p x24 x24_ok.1)
 rw [x24_ok.2.1] at hSm
 have hSh := Lib.hid (Qeb o24)
 rw [o24_sp.1] at hSh
 have hw1 : IntKind.i64.wrap (0 + 1) = 1 := wr64 (by decide) (by decide)
 have hw2 : IntKind.i64.wrap 1 = 1 := wr64 (by decide) (by decide)
 clear hA hF hg hB2 hpar hlen
 simp only [x24, o24, aggD, Qao, Jl, List.map_cons, List.map_nil, Pt.kind_mk, Pt.num_mk, Pt.at_mk, Pt.sub_mk, Pt.t_mk, Tm.kind_mk, Tm.num_mk, Tm.sub_mk] at H2 HG hSm hSh ⊢
 obtain ⟨PR, hPR⟩ : ∃ PR : List (List D), PR = [[.v (.int .i64 2), .v (.int .i64 2), .v (.int .i64 0), .sl [[.v (.int .i64 1), .v (.int .i64 0), .v (.int .i64 0), .sl [], .v (.int .i64 0), .v (.int .i64 0), .sl []]], .v (.int .i64 0), .v (.int .i64 0), .sl []]] := ⟨_, rfl⟩
 refine PCalls.enter Tryz.func29 rfl Tryz.ntmps29 (by simp) ?_
 simp only [Qab]
 refine go_ ?_
 refine Je ?_
 intro i0 hi0
 try simp only [Ja, Rh, Rg, Jb] at hi0
 refine go_ ?_
 refine Jr (HF.out) ?_
 refine go_ ?_
 refine Qak (ι := Bool) (fun _ => True) (fun y => [(0, .d (.sl (B.map encD))), (1, .d (.sl [[.v (.int .i64 2), .v (.int .i64 2), .v (.int .i64 0), .sl [[.v (.int .i64 1), .v (.int .i64 0), .v (.int .i64 0), .sl [], .v (.int .i64 0), .v (.int .i64 0), .sl []]], .v (.int .i64 0), .v (.int .i64 0), .sl []]])), (2, .d (.sl [[.v (.int .i64 5), .v (.int .i64 0), .sl [[.v (.int .i64 6), .v (.int .i64 2), .sl []], [.v (.int .i64 6), .v (.int .i64 1), .sl []]]]])), (6, .ptr i0 0), (23, .d (.v (.int .i64 1))), (24, .d (.v (.int .i64 (match y with | false => 0 | true => 1))))]) (fun _ => [.box i0 56 [.d (.v (.bool false)), .d (.v (.bool false)), .nils, .nils]]) (fun y => match y with | false => 1 | true => 0) false trivial ?_ ?_ ?_
 ·repeat (first | exact Jt _ | refine Js (by simp [PF.get]; rfl) (by first | rfl | (simp [*]; done) | fail) ?_)
 ·repeat (first | exact List.Sublist.refl _ | exact List.nil_sublist _ | refine List.Sublist.cons_cons _ ?_ | refine List.Sublist.cons _ ?_)
 rintro (_ | _) -
 ·simp only
  refine go_ ?_
  refine Jc (hSm.out) ?_
  refine go_ ?_
  refine Jr (HG.out) ?_
  refine go_ ?_
  refine Jr (hSh.out) ?_
  refine go_ ?_
  exact ⟨true, trivial, by decide, by repeat (first | exact Jt _ | refine Js (by simp [PF.get]; rfl) (by first | rfl | (simp [*]; done) | fail) ?_), by repeat (first | exact List.Sublist.refl _ | exact List.nil_sublist _ | refine List.Sublist.cons_cons _ ?_ | refine List.Sublist.cons _ ?_)⟩
 simp only
 refine go_ ?_
 refine Jd ?_
 intro b hb
 try simp only [Ja, Rh, Rg, Jb] at hb
 refine go_ ?_
 have h2 := Lib.hid (H2.out b)
 clear H2
 refine Qak (ι := Option (Nat × Nat × Nat × List PV)) (fun _ => True) (fun y => [(1, .d (.sl [[.v (.int .i64 2), .v (.int .i64 2), .v (.int .i64 0), .sl [[.v (.int .i64 1), .v (.int .i64 0), .v (.int .i64 0), .sl [], .v (.int .i64 0), .v (.int .i64 0), .sl []]], .v (.int .i64 0), .v (.int .i64 0), .sl []]])), (2, .d (.sl [[.v (.int .i64 5), .v (.int .i64 0), .sl [[.v (.int .i64 6), .v (.int .i64 2), .sl []], [.v (.int .i64 6), .v (.int .i64 1), .sl []]]]])), (6, .ptr i0 0), (9, .ptr b 0), (56, .d (.v (.int .i64 1))), (57, .d (.v (.int .i64 (match y with | none => 0 | some _ => 1))))]) (fun y => match y with
  | none => [.box b 130 [.d (.sl (B.map encD)), .d (.v (.bool false)), .d (.v (.bool false)), .nils, .nils, .d (.v (.bool false))], .box i0 56 [.d (.v (.bool false)), .d (.v (.bool false)), .nils, .nils]]
  | some (g, i, c, X) => [.box i 26 ([.d (.v (.int .i64 6)), .d (.v (.int .i64 1)), .d (.sl [])] ++ X), .tok g 3 1 1, .box b 130 [.d (.sl (B.map encD)), .d (.v (.bool false)), .d (.v (.bool false)), .own g [[.v (.int .i64 0)]], .bsl i 1 c, .d (.v (.bool false))], .box i0 56 [.d (.v (.bool false)), .d (.v (.bool false)), .nils, .nils]]) (fun y => match y with | none => 1 | some _ => 0) none trivial ?_ ?_ ?_
 ·repeat (first | exact Jt _ | refine Js (by simp [PF.get]; rfl) (by first | rfl | (simp [*]; done) | fail) ?_)
 ·repeat (first | exact List.Sublist.refl _ | exact List.nil_sublist _ | refine List.Sublist.cons_cons _ ?_ | refine List.Sublist.cons _ ?_)
 rintro (_ | ⟨g, i, c, X⟩) -
 ·simp only
  refine go_ ?_
  refine Qax [(0, .a), (1, .a), (2, .a), (3, .a), (4, .a), (5, .a), (6, .a), (7, .a), (8, .a), (9, .e)] (by kernel_rfl) (by rfl) (by kernel_rfl) ?_
  refine go_ ?_
  refine POrd_callX 0 1 (h2.out) ?_
  rintro _ _ ⟨rfl, g, i, c, X, rfl⟩
  simp only [List.cons_append, List.nil_append, List.append_nil, Ja, Rh, Rg]
  refine go_ ?_
  exact ⟨some (g, i, c, X), trivial, by show 0 < 1; decide, by repeat (first | exact Jt _ | refine Js (by simp [PF.get]; rfl) (by first | rfl | (simp [*]; done) | fail) ?_), by repeat (first | exact List.Sublist.refl _ | exact List.nil_sublist _ | refine List.Sublist.cons_cons _ ?_ | refine List.Sublist.cons _ ?_)⟩
 ·simp only
  refine PW_nodupV fun hnd => ?_
  simp only [bidn_box, bidn_tok, bidn_nil, List.nodup_cons, List.mem_cons, List.not_mem_nil, not_or, or_false, not_false_eq_true, and_true, List.nodup_nil] at hnd
  obtain ⟨⟨n1, n2⟩, n3⟩ := hnd
  have n1' : ¬ b = i := fun e => n1 e.symm
  have n2' : ¬ i0 = i := fun e => n2 e.symm
  refine go_ ?_
  refine Rd ?_
  refine go_ ?_
  refine Rd ?_
  refine go_ ?_
  refine Jm (st' := [.box i 26 ([.d (.v (.int .i64 6)), .d (.v (.int .i64 1)), .d (.sl [])] ++ X)]) (by simp) (by simp only [Tryz.results29]; rfl) (by simp [resP, St.box?, PF.get, Jn, TyK.agg, *]; rfl) (by repeat (first | exact List.Sublist.refl _ | exact List.nil_sublist _ | refine List.Sublist.cons_cons _ ?_ | refine List.Sublist.cons _ ?_)) ?_
  exact ⟨i, c, X, rfl, rfl⟩
theorem awake24_p : PCalls Tryz.prog 14 [] [] fun p s => p = .d (.v (.bool true)) ∧ s = [] := by
 have hB2 : ∃ e2, baseL[2]? = some e2 ∧ e2.pars = 0 := ⟨⟨2, ⟨#[115, 117, 99]⟩, .mk 3 0 [.mk 6 0 [], .mk 6 0 []], .mk 0 0 [], 0, 1, 0, 0, 0, [], []⟩, rfl, rfl⟩
 obtain ⟨e2, hB2, hpar⟩ := hB2
 have hA := parity_p baseL 2 Qer
 rw [x24_ok.2.2.2] at hA
 have hF := sformed_p baseL Qft
 rw [Qer] at hF
 have hg := pgood_p baseL Qer x24
 rw [x24_ok.2.2.1] at hg
 have hK := Lib.hid (Ask24_p baseL e2 hB2 hpar (by decide) hA hF hg)
 have hC1 := Lib.hid (bC_p 1)
 have hC2 := Lib.hid (bC_p 2)
 have hAp := Lib.hid (bA_p (.mk 6 2 []) [.mk 6 1 []] (by decide))
 have hB := Lib.hid rbase_p
 clear hA hF hg hB2 hpar
 generalize baseL = B at *
 simp only [x24, o24, apT, List.foldl_cons, List.foldl_nil, aggD, Qao, Jl, List.map_cons, List.map_nil, Pt.kind_mk, Pt.num_mk, Pt.at_mk, Pt.sub_mk, Pt.t_mk, Tm.kind_mk, Tm.num_mk, Tm.sub_mk] at hK hC1 hC2 hAp
 refine PCalls.enter Tryz.func14 rfl Tryz.ntmps14 (by simp) ?_
 simp only [Qab]
 refine go_ ?_
 refine Qam ?_
 refine go_ ?_
 refine Je ?_
 intro i0 hi0
 try simp only [Ja, Rh, Rg, Jb] at hi0
 refine go_ ?_
 refine Rd ?_
 refine go_ ?_
 refine Jc (hC2.out) ?_
 refine go_ ?_
 refine Jc (hC1.out) ?_
 refine go_ ?_
 refine Qam ?_
 refine go_ ?_
 refine Jc (hAp.out) ?_
 refine go_ ?_
 refine Je ?_
 intro i1 hi1
 try simp only [Ja, Rh, Rg, Jb] at hi1
 refine go_ ?_
 refine Rd ?_
 refine go_ ?_
 refine Qek (J := Qcy [(i0, _), (i1, _)]) [(0, .a), (1, .a), (2, .a), (3, .a), (4, .a), (5, .a), (6, .a), (7, .a), (8, .a), (9, .e), (10, .e), (11, .a)] (by kernel_rfl) (by rfl) (by kernel_rfl) (by (repeat (first | exact Qap _ | refine Ju (by simp [St.box?, *] <;> rfl) ?_))) ?_
 repeat (first | with_reducible refine Qaw ?_ | refine Qay ?_ | refine Qbe ?_ | refine Qbg ?_)
 refine Qdp (hB.out) ?_
 repeat (first | with_reducible refine Qaw ?_ | refine Qay ?_ | refine Qbe ?_ | refine Qbg ?_)
 refine PJ_bs ?_ rfl (by decide) rfl (by simp; rfl) (by rfl) (by simp; rfl) (by rfl) (by decide) (by decide) (by simp [nev, nevA, nevB, Jp, PF.eval, PF.get, PF.wants, cPV, Qag, PV.rows, Qah, evUn, Jq, Qaj, Qai, Jn, TyK.agg, Qaf, St.box?, St.tok?, St.setBox, St.setTok, Qae, spl, PV.ps, PV.one, Jo, aggD, slD, Jh, Jk, Ji, Jj, Jg, Jf, *]; rfl) (by simp [Qco, toDs, PV.toD]; rfl)
 repeat (first | with_reducible refine Qaw ?_ | refine Qay ?_ | refine Qbe ?_ | refine Qbg ?_)
 refine PJ_bs ?_ rfl (by decide) rfl (by simp; rfl) (by rfl) (by simp; rfl) (by rfl) (by decide) (by decide) (by simp [nev, nevA, nevB, Jp, PF.eval, PF.get, PF.wants, cPV, Qag, PV.rows, Qah, evUn, Jq, Qaj, Qai, Jn, TyK.agg, Qaf, St.box?, St.tok?, St.setBox, St.setTok, Qae, spl, PV.ps, PV.one, Jo, aggD, slD, Jh, Jk, Ji, Jj, Jg, Jf, *]; rfl) (by simp [Qco, toDs, PV.toD]; rfl)
 repeat (first | with_reducible refine Qaw ?_ | refine Qay ?_ | refine Qbe ?_ | refine Qbg ?_)
 refine Qdp (hK.out) ?_
 repeat (first | with_reducible refine Qaw ?_ | refine Qay ?_ | refine Qbe ?_ | refine Qbg ?_)
 refine Qgh rfl (by decide) rfl (by simp; rfl) (fun i hi => by simp only [Ja, Rh, Rg] at hi; (repeat (first | exact Qap _ | refine Ju (by simp [St.box?, *] <;> rfl) ?_))) ?_
 intro i2 hi2
 try simp only [Ja, Rh, Rg, Jb] at hi2
 repeat (first | with_reducible refine Qaw ?_ | refine Qay ?_ | refine Qbe ?_ | refine Qbg ?_)
 refine Qgi rfl rfl (by simp [nev, nevA, nevB, Jp, PF.eval, PF.get, PF.wants, cPV, Qag, PV.rows, Qah, evUn, Jq, Qaj, Qai, Jn, TyK.agg, Qaf, St.box?, St.tok?, St.setBox, St.setTok, Qae, spl, PV.ps, PV.one, Jo, aggD, slD, Jh, Jk, Ji, Jj, Jg, Jf, *]; rfl) (by rfl) (by simp [nev, nevA, nevB, Jp, PF.eval, PF.get, PF.wants, cPV, Qag, PV.rows, Qah, evUn, Jq, Qaj, Qai, Jn, TyK.agg, Qaf, St.box?, St.tok?, St.setBox, St.setTok, Qae, spl, PV.ps, PV.one, Jo, aggD, slD, Jh, Jk, Ji, Jj, Jg, Jf, *]; rfl) (by simp [PV.ps, aggD, slD, Jh, Jk, Ji, Jj, Jg, Jf]; rfl) (by first | rfl | (simp [*]; done) | (simp [PV.one, *]; done) | fail) (by simp; rfl) (by first | (simp; done) | fail) (by simp [nev, nevA, nevB, Jp, PF.eval, PF.get, PF.wants, cPV, Qag, PV.rows, Qah, evUn, Jq, Qaj, Qai, Jn, TyK.agg, Qaf, St.box?, St.tok?, St.setBox, St.setTok, Qae, spl, PV.ps, PV.one, Jo, aggD, slD, Jh, Jk, Ji, Jj, Jg, Jf, *]; rfl) (by rfl) (by first | (simp; done) | fail) (by simp [St.setBox, spl, *]; rfl) (by (repeat (first | exact Qap _ | refine Ju (by simp [St.box?, *] <;> rfl) ?_))) ?_
 repeat (first | with_reducible refine Qaw ?_ | refine Qay ?_ | refine Qbe ?_ | refine Qbg ?_)
 refine go_ ?_
 refine Jm (by simp) (by simp only [Tryz.results14]; rfl) (by simp [resP, St.box?, PF.get, Jn, TyK.agg, *]; rfl) Nl ?_
 exact ⟨rfl, rfl⟩
theorem par_le {l : List En} (hF : formedB l = true) (p : Pt) (hg : pgT l p = true) (hk : p.kind = 2) : parN l p.num ≤ 24 := by
  cases p with
  | mk k n a sub d =>
    simp only [Pt.kind_mk] at hk
    subst hk
    obtain ⟨har, -⟩ := Qhf hg
    obtain ⟨i, x, m, hi, -, -, -, -, hmp, hm, -⟩ := con_at hF har
    simp only [Pt.num_mk]
    rw [hi, ← hmp]; exact hm
theorem par_le2 {l : List En} (hF : formedB l = true) (i k : Nat) (h : arN l i = k) : parN l i ≤ 24 := by
 obtain ⟨j, x, m, hi, -, -, -, -, hmp, hm, -⟩ := con_at hF h
 rw [hi, ← hmp]; exact hm
theorem ceq_refl24 (t : Tm) : ceqT t t = true := (eqT_iff t t).2 rfl
theorem terms24_p (l : List En) (p : Pt) (pars : List Tm) (ho : ∀ e ∈ l, EnOk e) : PCalls Tryz.prog 3 [.d (.sl (l.map encD)), aggD p, .d (.sl (pars.map encD))] [] fun r s => r = .d (.v (.bool true)) ∧ s = [] := by
  have hO := Lib.hid (of24_p [p])
  have hW := Lib.hid awake24_p
  obtain ⟨hof1, hof2⟩ := Qjb [p] 600
  generalize ofL [p] 600 = W at *
  by_cases h1 : (60 : Int) < l.length
  · clear ho hof1 hof2
    generalize decide (0 < W.2) = ok at *
    simp only [aggD, Qao, Jl, List.map_cons, List.map_nil] at hO ⊢
    refine PCalls.enter Tryz.func3 rfl Tryz.ntmps3 (by simp) ?_
    simp only [Qab]
    refine go_ ?_
    refine Jd ?_
    intro i3 hi3
    try simp only [Ja, Rh, Rg, Jb] at hi3
    refine go_ ?_
    refine Jd ?_
    intro i4 hi4
    try simp only [Ja, Rh, Rg, Jb] at hi4
    refine go_ ?_
    refine Jd ?_
    intro i5 hi5
    try simp only [Ja, Rh, Rg, Jb] at hi5
    refine go_ ?_
    refine Qam ?_
    refine go_ ?_
    refine Jc (hO.out) ?_
    refine go_ ?_
    refine Jc (hW.out) ?_
    refine go_ ?_
    refine Jm (by simp) (by simp only [Tryz.results3]; rfl) (by simp [resP, St.box?, PF.get, Jn, TyK.agg, *]; rfl) Nl ?_
    exact ⟨rfl, rfl⟩
  by_cases h2 : 0 < W.2
  rotate_left
  · clear ho hof1 hof2
    simp only [aggD, Qao, Jl, List.map_cons, List.map_nil] at hO ⊢
    refine PCalls.enter Tryz.func3 rfl Tryz.ntmps3 (by simp) ?_
    simp only [Qab]
    refine go_ ?_
    refine Jd ?_
    intro i3 hi3
    try simp only [Ja, Rh, Rg, Jb] at hi3
    refine go_ ?_
    refine Jd ?_
    intro i4 hi4
    try simp only [Ja, Rh, Rg, Jb] at hi4
    refine go_ ?_
    refine Jd ?_
    intro i5 hi5
    try simp only [Ja, Rh, Rg, Jb] at hi5
    refine go_ ?_
    refine Qam ?_
    refine go_ ?_
    refine Jc (hO.out) ?_
    refine go_ ?_
    refine Jc (hW.out) ?_
    refine go_ ?_
    refine Jm (by simp) (by simp only [Tryz.results3]; rfl) (by simp [resP, St.box?, PF.get, Jn, TyK.agg, *]; rfl) Nl ?_
    exact ⟨rfl, rfl⟩
  obtain ⟨e1, e2⟩ := hof2 h2
  simp only [pndL] at e2
  have hpn : pndT p ≤ 600 := by omega
  rw [e1, decide_eq_true h2] at hO
  clear hof1 hof2 e1 e2 h2
  by_cases h3 : (pars.length : Int) = 24
  rotate_left
  · have h3b : ((pars.length : Int) != 24) = true := bne_iff_ne.2 h3
    clear ho hpn h3
    simp only [aggD, Qao, Jl, List.map_cons, List.map_nil] at hO ⊢
    refine PCalls.enter Tryz.func3 rfl Tryz.ntmps3 (by simp) ?_
    simp only [Qab]
    refine go_ ?_
    refine Jd ?_
    intro i3 hi3
    try simp only [Ja, Rh, Rg, Jb] at hi3
    refine go_ ?_
    refine Jd ?_
    intro i4 hi4
    try simp only [Ja, Rh, Rg, Jb] at hi4
    refine go_ ?_
    refine Jd ?_
    intro i5 hi5
    try simp only [Ja, Rh, Rg, Jb] at hi5
    refine go_ ?_
    refine Qam ?_
    refine go_ ?_
    refine Jc (hO.out) ?_
    refine go_ ?_
    refine Jc (hW.out) ?_
    refine go_ ?_
    refine Jm (by simp) (by simp only [Tryz.results3]; rfl) (by simp [resP, St.box?, PF.get, Jn, TyK.agg, *]; rfl) Nl ?_
    exact ⟨rfl, rfl⟩
  have h3b : ((pars.length : Int) != 24) = false := by rw [h3]; rfl
  have hpl : pars.length = 24 := by omega
  have HS : Hid (∀ t : Tm, PCalls Tryz.prog 15 [aggD t] [] fun p s => p = .d (.v (.bool (Qad t))) ∧ s = []) := fun t => Qfc t
  have HZ : Hid (∀ t : Tm, PCalls Tryz.prog 16 [aggD t] [] fun p s => p = .d (.v (.int .i64 (Qca t))) ∧ s = []) := fun t => rSize_p t
  have HQ : Hid (∀ t : Tm, PCalls Tryz.prog 21 [aggD t, aggD t] [] fun p s => p = .d (.v (.bool true)) ∧ s = []) := fun t => by
    have h := requal_p t t
    rw [ceq_refl24] at h; exact h
  have hR1 := Lib.hid (Qhy l p ho (by omega))
  have HT : Hid (pRight l p = true → PCalls Tryz.prog 20 [.d (.sl (l.map encD)), aggD p, .d (.sl (pars.map encD))] [] fun r s => r = bldP (bldT l pars p) ∧ s = []) := fun h => by
    have h3 : (formedB l && (decide (phgT p ≤ 128) && pgT l p)) = true := h
    simp only [Bool.and_eq_true] at h3
    exact r24TermC_p l h3.1 pars (by omega) (fun i k hk => by have := par_le2 h3.1 i k hk; omega) p h3.2.2
  have HP : Hid ((∀ t ∈ pars, Qad t = true) → ∀ b5 b3 : Nat, PCalls Tryz.prog 17 [.d (.sl (l.map encD)), aggD p, .fn (.func 18) [] [.ptr b5 0, .ptr b3 0]] (capS b5 b3 l pars) fun r s => r = .tup [aggD (trmP l pars p).1, .d (.v (.int .i64 (trmP l pars p).2))] ∧ s = capS b5 b3 l pars) := fun hsh b5 b3 =>
    pTerm_p l ho pars (by omega) hsh (fun hF q hq hk => by have := par_le hF q hq hk; omega) b5 b3 _ rfl (fun i m x h1 h2 h3 h4 => clo24_p l pars b5 b3 i m x h1 h2 h3 h4) p (by omega)
  obtain ⟨T, hT⟩ : ∃ T, T = trmP l pars p := ⟨_, rfl⟩
  have hT2 : Hid (T = (if pRight l p = true then (match bldT l pars p with
    | some t => if Qad t = true then (t, 0) else (.mk 0 0 [], 2)
    | none => (.mk 0 0 [], 16)) else (.mk 0 0 [], 5) : Tm × Int)) := hT
  rw [← hT] at HP
  generalize pRight l p = r1 at *
  generalize bldT l pars p = o at *
  have HL := Lib.hid hpl
  clear ho hpn hT
  simp only [aggD, Qao, Jl, List.map_cons, List.map_nil, capS] at hO hR1 HT HP ⊢
  refine PCalls.enter Tryz.func3 rfl Tryz.ntmps3 (by simp) ?_
  simp only [Qab]
  refine go_ ?_
  refine Jd ?_
  intro i3 hi3
  try simp only [Ja, Rh, Rg, Jb] at hi3
  refine go_ ?_
  refine Jd ?_
  intro i4 hi4
  try simp only [Ja, Rh, Rg, Jb] at hi4
  refine go_ ?_
  refine Jd ?_
  intro i5 hi5
  try simp only [Ja, Rh, Rg, Jb] at hi5
  refine go_ ?_
  refine Qam ?_
  refine go_ ?_
  refine Jc (hO.out) ?_
  refine go_ ?_
  clear h3 h3b hpl
  refine PW_perm (st' := [.box i5 24 [.d (.sl (pars.map encD))], .box i3 22 [.d (.sl (l.map encD))], .box i4 28 [.d (.v (.int .i64 p.kind)), .d (.v (.int .i64 p.num)), .d (.v (.int .i64 p.at_)), .d (.sl (p.sub.map encD)), .d (.v (.int .i64 p.t.kind)), .d (.v (.int .i64 p.t.num)), .d (.sl (p.t.sub.map encD))]]) ((List.Perm.swap _ _ _).cons _) ?_
  refine Qak (ι := Nat) (fun y => y ≤ pars.length ∧ Hid (∀ t ∈ pars.take y, Qad t = true)) (fun y => [(3, .ptr i3 0), (4, .ptr i4 0), (5, .ptr i5 0), (7, .d (.sl [encD p])), (9, .d (.v (.int .i64 (y : Int))))]) (fun y => [.box i5 24 [.d (.sl (pars.map encD))], .box i3 22 [.d (.sl (l.map encD))], .box i4 28 [.d (.v (.int .i64 p.kind)), .d (.v (.int .i64 p.num)), .d (.v (.int .i64 p.at_)), .d (.sl (p.sub.map encD)), .d (.v (.int .i64 p.t.kind)), .d (.v (.int .i64 p.t.num)), .d (.sl (p.t.sub.map encD))]]) (fun y => pars.length - y) 0 ⟨Nat.zero_le _, fun t ht => by simp at ht⟩ ?_ ?_ ?_
  · repeat (first | exact Jt _ | refine Js (by simp [PF.get]; rfl) (by first | rfl | (simp [*]; done) | fail) ?_)
  · repeat (first | exact List.Sublist.refl _ | exact List.nil_sublist _ | refine List.Sublist.cons_cons _ ?_ | refine List.Sublist.cons _ ?_)
  rintro j ⟨hj, hsj⟩
  by_cases hlt : j < pars.length
  · have hxs := Qal hlt
    have hc : (j : Int) < pars.length := by omega
    have hn1 : (0 : Int) ≤ j := by omega
    have hin := wr64 (n := (j : Int) + 1) (by omega) (by have := HL.out; omega)
    have hs2 : Hid (Qad pars[j] = true → ∀ t ∈ pars.take (j + 1), Qad t = true) := fun h t ht => by
      rw [List.take_succ_eq_append_getElem hlt] at ht
      rcases List.mem_append.1 ht with ht | ht
      · exact hsj.out t ht
      · rw [List.mem_singleton] at ht; subst ht; exact h
    have hc1 := Lib.hid (HS.out pars[j])
    have hc2 := Lib.hid (HZ.out pars[j])
    obtain ⟨v, hv⟩ : ∃ v, v = pars[j] := ⟨_, rfl⟩
    rw [← hv] at hxs hc1 hc2 hs2
    clear hsj hv hlt HP HT HQ HS HZ
    generalize Qad v = sv at *
    generalize Qca v = zv at *
    simp only [aggD, Jl, List.map_cons, List.map_nil] at hc1 hc2
    cases sv with
    | false =>
      refine go_ ?_
      refine Jc (hc1.out) ?_
      refine go_ ?_
      refine Jc (hW.out) ?_
      refine go_ ?_
      refine Jm (by simp) (by simp only [Tryz.results3]; rfl) (by simp [resP, St.box?, PF.get, Jn, TyK.agg, *]; rfl) Nl ?_
      exact ⟨rfl, rfl⟩
    | true =>
      by_cases hz : 20 < zv
      · refine go_ ?_
        refine Jc (hc1.out) ?_
        refine go_ ?_
        refine Jr (hc2.out) ?_
        refine go_ ?_
        refine Jc (hW.out) ?_
        refine go_ ?_
        refine Jm (by simp) (by simp only [Tryz.results3]; rfl) (by simp [resP, St.box?, PF.get, Jn, TyK.agg, *]; rfl) Nl ?_
        exact ⟨rfl, rfl⟩
      · refine go_ ?_
        refine Jc (hc1.out) ?_
        refine go_ ?_
        refine Jr (hc2.out) ?_
        refine go_ ?_
        exact ⟨j + 1, ⟨by omega, hs2.out rfl⟩, by omega, by repeat (first | exact Jt _ | refine Js (by simp [PF.get]; rfl) (by first | rfl | (simp [*]; done) | fail) ?_), by repeat (first | exact List.Sublist.refl _ | exact List.nil_sublist _ | refine List.Sublist.cons_cons _ ?_ | refine List.Sublist.cons _ ?_)⟩
  have hc : ¬ (j : Int) < pars.length := by omega
  have hsh : ∀ t ∈ pars, Qad t = true := by have h := hsj.out; rw [List.take_of_length_le (by omega)] at h; exact h
  have hP := Lib.hid (HP.out hsh i5 i3)
  have hlen : (0 : Int) < ([encD p] : List (List D)).length := by simp
  clear hsj hsh HP HZ
  refine go_ ?_
  refine Qgj ?_
  refine go_ ?_
  refine Re 0 2 (hP.out) ?_
  rintro _ _ ⟨rfl, rfl⟩
  simp only [List.cons_append, List.nil_append, List.append_nil, Ja, Rh, Rg]
  refine go_ ?_
  refine Je ?_
  intro i6 hi6
  try simp only [Ja, Rh, Rg, Jb] at hi6
  refine go_ ?_
  refine Rd ?_
  refine go_ ?_
  refine Qax [(0, .b), (1, .a), (2, .a), (3, .a), (4, .a), (5, .a)] (by kernel_rfl) (by rfl) (by kernel_rfl) ?_
  refine go_ ?_
  refine Qaa (hR1.out) ?_
  refine go_ ?_
  cases r1 with
  | false =>
    obtain rfl : T = (.mk 0 0 [], 5) := hT2.out
    refine go_ ?_
    refine Jr (hW.out) ?_
    refine go_ ?_
    refine Jm (by simp) (by simp only [Tryz.results3]; rfl) (by simp [resP, St.box?, PF.get, Jn, TyK.agg, *]; rfl) Nl ?_
    exact ⟨rfl, rfl⟩
  | true =>
    have hTc := Lib.hid (HT.out rfl)
    clear HT hR1
    refine go_ ?_
    cases o with
    | none =>
      obtain rfl : T = (.mk 0 0 [], 16) := hT2.out
      simp only [bldP, aggD, Jl, List.map_cons, List.map_nil, Tm.kind_mk, Tm.num_mk, Tm.sub_mk] at hTc
      simp only [List.map_nil, Tm.kind_mk, Tm.num_mk, Tm.sub_mk]
      refine Qek (J := Qcy [(i3, _), (i5, _)]) [(0, .a), (1, .a), (2, .a), (3, .a), (4, .a), (5, .a), (6, .a), (7, .a), (8, .a), (9, .e), (10, .e), (11, .a)] (by kernel_rfl) (by rfl) (by kernel_rfl) (by (repeat (first | exact Qap _ | refine Ju (by simp [St.box?, *] <;> rfl) ?_))) ?_
      repeat (first | with_reducible refine Qaw ?_ | refine Qay ?_ | refine Qbe ?_ | refine Qbg ?_)
      refine Qdp (hTc.out) ?_
      repeat (first | with_reducible refine Qaw ?_ | refine Qay ?_ | refine Qbe ?_ | refine Qbg ?_)
      refine Qgh rfl (by decide) rfl (by simp; rfl) (fun i hi => by simp only [Ja, Rh, Rg] at hi; (repeat (first | exact Qap _ | refine Ju (by simp [St.box?, *] <;> rfl) ?_))) ?_
      intro i7 hi7
      try simp only [Ja, Rh, Rg, Jb] at hi7
      repeat (first | with_reducible refine Qaw ?_ | refine Qay ?_ | refine Qbe ?_ | refine Qbg ?_)
      refine Qgi rfl rfl (by simp [nev, nevA, nevB, Jp, PF.eval, PF.get, PF.wants, cPV, Qag, PV.rows, Qah, evUn, Jq, Qaj, Qai, Jn, TyK.agg, Qaf, St.box?, St.tok?, St.setBox, St.setTok, Qae, spl, PV.ps, PV.one, Jo, aggD, slD, Jh, Jk, Ji, Jj, Jg, Jf, *]; rfl) (by rfl) (by simp [nev, nevA, nevB, Jp, PF.eval, PF.get, PF.wants, cPV, Qag, PV.rows, Qah, evUn, Jq, Qaj, Qai, Jn, TyK.agg, Qaf, St.box?, St.tok?, St.setBox, St.setTok, Qae, spl, PV.ps, PV.one, Jo, aggD, slD, Jh, Jk, Ji, Jj, Jg, Jf, *]; rfl) (by simp [PV.ps, aggD, slD, Jh, Jk, Ji, Jj, Jg, Jf]; rfl) (by first | rfl | (simp [*]; done) | (simp [PV.one, *]; done) | fail) (by simp; rfl) (by first | (simp; done) | fail) (by simp [nev, nevA, nevB, Jp, PF.eval, PF.get, PF.wants, cPV, Qag, PV.rows, Qah, evUn, Jq, Qaj, Qai, Jn, TyK.agg, Qaf, St.box?, St.tok?, St.setBox, St.setTok, Qae, spl, PV.ps, PV.one, Jo, aggD, slD, Jh, Jk, Ji, Jj, Jg, Jf, *]; rfl) (by rfl) (by first | (simp; done) | fail) (by simp [St.setBox, spl, *]; rfl) (by (repeat (first | exact Qap _ | refine Ju (by simp [St.box?, *] <;> rfl) ?_))) ?_
      repeat (first | with_reducible refine Qaw ?_ | refine Qay ?_ | refine Qbe ?_ | refine Qbg ?_)
      refine go_ ?_
      refine go_ ?_
      refine Jr (hW.out) ?_
      refine go_ ?_
      refine Jm (by simp) (by simp only [Tryz.results3]; rfl) (by simp [resP, St.box?, PF.get, Jn, TyK.agg, *]; rfl) Nl ?_
      exact ⟨rfl, rfl⟩
    | some u =>
      have hT3 : Hid (T = (if Qad u = true then (u, 0) else (.mk 0 0 [], 2) : Tm × Int)) := hT2.out
      have hS := Lib.hid (HS.out u)
      have hQ := Lib.hid (HQ.out u)
      clear hT2 HS HQ
      generalize Qad u = su at *
      simp only [bldP, aggD, Jl, List.map_cons, List.map_nil, Tm.kind_mk, Tm.num_mk, Tm.sub_mk] at hTc hS hQ
      cases su with
      | false =>
        obtain rfl : T = (.mk 0 0 [], 2) := hT3.out
        simp only [List.map_nil, Tm.kind_mk, Tm.num_mk, Tm.sub_mk]
        refine Qek (J := Qcy [(i3, _), (i5, _)]) [(0, .a), (1, .a), (2, .a), (3, .a), (4, .a), (5, .a), (6, .a), (7, .a), (8, .a), (9, .e), (10, .e), (11, .a)] (by kernel_rfl) (by rfl) (by kernel_rfl) (by (repeat (first | exact Qap _ | refine Ju (by simp [St.box?, *] <;> rfl) ?_))) ?_
        repeat (first | with_reducible refine Qaw ?_ | refine Qay ?_ | refine Qbe ?_ | refine Qbg ?_)
        refine Qdp (hTc.out) ?_
        repeat (first | with_reducible refine Qaw ?_ | refine Qay ?_ | refine Qbe ?_ | refine Qbg ?_)
        refine Qgh rfl (by decide) rfl (by simp; rfl) (fun i hi => by simp only [Ja, Rh, Rg] at hi; (repeat (first | exact Qap _ | refine Ju (by simp [St.box?, *] <;> rfl) ?_))) ?_
        intro i7 hi7
        try simp only [Ja, Rh, Rg, Jb] at hi7
        repeat (first | with_reducible refine Qaw ?_ | refine Qay ?_ | refine Qbe ?_ | refine Qbg ?_)
        refine Qgi rfl rfl (by simp [nev, nevA, nevB, Jp, PF.eval, PF.get, PF.wants, cPV, Qag, PV.rows, Qah, evUn, Jq, Qaj, Qai, Jn, TyK.agg, Qaf, St.box?, St.tok?, St.setBox, St.setTok, Qae, spl, PV.ps, PV.one, Jo, aggD, slD, Jh, Jk, Ji, Jj, Jg, Jf, *]; rfl) (by rfl) (by simp [nev, nevA, nevB, Jp, PF.eval, PF.get, PF.wants, cPV, Qag, PV.rows, Qah, evUn, Jq, Qaj, Qai, Jn, TyK.agg, Qaf, St.box?, St.tok?, St.setBox, St.setTok, Qae, spl, PV.ps, PV.one, Jo, aggD, slD, Jh, Jk, Ji, Jj, Jg, Jf, *]; rfl) (by simp [PV.ps, aggD, slD, Jh, Jk, Ji, Jj, Jg, Jf]; rfl) (by first | rfl | (simp [*]; done) | (simp [PV.one, *]; done) | fail) (by simp; rfl) (by first | (simp; done) | fail) (by simp [nev, nevA, nevB, Jp, PF.eval, PF.get, PF.wants, cPV, Qag, PV.rows, Qah, evUn, Jq, Qaj, Qai, Jn, TyK.agg, Qaf, St.box?, St.tok?, St.setBox, St.setTok, Qae, spl, PV.ps, PV.one, Jo, aggD, slD, Jh, Jk, Ji, Jj, Jg, Jf, *]; rfl) (by rfl) (by first | (simp; done) | fail) (by simp [St.setBox, spl, *]; rfl) (by (repeat (first | exact Qap _ | refine Ju (by simp [St.box?, *] <;> rfl) ?_))) ?_
        repeat (first | with_reducible refine Qaw ?_ | refine Qay ?_ | refine Qbe ?_ | refine Qbg ?_)
        refine go_ ?_
        refine Jc (hS.out) ?_
        refine go_ ?_
        refine Jr (hW.out) ?_
        refine go_ ?_
        refine Jm (by simp) (by simp only [Tryz.results3]; rfl) (by simp [resP, St.box?, PF.get, Jn, TyK.agg, *]; rfl) Nl ?_
        exact ⟨rfl, rfl⟩
      | true =>
        obtain rfl : T = (u, 0) := hT3.out
        simp only
        refine Qek (J := Qcy [(i3, _), (i5, _)]) [(0, .a), (1, .a), (2, .a), (3, .a), (4, .a), (5, .a), (6, .a), (7, .a), (8, .a), (9, .e), (10, .e), (11, .a)] (by kernel_rfl) (by rfl) (by kernel_rfl) (by (repeat (first | exact Qap _ | refine Ju (by simp [St.box?, *] <;> rfl) ?_))) ?_
        repeat (first | with_reducible refine Qaw ?_ | refine Qay ?_ | refine Qbe ?_ | refine Qbg ?_)
        refine Qdp (hTc.out) ?_
        repeat (first | with_reducible refine Qaw ?_ | refine Qay ?_ | refine Qbe ?_ | refine Qbg ?_)
        refine Qgh rfl (by decide) rfl (by simp; rfl) (fun i hi => by simp only [Ja, Rh, Rg] at hi; (repeat (first | exact Qap _ | refine Ju (by simp [St.box?, *] <;> rfl) ?_))) ?_
        intro i7 hi7
        try simp only [Ja, Rh, Rg, Jb] at hi7
        repeat (first | with_reducible refine Qaw ?_ | refine Qay ?_ | refine Qbe ?_ | refine Qbg ?_)
        refine Qgi rfl rfl (by simp [nev, nevA, nevB, Jp, PF.eval, PF.get, PF.wants, cPV, Qag, PV.rows, Qah, evUn, Jq, Qaj, Qai, Jn, TyK.agg, Qaf, St.box?, St.tok?, St.setBox, St.setTok, Qae, spl, PV.ps, PV.one, Jo, aggD, slD, Jh, Jk, Ji, Jj, Jg, Jf, *]; rfl) (by rfl) (by simp [nev, nevA, nevB, Jp, PF.eval, PF.get, PF.wants, cPV, Qag, PV.rows, Qah, evUn, Jq, Qaj, Qai, Jn, TyK.agg, Qaf, St.box?, St.tok?, St.setBox, St.setTok, Qae, spl, PV.ps, PV.one, Jo, aggD, slD, Jh, Jk, Ji, Jj, Jg, Jf, *]; rfl) (by simp [PV.ps, aggD, slD, Jh, Jk, Ji, Jj, Jg, Jf]; rfl) (by first | rfl | (simp [*]; done) | (simp [PV.one, *]; done) | fail) (by simp; rfl) (by first | (simp; done) | fail) (by simp [nev, nevA, nevB, Jp, PF.eval, PF.get, PF.wants, cPV, Qag, PV.rows, Qah, evUn, Jq, Qaj, Qai, Jn, TyK.agg, Qaf, St.box?, St.tok?, St.setBox, St.setTok, Qae, spl, PV.ps, PV.one, Jo, aggD, slD, Jh, Jk, Ji, Jj, Jg, Jf, *]; rfl) (by rfl) (by first | (simp; done) | fail) (by simp [St.setBox, spl, *]; rfl) (by (repeat (first | exact Qap _ | refine Ju (by simp [St.box?, *] <;> rfl) ?_))) ?_
        repeat (first | with_reducible refine Qaw ?_ | refine Qay ?_ | refine Qbe ?_ | refine Qbg ?_)
        refine go_ ?_
        refine Jc (hS.out) ?_
        refine go_ ?_
        refine Jr (hQ.out) ?_
        refine go_ ?_
        refine Jr (hW.out) ?_
        refine go_ ?_
        refine Jm (by simp) (by simp only [Tryz.results3]; rfl) (by simp [resP, St.box?, PF.get, Jn, TyK.agg, *]; rfl) Nl ?_
        exact ⟨rfl, rfl⟩
theorem terms_walk (v : Value) (l : List En) (p : Pt) (cs : List Value) (v3 : Value) (pars : List Tm) (w : World) (h : EnS w v l) (h2 : PtC w p cs) (h3 : TwS w v3 pars) : Calls Tryz.prog 3 #[v, .agg cs.toArray, v3] w fun e w' => e = .returned (.bool true) ∧ Below w.heap.size w w' := by
 refine PCalls.top ((terms24_p l p pars h.2).mono fun _ _ hp => hp.1) ?_
 exact Qby (.d (relS_of (fun b o v _ hv => ⟨v, hv⟩) (by decide) h.1)) (Qby (rel_rep (K := K0 w) (fun b o v _ h => ⟨v, h⟩) h2) (Qby (.d (relS_of (fun b o v _ hv => ⟨v, hv⟩) (by decide) h3)) (Qel _ _)))
end Go.Proofs.YtdklpbefbamchaaGreat
