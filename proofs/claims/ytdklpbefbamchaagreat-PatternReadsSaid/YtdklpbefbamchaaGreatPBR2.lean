import Derived.Test.YtdklpbefbamchaaGreatPBR1
import Derived.Test.YtdklpbefbamchaaGreatPBH
import Derived.Test.YtdklpbefbamchaaGreatPT12
set_option linter.unusedSimpArgs false
set_option linter.unusedVariables false
set_option maxHeartbeats 16000000
set_option maxRecDepth 100000
namespace Go.Proofs.YtdklpbefbamchaaGreat
open Go.RowKit
section
variable {P : Program} {J : St → Prop} {n : Nat} {ops : Array Oper} {Q : PF → St → Prop} {fr : PF} {st : St} {p : PV} {op : Op} {ty : TypeId} {pos : String} {after : Array Edge} {gd : Option (Nat × Bool)} {od : List (Nat × Kd)} {j d : Nat}
theorem PL_bb (h : Qbq P J n ops Q od ((d, p) :: fr) st) (ho : ops[j]? = some ⟨some d, op, ty, pos, after, gd⟩) (hd : d < n) (hw : PF.wants fr ops ⟨some d, op, ty, pos, after, gd⟩ = some true) (he : nevB P st fr.eval op = some p) : Qbq P J n ops Q ((j, .b) :: od) fr st :=
 ⟨_, ho, fun _ e => (by cases e; exact hd), .inr ⟨hw, p, Qhd (o := ⟨some d, op, ty, pos, after, gd⟩) he, h⟩⟩
end
theorem ask1_p (b : Nat) (B : List En) : PCalls Tryz.prog 83 [.ptr b 0, aggD (Pt.mk 1 0 0 [] zTm), aggD c29] [.box b 130 [.d (.sl (B.map encD)), .d (.v (.bool false)), .d (.v (.bool false)), .nils, .nils, .d (.v (.bool false))]] fun p s => p = .tup [] ∧ ∃ g i c X, s = [.box i 26 ([.d (.v (.int .i64 6)), .d (.v (.int .i64 1)), .d (.sl [])] ++ X), .tok g 3 1 1, .box b 130 [.d (.sl (B.map encD)), .d (.v (.bool false)), .d (.v (.bool false)), .own g [[.v (.int .i64 0)]], .bsl i 1 c, .d (.v (.bool false))]] := by
 have hC := Lib.hid (tCopy_p c29)
 rw [show Qdx c29 = c29 from by unfold Qdx; rw [c29_sp.1]; rfl] at hC
 simp only [c29, zTm, aggD, Qao, Jl, List.map_cons, List.map_nil, Pt.kind_mk, Pt.num_mk, Pt.at_mk, Pt.sub_mk, Pt.t_mk, Tm.kind_mk, Tm.num_mk, Tm.sub_mk] at hC ⊢
 refine PCalls.enter Tryz.func83 rfl Tryz.ntmps83 (by simp) ?_
 simp only [Qab]
 refine go_ ?_
 refine Jd ?_
 intro i0 hi0
 try simp only [Ja, Rh, Rg, Jb] at hi0
 refine go_ ?_
 refine Jd ?_
 intro i1 hi1
 try simp only [Ja, Rh, Rg, Jb] at hi1
 refine gs_ ?_
 refine Qc ?_
 refine gs_ ?_
 refine Qc ?_
 refine gs_ ?_
 refine PW_ownB b 3 3 1 (by simp [nev, nevA, nevB, Jp, PF.eval, PF.get, PF.wants, cPV, Qag, PV.rows, Qah, evUn, Jq, Qaj, Qai, Jn, TyK.agg, Qaf, St.box?, St.tok?, St.setBox, St.setTok, Qae, spl, PV.ps, PV.one, Jo, aggD, slD, Jh, Jk, Ji, Jj, Jg, Jf, *]; rfl) (by rfl) (by rfl) (by intro g; simp [St.setBox, *]; rfl) (by decide) ?_
 intro g hg
 refine go_ ?_
 refine Qax [(0, .a), (1, .a), (2, .a), (3, .a), (4, .a), (5, .b), (6, .a), (7, .b), (8, .a), (9, .e), (10, .a), (11, .a), (12, .a), (13, .e)] (by kernel_rfl) (by rfl) (by kernel_rfl) ?_
 refine go_ ?_
 refine Qbv ?_
 refine go_ ?_
 refine POrd_app_a 1 ?_ ?_ ?_ ?_
 ·simp
 ·simp
 ·exact Qbw rfl
 refine go_ ?_
 refine Qfx ?_
 refine go_ ?_
 refine PW_drawnL2 (J := Qcy [(i1, _)]) [(0, .a), (1, .a), (2, .a), (3, .a), (4, .b), (5, .a), (6, .a), (7, .a), (8, .a), (9, .e), (10, .a), (12, .a), (13, .a), (14, .a)] 11 15 [(15, .e)] [(11, .e)] (by kernel_rfl) (by decide) (by kernel_rfl) (by (repeat (first | exact Qap _ | refine Ju (by simp [St.box?, *] <;> rfl) ?_))) ?_
 repeat (first | with_reducible refine Qce ?_ | refine Qcd ?_ | refine Qct ?_ | refine Qcs ?_)
 refine PL_bb ?_ rfl (by decide) (by first | (simp [nev, nevA, nevB, Jp, PF.eval, PF.get, PF.wants, cPV, Qag, PV.rows, Qah, evUn, Jq, Qaj, Qai, Jn, TyK.agg, Qaf, St.box?, St.tok?, St.setBox, St.setTok, Qae, spl, PV.ps, PV.one, Jo, aggD, slD, Jh, Jk, Ji, Jj, Jg, Jf, *]; done) | fail) (by simp [nev, nevA, nevB, Jp, PF.eval, PF.get, PF.wants, cPV, Qag, PV.rows, Qah, evUn, Jq, Qaj, Qai, Jn, TyK.agg, Qaf, St.box?, St.tok?, St.setBox, St.setTok, Qae, spl, PV.ps, PV.one, Jo, aggD, slD, Jh, Jk, Ji, Jj, Jg, Jf, *]; rfl)
 repeat (first | with_reducible refine Qce ?_ | refine Qcd ?_ | refine Qct ?_ | refine Qcs ?_)
 refine Qdd (hC.out) ?_
 repeat (first | with_reducible refine Qce ?_ | refine Qcd ?_ | refine Qct ?_ | refine Qcs ?_)
 refine PL_bs ?_ rfl (by decide) rfl (by simp; rfl) (by rfl) (by simp; rfl) (by rfl) (by decide) (by decide) (by simp [nev, nevA, nevB, Jp, PF.eval, PF.get, PF.wants, cPV, Qag, PV.rows, Qah, evUn, Jq, Qaj, Qai, Jn, TyK.agg, Qaf, St.box?, St.tok?, St.setBox, St.setTok, Qae, spl, PV.ps, PV.one, Jo, aggD, slD, Jh, Jk, Ji, Jj, Jg, Jf, *]; rfl) (by simp [Qco, toDs, PV.toD]; rfl)
 repeat (first | with_reducible refine Qce ?_ | refine Qcd ?_ | refine Qct ?_ | refine Qcs ?_)
 refine PL_e rfl (by decide) (by first | (simp [nev, nevA, nevB, Jp, PF.eval, PF.get, PF.wants, cPV, Qag, PV.rows, Qah, evUn, Jq, Qaj, Qai, Jn, TyK.agg, Qaf, St.box?, St.tok?, St.setBox, St.setTok, Qae, spl, PV.ps, PV.one, Jo, aggD, slD, Jh, Jk, Ji, Jj, Jg, Jf, *]; done) | fail) (POp_appNilB rfl (by first | (simp [nev, nevA, nevB, Jp, PF.eval, PF.get, PF.wants, cPV, Qag, PV.rows, Qah, evUn, Jq, Qaj, Qai, Jn, TyK.agg, Qaf, St.box?, St.tok?, St.setBox, St.setTok, Qae, spl, PV.ps, PV.one, Jo, aggD, slD, Jh, Jk, Ji, Jj, Jg, Jf, *]; done) | (simp [nev, nevA, nevB, Jp, PF.eval, PF.get, PF.wants, cPV, Qag, PV.rows, Qah, evUn, Jq, Qaj, Qai, Jn, TyK.agg, Qaf, St.box?, St.tok?, St.setBox, St.setTok, Qae, spl, PV.ps, PV.one, Jo, aggD, slD, Jh, Jk, Ji, Jj, Jg, Jf, *]; rfl)) (by simp [nev, nevA, nevB, Jp, PF.eval, PF.get, PF.wants, cPV, Qag, PV.rows, Qah, evUn, Jq, Qaj, Qai, Jn, TyK.agg, Qaf, St.box?, St.tok?, St.setBox, St.setTok, Qae, spl, PV.ps, PV.one, Jo, aggD, slD, Jh, Jk, Ji, Jj, Jg, Jf, *]; rfl) (by simp [PV.src, PV.rows]; rfl) (by simp; rfl) (by rfl) (by simp [Qdo]) (by simp; rfl) (by decide) ?_ (by decide) (by decide) (by decide) fun i c hc1 hc2 hi => ⟨.inr ?_, ?_⟩)
 ·exact Qbw rfl
 ·simp only [Ja, Rg, Rh] at hi
  (repeat (first | exact Qap _ | refine Ju (by simp [St.box?, *] <;> rfl) ?_))
 simp only [Ja, Rg, Rh] at hi
 simp only [boxC, List.flatten_cons, List.flatten_nil, List.append_nil, List.map_cons, List.map_nil, List.cons_append, List.nil_append, List.length_singleton]
 generalize List.replicate (c * 3 - 1 * 3) PV.u = X
 have hc0 : (0 : Int) < c := by simp only [List.length_singleton] at hc1; omega
 repeat (first | with_reducible refine Qce ?_ | refine Qcd ?_ | refine Qct ?_ | refine Qcs ?_)
 constructor
 ·refine PL_store rfl rfl (by simp [nev, nevA, nevB, Jp, PF.eval, PF.get, PF.wants, cPV, Qag, PV.rows, Qah, evUn, Jq, Qaj, Qai, Jn, TyK.agg, Qaf, St.box?, St.tok?, St.setBox, St.setTok, Qae, spl, PV.ps, PV.one, Jo, aggD, slD, Jh, Jk, Ji, Jj, Jg, Jf, *]; rfl) (by rfl) (by simp [nev, nevA, nevB, Jp, PF.eval, PF.get, PF.wants, cPV, Qag, PV.rows, Qah, evUn, Jq, Qaj, Qai, Jn, TyK.agg, Qaf, St.box?, St.tok?, St.setBox, St.setTok, Qae, spl, PV.ps, PV.one, Jo, aggD, slD, Jh, Jk, Ji, Jj, Jg, Jf, *]; rfl) (by simp [PV.ps, aggD, slD, Jh, Jk, Ji, Jj, Jg, Jf]; rfl) (by first | rfl | (simp [*]; done) | (simp [PV.one, *]; done) | fail) (by simp; rfl) (by first | (simp; done) | fail) (by simp [nev, nevA, nevB, Jp, PF.eval, PF.get, PF.wants, cPV, Qag, PV.rows, Qah, evUn, Jq, Qaj, Qai, Jn, TyK.agg, Qaf, St.box?, St.tok?, St.setBox, St.setTok, Qae, spl, PV.ps, PV.one, Jo, aggD, slD, Jh, Jk, Ji, Jj, Jg, Jf, *]; rfl) (by rfl) (by first | (simp; done) | fail) (by simp [St.setBox, spl, *]; rfl) (by first | exact .inl (by decide +kernel) | exact .inr (by (repeat (first | exact Qap _ | refine Ju (by simp [St.box?, *] <;> rfl) ?_)))) ?_
  repeat (first | with_reducible refine Qce ?_ | refine Qcd ?_ | refine Qct ?_ | refine Qcs ?_)
  refine PL_store rfl rfl (by simp [nev, nevA, nevB, Jp, PF.eval, PF.get, PF.wants, cPV, Qag, PV.rows, Qah, evUn, Jq, Qaj, Qai, Jn, TyK.agg, Qaf, St.box?, St.tok?, St.setBox, St.setTok, Qae, spl, PV.ps, PV.one, Jo, aggD, slD, Jh, Jk, Ji, Jj, Jg, Jf, *]; rfl) (by rfl) (by simp [nev, nevA, nevB, Jp, PF.eval, PF.get, PF.wants, cPV, Qag, PV.rows, Qah, evUn, Jq, Qaj, Qai, Jn, TyK.agg, Qaf, St.box?, St.tok?, St.setBox, St.setTok, Qae, spl, PV.ps, PV.one, Jo, aggD, slD, Jh, Jk, Ji, Jj, Jg, Jf, *]; rfl) (by simp [PV.ps, aggD, slD, Jh, Jk, Ji, Jj, Jg, Jf]; rfl) (by first | rfl | (simp [*]; done) | (simp [PV.one, *]; done) | fail) (by simp; rfl) (by first | (simp; done) | fail) (by simp [nev, nevA, nevB, Jp, PF.eval, PF.get, PF.wants, cPV, Qag, PV.rows, Qah, evUn, Jq, Qaj, Qai, Jn, TyK.agg, Qaf, St.box?, St.tok?, St.setBox, St.setTok, Qae, spl, PV.ps, PV.one, Jo, aggD, slD, Jh, Jk, Ji, Jj, Jg, Jf, *]; rfl) (by rfl) (by first | (simp; done) | fail) (by simp [St.setBox, spl, *]; rfl) (by first | exact .inl (by decide +kernel) | exact .inr (by (repeat (first | exact Qap _ | refine Ju (by simp [St.box?, *] <;> rfl) ?_)))) ?_
  repeat (first | with_reducible refine Qce ?_ | refine Qcd ?_ | refine Qct ?_ | refine Qcs ?_)
  refine go_ ?_
  refine Jm (st' := [.box i 26 (.d (.v (.int .i64 6)) :: .d (.v (.int .i64 1)) :: .d (.sl []) :: X), .tok g 3 1 1, .box b 130 [.d (.sl (B.map encD)), .d (.v (.bool false)), .d (.v (.bool false)), .own g [[.v (.int .i64 0)]], .bsl i 1 c, .d (.v (.bool false))]]) (by simp) (by simp only [Tryz.results83]; rfl) (by simp [resP, St.box?, PF.get, Jn, TyK.agg, *]; rfl) (by repeat (first | exact List.Sublist.refl _ | exact List.nil_sublist _ | refine List.Sublist.cons_cons _ ?_ | refine List.Sublist.cons _ ?_)) ?_
  exact ⟨rfl, g, i, c, X, rfl⟩
 ·refine PL_store rfl rfl (by simp [nev, nevA, nevB, Jp, PF.eval, PF.get, PF.wants, cPV, Qag, PV.rows, Qah, evUn, Jq, Qaj, Qai, Jn, TyK.agg, Qaf, St.box?, St.tok?, St.setBox, St.setTok, Qae, spl, PV.ps, PV.one, Jo, aggD, slD, Jh, Jk, Ji, Jj, Jg, Jf, *]; rfl) (by rfl) (by simp [nev, nevA, nevB, Jp, PF.eval, PF.get, PF.wants, cPV, Qag, PV.rows, Qah, evUn, Jq, Qaj, Qai, Jn, TyK.agg, Qaf, St.box?, St.tok?, St.setBox, St.setTok, Qae, spl, PV.ps, PV.one, Jo, aggD, slD, Jh, Jk, Ji, Jj, Jg, Jf, *]; rfl) (by simp [PV.ps, aggD, slD, Jh, Jk, Ji, Jj, Jg, Jf]; rfl) (by first | rfl | (simp [*]; done) | (simp [PV.one, *]; done) | fail) (by simp; rfl) (by first | (simp; done) | fail) (by simp [nev, nevA, nevB, Jp, PF.eval, PF.get, PF.wants, cPV, Qag, PV.rows, Qah, evUn, Jq, Qaj, Qai, Jn, TyK.agg, Qaf, St.box?, St.tok?, St.setBox, St.setTok, Qae, spl, PV.ps, PV.one, Jo, aggD, slD, Jh, Jk, Ji, Jj, Jg, Jf, *]; rfl) (by rfl) (by first | (simp; done) | fail) (by simp [St.setBox, spl, *]; rfl) (by first | exact .inl (by decide +kernel) | exact .inr (by (repeat (first | exact Qap _ | refine Ju (by simp [St.box?, *] <;> rfl) ?_)))) ?_
  repeat (first | with_reducible refine Qce ?_ | refine Qcd ?_ | refine Qct ?_ | refine Qcs ?_)
  refine PL_store rfl rfl (by simp [nev, nevA, nevB, Jp, PF.eval, PF.get, PF.wants, cPV, Qag, PV.rows, Qah, evUn, Jq, Qaj, Qai, Jn, TyK.agg, Qaf, St.box?, St.tok?, St.setBox, St.setTok, Qae, spl, PV.ps, PV.one, Jo, aggD, slD, Jh, Jk, Ji, Jj, Jg, Jf, *]; rfl) (by rfl) (by simp [nev, nevA, nevB, Jp, PF.eval, PF.get, PF.wants, cPV, Qag, PV.rows, Qah, evUn, Jq, Qaj, Qai, Jn, TyK.agg, Qaf, St.box?, St.tok?, St.setBox, St.setTok, Qae, spl, PV.ps, PV.one, Jo, aggD, slD, Jh, Jk, Ji, Jj, Jg, Jf, *]; rfl) (by simp [PV.ps, aggD, slD, Jh, Jk, Ji, Jj, Jg, Jf]; rfl) (by first | rfl | (simp [*]; done) | (simp [PV.one, *]; done) | fail) (by simp; rfl) (by first | (simp; done) | fail) (by simp [nev, nevA, nevB, Jp, PF.eval, PF.get, PF.wants, cPV, Qag, PV.rows, Qah, evUn, Jq, Qaj, Qai, Jn, TyK.agg, Qaf, St.box?, St.tok?, St.setBox, St.setTok, Qae, spl, PV.ps, PV.one, Jo, aggD, slD, Jh, Jk, Ji, Jj, Jg, Jf, *]; rfl) (by rfl) (by first | (simp; done) | fail) (by simp [St.setBox, spl, *]; rfl) (by first | exact .inl (by decide +kernel) | exact .inr (by (repeat (first | exact Qap _ | refine Ju (by simp [St.box?, *] <;> rfl) ?_)))) ?_
  repeat (first | with_reducible refine Qce ?_ | refine Qcd ?_ | refine Qct ?_ | refine Qcs ?_)
  refine go_ ?_
  refine Jm (st' := [.box i 26 (.d (.v (.int .i64 6)) :: .d (.v (.int .i64 1)) :: .d (.sl []) :: X), .tok g 3 1 1, .box b 130 [.d (.sl (B.map encD)), .d (.v (.bool false)), .d (.v (.bool false)), .own g [[.v (.int .i64 0)]], .bsl i 1 c, .d (.v (.bool false))]]) (by simp) (by simp only [Tryz.results83]; rfl) (by simp [resP, St.box?, PF.get, Jn, TyK.agg, *]; rfl) (by repeat (first | exact List.Sublist.refl _ | exact List.nil_sublist _ | refine List.Sublist.cons_cons _ ?_ | refine List.Sublist.cons _ ?_)) ?_
  exact ⟨rfl, g, i, c, X, rfl⟩
def x24 : Pt := .mk 2 2 0 [.mk 1 0 0 [] (.mk 0 0 [])] (.mk 0 0 [])
def o24 : Tm := .mk 5 0 [.mk 6 2 [], .mk 6 1 []]
theorem o24_sp : Qad o24 = true ∧ Qan o24 = .mk 6 2 [] ∧ Qav o24 = [c29] := by
 refine ⟨by decide +kernel, ?_⟩
 have h := Qfe 0 (.mk 6 2 []) (.mk 6 1 [])
 have h2 := Qdh (t := .mk 6 2 []) (by decide)
 unfold o24
 rw [h.1, h.2, h2.1, h2.2]; exact ⟨rfl, rfl⟩
theorem x24_ok : pndT x24 ≤ 8000 ∧ decide (phgT x24 ≤ 128) = true ∧ pgT baseL x24 = true ∧ arN baseL 2 = 1 := ⟨by decide +kernel, by decide +kernel, by decide +kernel, by decide +kernel⟩
theorem ask2_p (b : Nat) (B : List En) (e2 : En) (hB2 : B[2]? = some e2) (hpar : e2.pars = 0) (hlen : (2 : Int) < B.length) (hA : PCalls Tryz.prog 134 [.d (.sl (B.map encD)), .d (.v (.int .i64 2))] [] fun p s => p = .d (.v (.int .i64 1)) ∧ s = []) :
  PCalls Tryz.prog 83 [.ptr b 0, aggD x24, aggD o24] [.box b 130 [.d (.sl (B.map encD)), .d (.v (.bool false)), .d (.v (.bool false)), .nils, .nils, .d (.v (.bool false))]] fun p s => p = .tup [] ∧ ∃ g i c X, s = [.box i 26 ([.d (.v (.int .i64 6)), .d (.v (.int .i64 1)), .d (.sl [])] ++ X), .tok g 3 1 1, .box b 130 [.d (.sl (B.map encD)), .d (.v (.bool false)), .d (.v (.bool false)), .own g [[.v (.int .i64 0)]], .bsl i 1 c, .d (.v (.bool false))]] := by
 have hS := Lib.hid (Qhr o24 o24_sp.1)
 rw [o24_sp.2.1, o24_sp.2.2] at hS
 have h1 := Lib.hid (ask1_p b B)
 have HA := Lib.hid hA
 have hx2 : (B.map encD)[2]? = some (encD e2) := by rw [List.getElem?_map, hB2]; rfl
 have hw0 : IntKind.i64.wrap 0 = 0 := wr64 (by decide) (by decide)
 have hw1 : IntKind.i64.wrap (0 + 1) = 1 := wr64 (by decide) (by decide)
 have hw2 : IntKind.i64.wrap 1 = 1 := wr64 (by decide) (by decide)
 clear hA
 simp only [x24, o24, c29, zTm, aggD, Qao, Jl, List.map_cons, List.map_nil, Pt.kind_mk, Pt.num_mk, Pt.at_mk, Pt.sub_mk, Pt.t_mk, Tm.kind_mk, Tm.num_mk, Tm.sub_mk] at hS h1 ⊢
 refine PCalls.enter Tryz.func83 rfl Tryz.ntmps83 (by simp) ?_
 simp only [Qab]
 refine go_ ?_
 refine Jd ?_
 intro i0 hi0
 try simp only [Ja, Rh, Rg, Jb] at hi0
 refine go_ ?_
 refine Jd ?_
 intro i1 hi1
 try simp only [Ja, Rh, Rg, Jb] at hi1
 refine go_ ?_
 refine Jc (hS.out) ?_
 refine go_ ?_
 refine Je ?_
 intro i2 hi2
 try simp only [Ja, Rh, Rg, Jb] at hi2
 refine go_ ?_
 refine Rd ?_
 refine go_ ?_
 refine Qax [(0, .a), (1, .b), (2, .a), (3, .a), (4, .a), (5, .a), (6, .a), (7, .b), (8, .a), (9, .b), (10, .a), (11, .a), (12, .a), (13, .a), (14, .a), (15, .a), (16, .a), (17, .a), (18, .a), (19, .b), (20, .a), (21, .b), (22, .a), (23, .a), (24, .a), (25, .a), (26, .a), (27, .a), (28, .b), (29, .a), (30, .b), (31, .a), (32, .a), (33, .a), (34, .a)] (by kernel_rfl) (by rfl) (by kernel_rfl) ?_
 refine go_ ?_
 refine Qaa (HA.out) ?_
 refine go_ ?_
 refine Qaa (HA.out) ?_
 refine go_ ?_
 refine Qak (ι := Option (Nat × Nat × Nat × List PV)) (fun _ => True) (fun y => [(0, .ptr b 0), (6, .ptr i2 0), (7, .d (.sl [[.v (.int .i64 6), .v (.int .i64 1), .sl []]])), (119, .d (.sl [[.v (.int .i64 1), .v (.int .i64 0), .v (.int .i64 0), .sl [], .v (.int .i64 0), .v (.int .i64 0), .sl []]])), (120, .d (.v (.int .i64 1))), (121, .d (.v (.int .i64 (match y with | none => 0 | some _ => 1))))]) (fun y => match y with
  | none => [.box i2 26 [.d (.v (.int .i64 6)), .d (.v (.int .i64 2)), .d (.sl [])], .box b 130 [.d (.sl (B.map encD)), .d (.v (.bool false)), .d (.v (.bool false)), .nils, .nils, .d (.v (.bool false))]]
  | some (g, i, c, X) => [.box i 26 ([.d (.v (.int .i64 6)), .d (.v (.int .i64 1)), .d (.sl [])] ++ X), .tok g 3 1 1, .box b 130 [.d (.sl (B.map encD)), .d (.v (.bool false)), .d (.v (.bool false)), .own g [[.v (.int .i64 0)]], .bsl i 1 c, .d (.v (.bool false))]]) (fun y => match y with | none => 1 | some _ => 0) none trivial ?_ ?_ ?_
 ·repeat (first | exact Jt _ | refine Js (by simp [PF.get]; rfl) (by first | rfl | (simp [*]; done) | fail) ?_)
 ·repeat (first | exact List.Sublist.refl _ | exact List.nil_sublist _ | refine List.Sublist.cons_cons _ ?_ | refine List.Sublist.cons _ ?_)
 rintro (_ | ⟨g, i, c, X⟩) -
 ·simp only
  refine go_ ?_
  refine Je ?_
  intro i3 hi3
  try simp only [Ja, Rh, Rg, Jb] at hi3
  refine go_ ?_
  refine Rd ?_
  refine go_ ?_
  refine Qax [(0, .a), (1, .b), (2, .a), (3, .a), (4, .a), (5, .a), (6, .b), (7, .a), (8, .b), (9, .a), (10, .a), (11, .a), (12, .a), (13, .a), (14, .a), (15, .a), (16, .e)] (by kernel_rfl) (by rfl) (by kernel_rfl) ?_
  refine go_ ?_
  refine POrd_callX 2 1 (h1.out) ?_
  rintro _ _ ⟨rfl, g, i, c, X, rfl⟩
  simp only [List.cons_append, List.nil_append, List.append_nil, Ja, Rh, Rg]
  refine go_ ?_
  exact ⟨some (g, i, c, X), trivial, by show 0 < 1; decide, by repeat (first | exact Jt _ | refine Js (by simp [PF.get]; rfl) (by first | rfl | (simp [*]; done) | fail) ?_), by repeat (first | exact List.Sublist.refl _ | exact List.nil_sublist _ | refine List.Sublist.cons_cons _ ?_ | refine List.Sublist.cons _ ?_)⟩
 ·simp only
  refine go_ ?_
  refine Jm (st' := [.box i 26 ([.d (.v (.int .i64 6)), .d (.v (.int .i64 1)), .d (.sl [])] ++ X), .tok g 3 1 1, .box b 130 [.d (.sl (B.map encD)), .d (.v (.bool false)), .d (.v (.bool false)), .own g [[.v (.int .i64 0)]], .bsl i 1 c, .d (.v (.bool false))]]) (by simp) (by simp only [Tryz.results83]; rfl) (by simp [resP, St.box?, PF.get, Jn, TyK.agg, *]; rfl) (by repeat (first | exact List.Sublist.refl _ | exact List.nil_sublist _ | refine List.Sublist.cons_cons _ ?_ | refine List.Sublist.cons _ ?_)) ?_
  exact ⟨rfl, g, i, c, X, rfl⟩
theorem Ask24_p (B : List En) (e2 : En) (hB2 : B[2]? = some e2) (hpar : e2.pars = 0) (hlen : (2 : Int) < B.length) (hA : PCalls Tryz.prog 134 [.d (.sl (B.map encD)), .d (.v (.int .i64 2))] [] fun p s => p = .d (.v (.int .i64 1)) ∧ s = [])
  (hF : PCalls Tryz.prog 80 [.d (.sl (B.map encD))] [] fun p s => p = .d (.v (.bool true)) ∧ s = []) (hg : PCalls Tryz.prog 82 [.d (.sl (B.map encD)), aggD x24] [] fun p s => p = .d (.v (.bool true)) ∧ s = []) :
  PCalls Tryz.prog 29 [.d (.sl (B.map encD)), .d (.sl ([x24].map encD)), .d (.sl ([o24].map encD))] [] fun p s => p = .tup [.agg [.d (.v (.bool true)), .d (.v (.bool false)), .d (.sl [[.v (.int .i64 0)]]), .d (.sl [[.v (.int .i64 6), .v (.int .i64 1), .sl []]])], .d (.v (.int .i64 0))] ∧ s = [] := by
 refine PCalls.freeze4 (E := 26) (es := 3) (rows := [[.v (.int .i64 6), .v (.int .i64 1), .sl []]]) (Qbw rfl) ?_
 have H2 : Hid (∀ b, _) := fun b => ask2_p b B e2 hB2 hpar hlen hA
 have HF := Lib.hid hF
 have HG := Lib.hid hg
 have hSm := Lib.hid (psmall_p x24 x24_ok.1)
 rw [x24_ok.2.1] at hSm
 have hSh := Lib.hid (Qeb o24)
 rw [o24_sp.1] at hSh
 have hw1 : IntKind.i64.wrap (0 + 1) = 1 := wr64 (by decide) (by decide)
 have hw2 : IntKind.i64.wrap 1 = 1 := wr64 (by decide) (by decide)
 clear hA hF hg hB2 hpar hlen
 simp only [x24, o24, aggD, Qao, Jl, List.map_cons, List.map_nil, Pt.kind_mk, Pt.num_mk, Pt.at_mk, Pt.sub_mk, Pt.t_mk, Tm.kind_mk, Tm.num_mk, Tm.sub_mk] at H2 HG hSm hSh ⊢
 obtain ⟨PR, hPR⟩ : ∃ PR : List (List D), PR = [[.v (.int .i64 2), .v (.int .i64 2), .v (.int .i64 0), .sl [[.v (.int .i64 1), .v (.int .i64 0), .v (.int .i64 0), .sl [], .v (.int .i64 0), .v (.int .i64 0), .sl []]], .v (.int .i64 0), .v (.int .i64 0), .sl []]] := ⟨_, rfl⟩
 refine PCalls.enter Tryz.func29 rfl Tryz.ntmps29 (by simp) ?_
 simp only [Qab]
 refine go_ ?_
 refine Je ?_
 intro i0 hi0
 try simp only [Ja, Rh, Rg, Jb] at hi0
 refine go_ ?_
 refine Jr (HF.out) ?_
 refine go_ ?_
 refine Qak (ι := Bool) (fun _ => True) (fun y => [(0, .d (.sl (B.map encD))), (1, .d (.sl [[.v (.int .i64 2), .v (.int .i64 2), .v (.int .i64 0), .sl [[.v (.int .i64 1), .v (.int .i64 0), .v (.int .i64 0), .sl [], .v (.int .i64 0), .v (.int .i64 0), .sl []]], .v (.int .i64 0), .v (.int .i64 0), .sl []]])), (2, .d (.sl [[.v (.int .i64 5), .v (.int .i64 0), .sl [[.v (.int .i64 6), .v (.int .i64 2), .sl []], [.v (.int .i64 6), .v (.int .i64 1), .sl []]]]])), (6, .ptr i0 0), (23, .d (.v (.int .i64 1))), (24, .d (.v (.int .i64 (match y with | false => 0 | true => 1))))]) (fun _ => [.box i0 56 [.d (.v (.bool false)), .d (.v (.bool false)), .nils, .nils]]) (fun y => match y with | false => 1 | true => 0) false trivial ?_ ?_ ?_
 ·repeat (first | exact Jt _ | refine Js (by simp [PF.get]; rfl) (by first | rfl | (simp [*]; done) | fail) ?_)
 ·repeat (first | exact List.Sublist.refl _ | exact List.nil_sublist _ | refine List.Sublist.cons_cons _ ?_ | refine List.Sublist.cons _ ?_)
 rintro (_ | _) -
 ·simp only
  refine go_ ?_
  refine Jc (hSm.out) ?_
  refine go_ ?_
  refine Jr (HG.out) ?_
  refine go_ ?_
  refine Jr (hSh.out) ?_
  refine go_ ?_
  exact ⟨true, trivial, by decide, by repeat (first | exact Jt _ | refine Js (by simp [PF.get]; rfl) (by first | rfl | (simp [*]; done) | fail) ?_), by repeat (first | exact List.Sublist.refl _ | exact List.nil_sublist _ | refine List.Sublist.cons_cons _ ?_ | refine List.Sublist.cons _ ?_)⟩
 simp only
 refine go_ ?_
 refine Jd ?_
 intro b hb
 try simp only [Ja, Rh, Rg, Jb] at hb
 refine go_ ?_
 have h2 := Lib.hid (H2.out b)
 clear H2
 refine Qak (ι := Option (Nat × Nat × Nat × List PV)) (fun _ => True) (fun y => [(1, .d (.sl [[.v (.int .i64 2), .v (.int .i64 2), .v (.int .i64 0), .sl [[.v (.int .i64 1), .v (.int .i64 0), .v (.int .i64 0), .sl [], .v (.int .i64 0), .v (.int .i64 0), .sl []]], .v (.int .i64 0), .v (.int .i64 0), .sl []]])), (2, .d (.sl [[.v (.int .i64 5), .v (.int .i64 0), .sl [[.v (.int .i64 6), .v (.int .i64 2), .sl []], [.v (.int .i64 6), .v (.int .i64 1), .sl []]]]])), (6, .ptr i0 0), (9, .ptr b 0), (56, .d (.v (.int .i64 1))), (57, .d (.v (.int .i64 (match y with | none => 0 | some _ => 1))))]) (fun y => match y with
  | none => [.box b 130 [.d (.sl (B.map encD)), .d (.v (.bool false)), .d (.v (.bool false)), .nils, .nils, .d (.v (.bool false))], .box i0 56 [.d (.v (.bool false)), .d (.v (.bool false)), .nils, .nils]]
  | some (g, i, c, X) => [.box i 26 ([.d (.v (.int .i64 6)), .d (.v (.int .i64 1)), .d (.sl [])] ++ X), .tok g 3 1 1, .box b 130 [.d (.sl (B.map encD)), .d (.v (.bool false)), .d (.v (.bool false)), .own g [[.v (.int .i64 0)]], .bsl i 1 c, .d (.v (.bool false))], .box i0 56 [.d (.v (.bool false)), .d (.v (.bool false)), .nils, .nils]]) (fun y => match y with | none => 1 | some _ => 0) none trivial ?_ ?_ ?_
 ·repeat (first | exact Jt _ | refine Js (by simp [PF.get]; rfl) (by first | rfl | (simp [*]; done) | fail) ?_)
 ·repeat (first | exact List.Sublist.refl _ | exact List.nil_sublist _ | refine List.Sublist.cons_cons _ ?_ | refine List.Sublist.cons _ ?_)
 rintro (_ | ⟨g, i, c, X⟩) -
 ·simp only
  refine go_ ?_
  refine Qax [(0, .a), (1, .a), (2, .a), (3, .a), (4, .a), (5, .a), (6, .a), (7, .a), (8, .a), (9, .e)] (by kernel_rfl) (by rfl) (by kernel_rfl) ?_
  refine go_ ?_
  refine POrd_callX 0 1 (h2.out) ?_
  rintro _ _ ⟨rfl, g, i, c, X, rfl⟩
  simp only [List.cons_append, List.nil_append, List.append_nil, Ja, Rh, Rg]
  refine go_ ?_
  exact ⟨some (g, i, c, X), trivial, by show 0 < 1; decide, by repeat (first | exact Jt _ | refine Js (by simp [PF.get]; rfl) (by first | rfl | (simp [*]; done) | fail) ?_), by repeat (first | exact List.Sublist.refl _ | exact List.nil_sublist _ | refine List.Sublist.cons_cons _ ?_ | refine List.Sublist.cons _ ?_)⟩
 ·simp only
  refine PW_nodupV fun hnd => ?_
  simp only [bidn_box, bidn_tok, bidn_nil, List.nodup_cons, List.mem_cons, List.not_mem_nil, not_or, or_false, not_false_eq_true, and_true, List.nodup_nil] at hnd
  obtain ⟨⟨n1, n2⟩, n3⟩ := hnd
  have n1' : ¬ b = i := fun e => n1 e.symm
  have n2' : ¬ i0 = i := fun e => n2 e.symm
  refine go_ ?_
  refine Rd ?_
  refine go_ ?_
  refine Rd ?_
  refine go_ ?_
  refine Jm (st' := [.box i 26 ([.d (.v (.int .i64 6)), .d (.v (.int .i64 1)), .d (.sl [])] ++ X)]) (by simp) (by simp only [Tryz.results29]; rfl) (by simp [resP, St.box?, PF.get, Jn, TyK.agg, *]; rfl) (by repeat (first | exact List.Sublist.refl _ | exact List.nil_sublist _ | refine List.Sublist.cons_cons _ ?_ | refine List.Sublist.cons _ ?_)) ?_
  exact ⟨i, c, X, rfl, rfl⟩
theorem awake24_p : PCalls Tryz.prog 14 [] [] fun p s => p = .d (.v (.bool true)) ∧ s = [] := by
 have hB2 : ∃ e2, baseL[2]? = some e2 ∧ e2.pars = 0 := ⟨⟨2, ⟨#[115, 117, 99]⟩, .mk 3 0 [.mk 6 0 [], .mk 6 0 []], .mk 0 0 [], 0, 1, 0, 0, 0, [], []⟩, rfl, rfl⟩
 obtain ⟨e2, hB2, hpar⟩ := hB2
 have hA := parity_p baseL 2 Qer
 rw [x24_ok.2.2.2] at hA
 have hF := sformed_p baseL Qft
 rw [Qer] at hF
 have hg := pgood_p baseL Qer x24
 rw [x24_ok.2.2.1] at hg
 have hK := Lib.hid (Ask24_p baseL e2 hB2 hpar (by decide) hA hF hg)
 have hC1 := Lib.hid (bC_p 1)
 have hC2 := Lib.hid (bC_p 2)
 have hAp := Lib.hid (bA_p (.mk 6 2 []) [.mk 6 1 []] (by decide))
 have hB := Lib.hid rbase_p
 clear hA hF hg hB2 hpar
 generalize baseL = B at *
 simp only [x24, o24, apT, List.foldl_cons, List.foldl_nil, aggD, Qao, Jl, List.map_cons, List.map_nil, Pt.kind_mk, Pt.num_mk, Pt.at_mk, Pt.sub_mk, Pt.t_mk, Tm.kind_mk, Tm.num_mk, Tm.sub_mk] at hK hC1 hC2 hAp
 refine PCalls.enter Tryz.func14 rfl Tryz.ntmps14 (by simp) ?_
 simp only [Qab]
 refine go_ ?_
 refine Qam ?_
 refine go_ ?_
 refine Je ?_
 intro i0 hi0
 try simp only [Ja, Rh, Rg, Jb] at hi0
 refine go_ ?_
 refine Rd ?_
 refine go_ ?_
 refine Jc (hC2.out) ?_
 refine go_ ?_
 refine Jc (hC1.out) ?_
 refine go_ ?_
 refine Qam ?_
 refine go_ ?_
 refine Jc (hAp.out) ?_
 refine go_ ?_
 refine Je ?_
 intro i1 hi1
 try simp only [Ja, Rh, Rg, Jb] at hi1
 refine go_ ?_
 refine Rd ?_
 refine go_ ?_
 refine Qek (J := Qcy [(i0, _), (i1, _)]) [(0, .a), (1, .a), (2, .a), (3, .a), (4, .a), (5, .a), (6, .a), (7, .a), (8, .a), (9, .e), (10, .e), (11, .a)] (by kernel_rfl) (by rfl) (by kernel_rfl) (by (repeat (first | exact Qap _ | refine Ju (by simp [St.box?, *] <;> rfl) ?_))) ?_
 repeat (first | with_reducible refine Qaw ?_ | refine Qay ?_ | refine Qbe ?_ | refine Qbg ?_)
 refine Qdp (hB.out) ?_
 repeat (first | with_reducible refine Qaw ?_ | refine Qay ?_ | refine Qbe ?_ | refine Qbg ?_)
 refine PJ_bs ?_ rfl (by decide) rfl (by simp; rfl) (by rfl) (by simp; rfl) (by rfl) (by decide) (by decide) (by simp [nev, nevA, nevB, Jp, PF.eval, PF.get, PF.wants, cPV, Qag, PV.rows, Qah, evUn, Jq, Qaj, Qai, Jn, TyK.agg, Qaf, St.box?, St.tok?, St.setBox, St.setTok, Qae, spl, PV.ps, PV.one, Jo, aggD, slD, Jh, Jk, Ji, Jj, Jg, Jf, *]; rfl) (by simp [Qco, toDs, PV.toD]; rfl)
 repeat (first | with_reducible refine Qaw ?_ | refine Qay ?_ | refine Qbe ?_ | refine Qbg ?_)
 refine PJ_bs ?_ rfl (by decide) rfl (by simp; rfl) (by rfl) (by simp; rfl) (by rfl) (by decide) (by decide) (by simp [nev, nevA, nevB, Jp, PF.eval, PF.get, PF.wants, cPV, Qag, PV.rows, Qah, evUn, Jq, Qaj, Qai, Jn, TyK.agg, Qaf, St.box?, St.tok?, St.setBox, St.setTok, Qae, spl, PV.ps, PV.one, Jo, aggD, slD, Jh, Jk, Ji, Jj, Jg, Jf, *]; rfl) (by simp [Qco, toDs, PV.toD]; rfl)
 repeat (first | with_reducible refine Qaw ?_ | refine Qay ?_ | refine Qbe ?_ | refine Qbg ?_)
 refine Qdp (hK.out) ?_
 repeat (first | with_reducible refine Qaw ?_ | refine Qay ?_ | refine Qbe ?_ | refine Qbg ?_)
 refine Qgh rfl (by decide) rfl (by simp; rfl) (fun i hi => by simp only [Ja, Rh, Rg] at hi; (repeat (first | exact Qap _ | refine Ju (by simp [St.box?, *] <;> rfl) ?_))) ?_
 intro i2 hi2
 try simp only [Ja, Rh, Rg, Jb] at hi2
 repeat (first | with_reducible refine Qaw ?_ | refine Qay ?_ | refine Qbe ?_ | refine Qbg ?_)
 refine Qgi rfl rfl (by simp [nev, nevA, nevB, Jp, PF.eval, PF.get, PF.wants, cPV, Qag, PV.rows, Qah, evUn, Jq, Qaj, Qai, Jn, TyK.agg, Qaf, St.box?, St.tok?, St.setBox, St.setTok, Qae, spl, PV.ps, PV.one, Jo, aggD, slD, Jh, Jk, Ji, Jj, Jg, Jf, *]; rfl) (by rfl) (by simp [nev, nevA, nevB, Jp, PF.eval, PF.get, PF.wants, cPV, Qag, PV.rows, Qah, evUn, Jq, Qaj, Qai, Jn, TyK.agg, Qaf, St.box?, St.tok?, St.setBox, St.setTok, Qae, spl, PV.ps, PV.one, Jo, aggD, slD, Jh, Jk, Ji, Jj, Jg, Jf, *]; rfl) (by simp [PV.ps, aggD, slD, Jh, Jk, Ji, Jj, Jg, Jf]; rfl) (by first | rfl | (simp [*]; done) | (simp [PV.one, *]; done) | fail) (by simp; rfl) (by first | (simp; done) | fail) (by simp [nev, nevA, nevB, Jp, PF.eval, PF.get, PF.wants, cPV, Qag, PV.rows, Qah, evUn, Jq, Qaj, Qai, Jn, TyK.agg, Qaf, St.box?, St.tok?, St.setBox, St.setTok, Qae, spl, PV.ps, PV.one, Jo, aggD, slD, Jh, Jk, Ji, Jj, Jg, Jf, *]; rfl) (by rfl) (by first | (simp; done) | fail) (by simp [St.setBox, spl, *]; rfl) (by (repeat (first | exact Qap _ | refine Ju (by simp [St.box?, *] <;> rfl) ?_))) ?_
 repeat (first | with_reducible refine Qaw ?_ | refine Qay ?_ | refine Qbe ?_ | refine Qbg ?_)
 refine go_ ?_
 refine Jm (by simp) (by simp only [Tryz.results14]; rfl) (by simp [resP, St.box?, PF.get, Jn, TyK.agg, *]; rfl) Nl ?_
 exact ⟨rfl, rfl⟩
theorem paB_hg {t : Nd} (h : patB t = true) : hgT t ≤ 128 := by
 unfold patB smallB at h
 simp only [Bool.and_eq_true, decide_eq_true_eq] at h
 have h1 := h.1
 unfold depthT at h1
 split at h1
 ·omega
 ·have := dp_hg t 1 (by omega) (by omega)
  omega
theorem paB_good {t : Nd} (h : patB t = true) : goodT t true = true := by
 unfold patB at h
 simp only [Bool.and_eq_true] at h
 exact h.2
theorem rdL_all {l : List En} : ∀ (r : List Nd) (τ : Rs), (∀ x ∈ r, patB x = true) → τ.names.length + ndL r ≤ 1048576 → (rdL l r τ).2.e = 0 → pndL (rdL l r τ).1 ≤ ndL r ∧ ∀ p ∈ (rdL l r τ).1, phgT p ≤ 128
  | [], τ, _, _, _ => by simp only [rdL, pndL, ndL]; exact ⟨Nat.le_refl _, by simp⟩
  | x :: r, τ, hg, hn, he => by
    simp only [rdL] at he ⊢
    simp only [ndL] at hn ⊢
    have hxe : (rdT l x τ).2.e = 0 := by
      by_cases h : (rdT l x τ).2.e = 0
      · exact h
      · rw [(rdL_err r _ h).1] at he; exact absurd he h
    obtain ⟨q1, ⟨m1, a1, a2, a3⟩, q3, q4⟩ := rd_ok x τ (paB_good (hg x (by simp))) (by omega) hxe
    obtain ⟨r1, r2⟩ := rdL_all r (rdT l x τ).2 (fun y hy => hg y (by simp [hy])) (by omega) he
    have h3 := paB_hg (hg x (by simp))
    refine ⟨by simp only [pndL]; omega, fun p hp => ?_⟩
    rcases List.mem_cons.1 hp with rfl | hp
    · omega
    · exact r2 p hp
theorem rdAll_ok {l : List En} {fr : List Nd} (hn : ndL fr ≤ 8000) : (∀ x ∈ (rdAll l fr).1, pRight l x = true ∧ phgT x ≤ 128) ∧ pndL (rdAll l fr).1 ≤ 8000 ∧ (pvL (rdAll l fr).1).Nodup ∧ (rdAll l fr).2.1.length ≤ 1000000 := by
 have h0 : (∀ x ∈ ([] : List Pt), pRight l x = true ∧ phgT x ≤ 128) ∧ pndL [] ≤ 8000 ∧ (pvL []).Nodup ∧ ([] : List ByteArray).length ≤ 1000000 := by
  refine ⟨by simp, by simp only [pndL]; omega, by simp [pvL], by simp⟩
 unfold rdAll
 split
 ·rename_i hF
  simp only [Bool.and_eq_true, List.all_eq_true] at hF
  split
  ·rename_i he
   have h1 := rdL_ok (l := l) fr ⟨[], 0, 0⟩ (fun x hx => paB_good (hF.2 x hx)) (by simp only [List.length_nil]; omega) he
   have h2 := rdL_all (l := l) fr ⟨[], 0, 0⟩ hF.2 (by simp only [List.length_nil]; omega) he
   have h3 := rdL_names l fr ⟨[], 0, 0⟩
   obtain ⟨g1, m, -, g3⟩ := h1
   refine ⟨fun x hx => ⟨?_, h2.2 x hx⟩, by simp only; omega, by simp only; rw [g3]; exact upto_nodup _ _, by simp only [List.length_nil] at h3 ⊢; omega⟩
   unfold pRight
   rw [hF.1, decide_eq_true (h2.2 x hx), g1 x hx]; rfl
  ·exact h0
 ·exact h0
theorem reads_p (l : List En) (fr : List Nd) (ho : ∀ e ∈ l, EnOk e) : PCalls Tryz.prog 5 [.d (.sl (l.map encD)), .d (.sl (fr.map encD))] [] fun r s => r = .d (.v (.bool true)) ∧ s = [] := by
 have hW := Lib.hid awake24_p
 by_cases h1 : (60 : Int) < l.length
 ·clear ho
  refine PCalls.enter Tryz.func5 rfl Tryz.ntmps5 (by simp) ?_
  simp only [Qab]
  refine go_ ?_
  refine Jc (hW.out) ?_
  refine go_ ?_
  refine Jm (by simp) (by simp only [Tryz.results5]; rfl) (by simp [resP, St.box?, PF.get, Jn, TyK.agg, *]; rfl) Nl ?_
  exact ⟨rfl, rfl⟩
 by_cases h2 : (20 : Int) < fr.length
 ·clear ho
  refine PCalls.enter Tryz.func5 rfl Tryz.ntmps5 (by simp) ?_
  simp only [Qab]
  refine go_ ?_
  refine Jc (hW.out) ?_
  refine go_ ?_
  refine Jm (by simp) (by simp only [Tryz.results5]; rfl) (by simp [resP, St.box?, PF.get, Jn, TyK.agg, *]; rfl) Nl ?_
  exact ⟨rfl, rfl⟩
 have HN : Hid (∀ t : Nd, PCalls Tryz.prog 31 [aggD t, .d (.v (.int .i64 400))] [] fun p s => p = .tup [aggD (budT t 400).1, .d (.v (.int .i64 (budT t 400).2))] ∧ s = []) := fun t => node24_p t 400 (by decide) (by decide)
 have HB : Hid (∀ t : Nd, 0 < (budT t 400).2 → (budT t 400).1 = t ∧ ndT t ≤ 400) := fun t h => by
  obtain ⟨_, _, h2⟩ := bud_facts t 400
  obtain ⟨h3, h4⟩ := h2 (by omega)
  exact ⟨h3, by omega⟩
 have HR1 : Hid (ndL fr ≤ 8000 → PCalls Tryz.prog 32 [.d (.sl (l.map encD)), .d (.sl (fr.map encD))] [] fun p s => p = rdP (rdAll l fr) ∧ s = []) := fun h => pRead_p l fr ho (by omega)
 have HR2 : Hid (ndL fr ≤ 8000 → PCalls Tryz.prog 33 [.d (.sl (l.map encD)), .d (.sl (fr.map encD))] [] fun p s => p = gotL (rdAll l fr) ∧ s = []) := fun h => rRead24_p l fr ho (by omega)
 have HOK := Lib.hid (fun h : ndL fr ≤ 8000 => rdAll_ok (l := l) h)
 have HRt : Hid (∀ x : Pt, pndT x ≤ 8000 → pRight l x = true → PCalls Tryz.prog 19 [.d (.sl (l.map encD)), aggD x] [] fun r s => r = .d (.v (.bool true)) ∧ s = []) := fun x hx hp => by
  have h := Qhy l x ho hx
  rw [hp] at h; exact h
 clear ho
 refine PCalls.enter Tryz.func5 rfl Tryz.ntmps5 (by simp) ?_
 simp only [Qab]
 refine go_ ?_
 refine Qdq ?_ (by decide) (by first | (simp [nev, nevA, nevB, Jp, PF.eval, PF.get, PF.wants, cPV, Qag, PV.rows, Qah, evUn, Jq, Qaj, Qai, Jn, TyK.agg, Qaf, St.box?, St.tok?, St.setBox, St.setTok, Qae, spl, PV.ps, PV.one, Jo, aggD, slD, Jh, Jk, Ji, Jj, Jg, Jf, *]; done) | fail) (by simp; rfl) (by rfl) (by simp; rfl) (by rfl) (by decide)
 intro g hg
 refine go_ ?_
 refine Qak (ι := Nat) (fun y => y ≤ fr.length ∧ Hid (ndL (fr.take y) ≤ 400 * y)) (fun y => [(0, .d (.sl (l.map encD))), (1, .d (.sl (fr.map encD))), (5, .own g ((fr.map encD).take y)), (6, .d (.v (.int .i64 (y : Int))))]) (fun y => [.tok g 64 5 y]) (fun y => fr.length - y) 0 ⟨Nat.zero_le _, by show _ ≤ _; simp [ndL]⟩ ?_ ?_ ?_
 ·repeat (first | exact Jt _ | refine Js (by simp [PF.get]; rfl) (by first | rfl | (simp [*]; done) | fail) ?_)
 ·repeat (first | exact List.Sublist.refl _ | exact List.nil_sublist _ | refine List.Sublist.cons_cons _ ?_ | refine List.Sublist.cons _ ?_)
 rintro j ⟨hj, hnd⟩
 by_cases hlt : j < fr.length
 ·have hx := Qal hlt
  have hc : (j : Int) < fr.length := by omega
  have hn : (0 : Int) ≤ j := by omega
  have hin := wr64 (n := (j : Int) + 1) (by omega) (by omega)
  have hc1 := Lib.hid (HN.out fr[j])
  have hb := Lib.hid (HB.out fr[j])
  have hrows := rows_next (f := encD (α := Nd)) hlt
  have hnd2 : Hid (ndT fr[j] ≤ 400 → ndL (fr.take (j + 1)) ≤ 400 * (j + 1)) := fun h => by
   rw [List.take_succ_eq_append_getElem hlt, ndL_append]
   have := hnd.out
   simp only [ndL]; omega
  generalize (budT fr[j] 400).2 = left at *
  obtain ⟨q, hq⟩ : ∃ q, q = (budT fr[j] 400).1 := ⟨_, rfl⟩
  rw [← hq] at hc1 hb
  clear hnd hq
  by_cases hl : 0 < left
  rotate_left
  ·have hle : left ≤ 0 := by omega
   simp only [aggD, Jh, List.map_cons, List.map_nil] at hc1
   refine go_ ?_
   refine Jc (hc1.out) ?_
   refine go_ ?_
   refine Je ?_
   intro i3 hi3
   try simp only [Ja, Rh, Rg, Jb] at hi3
   refine go_ ?_
   refine Rd ?_
   refine go_ ?_
   refine Jc (hW.out) ?_
   refine go_ ?_
   refine Jm (by simp) (by simp only [Tryz.results5]; rfl) (by simp [resP, St.box?, PF.get, Jn, TyK.agg, *]; rfl) Nl ?_
   exact ⟨rfl, rfl⟩
  ·obtain ⟨rfl, hb2⟩ := hb.out hl
   have hle : ¬ left ≤ 0 := by omega
   have hnd3 := hnd2.out hb2
   simp only [aggD, Jh, List.map_cons, List.map_nil] at hc1
   refine go_ ?_
   refine Jc (hc1.out) ?_
   refine go_ ?_
   refine Je ?_
   intro i3 hi3
   try simp only [Ja, Rh, Rg, Jb] at hi3
   refine go_ ?_
   refine Rd ?_
   refine go_ ?_
   refine Qam ?_
   refine go_ ?_
   refine Qba (j + 1) ?_ ?_ ?_ ?_
   ·simp; omega
   ·exact rows_take fun b => Qiw b
   ·exact Qbw rfl
   refine go_ ?_
   refine ⟨j + 1, ⟨hlt, hnd3⟩, by omega, ?_, ?_⟩
   ·rw [← hrows]
    repeat (first | exact Jt _ | refine Js (by simp [PF.get]; rfl) (by first | rfl | (simp [Jh]; done) | fail) ?_)
   ·repeat (first | exact List.Sublist.refl _ | exact List.nil_sublist _ | refine List.Sublist.cons_cons _ ?_ | refine List.Sublist.cons _ ?_)
 have hc : ¬ (j : Int) < fr.length := by omega
 have hjl : j = fr.length := by omega
 have hnf : ndL fr ≤ 8000 := by have := hnd.out; rw [List.take_of_length_le (by omega)] at this; omega
 have hR1 := HR1.out hnf
 have hR2 := HR2.out hnf
 obtain ⟨o1, o2, o3, o4⟩ := HOK.out hnf
 generalize rdAll l fr = R at *
 obtain ⟨P, N, A, E⟩ := R
 simp only at o1 o2 o3 o4
 simp only [rdP, gotL] at hR1 hR2
 have r1 := Lib.hid hR1
 have r2 := Lib.hid hR2
 have hT := Lib.hid (rSameTexts_p N o4)
 have hL := Lib.hid (rLinear_p P o2 (fun p hp => (o1 p hp).2) o3)
 have HX : Hid (∀ x ∈ P, PCalls Tryz.prog 35 [aggD x, aggD x] [] fun r s => r = .d (.v (.bool true)) ∧ s = []) := fun x hx => same24_p x (by have := pnd_mem x hx; omega)
 have HY : Hid (∀ x ∈ P, PCalls Tryz.prog 19 [.d (.sl (l.map encD)), aggD x] [] fun r s => r = .d (.v (.bool true)) ∧ s = []) := fun x hx => HRt.out x (by have := pnd_mem x hx; omega) (o1 x hx).1
 have hpl := Qjd P
 have n1 : (E != E) = false := by simp
 have n2 : (A != A) = false := by simp
 have n3 : ((P.length : Int) != (P.length : Int)) = false := by simp
 have htk : (fr.map encD).take j = fr.map encD := List.take_of_length_le (by rw [List.length_map]; omega)
 rw [htk]
 clear HR1 HR2 HOK HRt HN HB hnd hR1 hR2 o1 o3 o4 htk
 refine go_ ?_
 refine Jc (r1.out) ?_
 refine go_ ?_
 refine Jc (r2.out) ?_
 refine go_ ?_
 refine Je ?_
 intro i4 hi4
 try simp only [Ja, Rh, Rg, Jb] at hi4
 refine go_ ?_
 refine Rd ?_
 refine go_ ?_
 refine Jr (hT.out) ?_
 refine go_ ?_
 refine Qak (ι := Nat) (fun y => y ≤ P.length) (fun y => [(0, .d (.sl (l.map encD))), (9, .d (.sl (P.map encD))), (13, .ptr i4 0), (14, .d (.v (.int .i64 (y : Int))))]) (fun _ => [.box i4 73 [.d (.sl (P.map encD)), .d (.sl (N.map encD)), .d (.v (.int .i64 A)), .d (.v (.int .i64 E))]]) (fun y => P.length - y) 0 (Nat.zero_le _) ?_ ?_ ?_
 ·repeat (first | exact Jt _ | refine Js (by simp [PF.get]; rfl) (by first | rfl | (simp [*]; done) | fail) ?_)
 ·repeat (first | exact List.Sublist.refl _ | exact List.nil_sublist _ | refine List.Sublist.cons_cons _ ?_ | refine List.Sublist.cons _ ?_)
 rintro k hk
 by_cases hkl : k < P.length
 ·have hx := Qal hkl
  have hck : (k : Int) < P.length := by omega
  have hnk : (0 : Int) ≤ k := by omega
  have hink := wr64 (n := (k : Int) + 1) (by omega) (by omega)
  have c1 := Lib.hid (HX.out _ (List.getElem_mem hkl))
  have c2 := Lib.hid (HY.out _ (List.getElem_mem hkl))
  simp only [aggD, Qao, Jl, List.map_cons, List.map_nil] at c1 c2
  refine go_ ?_
  refine Qax [(0, .a), (1, .a), (2, .a), (3, .a), (4, .a), (5, .b), (6, .a), (7, .a), (8, .a), (9, .a), (10, .a), (11, .a), (12, .a), (13, .a), (14, .b), (15, .a), (16, .a), (17, .a), (18, .a), (19, .a), (20, .a)] (by kernel_rfl) (by rfl) (by kernel_rfl) ?_
  refine go_ ?_
  refine Qaa (c1.out) ?_
  refine go_ ?_
  refine Qbm (c2.out) ?_
  refine go_ ?_
  exact ⟨k + 1, hkl, by omega, by repeat (first | exact Jt _ | refine Js (by simp [PF.get]; rfl) (by first | rfl | (simp [*]; done) | fail) ?_), by repeat (first | exact List.Sublist.refl _ | exact List.nil_sublist _ | refine List.Sublist.cons_cons _ ?_ | refine List.Sublist.cons _ ?_)⟩
 ·have hck : ¬ (k : Int) < P.length := by omega
  refine go_ ?_
  refine Jc (hL.out) ?_
  refine go_ ?_
  refine Jr (hW.out) ?_
  refine go_ ?_
  refine Jm (by simp) (by simp only [Tryz.results5]; rfl) (by simp [resP, St.box?, PF.get, Jn, TyK.agg, *]; rfl) Nl ?_
  exact ⟨rfl, rfl⟩
theorem reads_walk (v : Value) (l : List En) (v2 : Value) (fr : List Nd) (w : World) (h : EnS w v l) (h2 : NdS w v2 fr) : Calls Tryz.prog 5 #[v, v2] w fun e w' => e = .returned (.bool true) ∧ Below w.heap.size w w' := by
 refine PCalls.top ((reads_p l fr h.2).mono fun p s hp => hp.1) ?_
 exact Qby (.d (relS_of (fun b o v _ hv => ⟨v, hv⟩) (by decide) h.1)) (Qby (.d (relS_of (fun b o v _ hv => ⟨v, hv⟩) (by decide) (NdS.toR h2))) (Qel _ _))
section
variable {H : Type} {enc : TypeId × Value → H} {w : World} {base : Nat} {spare : Nat → Bool} {held : Bool}
theorem open_ndz {n : Nat} {cs : List Value} {x : DataW H × List MemPlace} (h : DataW.trod enc Tryz.prog w base spare held n 61 cs = some x) (_hw : Wl Tryz.prog 61 x.1) : ∃ (a : Option Addr) (len cap : Nat) (ts : List Nd), cs = [.slice a len cap] ∧ NdS w (.slice a len cap) ts := open_nds h
end
end Go.Proofs.YtdklpbefbamchaaGreat
