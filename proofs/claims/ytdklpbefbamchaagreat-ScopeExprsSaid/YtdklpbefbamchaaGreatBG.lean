import Derived.Test.YtdklpbefbamchaaGreatBE3
set_option linter.unusedSimpArgs false
set_option linter.unusedVariables false
set_option maxHeartbeats 16000000
set_option maxRecDepth 100000
namespace Go.Proofs.YtdklpbefbamchaaGreat
open Go.RowKit
theorem tmVar_p (n : Int) : PCalls Tryz.prog 211 [.d (.v (.int .i64 n))] [] fun p s => p = aggD (Tm.mk 1 n []) ∧ s = [] := by
 have hc := Lib.hid (Qid 1 n [])
 simp only [aggD, Jl, List.map_cons, List.map_nil, Jv, Jw, Jx] at hc ⊢
 refine PCalls.enter Tryz.func211 rfl Tryz.ntmps211 (by simp) ?_
 simp only [Qaa]
 refine go_ ?_
 refine Je ?_
 intro i0 hi0
 refine go_ ?_
 refine Jc (hc.out) ?_
 refine go_ ?_
 refine Rd ?_
 refine go_ ?_
 refine Jm (by simp) (by simp only [Tryz.results211]; rfl) (by simp [resP, St.box?, PF.get, Jn, TyK.agg, *]; rfl) Nl ?_
 exact ⟨by simp [tupP, PV.norm2, PV.norm1, PV.norm0], rfl⟩
theorem tmConst_p (n : Int) : PCalls Tryz.prog 117 [.d (.v (.int .i64 n))] [] fun p s => p = aggD (Tm.mk 6 n []) ∧ s = [] := by
 have hc := Lib.hid (Qid 6 n [])
 simp only [aggD, Jl, List.map_cons, List.map_nil, Jv, Jw, Jx] at hc ⊢
 refine PCalls.enter Tryz.func117 rfl Tryz.ntmps117 (by simp) ?_
 simp only [Qaa]
 refine go_ ?_
 refine Je ?_
 intro i0 hi0
 refine go_ ?_
 refine Jc (hc.out) ?_
 refine go_ ?_
 refine Rd ?_
 refine go_ ?_
 refine Jm (by simp) (by simp only [Tryz.results117]; rfl) (by simp [resP, St.box?, PF.get, Jn, TyK.agg, *]; rfl) Nl ?_
 exact ⟨by simp [tupP, PV.norm2, PV.norm1, PV.norm0], rfl⟩
theorem tmPi_p (a b : Tm) : PCalls Tryz.prog 162 [aggD a, aggD b] [] fun p s => p = aggD (Tm.mk 3 0 [a, b]) ∧ s = [] := by
 have hc := Lib.hid (Qid 3 0 [a, b])
 simp only [aggD, Jl, List.map_cons, List.map_nil, Jv, Jw, Jx] at hc ⊢
 refine PCalls.enter Tryz.func162 rfl Tryz.ntmps162 (by simp) ?_
 simp only [Qaa]
 refine go_ ?_
 refine Jd ?_
 intro i2 hi2
 try simp only [Ja, Rh, Rg, Jb] at hi2
 refine go_ ?_
 refine Jd ?_
 intro i3 hi3
 try simp only [Ja, Rh, Rg, Jb] at hi3
 refine go_ ?_
 refine Je ?_
 intro i4 hi4
 try simp only [Ja, Rh, Rg, Jb] at hi4
 refine go_ ?_
 refine Qam ?_
 refine go_ ?_
 refine Jc (hc.out) ?_
 refine go_ ?_
 refine Rd ?_
 refine go_ ?_
 refine Jm (by simp) (by simp only [Tryz.results162]; rfl) (by simp [resP, St.box?, PF.get, Jn, TyK.agg, *]; rfl) Nl ?_
 exact ⟨by simp [tupP, PV.norm2, PV.norm1, PV.norm0], rfl⟩
theorem tmLam_p (a b : Tm) : PCalls Tryz.prog 163 [aggD a, aggD b] [] fun p s => p = aggD (Tm.mk 4 0 [a, b]) ∧ s = [] := by
 have hc := Lib.hid (Qid 4 0 [a, b])
 simp only [aggD, Jl, List.map_cons, List.map_nil, Jv, Jw, Jx] at hc ⊢
 refine PCalls.enter Tryz.func163 rfl Tryz.ntmps163 (by simp) ?_
 simp only [Qaa]
 refine go_ ?_
 refine Jd ?_
 intro i2 hi2
 try simp only [Ja, Rh, Rg, Jb] at hi2
 refine go_ ?_
 refine Jd ?_
 intro i3 hi3
 try simp only [Ja, Rh, Rg, Jb] at hi3
 refine go_ ?_
 refine Je ?_
 intro i4 hi4
 try simp only [Ja, Rh, Rg, Jb] at hi4
 refine go_ ?_
 refine Qam ?_
 refine go_ ?_
 refine Jc (hc.out) ?_
 refine go_ ?_
 refine Rd ?_
 refine go_ ?_
 refine Jm (by simp) (by simp only [Tryz.results163]; rfl) (by simp [resP, St.box?, PF.get, Jn, TyK.agg, *]; rfl) Nl ?_
 exact ⟨by simp [tupP, PV.norm2, PV.norm1, PV.norm0], rfl⟩
theorem tmApp_p (a b : Tm) : PCalls Tryz.prog 118 [aggD a, aggD b] [] fun p s => p = aggD (Tm.mk 5 0 [a, b]) ∧ s = [] := by
 have hc := Lib.hid (Qid 5 0 [a, b])
 simp only [aggD, Jl, List.map_cons, List.map_nil, Jv, Jw, Jx] at hc ⊢
 refine PCalls.enter Tryz.func118 rfl Tryz.ntmps118 (by simp) ?_
 simp only [Qaa]
 refine go_ ?_
 refine Jd ?_
 intro i2 hi2
 try simp only [Ja, Rh, Rg, Jb] at hi2
 refine go_ ?_
 refine Jd ?_
 intro i3 hi3
 try simp only [Ja, Rh, Rg, Jb] at hi3
 refine go_ ?_
 refine Je ?_
 intro i4 hi4
 try simp only [Ja, Rh, Rg, Jb] at hi4
 refine go_ ?_
 refine Qam ?_
 refine go_ ?_
 refine Jc (hc.out) ?_
 refine go_ ?_
 refine Rd ?_
 refine go_ ?_
 refine Jm (by simp) (by simp only [Tryz.results118]; rfl) (by simp [resP, St.box?, PF.get, Jn, TyK.agg, *]; rfl) Nl ?_
 exact ⟨by simp [tupP, PV.norm2, PV.norm1, PV.norm0], rfl⟩
end Go.Proofs.YtdklpbefbamchaaGreat
