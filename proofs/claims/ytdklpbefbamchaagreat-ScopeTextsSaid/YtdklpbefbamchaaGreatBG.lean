import Derived.Test.YtdklpbefbamchaaGreatBE1
set_option linter.unusedSimpArgs false
set_option linter.unusedVariables false
set_option maxHeartbeats 16000000
set_option maxRecDepth 100000
namespace Go.Proofs.YtdklpbefbamchaaGreat
open Go.RowKit
theorem tmVar_p (n : Int) : PCalls Tryz.prog 211 [.d (.v (.int .i64 n))] [] fun p s => p = aggD (Tm.mk 1 n []) ∧ s = [] := by
 have hc := Hh (Qkj 1 n [])
 simp only [aggD, Jl, List.map_cons, List.map_nil, Jv, Jw, Jx] at hc ⊢
 refine pG Tryz.func211 Tryz.ntmps211 ?_
 refine Je ?_
 intro i0 hi0
 refine go_ ?_
 refine Qab (hc.out) ?_
 refine Qaa ?_
 refine rT Tryz.results211 ?_
 exact ⟨by simp [tupP, PV.norm2, PV.norm1, PV.norm0], rfl⟩
theorem tmConst_p (n : Int) : PCalls Tryz.prog 117 [.d (.v (.int .i64 n))] [] fun p s => p = aggD (Tm.mk 6 n []) ∧ s = [] := by
 have hc := Hh (Qkj 6 n [])
 simp only [aggD, Jl, List.map_cons, List.map_nil, Jv, Jw, Jx] at hc ⊢
 refine pG Tryz.func117 Tryz.ntmps117 ?_
 refine Je ?_
 intro i0 hi0
 refine go_ ?_
 refine Qab (hc.out) ?_
 refine Qaa ?_
 refine rT Tryz.results117 ?_
 exact ⟨by simp [tupP, PV.norm2, PV.norm1, PV.norm0], rfl⟩
theorem tmPi_p (a b : Tm) : PCalls Tryz.prog 162 [aggD a, aggD b] [] fun p s => p = aggD (Tm.mk 3 0 [a, b]) ∧ s = [] := by
 have hc := Hh (Qkj 3 0 [a, b])
 simp only [aggD, Jl, List.map_cons, List.map_nil, Jv, Jw, Jx] at hc ⊢
 refine pG Tryz.func162 Tryz.ntmps162 ?_
 refine Jd ?_
 intro i2 hi2
 try simp only [Ja, Rh, Rg, Jb] at hi2
 refine go_ ?_
 refine Jd ?_
 intro i3 hi3
 try simp only [Ja, Rh, Rg, Jb] at hi3
 refine go_ ?_
 refine Je ?_
 intro i4 hi4
 try simp only [Ja, Rh, Rg, Jb] at hi4
 refine go_ ?_
 refine Qao ?_
 refine Qab (hc.out) ?_
 refine Qaa ?_
 refine rT Tryz.results162 ?_
 exact ⟨by simp [tupP, PV.norm2, PV.norm1, PV.norm0], rfl⟩
theorem tmLam_p (a b : Tm) : PCalls Tryz.prog 163 [aggD a, aggD b] [] fun p s => p = aggD (Tm.mk 4 0 [a, b]) ∧ s = [] := by
 have hc := Hh (Qkj 4 0 [a, b])
 simp only [aggD, Jl, List.map_cons, List.map_nil, Jv, Jw, Jx] at hc ⊢
 refine pG Tryz.func163 Tryz.ntmps163 ?_
 refine Jd ?_
 intro i2 hi2
 try simp only [Ja, Rh, Rg, Jb] at hi2
 refine go_ ?_
 refine Jd ?_
 intro i3 hi3
 try simp only [Ja, Rh, Rg, Jb] at hi3
 refine go_ ?_
 refine Je ?_
 intro i4 hi4
 try simp only [Ja, Rh, Rg, Jb] at hi4
 refine go_ ?_
 refine Qao ?_
 refine Qab (hc.out) ?_
 refine Qaa ?_
 refine rT Tryz.results163 ?_
 exact ⟨by simp [tupP, PV.norm2, PV.norm1, PV.norm0], rfl⟩
theorem tmApp_p (a b : Tm) : PCalls Tryz.prog 118 [aggD a, aggD b] [] fun p s => p = aggD (Tm.mk 5 0 [a, b]) ∧ s = [] := by
 have hc := Hh (Qkj 5 0 [a, b])
 simp only [aggD, Jl, List.map_cons, List.map_nil, Jv, Jw, Jx] at hc ⊢
 refine pG Tryz.func118 Tryz.ntmps118 ?_
 refine Jd ?_
 intro i2 hi2
 try simp only [Ja, Rh, Rg, Jb] at hi2
 refine go_ ?_
 refine Jd ?_
 intro i3 hi3
 try simp only [Ja, Rh, Rg, Jb] at hi3
 refine go_ ?_
 refine Je ?_
 intro i4 hi4
 try simp only [Ja, Rh, Rg, Jb] at hi4
 refine go_ ?_
 refine Qao ?_
 refine Qab (hc.out) ?_
 refine Qaa ?_
 refine rT Tryz.results118 ?_
 exact ⟨by simp [tupP, PV.norm2, PV.norm1, PV.norm0], rfl⟩
end Go.Proofs.YtdklpbefbamchaaGreat
