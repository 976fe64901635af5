import Derived.Test.YtdklpbefbamchaaGreatDBG1
import Derived.Test.YtdklpbefbamchaaGreatQBE
import Derived.Test.YtdklpbefbamchaaGreatQBN
import Derived.Test.YtdklpbefbamchaaGreatQBV
set_option linter.unusedSimpArgs false
set_option linter.unusedVariables false
set_option maxHeartbeats 16000000
set_option maxRecDepth 100000
namespace Go.Proofs.YtdklpbefbamchaaGreat
open Go.RowKit
mutual
def pvT : Pt → List Int
 | .mk k n _ sub _ => if k = 1 then [n] else pvL sub
def pvL : List Pt → List Int
 | [] => []
 | p :: ps => pvT p ++ pvL ps
end
theorem tmConst_p (n : Int) : PCalls Tryz.prog 117 [.d (.v (.int .i64 n))] [] fun p s => p = aggD (Tm.mk 6 n []) ∧ s = [] := by
 have hc := Lib.hid (tnode_p 6 n [])
 simp only [aggD, Jl, List.map_cons, List.map_nil, Tm.kind_mk, Tm.num_mk, Tm.sub_mk] at hc ⊢
 refine PCalls.enter Tryz.func117 rfl Tryz.ntmps117 (by simp) ?_
 simp only [Qab]
 refine go_ ?_
 refine Je ?_
 intro i0 hi0
 refine go_ ?_
 refine Jc (hc.out) ?_
 refine go_ ?_
 refine Rd ?_
 refine go_ ?_
 refine Jm (by simp) (by simp only [Tryz.results117]; rfl) (by simp [resP, St.box?, PF.get, Jn, TyK.agg, *]; rfl) Nl ?_
 exact ⟨by simp [tupP, PV.norm2, PV.norm1, PV.norm0], rfl⟩
theorem tmFree_p (n : Int) : PCalls Tryz.prog 116 [.d (.v (.int .i64 n))] [] fun p s => p = aggD (Tm.mk 8 n []) ∧ s = [] := by
 have hc := Lib.hid (tnode_p 8 n [])
 simp only [aggD, Jl, List.map_cons, List.map_nil, Tm.kind_mk, Tm.num_mk, Tm.sub_mk] at hc ⊢
 refine PCalls.enter Tryz.func116 rfl Tryz.ntmps116 (by simp) ?_
 simp only [Qab]
 refine go_ ?_
 refine Je ?_
 intro i0 hi0
 refine go_ ?_
 refine Jc (hc.out) ?_
 refine go_ ?_
 refine Rd ?_
 refine go_ ?_
 refine Jm (by simp) (by simp only [Tryz.results116]; rfl) (by simp [resP, St.box?, PF.get, Jn, TyK.agg, *]; rfl) Nl ?_
 exact ⟨by simp [tupP, PV.norm2, PV.norm1, PV.norm0], rfl⟩
theorem tmPi_p (a b : Tm) : PCalls Tryz.prog 162 [aggD a, aggD b] [] fun p s => p = aggD (Tm.mk 3 0 [a, b]) ∧ s = [] := by
 have hc := Lib.hid (tnode_p 3 0 [a, b])
 simp only [aggD, Jl, List.map_cons, List.map_nil, Tm.kind_mk, Tm.num_mk, Tm.sub_mk] at hc ⊢
 refine PCalls.enter Tryz.func162 rfl Tryz.ntmps162 (by simp) ?_
 simp only [Qab]
 refine go_ ?_
 refine Jd ?_
 intro i2 hi2
 try simp only [Ja, Rh, Rg, Jb] at hi2
 refine go_ ?_
 refine Jd ?_
 intro i3 hi3
 try simp only [Ja, Rh, Rg, Jb] at hi3
 refine go_ ?_
 refine Je ?_
 intro i4 hi4
 try simp only [Ja, Rh, Rg, Jb] at hi4
 refine go_ ?_
 refine Qam ?_
 refine go_ ?_
 refine Jc (hc.out) ?_
 refine go_ ?_
 refine Rd ?_
 refine go_ ?_
 refine Jm (by simp) (by simp only [Tryz.results162]; rfl) (by simp [resP, St.box?, PF.get, Jn, TyK.agg, *]; rfl) Nl ?_
 exact ⟨by simp [tupP, PV.norm2, PV.norm1, PV.norm0], rfl⟩
theorem tmApp_p (a b : Tm) : PCalls Tryz.prog 118 [aggD a, aggD b] [] fun p s => p = aggD (Tm.mk 5 0 [a, b]) ∧ s = [] := by
 have hc := Lib.hid (tnode_p 5 0 [a, b])
 simp only [aggD, Jl, List.map_cons, List.map_nil, Tm.kind_mk, Tm.num_mk, Tm.sub_mk] at hc ⊢
 refine PCalls.enter Tryz.func118 rfl Tryz.ntmps118 (by simp) ?_
 simp only [Qab]
 refine go_ ?_
 refine Jd ?_
 intro i2 hi2
 try simp only [Ja, Rh, Rg, Jb] at hi2
 refine go_ ?_
 refine Jd ?_
 intro i3 hi3
 try simp only [Ja, Rh, Rg, Jb] at hi3
 refine go_ ?_
 refine Je ?_
 intro i4 hi4
 try simp only [Ja, Rh, Rg, Jb] at hi4
 refine go_ ?_
 refine Qam ?_
 refine go_ ?_
 refine Jc (hc.out) ?_
 refine go_ ?_
 refine Rd ?_
 refine go_ ?_
 refine Jm (by simp) (by simp only [Tryz.results118]; rfl) (by simp [resP, St.box?, PF.get, Jn, TyK.agg, *]; rfl) Nl ?_
 exact ⟨by simp [tupP, PV.norm2, PV.norm1, PV.norm0], rfl⟩
structure Rs where
 names : List ByteArray
 e : Int
 at_ : Int
def Rs.fail (σ : Rs) (e a : Int) : Rs := if σ.e = 0 then ⟨σ.names, e, a⟩ else σ
def zTm : Tm := .mk 0 0 []
def upto (a n : Nat) : List Int := (List.range n).map fun i => ((a + i : Nat) : Int)
structure RdOk (l : List En) (p : Pt) (σ τ : Rs) (nd hg : Nat) : Prop where
 good : pgT l p = true
 num : ∃ m, τ.names.length = σ.names.length + m ∧ m ≤ nd ∧ pvT p = upto σ.names.length m
 nd : pndT p ≤ nd
 hg : phgT p ≤ hg
structure RdsOk (l : List En) (p : List Pt) (σ τ : Rs) (nd hg : Nat) : Prop where
 good : pgL l p = true
 num : ∃ m, τ.names.length = σ.names.length + m ∧ m ≤ nd ∧ pvL p = upto σ.names.length m
 nd : pndL p ≤ nd
 hg : phgL p ≤ hg
end Go.Proofs.YtdklpbefbamchaaGreat
