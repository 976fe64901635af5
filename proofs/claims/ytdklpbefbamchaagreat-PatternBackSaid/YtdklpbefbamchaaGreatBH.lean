import Derived.Test.YtdklpbefbamchaaGreatBE2
import Derived.Test.YtdklpbefbamchaaGreatBS
import Derived.Test.YtdklpbefbamchaaGreatBE3
import Derived.Test.YtdklpbefbamchaaGreatBE4
import Derived.Test.YtdklpbefbamchaaGreatBA6
import Derived.Test.YtdklpbefbamchaaGreatBS3
import Derived.Test.YtdklpbefbamchaaGreatBG1
import Derived.Test.YtdklpbefbamchaaGreatBG
import Derived.Test.YtdklpbefbamchaaGreatBE
set_option linter.unusedSimpArgs false
set_option linter.unusedVariables false
set_option maxHeartbeats 16000000
set_option maxRecDepth 100000
namespace Go.Proofs.YtdklpbefbamchaaGreat
open Go.RowKit
def apT (t : Tm) (l : List Tm) : Tm := l.foldl (fun x a => .mk 5 0 [x, a]) t
theorem apT_take {t : Tm} {l : List Tm} {j : Nat} (h : j < l.length) : apT t (l.take (j + 1)) = .mk 5 0 [apT t (l.take j), l[j]] := by
 unfold apT
 rw [List.take_succ_eq_append_getElem h, List.foldl_append]; rfl
theorem rapply07_p (t : Tm) (l : List Tm) (hl : l.length ≤ 100000) : PCalls Tryz.prog 69 [aggD t, .d (.sl (l.map encD))] [] fun p s => p = aggD (apT t l) ∧ s = [] := by
 obtain ⟨R, hR⟩ : ∃ R, R = apT t l := ⟨_, rfl⟩
 rw [← hR]
 have HR := Lib.hid hR
 clear hR
 simp only [aggD, Jl, List.map_cons, List.map_nil]
 refine PCalls.enter Tryz.func69 rfl Tryz.ntmps69 (by simp) ?_
 simp only [Qab]
 refine go_ ?_
 refine Jd ?_
 intro i2 hi2
 try simp only [Ja, Rh, Rg, Jb] at hi2
 refine go_ ?_
 refine Je ?_
 intro i4 hi4
 try simp only [Ja, Rh, Rg, Jb] at hi4
 refine go_ ?_
 refine Qak (ι := Nat × Tm) (fun y => y.1 ≤ l.length ∧ Hid (y.2 = apT t (l.take y.1))) (fun y => [(1, .d (.sl (l.map encD))), (2, .ptr i2 0), (4, .ptr i4 0), (5, .d (.v (.int .i64 (y.1 : Int))))]) (fun y => [.box i4 26 [.d (.v (.int .i64 0)), .d (.v (.int .i64 0)), .nils], .box i2 26 [.d (.v (.int .i64 y.2.kind)), .d (.v (.int .i64 y.2.num)), .d (.sl (y.2.sub.map encD))]]) (fun y => l.length - y.1) (0, t) ⟨Nat.zero_le _, rfl⟩ ?_ ?_ ?_
 ·repeat (first | exact Jt _ | refine Js (by simp [PF.get]; rfl) (by first | rfl | (simp [*]; done) | fail) ?_)
 ·repeat (first | exact List.Sublist.refl _ | exact List.nil_sublist _ | refine List.Sublist.cons_cons _ ?_ | refine List.Sublist.cons _ ?_)
 rintro ⟨j, u⟩ ⟨hj, hu⟩
 simp only at hj hu ⊢
 by_cases hlt : j < l.length
 ·have hx := Qal hlt
  have hcj : (j : Int) < l.length := by omega
  have hn0 : (0 : Int) ≤ j := by omega
  have hin := wr64 (n := (j : Int) + 1) (by omega) (by omega)
  have hT := Lib.hid (rtwo_p 5 u l[j])
  simp only [aggD, Jl, List.map_cons, List.map_nil, Tm.kind_mk, Tm.num_mk, Tm.sub_mk] at hT
  refine go_ ?_
  refine Qan [(0, .b), (1, .a), (2, .a), (3, .a), (4, .a), (5, .a), (6, .e)] (by kernel_rfl) (by rfl) (by kernel_rfl) ?_
  refine go_ ?_
  refine Qaa (hT.out) ?_
  refine go_ ?_
  refine Qdp ?_
  refine go_ ?_
  refine ⟨(j + 1, .mk 5 0 [u, l[j]]), ⟨hlt, by show _ = _; rw [apT_take hlt, ← show u = _ from hu.out]⟩, by show l.length - (j + 1) < l.length - j; omega, by repeat (first | exact Jt _ | refine Js (by simp [PF.get]; rfl) (by first | rfl | (simp [*]; done) | fail) ?_), ?_⟩
  simp only [Tm.kind_mk, Tm.num_mk, Tm.sub_mk, List.map_cons, List.map_nil, Jl]
  repeat (first | exact List.Sublist.refl _ | exact List.nil_sublist _ | refine List.Sublist.cons_cons _ ?_ | refine List.Sublist.cons _ ?_)
 have hcj : ¬ (j : Int) < l.length := by omega
 have hRu : R = u := by
  rw [HR.out, hu.out, List.take_of_length_le (by omega)]
 subst hRu
 clear hlt hj hu
 refine go_ ?_
 refine Rd ?_
 refine go_ ?_
 refine Jm (by simp) (by simp only [Tryz.results69]; rfl) (by simp [resP, St.box?, PF.get, Jn, TyK.agg, *]; rfl) Nl ?_
 exact ⟨by simp [tupP, PV.norm2, PV.norm1, PV.norm0], rfl⟩
theorem rnode07_p (k n : Int) (l : List Tm) : PCalls Tryz.prog 125 [.d (.v (.int .i64 k)), .d (.v (.int .i64 n)), .d (.sl (l.map encD))] [] fun p s => p = aggD (Tm.mk k n l) ∧ s = [] := by
 refine PCalls.enter Tryz.func125 rfl Tryz.ntmps125 (by simp) ?_
 simp only [Qab]
 refine go_ ?_
 refine Je ?_
 intro i0 hi0
 refine go_ ?_
 refine Rd ?_
 refine go_ ?_
 refine Jm (by simp) (by simp only [Tryz.results125]; rfl) (by simp [resP, St.box?, PF.get, Jn, TyK.agg, *]; rfl) Nl ?_
 exact ⟨by simp [aggD, tupP, PV.norm2, PV.norm1, PV.norm0], rfl⟩
theorem bC_p (n : Int) : PCalls Tryz.prog 25 [.d (.v (.int .i64 n))] [] fun p s => p = aggD (Tm.mk 6 n []) ∧ s = [] := by
 have hc := Lib.hid (rleaf_p 6 n)
 simp only [aggD, Jl, List.map_cons, List.map_nil, Tm.kind_mk, Tm.num_mk, Tm.sub_mk] at hc ⊢
 refine PCalls.enter Tryz.func25 rfl Tryz.ntmps25 (by simp) ?_
 simp only [Qab]
 refine go_ ?_
 refine Je ?_
 intro i0 hi0
 refine go_ ?_
 refine Jc (hc.out) ?_
 refine go_ ?_
 refine Rd ?_
 refine go_ ?_
 refine Jm (by simp) (by simp only [Tryz.results25]; rfl) (by simp [resP, St.box?, PF.get, Jn, TyK.agg, *]; rfl) Nl ?_
 exact ⟨by simp [tupP, PV.norm2, PV.norm1, PV.norm0], rfl⟩
theorem bS_p (n : Int) : PCalls Tryz.prog 38 [.d (.v (.int .i64 n))] [] fun p s => p = aggD (Tm.mk 2 n []) ∧ s = [] := by
 have hc := Lib.hid (rleaf_p 2 n)
 simp only [aggD, Jl, List.map_cons, List.map_nil, Tm.kind_mk, Tm.num_mk, Tm.sub_mk] at hc ⊢
 refine PCalls.enter Tryz.func38 rfl Tryz.ntmps38 (by simp) ?_
 simp only [Qab]
 refine go_ ?_
 refine Je ?_
 intro i0 hi0
 refine go_ ?_
 refine Jc (hc.out) ?_
 refine go_ ?_
 refine Rd ?_
 refine go_ ?_
 refine Jm (by simp) (by simp only [Tryz.results38]; rfl) (by simp [resP, St.box?, PF.get, Jn, TyK.agg, *]; rfl) Nl ?_
 exact ⟨by simp [tupP, PV.norm2, PV.norm1, PV.norm0], rfl⟩
theorem bV_p (n : Int) : PCalls Tryz.prog 72 [.d (.v (.int .i64 n))] [] fun p s => p = aggD (Tm.mk 1 n []) ∧ s = [] := by
 have hc := Lib.hid (rleaf_p 1 n)
 simp only [aggD, Jl, List.map_cons, List.map_nil, Tm.kind_mk, Tm.num_mk, Tm.sub_mk] at hc ⊢
 refine PCalls.enter Tryz.func72 rfl Tryz.ntmps72 (by simp) ?_
 simp only [Qab]
 refine go_ ?_
 refine Je ?_
 intro i0 hi0
 refine go_ ?_
 refine Jc (hc.out) ?_
 refine go_ ?_
 refine Rd ?_
 refine go_ ?_
 refine Jm (by simp) (by simp only [Tryz.results72]; rfl) (by simp [resP, St.box?, PF.get, Jn, TyK.agg, *]; rfl) Nl ?_
 exact ⟨by simp [tupP, PV.norm2, PV.norm1, PV.norm0], rfl⟩
theorem bP_p (a b : Tm) : PCalls Tryz.prog 71 [aggD a, aggD b] [] fun p s => p = aggD (Tm.mk 3 0 [a, b]) ∧ s = [] := by
 have hc := Lib.hid (rtwo_p 3 a b)
 simp only [aggD, Jl, List.map_cons, List.map_nil, Tm.kind_mk, Tm.num_mk, Tm.sub_mk] at hc ⊢
 refine PCalls.enter Tryz.func71 rfl Tryz.ntmps71 (by simp) ?_
 simp only [Qab]
 refine go_ ?_
 refine Jd ?_
 intro i2 hi2
 try simp only [Ja, Rh, Rg, Jb] at hi2
 refine go_ ?_
 refine Jd ?_
 intro i3 hi3
 try simp only [Ja, Rh, Rg, Jb] at hi3
 refine go_ ?_
 refine Je ?_
 intro i4 hi4
 try simp only [Ja, Rh, Rg, Jb] at hi4
 refine go_ ?_
 refine Jc (hc.out) ?_
 refine go_ ?_
 refine Rd ?_
 refine go_ ?_
 refine Jm (by simp) (by simp only [Tryz.results71]; rfl) (by simp [resP, St.box?, PF.get, Jn, TyK.agg, *]; rfl) Nl ?_
 exact ⟨by simp [tupP, PV.norm2, PV.norm1, PV.norm0], rfl⟩
theorem bL_p (a b : Tm) : PCalls Tryz.prog 73 [aggD a, aggD b] [] fun p s => p = aggD (Tm.mk 4 0 [a, b]) ∧ s = [] := by
 have hc := Lib.hid (rtwo_p 4 a b)
 simp only [aggD, Jl, List.map_cons, List.map_nil, Tm.kind_mk, Tm.num_mk, Tm.sub_mk] at hc ⊢
 refine PCalls.enter Tryz.func73 rfl Tryz.ntmps73 (by simp) ?_
 simp only [Qab]
 refine go_ ?_
 refine Jd ?_
 intro i2 hi2
 try simp only [Ja, Rh, Rg, Jb] at hi2
 refine go_ ?_
 refine Jd ?_
 intro i3 hi3
 try simp only [Ja, Rh, Rg, Jb] at hi3
 refine go_ ?_
 refine Je ?_
 intro i4 hi4
 try simp only [Ja, Rh, Rg, Jb] at hi4
 refine go_ ?_
 refine Jc (hc.out) ?_
 refine go_ ?_
 refine Rd ?_
 refine go_ ?_
 refine Jm (by simp) (by simp only [Tryz.results73]; rfl) (by simp [resP, St.box?, PF.get, Jn, TyK.agg, *]; rfl) Nl ?_
 exact ⟨by simp [tupP, PV.norm2, PV.norm1, PV.norm0], rfl⟩
theorem bA_p (t : Tm) (l : List Tm) (hl : l.length ≤ 100000) : PCalls Tryz.prog 60 [aggD t, .d (.sl (l.map encD))] [] fun p s => p = aggD (apT t l) ∧ s = [] := by
 have hc := Lib.hid (rapply07_p t l hl)
 generalize apT t l = r at *
 simp only [aggD, Jl, List.map_cons, List.map_nil, Tm.kind_mk, Tm.num_mk, Tm.sub_mk] at hc ⊢
 refine PCalls.enter Tryz.func60 rfl Tryz.ntmps60 (by simp) ?_
 simp only [Qab]
 refine go_ ?_
 refine Jd ?_
 intro i2 hi2
 try simp only [Ja, Rh, Rg, Jb] at hi2
 refine go_ ?_
 refine Je ?_
 intro i4 hi4
 try simp only [Ja, Rh, Rg, Jb] at hi4
 refine go_ ?_
 refine Jc (hc.out) ?_
 refine go_ ?_
 refine Rd ?_
 refine go_ ?_
 refine Jm (by simp) (by simp only [Tryz.results60]; rfl) (by simp [resP, St.box?, PF.get, Jn, TyK.agg, *]; rfl) Nl ?_
 exact ⟨by simp [tupP, PV.norm2, PV.norm1, PV.norm0], rfl⟩
theorem bE_p (n m : Int) : PCalls Tryz.prog 74 [.d (.v (.int .i64 n)), .d (.v (.int .i64 m))] [] fun p s => p = aggD (Tm.mk 7 n [.mk 2 m []]) ∧ s = [] := by
 have hs := Lib.hid (bS_p m)
 have hc := Lib.hid (rnode07_p 7 n [.mk 2 m []])
 simp only [aggD, Jl, List.map_cons, List.map_nil, Tm.kind_mk, Tm.num_mk, Tm.sub_mk] at hc hs ⊢
 refine PCalls.enter Tryz.func74 rfl Tryz.ntmps74 (by simp) ?_
 simp only [Qab]
 refine go_ ?_
 refine Je ?_
 intro i0 hi0
 refine go_ ?_
 refine Jc (hs.out) ?_
 refine go_ ?_
 refine Qao ?_
 refine go_ ?_
 refine Jc (hc.out) ?_
 refine go_ ?_
 refine Rd ?_
 refine go_ ?_
 refine Jm (by simp) (by simp only [Tryz.results74]; rfl) (by simp [resP, St.box?, PF.get, Jn, TyK.agg, *]; rfl) Nl ?_
 exact ⟨by simp [tupP, PV.norm2, PV.norm1, PV.norm0], rfl⟩
theorem bData_p (s : ByteArray) (t : Tm) (a b : Int) (c : List Int) : PCalls Tryz.prog 70 [.d (.v (.string s)), aggD t, .d (.v (.int .i64 a)), .d (.v (.int .i64 b)), .d (.sl (c.map encD))] [] fun p s' => p = aggD (⟨1, s, t, .mk 0 0 [], 0, 0, a, b, 0, c, []⟩ : En) ∧ s' = [] := by
 simp only [aggD, Jl, Qgf, List.map_cons, List.map_nil, Tm.kind_mk, Tm.num_mk, Tm.sub_mk]
 refine PCalls.enter Tryz.func70 rfl Tryz.ntmps70 (by simp) ?_
 simp only [Qab]
 refine go_ ?_
 refine Jd ?_
 intro i2 hi2
 try simp only [Ja, Rh, Rg, Jb] at hi2
 refine go_ ?_
 refine Je ?_
 intro i4 hi4
 try simp only [Ja, Rh, Rg, Jb] at hi4
 refine go_ ?_
 refine Rd ?_
 refine go_ ?_
 refine Jm (by simp) (by simp only [Tryz.results70]; rfl) (by simp [resP, St.box?, PF.get, Jn, TyK.agg, *]; rfl) Nl ?_
 exact ⟨by simp [tupP, PV.norm2, PV.norm1, PV.norm0], rfl⟩
theorem bCon_p (s : ByteArray) (t : Tm) (a b c : Int) : PCalls Tryz.prog 75 [.d (.v (.string s)), aggD t, .d (.v (.int .i64 a)), .d (.v (.int .i64 b)), .d (.v (.int .i64 c))] [] fun p s' => p = aggD (⟨2, s, t, .mk 0 0 [], a, b, c, 0, 0, [], []⟩ : En) ∧ s' = [] := by
 simp only [aggD, Jl, Qgf, List.map_cons, List.map_nil, Tm.kind_mk, Tm.num_mk, Tm.sub_mk]
 refine PCalls.enter Tryz.func75 rfl Tryz.ntmps75 (by simp) ?_
 simp only [Qab]
 refine go_ ?_
 refine Jd ?_
 intro i2 hi2
 try simp only [Ja, Rh, Rg, Jb] at hi2
 refine go_ ?_
 refine Je ?_
 intro i4 hi4
 try simp only [Ja, Rh, Rg, Jb] at hi4
 refine go_ ?_
 refine Rd ?_
 refine go_ ?_
 refine Jm (by simp) (by simp only [Tryz.results75]; rfl) (by simp [resP, St.box?, PF.get, Jn, TyK.agg, *]; rfl) Nl ?_
 exact ⟨by simp [tupP, PV.norm2, PV.norm1, PV.norm0], rfl⟩
theorem bProj_p (s : ByteArray) (t : Tm) (a : Int) : PCalls Tryz.prog 76 [.d (.v (.string s)), aggD t, .d (.v (.int .i64 a))] [] fun p s' => p = aggD (⟨4, s, t, .mk 0 0 [], 14, a, 2, 0, 0, [], []⟩ : En) ∧ s' = [] := by
 simp only [aggD, Jl, Qgf, List.map_cons, List.map_nil, Tm.kind_mk, Tm.num_mk, Tm.sub_mk]
 refine PCalls.enter Tryz.func76 rfl Tryz.ntmps76 (by simp) ?_
 simp only [Qab]
 refine go_ ?_
 refine Jd ?_
 intro i2 hi2
 try simp only [Ja, Rh, Rg, Jb] at hi2
 refine go_ ?_
 refine Je ?_
 intro i4 hi4
 try simp only [Ja, Rh, Rg, Jb] at hi4
 refine go_ ?_
 refine Rd ?_
 refine go_ ?_
 refine Jm (by simp) (by simp only [Tryz.results76]; rfl) (by simp [resP, St.box?, PF.get, Jn, TyK.agg, *]; rfl) Nl ?_
 exact ⟨by simp [tupP, PV.norm2, PV.norm1, PV.norm0], rfl⟩
def f29 : Tm := .mk 8 9 []
def c29 : Tm := .mk 6 1 []
def t29 : Tm := .mk 5 0 [f29, c29]
theorem c29_sp : Qai c29 = true ∧ Qbo c29 = c29 ∧ Qbr c29 = [] := ⟨by decide +kernel, Qfs (by decide)⟩
theorem bC_o {n : Int} {r : Tm} (e : r = .mk 6 n []) : PCalls Tryz.prog 25 [.d (.v (.int .i64 n))] [] fun p s => p = .agg [.d (.v (.int .i64 r.kind)), .d (.v (.int .i64 r.num)), .d (.sl (r.sub.map encD))] ∧ s = [] := by
 subst e; have h := bC_p n; simpa only [aggD, Jl, List.map_cons, List.map_nil] using h
theorem bS_o {n : Int} {r : Tm} (e : r = .mk 2 n []) : PCalls Tryz.prog 38 [.d (.v (.int .i64 n))] [] fun p s => p = .agg [.d (.v (.int .i64 r.kind)), .d (.v (.int .i64 r.num)), .d (.sl (r.sub.map encD))] ∧ s = [] := by
 subst e; have h := bS_p n; simpa only [aggD, Jl, List.map_cons, List.map_nil] using h
theorem bV_o {n : Int} {r : Tm} (e : r = .mk 1 n []) : PCalls Tryz.prog 72 [.d (.v (.int .i64 n))] [] fun p s => p = .agg [.d (.v (.int .i64 r.kind)), .d (.v (.int .i64 r.num)), .d (.sl (r.sub.map encD))] ∧ s = [] := by
 subst e; have h := bV_p n; simpa only [aggD, Jl, List.map_cons, List.map_nil] using h
theorem bP_o {a b r : Tm} (e : r = .mk 3 0 [a, b]) : PCalls Tryz.prog 71 [.agg [.d (.v (.int .i64 a.kind)), .d (.v (.int .i64 a.num)), .d (.sl (a.sub.map encD))], .agg [.d (.v (.int .i64 b.kind)), .d (.v (.int .i64 b.num)), .d (.sl (b.sub.map encD))]] [] fun p s => p = .agg [.d (.v (.int .i64 r.kind)), .d (.v (.int .i64 r.num)), .d (.sl (r.sub.map encD))] ∧ s = [] := by
 subst e; have h := bP_p a b; simpa only [aggD, Jl, List.map_cons, List.map_nil] using h
theorem bL_o {a b r : Tm} (e : r = .mk 4 0 [a, b]) : PCalls Tryz.prog 73 [.agg [.d (.v (.int .i64 a.kind)), .d (.v (.int .i64 a.num)), .d (.sl (a.sub.map encD))], .agg [.d (.v (.int .i64 b.kind)), .d (.v (.int .i64 b.num)), .d (.sl (b.sub.map encD))]] [] fun p s => p = .agg [.d (.v (.int .i64 r.kind)), .d (.v (.int .i64 r.num)), .d (.sl (r.sub.map encD))] ∧ s = [] := by
 subst e; have h := bL_p a b; simpa only [aggD, Jl, List.map_cons, List.map_nil] using h
theorem bE_o {n m : Int} {r : Tm} (e : r = .mk 7 n [.mk 2 m []]) : PCalls Tryz.prog 74 [.d (.v (.int .i64 n)), .d (.v (.int .i64 m))] [] fun p s => p = .agg [.d (.v (.int .i64 r.kind)), .d (.v (.int .i64 r.num)), .d (.sl (r.sub.map encD))] ∧ s = [] := by
 subst e; have h := bE_p n m; simpa only [aggD, Jl, List.map_cons, List.map_nil] using h
theorem bA1_o {t a r : Tm} (e : r = .mk 5 0 [t, a]) : PCalls Tryz.prog 60 [.agg [.d (.v (.int .i64 t.kind)), .d (.v (.int .i64 t.num)), .d (.sl (t.sub.map encD))], .d (.sl [[.v (.int .i64 a.kind), .v (.int .i64 a.num), .sl (a.sub.map encD)]])] [] fun p s => p = .agg [.d (.v (.int .i64 r.kind)), .d (.v (.int .i64 r.num)), .d (.sl (r.sub.map encD))] ∧ s = [] := by
 subst e; have h := bA_p t [a] (by simp); simpa only [apT, List.foldl_cons, List.foldl_nil, aggD, Jl, List.map_cons, List.map_nil] using h
theorem bA2_o {t a b r : Tm} (e : r = .mk 5 0 [.mk 5 0 [t, a], b]) : PCalls Tryz.prog 60 [.agg [.d (.v (.int .i64 t.kind)), .d (.v (.int .i64 t.num)), .d (.sl (t.sub.map encD))], .d (.sl [[.v (.int .i64 a.kind), .v (.int .i64 a.num), .sl (a.sub.map encD)], [.v (.int .i64 b.kind), .v (.int .i64 b.num), .sl (b.sub.map encD)]])] [] fun p s => p = .agg [.d (.v (.int .i64 r.kind)), .d (.v (.int .i64 r.num)), .d (.sl (r.sub.map encD))] ∧ s = [] := by
 subst e; have h := bA_p t [a, b] (by simp); simpa only [apT, List.foldl_cons, List.foldl_nil, aggD, Jl, List.map_cons, List.map_nil] using h
theorem bA3_o {t a b c r : Tm} (e : r = .mk 5 0 [.mk 5 0 [.mk 5 0 [t, a], b], c]) : PCalls Tryz.prog 60 [.agg [.d (.v (.int .i64 t.kind)), .d (.v (.int .i64 t.num)), .d (.sl (t.sub.map encD))], .d (.sl [[.v (.int .i64 a.kind), .v (.int .i64 a.num), .sl (a.sub.map encD)], [.v (.int .i64 b.kind), .v (.int .i64 b.num), .sl (b.sub.map encD)], [.v (.int .i64 c.kind), .v (.int .i64 c.num), .sl (c.sub.map encD)]])] [] fun p s => p = .agg [.d (.v (.int .i64 r.kind)), .d (.v (.int .i64 r.num)), .d (.sl (r.sub.map encD))] ∧ s = [] := by
 subst e; have h := bA_p t [a, b, c] (by simp); simpa only [apT, List.foldl_cons, List.foldl_nil, aggD, Jl, List.map_cons, List.map_nil] using h
theorem bA4_o {t a b c d r : Tm} (e : r = .mk 5 0 [.mk 5 0 [.mk 5 0 [.mk 5 0 [t, a], b], c], d]) : PCalls Tryz.prog 60 [.agg [.d (.v (.int .i64 t.kind)), .d (.v (.int .i64 t.num)), .d (.sl (t.sub.map encD))], .d (.sl [[.v (.int .i64 a.kind), .v (.int .i64 a.num), .sl (a.sub.map encD)], [.v (.int .i64 b.kind), .v (.int .i64 b.num), .sl (b.sub.map encD)], [.v (.int .i64 c.kind), .v (.int .i64 c.num), .sl (c.sub.map encD)], [.v (.int .i64 d.kind), .v (.int .i64 d.num), .sl (d.sub.map encD)]])] [] fun p s => p = .agg [.d (.v (.int .i64 r.kind)), .d (.v (.int .i64 r.num)), .d (.sl (r.sub.map encD))] ∧ s = [] := by
 subst e; have h := bA_p t [a, b, c, d] (by simp); simpa only [apT, List.foldl_cons, List.foldl_nil, aggD, Jl, List.map_cons, List.map_nil] using h
theorem Qgc {s : ByteArray} {x : Tm} {a b : Int} {c : List Int} : PCalls Tryz.prog 70 [.d (.v (.string s)), .agg [.d (.v (.int .i64 x.kind)), .d (.v (.int .i64 x.num)), .d (.sl (x.sub.map encD))], .d (.v (.int .i64 a)), .d (.v (.int .i64 b)), .d (.sl (c.map encD))] [] fun p s' => p = .agg [.d (.v (.int .i64 1)), .d (.v (.string s)), .d (.v (.int .i64 x.kind)), .d (.v (.int .i64 x.num)), .d (.sl (x.sub.map encD)), .d (.v (.int .i64 0)), .d (.v (.int .i64 0)), .d (.sl []), .d (.v (.int .i64 0)), .d (.v (.int .i64 0)), .d (.v (.int .i64 a)), .d (.v (.int .i64 b)), .d (.v (.int .i64 0)), .d (.sl (c.map encD)), .d (.sl [])] ∧ s' = [] := by
 have h := bData_p s x a b c; simpa only [aggD, Jl, Qgf, List.map_cons, List.map_nil, Tm.kind_mk, Tm.num_mk, Tm.sub_mk] using h
theorem Qee {s : ByteArray} {x : Tm} {a b c : Int} : PCalls Tryz.prog 75 [.d (.v (.string s)), .agg [.d (.v (.int .i64 x.kind)), .d (.v (.int .i64 x.num)), .d (.sl (x.sub.map encD))], .d (.v (.int .i64 a)), .d (.v (.int .i64 b)), .d (.v (.int .i64 c))] [] fun p s' => p = .agg [.d (.v (.int .i64 2)), .d (.v (.string s)), .d (.v (.int .i64 x.kind)), .d (.v (.int .i64 x.num)), .d (.sl (x.sub.map encD)), .d (.v (.int .i64 0)), .d (.v (.int .i64 0)), .d (.sl []), .d (.v (.int .i64 a)), .d (.v (.int .i64 b)), .d (.v (.int .i64 c)), .d (.v (.int .i64 0)), .d (.v (.int .i64 0)), .d (.sl []), .d (.sl [])] ∧ s' = [] := by
 have h := bCon_p s x a b c; simpa only [aggD, Jl, Qgf, List.map_cons, List.map_nil, Tm.kind_mk, Tm.num_mk, Tm.sub_mk] using h
theorem bProj_o {s : ByteArray} {x : Tm} {a : Int} : PCalls Tryz.prog 76 [.d (.v (.string s)), .agg [.d (.v (.int .i64 x.kind)), .d (.v (.int .i64 x.num)), .d (.sl (x.sub.map encD))], .d (.v (.int .i64 a))] [] fun p s' => p = .agg [.d (.v (.int .i64 4)), .d (.v (.string s)), .d (.v (.int .i64 x.kind)), .d (.v (.int .i64 x.num)), .d (.sl (x.sub.map encD)), .d (.v (.int .i64 0)), .d (.v (.int .i64 0)), .d (.sl []), .d (.v (.int .i64 14)), .d (.v (.int .i64 a)), .d (.v (.int .i64 2)), .d (.v (.int .i64 0)), .d (.v (.int .i64 0)), .d (.sl []), .d (.sl [])] ∧ s' = [] := by
 have h := bProj_p s x a; simpa only [aggD, Jl, Qgf, List.map_cons, List.map_nil, Tm.kind_mk, Tm.num_mk, Tm.sub_mk] using h
def baseL : List En := [
 ⟨1, ⟨#[78, 97, 116]⟩, .mk 2 0 [], .mk 0 0 [], 0, 0, 0, 0, 0, [1, 2], []⟩,
 ⟨2, ⟨#[122, 101, 114, 111]⟩, .mk 6 0 [], .mk 0 0 [], 0, 0, 0, 0, 0, [], []⟩,
 ⟨2, ⟨#[115, 117, 99]⟩, .mk 3 0 [.mk 6 0 [], .mk 6 0 []], .mk 0 0 [], 0, 1, 0, 0, 0, [], []⟩,
 ⟨1, ⟨#[66, 111, 111, 108]⟩, .mk 2 0 [], .mk 0 0 [], 0, 0, 0, 0, 0, [4, 5], []⟩,
 ⟨2, ⟨#[116, 114, 117, 101]⟩, .mk 6 3 [], .mk 0 0 [], 3, 0, 0, 0, 0, [], []⟩,
 ⟨2, ⟨#[102, 97, 108, 115, 101]⟩, .mk 6 3 [], .mk 0 0 [], 3, 1, 0, 0, 0, [], []⟩,
 ⟨1, ⟨#[76, 105, 115, 116]⟩, .mk 3 0 [.mk 2 0 [], .mk 2 0 []], .mk 0 0 [], 0, 0, 1, 0, 0, [7, 8], []⟩,
 ⟨2, ⟨#[110, 105, 108]⟩, .mk 3 0 [.mk 2 0 [], .mk 5 0 [.mk 6 6 [], .mk 1 0 []]], .mk 0 0 [], 6, 0, 1, 0, 0, [], []⟩,
 ⟨2, ⟨#[99, 111, 110, 115]⟩, .mk 3 0 [.mk 2 0 [], .mk 3 0 [.mk 1 0 [], .mk 3 0 [.mk 5 0 [.mk 6 6 [], .mk 1 1 []], .mk 5 0 [.mk 6 6 [], .mk 1 2 []]]]], .mk 0 0 [], 6, 1, 1, 0, 0, [], []⟩,
 ⟨1, ⟨#[86, 101, 99]⟩, .mk 3 0 [.mk 2 0 [], .mk 3 0 [.mk 6 0 [], .mk 2 0 []]], .mk 0 0 [], 0, 0, 1, 1, 0, [10, 11], []⟩,
 ⟨2, ⟨#[118, 110, 105, 108]⟩, .mk 3 0 [.mk 2 0 [], .mk 5 0 [.mk 5 0 [.mk 6 9 [], .mk 1 0 []], .mk 6 1 []]], .mk 0 0 [], 9, 0, 1, 0, 0, [], []⟩,
 ⟨2, ⟨#[118, 99, 111, 110, 115]⟩, .mk 3 0 [.mk 2 0 [], .mk 3 0 [.mk 6 0 [], .mk 3 0 [.mk 1 1 [], .mk 3 0 [.mk 5 0 [.mk 5 0 [.mk 6 9 [], .mk 1 2 []], .mk 1 1 []], .mk 5 0 [.mk 5 0 [.mk 6 9 [], .mk 1 3 []], .mk 5 0 [.mk 6 2 [], .mk 1 2 []]]]]]], .mk 0 0 [], 9, 1, 1, 0, 0, [], []⟩,
 ⟨1, ⟨#[69, 113]⟩, .mk 3 0 [.mk 2 0 [], .mk 3 0 [.mk 1 0 [], .mk 3 0 [.mk 1 1 [], .mk 2 0 []]]], .mk 0 0 [], 0, 0, 2, 1, 0, [13], []⟩,
 ⟨2, ⟨#[114, 101, 102, 108]⟩, .mk 3 0 [.mk 2 0 [], .mk 3 0 [.mk 1 0 [], .mk 5 0 [.mk 5 0 [.mk 5 0 [.mk 6 12 [], .mk 1 1 []], .mk 1 0 []], .mk 1 0 []]]], .mk 0 0 [], 12, 0, 2, 0, 0, [], []⟩,
 ⟨1, ⟨#[80, 97, 105, 114]⟩, .mk 3 0 [.mk 2 0 [], .mk 3 0 [.mk 2 0 [], .mk 2 0 []]], .mk 0 0 [], 0, 0, 2, 0, 0, [15], [16, 17]⟩,
 ⟨2, ⟨#[112, 97, 105, 114]⟩, .mk 3 0 [.mk 2 0 [], .mk 3 0 [.mk 2 0 [], .mk 3 0 [.mk 1 1 [], .mk 3 0 [.mk 1 1 [], .mk 5 0 [.mk 5 0 [.mk 6 14 [], .mk 1 3 []], .mk 1 2 []]]]]], .mk 0 0 [], 14, 0, 2, 0, 0, [], []⟩,
 ⟨4, ⟨#[102, 115, 116]⟩, .mk 3 0 [.mk 2 0 [], .mk 3 0 [.mk 2 0 [], .mk 3 0 [.mk 5 0 [.mk 5 0 [.mk 6 14 [], .mk 1 1 []], .mk 1 0 []], .mk 1 2 []]]], .mk 0 0 [], 14, 0, 2, 0, 0, [], []⟩,
 ⟨4, ⟨#[115, 110, 100]⟩, .mk 3 0 [.mk 2 0 [], .mk 3 0 [.mk 2 0 [], .mk 3 0 [.mk 5 0 [.mk 5 0 [.mk 6 14 [], .mk 1 1 []], .mk 1 0 []], .mk 1 1 []]]], .mk 0 0 [], 14, 1, 2, 0, 0, [], []⟩,
 ⟨1, ⟨#[84, 114, 101, 101]⟩, .mk 2 0 [], .mk 0 0 [], 0, 0, 0, 0, 0, [19, 20], []⟩,
 ⟨2, ⟨#[108, 101, 97, 102]⟩, .mk 6 18 [], .mk 0 0 [], 18, 0, 0, 0, 0, [], []⟩,
 ⟨2, ⟨#[110, 111, 100, 101]⟩, .mk 3 0 [.mk 3 0 [.mk 6 0 [], .mk 6 18 []], .mk 6 18 []], .mk 0 0 [], 18, 1, 0, 0, 0, [], []⟩,
 ⟨3, ⟨#[112, 108, 117, 115]⟩, .mk 3 0 [.mk 6 0 [], .mk 3 0 [.mk 6 0 [], .mk 6 0 []]], .mk 4 0 [.mk 6 0 [], .mk 4 0 [.mk 6 0 [], .mk 5 0 [.mk 5 0 [.mk 5 0 [.mk 5 0 [.mk 7 0 [.mk 2 0 []], .mk 4 0 [.mk 6 0 [], .mk 6 0 []]], .mk 1 0 []], .mk 4 0 [.mk 6 0 [], .mk 4 0 [.mk 6 0 [], .mk 5 0 [.mk 6 2 [], .mk 1 0 []]]]], .mk 1 1 []]]], 0, 0, 0, 0, 0, [], []⟩,
 ⟨3, ⟨#[105, 100]⟩, .mk 3 0 [.mk 2 0 [], .mk 3 0 [.mk 1 0 [], .mk 1 1 []]], .mk 4 0 [.mk 2 0 [], .mk 4 0 [.mk 1 0 [], .mk 1 0 []]], 0, 0, 0, 0, 0, [], []⟩]
theorem rbase_p : PCalls Tryz.prog 22 [] [] fun p s => p = .d (.sl (baseL.map encD)) ∧ s = [] := by
 have k0 : (⟨#[80, 97, 105, 114]⟩ : ByteArray).size ≤ maxLen := by show 4 ≤ maxLen; unfold maxLen; omega
 have k1 : (⟨#[78, 97, 116]⟩ : ByteArray).size ≤ maxLen := by show 3 ≤ maxLen; unfold maxLen; omega
 have k2 : (⟨#[122, 101, 114, 111]⟩ : ByteArray).size ≤ maxLen := by show 4 ≤ maxLen; unfold maxLen; omega
 have k3 : (⟨#[115, 117, 99]⟩ : ByteArray).size ≤ maxLen := by show 3 ≤ maxLen; unfold maxLen; omega
 have k4 : (⟨#[66, 111, 111, 108]⟩ : ByteArray).size ≤ maxLen := by show 4 ≤ maxLen; unfold maxLen; omega
 have k5 : (⟨#[116, 114, 117, 101]⟩ : ByteArray).size ≤ maxLen := by show 4 ≤ maxLen; unfold maxLen; omega
 have k6 : (⟨#[102, 97, 108, 115, 101]⟩ : ByteArray).size ≤ maxLen := by show 5 ≤ maxLen; unfold maxLen; omega
 have k7 : (⟨#[76, 105, 115, 116]⟩ : ByteArray).size ≤ maxLen := by show 4 ≤ maxLen; unfold maxLen; omega
 have k8 : (⟨#[110, 105, 108]⟩ : ByteArray).size ≤ maxLen := by show 3 ≤ maxLen; unfold maxLen; omega
 have k9 : (⟨#[99, 111, 110, 115]⟩ : ByteArray).size ≤ maxLen := by show 4 ≤ maxLen; unfold maxLen; omega
 have k10 : (⟨#[86, 101, 99]⟩ : ByteArray).size ≤ maxLen := by show 3 ≤ maxLen; unfold maxLen; omega
 have k11 : (⟨#[118, 110, 105, 108]⟩ : ByteArray).size ≤ maxLen := by show 4 ≤ maxLen; unfold maxLen; omega
 have k12 : (⟨#[118, 99, 111, 110, 115]⟩ : ByteArray).size ≤ maxLen := by show 5 ≤ maxLen; unfold maxLen; omega
 have k13 : (⟨#[69, 113]⟩ : ByteArray).size ≤ maxLen := by show 2 ≤ maxLen; unfold maxLen; omega
 have k14 : (⟨#[114, 101, 102, 108]⟩ : ByteArray).size ≤ maxLen := by show 4 ≤ maxLen; unfold maxLen; omega
 have k15 : (⟨#[112, 97, 105, 114]⟩ : ByteArray).size ≤ maxLen := by show 4 ≤ maxLen; unfold maxLen; omega
 have k16 : (⟨#[102, 115, 116]⟩ : ByteArray).size ≤ maxLen := by show 3 ≤ maxLen; unfold maxLen; omega
 have k17 : (⟨#[115, 110, 100]⟩ : ByteArray).size ≤ maxLen := by show 3 ≤ maxLen; unfold maxLen; omega
 have k18 : (⟨#[84, 114, 101, 101]⟩ : ByteArray).size ≤ maxLen := by show 4 ≤ maxLen; unfold maxLen; omega
 have k19 : (⟨#[108, 101, 97, 102]⟩ : ByteArray).size ≤ maxLen := by show 4 ≤ maxLen; unfold maxLen; omega
 have k20 : (⟨#[110, 111, 100, 101]⟩ : ByteArray).size ≤ maxLen := by show 4 ≤ maxLen; unfold maxLen; omega
 have k21 : (⟨#[112, 108, 117, 115]⟩ : ByteArray).size ≤ maxLen := by show 4 ≤ maxLen; unfold maxLen; omega
 have k22 : (⟨#[105, 100]⟩ : ByteArray).size ≤ maxLen := by show 2 ≤ maxLen; unfold maxLen; omega
 obtain ⟨x0, e0⟩ : ∃ x : Tm, Hid (x = .mk 6 0 []) := ⟨_, rfl⟩
 have h0 := Lib.hid (bC_o (n := 0) e0.out)
 obtain ⟨x1, e1⟩ : ∃ x : Tm, Hid (x = .mk 2 0 []) := ⟨_, rfl⟩
 have h1 := Lib.hid (bS_o (n := 0) e1.out)
 obtain ⟨x2, e2⟩ : ∃ x : Tm, Hid (x = .mk 3 0 [x1, x1]) := ⟨_, rfl⟩
 have h2 := Lib.hid (bP_o e2.out)
 obtain ⟨x3, e3⟩ : ∃ x : Tm, Hid (x = .mk 3 0 [x1, x2]) := ⟨_, rfl⟩
 have h3 := Lib.hid (bP_o e3.out)
 have h4 := Lib.hid (Qgc (s := ⟨#[80, 97, 105, 114]⟩) (x := x3) (a := 2) (b := 0) (c := [15]))
 simp only [List.map_cons, List.map_nil, Jf] at h4
 obtain ⟨x4, e4⟩ : ∃ x : Tm, Hid (x = .mk 6 14 []) := ⟨_, rfl⟩
 have h5 := Lib.hid (bC_o (n := 14) e4.out)
 obtain ⟨x5, e5⟩ : ∃ x : Tm, Hid (x = .mk 1 1 []) := ⟨_, rfl⟩
 have h6 := Lib.hid (bV_o (n := 1) e5.out)
 obtain ⟨x6, e6⟩ : ∃ x : Tm, Hid (x = .mk 1 0 []) := ⟨_, rfl⟩
 have h7 := Lib.hid (bV_o (n := 0) e6.out)
 obtain ⟨x7, e7⟩ : ∃ x : Tm, Hid (x = .mk 5 0 [.mk 5 0 [x4, x5], x6]) := ⟨_, rfl⟩
 have h8 := Lib.hid (bA2_o e7.out)
 obtain ⟨x8, e8⟩ : ∃ x : Tm, Hid (x = .mk 7 0 [.mk 2 0 []]) := ⟨_, rfl⟩
 have h9 := Lib.hid (bE_o (n := 0) (m := 0) e8.out)
 obtain ⟨x9, e9⟩ : ∃ x : Tm, Hid (x = .mk 4 0 [x0, x0]) := ⟨_, rfl⟩
 have h10 := Lib.hid (bL_o e9.out)
 obtain ⟨x10, e10⟩ : ∃ x : Tm, Hid (x = .mk 6 2 []) := ⟨_, rfl⟩
 have h11 := Lib.hid (bC_o (n := 2) e10.out)
 obtain ⟨x11, e11⟩ : ∃ x : Tm, Hid (x = .mk 5 0 [x10, x6]) := ⟨_, rfl⟩
 have h12 := Lib.hid (bA1_o e11.out)
 obtain ⟨x12, e12⟩ : ∃ x : Tm, Hid (x = .mk 4 0 [x0, x11]) := ⟨_, rfl⟩
 have h13 := Lib.hid (bL_o e12.out)
 obtain ⟨x13, e13⟩ : ∃ x : Tm, Hid (x = .mk 4 0 [x0, x12]) := ⟨_, rfl⟩
 have h14 := Lib.hid (bL_o e13.out)
 obtain ⟨x14, e14⟩ : ∃ x : Tm, Hid (x = .mk 5 0 [.mk 5 0 [.mk 5 0 [.mk 5 0 [x8, x9], x6], x13], x5]) := ⟨_, rfl⟩
 have h15 := Lib.hid (bA4_o e14.out)
 obtain ⟨x15, e15⟩ : ∃ x : Tm, Hid (x = .mk 4 0 [x0, x14]) := ⟨_, rfl⟩
 have h16 := Lib.hid (bL_o e15.out)
 obtain ⟨x16, e16⟩ : ∃ x : Tm, Hid (x = .mk 4 0 [x0, x15]) := ⟨_, rfl⟩
 have h17 := Lib.hid (bL_o e16.out)
 have h18 := Lib.hid (Qgc (s := ⟨#[78, 97, 116]⟩) (x := x1) (a := 0) (b := 0) (c := [1, 2]))
 simp only [List.map_cons, List.map_nil, Jf] at h18
 have h19 := Lib.hid (Qee (s := ⟨#[122, 101, 114, 111]⟩) (x := x0) (a := 0) (b := 0) (c := 0))
 obtain ⟨x17, e17⟩ : ∃ x : Tm, Hid (x = .mk 3 0 [x0, x0]) := ⟨_, rfl⟩
 have h20 := Lib.hid (bP_o e17.out)
 have h21 := Lib.hid (Qee (s := ⟨#[115, 117, 99]⟩) (x := x17) (a := 0) (b := 1) (c := 0))
 have h22 := Lib.hid (Qgc (s := ⟨#[66, 111, 111, 108]⟩) (x := x1) (a := 0) (b := 0) (c := [4, 5]))
 simp only [List.map_cons, List.map_nil, Jf] at h22
 obtain ⟨x18, e18⟩ : ∃ x : Tm, Hid (x = .mk 6 3 []) := ⟨_, rfl⟩
 have h23 := Lib.hid (bC_o (n := 3) e18.out)
 have h24 := Lib.hid (Qee (s := ⟨#[116, 114, 117, 101]⟩) (x := x18) (a := 3) (b := 0) (c := 0))
 have h25 := Lib.hid (Qee (s := ⟨#[102, 97, 108, 115, 101]⟩) (x := x18) (a := 3) (b := 1) (c := 0))
 have h26 := Lib.hid (Qgc (s := ⟨#[76, 105, 115, 116]⟩) (x := x2) (a := 1) (b := 0) (c := [7, 8]))
 simp only [List.map_cons, List.map_nil, Jf] at h26
 obtain ⟨x19, e19⟩ : ∃ x : Tm, Hid (x = .mk 6 6 []) := ⟨_, rfl⟩
 have h27 := Lib.hid (bC_o (n := 6) e19.out)
 obtain ⟨x20, e20⟩ : ∃ x : Tm, Hid (x = .mk 5 0 [x19, x6]) := ⟨_, rfl⟩
 have h28 := Lib.hid (bA1_o e20.out)
 obtain ⟨x21, e21⟩ : ∃ x : Tm, Hid (x = .mk 3 0 [x1, x20]) := ⟨_, rfl⟩
 have h29 := Lib.hid (bP_o e21.out)
 have h30 := Lib.hid (Qee (s := ⟨#[110, 105, 108]⟩) (x := x21) (a := 6) (b := 0) (c := 1))
 obtain ⟨x22, e22⟩ : ∃ x : Tm, Hid (x = .mk 5 0 [x19, x5]) := ⟨_, rfl⟩
 have h31 := Lib.hid (bA1_o e22.out)
 obtain ⟨x23, e23⟩ : ∃ x : Tm, Hid (x = .mk 1 2 []) := ⟨_, rfl⟩
 have h32 := Lib.hid (bV_o (n := 2) e23.out)
 obtain ⟨x24, e24⟩ : ∃ x : Tm, Hid (x = .mk 5 0 [x19, x23]) := ⟨_, rfl⟩
 have h33 := Lib.hid (bA1_o e24.out)
 obtain ⟨x25, e25⟩ : ∃ x : Tm, Hid (x = .mk 3 0 [x22, x24]) := ⟨_, rfl⟩
 have h34 := Lib.hid (bP_o e25.out)
 obtain ⟨x26, e26⟩ : ∃ x : Tm, Hid (x = .mk 3 0 [x6, x25]) := ⟨_, rfl⟩
 have h35 := Lib.hid (bP_o e26.out)
 obtain ⟨x27, e27⟩ : ∃ x : Tm, Hid (x = .mk 3 0 [x1, x26]) := ⟨_, rfl⟩
 have h36 := Lib.hid (bP_o e27.out)
 have h37 := Lib.hid (Qee (s := ⟨#[99, 111, 110, 115]⟩) (x := x27) (a := 6) (b := 1) (c := 1))
 obtain ⟨x28, e28⟩ : ∃ x : Tm, Hid (x = .mk 3 0 [x0, x1]) := ⟨_, rfl⟩
 have h38 := Lib.hid (bP_o e28.out)
 obtain ⟨x29, e29⟩ : ∃ x : Tm, Hid (x = .mk 3 0 [x1, x28]) := ⟨_, rfl⟩
 have h39 := Lib.hid (bP_o e29.out)
 have h40 := Lib.hid (Qgc (s := ⟨#[86, 101, 99]⟩) (x := x29) (a := 1) (b := 1) (c := [10, 11]))
 simp only [List.map_cons, List.map_nil, Jf] at h40
 obtain ⟨x30, e30⟩ : ∃ x : Tm, Hid (x = .mk 6 9 []) := ⟨_, rfl⟩
 have h41 := Lib.hid (bC_o (n := 9) e30.out)
 obtain ⟨x31, e31⟩ : ∃ x : Tm, Hid (x = .mk 6 1 []) := ⟨_, rfl⟩
 have h42 := Lib.hid (bC_o (n := 1) e31.out)
 obtain ⟨x32, e32⟩ : ∃ x : Tm, Hid (x = .mk 5 0 [.mk 5 0 [x30, x6], x31]) := ⟨_, rfl⟩
 have h43 := Lib.hid (bA2_o e32.out)
 obtain ⟨x33, e33⟩ : ∃ x : Tm, Hid (x = .mk 3 0 [x1, x32]) := ⟨_, rfl⟩
 have h44 := Lib.hid (bP_o e33.out)
 have h45 := Lib.hid (Qee (s := ⟨#[118, 110, 105, 108]⟩) (x := x33) (a := 9) (b := 0) (c := 1))
 obtain ⟨x34, e34⟩ : ∃ x : Tm, Hid (x = .mk 5 0 [.mk 5 0 [x30, x23], x5]) := ⟨_, rfl⟩
 have h46 := Lib.hid (bA2_o e34.out)
 obtain ⟨x35, e35⟩ : ∃ x : Tm, Hid (x = .mk 1 3 []) := ⟨_, rfl⟩
 have h47 := Lib.hid (bV_o (n := 3) e35.out)
 obtain ⟨x36, e36⟩ : ∃ x : Tm, Hid (x = .mk 5 0 [x10, x23]) := ⟨_, rfl⟩
 have h48 := Lib.hid (bA1_o e36.out)
 obtain ⟨x37, e37⟩ : ∃ x : Tm, Hid (x = .mk 5 0 [.mk 5 0 [x30, x35], x36]) := ⟨_, rfl⟩
 have h49 := Lib.hid (bA2_o e37.out)
 obtain ⟨x38, e38⟩ : ∃ x : Tm, Hid (x = .mk 3 0 [x34, x37]) := ⟨_, rfl⟩
 have h50 := Lib.hid (bP_o e38.out)
 obtain ⟨x39, e39⟩ : ∃ x : Tm, Hid (x = .mk 3 0 [x5, x38]) := ⟨_, rfl⟩
 have h51 := Lib.hid (bP_o e39.out)
 obtain ⟨x40, e40⟩ : ∃ x : Tm, Hid (x = .mk 3 0 [x0, x39]) := ⟨_, rfl⟩
 have h52 := Lib.hid (bP_o e40.out)
 obtain ⟨x41, e41⟩ : ∃ x : Tm, Hid (x = .mk 3 0 [x1, x40]) := ⟨_, rfl⟩
 have h53 := Lib.hid (bP_o e41.out)
 have h54 := Lib.hid (Qee (s := ⟨#[118, 99, 111, 110, 115]⟩) (x := x41) (a := 9) (b := 1) (c := 1))
 obtain ⟨x42, e42⟩ : ∃ x : Tm, Hid (x = .mk 3 0 [x5, x1]) := ⟨_, rfl⟩
 have h55 := Lib.hid (bP_o e42.out)
 obtain ⟨x43, e43⟩ : ∃ x : Tm, Hid (x = .mk 3 0 [x6, x42]) := ⟨_, rfl⟩
 have h56 := Lib.hid (bP_o e43.out)
 obtain ⟨x44, e44⟩ : ∃ x : Tm, Hid (x = .mk 3 0 [x1, x43]) := ⟨_, rfl⟩
 have h57 := Lib.hid (bP_o e44.out)
 have h58 := Lib.hid (Qgc (s := ⟨#[69, 113]⟩) (x := x44) (a := 2) (b := 1) (c := [13]))
 simp only [List.map_cons, List.map_nil, Jf] at h58
 obtain ⟨x45, e45⟩ : ∃ x : Tm, Hid (x = .mk 6 12 []) := ⟨_, rfl⟩
 have h59 := Lib.hid (bC_o (n := 12) e45.out)
 obtain ⟨x46, e46⟩ : ∃ x : Tm, Hid (x = .mk 5 0 [.mk 5 0 [.mk 5 0 [x45, x5], x6], x6]) := ⟨_, rfl⟩
 have h60 := Lib.hid (bA3_o e46.out)
 obtain ⟨x47, e47⟩ : ∃ x : Tm, Hid (x = .mk 3 0 [x6, x46]) := ⟨_, rfl⟩
 have h61 := Lib.hid (bP_o e47.out)
 obtain ⟨x48, e48⟩ : ∃ x : Tm, Hid (x = .mk 3 0 [x1, x47]) := ⟨_, rfl⟩
 have h62 := Lib.hid (bP_o e48.out)
 have h63 := Lib.hid (Qee (s := ⟨#[114, 101, 102, 108]⟩) (x := x48) (a := 12) (b := 0) (c := 2))
 obtain ⟨x49, e49⟩ : ∃ x : Tm, Hid (x = .mk 5 0 [.mk 5 0 [x4, x35], x23]) := ⟨_, rfl⟩
 have h64 := Lib.hid (bA2_o e49.out)
 obtain ⟨x50, e50⟩ : ∃ x : Tm, Hid (x = .mk 3 0 [x5, x49]) := ⟨_, rfl⟩
 have h65 := Lib.hid (bP_o e50.out)
 obtain ⟨x51, e51⟩ : ∃ x : Tm, Hid (x = .mk 3 0 [x5, x50]) := ⟨_, rfl⟩
 have h66 := Lib.hid (bP_o e51.out)
 obtain ⟨x52, e52⟩ : ∃ x : Tm, Hid (x = .mk 3 0 [x1, x51]) := ⟨_, rfl⟩
 have h67 := Lib.hid (bP_o e52.out)
 obtain ⟨x53, e53⟩ : ∃ x : Tm, Hid (x = .mk 3 0 [x1, x52]) := ⟨_, rfl⟩
 have h68 := Lib.hid (bP_o e53.out)
 have h69 := Lib.hid (Qee (s := ⟨#[112, 97, 105, 114]⟩) (x := x53) (a := 14) (b := 0) (c := 2))
 obtain ⟨x54, e54⟩ : ∃ x : Tm, Hid (x = .mk 3 0 [x7, x23]) := ⟨_, rfl⟩
 have h70 := Lib.hid (bP_o e54.out)
 obtain ⟨x55, e55⟩ : ∃ x : Tm, Hid (x = .mk 3 0 [x1, x54]) := ⟨_, rfl⟩
 have h71 := Lib.hid (bP_o e55.out)
 obtain ⟨x56, e56⟩ : ∃ x : Tm, Hid (x = .mk 3 0 [x1, x55]) := ⟨_, rfl⟩
 have h72 := Lib.hid (bP_o e56.out)
 have h73 := Lib.hid (bProj_o (s := ⟨#[102, 115, 116]⟩) (x := x56) (a := 0))
 obtain ⟨x57, e57⟩ : ∃ x : Tm, Hid (x = .mk 3 0 [x7, x5]) := ⟨_, rfl⟩
 have h74 := Lib.hid (bP_o e57.out)
 obtain ⟨x58, e58⟩ : ∃ x : Tm, Hid (x = .mk 3 0 [x1, x57]) := ⟨_, rfl⟩
 have h75 := Lib.hid (bP_o e58.out)
 obtain ⟨x59, e59⟩ : ∃ x : Tm, Hid (x = .mk 3 0 [x1, x58]) := ⟨_, rfl⟩
 have h76 := Lib.hid (bP_o e59.out)
 have h77 := Lib.hid (bProj_o (s := ⟨#[115, 110, 100]⟩) (x := x59) (a := 1))
 have h78 := Lib.hid (Qgc (s := ⟨#[84, 114, 101, 101]⟩) (x := x1) (a := 0) (b := 0) (c := [19, 20]))
 simp only [List.map_cons, List.map_nil, Jf] at h78
 obtain ⟨x60, e60⟩ : ∃ x : Tm, Hid (x = .mk 6 18 []) := ⟨_, rfl⟩
 have h79 := Lib.hid (bC_o (n := 18) e60.out)
 have h80 := Lib.hid (Qee (s := ⟨#[108, 101, 97, 102]⟩) (x := x60) (a := 18) (b := 0) (c := 0))
 obtain ⟨x61, e61⟩ : ∃ x : Tm, Hid (x = .mk 3 0 [x0, x60]) := ⟨_, rfl⟩
 have h81 := Lib.hid (bP_o e61.out)
 obtain ⟨x62, e62⟩ : ∃ x : Tm, Hid (x = .mk 3 0 [x61, x60]) := ⟨_, rfl⟩
 have h82 := Lib.hid (bP_o e62.out)
 have h83 := Lib.hid (Qee (s := ⟨#[110, 111, 100, 101]⟩) (x := x62) (a := 18) (b := 1) (c := 0))
 obtain ⟨x63, e63⟩ : ∃ x : Tm, Hid (x = .mk 3 0 [x0, x17]) := ⟨_, rfl⟩
 have h84 := Lib.hid (bP_o e63.out)
 obtain ⟨x64, e64⟩ : ∃ x : Tm, Hid (x = .mk 3 0 [x6, x5]) := ⟨_, rfl⟩
 have h85 := Lib.hid (bP_o e64.out)
 obtain ⟨x65, e65⟩ : ∃ x : Tm, Hid (x = .mk 3 0 [x1, x64]) := ⟨_, rfl⟩
 have h86 := Lib.hid (bP_o e65.out)
 obtain ⟨x66, e66⟩ : ∃ x : Tm, Hid (x = .mk 4 0 [x6, x6]) := ⟨_, rfl⟩
 have h87 := Lib.hid (bL_o e66.out)
 obtain ⟨x67, e67⟩ : ∃ x : Tm, Hid (x = .mk 4 0 [x1, x66]) := ⟨_, rfl⟩
 have h88 := Lib.hid (bL_o e67.out)
 refine PCalls.enter Tryz.func22 rfl Tryz.ntmps22 (by simp) ?_
 simp only [Qab]
 refine go_ ?_
 refine Jc (h0.out) ?_
 refine go_ ?_
 refine Je ?_
 intro i0 hi0
 try simp only [Ja, Rh, Rg, Jb] at hi0
 refine go_ ?_
 refine Rd ?_
 refine go_ ?_
 refine Jc (h1.out) ?_
 refine go_ ?_
 refine Jc (h1.out) ?_
 refine go_ ?_
 refine Jc (h1.out) ?_
 refine go_ ?_
 refine Jc (h2.out) ?_
 refine go_ ?_
 refine Jc (h3.out) ?_
 refine go_ ?_
 refine Qao ?_
 refine go_ ?_
 refine Jc (h4.out) ?_
 refine go_ ?_
 refine Je ?_
 intro i1 hi1
 try simp only [Ja, Rh, Rg, Jb] at hi1
 refine go_ ?_
 refine Rd ?_
 refine go_ ?_
 refine Qao ?_
 refine go_ ?_
 refine Rd ?_
 refine go_ ?_
 refine Jc (h5.out) ?_
 refine go_ ?_
 refine Jc (h6.out) ?_
 refine go_ ?_
 refine Jc (h7.out) ?_
 refine go_ ?_
 refine Qao ?_
 refine go_ ?_
 refine Jc (h8.out) ?_
 refine go_ ?_
 refine Je ?_
 intro i2 hi2
 try simp only [Ja, Rh, Rg, Jb] at hi2
 refine go_ ?_
 refine Rd ?_
 refine go_ ?_
 refine Qgp (J := Qcw [(i0, _)]) [(0, .a), (1, .a), (2, .a), (3, .a), (4, .a), (5, .a), (6, .a), (7, .a), (8, .a), (9, .a), (10, .a), (11, .a), (12, .a), (13, .a), (14, .a), (15, .a), (16, .a), (17, .a), (18, .a), (19, .a), (20, .e), (21, .e)] (by kernel_rfl) (by rfl) (by kernel_rfl) (by (repeat (first | exact Qam _ | refine Ju (by simp [St.box?, *] <;> rfl) ?_))) ?_
 repeat (first | with_reducible refine Qar ?_ | refine Qaq ?_ | refine Qax ?_ | refine Qaw ?_)
 refine Qcc (h9.out) ?_
 repeat (first | with_reducible refine Qar ?_ | refine Qaq ?_ | refine Qax ?_ | refine Qaw ?_)
 refine Qcc (h10.out) ?_
 repeat (first | with_reducible refine Qar ?_ | refine Qaq ?_ | refine Qax ?_ | refine Qaw ?_)
 refine Qcc (h7.out) ?_
 repeat (first | with_reducible refine Qar ?_ | refine Qaq ?_ | refine Qax ?_ | refine Qaw ?_)
 refine Qcc (h11.out) ?_
 repeat (first | with_reducible refine Qar ?_ | refine Qaq ?_ | refine Qax ?_ | refine Qaw ?_)
 refine Qcc (h7.out) ?_
 repeat (first | with_reducible refine Qar ?_ | refine Qaq ?_ | refine Qax ?_ | refine Qaw ?_)
 refine PL_bs ?_ rfl (by decide) rfl (by simp; rfl) (by rfl) (by simp; rfl) (by rfl) (by decide) (by decide) (by simp [nev, nevA, nevB, Jp, PF.eval, PF.get, PF.wants, cPV, Qae, PV.rows, Qaf, evUn, Jq, Qah, Qag, Jn, TyK.agg, Qad, St.box?, St.tok?, St.setBox, St.setTok, Qac, spl, PV.ps, PV.one, Jo, aggD, slD, Jh, Jk, Ji, Jj, Jg, Jf, *]; rfl) (by simp [Qcd, toDs, PV.toD]; rfl)
 repeat (first | with_reducible refine Qar ?_ | refine Qaq ?_ | refine Qax ?_ | refine Qaw ?_)
 refine Qcc (h12.out) ?_
 repeat (first | with_reducible refine Qar ?_ | refine Qaq ?_ | refine Qax ?_ | refine Qaw ?_)
 refine Qcc (h13.out) ?_
 repeat (first | with_reducible refine Qar ?_ | refine Qaq ?_ | refine Qax ?_ | refine Qaw ?_)
 refine Qcc (h14.out) ?_
 repeat (first | with_reducible refine Qar ?_ | refine Qaq ?_ | refine Qax ?_ | refine Qaw ?_)
 refine Qcc (h6.out) ?_
 repeat (first | with_reducible refine Qar ?_ | refine Qaq ?_ | refine Qax ?_ | refine Qaw ?_)
 refine PL_bs ?_ rfl (by decide) rfl (by simp; rfl) (by rfl) (by simp; rfl) (by rfl) (by decide) (by decide) (by simp [nev, nevA, nevB, Jp, PF.eval, PF.get, PF.wants, cPV, Qae, PV.rows, Qaf, evUn, Jq, Qah, Qag, Jn, TyK.agg, Qad, St.box?, St.tok?, St.setBox, St.setTok, Qac, spl, PV.ps, PV.one, Jo, aggD, slD, Jh, Jk, Ji, Jj, Jg, Jf, *]; rfl) (by simp [Qcd, toDs, PV.toD]; rfl)
 repeat (first | with_reducible refine Qar ?_ | refine Qaq ?_ | refine Qax ?_ | refine Qaw ?_)
 refine Qcc (h15.out) ?_
 repeat (first | with_reducible refine Qar ?_ | refine Qaq ?_ | refine Qax ?_ | refine Qaw ?_)
 refine Qcc (h16.out) ?_
 repeat (first | with_reducible refine Qar ?_ | refine Qaq ?_ | refine Qax ?_ | refine Qaw ?_)
 refine Qcc (h17.out) ?_
 repeat (first | with_reducible refine Qar ?_ | refine Qaq ?_ | refine Qax ?_ | refine Qaw ?_)
 refine PL_alloc rfl (by decide) rfl (by simp; rfl) (fun i hi => by simp only [Ja, Rh, Rg] at hi; (repeat (first | exact Qam _ | refine Ju (by simp [St.box?, *] <;> rfl) ?_))) ?_
 intro i3 hi3
 try simp only [Ja, Rh, Rg, Jb] at hi3
 repeat (first | with_reducible refine Qar ?_ | refine Qaq ?_ | refine Qax ?_ | refine Qaw ?_)
 refine Qcl rfl rfl (by simp [nev, nevA, nevB, Jp, PF.eval, PF.get, PF.wants, cPV, Qae, PV.rows, Qaf, evUn, Jq, Qah, Qag, Jn, TyK.agg, Qad, St.box?, St.tok?, St.setBox, St.setTok, Qac, spl, PV.ps, PV.one, Jo, aggD, slD, Jh, Jk, Ji, Jj, Jg, Jf, *]; rfl) (by rfl) (by simp [nev, nevA, nevB, Jp, PF.eval, PF.get, PF.wants, cPV, Qae, PV.rows, Qaf, evUn, Jq, Qah, Qag, Jn, TyK.agg, Qad, St.box?, St.tok?, St.setBox, St.setTok, Qac, spl, PV.ps, PV.one, Jo, aggD, slD, Jh, Jk, Ji, Jj, Jg, Jf, *]; rfl) (by simp [PV.ps, aggD, slD, Jh, Jk, Ji, Jj, Jg, Jf]; rfl) (by first | rfl | (simp [*]; done) | (simp [PV.one, *]; done) | fail) (by simp; rfl) (by first | (simp; done) | fail) (by simp [nev, nevA, nevB, Jp, PF.eval, PF.get, PF.wants, cPV, Qae, PV.rows, Qaf, evUn, Jq, Qah, Qag, Jn, TyK.agg, Qad, St.box?, St.tok?, St.setBox, St.setTok, Qac, spl, PV.ps, PV.one, Jo, aggD, slD, Jh, Jk, Ji, Jj, Jg, Jf, *]; rfl) (by rfl) (by first | (simp; done) | fail) (by simp [St.setBox, spl, *]; rfl) (by first | exact .inl (by decide +kernel) | exact .inr (by (repeat (first | exact Qam _ | refine Ju (by simp [St.box?, *] <;> rfl) ?_)))) ?_
 repeat (first | with_reducible refine Qar ?_ | refine Qaq ?_ | refine Qax ?_ | refine Qaw ?_)
 refine go_ ?_
 refine PW_drawnI [(0, .a), (1, .a), (2, .a), (3, .b), (4, .a), (5, .b), (6, .b), (7, .a), (8, .a), (9, .a), (10, .a), (11, .a), (12, .a), (13, .a), (14, .a), (15, .a), (16, .a), (17, .a), (18, .a), (19, .a), (20, .a), (21, .a), (22, .a), (23, .a), (24, .a), (25, .a), (26, .a), (27, .a), (28, .a), (29, .a), (30, .a), (31, .a), (32, .a), (33, .a), (34, .a), (35, .a), (36, .a), (37, .a), (38, .a), (39, .a), (40, .a), (41, .a), (42, .a), (43, .b), (44, .a), (45, .a), (46, .a), (47, .a), (48, .a), (49, .a), (50, .a), (51, .a), (52, .a), (53, .a), (54, .a), (55, .a), (56, .a), (57, .a), (58, .b), (59, .a), (60, .a), (61, .a), (62, .a), (63, .a), (64, .a), (65, .a), (66, .a), (67, .a), (68, .a), (69, .a), (70, .a), (71, .a), (72, .a), (73, .a), (74, .a), (75, .a), (76, .a), (77, .a), (78, .a), (79, .a), (80, .a), (81, .a), (82, .a), (83, .a), (84, .a), (85, .a), (86, .a), (87, .a), (88, .a), (89, .a), (90, .a), (91, .a), (92, .a), (93, .a), (94, .a), (95, .a), (96, .a), (97, .a), (98, .b), (99, .a), (100, .a), (101, .a), (102, .a), (103, .a), (104, .a), (105, .a), (106, .a), (107, .a), (108, .a), (109, .a), (110, .a), (111, .a), (112, .a), (113, .a), (114, .a), (115, .b), (116, .a), (117, .a), (118, .a), (119, .a), (120, .a), (121, .a), (122, .a), (123, .b), (124, .a), (125, .a), (126, .a), (127, .a), (128, .a), (129, .a), (130, .a), (131, .a), (132, .a), (133, .a), (134, .b), (135, .a), (136, .a), (137, .a), (138, .a), (139, .a), (140, .b), (141, .b), (142, .b), (143, .a), (144, .a), (145, .b), (146, .a), (147, .a), (148, .a), (149, .a), (150, .a), (151, .a), (152, .a), (153, .a), (154, .a), (155, .a), (156, .a), (157, .a), (158, .a), (159, .a)] (by kernel_rfl) (by rfl) (by decide +kernel) (by decide +kernel) (by kernel_rfl) ?_
 refine go_ ?_
 refine Qaa (h1.out) ?_
 refine go_ ?_
 refine Qbw ?_
 refine go_ ?_
 refine Qaa (h18.out) ?_
 refine go_ ?_
 refine Qaa (h19.out) ?_
 refine go_ ?_
 refine Qaa (h20.out) ?_
 refine go_ ?_
 refine Qaa (h21.out) ?_
 refine go_ ?_
 refine Qaa (h1.out) ?_
 refine go_ ?_
 refine Qbw ?_
 refine go_ ?_
 refine Qaa (h22.out) ?_
 refine go_ ?_
 refine Qaa (h23.out) ?_
 refine go_ ?_
 refine Qaa (h24.out) ?_
 refine go_ ?_
 refine Qaa (h23.out) ?_
 refine go_ ?_
 refine Qaa (h25.out) ?_
 refine go_ ?_
 refine Qaa (h1.out) ?_
 refine go_ ?_
 refine Qaa (h1.out) ?_
 refine go_ ?_
 refine Qaa (h2.out) ?_
 refine go_ ?_
 refine Qbw ?_
 refine go_ ?_
 refine Qaa (h26.out) ?_
 refine go_ ?_
 refine Qaa (h1.out) ?_
 refine go_ ?_
 refine Qaa (h27.out) ?_
 refine go_ ?_
 refine Qaa (h7.out) ?_
 refine go_ ?_
 refine Qbw ?_
 refine go_ ?_
 refine Qaa (h28.out) ?_
 refine go_ ?_
 refine Qaa (h29.out) ?_
 refine go_ ?_
 refine Qaa (h30.out) ?_
 refine go_ ?_
 refine Qaa (h1.out) ?_
 refine go_ ?_
 refine Qaa (h7.out) ?_
 refine go_ ?_
 refine Qaa (h27.out) ?_
 refine go_ ?_
 refine Qaa (h6.out) ?_
 refine go_ ?_
 refine Qbw ?_
 refine go_ ?_
 refine Qaa (h31.out) ?_
 refine go_ ?_
 refine Qaa (h27.out) ?_
 refine go_ ?_
 refine Qaa (h32.out) ?_
 refine go_ ?_
 refine Qbw ?_
 refine go_ ?_
 refine Qaa (h33.out) ?_
 refine go_ ?_
 refine Qaa (h34.out) ?_
 refine go_ ?_
 refine Qaa (h35.out) ?_
 refine go_ ?_
 refine Qaa (h36.out) ?_
 refine go_ ?_
 refine Qaa (h37.out) ?_
 refine go_ ?_
 refine Qaa (h1.out) ?_
 refine go_ ?_
 refine Qaa (h1.out) ?_
 refine go_ ?_
 refine Qaa (h38.out) ?_
 refine go_ ?_
 refine Qaa (h39.out) ?_
 refine go_ ?_
 refine Qbw ?_
 refine go_ ?_
 refine Qaa (h40.out) ?_
 refine go_ ?_
 refine Qaa (h1.out) ?_
 refine go_ ?_
 refine Qaa (h41.out) ?_
 refine go_ ?_
 refine Qaa (h7.out) ?_
 refine go_ ?_
 refine Qaa (h42.out) ?_
 refine go_ ?_
 refine Qbw ?_
 refine go_ ?_
 refine Qaa (h43.out) ?_
 refine go_ ?_
 refine Qaa (h44.out) ?_
 refine go_ ?_
 refine Qaa (h45.out) ?_
 refine go_ ?_
 refine Qaa (h1.out) ?_
 refine go_ ?_
 refine Qaa (h6.out) ?_
 refine go_ ?_
 refine Qaa (h41.out) ?_
 refine go_ ?_
 refine Qaa (h32.out) ?_
 refine go_ ?_
 refine Qaa (h6.out) ?_
 refine go_ ?_
 refine Qbw ?_
 refine go_ ?_
 refine Qaa (h46.out) ?_
 refine go_ ?_
 refine Qaa (h41.out) ?_
 refine go_ ?_
 refine Qaa (h47.out) ?_
 refine go_ ?_
 refine Qaa (h11.out) ?_
 refine go_ ?_
 refine Qaa (h32.out) ?_
 refine go_ ?_
 refine Qbw ?_
 refine go_ ?_
 refine Qaa (h48.out) ?_
 refine go_ ?_
 refine Qbw ?_
 refine go_ ?_
 refine Qaa (h49.out) ?_
 refine go_ ?_
 refine Qaa (h50.out) ?_
 refine go_ ?_
 refine Qaa (h51.out) ?_
 refine go_ ?_
 refine Qaa (h52.out) ?_
 refine go_ ?_
 refine Qaa (h53.out) ?_
 refine go_ ?_
 refine Qaa (h54.out) ?_
 refine go_ ?_
 refine Qaa (h1.out) ?_
 refine go_ ?_
 refine Qaa (h7.out) ?_
 refine go_ ?_
 refine Qaa (h6.out) ?_
 refine go_ ?_
 refine Qaa (h1.out) ?_
 refine go_ ?_
 refine Qaa (h55.out) ?_
 refine go_ ?_
 refine Qaa (h56.out) ?_
 refine go_ ?_
 refine Qaa (h57.out) ?_
 refine go_ ?_
 refine Qbw ?_
 refine go_ ?_
 refine Qaa (h58.out) ?_
 refine go_ ?_
 refine Qaa (h1.out) ?_
 refine go_ ?_
 refine Qaa (h7.out) ?_
 refine go_ ?_
 refine Qaa (h59.out) ?_
 refine go_ ?_
 refine Qaa (h6.out) ?_
 refine go_ ?_
 refine Qaa (h7.out) ?_
 refine go_ ?_
 refine Qaa (h7.out) ?_
 refine go_ ?_
 refine Qbw ?_
 refine go_ ?_
 refine Qaa (h60.out) ?_
 refine go_ ?_
 refine Qaa (h61.out) ?_
 refine go_ ?_
 refine Qaa (h62.out) ?_
 refine go_ ?_
 refine Qaa (h63.out) ?_
 refine go_ ?_
 refine Qaa (h1.out) ?_
 refine go_ ?_
 refine Qaa (h1.out) ?_
 refine go_ ?_
 refine Qaa (h6.out) ?_
 refine go_ ?_
 refine Qaa (h6.out) ?_
 refine go_ ?_
 refine Qaa (h5.out) ?_
 refine go_ ?_
 refine Qaa (h47.out) ?_
 refine go_ ?_
 refine Qaa (h32.out) ?_
 refine go_ ?_
 refine Qbw ?_
 refine go_ ?_
 refine Qaa (h64.out) ?_
 refine go_ ?_
 refine Qaa (h65.out) ?_
 refine go_ ?_
 refine Qaa (h66.out) ?_
 refine go_ ?_
 refine Qaa (h67.out) ?_
 refine go_ ?_
 refine Qaa (h68.out) ?_
 refine go_ ?_
 refine Qaa (h69.out) ?_
 refine go_ ?_
 refine Qaa (h1.out) ?_
 refine go_ ?_
 refine Qaa (h1.out) ?_
 refine go_ ?_
 refine Qaa (h32.out) ?_
 refine go_ ?_
 refine Qaa (h70.out) ?_
 refine go_ ?_
 refine Qaa (h71.out) ?_
 refine go_ ?_
 refine Qaa (h72.out) ?_
 refine go_ ?_
 refine Qaa (h73.out) ?_
 refine go_ ?_
 refine Qaa (h1.out) ?_
 refine go_ ?_
 refine Qaa (h1.out) ?_
 refine go_ ?_
 refine Qaa (h6.out) ?_
 refine go_ ?_
 refine Qaa (h74.out) ?_
 refine go_ ?_
 refine Qaa (h75.out) ?_
 refine go_ ?_
 refine Qaa (h76.out) ?_
 refine go_ ?_
 refine Qaa (h77.out) ?_
 refine go_ ?_
 refine Qaa (h1.out) ?_
 refine go_ ?_
 refine Qbw ?_
 refine go_ ?_
 refine Qaa (h78.out) ?_
 refine go_ ?_
 refine Qaa (h79.out) ?_
 refine go_ ?_
 refine Qaa (h80.out) ?_
 refine go_ ?_
 refine Qaa (h79.out) ?_
 refine go_ ?_
 refine Qaa (h81.out) ?_
 refine go_ ?_
 refine Qaa (h79.out) ?_
 refine go_ ?_
 refine Qaa (h82.out) ?_
 refine go_ ?_
 refine Qaa (h83.out) ?_
 refine go_ ?_
 refine Qaa (h20.out) ?_
 refine go_ ?_
 refine Qaa (h84.out) ?_
 refine go_ ?_
 refine Qaa (h1.out) ?_
 refine go_ ?_
 refine Qaa (h7.out) ?_
 refine go_ ?_
 refine Qaa (h6.out) ?_
 refine go_ ?_
 refine Qaa (h85.out) ?_
 refine go_ ?_
 refine Qaa (h86.out) ?_
 refine go_ ?_
 refine Qaa (h1.out) ?_
 refine go_ ?_
 refine Qaa (h7.out) ?_
 refine go_ ?_
 refine Qaa (h7.out) ?_
 refine go_ ?_
 refine Qaa (h87.out) ?_
 refine go_ ?_
 refine Qaa (h88.out) ?_
 refine go_ ?_
 refine Qbw ?_
 refine go_ ?_
 refine Jm (by simp) (by simp only [Tryz.results22]; rfl) (by simp [resP, St.box?, PF.get, Jn, TyK.agg, *]; rfl) Nl ?_
 obtain rfl := e0.out
 obtain rfl := e1.out
 obtain rfl := e2.out
 obtain rfl := e3.out
 obtain rfl := e4.out
 obtain rfl := e5.out
 obtain rfl := e6.out
 obtain rfl := e7.out
 obtain rfl := e8.out
 obtain rfl := e9.out
 obtain rfl := e10.out
 obtain rfl := e11.out
 obtain rfl := e12.out
 obtain rfl := e13.out
 obtain rfl := e14.out
 obtain rfl := e15.out
 obtain rfl := e16.out
 obtain rfl := e17.out
 obtain rfl := e18.out
 obtain rfl := e19.out
 obtain rfl := e20.out
 obtain rfl := e21.out
 obtain rfl := e22.out
 obtain rfl := e23.out
 obtain rfl := e24.out
 obtain rfl := e25.out
 obtain rfl := e26.out
 obtain rfl := e27.out
 obtain rfl := e28.out
 obtain rfl := e29.out
 obtain rfl := e30.out
 obtain rfl := e31.out
 obtain rfl := e32.out
 obtain rfl := e33.out
 obtain rfl := e34.out
 obtain rfl := e35.out
 obtain rfl := e36.out
 obtain rfl := e37.out
 obtain rfl := e38.out
 obtain rfl := e39.out
 obtain rfl := e40.out
 obtain rfl := e41.out
 obtain rfl := e42.out
 obtain rfl := e43.out
 obtain rfl := e44.out
 obtain rfl := e45.out
 obtain rfl := e46.out
 obtain rfl := e47.out
 obtain rfl := e48.out
 obtain rfl := e49.out
 obtain rfl := e50.out
 obtain rfl := e51.out
 obtain rfl := e52.out
 obtain rfl := e53.out
 obtain rfl := e54.out
 obtain rfl := e55.out
 obtain rfl := e56.out
 obtain rfl := e57.out
 obtain rfl := e58.out
 obtain rfl := e59.out
 obtain rfl := e60.out
 obtain rfl := e61.out
 obtain rfl := e62.out
 obtain rfl := e63.out
 obtain rfl := e64.out
 obtain rfl := e65.out
 obtain rfl := e66.out
 obtain rfl := e67.out
 refine ⟨?_, rfl⟩
 simp only [baseL, List.map_cons, List.map_nil, Qgf, Jl, Tm.kind_mk, Tm.num_mk, Tm.sub_mk, Jf]
 rfl
theorem base_entries : allP (Qca baseL) baseL 0 = true := by decide +kernel
theorem base_dist : distB (nms baseL) = true := by
 rw [dist_iff]
 have h23 : (nms baseL).length = 23 := rfl
 have key : ∀ j : Fin 23, ∀ i : Fin 23, i.1 < j.1 → (((nms baseL).getD i.1 ByteArray.empty).toList == ((nms baseL).getD j.1 ByteArray.empty).toList) = false := by decide +kernel
 intro i j hij hj
 rw [h23] at hj
 exact key ⟨j, hj⟩ ⟨i, by omega⟩ hij
theorem Qgn : formedB baseL = true := by
 unfold formedB
 rw [base_dist, base_entries]; rfl
theorem base_ok : ∀ e ∈ baseL, EnOk e := by
 have h : baseL.all (fun e => decide (e.cons.length ≤ 4000000000000000000) && decide (e.fields.length ≤ 4000000000000000000)) = true := by decide +kernel
 intro e he
 have := List.all_eq_true.1 h e he
 simp only [Bool.and_eq_true, decide_eq_true_eq] at this
 exact this
theorem pg_con2 {l : List En} {n a : Int} {sub : List Pt} {d : Tm} (h : pgT l (.mk 2 n a sub d) = true) : arN l n = (sub.length : Int) ∧ ∀ s ∈ sub, pgT l s = true := by
 simp only [pgT] at h
 rw [if_neg (by decide), if_neg (by decide), if_neg (by decide), if_pos (by trivial)] at h
 simp only [Bool.and_eq_true, beq_iff_eq] at h
 exact ⟨h.1, pgL_mem h.2.2⟩
theorem con_at {l : List En} {n : Int} {k : Nat} (hF : formedB l = true) (h : arN l n = (k : Int)) : ∃ (i : Nat) (x : En) (m : Nat), n = i ∧ i < l.length ∧ (l.map encD)[i]? = some (encD x) ∧ l[i]? = some x ∧ x.pars = m ∧ m = parN l i ∧ m ≤ 24 ∧ k ≤ 24 := by
 obtain ⟨i, x, rfl, hil, hx, hk⟩ := arN_get (l := l) (c := n) (by omega)
 obtain ⟨h1, h2, h3, h4, h5⟩ := parN_at hF hx hk
 exact ⟨i, x, parN l i, rfl, hil, by rw [List.getElem?_map, hx]; rfl, hx, h1, rfl, h2, by omega⟩
def ofL : List Pt → Int → List Pt × Int
 | [], x => ([], x)
 | p :: ps, x => if 0 < x then ((pbT p x).1 :: (ofL ps ((pbT p x).2 - 1)).1, (ofL ps ((pbT p x).2 - 1)).2) else ([], x)
theorem of_facts : ∀ (l : List Pt) (x : Int), (ofL l x).2 ≤ x ∧ (0 < (ofL l x).2 → (ofL l x).1 = l ∧ (ofL l x).2 = x - pndL l - l.length)
  | [], x => by simp only [ofL, pndL, List.length_nil]; exact ⟨by omega, fun _ => ⟨trivial, by omega⟩⟩
  | p :: ps, x => by
    simp only [ofL, pndL]
    by_cases hx : 0 < x
    · rw [if_pos hx]
      obtain ⟨h1, h2⟩ := Qgl p x
      obtain ⟨h3, h4⟩ := of_facts ps ((pbT p x).2 - 1)
      refine ⟨by simp only; omega, fun h => ?_⟩
      simp only at h ⊢
      obtain ⟨h5, h6⟩ := h4 h
      obtain ⟨h7, h8⟩ := h2 (by omega)
      exact ⟨by rw [h5, h7], by rw [List.length_cons]; omega⟩
    · rw [if_neg hx]
      exact ⟨by simp only; omega, fun h => absurd h hx⟩
theorem of_count : ∀ (l : List Pt) (x : Int), ((ofL l x).1.length : Int) ≤ max 0 x
  | [], x => by simp only [ofL, List.length_nil]; omega
  | p :: ps, x => by
    have h1 := of_count ps ((pbT p x).2 - 1)
    have h2 := (Qgl p x).1
    simp only [ofL]
    split
    · simp only [List.length_cons]; omega
    · simp only [List.length_nil]; omega
def Qdj : List Tm := [.mk 6 0 [], .mk 6 3 []]
theorem base_par (c : Int) : parN baseL c ≤ 2 := by
  unfold parN Qhm
  have h : baseL.all (fun e => decide (e.pars ≤ 2)) = true := by decide +kernel
  cases hx : baseL[c.toNat]? with
  | none => simp
  | some d =>
    have := List.all_eq_true.1 h d (List.mem_of_getElem? hx)
    simp only [decide_eq_true_eq] at this
    simp only; omega
theorem prs_good : ∀ u ∈ Qdj, Qaj u = true ∧ cndT u = 1 := by
 intro u hu
 simp only [Qdj, List.mem_cons, List.not_mem_nil, or_false] at hu
 rcases hu with rfl | rfl <;> exact ⟨by decide +kernel, by decide +kernel⟩
theorem right_parts {l : List En} {p : Pt} (h : pRight l p = true) : formedB l = true ∧ phgT p ≤ 128 ∧ pgT l p = true := by
 have h3 : (formedB l && (decide (phgT p ≤ 128) && pgT l p)) = true := h
 simp only [Bool.and_eq_true, decide_eq_true_eq] at h3
 exact h3
end Go.Proofs.YtdklpbefbamchaaGreat
