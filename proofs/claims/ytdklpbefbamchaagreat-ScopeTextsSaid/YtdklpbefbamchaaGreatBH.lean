import Derived.Test.YtdklpbefbamchaaGreatBE1
import Derived.Test.YtdklpbefbamchaaGreatBS
import Derived.Test.YtdklpbefbamchaaGreatBA4
import Derived.Test.YtdklpbefbamchaaGreatBS1
set_option linter.unusedSimpArgs false
set_option linter.unusedVariables false
set_option maxHeartbeats 16000000
set_option maxRecDepth 100000
namespace Go.Proofs.YtdklpbefbamchaaGreat
open Go.RowKit
def apT (t : Tm) (l : List Tm) : Tm := l.foldl (fun x a => .mk 5 0 [x, a]) t
theorem apT_take {t : Tm} {l : List Tm} {j : Nat} (h : j < l.length) : apT t (l.take (j + 1)) = .mk 5 0 [apT t (l.take j), l[j]] := by
 unfold apT
 rw [List.take_succ_eq_append_getElem h, List.foldl_append]; rfl
theorem rapply07_p (t : Tm) (l : List Tm) (hl : l.length ≤ 100000) : PCalls Tryz.prog 69 [aggD t, .d (.sl (l.map encD))] [] fun p s => p = aggD (apT t l) ∧ s = [] := by
 obtain ⟨R, hR⟩ : ∃ R, R = apT t l := ⟨_, rfl⟩
 rw [← hR]
 have HR := Hh hR
 clear hR
 simp only [aggD, Jl, List.map_cons, List.map_nil]
 refine pG Tryz.func69 Tryz.ntmps69 ?_
 refine Jd ?_
 intro i2 hi2
 try simp only [Ja, Rh, Rg, Jb] at hi2
 refine go_ ?_
 refine Je ?_
 intro i4 hi4
 try simp only [Ja, Rh, Rg, Jb] at hi4
 refine go_ ?_
 refine Qai (ι := Nat × Tm) (fun y => y.1 ≤ l.length ∧ Hid (y.2 = apT t (l.take y.1))) (fun y => [(1, .d (.sl (l.map encD))), (2, .ptr i2 0), (4, .ptr i4 0), (5, .d (.v (.int .i64 (y.1 : Int))))]) (fun y => [.box i4 26 [.d (.v (.int .i64 0)), .d (.v (.int .i64 0)), .nils], .box i2 26 [.d (.v (.int .i64 y.2.kind)), .d (.v (.int .i64 y.2.num)), .d (.sl (y.2.sub.map encD))]]) (fun y => l.length - y.1) (0, t) ⟨Nat.zero_le _, rfl⟩ ?_ ?_ ?_
 ·exact sU
 ·exact dR
 rintro ⟨j, u⟩ ⟨hj, hu⟩
 simp only at hj hu ⊢
 by_cases hlt : j < l.length
 ·have hx := Qaq hlt
  have hcj : (j : Int) < l.length := by omega
  have hn0 : (0 : Int) ≤ j := by omega
  have hin := wr64 (n := (j : Int) + 1) (by omega) (by omega)
  have hT := Hh (rtwo_p 5 u l[j])
  simp only [aggD, Jl, List.map_cons, List.map_nil, Jv, Jw, Jx] at hT
  refine go_ ?_
  refine Qal [(0, .b), (1, .a), (2, .a), (3, .a), (4, .a), (5, .a), (6, .e)] (by kernel_rfl) (by rfl) (by kernel_rfl) ?_
  refine go_ ?_
  refine Qac (hT.out) ?_
  refine go_ ?_
  refine Qck ?_
  refine go_ ?_
  refine ⟨(j + 1, .mk 5 0 [u, l[j]]), ⟨hlt, by show _ = _; rw [apT_take hlt, ← show u = _ from hu.out]⟩, by show l.length - (j + 1) < l.length - j; omega, sU, ?_⟩
  simp only [Jv, Jw, Jx, List.map_cons, List.map_nil, Jl]
  exact dR
 have hcj : ¬ (j : Int) < l.length := by omega
 have hRu : R = u := by
  rw [HR.out, hu.out, List.take_of_length_le (by omega)]
 subst hRu
 clear hlt hj hu
 refine go_ ?_
 refine Qaa ?_
 refine rT Tryz.results69 ?_
 exact ⟨by simp [tupP, PV.norm2, PV.norm1, PV.norm0], rfl⟩
theorem rnode07_p (k n : Int) (l : List Tm) : PCalls Tryz.prog 125 [.d (.v (.int .i64 k)), .d (.v (.int .i64 n)), .d (.sl (l.map encD))] [] fun p s => p = aggD (Tm.mk k n l) ∧ s = [] := by
 refine pG Tryz.func125 Tryz.ntmps125 ?_
 refine Je ?_
 intro i0 hi0
 refine go_ ?_
 refine Qaa ?_
 refine rT Tryz.results125 ?_
 exact ⟨by simp [aggD, tupP, PV.norm2, PV.norm1, PV.norm0], rfl⟩
theorem bC_p (n : Int) : PCalls Tryz.prog 25 [.d (.v (.int .i64 n))] [] fun p s => p = aggD (Tm.mk 6 n []) ∧ s = [] := by
 have hc := Hh (Qkh 6 n)
 simp only [aggD, Jl, List.map_cons, List.map_nil, Jv, Jw, Jx] at hc ⊢
 refine pG Tryz.func25 Tryz.ntmps25 ?_
 refine Je ?_
 intro i0 hi0
 refine go_ ?_
 refine Qab (hc.out) ?_
 refine Qaa ?_
 refine rT Tryz.results25 ?_
 exact ⟨by simp [tupP, PV.norm2, PV.norm1, PV.norm0], rfl⟩
theorem bS_p (n : Int) : PCalls Tryz.prog 38 [.d (.v (.int .i64 n))] [] fun p s => p = aggD (Tm.mk 2 n []) ∧ s = [] := by
 have hc := Hh (Qkh 2 n)
 simp only [aggD, Jl, List.map_cons, List.map_nil, Jv, Jw, Jx] at hc ⊢
 refine pG Tryz.func38 Tryz.ntmps38 ?_
 refine Je ?_
 intro i0 hi0
 refine go_ ?_
 refine Qab (hc.out) ?_
 refine Qaa ?_
 refine rT Tryz.results38 ?_
 exact ⟨by simp [tupP, PV.norm2, PV.norm1, PV.norm0], rfl⟩
theorem bV_p (n : Int) : PCalls Tryz.prog 72 [.d (.v (.int .i64 n))] [] fun p s => p = aggD (Tm.mk 1 n []) ∧ s = [] := by
 have hc := Hh (Qkh 1 n)
 simp only [aggD, Jl, List.map_cons, List.map_nil, Jv, Jw, Jx] at hc ⊢
 refine pG Tryz.func72 Tryz.ntmps72 ?_
 refine Je ?_
 intro i0 hi0
 refine go_ ?_
 refine Qab (hc.out) ?_
 refine Qaa ?_
 refine rT Tryz.results72 ?_
 exact ⟨by simp [tupP, PV.norm2, PV.norm1, PV.norm0], rfl⟩
theorem bP_p (a b : Tm) : PCalls Tryz.prog 71 [aggD a, aggD b] [] fun p s => p = aggD (Tm.mk 3 0 [a, b]) ∧ s = [] := by
 have hc := Hh (rtwo_p 3 a b)
 simp only [aggD, Jl, List.map_cons, List.map_nil, Jv, Jw, Jx] at hc ⊢
 refine pG Tryz.func71 Tryz.ntmps71 ?_
 refine Jd ?_
 intro i2 hi2
 try simp only [Ja, Rh, Rg, Jb] at hi2
 refine go_ ?_
 refine Jd ?_
 intro i3 hi3
 try simp only [Ja, Rh, Rg, Jb] at hi3
 refine go_ ?_
 refine Je ?_
 intro i4 hi4
 try simp only [Ja, Rh, Rg, Jb] at hi4
 refine go_ ?_
 refine Qab (hc.out) ?_
 refine Qaa ?_
 refine rT Tryz.results71 ?_
 exact ⟨by simp [tupP, PV.norm2, PV.norm1, PV.norm0], rfl⟩
theorem bL_p (a b : Tm) : PCalls Tryz.prog 73 [aggD a, aggD b] [] fun p s => p = aggD (Tm.mk 4 0 [a, b]) ∧ s = [] := by
 have hc := Hh (rtwo_p 4 a b)
 simp only [aggD, Jl, List.map_cons, List.map_nil, Jv, Jw, Jx] at hc ⊢
 refine pG Tryz.func73 Tryz.ntmps73 ?_
 refine Jd ?_
 intro i2 hi2
 try simp only [Ja, Rh, Rg, Jb] at hi2
 refine go_ ?_
 refine Jd ?_
 intro i3 hi3
 try simp only [Ja, Rh, Rg, Jb] at hi3
 refine go_ ?_
 refine Je ?_
 intro i4 hi4
 try simp only [Ja, Rh, Rg, Jb] at hi4
 refine go_ ?_
 refine Qab (hc.out) ?_
 refine Qaa ?_
 refine rT Tryz.results73 ?_
 exact ⟨by simp [tupP, PV.norm2, PV.norm1, PV.norm0], rfl⟩
theorem bA_p (t : Tm) (l : List Tm) (hl : l.length ≤ 100000) : PCalls Tryz.prog 60 [aggD t, .d (.sl (l.map encD))] [] fun p s => p = aggD (apT t l) ∧ s = [] := by
 have hc := Hh (rapply07_p t l hl)
 generalize apT t l = r at *
 simp only [aggD, Jl, List.map_cons, List.map_nil, Jv, Jw, Jx] at hc ⊢
 refine pG Tryz.func60 Tryz.ntmps60 ?_
 refine Jd ?_
 intro i2 hi2
 try simp only [Ja, Rh, Rg, Jb] at hi2
 refine go_ ?_
 refine Je ?_
 intro i4 hi4
 try simp only [Ja, Rh, Rg, Jb] at hi4
 refine go_ ?_
 refine Qab (hc.out) ?_
 refine Qaa ?_
 refine rT Tryz.results60 ?_
 exact ⟨by simp [tupP, PV.norm2, PV.norm1, PV.norm0], rfl⟩
theorem bE_p (n m : Int) : PCalls Tryz.prog 74 [.d (.v (.int .i64 n)), .d (.v (.int .i64 m))] [] fun p s => p = aggD (Tm.mk 7 n [.mk 2 m []]) ∧ s = [] := by
 have hs := Hh (bS_p m)
 have hc := Hh (rnode07_p 7 n [.mk 2 m []])
 simp only [aggD, Jl, List.map_cons, List.map_nil, Jv, Jw, Jx] at hc hs ⊢
 refine pG Tryz.func74 Tryz.ntmps74 ?_
 refine Je ?_
 intro i0 hi0
 refine go_ ?_
 refine Qab (hs.out) ?_
 refine Qao ?_
 refine Qab (hc.out) ?_
 refine Qaa ?_
 refine rT Tryz.results74 ?_
 exact ⟨by simp [tupP, PV.norm2, PV.norm1, PV.norm0], rfl⟩
theorem bData_p (s : ByteArray) (t : Tm) (a b : Int) (c : List Int) : PCalls Tryz.prog 70 [.d (.v (.string s)), aggD t, .d (.v (.int .i64 a)), .d (.v (.int .i64 b)), .d (.sl (c.map encD))] [] fun p s' => p = aggD (⟨1, s, t, .mk 0 0 [], 0, 0, a, b, 0, c, []⟩ : En) ∧ s' = [] := by
 simp only [aggD, Jl, Qje, List.map_cons, List.map_nil, Jv, Jw, Jx]
 refine pG Tryz.func70 Tryz.ntmps70 ?_
 refine Jd ?_
 intro i2 hi2
 try simp only [Ja, Rh, Rg, Jb] at hi2
 refine go_ ?_
 refine Je ?_
 intro i4 hi4
 try simp only [Ja, Rh, Rg, Jb] at hi4
 refine go_ ?_
 refine Qaa ?_
 refine rT Tryz.results70 ?_
 exact ⟨by simp [tupP, PV.norm2, PV.norm1, PV.norm0], rfl⟩
theorem bCon_p (s : ByteArray) (t : Tm) (a b c : Int) : PCalls Tryz.prog 75 [.d (.v (.string s)), aggD t, .d (.v (.int .i64 a)), .d (.v (.int .i64 b)), .d (.v (.int .i64 c))] [] fun p s' => p = aggD (⟨2, s, t, .mk 0 0 [], a, b, c, 0, 0, [], []⟩ : En) ∧ s' = [] := by
 simp only [aggD, Jl, Qje, List.map_cons, List.map_nil, Jv, Jw, Jx]
 refine pG Tryz.func75 Tryz.ntmps75 ?_
 refine Jd ?_
 intro i2 hi2
 try simp only [Ja, Rh, Rg, Jb] at hi2
 refine go_ ?_
 refine Je ?_
 intro i4 hi4
 try simp only [Ja, Rh, Rg, Jb] at hi4
 refine go_ ?_
 refine Qaa ?_
 refine rT Tryz.results75 ?_
 exact ⟨by simp [tupP, PV.norm2, PV.norm1, PV.norm0], rfl⟩
theorem bProj_p (s : ByteArray) (t : Tm) (a : Int) : PCalls Tryz.prog 76 [.d (.v (.string s)), aggD t, .d (.v (.int .i64 a))] [] fun p s' => p = aggD (⟨4, s, t, .mk 0 0 [], 14, a, 2, 0, 0, [], []⟩ : En) ∧ s' = [] := by
 simp only [aggD, Jl, Qje, List.map_cons, List.map_nil, Jv, Jw, Jx]
 refine pG Tryz.func76 Tryz.ntmps76 ?_
 refine Jd ?_
 intro i2 hi2
 try simp only [Ja, Rh, Rg, Jb] at hi2
 refine go_ ?_
 refine Je ?_
 intro i4 hi4
 try simp only [Ja, Rh, Rg, Jb] at hi4
 refine go_ ?_
 refine Qaa ?_
 refine rT Tryz.results76 ?_
 exact ⟨by simp [tupP, PV.norm2, PV.norm1, PV.norm0], rfl⟩
theorem bC_o {n : Int} {r : Tm} (e : r = .mk 6 n []) : PCalls Tryz.prog 25 [.d (.v (.int .i64 n))] [] fun p s => p = .agg [.d (.v (.int .i64 r.kind)), .d (.v (.int .i64 r.num)), .d (.sl (r.sub.map encD))] ∧ s = [] := by
 subst e; have h := bC_p n; simpa only [aggD, Jl, List.map_cons, List.map_nil] using h
theorem bS_o {n : Int} {r : Tm} (e : r = .mk 2 n []) : PCalls Tryz.prog 38 [.d (.v (.int .i64 n))] [] fun p s => p = .agg [.d (.v (.int .i64 r.kind)), .d (.v (.int .i64 r.num)), .d (.sl (r.sub.map encD))] ∧ s = [] := by
 subst e; have h := bS_p n; simpa only [aggD, Jl, List.map_cons, List.map_nil] using h
theorem bV_o {n : Int} {r : Tm} (e : r = .mk 1 n []) : PCalls Tryz.prog 72 [.d (.v (.int .i64 n))] [] fun p s => p = .agg [.d (.v (.int .i64 r.kind)), .d (.v (.int .i64 r.num)), .d (.sl (r.sub.map encD))] ∧ s = [] := by
 subst e; have h := bV_p n; simpa only [aggD, Jl, List.map_cons, List.map_nil] using h
theorem bP_o {a b r : Tm} (e : r = .mk 3 0 [a, b]) : PCalls Tryz.prog 71 [.agg [.d (.v (.int .i64 a.kind)), .d (.v (.int .i64 a.num)), .d (.sl (a.sub.map encD))], .agg [.d (.v (.int .i64 b.kind)), .d (.v (.int .i64 b.num)), .d (.sl (b.sub.map encD))]] [] fun p s => p = .agg [.d (.v (.int .i64 r.kind)), .d (.v (.int .i64 r.num)), .d (.sl (r.sub.map encD))] ∧ s = [] := by
 subst e; have h := bP_p a b; simpa only [aggD, Jl, List.map_cons, List.map_nil] using h
theorem bL_o {a b r : Tm} (e : r = .mk 4 0 [a, b]) : PCalls Tryz.prog 73 [.agg [.d (.v (.int .i64 a.kind)), .d (.v (.int .i64 a.num)), .d (.sl (a.sub.map encD))], .agg [.d (.v (.int .i64 b.kind)), .d (.v (.int .i64 b.num)), .d (.sl (b.sub.map encD))]] [] fun p s => p = .agg [.d (.v (.int .i64 r.kind)), .d (.v (.int .i64 r.num)), .d (.sl (r.sub.map encD))] ∧ s = [] := by
 subst e; have h := bL_p a b; simpa only [aggD, Jl, List.map_cons, List.map_nil] using h
theorem bE_o {n m : Int} {r : Tm} (e : r = .mk 7 n [.mk 2 m []]) : PCalls Tryz.prog 74 [.d (.v (.int .i64 n)), .d (.v (.int .i64 m))] [] fun p s => p = .agg [.d (.v (.int .i64 r.kind)), .d (.v (.int .i64 r.num)), .d (.sl (r.sub.map encD))] ∧ s = [] := by
 subst e; have h := bE_p n m; simpa only [aggD, Jl, List.map_cons, List.map_nil] using h
theorem bA1_o {t a r : Tm} (e : r = .mk 5 0 [t, a]) : PCalls Tryz.prog 60 [.agg [.d (.v (.int .i64 t.kind)), .d (.v (.int .i64 t.num)), .d (.sl (t.sub.map encD))], .d (.sl [[.v (.int .i64 a.kind), .v (.int .i64 a.num), .sl (a.sub.map encD)]])] [] fun p s => p = .agg [.d (.v (.int .i64 r.kind)), .d (.v (.int .i64 r.num)), .d (.sl (r.sub.map encD))] ∧ s = [] := by
 subst e; have h := bA_p t [a] (by simp); simpa only [apT, List.foldl_cons, List.foldl_nil, aggD, Jl, List.map_cons, List.map_nil] using h
theorem bA2_o {t a b r : Tm} (e : r = .mk 5 0 [.mk 5 0 [t, a], b]) : PCalls Tryz.prog 60 [.agg [.d (.v (.int .i64 t.kind)), .d (.v (.int .i64 t.num)), .d (.sl (t.sub.map encD))], .d (.sl [[.v (.int .i64 a.kind), .v (.int .i64 a.num), .sl (a.sub.map encD)], [.v (.int .i64 b.kind), .v (.int .i64 b.num), .sl (b.sub.map encD)]])] [] fun p s => p = .agg [.d (.v (.int .i64 r.kind)), .d (.v (.int .i64 r.num)), .d (.sl (r.sub.map encD))] ∧ s = [] := by
 subst e; have h := bA_p t [a, b] (by simp); simpa only [apT, List.foldl_cons, List.foldl_nil, aggD, Jl, List.map_cons, List.map_nil] using h
theorem bA3_o {t a b c r : Tm} (e : r = .mk 5 0 [.mk 5 0 [.mk 5 0 [t, a], b], c]) : PCalls Tryz.prog 60 [.agg [.d (.v (.int .i64 t.kind)), .d (.v (.int .i64 t.num)), .d (.sl (t.sub.map encD))], .d (.sl [[.v (.int .i64 a.kind), .v (.int .i64 a.num), .sl (a.sub.map encD)], [.v (.int .i64 b.kind), .v (.int .i64 b.num), .sl (b.sub.map encD)], [.v (.int .i64 c.kind), .v (.int .i64 c.num), .sl (c.sub.map encD)]])] [] fun p s => p = .agg [.d (.v (.int .i64 r.kind)), .d (.v (.int .i64 r.num)), .d (.sl (r.sub.map encD))] ∧ s = [] := by
 subst e; have h := bA_p t [a, b, c] (by simp); simpa only [apT, List.foldl_cons, List.foldl_nil, aggD, Jl, List.map_cons, List.map_nil] using h
theorem bA4_o {t a b c d r : Tm} (e : r = .mk 5 0 [.mk 5 0 [.mk 5 0 [.mk 5 0 [t, a], b], c], d]) : PCalls Tryz.prog 60 [.agg [.d (.v (.int .i64 t.kind)), .d (.v (.int .i64 t.num)), .d (.sl (t.sub.map encD))], .d (.sl [[.v (.int .i64 a.kind), .v (.int .i64 a.num), .sl (a.sub.map encD)], [.v (.int .i64 b.kind), .v (.int .i64 b.num), .sl (b.sub.map encD)], [.v (.int .i64 c.kind), .v (.int .i64 c.num), .sl (c.sub.map encD)], [.v (.int .i64 d.kind), .v (.int .i64 d.num), .sl (d.sub.map encD)]])] [] fun p s => p = .agg [.d (.v (.int .i64 r.kind)), .d (.v (.int .i64 r.num)), .d (.sl (r.sub.map encD))] ∧ s = [] := by
 subst e; have h := bA_p t [a, b, c, d] (by simp); simpa only [apT, List.foldl_cons, List.foldl_nil, aggD, Jl, List.map_cons, List.map_nil] using h
theorem Qiy {s : ByteArray} {x : Tm} {a b : Int} {c : List Int} : PCalls Tryz.prog 70 [.d (.v (.string s)), .agg [.d (.v (.int .i64 x.kind)), .d (.v (.int .i64 x.num)), .d (.sl (x.sub.map encD))], .d (.v (.int .i64 a)), .d (.v (.int .i64 b)), .d (.sl (c.map encD))] [] fun p s' => p = .agg [.d (.v (.int .i64 1)), .d (.v (.string s)), .d (.v (.int .i64 x.kind)), .d (.v (.int .i64 x.num)), .d (.sl (x.sub.map encD)), .d (.v (.int .i64 0)), .d (.v (.int .i64 0)), .d (.sl []), .d (.v (.int .i64 0)), .d (.v (.int .i64 0)), .d (.v (.int .i64 a)), .d (.v (.int .i64 b)), .d (.v (.int .i64 0)), .d (.sl (c.map encD)), .d (.sl [])] ∧ s' = [] := by
 have h := bData_p s x a b c; simpa only [aggD, Jl, Qje, List.map_cons, List.map_nil, Jv, Jw, Jx] using h
theorem Qgg {s : ByteArray} {x : Tm} {a b c : Int} : PCalls Tryz.prog 75 [.d (.v (.string s)), .agg [.d (.v (.int .i64 x.kind)), .d (.v (.int .i64 x.num)), .d (.sl (x.sub.map encD))], .d (.v (.int .i64 a)), .d (.v (.int .i64 b)), .d (.v (.int .i64 c))] [] fun p s' => p = .agg [.d (.v (.int .i64 2)), .d (.v (.string s)), .d (.v (.int .i64 x.kind)), .d (.v (.int .i64 x.num)), .d (.sl (x.sub.map encD)), .d (.v (.int .i64 0)), .d (.v (.int .i64 0)), .d (.sl []), .d (.v (.int .i64 a)), .d (.v (.int .i64 b)), .d (.v (.int .i64 c)), .d (.v (.int .i64 0)), .d (.v (.int .i64 0)), .d (.sl []), .d (.sl [])] ∧ s' = [] := by
 have h := bCon_p s x a b c; simpa only [aggD, Jl, Qje, List.map_cons, List.map_nil, Jv, Jw, Jx] using h
theorem bProj_o {s : ByteArray} {x : Tm} {a : Int} : PCalls Tryz.prog 76 [.d (.v (.string s)), .agg [.d (.v (.int .i64 x.kind)), .d (.v (.int .i64 x.num)), .d (.sl (x.sub.map encD))], .d (.v (.int .i64 a))] [] fun p s' => p = .agg [.d (.v (.int .i64 4)), .d (.v (.string s)), .d (.v (.int .i64 x.kind)), .d (.v (.int .i64 x.num)), .d (.sl (x.sub.map encD)), .d (.v (.int .i64 0)), .d (.v (.int .i64 0)), .d (.sl []), .d (.v (.int .i64 14)), .d (.v (.int .i64 a)), .d (.v (.int .i64 2)), .d (.v (.int .i64 0)), .d (.v (.int .i64 0)), .d (.sl []), .d (.sl [])] ∧ s' = [] := by
 have h := bProj_p s x a; simpa only [aggD, Jl, Qje, List.map_cons, List.map_nil, Jv, Jw, Jx] using h
def baseL : List En := [
 ⟨1, ⟨#[78, 97, 116]⟩, .mk 2 0 [], .mk 0 0 [], 0, 0, 0, 0, 0, [1, 2], []⟩,
 ⟨2, ⟨#[122, 101, 114, 111]⟩, .mk 6 0 [], .mk 0 0 [], 0, 0, 0, 0, 0, [], []⟩,
 ⟨2, ⟨#[115, 117, 99]⟩, .mk 3 0 [.mk 6 0 [], .mk 6 0 []], .mk 0 0 [], 0, 1, 0, 0, 0, [], []⟩,
 ⟨1, ⟨#[66, 111, 111, 108]⟩, .mk 2 0 [], .mk 0 0 [], 0, 0, 0, 0, 0, [4, 5], []⟩,
 ⟨2, ⟨#[116, 114, 117, 101]⟩, .mk 6 3 [], .mk 0 0 [], 3, 0, 0, 0, 0, [], []⟩,
 ⟨2, ⟨#[102, 97, 108, 115, 101]⟩, .mk 6 3 [], .mk 0 0 [], 3, 1, 0, 0, 0, [], []⟩,
 ⟨1, ⟨#[76, 105, 115, 116]⟩, .mk 3 0 [.mk 2 0 [], .mk 2 0 []], .mk 0 0 [], 0, 0, 1, 0, 0, [7, 8], []⟩,
 ⟨2, ⟨#[110, 105, 108]⟩, .mk 3 0 [.mk 2 0 [], .mk 5 0 [.mk 6 6 [], .mk 1 0 []]], .mk 0 0 [], 6, 0, 1, 0, 0, [], []⟩,
 ⟨2, ⟨#[99, 111, 110, 115]⟩, .mk 3 0 [.mk 2 0 [], .mk 3 0 [.mk 1 0 [], .mk 3 0 [.mk 5 0 [.mk 6 6 [], .mk 1 1 []], .mk 5 0 [.mk 6 6 [], .mk 1 2 []]]]], .mk 0 0 [], 6, 1, 1, 0, 0, [], []⟩,
 ⟨1, ⟨#[86, 101, 99]⟩, .mk 3 0 [.mk 2 0 [], .mk 3 0 [.mk 6 0 [], .mk 2 0 []]], .mk 0 0 [], 0, 0, 1, 1, 0, [10, 11], []⟩,
 ⟨2, ⟨#[118, 110, 105, 108]⟩, .mk 3 0 [.mk 2 0 [], .mk 5 0 [.mk 5 0 [.mk 6 9 [], .mk 1 0 []], .mk 6 1 []]], .mk 0 0 [], 9, 0, 1, 0, 0, [], []⟩,
 ⟨2, ⟨#[118, 99, 111, 110, 115]⟩, .mk 3 0 [.mk 2 0 [], .mk 3 0 [.mk 6 0 [], .mk 3 0 [.mk 1 1 [], .mk 3 0 [.mk 5 0 [.mk 5 0 [.mk 6 9 [], .mk 1 2 []], .mk 1 1 []], .mk 5 0 [.mk 5 0 [.mk 6 9 [], .mk 1 3 []], .mk 5 0 [.mk 6 2 [], .mk 1 2 []]]]]]], .mk 0 0 [], 9, 1, 1, 0, 0, [], []⟩,
 ⟨1, ⟨#[69, 113]⟩, .mk 3 0 [.mk 2 0 [], .mk 3 0 [.mk 1 0 [], .mk 3 0 [.mk 1 1 [], .mk 2 0 []]]], .mk 0 0 [], 0, 0, 2, 1, 0, [13], []⟩,
 ⟨2, ⟨#[114, 101, 102, 108]⟩, .mk 3 0 [.mk 2 0 [], .mk 3 0 [.mk 1 0 [], .mk 5 0 [.mk 5 0 [.mk 5 0 [.mk 6 12 [], .mk 1 1 []], .mk 1 0 []], .mk 1 0 []]]], .mk 0 0 [], 12, 0, 2, 0, 0, [], []⟩,
 ⟨1, ⟨#[80, 97, 105, 114]⟩, .mk 3 0 [.mk 2 0 [], .mk 3 0 [.mk 2 0 [], .mk 2 0 []]], .mk 0 0 [], 0, 0, 2, 0, 0, [15], [16, 17]⟩,
 ⟨2, ⟨#[112, 97, 105, 114]⟩, .mk 3 0 [.mk 2 0 [], .mk 3 0 [.mk 2 0 [], .mk 3 0 [.mk 1 1 [], .mk 3 0 [.mk 1 1 [], .mk 5 0 [.mk 5 0 [.mk 6 14 [], .mk 1 3 []], .mk 1 2 []]]]]], .mk 0 0 [], 14, 0, 2, 0, 0, [], []⟩,
 ⟨4, ⟨#[102, 115, 116]⟩, .mk 3 0 [.mk 2 0 [], .mk 3 0 [.mk 2 0 [], .mk 3 0 [.mk 5 0 [.mk 5 0 [.mk 6 14 [], .mk 1 1 []], .mk 1 0 []], .mk 1 2 []]]], .mk 0 0 [], 14, 0, 2, 0, 0, [], []⟩,
 ⟨4, ⟨#[115, 110, 100]⟩, .mk 3 0 [.mk 2 0 [], .mk 3 0 [.mk 2 0 [], .mk 3 0 [.mk 5 0 [.mk 5 0 [.mk 6 14 [], .mk 1 1 []], .mk 1 0 []], .mk 1 1 []]]], .mk 0 0 [], 14, 1, 2, 0, 0, [], []⟩,
 ⟨1, ⟨#[84, 114, 101, 101]⟩, .mk 2 0 [], .mk 0 0 [], 0, 0, 0, 0, 0, [19, 20], []⟩,
 ⟨2, ⟨#[108, 101, 97, 102]⟩, .mk 6 18 [], .mk 0 0 [], 18, 0, 0, 0, 0, [], []⟩,
 ⟨2, ⟨#[110, 111, 100, 101]⟩, .mk 3 0 [.mk 3 0 [.mk 6 0 [], .mk 6 18 []], .mk 6 18 []], .mk 0 0 [], 18, 1, 0, 0, 0, [], []⟩,
 ⟨3, ⟨#[112, 108, 117, 115]⟩, .mk 3 0 [.mk 6 0 [], .mk 3 0 [.mk 6 0 [], .mk 6 0 []]], .mk 4 0 [.mk 6 0 [], .mk 4 0 [.mk 6 0 [], .mk 5 0 [.mk 5 0 [.mk 5 0 [.mk 5 0 [.mk 7 0 [.mk 2 0 []], .mk 4 0 [.mk 6 0 [], .mk 6 0 []]], .mk 1 0 []], .mk 4 0 [.mk 6 0 [], .mk 4 0 [.mk 6 0 [], .mk 5 0 [.mk 6 2 [], .mk 1 0 []]]]], .mk 1 1 []]]], 0, 0, 0, 0, 0, [], []⟩,
 ⟨3, ⟨#[105, 100]⟩, .mk 3 0 [.mk 2 0 [], .mk 3 0 [.mk 1 0 [], .mk 1 1 []]], .mk 4 0 [.mk 2 0 [], .mk 4 0 [.mk 1 0 [], .mk 1 0 []]], 0, 0, 0, 0, 0, [], []⟩]
theorem rbase_p : PCalls Tryz.prog 22 [] [] fun p s => p = .d (.sl (baseL.map encD)) ∧ s = [] := by
 have k0 : (⟨#[80, 97, 105, 114]⟩ : ByteArray).size ≤ maxLen := by show 4 ≤ maxLen; unfold maxLen; omega
 have k1 : (⟨#[78, 97, 116]⟩ : ByteArray).size ≤ maxLen := by show 3 ≤ maxLen; unfold maxLen; omega
 have k2 : (⟨#[122, 101, 114, 111]⟩ : ByteArray).size ≤ maxLen := by show 4 ≤ maxLen; unfold maxLen; omega
 have k3 : (⟨#[115, 117, 99]⟩ : ByteArray).size ≤ maxLen := by show 3 ≤ maxLen; unfold maxLen; omega
 have k4 : (⟨#[66, 111, 111, 108]⟩ : ByteArray).size ≤ maxLen := by show 4 ≤ maxLen; unfold maxLen; omega
 have k5 : (⟨#[116, 114, 117, 101]⟩ : ByteArray).size ≤ maxLen := by show 4 ≤ maxLen; unfold maxLen; omega
 have k6 : (⟨#[102, 97, 108, 115, 101]⟩ : ByteArray).size ≤ maxLen := by show 5 ≤ maxLen; unfold maxLen; omega
 have k7 : (⟨#[76, 105, 115, 116]⟩ : ByteArray).size ≤ maxLen := by show 4 ≤ maxLen; unfold maxLen; omega
 have k8 : (⟨#[110, 105, 108]⟩ : ByteArray).size ≤ maxLen := by show 3 ≤ maxLen; unfold maxLen; omega
 have k9 : (⟨#[99, 111, 110, 115]⟩ : ByteArray).size ≤ maxLen := by show 4 ≤ maxLen; unfold maxLen; omega
 have k10 : (⟨#[86, 101, 99]⟩ : ByteArray).size ≤ maxLen := by show 3 ≤ maxLen; unfold maxLen; omega
 have k11 : (⟨#[118, 110, 105, 108]⟩ : ByteArray).size ≤ maxLen := by show 4 ≤ maxLen; unfold maxLen; omega
 have k12 : (⟨#[118, 99, 111, 110, 115]⟩ : ByteArray).size ≤ maxLen := by show 5 ≤ maxLen; unfold maxLen; omega
 have k13 : (⟨#[69, 113]⟩ : ByteArray).size ≤ maxLen := by show 2 ≤ maxLen; unfold maxLen; omega
 have k14 : (⟨#[114, 101, 102, 108]⟩ : ByteArray).size ≤ maxLen := by show 4 ≤ maxLen; unfold maxLen; omega
 have k15 : (⟨#[112, 97, 105, 114]⟩ : ByteArray).size ≤ maxLen := by show 4 ≤ maxLen; unfold maxLen; omega
 have k16 : (⟨#[102, 115, 116]⟩ : ByteArray).size ≤ maxLen := by show 3 ≤ maxLen; unfold maxLen; omega
 have k17 : (⟨#[115, 110, 100]⟩ : ByteArray).size ≤ maxLen := by show 3 ≤ maxLen; unfold maxLen; omega
 have k18 : (⟨#[84, 114, 101, 101]⟩ : ByteArray).size ≤ maxLen := by show 4 ≤ maxLen; unfold maxLen; omega
 have k19 : (⟨#[108, 101, 97, 102]⟩ : ByteArray).size ≤ maxLen := by show 4 ≤ maxLen; unfold maxLen; omega
 have k20 : (⟨#[110, 111, 100, 101]⟩ : ByteArray).size ≤ maxLen := by show 4 ≤ maxLen; unfold maxLen; omega
 have k21 : (⟨#[112, 108, 117, 115]⟩ : ByteArray).size ≤ maxLen := by show 4 ≤ maxLen; unfold maxLen; omega
 have k22 : (⟨#[105, 100]⟩ : ByteArray).size ≤ maxLen := by show 2 ≤ maxLen; unfold maxLen; omega
 obtain ⟨x0, e0⟩ : ∃ x : Tm, Hid (x = .mk 6 0 []) := ⟨_, rfl⟩
 have h0 := Hh (bC_o (n := 0) e0.out)
 obtain ⟨x1, e1⟩ : ∃ x : Tm, Hid (x = .mk 2 0 []) := ⟨_, rfl⟩
 have h1 := Hh (bS_o (n := 0) e1.out)
 obtain ⟨x2, e2⟩ : ∃ x : Tm, Hid (x = .mk 3 0 [x1, x1]) := ⟨_, rfl⟩
 have h2 := Hh (bP_o e2.out)
 obtain ⟨x3, e3⟩ : ∃ x : Tm, Hid (x = .mk 3 0 [x1, x2]) := ⟨_, rfl⟩
 have h3 := Hh (bP_o e3.out)
 have h4 := Hh (Qiy (s := ⟨#[80, 97, 105, 114]⟩) (x := x3) (a := 2) (b := 0) (c := [15]))
 simp only [List.map_cons, List.map_nil, Jf] at h4
 obtain ⟨x4, e4⟩ : ∃ x : Tm, Hid (x = .mk 6 14 []) := ⟨_, rfl⟩
 have h5 := Hh (bC_o (n := 14) e4.out)
 obtain ⟨x5, e5⟩ : ∃ x : Tm, Hid (x = .mk 1 1 []) := ⟨_, rfl⟩
 have h6 := Hh (bV_o (n := 1) e5.out)
 obtain ⟨x6, e6⟩ : ∃ x : Tm, Hid (x = .mk 1 0 []) := ⟨_, rfl⟩
 have h7 := Hh (bV_o (n := 0) e6.out)
 obtain ⟨x7, e7⟩ : ∃ x : Tm, Hid (x = .mk 5 0 [.mk 5 0 [x4, x5], x6]) := ⟨_, rfl⟩
 have h8 := Hh (bA2_o e7.out)
 obtain ⟨x8, e8⟩ : ∃ x : Tm, Hid (x = .mk 7 0 [.mk 2 0 []]) := ⟨_, rfl⟩
 have h9 := Hh (bE_o (n := 0) (m := 0) e8.out)
 obtain ⟨x9, e9⟩ : ∃ x : Tm, Hid (x = .mk 4 0 [x0, x0]) := ⟨_, rfl⟩
 have h10 := Hh (bL_o e9.out)
 obtain ⟨x10, e10⟩ : ∃ x : Tm, Hid (x = .mk 6 2 []) := ⟨_, rfl⟩
 have h11 := Hh (bC_o (n := 2) e10.out)
 obtain ⟨x11, e11⟩ : ∃ x : Tm, Hid (x = .mk 5 0 [x10, x6]) := ⟨_, rfl⟩
 have h12 := Hh (bA1_o e11.out)
 obtain ⟨x12, e12⟩ : ∃ x : Tm, Hid (x = .mk 4 0 [x0, x11]) := ⟨_, rfl⟩
 have h13 := Hh (bL_o e12.out)
 obtain ⟨x13, e13⟩ : ∃ x : Tm, Hid (x = .mk 4 0 [x0, x12]) := ⟨_, rfl⟩
 have h14 := Hh (bL_o e13.out)
 obtain ⟨x14, e14⟩ : ∃ x : Tm, Hid (x = .mk 5 0 [.mk 5 0 [.mk 5 0 [.mk 5 0 [x8, x9], x6], x13], x5]) := ⟨_, rfl⟩
 have h15 := Hh (bA4_o e14.out)
 obtain ⟨x15, e15⟩ : ∃ x : Tm, Hid (x = .mk 4 0 [x0, x14]) := ⟨_, rfl⟩
 have h16 := Hh (bL_o e15.out)
 obtain ⟨x16, e16⟩ : ∃ x : Tm, Hid (x = .mk 4 0 [x0, x15]) := ⟨_, rfl⟩
 have h17 := Hh (bL_o e16.out)
 have h18 := Hh (Qiy (s := ⟨#[78, 97, 116]⟩) (x := x1) (a := 0) (b := 0) (c := [1, 2]))
 simp only [List.map_cons, List.map_nil, Jf] at h18
 have h19 := Hh (Qgg (s := ⟨#[122, 101, 114, 111]⟩) (x := x0) (a := 0) (b := 0) (c := 0))
 obtain ⟨x17, e17⟩ : ∃ x : Tm, Hid (x = .mk 3 0 [x0, x0]) := ⟨_, rfl⟩
 have h20 := Hh (bP_o e17.out)
 have h21 := Hh (Qgg (s := ⟨#[115, 117, 99]⟩) (x := x17) (a := 0) (b := 1) (c := 0))
 have h22 := Hh (Qiy (s := ⟨#[66, 111, 111, 108]⟩) (x := x1) (a := 0) (b := 0) (c := [4, 5]))
 simp only [List.map_cons, List.map_nil, Jf] at h22
 obtain ⟨x18, e18⟩ : ∃ x : Tm, Hid (x = .mk 6 3 []) := ⟨_, rfl⟩
 have h23 := Hh (bC_o (n := 3) e18.out)
 have h24 := Hh (Qgg (s := ⟨#[116, 114, 117, 101]⟩) (x := x18) (a := 3) (b := 0) (c := 0))
 have h25 := Hh (Qgg (s := ⟨#[102, 97, 108, 115, 101]⟩) (x := x18) (a := 3) (b := 1) (c := 0))
 have h26 := Hh (Qiy (s := ⟨#[76, 105, 115, 116]⟩) (x := x2) (a := 1) (b := 0) (c := [7, 8]))
 simp only [List.map_cons, List.map_nil, Jf] at h26
 obtain ⟨x19, e19⟩ : ∃ x : Tm, Hid (x = .mk 6 6 []) := ⟨_, rfl⟩
 have h27 := Hh (bC_o (n := 6) e19.out)
 obtain ⟨x20, e20⟩ : ∃ x : Tm, Hid (x = .mk 5 0 [x19, x6]) := ⟨_, rfl⟩
 have h28 := Hh (bA1_o e20.out)
 obtain ⟨x21, e21⟩ : ∃ x : Tm, Hid (x = .mk 3 0 [x1, x20]) := ⟨_, rfl⟩
 have h29 := Hh (bP_o e21.out)
 have h30 := Hh (Qgg (s := ⟨#[110, 105, 108]⟩) (x := x21) (a := 6) (b := 0) (c := 1))
 obtain ⟨x22, e22⟩ : ∃ x : Tm, Hid (x = .mk 5 0 [x19, x5]) := ⟨_, rfl⟩
 have h31 := Hh (bA1_o e22.out)
 obtain ⟨x23, e23⟩ : ∃ x : Tm, Hid (x = .mk 1 2 []) := ⟨_, rfl⟩
 have h32 := Hh (bV_o (n := 2) e23.out)
 obtain ⟨x24, e24⟩ : ∃ x : Tm, Hid (x = .mk 5 0 [x19, x23]) := ⟨_, rfl⟩
 have h33 := Hh (bA1_o e24.out)
 obtain ⟨x25, e25⟩ : ∃ x : Tm, Hid (x = .mk 3 0 [x22, x24]) := ⟨_, rfl⟩
 have h34 := Hh (bP_o e25.out)
 obtain ⟨x26, e26⟩ : ∃ x : Tm, Hid (x = .mk 3 0 [x6, x25]) := ⟨_, rfl⟩
 have h35 := Hh (bP_o e26.out)
 obtain ⟨x27, e27⟩ : ∃ x : Tm, Hid (x = .mk 3 0 [x1, x26]) := ⟨_, rfl⟩
 have h36 := Hh (bP_o e27.out)
 have h37 := Hh (Qgg (s := ⟨#[99, 111, 110, 115]⟩) (x := x27) (a := 6) (b := 1) (c := 1))
 obtain ⟨x28, e28⟩ : ∃ x : Tm, Hid (x = .mk 3 0 [x0, x1]) := ⟨_, rfl⟩
 have h38 := Hh (bP_o e28.out)
 obtain ⟨x29, e29⟩ : ∃ x : Tm, Hid (x = .mk 3 0 [x1, x28]) := ⟨_, rfl⟩
 have h39 := Hh (bP_o e29.out)
 have h40 := Hh (Qiy (s := ⟨#[86, 101, 99]⟩) (x := x29) (a := 1) (b := 1) (c := [10, 11]))
 simp only [List.map_cons, List.map_nil, Jf] at h40
 obtain ⟨x30, e30⟩ : ∃ x : Tm, Hid (x = .mk 6 9 []) := ⟨_, rfl⟩
 have h41 := Hh (bC_o (n := 9) e30.out)
 obtain ⟨x31, e31⟩ : ∃ x : Tm, Hid (x = .mk 6 1 []) := ⟨_, rfl⟩
 have h42 := Hh (bC_o (n := 1) e31.out)
 obtain ⟨x32, e32⟩ : ∃ x : Tm, Hid (x = .mk 5 0 [.mk 5 0 [x30, x6], x31]) := ⟨_, rfl⟩
 have h43 := Hh (bA2_o e32.out)
 obtain ⟨x33, e33⟩ : ∃ x : Tm, Hid (x = .mk 3 0 [x1, x32]) := ⟨_, rfl⟩
 have h44 := Hh (bP_o e33.out)
 have h45 := Hh (Qgg (s := ⟨#[118, 110, 105, 108]⟩) (x := x33) (a := 9) (b := 0) (c := 1))
 obtain ⟨x34, e34⟩ : ∃ x : Tm, Hid (x = .mk 5 0 [.mk 5 0 [x30, x23], x5]) := ⟨_, rfl⟩
 have h46 := Hh (bA2_o e34.out)
 obtain ⟨x35, e35⟩ : ∃ x : Tm, Hid (x = .mk 1 3 []) := ⟨_, rfl⟩
 have h47 := Hh (bV_o (n := 3) e35.out)
 obtain ⟨x36, e36⟩ : ∃ x : Tm, Hid (x = .mk 5 0 [x10, x23]) := ⟨_, rfl⟩
 have h48 := Hh (bA1_o e36.out)
 obtain ⟨x37, e37⟩ : ∃ x : Tm, Hid (x = .mk 5 0 [.mk 5 0 [x30, x35], x36]) := ⟨_, rfl⟩
 have h49 := Hh (bA2_o e37.out)
 obtain ⟨x38, e38⟩ : ∃ x : Tm, Hid (x = .mk 3 0 [x34, x37]) := ⟨_, rfl⟩
 have h50 := Hh (bP_o e38.out)
 obtain ⟨x39, e39⟩ : ∃ x : Tm, Hid (x = .mk 3 0 [x5, x38]) := ⟨_, rfl⟩
 have h51 := Hh (bP_o e39.out)
 obtain ⟨x40, e40⟩ : ∃ x : Tm, Hid (x = .mk 3 0 [x0, x39]) := ⟨_, rfl⟩
 have h52 := Hh (bP_o e40.out)
 obtain ⟨x41, e41⟩ : ∃ x : Tm, Hid (x = .mk 3 0 [x1, x40]) := ⟨_, rfl⟩
 have h53 := Hh (bP_o e41.out)
 have h54 := Hh (Qgg (s := ⟨#[118, 99, 111, 110, 115]⟩) (x := x41) (a := 9) (b := 1) (c := 1))
 obtain ⟨x42, e42⟩ : ∃ x : Tm, Hid (x = .mk 3 0 [x5, x1]) := ⟨_, rfl⟩
 have h55 := Hh (bP_o e42.out)
 obtain ⟨x43, e43⟩ : ∃ x : Tm, Hid (x = .mk 3 0 [x6, x42]) := ⟨_, rfl⟩
 have h56 := Hh (bP_o e43.out)
 obtain ⟨x44, e44⟩ : ∃ x : Tm, Hid (x = .mk 3 0 [x1, x43]) := ⟨_, rfl⟩
 have h57 := Hh (bP_o e44.out)
 have h58 := Hh (Qiy (s := ⟨#[69, 113]⟩) (x := x44) (a := 2) (b := 1) (c := [13]))
 simp only [List.map_cons, List.map_nil, Jf] at h58
 obtain ⟨x45, e45⟩ : ∃ x : Tm, Hid (x = .mk 6 12 []) := ⟨_, rfl⟩
 have h59 := Hh (bC_o (n := 12) e45.out)
 obtain ⟨x46, e46⟩ : ∃ x : Tm, Hid (x = .mk 5 0 [.mk 5 0 [.mk 5 0 [x45, x5], x6], x6]) := ⟨_, rfl⟩
 have h60 := Hh (bA3_o e46.out)
 obtain ⟨x47, e47⟩ : ∃ x : Tm, Hid (x = .mk 3 0 [x6, x46]) := ⟨_, rfl⟩
 have h61 := Hh (bP_o e47.out)
 obtain ⟨x48, e48⟩ : ∃ x : Tm, Hid (x = .mk 3 0 [x1, x47]) := ⟨_, rfl⟩
 have h62 := Hh (bP_o e48.out)
 have h63 := Hh (Qgg (s := ⟨#[114, 101, 102, 108]⟩) (x := x48) (a := 12) (b := 0) (c := 2))
 obtain ⟨x49, e49⟩ : ∃ x : Tm, Hid (x = .mk 5 0 [.mk 5 0 [x4, x35], x23]) := ⟨_, rfl⟩
 have h64 := Hh (bA2_o e49.out)
 obtain ⟨x50, e50⟩ : ∃ x : Tm, Hid (x = .mk 3 0 [x5, x49]) := ⟨_, rfl⟩
 have h65 := Hh (bP_o e50.out)
 obtain ⟨x51, e51⟩ : ∃ x : Tm, Hid (x = .mk 3 0 [x5, x50]) := ⟨_, rfl⟩
 have h66 := Hh (bP_o e51.out)
 obtain ⟨x52, e52⟩ : ∃ x : Tm, Hid (x = .mk 3 0 [x1, x51]) := ⟨_, rfl⟩
 have h67 := Hh (bP_o e52.out)
 obtain ⟨x53, e53⟩ : ∃ x : Tm, Hid (x = .mk 3 0 [x1, x52]) := ⟨_, rfl⟩
 have h68 := Hh (bP_o e53.out)
 have h69 := Hh (Qgg (s := ⟨#[112, 97, 105, 114]⟩) (x := x53) (a := 14) (b := 0) (c := 2))
 obtain ⟨x54, e54⟩ : ∃ x : Tm, Hid (x = .mk 3 0 [x7, x23]) := ⟨_, rfl⟩
 have h70 := Hh (bP_o e54.out)
 obtain ⟨x55, e55⟩ : ∃ x : Tm, Hid (x = .mk 3 0 [x1, x54]) := ⟨_, rfl⟩
 have h71 := Hh (bP_o e55.out)
 obtain ⟨x56, e56⟩ : ∃ x : Tm, Hid (x = .mk 3 0 [x1, x55]) := ⟨_, rfl⟩
 have h72 := Hh (bP_o e56.out)
 have h73 := Hh (bProj_o (s := ⟨#[102, 115, 116]⟩) (x := x56) (a := 0))
 obtain ⟨x57, e57⟩ : ∃ x : Tm, Hid (x = .mk 3 0 [x7, x5]) := ⟨_, rfl⟩
 have h74 := Hh (bP_o e57.out)
 obtain ⟨x58, e58⟩ : ∃ x : Tm, Hid (x = .mk 3 0 [x1, x57]) := ⟨_, rfl⟩
 have h75 := Hh (bP_o e58.out)
 obtain ⟨x59, e59⟩ : ∃ x : Tm, Hid (x = .mk 3 0 [x1, x58]) := ⟨_, rfl⟩
 have h76 := Hh (bP_o e59.out)
 have h77 := Hh (bProj_o (s := ⟨#[115, 110, 100]⟩) (x := x59) (a := 1))
 have h78 := Hh (Qiy (s := ⟨#[84, 114, 101, 101]⟩) (x := x1) (a := 0) (b := 0) (c := [19, 20]))
 simp only [List.map_cons, List.map_nil, Jf] at h78
 obtain ⟨x60, e60⟩ : ∃ x : Tm, Hid (x = .mk 6 18 []) := ⟨_, rfl⟩
 have h79 := Hh (bC_o (n := 18) e60.out)
 have h80 := Hh (Qgg (s := ⟨#[108, 101, 97, 102]⟩) (x := x60) (a := 18) (b := 0) (c := 0))
 obtain ⟨x61, e61⟩ : ∃ x : Tm, Hid (x = .mk 3 0 [x0, x60]) := ⟨_, rfl⟩
 have h81 := Hh (bP_o e61.out)
 obtain ⟨x62, e62⟩ : ∃ x : Tm, Hid (x = .mk 3 0 [x61, x60]) := ⟨_, rfl⟩
 have h82 := Hh (bP_o e62.out)
 have h83 := Hh (Qgg (s := ⟨#[110, 111, 100, 101]⟩) (x := x62) (a := 18) (b := 1) (c := 0))
 obtain ⟨x63, e63⟩ : ∃ x : Tm, Hid (x = .mk 3 0 [x0, x17]) := ⟨_, rfl⟩
 have h84 := Hh (bP_o e63.out)
 obtain ⟨x64, e64⟩ : ∃ x : Tm, Hid (x = .mk 3 0 [x6, x5]) := ⟨_, rfl⟩
 have h85 := Hh (bP_o e64.out)
 obtain ⟨x65, e65⟩ : ∃ x : Tm, Hid (x = .mk 3 0 [x1, x64]) := ⟨_, rfl⟩
 have h86 := Hh (bP_o e65.out)
 obtain ⟨x66, e66⟩ : ∃ x : Tm, Hid (x = .mk 4 0 [x6, x6]) := ⟨_, rfl⟩
 have h87 := Hh (bL_o e66.out)
 obtain ⟨x67, e67⟩ : ∃ x : Tm, Hid (x = .mk 4 0 [x1, x66]) := ⟨_, rfl⟩
 have h88 := Hh (bL_o e67.out)
 refine pG Tryz.func22 Tryz.ntmps22 ?_
 refine Qab (h0.out) ?_
 refine Je ?_
 intro i0 hi0
 try simp only [Ja, Rh, Rg, Jb] at hi0
 refine go_ ?_
 refine Qaa ?_
 refine Qab (h1.out) ?_
 refine Qab (h1.out) ?_
 refine Qab (h1.out) ?_
 refine Qab (h2.out) ?_
 refine Qab (h3.out) ?_
 refine Qao ?_
 refine Qab (h4.out) ?_
 refine Je ?_
 intro i1 hi1
 try simp only [Ja, Rh, Rg, Jb] at hi1
 refine go_ ?_
 refine Qaa ?_
 refine Qao ?_
 refine Qaa ?_
 refine Qab (h5.out) ?_
 refine Qab (h6.out) ?_
 refine Qab (h7.out) ?_
 refine Qao ?_
 refine Qab (h8.out) ?_
 refine Je ?_
 intro i2 hi2
 try simp only [Ja, Rh, Rg, Jb] at hi2
 refine go_ ?_
 refine Qaa ?_
 refine Qfu (J := Qcm [(i0, _)]) [(0, .a), (1, .a), (2, .a), (3, .a), (4, .a), (5, .a), (6, .a), (7, .a), (8, .a), (9, .a), (10, .a), (11, .a), (12, .a), (13, .a), (14, .a), (15, .a), (16, .a), (17, .a), (18, .a), (19, .a), (20, .e), (21, .e)] (by kernel_rfl) (by rfl) (by kernel_rfl) (by (repeat (first | exact Qat _ | refine Ju (by simp [St.box?, *] <;> rfl) ?_))) ?_
 refine lG ?_
 refine Qdv (h9.out) ?_
 refine lG ?_
 refine Qdv (h10.out) ?_
 refine lG ?_
 refine Qdv (h7.out) ?_
 refine lG ?_
 refine Qdv (h11.out) ?_
 refine lG ?_
 refine Qdv (h7.out) ?_
 refine lG ?_
 refine PL_bs ?_ rfl (by decide) rfl (by simp; rfl) (by rfl) (by simp; rfl) (by rfl) (by decide) (by decide) eQ (by simp [Qde, toDs, PV.toD]; rfl)
 refine lG ?_
 refine Qdv (h12.out) ?_
 refine lG ?_
 refine Qdv (h13.out) ?_
 refine lG ?_
 refine Qdv (h14.out) ?_
 refine lG ?_
 refine Qdv (h6.out) ?_
 refine lG ?_
 refine PL_bs ?_ rfl (by decide) rfl (by simp; rfl) (by rfl) (by simp; rfl) (by rfl) (by decide) (by decide) eQ (by simp [Qde, toDs, PV.toD]; rfl)
 refine lG ?_
 refine Qdv (h15.out) ?_
 refine lG ?_
 refine Qdv (h16.out) ?_
 refine lG ?_
 refine Qdv (h17.out) ?_
 refine lG ?_
 refine PL_alloc rfl (by decide) rfl (by simp; rfl) (fun i hi => by simp only [Ja, Rh, Rg] at hi; (repeat (first | exact Qat _ | refine Ju (by simp [St.box?, *] <;> rfl) ?_))) ?_
 intro i3 hi3
 try simp only [Ja, Rh, Rg, Jb] at hi3
 refine lG ?_
 refine PLs ?_
 refine lG ?_
 refine go_ ?_
 refine PW_drawnI [(0, .a), (1, .a), (2, .a), (3, .b), (4, .a), (5, .b), (6, .b), (7, .a), (8, .a), (9, .a), (10, .a), (11, .a), (12, .a), (13, .a), (14, .a), (15, .a), (16, .a), (17, .a), (18, .a), (19, .a), (20, .a), (21, .a), (22, .a), (23, .a), (24, .a), (25, .a), (26, .a), (27, .a), (28, .a), (29, .a), (30, .a), (31, .a), (32, .a), (33, .a), (34, .a), (35, .a), (36, .a), (37, .a), (38, .a), (39, .a), (40, .a), (41, .a), (42, .a), (43, .b), (44, .a), (45, .a), (46, .a), (47, .a), (48, .a), (49, .a), (50, .a), (51, .a), (52, .a), (53, .a), (54, .a), (55, .a), (56, .a), (57, .a), (58, .b), (59, .a), (60, .a), (61, .a), (62, .a), (63, .a), (64, .a), (65, .a), (66, .a), (67, .a), (68, .a), (69, .a), (70, .a), (71, .a), (72, .a), (73, .a), (74, .a), (75, .a), (76, .a), (77, .a), (78, .a), (79, .a), (80, .a), (81, .a), (82, .a), (83, .a), (84, .a), (85, .a), (86, .a), (87, .a), (88, .a), (89, .a), (90, .a), (91, .a), (92, .a), (93, .a), (94, .a), (95, .a), (96, .a), (97, .a), (98, .b), (99, .a), (100, .a), (101, .a), (102, .a), (103, .a), (104, .a), (105, .a), (106, .a), (107, .a), (108, .a), (109, .a), (110, .a), (111, .a), (112, .a), (113, .a), (114, .a), (115, .b), (116, .a), (117, .a), (118, .a), (119, .a), (120, .a), (121, .a), (122, .a), (123, .b), (124, .a), (125, .a), (126, .a), (127, .a), (128, .a), (129, .a), (130, .a), (131, .a), (132, .a), (133, .a), (134, .b), (135, .a), (136, .a), (137, .a), (138, .a), (139, .a), (140, .b), (141, .b), (142, .b), (143, .a), (144, .a), (145, .b), (146, .a), (147, .a), (148, .a), (149, .a), (150, .a), (151, .a), (152, .a), (153, .a), (154, .a), (155, .a), (156, .a), (157, .a), (158, .a), (159, .a)] (by kernel_rfl) (by rfl) (by decide +kernel) (by decide +kernel) (by kernel_rfl) ?_
 refine go_ ?_
 refine Qac (h1.out) ?_
 refine go_ ?_
 refine Qcc ?_
 refine go_ ?_
 refine Qac (h18.out) ?_
 refine go_ ?_
 refine Qac (h19.out) ?_
 refine go_ ?_
 refine Qac (h20.out) ?_
 refine go_ ?_
 refine Qac (h21.out) ?_
 refine go_ ?_
 refine Qac (h1.out) ?_
 refine go_ ?_
 refine Qcc ?_
 refine go_ ?_
 refine Qac (h22.out) ?_
 refine go_ ?_
 refine Qac (h23.out) ?_
 refine go_ ?_
 refine Qac (h24.out) ?_
 refine go_ ?_
 refine Qac (h23.out) ?_
 refine go_ ?_
 refine Qac (h25.out) ?_
 refine go_ ?_
 refine Qac (h1.out) ?_
 refine go_ ?_
 refine Qac (h1.out) ?_
 refine go_ ?_
 refine Qac (h2.out) ?_
 refine go_ ?_
 refine Qcc ?_
 refine go_ ?_
 refine Qac (h26.out) ?_
 refine go_ ?_
 refine Qac (h1.out) ?_
 refine go_ ?_
 refine Qac (h27.out) ?_
 refine go_ ?_
 refine Qac (h7.out) ?_
 refine go_ ?_
 refine Qcc ?_
 refine go_ ?_
 refine Qac (h28.out) ?_
 refine go_ ?_
 refine Qac (h29.out) ?_
 refine go_ ?_
 refine Qac (h30.out) ?_
 refine go_ ?_
 refine Qac (h1.out) ?_
 refine go_ ?_
 refine Qac (h7.out) ?_
 refine go_ ?_
 refine Qac (h27.out) ?_
 refine go_ ?_
 refine Qac (h6.out) ?_
 refine go_ ?_
 refine Qcc ?_
 refine go_ ?_
 refine Qac (h31.out) ?_
 refine go_ ?_
 refine Qac (h27.out) ?_
 refine go_ ?_
 refine Qac (h32.out) ?_
 refine go_ ?_
 refine Qcc ?_
 refine go_ ?_
 refine Qac (h33.out) ?_
 refine go_ ?_
 refine Qac (h34.out) ?_
 refine go_ ?_
 refine Qac (h35.out) ?_
 refine go_ ?_
 refine Qac (h36.out) ?_
 refine go_ ?_
 refine Qac (h37.out) ?_
 refine go_ ?_
 refine Qac (h1.out) ?_
 refine go_ ?_
 refine Qac (h1.out) ?_
 refine go_ ?_
 refine Qac (h38.out) ?_
 refine go_ ?_
 refine Qac (h39.out) ?_
 refine go_ ?_
 refine Qcc ?_
 refine go_ ?_
 refine Qac (h40.out) ?_
 refine go_ ?_
 refine Qac (h1.out) ?_
 refine go_ ?_
 refine Qac (h41.out) ?_
 refine go_ ?_
 refine Qac (h7.out) ?_
 refine go_ ?_
 refine Qac (h42.out) ?_
 refine go_ ?_
 refine Qcc ?_
 refine go_ ?_
 refine Qac (h43.out) ?_
 refine go_ ?_
 refine Qac (h44.out) ?_
 refine go_ ?_
 refine Qac (h45.out) ?_
 refine go_ ?_
 refine Qac (h1.out) ?_
 refine go_ ?_
 refine Qac (h6.out) ?_
 refine go_ ?_
 refine Qac (h41.out) ?_
 refine go_ ?_
 refine Qac (h32.out) ?_
 refine go_ ?_
 refine Qac (h6.out) ?_
 refine go_ ?_
 refine Qcc ?_
 refine go_ ?_
 refine Qac (h46.out) ?_
 refine go_ ?_
 refine Qac (h41.out) ?_
 refine go_ ?_
 refine Qac (h47.out) ?_
 refine go_ ?_
 refine Qac (h11.out) ?_
 refine go_ ?_
 refine Qac (h32.out) ?_
 refine go_ ?_
 refine Qcc ?_
 refine go_ ?_
 refine Qac (h48.out) ?_
 refine go_ ?_
 refine Qcc ?_
 refine go_ ?_
 refine Qac (h49.out) ?_
 refine go_ ?_
 refine Qac (h50.out) ?_
 refine go_ ?_
 refine Qac (h51.out) ?_
 refine go_ ?_
 refine Qac (h52.out) ?_
 refine go_ ?_
 refine Qac (h53.out) ?_
 refine go_ ?_
 refine Qac (h54.out) ?_
 refine go_ ?_
 refine Qac (h1.out) ?_
 refine go_ ?_
 refine Qac (h7.out) ?_
 refine go_ ?_
 refine Qac (h6.out) ?_
 refine go_ ?_
 refine Qac (h1.out) ?_
 refine go_ ?_
 refine Qac (h55.out) ?_
 refine go_ ?_
 refine Qac (h56.out) ?_
 refine go_ ?_
 refine Qac (h57.out) ?_
 refine go_ ?_
 refine Qcc ?_
 refine go_ ?_
 refine Qac (h58.out) ?_
 refine go_ ?_
 refine Qac (h1.out) ?_
 refine go_ ?_
 refine Qac (h7.out) ?_
 refine go_ ?_
 refine Qac (h59.out) ?_
 refine go_ ?_
 refine Qac (h6.out) ?_
 refine go_ ?_
 refine Qac (h7.out) ?_
 refine go_ ?_
 refine Qac (h7.out) ?_
 refine go_ ?_
 refine Qcc ?_
 refine go_ ?_
 refine Qac (h60.out) ?_
 refine go_ ?_
 refine Qac (h61.out) ?_
 refine go_ ?_
 refine Qac (h62.out) ?_
 refine go_ ?_
 refine Qac (h63.out) ?_
 refine go_ ?_
 refine Qac (h1.out) ?_
 refine go_ ?_
 refine Qac (h1.out) ?_
 refine go_ ?_
 refine Qac (h6.out) ?_
 refine go_ ?_
 refine Qac (h6.out) ?_
 refine go_ ?_
 refine Qac (h5.out) ?_
 refine go_ ?_
 refine Qac (h47.out) ?_
 refine go_ ?_
 refine Qac (h32.out) ?_
 refine go_ ?_
 refine Qcc ?_
 refine go_ ?_
 refine Qac (h64.out) ?_
 refine go_ ?_
 refine Qac (h65.out) ?_
 refine go_ ?_
 refine Qac (h66.out) ?_
 refine go_ ?_
 refine Qac (h67.out) ?_
 refine go_ ?_
 refine Qac (h68.out) ?_
 refine go_ ?_
 refine Qac (h69.out) ?_
 refine go_ ?_
 refine Qac (h1.out) ?_
 refine go_ ?_
 refine Qac (h1.out) ?_
 refine go_ ?_
 refine Qac (h32.out) ?_
 refine go_ ?_
 refine Qac (h70.out) ?_
 refine go_ ?_
 refine Qac (h71.out) ?_
 refine go_ ?_
 refine Qac (h72.out) ?_
 refine go_ ?_
 refine Qac (h73.out) ?_
 refine go_ ?_
 refine Qac (h1.out) ?_
 refine go_ ?_
 refine Qac (h1.out) ?_
 refine go_ ?_
 refine Qac (h6.out) ?_
 refine go_ ?_
 refine Qac (h74.out) ?_
 refine go_ ?_
 refine Qac (h75.out) ?_
 refine go_ ?_
 refine Qac (h76.out) ?_
 refine go_ ?_
 refine Qac (h77.out) ?_
 refine go_ ?_
 refine Qac (h1.out) ?_
 refine go_ ?_
 refine Qcc ?_
 refine go_ ?_
 refine Qac (h78.out) ?_
 refine go_ ?_
 refine Qac (h79.out) ?_
 refine go_ ?_
 refine Qac (h80.out) ?_
 refine go_ ?_
 refine Qac (h79.out) ?_
 refine go_ ?_
 refine Qac (h81.out) ?_
 refine go_ ?_
 refine Qac (h79.out) ?_
 refine go_ ?_
 refine Qac (h82.out) ?_
 refine go_ ?_
 refine Qac (h83.out) ?_
 refine go_ ?_
 refine Qac (h20.out) ?_
 refine go_ ?_
 refine Qac (h84.out) ?_
 refine go_ ?_
 refine Qac (h1.out) ?_
 refine go_ ?_
 refine Qac (h7.out) ?_
 refine go_ ?_
 refine Qac (h6.out) ?_
 refine go_ ?_
 refine Qac (h85.out) ?_
 refine go_ ?_
 refine Qac (h86.out) ?_
 refine go_ ?_
 refine Qac (h1.out) ?_
 refine go_ ?_
 refine Qac (h7.out) ?_
 refine go_ ?_
 refine Qac (h7.out) ?_
 refine go_ ?_
 refine Qac (h87.out) ?_
 refine go_ ?_
 refine Qac (h88.out) ?_
 refine go_ ?_
 refine Qcc ?_
 refine go_ ?_
 refine rT Tryz.results22 ?_
 obtain rfl := e0.out
 obtain rfl := e1.out
 obtain rfl := e2.out
 obtain rfl := e3.out
 obtain rfl := e4.out
 obtain rfl := e5.out
 obtain rfl := e6.out
 obtain rfl := e7.out
 obtain rfl := e8.out
 obtain rfl := e9.out
 obtain rfl := e10.out
 obtain rfl := e11.out
 obtain rfl := e12.out
 obtain rfl := e13.out
 obtain rfl := e14.out
 obtain rfl := e15.out
 obtain rfl := e16.out
 obtain rfl := e17.out
 obtain rfl := e18.out
 obtain rfl := e19.out
 obtain rfl := e20.out
 obtain rfl := e21.out
 obtain rfl := e22.out
 obtain rfl := e23.out
 obtain rfl := e24.out
 obtain rfl := e25.out
 obtain rfl := e26.out
 obtain rfl := e27.out
 obtain rfl := e28.out
 obtain rfl := e29.out
 obtain rfl := e30.out
 obtain rfl := e31.out
 obtain rfl := e32.out
 obtain rfl := e33.out
 obtain rfl := e34.out
 obtain rfl := e35.out
 obtain rfl := e36.out
 obtain rfl := e37.out
 obtain rfl := e38.out
 obtain rfl := e39.out
 obtain rfl := e40.out
 obtain rfl := e41.out
 obtain rfl := e42.out
 obtain rfl := e43.out
 obtain rfl := e44.out
 obtain rfl := e45.out
 obtain rfl := e46.out
 obtain rfl := e47.out
 obtain rfl := e48.out
 obtain rfl := e49.out
 obtain rfl := e50.out
 obtain rfl := e51.out
 obtain rfl := e52.out
 obtain rfl := e53.out
 obtain rfl := e54.out
 obtain rfl := e55.out
 obtain rfl := e56.out
 obtain rfl := e57.out
 obtain rfl := e58.out
 obtain rfl := e59.out
 obtain rfl := e60.out
 obtain rfl := e61.out
 obtain rfl := e62.out
 obtain rfl := e63.out
 obtain rfl := e64.out
 obtain rfl := e65.out
 obtain rfl := e66.out
 obtain rfl := e67.out
 refine ⟨?_, rfl⟩
 simp only [baseL, List.map_cons, List.map_nil, Qje, Jl, Jv, Jw, Jx, Jf]
 rfl
theorem base_ok : ∀ e ∈ baseL, EnOk e := by
 have h : baseL.all (fun e => decide (e.cons.length ≤ 4000000000000000000) && decide (e.fields.length ≤ 4000000000000000000)) = true := by decide +kernel
 intro e he
 have := List.all_eq_true.1 h e he
 simp only [Bool.and_eq_true, decide_eq_true_eq] at this
 exact this
end Go.Proofs.YtdklpbefbamchaaGreat
