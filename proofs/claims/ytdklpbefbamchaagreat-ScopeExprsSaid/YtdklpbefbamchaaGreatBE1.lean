import Derived.Test.YtdklpbefbamchaaGreatBE
import Derived.Test.YtdklpbefbamchaaGreatBA5
set_option linter.unusedSimpArgs false
set_option linter.unusedVariables false
set_option maxHeartbeats 16000000
set_option maxRecDepth 100000
namespace Go.Proofs.YtdklpbefbamchaaGreat
open Go.RowKit
theorem tunder_p (t : Tm) (i : Int) : PCalls Tryz.prog 212 [aggD t, .d (.v (.int .i64 i))] [] fun p s => p = .d (.v (.int .i64 (undB t.kind i))) ∧ s = [] := by
 have HR := Lib.hid (show undB t.kind i = if i = 1 ∧ (t.kind = 3 ∨ t.kind = 4) then 1 else 0 from rfl)
 simp only [aggD, Jl, List.map_cons, List.map_nil]
 by_cases h1 : i = 1
 ·by_cases h3 : t.kind = 3
  ·have hf : Hid (undB t.kind i = 1) := by rw [show undB t.kind i = _ from HR.out, if_pos ⟨h1, .inl h3⟩]; rfl
   rw [hf.out]
   clear HR hf
   subst h1
   refine PCalls.enter Tryz.func212 rfl Tryz.ntmps212 (by simp) ?_
   simp only [Qaa]
   refine go_ ?_
   refine Jd ?_
   intro i0 hi0
   refine go_ ?_
   refine Jm (by simp) (by simp only [Tryz.results212]; rfl) (by simp [resP, St.box?, PF.get, Jn, TyK.agg, *]; rfl) Nl ?_
   exact ⟨rfl, rfl⟩
  ·by_cases h4 : t.kind = 4
   ·have hf : Hid (undB t.kind i = 1) := by rw [show undB t.kind i = _ from HR.out, if_pos ⟨h1, .inr h4⟩]; rfl
    rw [hf.out]
    clear HR hf h3
    subst h1
    refine PCalls.enter Tryz.func212 rfl Tryz.ntmps212 (by simp) ?_
    simp only [Qaa]
    refine go_ ?_
    refine Jd ?_
    intro i0 hi0
    refine go_ ?_
    refine Jm (by simp) (by simp only [Tryz.results212]; rfl) (by simp [resP, St.box?, PF.get, Jn, TyK.agg, *]; rfl) Nl ?_
    exact ⟨rfl, rfl⟩
   ·have hf : Hid (undB t.kind i = 0) := by rw [show undB t.kind i = _ from HR.out, if_neg (fun h => h.2.elim h3 h4)]; rfl
    rw [hf.out]
    clear HR hf
    subst h1
    refine PCalls.enter Tryz.func212 rfl Tryz.ntmps212 (by simp) ?_
    simp only [Qaa]
    refine go_ ?_
    refine Jd ?_
    intro i0 hi0
    refine go_ ?_
    refine Jm (by simp) (by simp only [Tryz.results212]; rfl) (by simp [resP, St.box?, PF.get, Jn, TyK.agg, *]; rfl) Nl ?_
    exact ⟨rfl, rfl⟩
 ·have hf : Hid (undB t.kind i = 0) := by rw [show undB t.kind i = _ from HR.out, if_neg (fun h => h1 h.1)]; rfl
  rw [hf.out]
  clear HR hf
  refine PCalls.enter Tryz.func212 rfl Tryz.ntmps212 (by simp) ?_
  simp only [Qaa]
  refine go_ ?_
  refine Jd ?_
  intro i0 hi0
  refine go_ ?_
  refine Jm (by simp) (by simp only [Tryz.results212]; rfl) (by simp [resP, St.box?, PF.get, Jn, TyK.agg, *]; rfl) Nl ?_
  exact ⟨rfl, rfl⟩
def benB (k i : Int) : Int := if i = 1 ∧ k ≠ 5 then 1 else 0
theorem rbeneath_p (t : Tm) (i : Int) : PCalls Tryz.prog 186 [aggD t, .d (.v (.int .i64 i))] [] fun p s => p = .d (.v (.int .i64 (benB t.kind i))) ∧ s = [] := by
 have HR := Lib.hid (show benB t.kind i = if i = 1 ∧ t.kind ≠ 5 then 1 else 0 from rfl)
 simp only [aggD, Jl, List.map_cons, List.map_nil]
 by_cases h1 : i = 1
 ·by_cases h3 : t.kind = 5
  ·have hf : Hid (benB t.kind i = 0) := by rw [show benB t.kind i = _ from HR.out, if_neg (fun h => h.2 h3)]; rfl
   rw [hf.out]
   clear HR hf
   subst h1
   refine PCalls.enter Tryz.func186 rfl Tryz.ntmps186 (by simp) ?_
   simp only [Qaa]
   refine go_ ?_
   refine Jd ?_
   intro i0 hi0
   refine go_ ?_
   refine Jm (by simp) (by simp only [Tryz.results186]; rfl) (by simp [resP, St.box?, PF.get, Jn, TyK.agg, *]; rfl) Nl ?_
   exact ⟨rfl, rfl⟩
  ·have hf : Hid (benB t.kind i = 1) := by rw [show benB t.kind i = _ from HR.out, if_pos ⟨h1, h3⟩]; rfl
   rw [hf.out]
   clear HR hf
   subst h1
   refine PCalls.enter Tryz.func186 rfl Tryz.ntmps186 (by simp) ?_
   simp only [Qaa]
   refine go_ ?_
   refine Jd ?_
   intro i0 hi0
   refine go_ ?_
   refine Jm (by simp) (by simp only [Tryz.results186]; rfl) (by simp [resP, St.box?, PF.get, Jn, TyK.agg, *]; rfl) Nl ?_
   exact ⟨rfl, rfl⟩
 ·have hf : Hid (benB t.kind i = 0) := by rw [show benB t.kind i = _ from HR.out, if_neg (fun h => h1 h.1)]; rfl
  rw [hf.out]
  clear HR hf
  refine PCalls.enter Tryz.func186 rfl Tryz.ntmps186 (by simp) ?_
  simp only [Qaa]
  refine go_ ?_
  refine Jd ?_
  intro i0 hi0
  refine go_ ?_
  refine Jm (by simp) (by simp only [Tryz.results186]; rfl) (by simp [resP, St.box?, PF.get, Jn, TyK.agg, *]; rfl) Nl ?_
  exact ⟨rfl, rfl⟩
theorem ben_und {k n : Int} {sub : List Tm} (h : Qah (.mk k n sub) = true) (j : Nat) (hj : j < sub.length) : benB k (j : Int) = undB k (j : Int) := by
 have h1 := Qft (Qby h).1
 have hs : (sub.length : Int) = Qaz k := h1.2.2.2.2
 unfold benB undB
 by_cases e : (j : Int) = 1
 ·have : k = 3 ∨ k = 4 ∨ k = 5 := by
   unfold Qaz at hs
   split at hs
   ·assumption
   ·split at hs <;> omega
  rcases this with rfl | rfl | rfl <;> simp [e]
 ·rw [if_neg (fun h => e h.1), if_neg (fun h => e h.1)]
theorem ls_var {n b : Int} {sub : List Tm} : lsT (.mk 1 n sub) b = max 0 (n + 1 - b) := by simp only [lsT]; rfl
theorem ls_not {k n b : Int} {sub : List Tm} (h : ¬ k = 1) : lsT (.mk k n sub) b = lsL k sub 0 b 0 := by simp only [lsT]; rw [if_neg h]
theorem max_if2 (a b : Int) : (if a < b then b else a) = max a b := (cmax_if a b).symm
theorem good_1 {n : Int} {sub : List Tm} (h : Qah (.mk 1 n sub) = true) : sub = [] := by
 have h1 := Qft (Qby h).1
 have hs : (sub.length : Int) = Qaz 1 := h1.2.2.2.2
 exact List.eq_nil_of_length_eq_zero (by simpa [Qaz] using hs)
theorem tloose_p : ∀ (t : Tm) (b : Int), Qah t = true → 0 ≤ b → b + chgT t ≤ 1000 → PCalls Tryz.prog 164 [aggD t, .d (.v (.int .i64 b))] [] fun p s => p = .d (.v (.int .i64 (lsT t b))) ∧ s = [] := by
 refine Tm.ind ?_
 intro k n sub ih b hg h0 h1
 have hnum := Qft (Qby hg).1
 simp only [aggD, Jl, List.map_cons, List.map_nil, Jv, Jw, Jx]
 by_cases hk : k = 1
 ·subst hk
  rw [ls_var]
  have hw1 := wr64 (n := n + 1) (by omega) (by omega)
  have hw2 := wr64 (n := n + 1 - b) (by omega) (by omega)
  clear ih hg hnum
  refine PCalls.enter Tryz.func164 rfl Tryz.ntmps164 (by simp) ?_
  simp only [Qaa]
  refine go_ ?_
  refine Jd ?_
  intro i0 hi0
  refine go_ ?_
  refine POps_max ((max 0 (n + 1 - b))) (max_if2 _ _) ?_
  refine go_ ?_
  refine Jm (by simp) (by simp only [Tryz.results164]; rfl) (by simp [resP, St.box?, PF.get, Jn, TyK.agg, *]; rfl) Nl ?_
  exact ⟨rfl, rfl⟩
 ·rw [ls_not hk]
  have HR : ∃ R, R = lsL k sub 0 b 0 := ⟨_, rfl⟩
  obtain ⟨R, hR0⟩ := HR
  rw [← hR0]
  have hgs := (Qby hg).2
  have hhg : ∀ s ∈ sub, (chgT s : Int) + 1 ≤ chgT (.mk k n sub) := fun s hs => by
   have h2 : chgT s ≤ chgL sub := hgL_mem s hs
   simp only [chgT]; omega
  have hll : sub.length ≤ 2 := by
   have := hnum.2.2.2.2
   unfold Qaz at this
   split at this
   ·omega
   ·split at this <;> omega
  have IH := Lib.hid ih
  have CU := Lib.hid (tunder_p (.mk k n sub))
  simp only [aggD, Jl, List.map_cons, List.map_nil, Jv, Jw, Jx] at CU
  clear ih hg hnum
  refine PCalls.enter Tryz.func164 rfl Tryz.ntmps164 (by simp) ?_
  simp only [Qaa]
  refine go_ ?_
  refine Jd ?_
  intro i0 hi0
  refine go_ ?_
  refine Qao (ι := Nat × Int) (fun y => y.1 ≤ sub.length ∧ 0 ≤ y.2 ∧ y.2 ≤ 1048577 ∧ Hid (R = lsL k (sub.drop y.1) y.1 b y.2)) (fun y => [(1, .d (.v (.int .i64 b))), (2, .ptr i0 0), (5, .d (.v (.int .i64 y.2))), (18, .d (.sl (sub.map encD))), (19, .d (.v (.int .i64 sub.length))), (20, .d (.v (.int .i64 (y.1 : Int))))]) (fun _ => [.box i0 26 [.d (.v (.int .i64 k)), .d (.v (.int .i64 n)), .d (.sl (sub.map encD))]]) (fun y => sub.length - y.1) (0, 0) ⟨Nat.zero_le _, by decide, by simp only; omega, hR0⟩ ?_ ?_ ?_
  ·repeat (first | exact Jt _ | refine Js (by simp [PF.get]; rfl) (by first | rfl | (simp [*]; done) | fail) ?_)
  ·repeat (first | exact List.Sublist.refl _ | exact List.nil_sublist _ | refine List.Sublist.cons_cons _ ?_ | refine List.Sublist.cons _ ?_)
  ·rintro ⟨j, m⟩ ⟨hj, hm0, hm1, hR⟩
   simp only at hj hm0 hm1 hR ⊢
   clear hR0
   by_cases hlt : j < sub.length
   ·have hx := Qar hlt
    have hc : (j : Int) < sub.length := by omega
    have hn : (0 : Int) ≤ j := by omega
    have hin := wr64 (n := (j : Int) + 1) (by omega) (by omega)
    have hu := und_bd k j
    have hh := hhg _ (List.getElem_mem hlt)
    have hR2 : Hid (R = lsL k (sub.drop (j + 1)) (j + 1) b (max m (lsT sub[j] (b + undB k j)))) := by
     rw [show R = _ from hR.out, List.drop_eq_getElem_cons hlt]
     show _ = _
     simp only [lsL]
    have hb2 := ls_bd sub[j] (b + undB k j) (hgs _ (List.getElem_mem hlt)) (by omega)
    have hc1 := Lib.hid (IH.out _ (List.getElem_mem hlt) (b + undB k j) (hgs _ (List.getElem_mem hlt)) (by omega) (by omega))
    have hcu := Lib.hid (CU.out j)
    have hw := wr64 (n := b + undB k j) (by omega) (by omega)
    clear hR hgs hhg hu
    generalize lsT sub[j] (b + undB k j) = x' at *
    generalize undB k j = u at *
    have hmx : 0 ≤ max m x' ∧ max m x' ≤ 1048577 := by omega
    refine go_ ?_
    refine Je ?_
    intro i2 hi2
    try simp only [Ja, Rh, Rg, Jb] at hi2
    refine go_ ?_
    refine Rd ?_
    refine go_ ?_
    refine Qay [(0, .a), (1, .b), (2, .a), (3, .b), (4, .a), (5, .a), (6, .a), (7, .a), (8, .a), (9, .a)] (by kernel_rfl) (by rfl) (by kernel_rfl) ?_
    refine go_ ?_
    refine Qbd (hcu.out) ?_
    refine go_ ?_
    refine Qbd (hc1.out) ?_
    refine go_ ?_
    refine POrd_max ((max m x')) (max_if2 _ _) ?_
    refine go_ ?_
    exact ⟨(j + 1, max m x'), ⟨hlt, hmx.1, hmx.2, hR2⟩, by simp only; omega, by repeat (first | exact Jt _ | refine Js (by simp [PF.get]; rfl) (by first | rfl | (simp [*]; done) | fail) ?_), by repeat (first | exact List.Sublist.refl _ | exact List.nil_sublist _ | refine List.Sublist.cons_cons _ ?_ | refine List.Sublist.cons _ ?_)⟩
   ·have hc : ¬ (j : Int) < sub.length := by omega
    have hf : Hid (R = m) := by rw [show R = _ from hR.out, List.drop_of_length_le (by omega)]; rfl
    refine go_ ?_
    refine Jm (by simp) (by simp only [Tryz.results164]; rfl) (by simp [resP, St.box?, PF.get, Jn, TyK.agg, *]; rfl) Nl ?_
    exact ⟨by rw [hf.out]; rfl, rfl⟩
theorem rloose_p : ∀ (t : Tm) (b : Int), Qah t = true → 0 ≤ b → b + chgT t ≤ 1000 → PCalls Tryz.prog 126 [aggD t, .d (.v (.int .i64 b))] [] fun p s => p = .d (.v (.int .i64 (lsT t b))) ∧ s = [] := by
 refine Tm.ind ?_
 intro k n sub ih b hg h0 h1
 have hnum := Qft (Qby hg).1
 by_cases hk : k = 1 ∧ b ≤ n
 ·obtain ⟨hk, hbn⟩ := hk
  subst hk
  simp only [aggD, Jl, List.map_cons, List.map_nil, Jv, Jw, Jx]
  have HR : Hid (lsT (.mk 1 n sub) b = n - b + 1) := by rw [ls_var]; show _ = _; omega
  rw [HR.out]
  have hw1 := wr64 (n := n - b) (by omega) (by omega)
  have hw2 := wr64 (n := n - b + 1) (by omega) (by omega)
  clear ih hg hnum HR
  refine PCalls.enter Tryz.func126 rfl Tryz.ntmps126 (by simp) ?_
  simp only [Qaa]
  refine go_ ?_
  refine Jd ?_
  intro i0 hi0
  refine go_ ?_
  refine Jm (by simp) (by simp only [Tryz.results126]; rfl) (by simp [resP, St.box?, PF.get, Jn, TyK.agg, *]; rfl) Nl ?_
  exact ⟨rfl, rfl⟩
 ·by_cases hk1 : k = 1
  ·subst hk1
   obtain rfl := good_1 hg
   have hbn : ¬ b ≤ n := fun h => hk ⟨rfl, h⟩
   have HR : Hid (lsT (.mk 1 n []) b = 0) := by rw [ls_var]; show _ = _; omega
   rw [HR.out]
   simp only [aggD, Jl, List.map_cons, List.map_nil, Jv, Jw, Jx]
   clear ih hg hnum HR hk h1
   refine PCalls.enter Tryz.func126 rfl Tryz.ntmps126 (by simp) ?_
   simp only [Qaa]
   refine go_ ?_
   refine Jd ?_
   intro i0 hi0
   refine go_ ?_
   refine Qao (ι := Unit) (fun _ => True) (fun _ => [(2, .ptr i0 0), (5, .d (.v (.int .i64 0))), (6, .d (.v (.int .i64 0)))]) (fun _ => [.box i0 26 [.d (.v (.int .i64 1)), .d (.v (.int .i64 n)), .d (.sl [])]]) (fun _ => 0) () trivial ?_ ?_ ?_
   ·repeat (first | exact Jt _ | refine Js (by simp [PF.get]; rfl) (by first | rfl | (simp [*]; done) | fail) ?_)
   ·repeat (first | exact List.Sublist.refl _ | exact List.nil_sublist _ | refine List.Sublist.cons_cons _ ?_ | refine List.Sublist.cons _ ?_)
   ·rintro _ _
    refine go_ ?_
    refine Jm (by simp) (by simp only [Tryz.results126]; rfl) (by simp [resP, St.box?, PF.get, Jn, TyK.agg, *]; rfl) Nl ?_
    exact ⟨rfl, rfl⟩
  ·have HR : ∃ R, R = lsL k sub 0 b 0 := ⟨_, rfl⟩
   obtain ⟨R, hR0⟩ := HR
   rw [ls_not hk1, ← hR0]
   have hgs := (Qby hg).2
   have hbe := fun j hj => ben_und hg j hj
   have hhg : ∀ s ∈ sub, (chgT s : Int) + 1 ≤ chgT (.mk k n sub) := fun s hs => by
    have h2 : chgT s ≤ chgL sub := hgL_mem s hs
    simp only [chgT]; omega
   have hll : sub.length ≤ 2 := by
    have := hnum.2.2.2.2
    unfold Qaz at this
    split at this
    ·omega
    ·split at this <;> omega
   have IH := Lib.hid ih
   have CU := Lib.hid (rbeneath_p (.mk k n sub))
   simp only [aggD, Jl, List.map_cons, List.map_nil, Jv, Jw, Jx] at CU ⊢
   have HB := Lib.hid hbe
   clear ih hg hnum hk hbe
   refine PCalls.enter Tryz.func126 rfl Tryz.ntmps126 (by simp) ?_
   simp only [Qaa]
   refine go_ ?_
   refine Jd ?_
   intro i0 hi0
   refine go_ ?_
   refine Qao (ι := Nat × Int) (fun y => y.1 ≤ sub.length ∧ 0 ≤ y.2 ∧ y.2 ≤ 1048577 ∧ Hid (R = lsL k (sub.drop y.1) y.1 b y.2)) (fun y => [(1, .d (.v (.int .i64 b))), (2, .ptr i0 0), (5, .d (.v (.int .i64 y.2))), (6, .d (.v (.int .i64 (y.1 : Int))))]) (fun _ => [.box i0 26 [.d (.v (.int .i64 k)), .d (.v (.int .i64 n)), .d (.sl (sub.map encD))]]) (fun y => sub.length - y.1) (0, 0) ⟨Nat.zero_le _, by decide, by simp only; omega, hR0⟩ ?_ ?_ ?_
   ·repeat (first | exact Jt _ | refine Js (by simp [PF.get]; rfl) (by first | rfl | (simp [*]; done) | fail) ?_)
   ·repeat (first | exact List.Sublist.refl _ | exact List.nil_sublist _ | refine List.Sublist.cons_cons _ ?_ | refine List.Sublist.cons _ ?_)
   ·rintro ⟨j, m⟩ ⟨hj, hm0, hm1, hR⟩
    simp only at hj hm0 hm1 hR ⊢
    clear hR0 hk1
    by_cases hlt : j < sub.length
    ·have hx := Qar hlt
     have hc : (j : Int) < sub.length := by omega
     have hn : (0 : Int) ≤ j := by omega
     have hin := wr64 (n := (j : Int) + 1) (by omega) (by omega)
     have hu := und_bd k j
     have hh := hhg _ (List.getElem_mem hlt)
     have hR2 : Hid (R = lsL k (sub.drop (j + 1)) (j + 1) b (max m (lsT sub[j] (b + undB k j)))) := by
      rw [show R = _ from hR.out, List.drop_eq_getElem_cons hlt]
      show _ = _
      simp only [lsL]
     have hb2 := ls_bd sub[j] (b + undB k j) (hgs _ (List.getElem_mem hlt)) (by omega)
     have hc1 := Lib.hid (IH.out _ (List.getElem_mem hlt) (b + undB k j) (hgs _ (List.getElem_mem hlt)) (by omega) (by omega))
     have hcu := CU.out j
     rw [HB.out j hlt] at hcu
     have HCU := Lib.hid hcu
     have hw := wr64 (n := b + undB k j) (by omega) (by omega)
     clear hR hgs hhg hu hcu
     generalize lsT sub[j] (b + undB k j) = x' at *
     generalize undB k j = u at *
     have hmx : 0 ≤ max m x' ∧ max m x' ≤ 1048577 := by omega
     refine go_ ?_
     refine Qay [(0, .a), (1, .a), (2, .b), (3, .a), (4, .a), (5, .a), (6, .a), (7, .b), (8, .a), (9, .a), (10, .a), (11, .a), (12, .a), (13, .a)] (by kernel_rfl) (by rfl) (by kernel_rfl) ?_
     refine go_ ?_
     refine Qbd (HCU.out) ?_
     refine go_ ?_
     refine Qbd (hc1.out) ?_
     refine go_ ?_
     refine POrd_max ((max m x')) (max_if2 _ _) ?_
     refine go_ ?_
     exact ⟨(j + 1, max m x'), ⟨hlt, hmx.1, hmx.2, hR2⟩, by simp only; omega, by repeat (first | exact Jt _ | refine Js (by simp [PF.get]; rfl) (by first | rfl | (simp [*]; done) | fail) ?_), by repeat (first | exact List.Sublist.refl _ | exact List.nil_sublist _ | refine List.Sublist.cons_cons _ ?_ | refine List.Sublist.cons _ ?_)⟩
    ·have hc : ¬ (j : Int) < sub.length := by omega
     have hf : Hid (R = m) := by rw [show R = _ from hR.out, List.drop_of_length_le (by omega)]; rfl
     refine go_ ?_
     refine Jm (by simp) (by simp only [Tryz.results126]; rfl) (by simp [resP, St.box?, PF.get, Jn, TyK.agg, *]; rfl) Nl ?_
     exact ⟨by rw [hf.out]; rfl, rfl⟩
theorem hs_var {n b : Int} {sub : List Tm} : hsT (.mk 1 n sub) b = (n == b) := by simp only [hsT]; rfl
theorem hs_not {k n b : Int} {sub : List Tm} (h : ¬ k = 1) : hsT (.mk k n sub) b = hsL k sub 0 b := by simp only [hsT]; rw [if_neg h]
theorem thas_p : ∀ (t : Tm) (b : Int), Qah t = true → 0 ≤ b → b + chgT t ≤ 2000000 → PCalls Tryz.prog 261 [aggD t, .d (.v (.int .i64 b))] [] fun p s => p = .d (.v (.bool (hsT t b))) ∧ s = [] := by
 refine Tm.ind ?_
 intro k n sub ih b hg h0 h1
 have hnum := Qft (Qby hg).1
 simp only [aggD, Jl, List.map_cons, List.map_nil, Jv, Jw, Jx]
 by_cases hk : k = 1
 ·subst hk
  rw [hs_var]
  clear ih hg hnum
  refine PCalls.enter Tryz.func261 rfl Tryz.ntmps261 (by simp) ?_
  simp only [Qaa]
  refine go_ ?_
  refine Jd ?_
  intro i0 hi0
  refine go_ ?_
  refine Jm (by simp) (by simp only [Tryz.results261]; rfl) (by simp [resP, St.box?, PF.get, Jn, TyK.agg, *]; rfl) Nl ?_
  exact ⟨rfl, rfl⟩
 ·rw [hs_not hk]
  have HR : ∃ R, R = hsL k sub 0 b := ⟨_, rfl⟩
  obtain ⟨R, hR0⟩ := HR
  rw [← hR0]
  have hgs := (Qby hg).2
  have hhg : ∀ s ∈ sub, (chgT s : Int) + 1 ≤ chgT (.mk k n sub) := fun s hs => by
   have h2 : chgT s ≤ chgL sub := hgL_mem s hs
   simp only [chgT]; omega
  have hll : sub.length ≤ 2 := by
   have := hnum.2.2.2.2
   unfold Qaz at this
   split at this
   ·omega
   ·split at this <;> omega
  have IH := Lib.hid ih
  have CU := Lib.hid (tunder_p (.mk k n sub))
  simp only [aggD, Jl, List.map_cons, List.map_nil, Jv, Jw, Jx] at CU
  clear ih hg hnum
  refine PCalls.enter Tryz.func261 rfl Tryz.ntmps261 (by simp) ?_
  simp only [Qaa]
  refine go_ ?_
  refine Jd ?_
  intro i0 hi0
  refine go_ ?_
  refine Qao (ι := Nat) (fun y => y ≤ sub.length ∧ Hid (R = hsL k (sub.drop y) y b)) (fun y => [(1, .d (.v (.int .i64 b))), (2, .ptr i0 0), (15, .d (.sl (sub.map encD))), (16, .d (.v (.int .i64 sub.length))), (17, .d (.v (.int .i64 (y : Int))))]) (fun _ => [.box i0 26 [.d (.v (.int .i64 k)), .d (.v (.int .i64 n)), .d (.sl (sub.map encD))]]) (fun y => sub.length - y) 0 ⟨Nat.zero_le _, hR0⟩ ?_ ?_ ?_
  ·repeat (first | exact Jt _ | refine Js (by simp [PF.get]; rfl) (by first | rfl | (simp [*]; done) | fail) ?_)
  ·repeat (first | exact List.Sublist.refl _ | exact List.nil_sublist _ | refine List.Sublist.cons_cons _ ?_ | refine List.Sublist.cons _ ?_)
  ·rintro j ⟨hj, hR⟩
   clear hR0
   by_cases hlt : j < sub.length
   ·have hx := Qar hlt
    have hc : (j : Int) < sub.length := by omega
    have hn : (0 : Int) ≤ j := by omega
    have hin := wr64 (n := (j : Int) + 1) (by omega) (by omega)
    have hu := und_bd k j
    have hh := hhg _ (List.getElem_mem hlt)
    have hR2 : Hid (R = (hsT sub[j] (b + undB k j) || hsL k (sub.drop (j + 1)) (j + 1) b)) := by
     rw [show R = _ from hR.out, List.drop_eq_getElem_cons hlt]
     show _ = _
     simp only [hsL]
    have hc1 := Lib.hid (IH.out _ (List.getElem_mem hlt) (b + undB k j) (hgs _ (List.getElem_mem hlt)) (by omega) (by omega))
    have hcu := Lib.hid (CU.out j)
    have hw := wr64 (n := b + undB k j) (by omega) (by omega)
    clear hR hgs hhg hu
    generalize hsT sub[j] (b + undB k j) = x' at *
    generalize undB k j = u at *
    refine go_ ?_
    refine Je ?_
    intro i2 hi2
    try simp only [Ja, Rh, Rg, Jb] at hi2
    refine go_ ?_
    refine Rd ?_
    refine go_ ?_
    refine Qay [(0, .b), (1, .a), (2, .b), (3, .a), (4, .a), (5, .a), (6, .a)] (by kernel_rfl) (by rfl) (by kernel_rfl) ?_
    refine go_ ?_
    refine Qbd (hcu.out) ?_
    refine go_ ?_
    refine Qbd (hc1.out) ?_
    refine go_ ?_
    rcases Bool.eq_false_or_eq_true (x') with hq | hq
    rotate_left
    ·have hR3 : Hid (R = hsL k (sub.drop (j + 1)) (j + 1) b) := by show _ = _; rw [show R = _ from hR2.out, hq]; rfl
     clear hR2
     refine go_ ?_
     exact ⟨j + 1, ⟨hlt, hR3⟩, by omega, by repeat (first | exact Jt _ | refine Js (by simp [PF.get]; rfl) (by first | rfl | (simp [*]; done) | fail) ?_), by repeat (first | exact List.Sublist.refl _ | exact List.nil_sublist _ | refine List.Sublist.cons_cons _ ?_ | refine List.Sublist.cons _ ?_)⟩
    ·have hf : Hid (R = true) := by show _ = _; rw [show R = _ from hR2.out, hq]; rfl
     clear hR2
     refine go_ ?_
     refine Jm (by simp) (by simp only [Tryz.results261]; rfl) (by simp [resP, St.box?, PF.get, Jn, TyK.agg, *]; rfl) Nl ?_
     exact ⟨by rw [hf.out]; rfl, rfl⟩
   ·have hc : ¬ (j : Int) < sub.length := by omega
    have hf : Hid (R = false) := by rw [show R = _ from hR.out, List.drop_of_length_le (by omega)]; rfl
    refine go_ ?_
    refine Jm (by simp) (by simp only [Tryz.results261]; rfl) (by simp [resP, St.box?, PF.get, Jn, TyK.agg, *]; rfl) Nl ?_
    exact ⟨by rw [hf.out]; rfl, rfl⟩
theorem tHas_p (t : Tm) (n : Int) : PCalls Tryz.prog 215 [aggD t, .d (.v (.int .i64 n))] [] fun p s => p = .d (.v (.bool (hasT t n))) ∧ s = [] := by
 have hS := Lib.hid (Qfx t)
 have HR := Lib.hid (show hasT t n = (decide (0 ≤ n) && (decide (n ≤ 1048576) && (Qak t && hsT t n))) from by unfold hasT; simp only [Bool.and_assoc])
 have hH : Hid (Qak t = true → 0 ≤ n → n ≤ 1048576 → PCalls Tryz.prog 261 [aggD t, .d (.v (.int .i64 n))] [] fun p s => p = .d (.v (.bool (hsT t n))) ∧ s = []) := fun hs h0 h1 => thas_p t n (Qaw hs).1 h0 (by have := (Qaw hs).2.1; omega)
 generalize hasT t n = R at *
 generalize hsT t n = A at *
 generalize Qak t = B at *
 simp only [aggD, Jl, List.map_cons, List.map_nil] at hS hH ⊢
 by_cases h0 : 0 ≤ n
 rotate_left
 ·have hf : Hid (R = false) := by show _ = _; rw [show R = _ from HR.out, decide_eq_false h0]; rfl
  clear HR hS hH
  refine PCalls.enter Tryz.func215 rfl Tryz.ntmps215 (by simp) ?_
  simp only [Qaa]
  refine go_ ?_
  refine Jd ?_
  intro i0 hi0
  refine go_ ?_
  refine Jm (by simp) (by simp only [Tryz.results215]; rfl) (by simp [resP, St.box?, PF.get, Jn, TyK.agg, *]; rfl) Nl ?_
  exact ⟨by rw [hf.out]; rfl, rfl⟩
 by_cases h1 : n ≤ 1048576
 rotate_left
 ·have hf : Hid (R = false) := by show _ = _; rw [show R = _ from HR.out, decide_eq_false h1]; simp
  clear HR hS hH
  refine PCalls.enter Tryz.func215 rfl Tryz.ntmps215 (by simp) ?_
  simp only [Qaa]
  refine go_ ?_
  refine Jd ?_
  intro i0 hi0
  refine go_ ?_
  refine Jm (by simp) (by simp only [Tryz.results215]; rfl) (by simp [resP, St.box?, PF.get, Jn, TyK.agg, *]; rfl) Nl ?_
  exact ⟨by rw [hf.out]; rfl, rfl⟩
 have HR2 : Hid (R = (B && A)) := by show _ = _; rw [show R = _ from HR.out, decide_eq_true h0, decide_eq_true h1]; rfl
 clear HR
 refine PCalls.enter Tryz.func215 rfl Tryz.ntmps215 (by simp) ?_
 simp only [Qaa]
 refine go_ ?_
 refine Jd ?_
 intro i0 hi0
 refine go_ ?_
 refine Jr (hS.out) ?_
 refine go_ ?_
 rcases Bool.eq_false_or_eq_true (B) with hb | hb
 rotate_left
 ·have hf : Hid (R = false) := by show _ = _; rw [show R = _ from HR2.out, hb]; rfl
  clear HR2 hH
  refine go_ ?_
  refine Jm (by simp) (by simp only [Tryz.results215]; rfl) (by simp [resP, St.box?, PF.get, Jn, TyK.agg, *]; rfl) Nl ?_
  exact ⟨by rw [hf.out]; rfl, rfl⟩
 have hc := Lib.hid (hH.out hb h0 h1)
 have hf : Hid (R = A) := by show _ = _; rw [show R = _ from HR2.out, hb]; rfl
 clear HR2 hH
 refine go_ ?_
 refine Jr (hc.out) ?_
 refine go_ ?_
 refine Jm (by simp) (by simp only [Tryz.results215]; rfl) (by simp [resP, St.box?, PF.get, Jn, TyK.agg, *]; rfl) Nl ?_
 exact ⟨by rw [hf.out]; rfl, rfl⟩
theorem rhas_p : ∀ (t : Tm) (b : Int), Qah t = true → 0 ≤ b → b + chgT t ≤ 2000000 → PCalls Tryz.prog 169 [aggD t, .d (.v (.int .i64 b))] [] fun p s => p = .d (.v (.bool (hsT t b))) ∧ s = [] := by
 refine Tm.ind ?_
 intro k n sub ih b hg h0 h1
 have hnum := Qft (Qby hg).1
 by_cases hk : k = 1
 ·subst hk
  rw [hs_var]
  simp only [aggD, Jl, List.map_cons, List.map_nil, Jv, Jw, Jx]
  clear ih hg hnum
  refine PCalls.enter Tryz.func169 rfl Tryz.ntmps169 (by simp) ?_
  simp only [Qaa]
  refine go_ ?_
  refine Jd ?_
  intro i0 hi0
  refine go_ ?_
  refine Jm (by simp) (by simp only [Tryz.results169]; rfl) (by simp [resP, St.box?, PF.get, Jn, TyK.agg, *]; rfl) Nl ?_
  exact ⟨rfl, rfl⟩
 ·rw [hs_not hk]
  have HR : ∃ R, R = hsL k sub 0 b := ⟨_, rfl⟩
  obtain ⟨R, hR0⟩ := HR
  rw [← hR0]
  have hgs := (Qby hg).2
  have hbe := fun j hj => ben_und hg j hj
  have hhg : ∀ s ∈ sub, (chgT s : Int) + 1 ≤ chgT (.mk k n sub) := fun s hs => by
   have h2 : chgT s ≤ chgL sub := hgL_mem s hs
   simp only [chgT]; omega
  have hll : sub.length ≤ 2 := by
   have := hnum.2.2.2.2
   unfold Qaz at this
   split at this
   ·omega
   ·split at this <;> omega
  have IH := Lib.hid ih
  have CU := Lib.hid (rbeneath_p (.mk k n sub))
  simp only [aggD, Jl, List.map_cons, List.map_nil, Jv, Jw, Jx] at CU ⊢
  have HB := Lib.hid hbe
  clear ih hg hnum hbe
  refine PCalls.enter Tryz.func169 rfl Tryz.ntmps169 (by simp) ?_
  simp only [Qaa]
  refine go_ ?_
  refine Jd ?_
  intro i0 hi0
  refine go_ ?_
  refine Qao (ι := Nat) (fun y => y ≤ sub.length ∧ Hid (R = hsL k (sub.drop y) y b)) (fun y => [(1, .d (.v (.int .i64 b))), (2, .ptr i0 0), (5, .d (.v (.int .i64 (y : Int))))]) (fun _ => [.box i0 26 [.d (.v (.int .i64 k)), .d (.v (.int .i64 n)), .d (.sl (sub.map encD))]]) (fun y => sub.length - y) 0 ⟨Nat.zero_le _, hR0⟩ ?_ ?_ ?_
  ·repeat (first | exact Jt _ | refine Js (by simp [PF.get]; rfl) (by first | rfl | (simp [*]; done) | fail) ?_)
  ·repeat (first | exact List.Sublist.refl _ | exact List.nil_sublist _ | refine List.Sublist.cons_cons _ ?_ | refine List.Sublist.cons _ ?_)
  ·rintro j ⟨hj, hR⟩
   clear hR0
   by_cases hlt : j < sub.length
   ·have hx := Qar hlt
    have hc : (j : Int) < sub.length := by omega
    have hn : (0 : Int) ≤ j := by omega
    have hin := wr64 (n := (j : Int) + 1) (by omega) (by omega)
    have hu := und_bd k j
    have hh := hhg _ (List.getElem_mem hlt)
    have hR2 : Hid (R = (hsT sub[j] (b + undB k j) || hsL k (sub.drop (j + 1)) (j + 1) b)) := by
     rw [show R = _ from hR.out, List.drop_eq_getElem_cons hlt]
     show _ = _
     simp only [hsL]
    have hc1 := Lib.hid (IH.out _ (List.getElem_mem hlt) (b + undB k j) (hgs _ (List.getElem_mem hlt)) (by omega) (by omega))
    have hcu := CU.out j
    rw [HB.out j hlt] at hcu
    have HCU := Lib.hid hcu
    have hw := wr64 (n := b + undB k j) (by omega) (by omega)
    clear hR hgs hhg hu hcu hk
    generalize hsT sub[j] (b + undB k j) = x' at *
    generalize undB k j = u at *
    refine go_ ?_
    refine Qay [(0, .a), (1, .b), (2, .a), (3, .a), (4, .a), (5, .a), (6, .b), (7, .a), (8, .a), (9, .a), (10, .a)] (by kernel_rfl) (by rfl) (by kernel_rfl) ?_
    refine go_ ?_
    refine Qbd (HCU.out) ?_
    refine go_ ?_
    refine Qbd (hc1.out) ?_
    refine go_ ?_
    rcases Bool.eq_false_or_eq_true (x') with hq | hq
    rotate_left
    ·have hR3 : Hid (R = hsL k (sub.drop (j + 1)) (j + 1) b) := by show _ = _; rw [show R = _ from hR2.out, hq]; rfl
     clear hR2
     refine go_ ?_
     exact ⟨j + 1, ⟨hlt, hR3⟩, by omega, by repeat (first | exact Jt _ | refine Js (by simp [PF.get]; rfl) (by first | rfl | (simp [*]; done) | fail) ?_), by repeat (first | exact List.Sublist.refl _ | exact List.nil_sublist _ | refine List.Sublist.cons_cons _ ?_ | refine List.Sublist.cons _ ?_)⟩
    ·have hf : Hid (R = true) := by show _ = _; rw [show R = _ from hR2.out, hq]; rfl
     clear hR2
     refine go_ ?_
     refine Jm (by simp) (by simp only [Tryz.results169]; rfl) (by simp [resP, St.box?, PF.get, Jn, TyK.agg, *]; rfl) Nl ?_
     exact ⟨by rw [hf.out]; rfl, rfl⟩
   ·have hc : ¬ (j : Int) < sub.length := by omega
    have hf : Hid (R = false) := by rw [show R = _ from hR.out, List.drop_of_length_le (by omega)]; rfl
    refine go_ ?_
    refine Jm (by simp) (by simp only [Tryz.results169]; rfl) (by simp [resP, St.box?, PF.get, Jn, TyK.agg, *]; rfl) Nl ?_
    exact ⟨by rw [hf.out]; rfl, rfl⟩
theorem cnd_take {l : List Tm} {m : Nat} : min (m : Int) (cndL l) ≤ cndL (l.take m) := by
 by_cases h : l.length ≤ m
 ·rw [List.take_of_length_le h]; omega
 ·have := Qih (l.take m)
  rw [List.length_take] at this
  omega
theorem Qgo (l : List Tm) : ∀ row ∈ l.map encD, row.length = 3 := rows_of rfl
theorem get_last {α : Type} [Enc α] (a : List α) (x : α) : ((a ++ [x]).map encD)[a.length]? = some (encD x) := by simp
theorem rSize_p (t : Tm) : PCalls Tryz.prog 16 [aggD t] [] fun p s => p = .d (.v (.int .i64 (Qda t))) ∧ s = [] := by
 have HR := Lib.hid (show Qda t = min (0 + (cndL [t] : Int)) 8193 by unfold Qda; rw [csz_nd t 0 (by decide) (by decide)]; simp only [cndL]; omega)
 generalize Qda t = R at *
 simp only [aggD, Jl, List.map_cons, List.map_nil]
 refine PCalls.enter Tryz.func16 rfl Tryz.ntmps16 (by simp) ?_
 simp only [Qaa]
 refine go_ ?_
 refine Jd ?_
 intro i0 hi0
 refine go_ ?_
 refine Qam ?_
 refine go_ ?_
 refine Qao (ι := List Tm × Nat) (fun y => y.2 ≤ 8193 ∧ y.1.length ≤ y.2 * 8193 + 1 ∧ Hid (R = min ((y.2 : Int) + cndL y.1) 8193)) (fun y => [(3, .d (.sl (y.1.map encD))), (4, .d (.v (.int .i64 (y.2 : Int))))]) (fun _ => []) (fun y => 8193 - y.2) ([t], 0) ⟨Nat.zero_le _, by simp, HR.out⟩ ?_ ?_ ?_
 ·repeat (first | exact Jt _ | refine Js (by simp [PF.get]; rfl) (by first | rfl | (simp [*]; done) | fail) ?_)
 ·repeat (first | exact List.Sublist.refl _ | exact List.nil_sublist _ | refine List.Sublist.cons_cons _ ?_ | refine List.Sublist.cons _ ?_)
 ·rintro ⟨l, m⟩ ⟨hm, hll, hR⟩
  simp only at hm hll hR ⊢
  clear HR
  by_cases hl : l = []
  ·subst hl
   have hf : Hid (R = m) := by rw [show R = _ from hR.out]; simp only [cndL]; show _ = _; omega
   refine go_ ?_
   refine Jm (by simp) (by simp only [Tryz.results16]; rfl) (by simp [resP, St.box?, PF.get, Jn, TyK.agg, *]; rfl) Nl ?_
   exact ⟨by rw [hf.out]; rfl, rfl⟩
  ·obtain ⟨a, x, rfl⟩ : ∃ a x, l = a ++ [x] := by
    rcases List.eq_nil_or_concat l with h | ⟨a, x, h⟩
    ·exact absurd h hl
    ·exact ⟨a, x, by rw [h, List.concat_eq_append]⟩
   clear hl
   have hx := get_last a x
   have hal1 : a.length + 1 ≤ m * 8193 + 1 := by rw [List.length_append, List.length_singleton] at hll; exact hll
   have hal : a.length ≤ 100000000 := by omega
   have hw1 := wr64 (n := (a.length : Int)) (by omega) (by omega)
   have hw2 := wr64 (n := (m : Int) + 1) (by omega) (by omega)
   have hn2 : (0 : Int) ≤ (a.length : Int) := by omega
   by_cases hb : (m : Int) ≤ 8192
   ·have hR2 : Hid (R = min (((m + 1 : Nat) : Int) + cndL (a ++ x.sub.take 8193)) 8193) := by
     rw [show R = _ from hR.out]
     have h1 := cnd_take (l := x.sub) (m := 8193)
     have h2 : cndL (x.sub.take 8193) ≤ cndL x.sub := by
      have := Qfh (x.sub.take 8193) (x.sub.drop 8193)
      rw [List.take_append_drop] at this; omega
     rw [Qfh, Qfh]
     simp only [cndL, cnd_sub x]
     show _ = _
     omega
    have e1 : ∀ r, List.drop 0 (List.take a.length (List.map encD a ++ r)) = List.map encD a := fun r => by rw [List.drop_zero, List.take_left' (by simp)]
    have e2 : List.drop 0 (List.take (min x.sub.length 8193) (List.map encD x.sub)) = List.map encD (x.sub.take 8193) := by
     rw [List.drop_zero]
     rcases Nat.le_total x.sub.length 8193 with h | h
     ·rw [Nat.min_eq_left h, List.take_of_length_le h, List.take_of_length_le (by simp)]
     ·rw [Nat.min_eq_right h, List.map_take]
    have em : (if (8193 : Int) < (x.sub.length : Int) then (8193 : Int) else x.sub.length) = ((min x.sub.length 8193 : Nat) : Int) := by split <;> omega
    have htl : (x.sub.take 8193).length ≤ 8193 := by rw [List.length_take]; omega
    refine go_ ?_
    refine Je ?_
    intro i1 hi1
    try simp only [Ja, Rh, Rg, Jb] at hi1
    refine go_ ?_
    refine Rd ?_
    refine go_ ?_
    refine PW_drawnJ (J := Qdp [(i1, _)]) [(1, .a), (2, .a), (3, .a), (4, .a), (5, .a), (7, .a), (8, .a), (9, .a), (10, .a), (11, .a), (12, .a), (13, .a), (0, .e), (6, .e), (14, .e), (15, .a)] (by kernel_rfl) (by rfl) (by kernel_rfl) (by (repeat (first | exact Qat _ | refine Ju (by simp [St.box?, *] <;> rfl) ?_))) ?_
    repeat (first | with_reducible refine Qfq ?_ | refine Qgh ?_ | refine Qgy ?_ | refine PJ_b2 ?_)
    refine PJ_slice 0 a.length ?_ ?_ (e1 _)
    rotate_left
    ·simpa using Qgo (a ++ [x])
    repeat (first | with_reducible refine Qfq ?_ | refine Qgh ?_ | refine Qgy ?_ | refine PJ_b2 ?_)
    refine PJ_min (((min x.sub.length 8193 : Nat) : Int)) em ?_
    repeat (first | with_reducible refine Qfq ?_ | refine Qgh ?_ | refine Qgy ?_ | refine PJ_b2 ?_)
    refine PJ_slice 0 (min x.sub.length 8193) ?_ ?_ e2
    rotate_left
    ·exact Qgo _
    repeat (first | with_reducible refine Qfq ?_ | refine Qgh ?_ | refine Qgy ?_ | refine PJ_b2 ?_)
    refine PJ_bs0 (fun g hg => by (repeat (first | exact Qat _ | refine Ju (by simp [St.box?, *] <;> rfl) ?_))) ?_
    intro g hg
    repeat (first | with_reducible refine Qfq ?_ | refine Qgh ?_ | refine Qgy ?_ | refine PJ_b2 ?_)
    refine PJ_app a.length ?_ ?_ ?_ ?_ ?_
    ·simp
    ·simp
    ·exact Qgo a
    ·(repeat (first | exact Qat _ | refine Ju (by simp [St.box?, *] <;> rfl) ?_))
    repeat (first | with_reducible refine Qfq ?_ | refine Qgh ?_ | refine Qgy ?_ | refine PJ_b2 ?_)
    refine PJ_app (a.length + (x.sub.take 8193).length) ?_ ?_ ?_ ?_ ?_
    ·simp
    ·simp
    ·exact fun row h => Qgo x.sub row (List.mem_of_mem_take h)
    ·(repeat (first | exact Qat _ | refine Ju (by simp [St.box?, *] <;> rfl) ?_))
    refine Qgy ?_
    refine Qfq ?_
    refine Qj ?_
    refine Qje 3 (by simp [PF.get] <;> rfl) ?_
    refine go_ ?_
    refine ⟨(a ++ x.sub.take 8193, m + 1), ⟨by simp only; omega, by simp only; rw [List.length_append]; omega, hR2⟩, by simp only; omega, ?_, by repeat (first | exact List.Sublist.refl _ | exact List.nil_sublist _ | refine List.Sublist.cons_cons _ ?_ | refine List.Sublist.cons _ ?_)⟩
    simp only [PV.norm0]
    repeat (first | exact Jt _ | refine Js (by simp [PF.get]; rfl) (by first | rfl | (simp [hw2]; done) | fail) ?_)
   ·have hf : Hid (R = m) := by rw [show R = _ from hR.out]; show _ = _; omega
    refine go_ ?_
    refine Jm (by simp) (by simp only [Tryz.results16]; rfl) (by simp [resP, St.box?, PF.get, Jn, TyK.agg, *]; rfl) Nl ?_
    exact ⟨by rw [hf.out]; rfl, rfl⟩
theorem cdep_hg (t : Tm) (h : ¬ 8192 < Qda t) : Qcv t = min ((0 : Int) + chgL [t]) 129 := by
 unfold Qcv
 rw [if_neg h, cdp_hg t 1 (by decide) (by decide)]
 simp only [chgL]
 omega
theorem size_nd (t : Tm) : Qda t = min (cndT t : Int) 8193 := by
 unfold Qda
 rw [csz_nd t 0 (by decide) (by decide)]; omega
theorem rDepth_p (t : Tm) : PCalls Tryz.prog 61 [aggD t] [] fun p s => p = .d (.v (.int .i64 (Qcv t))) ∧ s = [] := by
 have hS := Lib.hid (rSize_p t)
 by_cases hz : 8192 < Qda t
 ·have hR : Qcv t = 129 := by unfold Qcv; rw [if_pos hz]
  rw [hR]
  generalize Qda t = z at *
  simp only [aggD, Jl, List.map_cons, List.map_nil]
  refine PCalls.enter Tryz.func61 rfl Tryz.ntmps61 (by simp) ?_
  simp only [Qaa]
  refine go_ ?_
  refine Jd ?_
  intro i0 hi0
  refine go_ ?_
  refine Jc (hS.out) ?_
  refine go_ ?_
  refine Jm (by simp) (by simp only [Tryz.results61]; rfl) (by simp [resP, St.box?, PF.get, Jn, TyK.agg, *]; rfl) Nl ?_
  exact ⟨rfl, rfl⟩
 ·have HR := Lib.hid (cdep_hg t hz)
  have hnd : cndL [t] ≤ 8192 := by have := size_nd t; simp only [cndL]; omega
  generalize Qda t = z at *
  generalize Qcv t = R at *
  simp only [aggD, Jl, List.map_cons, List.map_nil]
  refine PCalls.enter Tryz.func61 rfl Tryz.ntmps61 (by simp) ?_
  simp only [Qaa]
  refine go_ ?_
  refine Jd ?_
  intro i0 hi0
  refine go_ ?_
  refine Jc (hS.out) ?_
  refine go_ ?_
  refine Qam ?_
  refine go_ ?_
  refine Qao (ι := List Tm × Nat) (fun y => y.2 ≤ 129 ∧ cndL y.1 ≤ 8192 ∧ Hid (R = min ((y.2 : Int) + chgL y.1) 129)) (fun y => [(3, .d (.sl (y.1.map encD))), (4, .d (.v (.int .i64 (y.2 : Int))))]) (fun _ => []) (fun y => 129 - y.2) ([t], 0) ⟨Nat.zero_le _, hnd, HR.out⟩ ?_ ?_ ?_
  ·repeat (first | exact Jt _ | refine Js (by simp [PF.get]; rfl) (by first | rfl | (simp [*]; done) | fail) ?_)
  ·repeat (first | exact List.Sublist.refl _ | exact List.nil_sublist _ | refine List.Sublist.cons_cons _ ?_ | refine List.Sublist.cons _ ?_)
  ·rintro ⟨l, m⟩ ⟨hm, hnd, hR⟩
   simp only at hm hnd hR ⊢
   clear HR
   by_cases hl : l = []
   ·subst hl
    have hf : Hid (R = m) := by rw [show R = _ from hR.out]; simp only [chgL]; show _ = _; omega
    refine go_ ?_
    refine Jm (by simp) (by simp only [Tryz.results61]; rfl) (by simp [resP, St.box?, PF.get, Jn, TyK.agg, *]; rfl) Nl ?_
    exact ⟨by rw [hf.out]; rfl, rfl⟩
   ·have hpos : 0 < l.length := List.length_pos_iff.2 hl
    by_cases hb : (m : Int) < 129
    ·have hw2 := wr64 (n := (m : Int) + 1) (by omega) (by omega)
     have hll : l.length ≤ 8192 := Nat.le_trans (Qih l) hnd
     have hR2 : Hid (R = min (((m + 1 : Nat) : Int) + chgL (clvl l)) 129) := by
      rw [show R = _ from hR.out, clvl_hg l hl]
      show _ = _
      omega
     have hnd2 : cndL (clvl l) ≤ 8192 := Nat.le_trans (clvl_nd l) hnd
     clear hR
     have hl' := hl
     refine go_ ?_
     refine Qba ?_ (by decide) (by first | (simp [nev, nevA, nevB, Jp, PF.eval, PF.get, PF.wants, cPV, Qad, PV.rows, Qae, evUn, Jq, Qag, Qaf, Jn, TyK.agg, Qac, St.box?, St.tok?, St.setBox, St.setTok, Qab, spl, PV.ps, PV.one, Jo, aggD, slD, Jh, Jk, Ji, Jj, Jg, Jf, *]; done) | fail) (by simp; rfl) (by rfl) (by simp; rfl) (by rfl) (by decide)
     intro g hg
     refine go_ ?_
     refine Qao (ι := Nat) (fun y => y ≤ l.length) (fun y => [(3, .d (.sl (l.map encD))), (4, .d (.v (.int .i64 (m : Int)))), (5, .own g ((clvl (l.take y)).map encD)), (6, .d (.v (.int .i64 (y : Int))))]) (fun y => [.tok g 26 3 (clvl (l.take y)).length]) (fun y => l.length - y) 0 (Nat.zero_le _) ?_ ?_ ?_
     ·repeat (first | exact Jt _ | refine Js (by simp [PF.get]; rfl) (by first | rfl | (simp [*]; done) | fail) ?_)
     ·repeat (first | exact List.Sublist.refl _ | exact List.nil_sublist _ | refine List.Sublist.cons_cons _ ?_ | refine List.Sublist.cons _ ?_)
     ·rintro k hk
      by_cases hlt : k < l.length
      ·have hx := Qar hlt
       have hc : (k : Int) < l.length := by omega
       have hn : (0 : Int) ≤ k := by omega
       have hin := wr64 (n := (k : Int) + 1) (by omega) (by omega)
       have ht := clvl_take l k hlt
       have hlen : (clvl (l.take (k + 1))).length ≤ 8192 := Nat.le_trans (Qih _) (Nat.le_trans (clvl_nd _) (Nat.le_trans (Qfs l (k + 1)) hnd))
       have HT := Lib.hid ht
       rw [ht, List.length_append] at hlen
       clear ht
       refine go_ ?_
       refine Qai ((clvl (l.take k)).length + l[k].sub.length) ?_ ?_ ?_ ?_
       ·simp
       ·exact Qgo _
       ·exact Qgo _
       refine go_ ?_
       refine ⟨k + 1, hlt, by omega, ?_, ?_⟩
       ·rw [HT.out]
        repeat (first | exact Jt _ | refine Js (by simp [PF.get]; rfl) (by first | rfl | (simp [*]; done) | fail) ?_)
       ·rw [HT.out, List.length_append]
        repeat (first | exact List.Sublist.refl _ | exact List.nil_sublist _ | refine List.Sublist.cons_cons _ ?_ | refine List.Sublist.cons _ ?_)
      ·have hc : ¬ (k : Int) < l.length := by omega
       have htk : l.take k = l := List.take_of_length_le (by omega)
       rw [htk]
       refine gs_ ?_
       refine Qc ?_
       refine gs_ ?_
       refine Qje 5 (by simp [PF.get] <;> rfl) ?_
       refine go_ ?_
       refine ⟨(clvl l, m + 1), ⟨by simp only; omega, hnd2, hR2⟩, by simp only; omega, ?_, by repeat (first | exact List.Sublist.refl _ | exact List.nil_sublist _ | refine List.Sublist.cons_cons _ ?_ | refine List.Sublist.cons _ ?_)⟩
       simp only [PV.norm0]
       repeat (first | exact Jt _ | refine Js (by simp [PF.get]; rfl) (by first | rfl | (simp [hw2]; done) | fail) ?_)
    ·have hf : Hid (R = m) := by rw [show R = _ from hR.out]; show _ = _; omega
     refine go_ ?_
     refine Jm (by simp) (by simp only [Tryz.results61]; rfl) (by simp [resP, St.box?, PF.get, Jn, TyK.agg, *]; rfl) Nl ?_
     exact ⟨by rw [hf.out]; rfl, rfl⟩
end Go.Proofs.YtdklpbefbamchaaGreat
