import Derived.Test.YtdklpbefbamchaaGreatBE
import Derived.Test.YtdklpbefbamchaaGreatBS
import Derived.Test.YtdklpbefbamchaaGreatBS1
import Derived.Test.YtdklpbefbamchaaGreatBE2
import Derived.Test.YtdklpbefbamchaaGreatBA3
import Derived.Test.YtdklpbefbamchaaGreatBN
import Derived.Test.YtdklpbefbamchaaGreatT6
import Derived.Test.YtdklpbefbamchaaGreatBG
import Derived.Test.YtdklpbefbamchaaGreatBA4
import Derived.Test.YtdklpbefbamchaaGreatBU
import Derived.Test.YtdklpbefbamchaaGreatBV
import Derived.Test.YtdklpbefbamchaaGreatBE1
import Derived.Test.YtdklpbefbamchaaGreatT7
import Derived.Test.YtdklpbefbamchaaGreatBM1
import Derived.Test.YtdklpbefbamchaaGreatBH
set_option linter.unusedSimpArgs false
set_option linter.unusedVariables false
set_option maxHeartbeats 16000000
set_option maxRecDepth 100000
namespace Go.Proofs.YtdklpbefbamchaaGreat
open Go.RowKit
def nameT (l : List En) (ns : List ByteArray) (s : ByteArray) (a : Int) : Tm × Option Int :=
 if 0 ≤ Qaw ns s ns.length then (.mk 1 ((ns.length : Int) - 1 - Qaw ns s ns.length) [], none) else match Qeq s l 0 with
  | some c => (.mk 6 c [], none)
  | none => (.mk 6 0 [], some a)
def kndE (k : Int) : Int := if k = 3 then 3 else if k = 4 then 4 else 5
def innE (k : Int) (s : ByteArray) (ns : List ByteArray) : List ByteArray := if k = 5 then ns else ns ++ [s]
def scT (l : List En) : Nd → List ByteArray → Tm × Option Int
  | .mk k a s n [x, y], ns =>
    if k = 1 then nameT l ns s a else if k = 2 then (.mk 2 n [], none)
    else (.mk (kndE k) 0 [(scT l x ns).1, (scT l y (innE k s ns)).1], (scT l x ns).2.or (scT l y (innE k s ns)).2)
  | .mk k a s n _, ns => if k = 1 then nameT l ns s a else (.mk 2 n [], none)
theorem sc_two {l : List En} {k a n : Int} {s : ByteArray} {x y : Nd} {ns : List ByteArray} (h : k = 3 ∨ k = 4 ∨ k = 5) : scT l (.mk k a s n [x, y]) ns = (.mk (kndE k) 0 [(scT l x ns).1, (scT l y (innE k s ns)).1], (scT l x ns).2.or (scT l y (innE k s ns)).2) := by
 simp only [scT]; rw [if_neg (by omega), if_neg (by omega)]
theorem sc_name {l : List En} {a n : Int} {s : ByteArray} {ns : List ByteArray} : scT l (.mk 1 a s n []) ns = nameT l ns s a := by simp only [scT]; rfl
theorem sc_set {l : List En} {a n : Int} {s : ByteArray} {ns : List ByteArray} : scT l (.mk 2 a s n []) ns = (.mk 2 n [], none) := by simp only [scT]; rfl
open Classical in
theorem nplace_p (l : List ByteArray) (s : ByteArray) : PCalls Tryz.prog 159 [.d (.sl (l.map encD)), .d (.v (.string s))] [] fun p st => p = .d (.v (.int .i64 (Qaw l s l.length))) ∧ st = [] := by
 refine PCalls.flat trivial fun K w vs ha => ?_
 obtain ⟨v, u, rfl, hv, hu⟩ := ha.two
 obtain ⟨rfl, -⟩ := hu.flat
 refine (place_any l s v w w (slc_str hv).1 (Below.refl _ _)).mono ?_
 rintro e w' ⟨rfl, rfl⟩
 exact ⟨rfl, Below.refl _ _⟩
theorem rnplace_p (l : List ByteArray) (s : ByteArray) : PCalls Tryz.prog 152 [.d (.sl (l.map encD)), .d (.v (.string s))] [] fun p st => p = .d (.v (.int .i64 (Qaw l s l.length))) ∧ st = [] := by
 refine PCalls.flat trivial fun K w vs ha => ?_
 obtain ⟨v, u, rfl, hv, hu⟩ := ha.two
 obtain ⟨rfl, -⟩ := hu.flat
 refine (rplace_any l s v w w (slc_str hv).1 (Below.refl _ _)).mono ?_
 rintro e w' ⟨rfl, rfl⟩
 exact ⟨rfl, Below.refl _ _⟩
def scS (i0 : Nat) (l : List En) (σ : Int × Int) : St := [.box i0 157 [.d (.sl (l.map encD)), .d (.v (.int .i64 σ.1)), .d (.v (.int .i64 σ.2))]]
def fsS (e a : Int) (σ : Int × Int) : Int × Int := if σ.1 = 0 then (e, a) else σ
def orS (e : Int) (o : Option Int) (σ : Int × Int) : Int × Int := match o with
 | some a => fsS e a σ
 | none => σ
theorem orS_or (e : Int) (he : e ≠ 0) (o p : Option Int) (σ : Int × Int) : orS e p (orS e o σ) = orS e (o.or p) σ := by
  cases o with
  | none => rfl
  | some a =>
    cases p with
    | none => rfl
    | some b =>
      show fsS e b (fsS e a σ) = fsS e a σ
      unfold fsS
      by_cases h : σ.1 = 0
      · rw [if_pos h, if_neg he]
      · rw [if_neg h, if_neg h]
theorem sfail_p (i0 : Nat) (l : List En) (σ : Int × Int) (e a : Int) : PCalls Tryz.prog 167 [.ptr i0 0, .d (.v (.int .i64 e)), .d (.v (.int .i64 a))] (scS i0 l σ) fun p s => p = .tup [] ∧ s = scS i0 l (fsS e a σ) := by
 unfold scS
 obtain ⟨b, at_⟩ := σ
 by_cases h : b = 0
 ·subst h
  refine pG Tryz.func167 Tryz.ntmps167 ?_
  refine Qaa ?_
  refine Qaa ?_
  refine Jm (st' := scS i0 l (e, a)) (by simp) (by simp only [Tryz.results167]; rfl) (by simp [resP]; rfl) dR ⟨rfl, rfl⟩
 ·have HF := Hh (show fsS e a (b, at_) = (b, at_) by unfold fsS; rw [if_neg h])
  rw [HF.out]
  clear HF
  refine pG Tryz.func167 Tryz.ntmps167 ?_
  refine Jm (st' := scS i0 l (b, at_)) (by simp) (by simp only [Tryz.results167]; rfl) (by simp [resP]; rfl) dR ⟨rfl, rfl⟩
theorem get_str {l : List ByteArray} {k : Nat} (h : k < l.length) : (l.map encD)[k]? = some [D.v (.string l[k])] := by
 rw [List.getElem?_map, List.getElem?_eq_getElem h]; rfl
theorem sfindS_p (i0 : Nat) (l : List En) (σ : Int × Int) (ns : List ByteArray) (hns : ns.length ≤ 1000) (t : Nd) : PCalls Tryz.prog 161 [.ptr i0 0, .d (.sl (ns.map encD)), aggD t] (scS i0 l σ) fun p s => p = aggD (nameT l ns t.name t.at).1 ∧ s = scS i0 l (orS 3 (nameT l ns t.name t.at).2 σ) := by
  obtain ⟨R, hR⟩ : ∃ R, R = nameT l ns t.name t.at := ⟨_, rfl⟩
  rw [← hR]
  have HR := Hh (show R = _ from hR)
  unfold nameT at HR
  clear hR
  have hF := Hh (sfind_p l t.name)
  have hfl := Hh (fun σ a => sfail_p i0 l σ 3 a)
  have hw0 := wr64 (n := (ns.length : Int) - 1) (by omega) (by omega)
  simp only [aggD, Jh, List.map_cons, List.map_nil]
  unfold scS
  refine pG Tryz.func161 Tryz.ntmps161 ?_
  refine Jd ?_
  intro i1 hi1
  try simp only [Ja, Rh, Rg, Jb] at hi1
  refine go_ ?_
  refine Je ?_
  intro i2 hi2
  try simp only [Ja, Rh, Rg, Jb] at hi2
  refine go_ ?_
  refine Qai (ι := Nat) (fun k => k ≤ ns.length ∧ Hid (Qaw ns t.name k = Qaw ns t.name ns.length)) (fun k => [(0, .ptr i0 0), (1, .d (.sl (ns.map encD))), (5, .ptr i1 0), (6, .ptr i2 0), (7, .d (.v (.int .i64 ((k : Int) - 1))))]) (fun _ => [.box i2 26 [.d (.v (.int .i64 0)), .d (.v (.int .i64 0)), .nils], .box i1 68 [.d (.v (.int .i64 t.kind)), .d (.v (.int .i64 t.at)), .d (.v (.string t.name)), .d (.v (.int .i64 t.num)), .d (.sl (t.sub.map encD))], .box i0 157 [.d (.sl (l.map encD)), .d (.v (.int .i64 σ.1)), .d (.v (.int .i64 σ.2))]]) (fun k => k) ns.length ⟨Nat.le_refl _, rfl⟩ ?_ ?_ ?_
  · exact sU
  · exact dR
  · rintro k ⟨hk, hp⟩
    cases k with
    | succ k =>
      have hlt : k < ns.length := hk
      have e : ((k + 1 : Nat) : Int) - 1 = k := by omega
      rw [e]
      have hx := get_str hlt
      have hc : (k : Int) < ns.length := by omega
      have hn : (0 : Int) ≤ k := by omega
      have hin := wr64 (n := (k : Int) - 1) (by omega) (by omega)
      have hst : Hid (Qaw ns t.name ns.length = if (ns[k].toList == t.name.toList) = true then (k : Int) else Qaw ns t.name k) := by
        show _ = _
        rw [← hp.out, Qaw, Qhf ns t.name k hlt]
      clear hp
      cases hq : (ns[k].toList == t.name.toList) with
      | true =>
        have hpk : Qaw ns t.name ns.length = k := by rw [hst.out, if_pos hq]
        have hRv : Hid (R = (.mk 1 ((ns.length : Int) - 1 - k) [], none)) := by
          show _ = _
          rw [show R = _ from HR.out, hpk, if_pos (by omega)]
        rw [hRv.out]
        have hv := Hh (tmVar_p ((ns.length : Int) - 1 - k))
        have hw1 := wr64 (n := (ns.length : Int) - 1 - k) (by omega) (by omega)
        simp only [aggD, Jl, List.map_cons, List.map_nil, Jv, Jw, Jx] at hv ⊢
        clear hpk hst HR hF hfl hRv
        refine go_ ?_
        refine Qal [(0, .a), (1, .a), (2, .a), (3, .a), (4, .a), (5, .b), (6, .a)] (by kernel_rfl) (by rfl) (by kernel_rfl) ?_
        refine go_ ?_
        refine Qab (hv.out) ?_
        refine Qaa ?_
        refine rS (st' := [.box i0 157 [.d (.sl (l.map encD)), .d (.v (.int .i64 σ.1)), .d (.v (.int .i64 σ.2))]]) Tryz.results161 ?_
        exact ⟨rfl, rfl⟩
      | false =>
        have hp2 : Hid (Qaw ns t.name k = Qaw ns t.name ns.length) := by show _ = _; rw [hst.out, if_neg (by rw [hq]; decide)]
        clear hst
        refine go_ ?_
        refine Qal [(0, .a), (1, .a), (2, .a), (3, .a), (4, .a), (5, .b), (6, .a)] (by kernel_rfl) (by rfl) (by kernel_rfl) ?_
        refine go_ ?_
        exact ⟨k, ⟨by omega, hp2⟩, by omega, sU, dR⟩
    | zero =>
      have hpm : Qaw ns t.name ns.length = -1 := by rw [← hp.out]; rfl
      have HR2 : Hid (R = match Qeq t.name l 0 with | some c => (.mk 6 c [], none) | none => (.mk 6 0 [], some t.at)) := by
        show _ = _
        rw [show R = _ from HR.out, hpm, if_neg (by omega)]
        try (cases Qeq t.name l 0 <;> rfl)
      have e : ((0 : Nat) : Int) - 1 = -1 := by omega
      rw [e]
      clear HR hp hpm
      cases hfd : Qeq t.name l 0 with
      | some c =>
        rw [hfd] at HR2 hF
        have hRv : Hid (R = (.mk 6 c [], none)) := HR2.out
        rw [hRv.out]
        unfold findP at hF
        have hv := Hh (tmConst_p c)
        simp only [aggD, Jl, List.map_cons, List.map_nil, Jv, Jw, Jx] at hv ⊢
        clear HR2 hfl hRv hfd
        refine go_ ?_
        refine Qal [(0, .a), (1, .a), (2, .a), (3, .b), (4, .a), (5, .b), (6, .a), (7, .a), (8, .a), (9, .a), (10, .a), (11, .a)] (by kernel_rfl) (by rfl) (by kernel_rfl) ?_
        refine go_ ?_
        refine Qac (hF.out) ?_
        refine go_ ?_
        refine Qab (hv.out) ?_
        refine Qaa ?_
        refine rS (st' := [.box i0 157 [.d (.sl (l.map encD)), .d (.v (.int .i64 σ.1)), .d (.v (.int .i64 σ.2))]]) Tryz.results161 ?_
        exact ⟨rfl, rfl⟩
      | none =>
        rw [hfd] at HR2 hF
        have hRv : Hid (R = (.mk 6 0 [], some t.at)) := HR2.out
        rw [hRv.out]
        unfold findP at hF
        have hv := Hh (tmConst_p 0)
        simp only [aggD, Jl, List.map_cons, List.map_nil, Jv, Jw, Jx] at hv ⊢
        have hf2 := hfl.out σ t.at
        unfold scS at hf2
        have hf2 := Hh hf2
        clear HR2 hfl hRv hfd
        refine go_ ?_
        refine Qal [(0, .a), (1, .a), (2, .a), (3, .b), (4, .a), (5, .b), (6, .a), (7, .a), (8, .a), (9, .a), (10, .a), (11, .a)] (by kernel_rfl) (by rfl) (by kernel_rfl) ?_
        refine go_ ?_
        refine Qac (hF.out) ?_
        refine go_ ?_
        refine Re 2 1 (hf2.out) ?_
        rintro _ _ ⟨rfl, rfl⟩
        simp only [List.cons_append, List.nil_append, List.append_nil, Ja, Rh, Rg]
        refine go_ ?_
        refine Qab (hv.out) ?_
        refine Qaa ?_
        refine rS (st' := [.box i0 157 [.d (.sl (l.map encD)), .d (.v (.int .i64 (fsS 3 t.at σ).1)), .d (.v (.int .i64 (fsS 3 t.at σ).2))]]) Tryz.results161 ?_
        exact ⟨rfl, rfl⟩
theorem hg_two (k a n : Int) (s : ByteArray) (x y : Nd) : hgT x + 1 ≤ hgT (.mk k a s n [x, y]) ∧ hgT y + 1 ≤ hgT (.mk k a s n [x, y]) := by
 simp only [hgT, hgL]; omega
theorem sterm_p (l : List En) : ∀ (t : Nd) (ns : List ByteArray) (i0 : Nat) (σ : Int × Int), Qcf t false = true → ns.length + hgT t ≤ 900 → PCalls Tryz.prog 104 [.ptr i0 0, .d (.sl (ns.map encD)), aggD t] (scS i0 l σ) fun p s => p = aggD (scT l t ns).1 ∧ s = scS i0 l (orS 3 (scT l t ns).2 σ) := by
 refine Nd.ind ?_
 intro k a s n sub ih ns i0 σ hg hh
 rcases ex_cases hg with ⟨rfl, rfl⟩ | ⟨rfl, rfl, h0, h7⟩ | ⟨x, y, hk, rfl, gx, gy⟩
 ·have hc := sfindS_p i0 l σ ns (by omega) (.mk 1 a s n [])
  rw [sc_name]
  simp only [Nd.name, Nd.at] at hc
  generalize nameT l ns s a = R at *
  simp only [aggD, Jh, List.map_cons, List.map_nil, Nd.kind, Nd.at, Nd.name, Nd.num, Nd.sub] at hc ⊢
  simp only [Jl, List.map_cons, List.map_nil] at hc ⊢
  unfold scS at hc ⊢
  have HC := Hh hc
  clear hc ih hg
  refine pG Tryz.func104 Tryz.ntmps104 ?_
  refine Jd ?_
  intro i1 hi1
  try simp only [Ja, Rh, Rg, Jb] at hi1
  refine go_ ?_
  refine Je ?_
  intro i2 hi2
  try simp only [Ja, Rh, Rg, Jb] at hi2
  refine go_ ?_
  refine Re 2 1 (HC.out) ?_
  rintro _ _ ⟨rfl, rfl⟩
  simp only [List.cons_append, List.nil_append, List.append_nil, Ja, Rh, Rg]
  refine go_ ?_
  refine Qaa ?_
  refine rS (st' := [.box i0 157 [.d (.sl (l.map encD)), .d (.v (.int .i64 (orS 3 R.2 σ).1)), .d (.v (.int .i64 (orS 3 R.2 σ).2))]]) Tryz.results104 ?_
  exact ⟨rfl, rfl⟩
 ·rw [sc_set]
  have hc := Hh (tsort_p n)
  simp only [aggD, Jh, Jl, List.map_cons, List.map_nil, Nd.kind, Nd.at, Nd.name, Nd.num, Nd.sub, Jv, Jw, Jx] at hc ⊢
  unfold scS
  clear ih hg
  refine pG Tryz.func104 Tryz.ntmps104 ?_
  refine Jd ?_
  intro i1 hi1
  try simp only [Ja, Rh, Rg, Jb] at hi1
  refine go_ ?_
  refine Je ?_
  intro i2 hi2
  try simp only [Ja, Rh, Rg, Jb] at hi2
  refine go_ ?_
  refine Qab (hc.out) ?_
  refine Qaa ?_
  refine rS (st' := [.box i0 157 [.d (.sl (l.map encD)), .d (.v (.int .i64 σ.1)), .d (.v (.int .i64 σ.2))]]) Tryz.results104 ?_
  exact ⟨rfl, rfl⟩
 ·rw [sc_two hk]
  obtain ⟨q1, q2⟩ := hg_two k a n s x y
  have c1 := ih x (by simp) ns i0 σ gx (by omega)
  have hinn : (innE k s ns).length ≤ ns.length + 1 := by
   unfold innE
   split
   ·omega
   ·rw [List.length_append, List.length_singleton]; omega
  have c2 := ih y (by simp) (innE k s ns) i0 (orS 3 (scT l x ns).2 σ) gy (by omega)
  rw [orS_or 3 (by decide)] at c2
  have hA : ns.map encD ++ [[D.v (.string s)]] = (ns ++ [s]).map encD := by rw [List.map_append]; rfl
  have HA := Hh hA
  have hlen : ns.length ≤ 900 := by omega
  clear ih hg hA hh q1 q2 hinn
  generalize scT l x ns = X at *
  generalize hY : scT l y (innE k s ns) = Y at *
  clear hY
  have H3 := Hh (tmPi_p X.1 Y.1)
  have H4 := Hh (tmLam_p X.1 Y.1)
  have H5 := Hh (tmApp_p X.1 Y.1)
  simp only [aggD, Jh, List.map_cons, List.map_nil, Nd.kind, Nd.at, Nd.name, Nd.num, Nd.sub] at c1 c2 ⊢
  simp only [aggD, Jl, List.map_cons, List.map_nil, Jv, Jw, Jx] at c1 c2 H3 H4 H5 ⊢
  unfold scS at c1 c2 ⊢
  have C1 := Hh c1
  have C2 := Hh c2
  clear c1 c2
  rcases hk with rfl | rfl | rfl
  ·have hi : innE 3 s ns = ns ++ [s] := rfl
   rw [hi] at C2
   rw [show kndE 3 = 3 from rfl]
   refine pG Tryz.func104 Tryz.ntmps104 ?_
   refine Jd ?_
   intro i1 hi1
   try simp only [Ja, Rh, Rg, Jb] at hi1
   refine go_ ?_
   refine Je ?_
   intro i2 hi2
   try simp only [Ja, Rh, Rg, Jb] at hi2
   refine go_ ?_
   refine Re 2 1 (C1.out) ?_
   rintro _ _ ⟨rfl, rfl⟩
   simp only [List.cons_append, List.nil_append, List.append_nil, Ja, Rh, Rg]
   refine go_ ?_
   refine Je ?_
   intro i3 hi3
   try simp only [Ja, Rh, Rg, Jb] at hi3
   refine go_ ?_
   refine Qaa ?_
   refine Qal [(0, .a), (1, .a), (2, .a), (3, .a), (4, .a), (5, .a), (6, .a), (7, .b), (8, .a), (9, .e), (10, .a)] (by kernel_rfl) (by rfl) (by kernel_rfl) ?_
   refine go_ ?_
   refine Qnt ?_ (Qel _)
   refine go_ ?_
   refine Qcc ?_
   refine go_ ?_
   refine Qmz ?_ ?_ ?_ ?_ ?_ ?_
   rotate_left
   ·exact Qel _
   ·exact Qbt rfl
   ·simp
   ·simp [maxLen]; omega
   ·simp; omega
   rw [HA.out]
   refine go_ ?_
   refine Re 3 1 (C2.out) ?_
   rintro _ _ ⟨rfl, rfl⟩
   simp only [List.cons_append, List.nil_append, List.append_nil, Ja, Rh, Rg]
   refine go_ ?_
   refine Je ?_
   intro i4 hi4
   try simp only [Ja, Rh, Rg, Jb] at hi4
   refine go_ ?_
   refine Qaa ?_
   refine Qab (H3.out) ?_
   refine Qaa ?_
   refine rS (st' := [.box i0 157 [.d (.sl (l.map encD)), .d (.v (.int .i64 (orS 3 (X.2.or Y.2) σ).1)), .d (.v (.int .i64 (orS 3 (X.2.or Y.2) σ).2))]]) Tryz.results104 ?_
   exact ⟨rfl, rfl⟩
  ·have hi : innE 4 s ns = ns ++ [s] := rfl
   rw [hi] at C2
   rw [show kndE 4 = 4 from rfl]
   refine pG Tryz.func104 Tryz.ntmps104 ?_
   refine Jd ?_
   intro i1 hi1
   try simp only [Ja, Rh, Rg, Jb] at hi1
   refine go_ ?_
   refine Je ?_
   intro i2 hi2
   try simp only [Ja, Rh, Rg, Jb] at hi2
   refine go_ ?_
   refine Re 2 1 (C1.out) ?_
   rintro _ _ ⟨rfl, rfl⟩
   simp only [List.cons_append, List.nil_append, List.append_nil, Ja, Rh, Rg]
   refine go_ ?_
   refine Je ?_
   intro i3 hi3
   try simp only [Ja, Rh, Rg, Jb] at hi3
   refine go_ ?_
   refine Qaa ?_
   refine Qal [(0, .a), (1, .a), (2, .a), (3, .a), (4, .a), (5, .a), (6, .a), (7, .b), (8, .a), (9, .e), (10, .a)] (by kernel_rfl) (by rfl) (by kernel_rfl) ?_
   refine go_ ?_
   refine Qnt ?_ (Qel _)
   refine go_ ?_
   refine Qcc ?_
   refine go_ ?_
   refine Qmz ?_ ?_ ?_ ?_ ?_ ?_
   rotate_left
   ·exact Qel _
   ·exact Qbt rfl
   ·simp
   ·simp [maxLen]; omega
   ·simp; omega
   rw [HA.out]
   refine go_ ?_
   refine Re 3 1 (C2.out) ?_
   rintro _ _ ⟨rfl, rfl⟩
   simp only [List.cons_append, List.nil_append, List.append_nil, Ja, Rh, Rg]
   refine go_ ?_
   refine Je ?_
   intro i4 hi4
   try simp only [Ja, Rh, Rg, Jb] at hi4
   refine go_ ?_
   refine Qaa ?_
   refine Qab (H4.out) ?_
   refine Qaa ?_
   refine rS (st' := [.box i0 157 [.d (.sl (l.map encD)), .d (.v (.int .i64 (orS 3 (X.2.or Y.2) σ).1)), .d (.v (.int .i64 (orS 3 (X.2.or Y.2) σ).2))]]) Tryz.results104 ?_
   exact ⟨rfl, rfl⟩
  ·have hi : innE 5 s ns = ns := rfl
   rw [hi] at C2
   rw [show kndE 5 = 5 from rfl]
   refine pG Tryz.func104 Tryz.ntmps104 ?_
   refine Jd ?_
   intro i1 hi1
   try simp only [Ja, Rh, Rg, Jb] at hi1
   refine go_ ?_
   refine Je ?_
   intro i2 hi2
   try simp only [Ja, Rh, Rg, Jb] at hi2
   refine go_ ?_
   refine Re 2 1 (C1.out) ?_
   rintro _ _ ⟨rfl, rfl⟩
   simp only [List.cons_append, List.nil_append, List.append_nil, Ja, Rh, Rg]
   refine go_ ?_
   refine Je ?_
   intro i3 hi3
   try simp only [Ja, Rh, Rg, Jb] at hi3
   refine go_ ?_
   refine Qaa ?_
   refine Re 3 1 (C2.out) ?_
   rintro _ _ ⟨rfl, rfl⟩
   simp only [List.cons_append, List.nil_append, List.append_nil, Ja, Rh, Rg]
   refine go_ ?_
   refine Je ?_
   intro i4 hi4
   try simp only [Ja, Rh, Rg, Jb] at hi4
   refine go_ ?_
   refine Qaa ?_
   refine Qab (H5.out) ?_
   refine Qaa ?_
   refine rS (st' := [.box i0 157 [.d (.sl (l.map encD)), .d (.v (.int .i64 (orS 3 (X.2.or Y.2) σ).1)), .d (.v (.int .i64 (orS 3 (X.2.or Y.2) σ).2))]]) Tryz.results104 ?_
   exact ⟨rfl, rfl⟩
def namB (s : ByteArray) : Bool := s.toList == [95] || Qam s
noncomputable def chkE (l : List En) (ns : List ByteArray) : Int := if (ns.all namB && formedB l) = true then (if 24 < ns.length then 2 else 0) else 5
theorem snamed_p (ns : List ByteArray) : PCalls Tryz.prog 160 [.d (.sl (ns.map encD))] [] fun p s => p = .d (.v (.bool (ns.all namB))) ∧ s = [] := by
  obtain ⟨R, hR⟩ : ∃ R, R = ns.all namB := ⟨_, rfl⟩
  rw [← hR]
  have HR : Hid (R = (ns.drop 0).all namB) := hR
  clear hR
  refine pE Tryz.func160 Tryz.ntmps160 ?_
  refine Qfa (t := 0) (rows := ns.map encD) (by simp [PF.get] <;> rfl) rfl fun hml => ?_
  rw [List.length_map] at hml
  unfold maxLen at hml
  refine go_ ?_
  refine Qai (ι := Nat) (fun y => y ≤ ns.length ∧ Hid (R = (ns.drop y).all namB)) (fun y => [(5, .d (.sl (ns.map encD))), (6, .d (.v (.int .i64 ns.length))), (7, .d (.v (.int .i64 (y : Int))))]) (fun _ => []) (fun y => ns.length - y) 0 ⟨Nat.zero_le _, HR.out⟩ ?_ ?_ ?_
  · exact sU
  · exact dR
  · rintro j ⟨hj, hR⟩
    clear HR
    by_cases hlt : j < ns.length
    · have hx := get_str hlt
      have hc : (j : Int) < ns.length := by omega
      have hn : (0 : Int) ≤ j := by omega
      have hin := wr64 (n := (j : Int) + 1) (by omega) (by omega)
      have hR2 : Hid (R = (namB ns[j] && (ns.drop (j + 1)).all namB)) := by
        show _ = _; rw [show R = _ from hR.out, List.drop_eq_getElem_cons hlt, List.all_cons]
      have hc1 := Hh (Qkv ns[j])
      unfold namB at hR2
      clear hR
      generalize Qam ns[j] = q at *
      cases hu : (ns[j].toList == [95]) with
      | true =>
        rw [hu, Bool.true_or, Bool.true_and] at hR2
        refine go_ ?_
        exact ⟨j + 1, ⟨hlt, hR2⟩, by omega, sU, dR⟩
      | false =>
        rw [hu, Bool.false_or] at hR2
        refine go_ ?_
        refine Jr (hc1.out) ?_
        cases q with
        | false =>
          have hf : Hid (R = false) := by show _ = _; rw [show R = _ from hR2.out]; rfl
          refine go_ ?_
          refine rT Tryz.results160 ?_
          exact ⟨by rw [hf.out]; rfl, rfl⟩
        | true =>
          rw [Bool.true_and] at hR2
          refine go_ ?_
          exact ⟨j + 1, ⟨hlt, hR2⟩, by omega, sU, dR⟩
    · have hc : ¬ (j : Int) < ns.length := by omega
      have hf : Hid (R = true) := by show _ = _; rw [show R = _ from hR.out, List.drop_of_length_le (by omega)]; rfl
      refine go_ ?_
      refine rT Tryz.results160 ?_
      exact ⟨by rw [hf.out]; rfl, rfl⟩
theorem scheck_p (l : List En) (ns : List ByteArray) (ho : ∀ e ∈ l, EnOk e) : PCalls Tryz.prog 103 [.d (.sl (l.map encD)), .d (.sl (ns.map encD))] [] fun p s => p = .d (.v (.int .i64 (chkE l ns))) ∧ s = [] := by
  obtain ⟨R, hR⟩ : ∃ R, R = chkE l ns := ⟨_, rfl⟩
  rw [← hR]
  unfold chkE at hR
  have HR := Hh hR
  have H1 := Hh (snamed_p ns)
  have H2 := Hh (sformed_p l ho)
  clear hR ho
  generalize ns.all namB = a at *
  generalize formedB l = b at *
  cases a with
  | false =>
    have hf : Hid (R = 5) := HR.out
    refine pG Tryz.func103 Tryz.ntmps103 ?_
    refine Qab (H1.out) ?_
    refine rT Tryz.results103 ?_
    exact ⟨by rw [hf.out]; rfl, rfl⟩
  | true =>
    cases b with
    | false =>
      have hf : Hid (R = 5) := HR.out
      refine pG Tryz.func103 Tryz.ntmps103 ?_
      refine Qab (H1.out) ?_
      refine Qad (H2.out) ?_
      refine rT Tryz.results103 ?_
      exact ⟨by rw [hf.out]; rfl, rfl⟩
    | true =>
      by_cases hn : 24 < ns.length
      · have hf : Hid (R = 2) := by show _ = _; rw [show R = _ from HR.out]; simp [hn]
        have hn2 : (24 : Int) < ns.length := by omega
        clear HR hn
        refine pG Tryz.func103 Tryz.ntmps103 ?_
        refine Qab (H1.out) ?_
        refine Qad (H2.out) ?_
        refine rT Tryz.results103 ?_
        exact ⟨by rw [hf.out]; rfl, rfl⟩
      · have hf : Hid (R = 0) := by show _ = _; rw [show R = _ from HR.out]; simp [hn]
        have hn2 : ¬ (24 : Int) < ns.length := by omega
        clear HR hn
        refine pG Tryz.func103 Tryz.ntmps103 ?_
        refine Qab (H1.out) ?_
        refine Qad (H2.out) ?_
        refine rT Tryz.results103 ?_
        exact ⟨by rw [hf.out]; rfl, rfl⟩
theorem exB_good {t : Nd} (h : Qex t = true) : Qcf t false = true := by unfold Qex at h; simp only [Bool.and_eq_true] at h; exact h.2
theorem exB_hg {t : Nd} (h : Qex t = true) : hgT t ≤ 128 := by
 unfold Qex Qft at h
 simp only [Bool.and_eq_true, decide_eq_true_eq] at h
 have h1 := h.1
 unfold Qdc at h1
 split at h1
 ·omega
 ·have := dp_hg t 1 (by omega) (by omega)
  omega
def zeT : Tm := .mk 0 0 []
noncomputable def stA (l : List En) (ns : List ByteArray) (t : Nd) : Tm × Int × Int :=
 if Qex t = true then (if chkE l ns = 0 then (match (scT l t ns).2 with | some a => (zeT, a, 3) | none => if Qak (scT l t ns).1 = true then ((scT l t ns).1, 0, 0) else (zeT, 0, 2)) else (zeT, 0, chkE l ns)) else (zeT, 0, 5)
def stP (x : Tm × Int × Int) : PV := .tup [aggD x.1, .d (.v (.int .i64 x.2.1)), .d (.v (.int .i64 x.2.2))]
theorem chk_len {l : List En} {ns : List ByteArray} (h : chkE l ns = 0) : ns.length ≤ 24 ∧ formedB l = true := by
 unfold chkE at h
 split at h
 ·rename_i h1
  simp only [Bool.and_eq_true] at h1
  split at h
  ·omega
  ·exact ⟨by omega, h1.2⟩
 ·omega
theorem sTerm_p (l : List En) (ns : List ByteArray) (t : Nd) (ho : ∀ e ∈ l, EnOk e) : PCalls Tryz.prog 52 [.d (.sl (l.map encD)), .d (.sl (ns.map encD)), aggD t] [] fun p s => p = stP (stA l ns t) ∧ s = [] := by
  have hE := Hh (texpr_p t)
  have hC := Hh (scheck_p l ns ho)
  have hT := fun (h1 : Qex t = true) (h2 : chkE l ns = 0) (i0 : Nat) => sterm_p l t ns i0 (0, 0) (exB_good h1) (by have := exB_hg h1; have := (chk_len h2).1; omega)
  have hS := Hh (Qie (scT l t ns).1)
  obtain ⟨R, hR⟩ : ∃ R, R = stA l ns t := ⟨_, rfl⟩
  rw [← hR]
  unfold stA at hR
  have HR := Hh hR
  have HT := Hh hT
  clear hR hT ho
  generalize Qex t = ex at *
  generalize chkE l ns = ck at *
  generalize scT l t ns = X at *
  generalize Qak X.1 = sh at *
  simp only [aggD, Jh, Jl, List.map_cons, List.map_nil] at hE HT hS ⊢
  cases ex with
  | false =>
    have hf : Hid (R = (zeT, 0, 5)) := HR.out
    rw [hf.out]
    unfold zeT stP
    simp only [aggD, Jl, List.map_cons, List.map_nil, Jv, Jw, Jx]
    clear HR hf HT hS hC
    refine pG Tryz.func52 Tryz.ntmps52 ?_
    refine Jd ?_
    intro i5 hi5
    try simp only [Ja, Rh, Rg, Jb] at hi5
    refine go_ ?_
    refine Je ?_
    intro i6 hi6
    try simp only [Ja, Rh, Rg, Jb] at hi6
    refine go_ ?_
    refine Qab (hE.out) ?_
    refine Qaa ?_
    refine rT Tryz.results52 ?_
    exact ⟨rfl, rfl⟩
  | true =>
  by_cases hck : ck = 0
  rotate_left
  · have hf : Hid (R = (zeT, 0, ck)) := by show _ = _; rw [show R = _ from HR.out, if_pos rfl, if_neg hck]
    rw [hf.out]
    unfold zeT stP
    simp only [aggD, Jl, List.map_cons, List.map_nil, Jv, Jw, Jx]
    clear HR hf HT hS
    refine pG Tryz.func52 Tryz.ntmps52 ?_
    refine Jd ?_
    intro i5 hi5
    try simp only [Ja, Rh, Rg, Jb] at hi5
    refine go_ ?_
    refine Je ?_
    intro i6 hi6
    try simp only [Ja, Rh, Rg, Jb] at hi6
    refine go_ ?_
    refine Qab (hE.out) ?_
    refine Qab (hC.out) ?_
    refine Qaa ?_
    refine rT Tryz.results52 ?_
    exact ⟨rfl, rfl⟩
  subst hck
  have hTT := HT.out rfl rfl
  clear HT
  obtain ⟨T, o⟩ := X
  simp only at hTT hS HR
  unfold scS at hTT
  cases o with
  | some a =>
    have hf : Hid (R = (zeT, a, 3)) := by show _ = _; rw [show R = _ from HR.out]; rfl
    rw [hf.out]
    have HT := Hh hTT
    unfold zeT stP
    simp only [aggD, Jl, List.map_cons, List.map_nil, Jv, Jw, Jx, orS, fsS, if_true] at HT ⊢
    clear HR hf hS hTT
    refine pG Tryz.func52 Tryz.ntmps52 ?_
    refine Jd ?_
    intro i5 hi5
    try simp only [Ja, Rh, Rg, Jb] at hi5
    refine go_ ?_
    refine Je ?_
    intro i6 hi6
    try simp only [Ja, Rh, Rg, Jb] at hi6
    refine go_ ?_
    refine Qab (hE.out) ?_
    refine Qab (hC.out) ?_
    refine Jd ?_
    intro i7 hi7
    try simp only [Ja, Rh, Rg, Jb] at hi7
    refine go_ ?_
    refine Re 0 1 (HT.out i7) ?_
    rintro _ _ ⟨rfl, rfl⟩
    simp only [List.cons_append, List.nil_append, List.append_nil, Ja, Rh, Rg]
    refine go_ ?_
    refine Je ?_
    intro i8 hi8
    try simp only [Ja, Rh, Rg, Jb] at hi8
    refine go_ ?_
    refine Qaa ?_
    refine Qfu (J := Qcm [(i7, _)]) [(0, .a), (1, .a), (2, .a), (3, .a), (4, .a), (5, .a), (6, .a), (7, .a), (8, .a), (9, .e), (10, .a), (11, .a)] (by kernel_rfl) (by rfl) (by kernel_rfl) (by (repeat (first | exact Qat _ | refine Ju (by simp [St.box?, *] <;> rfl) ?_))) ?_
    refine lG ?_
    refine PLs ?_
    refine lG ?_
    refine go_ ?_
    refine rT Tryz.results52 ?_
    exact ⟨rfl, rfl⟩
  | none =>
    have HT := Hh hTT
    simp only [orS] at HT
    cases sh with
    | false =>
      have hf : Hid (R = (zeT, 0, 2)) := by show _ = _; rw [show R = _ from HR.out]; rfl
      rw [hf.out]
      unfold zeT stP
      simp only [aggD, Jl, List.map_cons, List.map_nil, Jv, Jw, Jx]
      clear HR hf hTT
      refine pG Tryz.func52 Tryz.ntmps52 ?_
      refine Jd ?_
      intro i5 hi5
      try simp only [Ja, Rh, Rg, Jb] at hi5
      refine go_ ?_
      refine Je ?_
      intro i6 hi6
      try simp only [Ja, Rh, Rg, Jb] at hi6
      refine go_ ?_
      refine Qab (hE.out) ?_
      refine Qab (hC.out) ?_
      refine Jd ?_
      intro i7 hi7
      try simp only [Ja, Rh, Rg, Jb] at hi7
      refine go_ ?_
      refine Re 0 1 (HT.out i7) ?_
      rintro _ _ ⟨rfl, rfl⟩
      simp only [List.cons_append, List.nil_append, List.append_nil, Ja, Rh, Rg]
      refine go_ ?_
      refine Je ?_
      intro i8 hi8
      try simp only [Ja, Rh, Rg, Jb] at hi8
      refine go_ ?_
      refine Qaa ?_
      refine Qab (hS.out) ?_
      refine Qaa ?_
      refine rT Tryz.results52 ?_
      exact ⟨rfl, rfl⟩
    | true =>
      have hf : Hid (R = (T, 0, 0)) := by show _ = _; rw [show R = _ from HR.out]; rfl
      rw [hf.out]
      unfold stP
      simp only [aggD, Jl, List.map_cons, List.map_nil]
      clear HR hf hTT
      refine pG Tryz.func52 Tryz.ntmps52 ?_
      refine Jd ?_
      intro i5 hi5
      try simp only [Ja, Rh, Rg, Jb] at hi5
      refine go_ ?_
      refine Je ?_
      intro i6 hi6
      try simp only [Ja, Rh, Rg, Jb] at hi6
      refine go_ ?_
      refine Qab (hE.out) ?_
      refine Qab (hC.out) ?_
      refine Jd ?_
      intro i7 hi7
      try simp only [Ja, Rh, Rg, Jb] at hi7
      refine go_ ?_
      refine Re 0 1 (HT.out i7) ?_
      rintro _ _ ⟨rfl, rfl⟩
      simp only [List.cons_append, List.nil_append, List.append_nil, Ja, Rh, Rg]
      refine go_ ?_
      refine Je ?_
      intro i8 hi8
      try simp only [Ja, Rh, Rg, Jb] at hi8
      refine go_ ?_
      refine Qaa ?_
      refine Qab (hS.out) ?_
      refine Qaa ?_
      refine rT Tryz.results52 ?_
      exact ⟨rfl, rfl⟩
theorem agg_mkI (k a n : Int) (s : ByteArray) (sub : List Nd) : aggD (Nd.mk k a s n sub) = .agg [.d (.v (.int .i64 k)), .d (.v (.int .i64 a)), .d (.v (.string s)), .d (.v (.int .i64 n)), .d (.sl (sub.map encD))] := by
 unfold aggD; rw [Jh]; rfl
def findI (o : Option Nat) : Int := match o with | some c => c | none => -1
theorem rfindI_p (l : List En) (s : ByteArray) : PCalls Tryz.prog 148 [.d (.sl (l.map encD)), .d (.v (.string s))] [] fun p st => p = .d (.v (.int .i64 (findI (Qeq s l 0)))) ∧ st = [] := by
  obtain ⟨R, hR⟩ : ∃ R, R = Qeq s l 0 := ⟨_, rfl⟩
  rw [← hR]
  have HR : Hid (R = Qeq s (l.drop 0) 0) := hR
  clear hR
  refine pE Tryz.func148 Tryz.ntmps148 ?_
  refine Qfa (t := 0) (rows := l.map encD) (by simp [PF.get] <;> rfl) rfl fun hml => ?_
  rw [List.length_map] at hml
  unfold maxLen at hml
  refine go_ ?_
  refine Qai (ι := Nat) (fun y => y ≤ l.length ∧ Hid (R = Qeq s (l.drop y) y)) (fun y => [(0, .d (.sl (l.map encD))), (1, .d (.v (.string s))), (5, .d (.v (.int .i64 (y : Int))))]) (fun _ => []) (fun y => l.length - y) 0 ⟨Nat.zero_le _, HR.out⟩ ?_ ?_ ?_
  · exact sU
  · exact dR
  · rintro j ⟨hj, hR⟩
    clear HR
    by_cases hlt : j < l.length
    · have hx := Qaq hlt
      have hc : (j : Int) < l.length := by omega
      have hn : (0 : Int) ≤ j := by omega
      have hin := wr64 (n := (j : Int) + 1) (by omega) (by omega)
      have hR2 : Hid (R = if (l[j].name.toList == s.toList) = true then some j else Qeq s (l.drop (j + 1)) (j + 1)) := by
        rw [show R = _ from hR.out, List.drop_eq_getElem_cons hlt]; rfl
      clear hR
      cases hq : (l[j].name.toList == s.toList) with
      | true =>
        have hf : Hid (R = some j) := by show _ = _; rw [show R = _ from hR2.out, hq]; rfl
        clear hR2
        refine go_ ?_
        refine rT Tryz.results148 ?_
        exact ⟨by rw [hf.out]; rfl, rfl⟩
      | false =>
        have hR3 : Hid (R = Qeq s (l.drop (j + 1)) (j + 1)) := by show _ = _; rw [show R = _ from hR2.out, hq]; rfl
        clear hR2
        refine go_ ?_
        exact ⟨j + 1, ⟨hlt, hR3⟩, by omega, sU, dR⟩
    · have hc : ¬ (j : Int) < l.length := by omega
      have hf : Hid (R = none) := by rw [show R = _ from hR.out, List.drop_of_length_le (by omega)]; rfl
      refine go_ ?_
      refine rT Tryz.results148 ?_
      exact ⟨by rw [hf.out]; rfl, rfl⟩
theorem rchk_p (l : List En) (ns : List ByteArray) (ho : ∀ e ∈ l, EnOk e) : PCalls Tryz.prog 106 [.d (.sl (l.map encD)), .d (.sl (ns.map encD))] [] fun p s => p = .d (.v (.int .i64 (chkE l ns))) ∧ s = [] := by
  obtain ⟨R, hR⟩ : ∃ R, R = chkE l ns := ⟨_, rfl⟩
  rw [← hR]
  have hF := rformed_p l ho
  rw [← formed_eq] at hF
  have H2 := Hh hF
  have HR : Hid (R = if ((ns.drop 0).all namB && formedB l) = true then (if 24 < ns.length then 2 else 0) else 5) := hR
  clear hR ho hF
  generalize formedB l = b at *
  refine pE Tryz.func106 Tryz.ntmps106 ?_
  refine Qfa (t := 1) (rows := ns.map encD) (by simp [PF.get] <;> rfl) rfl fun hml => ?_
  rw [List.length_map] at hml
  unfold maxLen at hml
  refine go_ ?_
  refine Qai (ι := Nat) (fun y => y ≤ ns.length ∧ Hid (R = if ((ns.drop y).all namB && b) = true then (if 24 < ns.length then 2 else 0) else 5)) (fun y => [(0, .d (.sl (l.map encD))), (1, .d (.sl (ns.map encD))), (5, .d (.v (.int .i64 (y : Int))))]) (fun _ => []) (fun y => ns.length - y) 0 ⟨Nat.zero_le _, HR.out⟩ ?_ ?_ ?_
  · exact sU
  · exact dR
  · rintro j ⟨hj, hR⟩
    clear HR
    by_cases hlt : j < ns.length
    · have hx := get_str hlt
      have hc : (j : Int) < ns.length := by omega
      have hn : (0 : Int) ≤ j := by omega
      have hin := wr64 (n := (j : Int) + 1) (by omega) (by omega)
      have hR2 : Hid (R = if ((namB ns[j] && (ns.drop (j + 1)).all namB) && b) = true then (if 24 < ns.length then 2 else 0) else 5) := by
        show _ = _; rw [show R = _ from hR.out, List.drop_eq_getElem_cons hlt, List.all_cons]
      have hc1 := Hh (Qjv ns[j])
      unfold namB at hR2
      clear hR
      generalize Qam ns[j] = q at *
      cases hu : (ns[j].toList == [95]) with
      | true =>
        rw [hu, Bool.true_or, Bool.true_and] at hR2
        refine go_ ?_
        exact ⟨j + 1, ⟨hlt, hR2⟩, by omega, sU, dR⟩
      | false =>
        rw [hu, Bool.false_or] at hR2
        refine go_ ?_
        refine Jr (hc1.out) ?_
        cases q with
        | false =>
          have hf : Hid (R = 5) := by show _ = _; rw [show R = _ from hR2.out]; rfl
          refine go_ ?_
          refine rT Tryz.results106 ?_
          exact ⟨by rw [hf.out]; rfl, rfl⟩
        | true =>
          rw [Bool.true_and] at hR2
          refine go_ ?_
          exact ⟨j + 1, ⟨hlt, hR2⟩, by omega, sU, dR⟩
    · have hc : ¬ (j : Int) < ns.length := by omega
      have hR2 : Hid (R = if b = true then (if 24 < ns.length then 2 else 0) else 5) := by show _ = _; rw [show R = _ from hR.out, List.drop_of_length_le (by omega)]; rfl
      clear hR
      cases b with
      | false =>
        have hf : Hid (R = 5) := by show _ = _; rw [show R = _ from hR2.out]; rfl
        refine go_ ?_
        refine Qab (H2.out) ?_
        refine rT Tryz.results106 ?_
        exact ⟨by rw [hf.out]; rfl, rfl⟩
      | true =>
        by_cases h24 : 24 < ns.length
        · have hf : Hid (R = 2) := by show _ = _; rw [show R = _ from hR2.out, if_pos rfl, if_pos h24]
          have hn2 : (24 : Int) < ns.length := by omega
          clear hR2 h24
          refine go_ ?_
          refine Qab (H2.out) ?_
          refine rT Tryz.results106 ?_
          exact ⟨by rw [hf.out]; rfl, rfl⟩
        · have hf : Hid (R = 0) := by show _ = _; rw [show R = _ from hR2.out, if_pos rfl, if_neg h24]
          have hn2 : ¬ (24 : Int) < ns.length := by omega
          clear hR2 h24
          refine go_ ?_
          refine Qab (H2.out) ?_
          refine rT Tryz.results106 ?_
          exact ⟨by rw [hf.out]; rfl, rfl⟩
def gotP (x : Tm × Int × Int) : PV := .agg [.d (.v (.int .i64 x.1.kind)), .d (.v (.int .i64 x.1.num)), .d (.sl (x.1.sub.map encD)), .d (.v (.int .i64 x.2.1)), .d (.v (.int .i64 x.2.2))]
def gotO (x : Tm × Option Int) : Tm × Int × Int := match x.2 with
 | none => (x.1, 0, 0)
 | some a => (zeT, a, 3)
theorem rscT_p (l : List En) : ∀ (t : Nd) (ns : List ByteArray), Qcf t false = true → ns.length + hgT t ≤ 900 → PCalls Tryz.prog 107 [.d (.sl (l.map encD)), .d (.sl (ns.map encD)), aggD t] [] fun p s => p = gotP (gotO (scT l t ns)) ∧ s = [] := by
  refine Nd.ind ?_
  intro k a s n sub ih ns hg hh
  rcases ex_cases hg with ⟨rfl, rfl⟩ | ⟨rfl, rfl, h0, h7⟩ | ⟨x, y, hk, rfl, gx, gy⟩
  · rw [sc_name]
    have hP := Hh (rnplace_p ns s)
    have hF := Hh (rfindI_p l s)
    unfold nameT
    have hpb := (Qnl ns s ns.length).2
    have hpb0 := (Qnl ns s ns.length).1
    generalize Qaw ns s ns.length = pl at *
    have hl := Hh (Qkh 1 ((ns.length : Int) - 1 - pl))
    simp only [aggD, Jh, List.map_cons, List.map_nil, Nd.kind, Nd.at, Nd.name, Nd.num, Nd.sub]
    have hnl : ns.length ≤ 900 := by omega
    clear ih hg hh
    by_cases h0 : 0 ≤ pl
    · rw [if_pos h0]
      unfold gotP gotO
      simp only [aggD, Jl, List.map_cons, List.map_nil, Jv, Jw, Jx] at hl ⊢
      have hw1 := wr64 (n := (ns.length : Int) - 1) (by omega) (by omega)
      have hw2 := wr64 (n := (ns.length : Int) - 1 - pl) (by omega) (by omega)
      clear hF
      refine pG Tryz.func107 Tryz.ntmps107 ?_
      refine Jd ?_
      intro i5 hi5
      try simp only [Ja, Rh, Rg, Jb] at hi5
      refine go_ ?_
      refine Je ?_
      intro i6 hi6
      try simp only [Ja, Rh, Rg, Jb] at hi6
      refine go_ ?_
      refine Qab (hP.out) ?_
      refine Qab (hl.out) ?_
      refine Qaa ?_
      refine rT Tryz.results107 ?_
      exact ⟨rfl, rfl⟩
    · rw [if_neg h0]
      clear hl
      cases hfd : Qeq s l 0 with
      | some c =>
        rw [hfd] at hF
        have hl := Hh (Qkh 6 c)
        unfold gotP gotO
        unfold findI at hF
        simp only [aggD, Jl, List.map_cons, List.map_nil, Jv, Jw, Jx] at hl ⊢
        have hc0 : ¬ (c : Int) < 0 := by omega
        clear hfd
        refine pG Tryz.func107 Tryz.ntmps107 ?_
        refine Jd ?_
        intro i5 hi5
        try simp only [Ja, Rh, Rg, Jb] at hi5
        refine go_ ?_
        refine Je ?_
        intro i6 hi6
        try simp only [Ja, Rh, Rg, Jb] at hi6
        refine go_ ?_
        refine Qab (hP.out) ?_
        refine Qab (hF.out) ?_
        refine Qab (hl.out) ?_
        refine Qaa ?_
        refine rT Tryz.results107 ?_
        exact ⟨rfl, rfl⟩
      | none =>
        rw [hfd] at hF
        unfold gotP gotO zeT
        unfold findI at hF
        simp only [List.map_nil, Jv, Jw, Jx]
        clear hfd
        refine pG Tryz.func107 Tryz.ntmps107 ?_
        refine Jd ?_
        intro i5 hi5
        try simp only [Ja, Rh, Rg, Jb] at hi5
        refine go_ ?_
        refine Je ?_
        intro i6 hi6
        try simp only [Ja, Rh, Rg, Jb] at hi6
        refine go_ ?_
        refine Qab (hP.out) ?_
        refine Qab (hF.out) ?_
        refine Qaa ?_
        refine rT Tryz.results107 ?_
        exact ⟨rfl, rfl⟩
  · rw [sc_set]
    have hl := Hh (Qkh 2 n)
    unfold gotP gotO
    simp only [aggD, Jh, Jl, List.map_cons, List.map_nil, Nd.kind, Nd.at, Nd.name, Nd.num, Nd.sub, Jv, Jw, Jx] at hl ⊢
    clear ih hg hh
    refine pG Tryz.func107 Tryz.ntmps107 ?_
    refine Jd ?_
    intro i5 hi5
    try simp only [Ja, Rh, Rg, Jb] at hi5
    refine go_ ?_
    refine Je ?_
    intro i6 hi6
    try simp only [Ja, Rh, Rg, Jb] at hi6
    refine go_ ?_
    refine Qab (hl.out) ?_
    refine Qaa ?_
    refine rT Tryz.results107 ?_
    exact ⟨rfl, rfl⟩
  · rw [sc_two hk]
    obtain ⟨q1, q2⟩ := hg_two k a n s x y
    have c1 := ih x (by simp) ns gx (by omega)
    have hinn : (innE k s ns).length ≤ ns.length + 1 := by
      unfold innE
      split
      · omega
      · rw [List.length_append, List.length_singleton]; omega
    have c2 := ih y (by simp) (innE k s ns) gy (by omega)
    have hA : ns.map encD ++ [[D.v (.string s)]] = (ns ++ [s]).map encD := by rw [List.map_append]; rfl
    have HA := Hh hA
    have hlen : ns.length ≤ 900 := by omega
    clear ih hg hA hh q1 q2 hinn
    generalize scT l x ns = X at *
    generalize hY : scT l y (innE k s ns) = Y at *
    clear hY
    have H3 := Hh (rtwo_p (kndE k) X.1 Y.1)
    have hx0 := agg_mkI k a n s [x, y]
    simp only [aggD, Jl, List.map_cons, List.map_nil, Jv, Jw, Jx] at H3
    rw [hx0]
    simp only [aggD, Jh, List.map_cons, List.map_nil] at c1 c2 ⊢
    have C1 := Hh c1
    have C2 := Hh c2
    clear c1 c2 hx0
    obtain ⟨X1, X2⟩ := X
    cases X2 with
    | some e =>
      simp only [Option.or] at *
      unfold gotP gotO at C1 ⊢
      unfold zeT at C1 ⊢
      simp only [List.map_nil, Jv, Jw, Jx] at C1 ⊢
      clear C2 H3 HA
      rcases hk with rfl | rfl | rfl
      all_goals
        refine pG Tryz.func107 Tryz.ntmps107 ?_
        refine Jd ?_
        intro i5 hi5
        try simp only [Ja, Rh, Rg, Jb] at hi5
        refine go_ ?_
        refine Je ?_
        intro i6 hi6
        try simp only [Ja, Rh, Rg, Jb] at hi6
        refine go_ ?_
        refine Qab (C1.out) ?_
        refine Je ?_
        intro i9 hi9
        try simp only [Ja, Rh, Rg, Jb] at hi9
        refine go_ ?_
        refine Qaa ?_
        refine Qaa ?_
        refine rT Tryz.results107 ?_
        exact ⟨rfl, rfl⟩
    | none =>
      obtain ⟨Y1, Y2⟩ := Y
      simp only [Option.or] at *
      have HC2 : ∀ (k2 : Int), Hid (k2 = k) → True := fun _ _ => trivial
      clear HC2
      cases Y2 with
      | some e =>
        unfold gotP gotO at C1 C2 ⊢
        unfold zeT at C2 ⊢
        simp only [List.map_nil, Jv, Jw, Jx] at C1 C2 ⊢
        clear H3
        rcases hk with rfl | rfl | rfl
        · rw [show innE 3 s ns = ns ++ [s] from rfl, ← HA.out] at C2
          refine pG Tryz.func107 Tryz.ntmps107 ?_
          refine Jd ?_
          intro i5 hi5
          try simp only [Ja, Rh, Rg, Jb] at hi5
          refine go_ ?_
          refine Je ?_
          intro i6 hi6
          try simp only [Ja, Rh, Rg, Jb] at hi6
          refine go_ ?_
          refine Qab (C1.out) ?_
          refine Je ?_
          intro i9 hi9
          try simp only [Ja, Rh, Rg, Jb] at hi9
          refine go_ ?_
          refine Qaa ?_
          refine Qdi ?_ (by decide) eD (by simp; rfl) (by rfl) (by simp; rfl) (by rfl) (by decide)
          intro g hg
          refine go_ ?_
          refine Qap ns.length ?_ ?_ ?_ ?_
          · simp
          · simp
          · exact Qel _
          refine go_ ?_
          refine Qao ?_
          refine Qap (ns.length + 1) ?_ ?_ ?_ ?_
          · simp
          · exact Qel _
          · exact Qbt rfl
          rw [List.nil_append]
          refine go_ ?_
          refine Qab (C2.out) ?_
          refine Je ?_
          intro i12 hi12
          try simp only [Ja, Rh, Rg, Jb] at hi12
          refine go_ ?_
          refine Qaa ?_
          refine Qaa ?_
          refine rT Tryz.results107 ?_
          exact ⟨rfl, rfl⟩
        · rw [show innE 4 s ns = ns ++ [s] from rfl, ← HA.out] at C2
          refine pG Tryz.func107 Tryz.ntmps107 ?_
          refine Jd ?_
          intro i5 hi5
          try simp only [Ja, Rh, Rg, Jb] at hi5
          refine go_ ?_
          refine Je ?_
          intro i6 hi6
          try simp only [Ja, Rh, Rg, Jb] at hi6
          refine go_ ?_
          refine Qab (C1.out) ?_
          refine Je ?_
          intro i9 hi9
          try simp only [Ja, Rh, Rg, Jb] at hi9
          refine go_ ?_
          refine Qaa ?_
          refine Qdi ?_ (by decide) eD (by simp; rfl) (by rfl) (by simp; rfl) (by rfl) (by decide)
          intro g hg
          refine go_ ?_
          refine Qap ns.length ?_ ?_ ?_ ?_
          · simp
          · simp
          · exact Qel _
          refine go_ ?_
          refine Qao ?_
          refine Qap (ns.length + 1) ?_ ?_ ?_ ?_
          · simp
          · exact Qel _
          · exact Qbt rfl
          rw [List.nil_append]
          refine go_ ?_
          refine Qab (C2.out) ?_
          refine Je ?_
          intro i12 hi12
          try simp only [Ja, Rh, Rg, Jb] at hi12
          refine go_ ?_
          refine Qaa ?_
          refine Qaa ?_
          refine rT Tryz.results107 ?_
          exact ⟨rfl, rfl⟩
        · rw [show innE 5 s ns = ns from rfl] at C2
          refine pG Tryz.func107 Tryz.ntmps107 ?_
          refine Jd ?_
          intro i5 hi5
          try simp only [Ja, Rh, Rg, Jb] at hi5
          refine go_ ?_
          refine Je ?_
          intro i6 hi6
          try simp only [Ja, Rh, Rg, Jb] at hi6
          refine go_ ?_
          refine Qab (C1.out) ?_
          refine Je ?_
          intro i9 hi9
          try simp only [Ja, Rh, Rg, Jb] at hi9
          refine go_ ?_
          refine Qaa ?_
          refine Qdi ?_ (by decide) eD (by simp; rfl) (by rfl) (by simp; rfl) (by rfl) (by decide)
          intro g hg
          refine go_ ?_
          refine Qap ns.length ?_ ?_ ?_ ?_
          · simp
          · simp
          · exact Qel _
          rw [List.nil_append]
          refine go_ ?_
          refine Qab (C2.out) ?_
          refine Je ?_
          intro i12 hi12
          try simp only [Ja, Rh, Rg, Jb] at hi12
          refine go_ ?_
          refine Qaa ?_
          refine Qaa ?_
          refine rT Tryz.results107 ?_
          exact ⟨rfl, rfl⟩
      | none =>
        unfold gotP gotO at C1 C2 ⊢
        simp only [List.map_nil, Jv, Jw, Jx] at C1 C2 H3 ⊢
        simp only [List.map_cons, List.map_nil, Jl] at H3 ⊢
        rcases hk with rfl | rfl | rfl
        · rw [show innE 3 s ns = ns ++ [s] from rfl, ← HA.out] at C2
          rw [show kndE 3 = 3 from rfl] at H3 ⊢
          refine pG Tryz.func107 Tryz.ntmps107 ?_
          refine Jd ?_
          intro i5 hi5
          try simp only [Ja, Rh, Rg, Jb] at hi5
          refine go_ ?_
          refine Je ?_
          intro i6 hi6
          try simp only [Ja, Rh, Rg, Jb] at hi6
          refine go_ ?_
          refine Qab (C1.out) ?_
          refine Je ?_
          intro i9 hi9
          try simp only [Ja, Rh, Rg, Jb] at hi9
          refine go_ ?_
          refine Qaa ?_
          refine Qdi ?_ (by decide) eD (by simp; rfl) (by rfl) (by simp; rfl) (by rfl) (by decide)
          intro g hg
          refine go_ ?_
          refine Qap ns.length ?_ ?_ ?_ ?_
          · simp
          · simp
          · exact Qel _
          refine go_ ?_
          refine Qao ?_
          refine Qap (ns.length + 1) ?_ ?_ ?_ ?_
          · simp
          · exact Qel _
          · exact Qbt rfl
          rw [List.nil_append]
          refine go_ ?_
          refine Qab (C2.out) ?_
          refine Je ?_
          intro i12 hi12
          try simp only [Ja, Rh, Rg, Jb] at hi12
          refine go_ ?_
          refine Qaa ?_
          refine Qab (H3.out) ?_
          refine Qaa ?_
          refine rT Tryz.results107 ?_
          exact ⟨rfl, rfl⟩
        · rw [show innE 4 s ns = ns ++ [s] from rfl, ← HA.out] at C2
          rw [show kndE 4 = 4 from rfl] at H3 ⊢
          refine pG Tryz.func107 Tryz.ntmps107 ?_
          refine Jd ?_
          intro i5 hi5
          try simp only [Ja, Rh, Rg, Jb] at hi5
          refine go_ ?_
          refine Je ?_
          intro i6 hi6
          try simp only [Ja, Rh, Rg, Jb] at hi6
          refine go_ ?_
          refine Qab (C1.out) ?_
          refine Je ?_
          intro i9 hi9
          try simp only [Ja, Rh, Rg, Jb] at hi9
          refine go_ ?_
          refine Qaa ?_
          refine Qdi ?_ (by decide) eD (by simp; rfl) (by rfl) (by simp; rfl) (by rfl) (by decide)
          intro g hg
          refine go_ ?_
          refine Qap ns.length ?_ ?_ ?_ ?_
          · simp
          · simp
          · exact Qel _
          refine go_ ?_
          refine Qao ?_
          refine Qap (ns.length + 1) ?_ ?_ ?_ ?_
          · simp
          · exact Qel _
          · exact Qbt rfl
          rw [List.nil_append]
          refine go_ ?_
          refine Qab (C2.out) ?_
          refine Je ?_
          intro i12 hi12
          try simp only [Ja, Rh, Rg, Jb] at hi12
          refine go_ ?_
          refine Qaa ?_
          refine Qab (H3.out) ?_
          refine Qaa ?_
          refine rT Tryz.results107 ?_
          exact ⟨rfl, rfl⟩
        · rw [show innE 5 s ns = ns from rfl] at C2
          rw [show kndE 5 = 5 from rfl] at H3 ⊢
          refine pG Tryz.func107 Tryz.ntmps107 ?_
          refine Jd ?_
          intro i5 hi5
          try simp only [Ja, Rh, Rg, Jb] at hi5
          refine go_ ?_
          refine Je ?_
          intro i6 hi6
          try simp only [Ja, Rh, Rg, Jb] at hi6
          refine go_ ?_
          refine Qab (C1.out) ?_
          refine Je ?_
          intro i9 hi9
          try simp only [Ja, Rh, Rg, Jb] at hi9
          refine go_ ?_
          refine Qaa ?_
          refine Qdi ?_ (by decide) eD (by simp; rfl) (by rfl) (by simp; rfl) (by rfl) (by decide)
          intro g hg
          refine go_ ?_
          refine Qap ns.length ?_ ?_ ?_ ?_
          · simp
          · simp
          · exact Qel _
          rw [List.nil_append]
          refine go_ ?_
          refine Qab (C2.out) ?_
          refine Je ?_
          intro i12 hi12
          try simp only [Ja, Rh, Rg, Jb] at hi12
          refine go_ ?_
          refine Qaa ?_
          refine Qab (H3.out) ?_
          refine Qaa ?_
          refine rT Tryz.results107 ?_
          exact ⟨rfl, rfl⟩
theorem rsTerm_p (l : List En) (ns : List ByteArray) (t : Nd) (ho : ∀ e ∈ l, EnOk e) : PCalls Tryz.prog 53 [.d (.sl (l.map encD)), .d (.sl (ns.map encD)), aggD t] [] fun p s => p = gotP (stA l ns t) ∧ s = [] := by
  have hE := Hh (rexpr_p t)
  have hC := Hh (rchk_p l ns ho)
  have hT := fun (h1 : Qex t = true) (h2 : chkE l ns = 0) => rscT_p l t ns (exB_good h1) (by have := exB_hg h1; have := (chk_len h2).1; omega)
  have hS := Hh (Qli (scT l t ns).1)
  obtain ⟨R, hR⟩ : ∃ R, R = stA l ns t := ⟨_, rfl⟩
  rw [← hR]
  unfold stA at hR
  have HR := Hh hR
  have HT := Hh hT
  clear hR hT ho
  generalize Qex t = ex at *
  generalize chkE l ns = ck at *
  generalize scT l t ns = X at *
  generalize Qak X.1 = sh at *
  simp only [aggD, Jh, Jl, List.map_cons, List.map_nil] at hE HT hS ⊢
  cases ex with
  | false =>
    have hf : Hid (R = (zeT, 0, 5)) := HR.out
    rw [hf.out]
    unfold zeT gotP
    simp only [List.map_nil, Jv, Jw, Jx]
    clear HR hf HT hS hC
    refine pG Tryz.func53 Tryz.ntmps53 ?_
    refine Jd ?_
    intro i5 hi5
    try simp only [Ja, Rh, Rg, Jb] at hi5
    refine go_ ?_
    refine Je ?_
    intro i6 hi6
    try simp only [Ja, Rh, Rg, Jb] at hi6
    refine go_ ?_
    refine Qab (hE.out) ?_
    refine Qaa ?_
    refine rT Tryz.results53 ?_
    exact ⟨rfl, rfl⟩
  | true =>
  by_cases hck : ck = 0
  rotate_left
  · have hf : Hid (R = (zeT, 0, ck)) := by show _ = _; rw [show R = _ from HR.out, if_pos rfl, if_neg hck]
    rw [hf.out]
    unfold zeT gotP
    simp only [List.map_nil, Jv, Jw, Jx]
    clear HR hf HT hS
    refine pG Tryz.func53 Tryz.ntmps53 ?_
    refine Jd ?_
    intro i5 hi5
    try simp only [Ja, Rh, Rg, Jb] at hi5
    refine go_ ?_
    refine Je ?_
    intro i6 hi6
    try simp only [Ja, Rh, Rg, Jb] at hi6
    refine go_ ?_
    refine Qab (hE.out) ?_
    refine Qab (hC.out) ?_
    refine Qaa ?_
    refine rT Tryz.results53 ?_
    exact ⟨rfl, rfl⟩
  subst hck
  have hTT := HT.out rfl rfl
  clear HT
  obtain ⟨T, o⟩ := X
  simp only at hTT hS HR
  cases o with
  | some a =>
    have hf : Hid (R = (zeT, a, 3)) := by show _ = _; rw [show R = _ from HR.out]; rfl
    rw [hf.out]
    have HT := Hh hTT
    unfold gotO at HT
    unfold zeT gotP at HT ⊢
    simp only [List.map_nil, Jv, Jw, Jx] at HT ⊢
    clear HR hf hS hTT
    refine pG Tryz.func53 Tryz.ntmps53 ?_
    refine Jd ?_
    intro i5 hi5
    try simp only [Ja, Rh, Rg, Jb] at hi5
    refine go_ ?_
    refine Je ?_
    intro i6 hi6
    try simp only [Ja, Rh, Rg, Jb] at hi6
    refine go_ ?_
    refine Qab (hE.out) ?_
    refine Qab (hC.out) ?_
    refine Qab (HT.out) ?_
    refine Je ?_
    intro i8 hi8
    try simp only [Ja, Rh, Rg, Jb] at hi8
    refine go_ ?_
    refine Qaa ?_
    refine Qaa ?_
    refine rT Tryz.results53 ?_
    exact ⟨rfl, rfl⟩
  | none =>
    have HT := Hh hTT
    unfold gotO gotP at HT
    simp only at HT
    clear hTT
    cases sh with
    | false =>
      have hf : Hid (R = (zeT, 0, 2)) := by show _ = _; rw [show R = _ from HR.out]; rfl
      rw [hf.out]
      unfold zeT gotP
      simp only [List.map_nil, Jv, Jw, Jx]
      clear HR hf
      refine pG Tryz.func53 Tryz.ntmps53 ?_
      refine Jd ?_
      intro i5 hi5
      try simp only [Ja, Rh, Rg, Jb] at hi5
      refine go_ ?_
      refine Je ?_
      intro i6 hi6
      try simp only [Ja, Rh, Rg, Jb] at hi6
      refine go_ ?_
      refine Qab (hE.out) ?_
      refine Qab (hC.out) ?_
      refine Qab (HT.out) ?_
      refine Je ?_
      intro i8 hi8
      try simp only [Ja, Rh, Rg, Jb] at hi8
      refine go_ ?_
      refine Qaa ?_
      refine Qad (hS.out) ?_
      refine Qaa ?_
      refine rT Tryz.results53 ?_
      exact ⟨rfl, rfl⟩
    | true =>
      have hf : Hid (R = (T, 0, 0)) := by show _ = _; rw [show R = _ from HR.out]; rfl
      rw [hf.out]
      unfold gotP
      clear HR hf
      refine pG Tryz.func53 Tryz.ntmps53 ?_
      refine Jd ?_
      intro i5 hi5
      try simp only [Ja, Rh, Rg, Jb] at hi5
      refine go_ ?_
      refine Je ?_
      intro i6 hi6
      try simp only [Ja, Rh, Rg, Jb] at hi6
      refine go_ ?_
      refine Qab (hE.out) ?_
      refine Qab (hC.out) ?_
      refine Qab (HT.out) ?_
      refine Je ?_
      intro i8 hi8
      try simp only [Ja, Rh, Rg, Jb] at hi8
      refine go_ ?_
      refine Qaa ?_
      refine Qad (hS.out) ?_
      refine Qaa ?_
      refine rT Tryz.results53 ?_
      exact ⟨rfl, rfl⟩
def fS : ByteArray := ⟨#[102]⟩
def fNd : Nd := .mk 1 0 fS 0 []
theorem formed_nil : formedB [] = true := by
 unfold formedB
 have : distB (nms []) = true := by
  rw [dist_iff]
  intro i j hij hj
  exact absurd hj (by simp [nms])
 rw [this]; rfl
theorem aw18_st : stA [] [fS] fNd = (.mk 1 0 [], 0, 0) := by
 have h1 : Qex fNd = true := by decide +kernel
 have h2 : chkE [] [fS] = 0 := by
  unfold chkE
  rw [formed_nil, show ([fS].all namB) = true by decide +kernel]; rfl
 have h3 : scT [] fNd [fS] = (.mk 1 0 [], none) := by
  unfold fNd
  rw [sc_name]
  unfold nameT
  rw [show Qaw [fS] fS ([fS] : List ByteArray).length = 0 by decide +kernel]
  rfl
 unfold stA
 rw [if_pos h1, if_pos h2, h3]
 simp only
 rw [if_pos (show Qak (.mk 1 0 []) = true by decide +kernel)]
theorem staken_p : PCalls Tryz.prog 101 [.d (.sl []), .d (.sl [[.v (.string fS)]]), .d (.v (.string fS))] [] fun p s => p = .d (.v (.bool true)) ∧ s = [] := by
 have h1 := Hh (sfind_p [] fS)
 rw [show Qeq fS [] 0 = none from rfl] at h1
 have h2 := Hh (nplace_p [fS] fS)
 rw [show Qaw [fS] fS ([fS] : List ByteArray).length = 0 by decide +kernel] at h2
 unfold findP at h1
 simp only [List.map_nil, List.map_cons, Jg] at h1 h2
 unfold fS at *
 refine pG Tryz.func101 Tryz.ntmps101 ?_
 refine Qab (h1.out) ?_
 refine Qad (h2.out) ?_
 refine rT Tryz.results101 ?_
 exact ⟨by simp [tupP, PV.norm2, PV.norm1, PV.norm0, *], rfl⟩
theorem awake18_p : PCalls Tryz.prog 51 [] [] fun p s => p = .d (.v (.bool true)) ∧ s = [] := by
 have h1 := sTerm_p [] [fS] fNd (by simp)
 rw [aw18_st] at h1
 unfold fNd stP at h1
 rw [agg_mkI] at h1
 simp only [aggD, Jl, List.map_nil, List.map_cons, Jg, Jv, Jw, Jx] at h1
 have h2 := staken_p
 unfold fS at h1 h2
 have H1 := Hh h1
 have H2 := Hh h2
 clear h1 h2
 refine pG Tryz.func51 Tryz.ntmps51 ?_
 refine Qao ?_
 refine Qab (H1.out) ?_
 refine Je ?_
 intro i1 hi1
 refine go_ ?_
 refine Qaa ?_
 refine Qcb ?_ (hw := by simp [PF.wants, PF.get, cPV, Qcd, *])
 refine go_ ?_
 refine Qad (H2.out) ?_
 refine rT Tryz.results51 ?_
 exact ⟨by simp [tupP, PV.norm2, PV.norm1, PV.norm0, *], rfl⟩
section
variable {H : Type} {enc : TypeId × Value → H} {w : World} {base : Nat} {spare : Nat → Bool} {held : Bool}
def StS (w : World) (v : Value) (l : List ByteArray) : Prop := RepS (fun _ => True) w v l
theorem open_sts {n : Nat} {cs : List Value} {x : DataW H × List MemPlace} (h : DataW.trod enc Tryz.prog w base spare held n 69 cs = some x) (hw : Wl Tryz.prog 69 x.1) : ∃ (a : Option Addr) (len cap : Nat) (ts : List ByteArray), cs = [.slice a len cap] ∧ StS w (.slice a len cap) ts := by
 obtain ⟨v, l, rfl, hl, hok, _⟩ := opnB_slice (α := ByteArray) (Ok := fun _ => True) Tryz.underlying69 (by kernel_rfl) (by decide) (fun m' _ => (OpnAt.toB fun cs x h => by
  obtain ⟨s, hs⟩ := opn_str (by kernel_rfl) m' cs x h
  exact ⟨s, hs⟩)) h hw
 obtain ⟨a, c, rfl, _⟩ := hl.shape
 exact ⟨a, _, c, l, rfl, hl⟩
end
theorem scopeTexts_p (s : ByteArray) (ns : List ByteArray) : PCalls Tryz.prog 12 [.d (.v (.string s)), .d (.sl (ns.map encD))] [] fun p st => p = .d (.v (.bool true)) ∧ st = [] := by
 have hW := Hh awake18_p
 by_cases h1 : (2000 : Int) < s.size
 ·refine pG Tryz.func12 Tryz.ntmps12 ?_
  refine Qab (hW.out) ?_
  refine rT Tryz.results12 ?_
  exact ⟨rfl, rfl⟩
 by_cases h2 : (40 : Int) < ns.length
 ·refine pG Tryz.func12 Tryz.ntmps12 ?_
  refine Qab (hW.out) ?_
  refine rT Tryz.results12 ?_
  exact ⟨rfl, rfl⟩
 have hP := Hh (pexprs_p s)
 have hG := Hh (gExpr_p s (by omega))
 generalize Qhs s = X at *
 obtain ⟨t, at_, e⟩ := X
 simp only at hP hG
 by_cases he : e = 0
 rotate_left
 ·have heb : (e != 0) = true := bne_iff_ne.2 he
  have hee : (e != e) = false := by simp
  simp only [aggD, Jh, List.map_cons, List.map_nil] at hP hG
  clear he
  refine pG Tryz.func12 Tryz.ntmps12 ?_
  refine Qab (hP.out) ?_
  refine Je ?_
  intro b5 hb5
  try simp only [Ja, Rh, Rg, Jb] at hb5
  refine go_ ?_
  refine Qaa ?_
  refine Qab (hG.out) ?_
  refine Je ?_
  intro b8 hb8
  try simp only [Ja, Rh, Rg, Jb] at hb8
  refine go_ ?_
  refine Qaa ?_
  refine Qab (hW.out) ?_
  refine rT Tryz.results12 ?_
  exact ⟨rfl, rfl⟩
 subst he
 have hB := Hh rbase_p
 have hT := Hh (sTerm_p baseL ns t base_ok)
 have hR := Hh (rsTerm_p baseL ns t base_ok)
 generalize stA baseL ns t = Y at *
 generalize baseL = B at *
 obtain ⟨u, a2, e2⟩ := Y
 have hQ := Hh (requal_p u u)
 rw [(eqT_iff u u).2 rfl] at hQ
 obtain ⟨k, a, nm, n, sub⟩ := t
 simp only [stP, gotP, aggD, Jh, Jl, List.map_cons, List.map_nil, Nd.kind, Nd.at, Nd.name, Nd.num, Nd.sub] at hP hG hT hR hQ
 refine pG Tryz.func12 Tryz.ntmps12 ?_
 refine Qab (hP.out) ?_
 refine Je ?_
 intro b5 hb5
 try simp only [Ja, Rh, Rg, Jb] at hb5
 refine go_ ?_
 refine Qaa ?_
 refine Qab (hG.out) ?_
 refine Je ?_
 intro b8 hb8
 try simp only [Ja, Rh, Rg, Jb] at hb8
 refine go_ ?_
 refine Qaa ?_
 refine Qfc (J := Qcm [(b5, _), (b8, _)]) [(0, .a), (1, .a), (2, .a), (3, .a), (4, .a), (5, .a), (6, .a), (7, .a), (8, .e), (9, .e), (10, .a), (11, .a)] (by kernel_rfl) (by rfl) (by kernel_rfl) (by (repeat (first | exact Qat _ | refine Ju (by simp [St.box?, *] <;> rfl) ?_))) ?_
 refine jG ?_
 refine Qiw (hB.out) ?_
 refine jG ?_
 refine Qiw (hT.out) ?_
 refine jG ?_
 refine Qlv rfl (by decide) rfl (by simp; rfl) (fun i hi => by simp only [Ja, Rh, Rg] at hi; (repeat (first | exact Qat _ | refine Ju (by simp [St.box?, *] <;> rfl) ?_))) ?_
 intro b11 hb11
 try simp only [Ja, Rh, Rg, Jb] at hb11
 refine jG ?_
 refine PJs ?_
 refine jG ?_
 refine go_ ?_
 refine Qfc (J := Qcm [(b8, _), (b11, _)]) [(0, .a), (1, .a), (2, .a), (3, .a), (4, .e), (5, .e)] (by kernel_rfl) (by rfl) (by kernel_rfl) (by (repeat (first | exact Qat _ | refine Ju (by simp [St.box?, *] <;> rfl) ?_))) ?_
 refine jG ?_
 refine Qiw (hB.out) ?_
 refine jG ?_
 refine Qiw (hR.out) ?_
 refine jG ?_
 refine Qlv rfl (by decide) rfl (by simp; rfl) (fun i hi => by simp only [Ja, Rh, Rg] at hi; (repeat (first | exact Qat _ | refine Ju (by simp [St.box?, *] <;> rfl) ?_))) ?_
 intro b14 hb14
 try simp only [Ja, Rh, Rg, Jb] at hb14
 refine jG ?_
 refine PJs ?_
 refine jG ?_
 refine go_ ?_
 refine Qad (hQ.out) ?_
 refine Qad (hW.out) ?_
 refine rT Tryz.results12 ?_
 exact ⟨rfl, rfl⟩
theorem scopeTexts_walk (s : ByteArray) (v2 : Value) (ns : List ByteArray) (hs : s.size ≤ maxLen) (w : World) (h2 : StS w v2 ns) : Calls Tryz.prog 12 #[.string s, v2] w fun e w' => e = .returned (.bool true) ∧ Below w.heap.size w w' := by
 refine PCalls.top ((scopeTexts_p s ns).mono fun p s hp => hp.1) ?_
 exact Qdo (.d (.v hs)) (Qdo (.d (relS_of (fun b o v _ hv => ⟨v, hv⟩) (by decide) h2)) (Qic _ _))
end Go.Proofs.YtdklpbefbamchaaGreat
