import Derived.Test.YtdklpbefbamchaaGreatBI1
set_option linter.unusedSimpArgs false
set_option linter.unusedVariables false
set_option maxHeartbeats 16000000
set_option maxRecDepth 100000
namespace Go.Proofs.YtdklpbefbamchaaGreat
open Go.RowKit
def inX (e : Nat) : Tm → Nat → Bool
 | .mk k _ [x, y], m => inX e x m && inX e y (if k = 5 then m else m + 1)
 | .mk k n _, m => if k = 1 then decide (n < m) else if k = 6 then decide (n < e) else true
theorem inX_two {e : Nat} {k n : Int} {x y : Tm} {m : Nat} : inX e (.mk k n [x, y]) m = (inX e x m && inX e y (if k = 5 then m else m + 1)) := by simp only [inX]
theorem inX_var {e : Nat} {n : Int} {m : Nat} : inX e (.mk 1 n []) m = decide (n < m) := by simp only [inX]; rfl
theorem inX_con {e : Nat} {n : Int} {m : Nat} : inX e (.mk 6 n []) m = decide (n < e) := by simp only [inX]; rfl
theorem in_of (e : Nat) : ∀ (t : Tm) (b d : Nat), Qah t = true → lsT t b ≤ d → (∀ y ∈ clT 6 7 t, y < (e : Int)) → inX e t (b + d) = true := by
  refine Tm.ind ?_
  intro k n sub ih b d hg hl hn
  rcases Qke hg with ⟨hk, rfl, h0, h1⟩ | ⟨x, rfl, rfl⟩ | ⟨x, y, hk, rfl, rfl, gx, gy⟩
  · rcases hk with rfl | rfl | rfl | rfl
    · rw [inX_var]
      rw [ls_var] at hl
      exact decide_eq_true (by omega)
    · simp only [inX]; rfl
    · rw [inX_con]
      exact decide_eq_true (hn n (by simp only [clT]; simp))
    · simp only [inX]; rfl
  · simp only [inX]; rfl
  · rw [inX_two]
    have hk1 : ¬ k = 1 := by omega
    rw [ls_not hk1] at hl
    simp only [lsL] at hl
    have hcl : ∀ z ∈ [x, y], ∀ w ∈ clT 6 7 z, w < (e : Int) := fun z hz w hw => hn w (by
      simp only [clT]
      rw [if_neg (by omega)]
      simp only [List.mem_cons, List.not_mem_nil, or_false] at hz
      simp only [clS, List.mem_append, List.nil_append]
      rcases hz with rfl | rfl
      · exact .inl hw
      · exact .inr (.inl hw))
    have e0 : undB k ((0 : Nat) : Int) = 0 := by unfold undB; rw [if_neg (by omega)]
    have e1 : undB k ((0 + 1 : Nat) : Int) = if k = 5 then 0 else 1 := by
      unfold undB
      by_cases h5 : k = 5
      · rw [if_neg (by omega), if_pos h5]
      · rw [if_pos ⟨rfl, by omega⟩, if_neg h5]
    rw [e0, e1] at hl
    have q1 : lsT x (b : Int) ≤ d := by
      have : lsT x ((b : Int) + 0) ≤ d := by omega
      rwa [Int.add_zero] at this
    rw [ih x (by simp) b d gx q1 (hcl x (by simp)), Bool.true_and]
    by_cases h5 : k = 5
    · rw [if_pos h5] at hl ⊢
      exact ih y (by simp) b d gy (by have : lsT y ((b : Int) + 0) ≤ d := by omega
                                      rwa [Int.add_zero] at this) (hcl y (by simp))
    · rw [if_neg h5] at hl ⊢
      have := ih y (by simp) (b + 1) d gy (by have : lsT y ((b : Int) + 1) ≤ d := by omega
                                              rw [show ((b + 1 : Nat) : Int) = (b : Int) + 1 by omega]; exact this) (hcl y (by simp))
      rw [show b + 1 + d = b + d + 1 by omega] at this
      exact this
theorem Qgt {t : Tm} {m e : Nat} (h : Qcm t m e = true) : Qak t = true ∧ inX e t m = true := by
 unfold Qcm at h
 simp only [Bool.and_eq_true, decide_eq_true_eq] at h
 obtain ⟨⟨h1, h2⟩, h3⟩ := h
 refine ⟨h1, ?_⟩
 have := in_of e t 0 m (Qaw h1).1 (by exact h2) fun y hy => by
  have := List.all_eq_true.1 h3 y ((nm_cl 6 7 y t).2 hy)
  exact of_decide_eq_true this
 rwa [Nat.zero_add] at this
def erS (b : Bool) (σ : Int × Int) : Int × Int := if b = true then fsS 16 0 σ else σ
theorem erS_or (a b : Bool) (σ : Int × Int) : erS b (erS a σ) = erS (a || b) σ := by
 cases a <;> cases b
 ·rfl
 ·rfl
 ·rfl
 ·show fsS 16 0 (fsS 16 0 σ) = fsS 16 0 σ
  unfold fsS
  by_cases h : σ.1 = 0
  ·rw [if_pos h]; rfl
  ·rw [if_neg h, if_neg h]
theorem sfresh_p (i0 : Nat) (l : List En) (σ : Int × Int) (ns : List ByteArray) (h : l.length + ns.length ≤ 300) : PCalls Tryz.prog 216 [.ptr i0 0, .d (.sl (ns.map encD))] (scS i0 l σ) fun p s => p = .d (.v (.string (freX (nms l ++ ns)))) ∧ s = scS i0 l σ := by
 have hN := Lib.hid (snames_o l (by omega))
 have hlen : (nms l).length = l.length := Qfj l
 have h1 := nfresh_p (nms l ++ ns) (by rw [List.length_append, hlen]; exact h)
 rw [List.map_append] at h1
 have hsz := Qhr (nms l ++ ns) (by rw [List.length_append, hlen]; exact h)
 unfold xS at h1
 have HF := Lib.hid h1
 generalize freX (nms l ++ ns) = X at *
 have hml : (nms l).length + ns.length ≤ 300 := by omega
 clear h1 h hlen
 generalize nms l = L at *
 unfold scS
 refine PCalls.enter Tryz.func216 rfl Tryz.ntmps216 (by simp) ?_
 simp only [Qaa]
 refine go_ ?_
 refine Re 0 0 (hN.out) ?_
 rintro p s ⟨g, rfl, rfl⟩
 simp only [List.cons_append, List.nil_append, List.append_nil, Ja, Rh, Rg]
 refine go_ ?_
 refine Qai (L.length + ns.length) ?_ ?_ ?_ ?_
 ·simp
 ·exact Qal _
 ·exact Qal _
 refine go_ ?_
 refine Jc (HF.out) ?_
 refine go_ ?_
 refine Jm (st' := [.box i0 157 [.d (.sl (l.map encD)), .d (.v (.int .i64 σ.1)), .d (.v (.int .i64 σ.2))]]) (by simp) (by simp only [Tryz.results216]; rfl) (by simp [resP, St.box?, PF.get, Jn, TyK.agg, *]; rfl) (by repeat (first | exact List.Sublist.refl _ | exact List.nil_sublist _ | refine List.Sublist.cons_cons _ ?_ | refine List.Sublist.cons _ ?_)) ?_
 exact ⟨by simp [tupP, PV.norm2, PV.norm1, PV.norm0], rfl⟩
theorem svariable_p (i0 : Nat) (l : List En) (σ : Int × Int) (ns : List ByteArray) (n : Int) (h0 : 0 ≤ n) (h1 : n < ns.length) (hns : ns.length ≤ 1000) : PCalls Tryz.prog 166 [.ptr i0 0, .d (.sl (ns.map encD)), .d (.v (.int .i64 n))] (scS i0 l σ) fun p s => p = aggD (varX ns n).1 ∧ s = scS i0 l (erS (varX ns n).2 σ) := by
  obtain ⟨k, hk⟩ : ∃ k : Nat, (ns.length : Int) - 1 - n = k := ⟨((ns.length : Int) - 1 - n).toNat, by omega⟩
  have hlt : k < ns.length := by omega
  obtain ⟨R, hR⟩ : ∃ R, R = varX ns n := ⟨_, rfl⟩
  rw [← hR]
  unfold varX at hR
  obtain ⟨x, hxe⟩ : ∃ x, ns[k]? = some x := ⟨ns[k], List.getElem?_eq_getElem hlt⟩
  rw [hk, Int.toNat_natCast, hxe] at hR
  have HR : Hid (R = (Nd.mk 1 0 x 0 [], (x.toList == [95]) || !(Qap ns x ns.length == (k : Int)))) := hR
  have hx : (ns.map encD)[k]? = some [D.v (.string x)] := by rw [List.getElem?_map, hxe]; rfl
  have hP := Lib.hid (nplace_p ns x)
  have hF := Qjk i0 l σ 16 0
  have hw1 := wr64 (n := (ns.length : Int) - 1) (by omega) (by omega)
  have hw2 := (wr64 (n := (ns.length : Int) - 1 - n) (by omega) (by omega)).trans hk
  have hc : (k : Int) < ns.length := by omega
  have hn : (0 : Int) ≤ k := by omega
  clear hR hlt hk hxe
  generalize Qap ns x ns.length = pl at *
  unfold scS at hF ⊢
  have HF := Lib.hid hF
  clear hF
  cases hu : (x.toList == [95]) with
  | true =>
    have hf : Hid (R = (.mk 1 0 x 0 [], true)) := by show _ = _; rw [show R = _ from HR.out, hu]; rfl
    rw [hf.out]
    rw [Qdf]
    clear HR hf hP
    refine PCalls.enter Tryz.func166 rfl Tryz.ntmps166 (by simp) ?_
    simp only [Qaa]
    refine go_ ?_
    refine Je ?_
    intro i6 hi6
    try simp only [Ja, Rh, Rg, Jb] at hi6
    refine go_ ?_
    refine Re 1 1 (HF.out) ?_
    rintro _ _ ⟨rfl, rfl⟩
    simp only [List.cons_append, List.nil_append, List.append_nil, Ja, Rh, Rg]
    refine go_ ?_
    refine Rd ?_
    refine go_ ?_
    refine Jm (st' := [.box i0 157 [.d (.sl (l.map encD)), .d (.v (.int .i64 (fsS 16 0 σ).1)), .d (.v (.int .i64 (fsS 16 0 σ).2))]]) (by simp) (by simp only [Tryz.results166]; rfl) (by simp [resP, St.box?, PF.get, Jn, TyK.agg, *]; rfl) (by repeat (first | exact List.Sublist.refl _ | exact List.nil_sublist _ | refine List.Sublist.cons_cons _ ?_ | refine List.Sublist.cons _ ?_)) ?_
    exact ⟨by simp [tupP, PV.norm2, PV.norm1, PV.norm0], rfl⟩
  | false =>
    by_cases hp : pl = k
    · have hf : Hid (R = (.mk 1 0 x 0 [], false)) := by show _ = _; rw [show R = _ from HR.out, hu, hp]; simp
      rw [hf.out]
      rw [Qdf]
      subst hp
      clear HR hf
      refine PCalls.enter Tryz.func166 rfl Tryz.ntmps166 (by simp) ?_
      simp only [Qaa]
      refine go_ ?_
      refine Je ?_
      intro i6 hi6
      try simp only [Ja, Rh, Rg, Jb] at hi6
      refine go_ ?_
      refine Jr (hP.out) ?_
      refine go_ ?_
      refine Rd ?_
      refine go_ ?_
      refine Jm (st' := [.box i0 157 [.d (.sl (l.map encD)), .d (.v (.int .i64 σ.1)), .d (.v (.int .i64 σ.2))]]) (by simp) (by simp only [Tryz.results166]; rfl) (by simp [resP, St.box?, PF.get, Jn, TyK.agg, *]; rfl) (by repeat (first | exact List.Sublist.refl _ | exact List.nil_sublist _ | refine List.Sublist.cons_cons _ ?_ | refine List.Sublist.cons _ ?_)) ?_
      exact ⟨by simp [tupP, PV.norm2, PV.norm1, PV.norm0], rfl⟩
    · have hf : Hid (R = (.mk 1 0 x 0 [], true)) := by
        show _ = _; rw [show R = _ from HR.out, hu]
        have : (pl == (k : Int)) = false := beq_eq_false_iff_ne.2 hp
        rw [this]; rfl
      rw [hf.out]
      rw [Qdf]
      have hpb : (pl != (k : Int)) = true := bne_iff_ne.2 hp
      clear HR hf hp
      refine PCalls.enter Tryz.func166 rfl Tryz.ntmps166 (by simp) ?_
      simp only [Qaa]
      refine go_ ?_
      refine Je ?_
      intro i6 hi6
      try simp only [Ja, Rh, Rg, Jb] at hi6
      refine go_ ?_
      refine Jr (hP.out) ?_
      refine go_ ?_
      refine Re 1 1 (HF.out) ?_
      rintro _ _ ⟨rfl, rfl⟩
      simp only [List.cons_append, List.nil_append, List.append_nil, Ja, Rh, Rg]
      refine go_ ?_
      refine Rd ?_
      refine go_ ?_
      refine Jm (st' := [.box i0 157 [.d (.sl (l.map encD)), .d (.v (.int .i64 (fsS 16 0 σ).1)), .d (.v (.int .i64 (fsS 16 0 σ).2))]]) (by simp) (by simp only [Tryz.results166]; rfl) (by simp [resP, St.box?, PF.get, Jn, TyK.agg, *]; rfl) (by repeat (first | exact List.Sublist.refl _ | exact List.nil_sublist _ | refine List.Sublist.cons_cons _ ?_ | refine List.Sublist.cons _ ?_)) ?_
      exact ⟨by simp [tupP, PV.norm2, PV.norm1, PV.norm0], rfl⟩
def XC (l : List En) (t : Tm) (ns : List ByteArray) : Prop := ∀ (i0 : Nat) (σ : Int × Int), PCalls Tryz.prog 109 [.ptr i0 0, .d (.sl (ns.map encD)), aggD t] (scS i0 l σ) fun p s => p = aggD (exT l t ns).1 ∧ s = scS i0 l (erS (exT l t ns).2 σ)
theorem Qds (k n : Int) (sub : List Tm) : aggD (Tm.mk k n sub) = .agg [.d (.v (.int .i64 k)), .d (.v (.int .i64 n)), .d (.sl (sub.map encD))] := by
 unfold aggD; rw [Jl]; rfl
theorem Qfy (t : Nd) : aggD t = .agg [.d (.v (.int .i64 t.kind)), .d (.v (.int .i64 t.at)), .d (.v (.string t.name)), .d (.v (.int .i64 t.num)), .d (.sl (t.sub.map encD))] := by
 unfold aggD; rw [Jh]; rfl
theorem Qdg (t : Tm) : aggD t = .agg [.d (.v (.int .i64 t.kind)), .d (.v (.int .i64 t.num)), .d (.sl (t.sub.map encD))] := by
 unfold aggD; rw [Jl]; rfl
theorem sbinder_p (l : List En) (k n : Int) (hk : k = 3 ∨ k = 4) (x y : Tm) (ns : List ByteArray) (hn : l.length + ns.length ≤ 300) (c1 : XC l x ns) (c2 : XC l y (ns ++ [bndX l ns k y])) (i0 : Nat) (σ : Int × Int) :
  PCalls Tryz.prog 168 [.ptr i0 0, .d (.sl (ns.map encD)), aggD (Tm.mk k n [x, y])] (scS i0 l σ) fun p s => p = aggD (exT l (.mk k n [x, y]) ns).1 ∧ s = scS i0 l (erS (exT l (.mk k n [x, y]) ns).2 σ) := by
 rw [ex_bind hk]
 have hH := Lib.hid (tHas_p y 0)
 have hX : (nms l).length = l.length := Qfj l
 have hfr := Lib.hid (fun σ => sfresh_p i0 l σ ns hn)
 have hsz := Qhr (nms l ++ ns) (by rw [List.length_append, hX]; exact hn)
 have hb : bndX l ns k y = if k = 4 ∨ hasT y 0 = true then freX (nms l ++ ns) else lowS := rfl
 have d1 := c1 i0 σ
 have d2 := c2 i0 (erS (exT l x ns).2 σ)
 simp only [erS_or] at d2
 have hA : (ns ++ [bndX l ns k y]).map encD = ns.map encD ++ [[D.v (.string (bndX l ns k y))]] := by rw [List.map_append]; rfl
 rw [hA] at d2
 have hlen : ns.length ≤ 300 := by omega
 clear c1 c2 hA hX
 generalize exT l x ns = X at *
 generalize exT l y (ns ++ [bndX l ns k y]) = Y at *
 generalize bndX l ns k y = B at *
 generalize freX (nms l ++ ns) = FX at *
 generalize hasT y 0 = hs at *
 rw [Qdf]
 rw [Qds]
 rw [Qfy, Qdg] at d1 d2
 rw [Qdg] at hH
 simp only [List.map_cons, List.map_nil, Jl, Jh]
 unfold scS at d1 d2 hfr ⊢
 have D1 := Lib.hid d1
 have D2 := Lib.hid d2
 have HB := Lib.hid hb
 clear d1 d2 hb hn
 have hcase : (k = 3 ∧ hs = false ∧ B = lowS) ∨ ((k = 4 ∨ (k = 3 ∧ hs = true)) ∧ B = FX) := by
  rcases hk with rfl | rfl
  ·cases hs with
   | false => exact .inl ⟨rfl, rfl, by rw [HB.out]; rfl⟩
   | true => exact .inr ⟨.inr ⟨rfl, rfl⟩, by rw [HB.out]; rfl⟩
  ·exact .inr ⟨.inl rfl, by rw [HB.out]; rfl⟩
 clear HB hk
 rcases hcase with ⟨rfl, rfl, rfl⟩ | ⟨rfl | ⟨rfl, rfl⟩, rfl⟩
 ·unfold lowS at *
  refine PCalls.enter Tryz.func168 rfl Tryz.ntmps168 (by simp) ?_
  simp only [Qaa]
  refine go_ ?_
  refine Jd ?_
  intro i5 hi5
  try simp only [Ja, Rh, Rg, Jb] at hi5
  refine go_ ?_
  refine Je ?_
  intro i6 hi6
  try simp only [Ja, Rh, Rg, Jb] at hi6
  refine go_ ?_
  refine Je ?_
  intro i7 hi7
  try simp only [Ja, Rh, Rg, Jb] at hi7
  refine go_ ?_
  refine Rd ?_
  refine go_ ?_
  refine Rd ?_
  refine go_ ?_
  refine Re 3 1 (D1.out) ?_
  rintro _ _ ⟨rfl, rfl⟩
  simp only [List.cons_append, List.nil_append, List.append_nil, Ja, Rh, Rg]
  refine go_ ?_
  refine Je ?_
  intro i8 hi8
  try simp only [Ja, Rh, Rg, Jb] at hi8
  refine go_ ?_
  refine Rd ?_
  refine go_ ?_
  refine Jr (hH.out) ?_
  refine go_ ?_
  refine Qew (J := Qdp [(i5, _), (i7, _), (i8, _)]) [(0, .a), (1, .a), (2, .a), (3, .a), (4, .a), (5, .a), (6, .a), (7, .a), (8, .a), (9, .a), (10, .a), (12, .a), (13, .a), (14, .a), (15, .a), (11, .e), (16, .e), (17, .a), (18, .a), (19, .e)] (by kernel_rfl) (by rfl) (by kernel_rfl) (by (repeat (first | exact Qat _ | refine Ju (by simp [St.box?, *] <;> rfl) ?_))) ?_
  repeat (first | with_reducible refine Qbj ?_ | refine Qbi ?_ | refine Qbw ?_ | refine Qbv ?_)
  refine Qkl ?_ (Qal _)
  repeat (first | with_reducible refine Qbj ?_ | refine Qbi ?_ | refine Qbw ?_ | refine Qbv ?_)
  refine PL_bs ?_ rfl (by decide) rfl (by simp; rfl) (by rfl) (by simp; rfl) (by rfl) (by decide) (by decide) (by simp [nev, nevA, nevB, Jp, PF.eval, PF.get, PF.wants, cPV, Qad, PV.rows, Qae, evUn, Jq, Qag, Qaf, Jn, TyK.agg, Qac, St.box?, St.tok?, St.setBox, St.setTok, Qab, spl, PV.ps, PV.one, Jo, aggD, slD, Jh, Jk, Ji, Jj, Jg, Jf, *]; rfl) (by simp [Qcu, toDs, PV.toD]; rfl)
  repeat (first | with_reducible refine Qbj ?_ | refine Qbi ?_ | refine Qbw ?_ | refine Qbv ?_)
  refine Qjm ?_ ?_ ?_ ?_ ?_ ?_ ?_
  rotate_left
  ·exact Qal _
  ·exact Qau rfl
  ·simp
  ·exact .inr (by (repeat (first | exact Qat _ | refine Ju (by simp [St.box?, *] <;> rfl) ?_)))
  ·simp [maxLen]; omega
  ·simp; omega
  repeat (first | with_reducible refine Qbj ?_ | refine Qbi ?_ | refine Qbw ?_ | refine Qbv ?_)
  refine Qie 4 1 (D2.out) ?_
  rintro _ _ ⟨rfl, rfl⟩
  refine ⟨.inr (by (repeat (first | exact Qat _ | refine Ju (by simp [St.box?, *] <;> rfl) ?_))), ?_⟩
  simp only [List.cons_append, List.nil_append, List.append_nil, Ja, Rh, Rg]
  repeat (first | with_reducible refine Qbj ?_ | refine Qbi ?_ | refine Qbw ?_ | refine Qbv ?_)
  refine PL_bs ?_ rfl (by decide) rfl (by simp; rfl) (by rfl) (by simp; rfl) (by rfl) (by decide) (by decide) (by simp [nev, nevA, nevB, Jp, PF.eval, PF.get, PF.wants, cPV, Qad, PV.rows, Qae, evUn, Jq, Qag, Qaf, Jn, TyK.agg, Qac, St.box?, St.tok?, St.setBox, St.setTok, Qab, spl, PV.ps, PV.one, Jo, aggD, slD, Jh, Jk, Ji, Jj, Jg, Jf, *]; rfl) (by simp [Qcu, toDs, PV.toD]; rfl)
  repeat (first | with_reducible refine Qbj ?_ | refine Qbi ?_ | refine Qbw ?_ | refine Qbv ?_)
  refine Qgq rfl rfl (by simp [nev, nevA, nevB, Jp, PF.eval, PF.get, PF.wants, cPV, Qad, PV.rows, Qae, evUn, Jq, Qag, Qaf, Jn, TyK.agg, Qac, St.box?, St.tok?, St.setBox, St.setTok, Qab, spl, PV.ps, PV.one, Jo, aggD, slD, Jh, Jk, Ji, Jj, Jg, Jf, *]; rfl) (by rfl) (by simp [nev, nevA, nevB, Jp, PF.eval, PF.get, PF.wants, cPV, Qad, PV.rows, Qae, evUn, Jq, Qag, Qaf, Jn, TyK.agg, Qac, St.box?, St.tok?, St.setBox, St.setTok, Qab, spl, PV.ps, PV.one, Jo, aggD, slD, Jh, Jk, Ji, Jj, Jg, Jf, *]; rfl) (by simp [PV.ps, aggD, slD, Jh, Jk, Ji, Jj, Jg, Jf]; rfl) (by first | rfl | (simp [*]; done) | (simp [PV.one, *]; done) | fail) (by simp; rfl) (by first | (simp; done) | fail) (by simp [nev, nevA, nevB, Jp, PF.eval, PF.get, PF.wants, cPV, Qad, PV.rows, Qae, evUn, Jq, Qag, Qaf, Jn, TyK.agg, Qac, St.box?, St.tok?, St.setBox, St.setTok, Qab, spl, PV.ps, PV.one, Jo, aggD, slD, Jh, Jk, Ji, Jj, Jg, Jf, *]; rfl) (by rfl) (by first | (simp; done) | fail) (by simp [St.setBox, spl, *]; rfl) (by first | exact .inl (by decide +kernel) | exact .inr (by (repeat (first | exact Qat _ | refine Ju (by simp [St.box?, *] <;> rfl) ?_)))) ?_
  repeat (first | with_reducible refine Qbj ?_ | refine Qbi ?_ | refine Qbw ?_ | refine Qbv ?_)
  refine go_ ?_
  refine Rd ?_
  refine go_ ?_
  refine Jm (st' := [.box i0 157 [.d (.sl (l.map encD)), .d (.v (.int .i64 (erS (X.2 || Y.2) σ).1)), .d (.v (.int .i64 (erS (X.2 || Y.2) σ).2))]]) (by simp) (by simp only [Tryz.results168]; rfl) (by simp [resP, St.box?, PF.get, Jn, TyK.agg, *]; rfl) (by repeat (first | exact List.Sublist.refl _ | exact List.nil_sublist _ | refine List.Sublist.cons_cons _ ?_ | refine List.Sublist.cons _ ?_)) ?_
  exact ⟨by simp [tupP, PV.norm2, PV.norm1, PV.norm0], rfl⟩
 ·refine PCalls.enter Tryz.func168 rfl Tryz.ntmps168 (by simp) ?_
  simp only [Qaa]
  refine go_ ?_
  refine Jd ?_
  intro i5 hi5
  try simp only [Ja, Rh, Rg, Jb] at hi5
  refine go_ ?_
  refine Je ?_
  intro i6 hi6
  try simp only [Ja, Rh, Rg, Jb] at hi6
  refine go_ ?_
  refine Je ?_
  intro i7 hi7
  try simp only [Ja, Rh, Rg, Jb] at hi7
  refine go_ ?_
  refine Rd ?_
  refine go_ ?_
  refine Re 3 1 (D1.out) ?_
  rintro _ _ ⟨rfl, rfl⟩
  simp only [List.cons_append, List.nil_append, List.append_nil, Ja, Rh, Rg]
  refine go_ ?_
  refine Je ?_
  intro i8 hi8
  try simp only [Ja, Rh, Rg, Jb] at hi8
  refine go_ ?_
  refine Rd ?_
  refine go_ ?_
  refine Re 4 1 (hfr.out (erS X.2 σ)) ?_
  rintro _ _ ⟨rfl, rfl⟩
  simp only [List.cons_append, List.nil_append, List.append_nil, Ja, Rh, Rg]
  refine go_ ?_
  refine Rd ?_
  refine go_ ?_
  refine Qew (J := Qdp [(i5, _), (i7, _), (i8, _)]) [(0, .a), (1, .a), (2, .a), (3, .a), (4, .a), (5, .a), (6, .a), (7, .a), (8, .a), (9, .a), (10, .a), (12, .a), (13, .a), (14, .a), (15, .a), (11, .e), (16, .e), (17, .a), (18, .a), (19, .e)] (by kernel_rfl) (by rfl) (by kernel_rfl) (by (repeat (first | exact Qat _ | refine Ju (by simp [St.box?, *] <;> rfl) ?_))) ?_
  repeat (first | with_reducible refine Qbj ?_ | refine Qbi ?_ | refine Qbw ?_ | refine Qbv ?_)
  refine Qkl ?_ (Qal _)
  repeat (first | with_reducible refine Qbj ?_ | refine Qbi ?_ | refine Qbw ?_ | refine Qbv ?_)
  refine PL_bs ?_ rfl (by decide) rfl (by simp; rfl) (by rfl) (by simp; rfl) (by rfl) (by decide) (by decide) (by simp [nev, nevA, nevB, Jp, PF.eval, PF.get, PF.wants, cPV, Qad, PV.rows, Qae, evUn, Jq, Qag, Qaf, Jn, TyK.agg, Qac, St.box?, St.tok?, St.setBox, St.setTok, Qab, spl, PV.ps, PV.one, Jo, aggD, slD, Jh, Jk, Ji, Jj, Jg, Jf, *]; rfl) (by simp [Qcu, toDs, PV.toD]; rfl)
  repeat (first | with_reducible refine Qbj ?_ | refine Qbi ?_ | refine Qbw ?_ | refine Qbv ?_)
  refine Qjm ?_ ?_ ?_ ?_ ?_ ?_ ?_
  rotate_left
  ·exact Qal _
  ·exact Qau rfl
  ·simp
  ·exact .inr (by (repeat (first | exact Qat _ | refine Ju (by simp [St.box?, *] <;> rfl) ?_)))
  ·simp [maxLen]; omega
  ·simp; omega
  repeat (first | with_reducible refine Qbj ?_ | refine Qbi ?_ | refine Qbw ?_ | refine Qbv ?_)
  refine Qie 4 1 (D2.out) ?_
  rintro _ _ ⟨rfl, rfl⟩
  refine ⟨.inr (by (repeat (first | exact Qat _ | refine Ju (by simp [St.box?, *] <;> rfl) ?_))), ?_⟩
  simp only [List.cons_append, List.nil_append, List.append_nil, Ja, Rh, Rg]
  repeat (first | with_reducible refine Qbj ?_ | refine Qbi ?_ | refine Qbw ?_ | refine Qbv ?_)
  refine PL_bs ?_ rfl (by decide) rfl (by simp; rfl) (by rfl) (by simp; rfl) (by rfl) (by decide) (by decide) (by simp [nev, nevA, nevB, Jp, PF.eval, PF.get, PF.wants, cPV, Qad, PV.rows, Qae, evUn, Jq, Qag, Qaf, Jn, TyK.agg, Qac, St.box?, St.tok?, St.setBox, St.setTok, Qab, spl, PV.ps, PV.one, Jo, aggD, slD, Jh, Jk, Ji, Jj, Jg, Jf, *]; rfl) (by simp [Qcu, toDs, PV.toD]; rfl)
  repeat (first | with_reducible refine Qbj ?_ | refine Qbi ?_ | refine Qbw ?_ | refine Qbv ?_)
  refine Qgq rfl rfl (by simp [nev, nevA, nevB, Jp, PF.eval, PF.get, PF.wants, cPV, Qad, PV.rows, Qae, evUn, Jq, Qag, Qaf, Jn, TyK.agg, Qac, St.box?, St.tok?, St.setBox, St.setTok, Qab, spl, PV.ps, PV.one, Jo, aggD, slD, Jh, Jk, Ji, Jj, Jg, Jf, *]; rfl) (by rfl) (by simp [nev, nevA, nevB, Jp, PF.eval, PF.get, PF.wants, cPV, Qad, PV.rows, Qae, evUn, Jq, Qag, Qaf, Jn, TyK.agg, Qac, St.box?, St.tok?, St.setBox, St.setTok, Qab, spl, PV.ps, PV.one, Jo, aggD, slD, Jh, Jk, Ji, Jj, Jg, Jf, *]; rfl) (by simp [PV.ps, aggD, slD, Jh, Jk, Ji, Jj, Jg, Jf]; rfl) (by first | rfl | (simp [*]; done) | (simp [PV.one, *]; done) | fail) (by simp; rfl) (by first | (simp; done) | fail) (by simp [nev, nevA, nevB, Jp, PF.eval, PF.get, PF.wants, cPV, Qad, PV.rows, Qae, evUn, Jq, Qag, Qaf, Jn, TyK.agg, Qac, St.box?, St.tok?, St.setBox, St.setTok, Qab, spl, PV.ps, PV.one, Jo, aggD, slD, Jh, Jk, Ji, Jj, Jg, Jf, *]; rfl) (by rfl) (by first | (simp; done) | fail) (by simp [St.setBox, spl, *]; rfl) (by first | exact .inl (by decide +kernel) | exact .inr (by (repeat (first | exact Qat _ | refine Ju (by simp [St.box?, *] <;> rfl) ?_)))) ?_
  repeat (first | with_reducible refine Qbj ?_ | refine Qbi ?_ | refine Qbw ?_ | refine Qbv ?_)
  refine go_ ?_
  refine Rd ?_
  refine go_ ?_
  refine Jm (st' := [.box i0 157 [.d (.sl (l.map encD)), .d (.v (.int .i64 (erS (X.2 || Y.2) σ).1)), .d (.v (.int .i64 (erS (X.2 || Y.2) σ).2))]]) (by simp) (by simp only [Tryz.results168]; rfl) (by simp [resP, St.box?, PF.get, Jn, TyK.agg, *]; rfl) (by repeat (first | exact List.Sublist.refl _ | exact List.nil_sublist _ | refine List.Sublist.cons_cons _ ?_ | refine List.Sublist.cons _ ?_)) ?_
  exact ⟨by simp [tupP, PV.norm2, PV.norm1, PV.norm0], rfl⟩
 ·refine PCalls.enter Tryz.func168 rfl Tryz.ntmps168 (by simp) ?_
  simp only [Qaa]
  refine go_ ?_
  refine Jd ?_
  intro i5 hi5
  try simp only [Ja, Rh, Rg, Jb] at hi5
  refine go_ ?_
  refine Je ?_
  intro i6 hi6
  try simp only [Ja, Rh, Rg, Jb] at hi6
  refine go_ ?_
  refine Je ?_
  intro i7 hi7
  try simp only [Ja, Rh, Rg, Jb] at hi7
  refine go_ ?_
  refine Rd ?_
  refine go_ ?_
  refine Rd ?_
  refine go_ ?_
  refine Re 3 1 (D1.out) ?_
  rintro _ _ ⟨rfl, rfl⟩
  simp only [List.cons_append, List.nil_append, List.append_nil, Ja, Rh, Rg]
  refine go_ ?_
  refine Je ?_
  intro i8 hi8
  try simp only [Ja, Rh, Rg, Jb] at hi8
  refine go_ ?_
  refine Rd ?_
  refine go_ ?_
  refine Jr (hH.out) ?_
  refine go_ ?_
  refine Re 4 1 (hfr.out (erS X.2 σ)) ?_
  rintro _ _ ⟨rfl, rfl⟩
  simp only [List.cons_append, List.nil_append, List.append_nil, Ja, Rh, Rg]
  refine go_ ?_
  refine Rd ?_
  refine go_ ?_
  refine Qew (J := Qdp [(i5, _), (i7, _), (i8, _)]) [(0, .a), (1, .a), (2, .a), (3, .a), (4, .a), (5, .a), (6, .a), (7, .a), (8, .a), (9, .a), (10, .a), (12, .a), (13, .a), (14, .a), (15, .a), (11, .e), (16, .e), (17, .a), (18, .a), (19, .e)] (by kernel_rfl) (by rfl) (by kernel_rfl) (by (repeat (first | exact Qat _ | refine Ju (by simp [St.box?, *] <;> rfl) ?_))) ?_
  repeat (first | with_reducible refine Qbj ?_ | refine Qbi ?_ | refine Qbw ?_ | refine Qbv ?_)
  refine Qkl ?_ (Qal _)
  repeat (first | with_reducible refine Qbj ?_ | refine Qbi ?_ | refine Qbw ?_ | refine Qbv ?_)
  refine PL_bs ?_ rfl (by decide) rfl (by simp; rfl) (by rfl) (by simp; rfl) (by rfl) (by decide) (by decide) (by simp [nev, nevA, nevB, Jp, PF.eval, PF.get, PF.wants, cPV, Qad, PV.rows, Qae, evUn, Jq, Qag, Qaf, Jn, TyK.agg, Qac, St.box?, St.tok?, St.setBox, St.setTok, Qab, spl, PV.ps, PV.one, Jo, aggD, slD, Jh, Jk, Ji, Jj, Jg, Jf, *]; rfl) (by simp [Qcu, toDs, PV.toD]; rfl)
  repeat (first | with_reducible refine Qbj ?_ | refine Qbi ?_ | refine Qbw ?_ | refine Qbv ?_)
  refine Qjm ?_ ?_ ?_ ?_ ?_ ?_ ?_
  rotate_left
  ·exact Qal _
  ·exact Qau rfl
  ·simp
  ·exact .inr (by (repeat (first | exact Qat _ | refine Ju (by simp [St.box?, *] <;> rfl) ?_)))
  ·simp [maxLen]; omega
  ·simp; omega
  repeat (first | with_reducible refine Qbj ?_ | refine Qbi ?_ | refine Qbw ?_ | refine Qbv ?_)
  refine Qie 4 1 (D2.out) ?_
  rintro _ _ ⟨rfl, rfl⟩
  refine ⟨.inr (by (repeat (first | exact Qat _ | refine Ju (by simp [St.box?, *] <;> rfl) ?_))), ?_⟩
  simp only [List.cons_append, List.nil_append, List.append_nil, Ja, Rh, Rg]
  repeat (first | with_reducible refine Qbj ?_ | refine Qbi ?_ | refine Qbw ?_ | refine Qbv ?_)
  refine PL_bs ?_ rfl (by decide) rfl (by simp; rfl) (by rfl) (by simp; rfl) (by rfl) (by decide) (by decide) (by simp [nev, nevA, nevB, Jp, PF.eval, PF.get, PF.wants, cPV, Qad, PV.rows, Qae, evUn, Jq, Qag, Qaf, Jn, TyK.agg, Qac, St.box?, St.tok?, St.setBox, St.setTok, Qab, spl, PV.ps, PV.one, Jo, aggD, slD, Jh, Jk, Ji, Jj, Jg, Jf, *]; rfl) (by simp [Qcu, toDs, PV.toD]; rfl)
  repeat (first | with_reducible refine Qbj ?_ | refine Qbi ?_ | refine Qbw ?_ | refine Qbv ?_)
  refine Qgq rfl rfl (by simp [nev, nevA, nevB, Jp, PF.eval, PF.get, PF.wants, cPV, Qad, PV.rows, Qae, evUn, Jq, Qag, Qaf, Jn, TyK.agg, Qac, St.box?, St.tok?, St.setBox, St.setTok, Qab, spl, PV.ps, PV.one, Jo, aggD, slD, Jh, Jk, Ji, Jj, Jg, Jf, *]; rfl) (by rfl) (by simp [nev, nevA, nevB, Jp, PF.eval, PF.get, PF.wants, cPV, Qad, PV.rows, Qae, evUn, Jq, Qag, Qaf, Jn, TyK.agg, Qac, St.box?, St.tok?, St.setBox, St.setTok, Qab, spl, PV.ps, PV.one, Jo, aggD, slD, Jh, Jk, Ji, Jj, Jg, Jf, *]; rfl) (by simp [PV.ps, aggD, slD, Jh, Jk, Ji, Jj, Jg, Jf]; rfl) (by first | rfl | (simp [*]; done) | (simp [PV.one, *]; done) | fail) (by simp; rfl) (by first | (simp; done) | fail) (by simp [nev, nevA, nevB, Jp, PF.eval, PF.get, PF.wants, cPV, Qad, PV.rows, Qae, evUn, Jq, Qag, Qaf, Jn, TyK.agg, Qac, St.box?, St.tok?, St.setBox, St.setTok, Qab, spl, PV.ps, PV.one, Jo, aggD, slD, Jh, Jk, Ji, Jj, Jg, Jf, *]; rfl) (by rfl) (by first | (simp; done) | fail) (by simp [St.setBox, spl, *]; rfl) (by first | exact .inl (by decide +kernel) | exact .inr (by (repeat (first | exact Qat _ | refine Ju (by simp [St.box?, *] <;> rfl) ?_)))) ?_
  repeat (first | with_reducible refine Qbj ?_ | refine Qbi ?_ | refine Qbw ?_ | refine Qbv ?_)
  refine go_ ?_
  refine Rd ?_
  refine go_ ?_
  refine Jm (st' := [.box i0 157 [.d (.sl (l.map encD)), .d (.v (.int .i64 (erS (X.2 || Y.2) σ).1)), .d (.v (.int .i64 (erS (X.2 || Y.2) σ).2))]]) (by simp) (by simp only [Tryz.results168]; rfl) (by simp [resP, St.box?, PF.get, Jn, TyK.agg, *]; rfl) (by repeat (first | exact List.Sublist.refl _ | exact List.nil_sublist _ | refine List.Sublist.cons_cons _ ?_ | refine List.Sublist.cons _ ?_)) ?_
  exact ⟨by simp [tupP, PV.norm2, PV.norm1, PV.norm0], rfl⟩
theorem hg_twoT (k n : Int) (x y : Tm) : chgT x + 1 ≤ chgT (.mk k n [x, y]) ∧ chgT y + 1 ≤ chgT (.mk k n [x, y]) := by
 simp only [chgT, chgL]; omega
theorem sexpr_p (l : List En) : ∀ (t : Tm) (ns : List ByteArray), Qah t = true → inX l.length t ns.length = true → l.length + ns.length + chgT t ≤ 300 → XC l t ns := by
 refine Tm.ind ?_
 intro k n sub ih ns hg hin hh i0 σ
 have hnl : ns.length ≤ 300 := by omega
 rcases Qke hg with ⟨hk, rfl, h0, h1⟩ | ⟨x, rfl, rfl⟩ | ⟨x, y, hk, rfl, rfl, gx, gy⟩
 ·clear ih
  rcases hk with rfl | rfl | rfl | rfl
  ·rw [inX_var] at hin
   have hv := svariable_p i0 l σ ns n h0 (of_decide_eq_true hin) (by omega)
   rw [ex_var]
   generalize varX ns n = R at *
   rw [Qfy] at hv ⊢
   rw [Qds]
   unfold scS at hv ⊢
   have HV := Lib.hid hv
   clear hv hin hg hh
   refine PCalls.enter Tryz.func109 rfl Tryz.ntmps109 (by simp) ?_
   simp only [Qaa]
   refine go_ ?_
   refine Jd ?_
   intro i5 hi5
   try simp only [Ja, Rh, Rg, Jb] at hi5
   refine go_ ?_
   refine Je ?_
   intro i6 hi6
   try simp only [Ja, Rh, Rg, Jb] at hi6
   refine go_ ?_
   refine Re 2 1 (HV.out) ?_
   rintro _ _ ⟨rfl, rfl⟩
   simp only [List.cons_append, List.nil_append, List.append_nil, Ja, Rh, Rg]
   refine go_ ?_
   refine Rd ?_
   refine go_ ?_
   refine Jm (st' := [.box i0 157 [.d (.sl (l.map encD)), .d (.v (.int .i64 (erS R.2 σ).1)), .d (.v (.int .i64 (erS R.2 σ).2))]]) (by simp) (by simp only [Tryz.results109]; rfl) (by simp [resP, St.box?, PF.get, Jn, TyK.agg, *]; rfl) (by repeat (first | exact List.Sublist.refl _ | exact List.nil_sublist _ | refine List.Sublist.cons_cons _ ?_ | refine List.Sublist.cons _ ?_)) ?_
   exact ⟨by simp [tupP, PV.norm2, PV.norm1, PV.norm0], rfl⟩
  ·rw [ex_set, Qdf, Qds]
   unfold scS
   clear hin hg hh
   refine PCalls.enter Tryz.func109 rfl Tryz.ntmps109 (by simp) ?_
   simp only [Qaa]
   refine go_ ?_
   refine Jd ?_
   intro i5 hi5
   try simp only [Ja, Rh, Rg, Jb] at hi5
   refine go_ ?_
   refine Je ?_
   intro i6 hi6
   try simp only [Ja, Rh, Rg, Jb] at hi6
   refine go_ ?_
   refine Rd ?_
   refine go_ ?_
   refine Jm (st' := [.box i0 157 [.d (.sl (l.map encD)), .d (.v (.int .i64 σ.1)), .d (.v (.int .i64 σ.2))]]) (by simp) (by simp only [Tryz.results109]; rfl) (by simp [resP, St.box?, PF.get, Jn, TyK.agg, *]; rfl) (by repeat (first | exact List.Sublist.refl _ | exact List.nil_sublist _ | refine List.Sublist.cons_cons _ ?_ | refine List.Sublist.cons _ ?_)) ?_
   exact ⟨by simp [tupP, PV.norm2, PV.norm1, PV.norm0], rfl⟩
  ·rw [inX_con] at hin
   have hin2 := of_decide_eq_true hin
   obtain ⟨m, rfl⟩ : ∃ m : Nat, n = m := ⟨n.toNat, by omega⟩
   have hlt : m < l.length := by omega
   obtain ⟨e, he⟩ : ∃ e, l[m]? = some e := ⟨l[m], List.getElem?_eq_getElem hlt⟩
   have hx : (l.map encD)[m]? = some (encD e) := by rw [List.getElem?_map, he]; rfl
   have hc : (m : Int) < l.length := by omega
   have hn : (0 : Int) ≤ m := by omega
   have hP := Lib.hid (nplace_p ns e.name)
   have hR : conX l ns m = (.mk 1 0 e.name 0 [], decide (0 ≤ Qap ns e.name ns.length)) := by unfold conX; rw [Int.toNat_natCast, he]
   rw [ex_con, hR, Qdf, Qds]
   have hF := Qjk i0 l σ 16 0
   unfold scS at hF ⊢
   have HF := Lib.hid hF
   clear hF hR hin hin2 hg hh he hlt h0 h1
   generalize Qap ns e.name ns.length = pl at *
   by_cases hp : 0 ≤ pl
   ·rw [decide_eq_true hp]
    refine PCalls.enter Tryz.func109 rfl Tryz.ntmps109 (by simp) ?_
    simp only [Qaa]
    refine go_ ?_
    refine Jd ?_
    intro i5 hi5
    try simp only [Ja, Rh, Rg, Jb] at hi5
    refine go_ ?_
    refine Je ?_
    intro i6 hi6
    try simp only [Ja, Rh, Rg, Jb] at hi6
    refine go_ ?_
    refine Qay [(0, .a), (1, .a), (2, .a), (3, .a), (4, .b), (5, .a), (6, .b), (7, .a), (8, .a), (9, .a), (10, .a), (11, .a)] (by kernel_rfl) (by rfl) (by kernel_rfl) ?_
    refine go_ ?_
    refine Qbd (hP.out) ?_
    refine go_ ?_
    refine Re 2 1 (HF.out) ?_
    rintro _ _ ⟨rfl, rfl⟩
    simp only [List.cons_append, List.nil_append, List.append_nil, Ja, Rh, Rg]
    refine go_ ?_
    refine Qay [(0, .a), (1, .a), (2, .a), (3, .b), (4, .a), (5, .b), (6, .a), (7, .a), (8, .a), (9, .a), (10, .e)] (by kernel_rfl) (by rfl) (by kernel_rfl) ?_
    refine go_ ?_
    refine Qgz ?_
    refine go_ ?_
    refine Jm (st' := [.box i0 157 [.d (.sl (l.map encD)), .d (.v (.int .i64 (fsS 16 0 σ).1)), .d (.v (.int .i64 (fsS 16 0 σ).2))]]) (by simp) (by simp only [Tryz.results109]; rfl) (by simp [resP, St.box?, PF.get, Jn, TyK.agg, *]; rfl) (by repeat (first | exact List.Sublist.refl _ | exact List.nil_sublist _ | refine List.Sublist.cons_cons _ ?_ | refine List.Sublist.cons _ ?_)) ?_
    exact ⟨by simp [tupP, PV.norm2, PV.norm1, PV.norm0], rfl⟩
   ·rw [decide_eq_false hp]
    refine PCalls.enter Tryz.func109 rfl Tryz.ntmps109 (by simp) ?_
    simp only [Qaa]
    refine go_ ?_
    refine Jd ?_
    intro i5 hi5
    try simp only [Ja, Rh, Rg, Jb] at hi5
    refine go_ ?_
    refine Je ?_
    intro i6 hi6
    try simp only [Ja, Rh, Rg, Jb] at hi6
    refine go_ ?_
    refine Qay [(0, .a), (1, .a), (2, .a), (3, .a), (4, .b), (5, .a), (6, .b), (7, .a), (8, .a), (9, .a), (10, .a), (11, .a)] (by kernel_rfl) (by rfl) (by kernel_rfl) ?_
    refine go_ ?_
    refine Qbd (hP.out) ?_
    refine go_ ?_
    refine Qay [(0, .a), (1, .a), (2, .a), (3, .b), (4, .a), (5, .b), (6, .a), (7, .a), (8, .a), (9, .a), (10, .e)] (by kernel_rfl) (by rfl) (by kernel_rfl) ?_
    refine go_ ?_
    refine Qgz ?_
    refine go_ ?_
    refine Jm (st' := [.box i0 157 [.d (.sl (l.map encD)), .d (.v (.int .i64 σ.1)), .d (.v (.int .i64 σ.2))]]) (by simp) (by simp only [Tryz.results109]; rfl) (by simp [resP, St.box?, PF.get, Jn, TyK.agg, *]; rfl) (by repeat (first | exact List.Sublist.refl _ | exact List.nil_sublist _ | refine List.Sublist.cons_cons _ ?_ | refine List.Sublist.cons _ ?_)) ?_
    exact ⟨by simp [tupP, PV.norm2, PV.norm1, PV.norm0], rfl⟩
  ·rw [ex_free]
   unfold zNdX
   rw [Qdf, Qds]
   have hF := Qjk i0 l σ 16 0
   unfold scS at hF ⊢
   have HF := Lib.hid hF
   clear hF hin hg hh
   refine PCalls.enter Tryz.func109 rfl Tryz.ntmps109 (by simp) ?_
   simp only [Qaa]
   refine go_ ?_
   refine Jd ?_
   intro i5 hi5
   try simp only [Ja, Rh, Rg, Jb] at hi5
   refine go_ ?_
   refine Je ?_
   intro i6 hi6
   try simp only [Ja, Rh, Rg, Jb] at hi6
   refine go_ ?_
   refine Re 2 1 (HF.out) ?_
   rintro _ _ ⟨rfl, rfl⟩
   simp only [List.cons_append, List.nil_append, List.append_nil, Ja, Rh, Rg]
   refine go_ ?_
   refine Rd ?_
   refine go_ ?_
   refine Jm (st' := [.box i0 157 [.d (.sl (l.map encD)), .d (.v (.int .i64 (fsS 16 0 σ).1)), .d (.v (.int .i64 (fsS 16 0 σ).2))]]) (by simp) (by simp only [Tryz.results109]; rfl) (by simp [resP, St.box?, PF.get, Jn, TyK.agg, *]; rfl) (by repeat (first | exact List.Sublist.refl _ | exact List.nil_sublist _ | refine List.Sublist.cons_cons _ ?_ | refine List.Sublist.cons _ ?_)) ?_
   exact ⟨by simp [tupP, PV.norm2, PV.norm1, PV.norm0], rfl⟩
 ·clear ih
  rw [ex_elim]
  unfold zNdX
  rw [Qdf, Qds]
  have hF := Qjk i0 l σ 16 0
  unfold scS at hF ⊢
  have HF := Lib.hid hF
  clear hF hin hg hh
  refine PCalls.enter Tryz.func109 rfl Tryz.ntmps109 (by simp) ?_
  simp only [Qaa]
  refine go_ ?_
  refine Jd ?_
  intro i5 hi5
  try simp only [Ja, Rh, Rg, Jb] at hi5
  refine go_ ?_
  refine Je ?_
  intro i6 hi6
  try simp only [Ja, Rh, Rg, Jb] at hi6
  refine go_ ?_
  refine Re 2 1 (HF.out) ?_
  rintro _ _ ⟨rfl, rfl⟩
  simp only [List.cons_append, List.nil_append, List.append_nil, Ja, Rh, Rg]
  refine go_ ?_
  refine Rd ?_
  refine go_ ?_
  refine Jm (st' := [.box i0 157 [.d (.sl (l.map encD)), .d (.v (.int .i64 (fsS 16 0 σ).1)), .d (.v (.int .i64 (fsS 16 0 σ).2))]]) (by simp) (by simp only [Tryz.results109]; rfl) (by simp [resP, St.box?, PF.get, Jn, TyK.agg, *]; rfl) (by repeat (first | exact List.Sublist.refl _ | exact List.nil_sublist _ | refine List.Sublist.cons_cons _ ?_ | refine List.Sublist.cons _ ?_)) ?_
  exact ⟨by simp [tupP, PV.norm2, PV.norm1, PV.norm0], rfl⟩
 ·rw [inX_two, Bool.and_eq_true] at hin
  obtain ⟨q1, q2⟩ := hg_twoT k 0 x y
  have c1 : XC l x ns := ih x (by simp) ns gx hin.1 (by omega)
  by_cases h5 : k = 5
  ·rw [if_pos h5] at hin
   have c2 : XC l y ns := ih y (by simp) ns gy hin.2 (by omega)
   subst h5
   rw [ex_app]
   have d1 := c1 i0 σ
   have d2 := c2 i0 (erS (exT l x ns).2 σ)
   simp only [erS_or] at d2
   clear c1 c2 ih hin hg hh hk q1 q2
   generalize exT l x ns = X at *
   generalize exT l y ns = Y at *
   rw [Qdf]
   rw [Qds]
   rw [Qfy, Qdg] at d1 d2
   simp only [List.map_cons, List.map_nil, Jl, Jh]
   unfold scS at d1 d2 ⊢
   have D1 := Lib.hid d1
   have D2 := Lib.hid d2
   clear d1 d2
   refine PCalls.enter Tryz.func109 rfl Tryz.ntmps109 (by simp) ?_
   simp only [Qaa]
   refine go_ ?_
   refine Jd ?_
   intro i5 hi5
   try simp only [Ja, Rh, Rg, Jb] at hi5
   refine go_ ?_
   refine Je ?_
   intro i6 hi6
   try simp only [Ja, Rh, Rg, Jb] at hi6
   refine go_ ?_
   refine Re 2 1 (D1.out) ?_
   rintro _ _ ⟨rfl, rfl⟩
   simp only [List.cons_append, List.nil_append, List.append_nil, Ja, Rh, Rg]
   refine go_ ?_
   refine Je ?_
   intro i7 hi7
   try simp only [Ja, Rh, Rg, Jb] at hi7
   refine go_ ?_
   refine Rd ?_
   refine go_ ?_
   refine Qew (J := Qdp [(i5, _), (i7, _)]) [(0, .a), (1, .a), (2, .a), (3, .a), (4, .a), (5, .a), (6, .a), (7, .e), (8, .a), (9, .a), (10, .e)] (by kernel_rfl) (by rfl) (by kernel_rfl) (by (repeat (first | exact Qat _ | refine Ju (by simp [St.box?, *] <;> rfl) ?_))) ?_
   repeat (first | with_reducible refine Qbj ?_ | refine Qbi ?_ | refine Qbw ?_ | refine Qbv ?_)
   refine Qie 3 1 (D2.out) ?_
   rintro _ _ ⟨rfl, rfl⟩
   refine ⟨.inr (by (repeat (first | exact Qat _ | refine Ju (by simp [St.box?, *] <;> rfl) ?_))), ?_⟩
   simp only [List.cons_append, List.nil_append, List.append_nil, Ja, Rh, Rg]
   repeat (first | with_reducible refine Qbj ?_ | refine Qbi ?_ | refine Qbw ?_ | refine Qbv ?_)
   refine PL_bs ?_ rfl (by decide) rfl (by simp; rfl) (by rfl) (by simp; rfl) (by rfl) (by decide) (by decide) (by simp [nev, nevA, nevB, Jp, PF.eval, PF.get, PF.wants, cPV, Qad, PV.rows, Qae, evUn, Jq, Qag, Qaf, Jn, TyK.agg, Qac, St.box?, St.tok?, St.setBox, St.setTok, Qab, spl, PV.ps, PV.one, Jo, aggD, slD, Jh, Jk, Ji, Jj, Jg, Jf, *]; rfl) (by simp [Qcu, toDs, PV.toD]; rfl)
   repeat (first | with_reducible refine Qbj ?_ | refine Qbi ?_ | refine Qbw ?_ | refine Qbv ?_)
   refine Qgq rfl rfl (by simp [nev, nevA, nevB, Jp, PF.eval, PF.get, PF.wants, cPV, Qad, PV.rows, Qae, evUn, Jq, Qag, Qaf, Jn, TyK.agg, Qac, St.box?, St.tok?, St.setBox, St.setTok, Qab, spl, PV.ps, PV.one, Jo, aggD, slD, Jh, Jk, Ji, Jj, Jg, Jf, *]; rfl) (by rfl) (by simp [nev, nevA, nevB, Jp, PF.eval, PF.get, PF.wants, cPV, Qad, PV.rows, Qae, evUn, Jq, Qag, Qaf, Jn, TyK.agg, Qac, St.box?, St.tok?, St.setBox, St.setTok, Qab, spl, PV.ps, PV.one, Jo, aggD, slD, Jh, Jk, Ji, Jj, Jg, Jf, *]; rfl) (by simp [PV.ps, aggD, slD, Jh, Jk, Ji, Jj, Jg, Jf]; rfl) (by first | rfl | (simp [*]; done) | (simp [PV.one, *]; done) | fail) (by simp; rfl) (by first | (simp; done) | fail) (by simp [nev, nevA, nevB, Jp, PF.eval, PF.get, PF.wants, cPV, Qad, PV.rows, Qae, evUn, Jq, Qag, Qaf, Jn, TyK.agg, Qac, St.box?, St.tok?, St.setBox, St.setTok, Qab, spl, PV.ps, PV.one, Jo, aggD, slD, Jh, Jk, Ji, Jj, Jg, Jf, *]; rfl) (by rfl) (by first | (simp; done) | fail) (by simp [St.setBox, spl, *]; rfl) (by first | exact .inl (by decide +kernel) | exact .inr (by (repeat (first | exact Qat _ | refine Ju (by simp [St.box?, *] <;> rfl) ?_)))) ?_
   repeat (first | with_reducible refine Qbj ?_ | refine Qbi ?_ | refine Qbw ?_ | refine Qbv ?_)
   refine go_ ?_
   refine Jm (st' := [.box i0 157 [.d (.sl (l.map encD)), .d (.v (.int .i64 (erS (X.2 || Y.2) σ).1)), .d (.v (.int .i64 (erS (X.2 || Y.2) σ).2))]]) (by simp) (by simp only [Tryz.results109]; rfl) (by simp [resP, St.box?, PF.get, Jn, TyK.agg, *]; rfl) (by repeat (first | exact List.Sublist.refl _ | exact List.nil_sublist _ | refine List.Sublist.cons_cons _ ?_ | refine List.Sublist.cons _ ?_)) ?_
   exact ⟨by simp [tupP, PV.norm2, PV.norm1, PV.norm0], rfl⟩
  ·rw [if_neg h5] at hin
   have hk2 : k = 3 ∨ k = 4 := by omega
   have c2 : XC l y (ns ++ [bndX l ns k y]) := ih y (by simp) _ gy (by rw [List.length_append, List.length_singleton]; exact hin.2) (by rw [List.length_append, List.length_singleton]; omega)
   have hb := sbinder_p l k 0 hk2 x y ns (by omega) c1 c2 i0 σ
   clear c1 c2 ih hin hg hh hk q1 q2 h5
   generalize exT l (.mk k 0 [x, y]) ns = R at *
   rw [Qds] at hb ⊢
   rw [Qfy] at hb ⊢
   simp only [List.map_cons, List.map_nil, Jl] at hb ⊢
   unfold scS at hb ⊢
   have HB := Lib.hid hb
   clear hb
   rcases hk2 with rfl | rfl
   all_goals
    refine PCalls.enter Tryz.func109 rfl Tryz.ntmps109 (by simp) ?_
    simp only [Qaa]
    refine go_ ?_
    refine Jd ?_
    intro i5 hi5
    try simp only [Ja, Rh, Rg, Jb] at hi5
    refine go_ ?_
    refine Je ?_
    intro i6 hi6
    try simp only [Ja, Rh, Rg, Jb] at hi6
    refine go_ ?_
    refine Re 2 1 (HB.out) ?_
    rintro _ _ ⟨rfl, rfl⟩
    simp only [List.cons_append, List.nil_append, List.append_nil, Ja, Rh, Rg]
    refine go_ ?_
    refine Rd ?_
    refine go_ ?_
    refine Jm (st' := [.box i0 157 [.d (.sl (l.map encD)), .d (.v (.int .i64 (erS R.2 σ).1)), .d (.v (.int .i64 (erS R.2 σ).2))]]) (by simp) (by simp only [Tryz.results109]; rfl) (by simp [resP, St.box?, PF.get, Jn, TyK.agg, *]; rfl) (by repeat (first | exact List.Sublist.refl _ | exact List.nil_sublist _ | refine List.Sublist.cons_cons _ ?_ | refine List.Sublist.cons _ ?_)) ?_
    exact ⟨by simp [tupP, PV.norm2, PV.norm1, PV.norm0], rfl⟩
noncomputable def xpA (l : List En) (ns : List ByteArray) (t : Tm) : Nd × Int :=
 if Qcm t ns.length l.length = true then (if chkE l ns = 0 then (if (exT l t ns).2 = true then (zNdX, 16) else if Qdj (exT l t ns).1 = true then ((exT l t ns).1, 0) else (zNdX, 2)) else (zNdX, chkE l ns)) else (zNdX, 5)
def xpP (x : Nd × Int) : PV := .tup [aggD x.1, .d (.v (.int .i64 x.2))]
theorem sExpr_p (l : List En) (ns : List ByteArray) (t : Tm) (ho : ∀ e ∈ l, EnOk e) (hl : l.length ≤ 60) : PCalls Tryz.prog 54 [.d (.sl (l.map encD)), .d (.sl (ns.map encD)), aggD t] [] fun p s => p = xpP (xpA l ns t) ∧ s = [] := by
  have hE := Lib.hid (tRight_p t ns.length l.length)
  have hC := Lib.hid (scheck_p l ns ho)
  have hT := fun (h1 : Qcm t ns.length l.length = true) (h2 : chkE l ns = 0) (i0 : Nat) => sexpr_p l t ns (Qaw (Qgt h1).1).1 (Qgt h1).2 (by have := (Qaw (Qgt h1).1).2.1; have := (Qjf h2).1; omega) i0 (0, 0)
  have hS := Lib.hid (texpr_p (exT l t ns).1)
  obtain ⟨R, hR⟩ : ∃ R, R = xpA l ns t := ⟨_, rfl⟩
  rw [← hR]
  unfold xpA at hR
  have HR := Lib.hid hR
  have HT := Lib.hid hT
  clear hR hT ho hl
  generalize Qcm t ns.length l.length = ex at *
  generalize chkE l ns = ck at *
  generalize exT l t ns = X at *
  obtain ⟨N, eb⟩ := X
  simp only at HT hS HR
  generalize Qdj N = sh at *
  simp only [aggD, Jh, Jl, List.map_cons, List.map_nil] at hE HT hS ⊢
  cases ex with
  | false =>
    have hf : Hid (R = (zNdX, 5)) := HR.out
    rw [hf.out]
    unfold zNdX xpP
    rw [Qdf]
    clear HR hf HT hS hC
    refine PCalls.enter Tryz.func54 rfl Tryz.ntmps54 (by simp) ?_
    simp only [Qaa]
    refine go_ ?_
    refine Jd ?_
    intro i5 hi5
    try simp only [Ja, Rh, Rg, Jb] at hi5
    refine go_ ?_
    refine Je ?_
    intro i6 hi6
    try simp only [Ja, Rh, Rg, Jb] at hi6
    refine go_ ?_
    refine Jc (hE.out) ?_
    refine go_ ?_
    refine Rd ?_
    refine go_ ?_
    refine Jm (by simp) (by simp only [Tryz.results54]; rfl) (by simp [resP, St.box?, PF.get, Jn, TyK.agg, *]; rfl) Nl ?_
    exact ⟨by simp [tupP, PV.norm2, PV.norm1, PV.norm0], rfl⟩
  | true =>
  by_cases hck : ck = 0
  rotate_left
  · have hf : Hid (R = (zNdX, ck)) := by show _ = _; rw [show R = _ from HR.out, if_pos rfl, if_neg hck]
    rw [hf.out]
    unfold zNdX xpP
    rw [Qdf]
    clear HR hf HT hS
    refine PCalls.enter Tryz.func54 rfl Tryz.ntmps54 (by simp) ?_
    simp only [Qaa]
    refine go_ ?_
    refine Jd ?_
    intro i5 hi5
    try simp only [Ja, Rh, Rg, Jb] at hi5
    refine go_ ?_
    refine Je ?_
    intro i6 hi6
    try simp only [Ja, Rh, Rg, Jb] at hi6
    refine go_ ?_
    refine Jc (hE.out) ?_
    refine go_ ?_
    refine Jc (hC.out) ?_
    refine go_ ?_
    refine Rd ?_
    refine go_ ?_
    refine Jm (by simp) (by simp only [Tryz.results54]; rfl) (by simp [resP, St.box?, PF.get, Jn, TyK.agg, *]; rfl) Nl ?_
    exact ⟨by simp [tupP, PV.norm2, PV.norm1, PV.norm0], rfl⟩
  subst hck
  have hTT := HT.out rfl rfl
  clear HT
  unfold scS at hTT
  cases eb with
  | true =>
    have hf : Hid (R = (zNdX, 16)) := by show _ = _; rw [show R = _ from HR.out]; rfl
    rw [hf.out]
    have HT := Lib.hid hTT
    unfold zNdX xpP
    rw [Qdf]
    simp only [erS, fsS, if_true] at HT
    clear HR hf hS hTT
    refine PCalls.enter Tryz.func54 rfl Tryz.ntmps54 (by simp) ?_
    simp only [Qaa]
    refine go_ ?_
    refine Jd ?_
    intro i5 hi5
    try simp only [Ja, Rh, Rg, Jb] at hi5
    refine go_ ?_
    refine Je ?_
    intro i6 hi6
    try simp only [Ja, Rh, Rg, Jb] at hi6
    refine go_ ?_
    refine Jc (hE.out) ?_
    refine go_ ?_
    refine Jc (hC.out) ?_
    refine go_ ?_
    refine Jd ?_
    intro i7 hi7
    try simp only [Ja, Rh, Rg, Jb] at hi7
    refine go_ ?_
    refine Re 0 1 (HT.out i7) ?_
    rintro _ _ ⟨rfl, rfl⟩
    simp only [List.cons_append, List.nil_append, List.append_nil, Ja, Rh, Rg]
    refine go_ ?_
    refine Je ?_
    intro i8 hi8
    try simp only [Ja, Rh, Rg, Jb] at hi8
    refine go_ ?_
    refine Rd ?_
    refine go_ ?_
    refine Qew (J := Qdp [(i7, _)]) [(0, .a), (1, .a), (2, .a), (3, .a), (4, .a), (5, .e), (6, .a)] (by kernel_rfl) (by rfl) (by kernel_rfl) (by (repeat (first | exact Qat _ | refine Ju (by simp [St.box?, *] <;> rfl) ?_))) ?_
    repeat (first | with_reducible refine Qbj ?_ | refine Qbi ?_ | refine Qbw ?_ | refine Qbv ?_)
    refine Qgq rfl rfl (by simp [nev, nevA, nevB, Jp, PF.eval, PF.get, PF.wants, cPV, Qad, PV.rows, Qae, evUn, Jq, Qag, Qaf, Jn, TyK.agg, Qac, St.box?, St.tok?, St.setBox, St.setTok, Qab, spl, PV.ps, PV.one, Jo, aggD, slD, Jh, Jk, Ji, Jj, Jg, Jf, *]; rfl) (by rfl) (by simp [nev, nevA, nevB, Jp, PF.eval, PF.get, PF.wants, cPV, Qad, PV.rows, Qae, evUn, Jq, Qag, Qaf, Jn, TyK.agg, Qac, St.box?, St.tok?, St.setBox, St.setTok, Qab, spl, PV.ps, PV.one, Jo, aggD, slD, Jh, Jk, Ji, Jj, Jg, Jf, *]; rfl) (by simp [PV.ps, aggD, slD, Jh, Jk, Ji, Jj, Jg, Jf]; rfl) (by first | rfl | (simp [*]; done) | (simp [PV.one, *]; done) | fail) (by simp; rfl) (by first | (simp; done) | fail) (by simp [nev, nevA, nevB, Jp, PF.eval, PF.get, PF.wants, cPV, Qad, PV.rows, Qae, evUn, Jq, Qag, Qaf, Jn, TyK.agg, Qac, St.box?, St.tok?, St.setBox, St.setTok, Qab, spl, PV.ps, PV.one, Jo, aggD, slD, Jh, Jk, Ji, Jj, Jg, Jf, *]; rfl) (by rfl) (by first | (simp; done) | fail) (by simp [St.setBox, spl, *]; rfl) (by first | exact .inl (by decide +kernel) | exact .inr (by (repeat (first | exact Qat _ | refine Ju (by simp [St.box?, *] <;> rfl) ?_)))) ?_
    repeat (first | with_reducible refine Qbj ?_ | refine Qbi ?_ | refine Qbw ?_ | refine Qbv ?_)
    refine go_ ?_
    refine Jm (by simp) (by simp only [Tryz.results54]; rfl) (by simp [resP, St.box?, PF.get, Jn, TyK.agg, *]; rfl) Nl ?_
    exact ⟨by simp [tupP, PV.norm2, PV.norm1, PV.norm0], rfl⟩
  | false =>
    have HT := Lib.hid hTT
    simp only [erS] at HT
    cases sh with
    | false =>
      have hf : Hid (R = (zNdX, 2)) := by show _ = _; rw [show R = _ from HR.out]; rfl
      rw [hf.out]
      unfold zNdX xpP
      rw [Qdf]
      clear HR hf hTT
      refine PCalls.enter Tryz.func54 rfl Tryz.ntmps54 (by simp) ?_
      simp only [Qaa]
      refine go_ ?_
      refine Jd ?_
      intro i5 hi5
      try simp only [Ja, Rh, Rg, Jb] at hi5
      refine go_ ?_
      refine Je ?_
      intro i6 hi6
      try simp only [Ja, Rh, Rg, Jb] at hi6
      refine go_ ?_
      refine Jc (hE.out) ?_
      refine go_ ?_
      refine Jc (hC.out) ?_
      refine go_ ?_
      refine Jd ?_
      intro i7 hi7
      try simp only [Ja, Rh, Rg, Jb] at hi7
      refine go_ ?_
      refine Re 0 1 (HT.out i7) ?_
      rintro _ _ ⟨rfl, rfl⟩
      simp only [List.cons_append, List.nil_append, List.append_nil, Ja, Rh, Rg]
      refine go_ ?_
      refine Je ?_
      intro i8 hi8
      try simp only [Ja, Rh, Rg, Jb] at hi8
      refine go_ ?_
      refine Rd ?_
      refine go_ ?_
      refine Jc (hS.out) ?_
      refine go_ ?_
      refine Rd ?_
      refine go_ ?_
      refine Jm (by simp) (by simp only [Tryz.results54]; rfl) (by simp [resP, St.box?, PF.get, Jn, TyK.agg, *]; rfl) Nl ?_
      exact ⟨by simp [tupP, PV.norm2, PV.norm1, PV.norm0], rfl⟩
    | true =>
      have hf : Hid (R = (N, 0)) := by show _ = _; rw [show R = _ from HR.out]; rfl
      rw [hf.out]
      unfold xpP
      rw [Qfy]
      clear HR hf hTT
      refine PCalls.enter Tryz.func54 rfl Tryz.ntmps54 (by simp) ?_
      simp only [Qaa]
      refine go_ ?_
      refine Jd ?_
      intro i5 hi5
      try simp only [Ja, Rh, Rg, Jb] at hi5
      refine go_ ?_
      refine Je ?_
      intro i6 hi6
      try simp only [Ja, Rh, Rg, Jb] at hi6
      refine go_ ?_
      refine Jc (hE.out) ?_
      refine go_ ?_
      refine Jc (hC.out) ?_
      refine go_ ?_
      refine Jd ?_
      intro i7 hi7
      try simp only [Ja, Rh, Rg, Jb] at hi7
      refine go_ ?_
      refine Re 0 1 (HT.out i7) ?_
      rintro _ _ ⟨rfl, rfl⟩
      simp only [List.cons_append, List.nil_append, List.append_nil, Ja, Rh, Rg]
      refine go_ ?_
      refine Je ?_
      intro i8 hi8
      try simp only [Ja, Rh, Rg, Jb] at hi8
      refine go_ ?_
      refine Rd ?_
      refine go_ ?_
      refine Jc (hS.out) ?_
      refine go_ ?_
      refine Rd ?_
      refine go_ ?_
      refine Jm (by simp) (by simp only [Tryz.results54]; rfl) (by simp [resP, St.box?, PF.get, Jn, TyK.agg, *]; rfl) Nl ?_
      exact ⟨by simp [tupP, PV.norm2, PV.norm1, PV.norm0], rfl⟩
theorem xp_back {l : List En} {ns : List ByteArray} {t : Tm} (h : (xpA l ns t).2 = 0) : stA l ns (xpA l ns t).1 = (t, 0, 0) := by
 unfold xpA at h ⊢
 by_cases h1 : Qcm t ns.length l.length = true
 ·rw [if_pos h1] at h ⊢
  by_cases h2 : chkE l ns = 0
  ·rw [if_pos h2] at h ⊢
   rcases Bool.eq_false_or_eq_true (exT l t ns).2 with h3 | h3
   ·rw [if_pos h3] at h; exact absurd h (show ¬ (16 : Int) = 0 by decide)
   ·rw [if_neg (by rw [h3]; decide)] at h ⊢
    by_cases h4 : Qdj (exT l t ns).1 = true
    ·rw [if_pos h4]
     have hs := (Qgt h1).1
     have hb := scope_back l (Qjf h2).2 t ns (Qaw hs).1 h3
     unfold stA
     simp only
     rw [if_pos h4, if_pos h2, hb]
     simp only
     rw [if_pos hs]
    ·rw [if_neg h4] at h; exact absurd h (show ¬ (2 : Int) = 0 by decide)
  ·rw [if_neg h2] at h; exact absurd h h2
 ·rw [if_neg h1] at h; exact absurd h (show ¬ (5 : Int) = 0 by decide)
theorem scopeBack_p (l : List En) (ns : List ByteArray) (t : Tm) (ho : ∀ e ∈ l, EnOk e) : PCalls Tryz.prog 11 [.d (.sl (l.map encD)), .d (.sl (ns.map encD)), aggD t] [] fun p s => p = .d (.v (.bool true)) ∧ s = [] := by
 have hL := Lib.hid (slight_p l ns)
 have hA := Lib.hid Qkn
 have hS := Lib.hid (rSize_p t)
 rw [Qdg] at hS ⊢
 by_cases hlt : l.length ≤ 60 ∧ ns.length ≤ 40
 rotate_left
 ·rw [decide_eq_false hlt] at hL
  clear hlt hS ho
  refine PCalls.enter Tryz.func11 rfl Tryz.ntmps11 (by simp) ?_
  simp only [Qaa]
  refine go_ ?_
  refine Jd ?_
  intro i5 hi5
  try simp only [Ja, Rh, Rg, Jb] at hi5
  refine go_ ?_
  refine Jc (hL.out) ?_
  refine go_ ?_
  refine Jc (hA.out) ?_
  refine go_ ?_
  refine Jm (by simp) (by simp only [Tryz.results11]; rfl) (by simp [resP, St.box?, PF.get, Jn, TyK.agg, *]; rfl) Nl ?_
  exact ⟨rfl, rfl⟩
 rw [decide_eq_true hlt] at hL
 generalize Qda t = z at *
 by_cases hz : 600 < z
 ·clear hlt ho
  refine PCalls.enter Tryz.func11 rfl Tryz.ntmps11 (by simp) ?_
  simp only [Qaa]
  refine go_ ?_
  refine Jd ?_
  intro i5 hi5
  try simp only [Ja, Rh, Rg, Jb] at hi5
  refine go_ ?_
  refine Jc (hL.out) ?_
  refine go_ ?_
  refine Jr (hS.out) ?_
  refine go_ ?_
  refine Jc (hA.out) ?_
  refine go_ ?_
  refine Jm (by simp) (by simp only [Tryz.results11]; rfl) (by simp [resP, St.box?, PF.get, Jn, TyK.agg, *]; rfl) Nl ?_
  exact ⟨rfl, rfl⟩
 have h1 := sExpr_p l ns t ho hlt.1
 have h2 := sTerm_p l ns (xpA l ns t).1 ho
 have hb := fun h => xp_back (l := l) (ns := ns) (t := t) h
 have hQ := requal_p t t
 rw [ceq_refl] at hQ
 generalize xpA l ns t = X at *
 obtain ⟨N, e⟩ := X
 unfold xpP at h1
 rw [Qdg] at h1 hQ
 rw [Qfy] at h1 h2
 simp only at h1 h2 hb
 have H1 := Lib.hid h1
 have HQ := Lib.hid hQ
 clear h1 hQ hlt ho
 by_cases he : e = 0
 rotate_left
 ·have heb : (e != 0) = true := bne_iff_ne.2 he
  clear h2 hb
  refine PCalls.enter Tryz.func11 rfl Tryz.ntmps11 (by simp) ?_
  simp only [Qaa]
  refine go_ ?_
  refine Jd ?_
  intro i5 hi5
  try simp only [Ja, Rh, Rg, Jb] at hi5
  refine go_ ?_
  refine Jc (hL.out) ?_
  refine go_ ?_
  refine Jr (hS.out) ?_
  refine go_ ?_
  refine Jc (H1.out) ?_
  refine go_ ?_
  refine Je ?_
  intro i7 hi7
  try simp only [Ja, Rh, Rg, Jb] at hi7
  refine go_ ?_
  refine Rd ?_
  refine go_ ?_
  refine Jc (hA.out) ?_
  refine go_ ?_
  refine Jm (by simp) (by simp only [Tryz.results11]; rfl) (by simp [resP, St.box?, PF.get, Jn, TyK.agg, *]; rfl) Nl ?_
  exact ⟨rfl, rfl⟩
 subst he
 rw [hb rfl] at h2
 unfold stP at h2
 rw [Qdg] at h2
 have H2 := Lib.hid h2
 clear h2 hb
 refine PCalls.enter Tryz.func11 rfl Tryz.ntmps11 (by simp) ?_
 simp only [Qaa]
 refine go_ ?_
 refine Jd ?_
 intro i5 hi5
 try simp only [Ja, Rh, Rg, Jb] at hi5
 refine go_ ?_
 refine Jc (hL.out) ?_
 refine go_ ?_
 refine Jr (hS.out) ?_
 refine go_ ?_
 refine Jc (H1.out) ?_
 refine go_ ?_
 refine Je ?_
 intro i7 hi7
 try simp only [Ja, Rh, Rg, Jb] at hi7
 refine go_ ?_
 refine Rd ?_
 refine go_ ?_
 refine Jc (H2.out) ?_
 refine go_ ?_
 refine Je ?_
 intro i9 hi9
 try simp only [Ja, Rh, Rg, Jb] at hi9
 refine go_ ?_
 refine Rd ?_
 refine go_ ?_
 refine Jr (HQ.out) ?_
 refine go_ ?_
 refine Jr (hA.out) ?_
 refine go_ ?_
 refine Jm (by simp) (by simp only [Tryz.results11]; rfl) (by simp [resP, St.box?, PF.get, Jn, TyK.agg, *]; rfl) Nl ?_
 exact ⟨by simp [tupP, PV.norm2, PV.norm1, PV.norm0], rfl⟩
section
variable {H : Type} {enc : TypeId × Value → H} {w : World} {base : Nat} {spare : Nat → Bool} {held : Bool}
def TyC (w : World) (t : Tm) (cs : List Value) : Prop := Rep (fun _ => True) w t cs
theorem open_ty (n : Nat) (cs : List Value) (x : DataW H × List MemPlace) (h : DataW.trod enc Tryz.prog w base spare held n 26 cs = some x) : ∃ t, TyC w t cs := opn_tm n cs x h
end
theorem scopeBack_walk (v : Value) (l : List En) (v2 : Value) (ns : List ByteArray) (t : Tm) (cs : List Value) (w : World) (h : EnS w v l) (h2 : StS w v2 ns) (h3 : TyC w t cs) : Calls Tryz.prog 11 #[v, v2, .agg cs.toArray] w fun e w' => e = .returned (.bool true) ∧ Below w.heap.size w w' := by
 refine PCalls.top ((scopeBack_p l ns t h.2).mono fun p s hp => hp.1) ?_
 refine Qbr (.d (Qib (fun b o v _ hv => ⟨v, hv⟩) (by decide) h.1)) (Qbr (.d (Qib (fun b o v _ hv => ⟨v, hv⟩) (by decide) h2)) (Qbr (Qjh (K := K0 w) (fun b o v _ h => ⟨v, h⟩) h3) (Qey _ _)))
end Go.Proofs.YtdklpbefbamchaaGreat
