import Derived.Test.YtdklpbefbamchaaGreatBI3
set_option linter.unusedSimpArgs false
set_option linter.unusedVariables false
set_option maxHeartbeats 16000000
set_option maxRecDepth 100000
namespace Go.Proofs.YtdklpbefbamchaaGreat
open Go.RowKit
theorem two_shaped {k n : Int} {x y : Tm} (h : Qak (.mk k n [x, y]) = true) : Qak x = true ∧ Qak y = true := by
 obtain ⟨h1, h2, h3⟩ := Qaw h
 have hg := (Qby h1).2
 simp only [chgT, chgL, cndT, cndL] at h2 h3
 exact ⟨Qja (hg x (by simp)) (by omega) (by omega), Qja (hg y (by simp)) (by omega) (by omega)⟩
theorem shown_p (l : List En) : ∀ (t : Tm) (ns : List ByteArray), Qak t = true → inX l.length t ns.length = true → l.length + ns.length + chgT t ≤ 300 → YC l t ns := by
  refine Tm.ind ?_
  intro k n sub ih ns hs hin hh
  have hg := (Qaw hs).1
  have hnl : ns.length ≤ 300 := by omega
  rcases Qke hg with ⟨hk, rfl, h0, h1⟩ | ⟨x, rfl, rfl⟩ | ⟨x, y, hk, rfl, rfl, gx, gy⟩
  · clear ih hs
    unfold YC
    rcases hk with rfl | rfl | rfl | rfl
    · rw [inX_var] at hin
      have hnlt := of_decide_eq_true hin
      rw [ex_var, Qds]
      obtain ⟨j, hj⟩ : ∃ j : Nat, (ns.length : Int) - 1 - n = j := ⟨((ns.length : Int) - 1 - n).toNat, by omega⟩
      have hlt : j < ns.length := by omega
      obtain ⟨x, hxe⟩ : ∃ x, ns[j]? = some x := ⟨ns[j], List.getElem?_eq_getElem hlt⟩
      have hR : varX ns n = (.mk 1 0 x 0 [], (x.toList == [95]) || !(Qap ns x ns.length == (j : Int))) := by
        unfold varX; rw [hj, Int.toNat_natCast, hxe]
      rw [hR]
      have hx : (ns.map encD)[j]? = some [D.v (.string x)] := by rw [List.getElem?_map, hxe]; rfl
      have hP := Lib.hid (Qkw ns x)
      have hw1 := wr64 (n := (ns.length : Int) - 1) (by omega) (by omega)
      have hw2 := (wr64 (n := (ns.length : Int) - 1 - n) (by omega) (by omega)).trans hj
      have hc : (j : Int) < ns.length := by omega
      have hn : (0 : Int) ≤ j := by omega
      clear hR hj hlt hxe hin hnlt hg hh h0 h1
      generalize Qap ns x ns.length = pl at *
      cases hu : (x.toList == [95]) with
      | true =>
        rw [Bool.true_or, sh_z]
        clear hP
        refine PCalls.enter Tryz.func110 rfl Tryz.ntmps110 (by simp) ?_
        simp only [Qaa]
        refine go_ ?_
        refine Jd ?_
        intro i5 hi5
        try simp only [Ja, Rh, Rg, Jb] at hi5
        refine go_ ?_
        refine Je ?_
        intro i6 hi6
        try simp only [Ja, Rh, Rg, Jb] at hi6
        refine go_ ?_
        refine Rd ?_
        refine go_ ?_
        refine Jm (by simp) (by simp only [Tryz.results110]; rfl) (by simp [resP, St.box?, PF.get, Jn, TyK.agg, *]; rfl) Nl ?_
        exact ⟨by simp [tupP, PV.norm2, PV.norm1, PV.norm0], rfl⟩
      | false =>
        rw [Bool.false_or]
        by_cases hp : pl = j
        · subst hp
          rw [show (!((j : Int) == (j : Int))) = false by simp, sh_mk]
          refine PCalls.enter Tryz.func110 rfl Tryz.ntmps110 (by simp) ?_
          simp only [Qaa]
          refine go_ ?_
          refine Jd ?_
          intro i5 hi5
          try simp only [Ja, Rh, Rg, Jb] at hi5
          refine go_ ?_
          refine Je ?_
          intro i6 hi6
          try simp only [Ja, Rh, Rg, Jb] at hi6
          refine go_ ?_
          refine Jr (hP.out) ?_
          refine go_ ?_
          refine Rd ?_
          refine go_ ?_
          refine Jm (by simp) (by simp only [Tryz.results110]; rfl) (by simp [resP, St.box?, PF.get, Jn, TyK.agg, *]; rfl) Nl ?_
          exact ⟨by simp [tupP, PV.norm2, PV.norm1, PV.norm0], rfl⟩
        · have hpf : (pl == (j : Int)) = false := beq_eq_false_iff_ne.2 hp
          have hpb : (pl != (j : Int)) = true := bne_iff_ne.2 hp
          rw [hpf, Bool.not_false, sh_z]
          clear hp
          refine PCalls.enter Tryz.func110 rfl Tryz.ntmps110 (by simp) ?_
          simp only [Qaa]
          refine go_ ?_
          refine Jd ?_
          intro i5 hi5
          try simp only [Ja, Rh, Rg, Jb] at hi5
          refine go_ ?_
          refine Je ?_
          intro i6 hi6
          try simp only [Ja, Rh, Rg, Jb] at hi6
          refine go_ ?_
          refine Jr (hP.out) ?_
          refine go_ ?_
          refine Rd ?_
          refine go_ ?_
          refine Jm (by simp) (by simp only [Tryz.results110]; rfl) (by simp [resP, St.box?, PF.get, Jn, TyK.agg, *]; rfl) Nl ?_
          exact ⟨by simp [tupP, PV.norm2, PV.norm1, PV.norm0], rfl⟩
    · rw [ex_set, sh_mk, Qds]
      clear hin hg hh
      refine PCalls.enter Tryz.func110 rfl Tryz.ntmps110 (by simp) ?_
      simp only [Qaa]
      refine go_ ?_
      refine Jd ?_
      intro i5 hi5
      try simp only [Ja, Rh, Rg, Jb] at hi5
      refine go_ ?_
      refine Je ?_
      intro i6 hi6
      try simp only [Ja, Rh, Rg, Jb] at hi6
      refine go_ ?_
      refine Rd ?_
      refine go_ ?_
      refine Jm (by simp) (by simp only [Tryz.results110]; rfl) (by simp [resP, St.box?, PF.get, Jn, TyK.agg, *]; rfl) Nl ?_
      exact ⟨by simp [tupP, PV.norm2, PV.norm1, PV.norm0], rfl⟩
    · rw [inX_con] at hin
      have hin2 := of_decide_eq_true hin
      obtain ⟨m, rfl⟩ : ∃ m : Nat, n = m := ⟨n.toNat, by omega⟩
      have hlt : m < l.length := by omega
      obtain ⟨e, he⟩ : ∃ e, l[m]? = some e := ⟨l[m], List.getElem?_eq_getElem hlt⟩
      have hx : (l.map encD)[m]? = some (encD e) := by rw [List.getElem?_map, he]; rfl
      have hc : (m : Int) < l.length := by omega
      have hn : (0 : Int) ≤ m := by omega
      have hP := Lib.hid (Qkw ns e.name)
      have hR : conX l ns m = (.mk 1 0 e.name 0 [], decide (0 ≤ Qap ns e.name ns.length)) := by unfold conX; rw [Int.toNat_natCast, he]
      rw [ex_con, hR, Qds]
      clear hR hin hin2 hg hh he hlt h0 h1
      generalize Qap ns e.name ns.length = pl at *
      by_cases hp : 0 ≤ pl
      · rw [decide_eq_true hp, sh_z]
        refine PCalls.enter Tryz.func110 rfl Tryz.ntmps110 (by simp) ?_
        simp only [Qaa]
        refine go_ ?_
        refine Jd ?_
        intro i5 hi5
        try simp only [Ja, Rh, Rg, Jb] at hi5
        refine go_ ?_
        refine Je ?_
        intro i6 hi6
        try simp only [Ja, Rh, Rg, Jb] at hi6
        refine go_ ?_
        refine Jc (hP.out) ?_
        refine go_ ?_
        refine Rd ?_
        refine go_ ?_
        refine Jm (by simp) (by simp only [Tryz.results110]; rfl) (by simp [resP, St.box?, PF.get, Jn, TyK.agg, *]; rfl) Nl ?_
        exact ⟨by simp [tupP, PV.norm2, PV.norm1, PV.norm0], rfl⟩
      · rw [decide_eq_false hp, sh_mk]
        refine PCalls.enter Tryz.func110 rfl Tryz.ntmps110 (by simp) ?_
        simp only [Qaa]
        refine go_ ?_
        refine Jd ?_
        intro i5 hi5
        try simp only [Ja, Rh, Rg, Jb] at hi5
        refine go_ ?_
        refine Je ?_
        intro i6 hi6
        try simp only [Ja, Rh, Rg, Jb] at hi6
        refine go_ ?_
        refine Jc (hP.out) ?_
        refine go_ ?_
        refine Rd ?_
        refine go_ ?_
        refine Jm (by simp) (by simp only [Tryz.results110]; rfl) (by simp [resP, St.box?, PF.get, Jn, TyK.agg, *]; rfl) Nl ?_
        exact ⟨by simp [tupP, PV.norm2, PV.norm1, PV.norm0], rfl⟩
    · rw [ex_free, sh_z, Qds]
      clear hin hg hh
      refine PCalls.enter Tryz.func110 rfl Tryz.ntmps110 (by simp) ?_
      simp only [Qaa]
      refine go_ ?_
      refine Jd ?_
      intro i5 hi5
      try simp only [Ja, Rh, Rg, Jb] at hi5
      refine go_ ?_
      refine Je ?_
      intro i6 hi6
      try simp only [Ja, Rh, Rg, Jb] at hi6
      refine go_ ?_
      refine Rd ?_
      refine go_ ?_
      refine Jm (by simp) (by simp only [Tryz.results110]; rfl) (by simp [resP, St.box?, PF.get, Jn, TyK.agg, *]; rfl) Nl ?_
      exact ⟨by simp [tupP, PV.norm2, PV.norm1, PV.norm0], rfl⟩
  · unfold YC
    rw [ex_elim, sh_z, Qds]
    clear hin hg hh ih hs
    refine PCalls.enter Tryz.func110 rfl Tryz.ntmps110 (by simp) ?_
    simp only [Qaa]
    refine go_ ?_
    refine Jd ?_
    intro i5 hi5
    try simp only [Ja, Rh, Rg, Jb] at hi5
    refine go_ ?_
    refine Je ?_
    intro i6 hi6
    try simp only [Ja, Rh, Rg, Jb] at hi6
    refine go_ ?_
    refine Rd ?_
    refine go_ ?_
    refine Jm (by simp) (by simp only [Tryz.results110]; rfl) (by simp [resP, St.box?, PF.get, Jn, TyK.agg, *]; rfl) Nl ?_
    exact ⟨by simp [tupP, PV.norm2, PV.norm1, PV.norm0], rfl⟩
  · rw [inX_two, Bool.and_eq_true] at hin
    obtain ⟨q1, q2⟩ := hg_twoT k 0 x y
    obtain ⟨sx, sy⟩ := two_shaped hs
    have c1 : YC l x ns := ih x (by simp) ns sx hin.1 (by omega)
    by_cases h5 : k = 5
    · rw [if_pos h5] at hin
      have c2 : YC l y ns := ih y (by simp) ns sy hin.2 (by omega)
      subst h5
      unfold YC
      rw [ex_app]
      exact rsh5_p l x y ns hnl _ _ c1 c2
    · rw [if_neg h5] at hin
      have hk2 : k = 3 ∨ k = 4 := by omega
      have c2 : YC l y (ns ++ [bndX l ns k y]) := ih y (by simp) _ sy (by rw [List.length_append, List.length_singleton]; exact hin.2) (by rw [List.length_append, List.length_singleton]; omega)
      have hA : (ns ++ [bndX l ns k y]).map encD = ns.map encD ++ [[D.v (.string (bndX l ns k y))]] := by rw [List.map_append]; rfl
      unfold YC at c1 c2 ⊢
      rw [hA] at c2
      rw [ex_bind hk2]
      have hX : (nms l).length = l.length := Qfj l
      have hsz := Qhr (nms l ++ ns) (by rw [List.length_append, hX]; omega)
      have hn0 := rnames_o l (by omega)
      have hf0 := rnfresh_p (nms l ++ ns) (by rw [List.length_append, hX]; omega)
      rw [List.map_append] at hf0
      unfold xS at hf0
      have hh0 := rhas_p y 0 gy (by omega) (by have := (Qaw sy).2.1; omega)
      have hhs : hasT y 0 = hsT y 0 := by unfold hasT; rw [sy]; simp
      have hB : bndX l ns k y = if k = 4 ∨ hsT y 0 = true then freX (nms l ++ ns) else lowS := by unfold bndX; rw [hhs]
      rw [hB] at c2 ⊢
      rcases hk2 with rfl | rfl
      · cases hq : hsT y 0 with
        | false =>
          rw [hq] at c2 hh0
          rw [if_neg (by simp)] at c2 ⊢
          exact rsh3f_p l x y ns hnl _ _ hh0 c1 c2
        | true =>
          rw [hq] at c2 hh0
          rw [if_pos (by simp)] at c2 ⊢
          exact rsh3t_p l x y ns hnl _ _ _ hsz (nms l) (by omega) hn0 hf0 hh0 c1 c2
      · rw [if_pos (by simp)] at c2 ⊢
        exact rsh4_p l x y ns hnl _ _ _ hsz (nms l) (by omega) hn0 hf0 c1 c2
theorem rExpr18_p (l : List En) (ns : List ByteArray) (t : Tm) (ho : ∀ e ∈ l, EnOk e) (hl : l.length ≤ 60) : PCalls Tryz.prog 55 [.d (.sl (l.map encD)), .d (.sl (ns.map encD)), aggD t] [] fun p s => p = shP (xpA l ns t) ∧ s = [] := by
  have hE := Lib.hid (rRight_p t ns.length l.length)
  have hC := Lib.hid (rchk_p l ns ho)
  have hT := fun (h1 : Qcm t ns.length l.length = true) (h2 : chkE l ns = 0) => shown_p l t ns (Qgt h1).1 (Qgt h1).2 (by have := (Qaw (Qgt h1).1).2.1; have := (Qjf h2).1; omega)
  unfold YC at hT
  have hS := Lib.hid (rexpr_p (exT l t ns).1)
  obtain ⟨R, hR⟩ : ∃ R, R = xpA l ns t := ⟨_, rfl⟩
  rw [← hR]
  unfold xpA at hR
  have HR := Lib.hid hR
  have HT := Lib.hid hT
  clear hR hT ho hl
  generalize Qcm t ns.length l.length = ex at *
  generalize chkE l ns = ck at *
  generalize exT l t ns = X at *
  obtain ⟨N, eb⟩ := X
  simp only at HT hS HR
  generalize Qdj N = sh at *
  rw [Qdg] at hE
  rw [Qfy] at hS
  simp only [Qdg] at HT ⊢
  cases ex with
  | false =>
    have hf : Hid (R = (zNdX, 5)) := HR.out
    rw [hf.out]
    unfold zNdX shP
    simp only [Nd.kind, Nd.at, Nd.name, Nd.num, Nd.sub, List.map_nil]
    clear HR hf HT hS hC
    refine PCalls.enter Tryz.func55 rfl Tryz.ntmps55 (by simp) ?_
    simp only [Qaa]
    refine go_ ?_
    refine Jd ?_
    intro i5 hi5
    try simp only [Ja, Rh, Rg, Jb] at hi5
    refine go_ ?_
    refine Je ?_
    intro i6 hi6
    try simp only [Ja, Rh, Rg, Jb] at hi6
    refine go_ ?_
    refine Jc (hE.out) ?_
    refine go_ ?_
    refine Rd ?_
    refine go_ ?_
    refine Jm (by simp) (by simp only [Tryz.results55]; rfl) (by simp [resP, St.box?, PF.get, Jn, TyK.agg, *]; rfl) Nl ?_
    exact ⟨by simp [tupP, PV.norm2, PV.norm1, PV.norm0], rfl⟩
  | true =>
  by_cases hck : ck = 0
  rotate_left
  · have hf : Hid (R = (zNdX, ck)) := by show _ = _; rw [show R = _ from HR.out, if_pos rfl, if_neg hck]
    rw [hf.out]
    unfold zNdX shP
    simp only [Nd.kind, Nd.at, Nd.name, Nd.num, Nd.sub, List.map_nil]
    clear HR hf HT hS
    refine PCalls.enter Tryz.func55 rfl Tryz.ntmps55 (by simp) ?_
    simp only [Qaa]
    refine go_ ?_
    refine Jd ?_
    intro i5 hi5
    try simp only [Ja, Rh, Rg, Jb] at hi5
    refine go_ ?_
    refine Je ?_
    intro i6 hi6
    try simp only [Ja, Rh, Rg, Jb] at hi6
    refine go_ ?_
    refine Jc (hE.out) ?_
    refine go_ ?_
    refine Jc (hC.out) ?_
    refine go_ ?_
    refine Rd ?_
    refine go_ ?_
    refine Jm (by simp) (by simp only [Tryz.results55]; rfl) (by simp [resP, St.box?, PF.get, Jn, TyK.agg, *]; rfl) Nl ?_
    exact ⟨by simp [tupP, PV.norm2, PV.norm1, PV.norm0], rfl⟩
  subst hck
  have hTT := HT.out rfl rfl
  clear HT
  cases eb with
  | true =>
    have hf : Hid (R = (zNdX, 16)) := by show _ = _; rw [show R = _ from HR.out]; rfl
    rw [sh_z] at hTT
    have HT := Lib.hid hTT
    rw [hf.out]
    unfold zNdX shP
    simp only [Nd.kind, Nd.at, Nd.name, Nd.num, Nd.sub, List.map_nil]
    clear HR hf hS hTT
    refine PCalls.enter Tryz.func55 rfl Tryz.ntmps55 (by simp) ?_
    simp only [Qaa]
    refine go_ ?_
    refine Jd ?_
    intro i5 hi5
    try simp only [Ja, Rh, Rg, Jb] at hi5
    refine go_ ?_
    refine Je ?_
    intro i6 hi6
    try simp only [Ja, Rh, Rg, Jb] at hi6
    refine go_ ?_
    refine Jc (hE.out) ?_
    refine go_ ?_
    refine Jc (hC.out) ?_
    refine go_ ?_
    refine Jc (HT.out) ?_
    refine go_ ?_
    refine Je ?_
    intro i8 hi8
    try simp only [Ja, Rh, Rg, Jb] at hi8
    refine go_ ?_
    refine Rd ?_
    refine go_ ?_
    refine Rd ?_
    refine go_ ?_
    refine Jm (by simp) (by simp only [Tryz.results55]; rfl) (by simp [resP, St.box?, PF.get, Jn, TyK.agg, *]; rfl) Nl ?_
    exact ⟨by simp [tupP, PV.norm2, PV.norm1, PV.norm0], rfl⟩
  | false =>
    rw [sh_y] at hTT
    have HT := Lib.hid hTT
    cases sh with
    | false =>
      have hf : Hid (R = (zNdX, 2)) := by show _ = _; rw [show R = _ from HR.out]; rfl
      rw [hf.out]
      unfold zNdX shP
      simp only [Nd.kind, Nd.at, Nd.name, Nd.num, Nd.sub, List.map_nil] at *
      clear HR hf hTT
      refine PCalls.enter Tryz.func55 rfl Tryz.ntmps55 (by simp) ?_
      simp only [Qaa]
      refine go_ ?_
      refine Jd ?_
      intro i5 hi5
      try simp only [Ja, Rh, Rg, Jb] at hi5
      refine go_ ?_
      refine Je ?_
      intro i6 hi6
      try simp only [Ja, Rh, Rg, Jb] at hi6
      refine go_ ?_
      refine Jc (hE.out) ?_
      refine go_ ?_
      refine Jc (hC.out) ?_
      refine go_ ?_
      refine Jc (HT.out) ?_
      refine go_ ?_
      refine Je ?_
      intro i8 hi8
      try simp only [Ja, Rh, Rg, Jb] at hi8
      refine go_ ?_
      refine Rd ?_
      refine go_ ?_
      refine Jr (hS.out) ?_
      refine go_ ?_
      refine Rd ?_
      refine go_ ?_
      refine Jm (by simp) (by simp only [Tryz.results55]; rfl) (by simp [resP, St.box?, PF.get, Jn, TyK.agg, *]; rfl) Nl ?_
      exact ⟨by simp [tupP, PV.norm2, PV.norm1, PV.norm0], rfl⟩
    | true =>
      have hf : Hid (R = (N, 0)) := by show _ = _; rw [show R = _ from HR.out]; rfl
      rw [hf.out]
      unfold shP
      simp only
      clear HR hf hTT
      refine PCalls.enter Tryz.func55 rfl Tryz.ntmps55 (by simp) ?_
      simp only [Qaa]
      refine go_ ?_
      refine Jd ?_
      intro i5 hi5
      try simp only [Ja, Rh, Rg, Jb] at hi5
      refine go_ ?_
      refine Je ?_
      intro i6 hi6
      try simp only [Ja, Rh, Rg, Jb] at hi6
      refine go_ ?_
      refine Jc (hE.out) ?_
      refine go_ ?_
      refine Jc (hC.out) ?_
      refine go_ ?_
      refine Jc (HT.out) ?_
      refine go_ ?_
      refine Je ?_
      intro i8 hi8
      try simp only [Ja, Rh, Rg, Jb] at hi8
      refine go_ ?_
      refine Rd ?_
      refine go_ ?_
      refine Jr (hS.out) ?_
      refine go_ ?_
      refine Rd ?_
      refine go_ ?_
      refine Jm (by simp) (by simp only [Tryz.results55]; rfl) (by simp [resP, St.box?, PF.get, Jn, TyK.agg, *]; rfl) Nl ?_
      exact ⟨by simp [tupP, PV.norm2, PV.norm1, PV.norm0], rfl⟩
theorem node18_p : ∀ t : Nd, PCalls Tryz.prog 56 [aggD t, aggD t] [] fun p s => p = .d (.v (.bool true)) ∧ s = [] := by
 refine Nd.ind ?_
 intro k a s n sub ih
 have IH := Lib.hid ih
 clear ih
 rw [Qdf]
 refine PCalls.enter Tryz.func56 rfl Tryz.ntmps56 (by simp) ?_
 simp only [Qaa]
 refine Qif (t := 0) (i := 4) (rows := sub.map encD) (by simp [PF.get] <;> rfl) rfl fun hml => ?_
 rw [List.length_map] at hml
 unfold maxLen at hml
 refine go_ ?_
 refine Jd ?_
 intro i0 hi0
 refine go_ ?_
 refine Jd ?_
 intro i1 hi1
 try simp only [Ja, Rh, Rg, Jb] at hi1
 refine go_ ?_
 refine Qao (ι := Nat) (fun y => y ≤ sub.length) (fun y => [(2, .ptr i0 0), (3, .ptr i1 0), (5, .d (.v (.int .i64 (y : Int))))]) (fun _ => [.box i1 64 [.d (.v (.int .i64 k)), .d (.v (.int .i64 a)), .d (.v (.string s)), .d (.v (.int .i64 n)), .d (.sl (sub.map encD))], .box i0 68 [.d (.v (.int .i64 k)), .d (.v (.int .i64 a)), .d (.v (.string s)), .d (.v (.int .i64 n)), .d (.sl (sub.map encD))]]) (fun y => sub.length - y) 0 (Nat.zero_le _) ?_ ?_ ?_
 ·repeat (first | exact Jt _ | refine Js (by simp [PF.get]; rfl) (by first | rfl | (simp [*]; done) | fail) ?_)
 ·repeat (first | exact List.Sublist.refl _ | exact List.nil_sublist _ | refine List.Sublist.cons_cons _ ?_ | refine List.Sublist.cons _ ?_)
 ·rintro j hj
  by_cases hlt : j < sub.length
  ·have hx := Qar hlt
   have hc : (j : Int) < sub.length := by omega
   have hn : (0 : Int) ≤ j := by omega
   have hin := wr64 (n := (j : Int) + 1) (by omega) (by omega)
   have hc1 := IH.out _ (List.getElem_mem hlt)
   rw [Qfy] at hc1
   have hc1 := Lib.hid hc1
   refine go_ ?_
   refine Qay [(0, .a), (1, .b), (2, .a), (3, .a), (4, .a), (5, .a), (6, .b), (7, .a), (8, .a), (9, .a), (10, .a), (11, .a)] (by kernel_rfl) (by rfl) (by kernel_rfl) ?_
   refine go_ ?_
   refine Qbd (hc1.out) ?_
   refine go_ ?_
   exact ⟨j + 1, hlt, by omega, by repeat (first | exact Jt _ | refine Js (by simp [PF.get]; rfl) (by first | rfl | (simp [*]; done) | fail) ?_), by repeat (first | exact List.Sublist.refl _ | exact List.nil_sublist _ | refine List.Sublist.cons_cons _ ?_ | refine List.Sublist.cons _ ?_)⟩
  ·have hc : ¬ (j : Int) < sub.length := by omega
   refine go_ ?_
   refine Jm (by simp) (by simp only [Tryz.results56]; rfl) (by simp [resP, St.box?, PF.get, Jn, TyK.agg, *]; rfl) Nl ?_
   exact ⟨rfl, rfl⟩
theorem xp_zero {l : List En} {ns : List ByteArray} {t : Tm} (h : (xpA l ns t).2 ≠ 0) : (xpA l ns t).1 = zNdX := by
 unfold xpA at h ⊢
 split
 ·rename_i h1
  rw [if_pos h1] at h
  split
  ·rename_i h2
   rw [if_pos h2] at h
   split
   ·rfl
   ·rename_i h3
    rw [if_neg h3] at h
    split
    ·rename_i h4
     rw [if_pos h4] at h
     exact absurd rfl h
    ·rfl
  ·rfl
 ·rfl
theorem scopeExprs_p (l : List En) (ns : List ByteArray) (t : Tm) (ho : ∀ e ∈ l, EnOk e) : PCalls Tryz.prog 10 [.d (.sl (l.map encD)), .d (.sl (ns.map encD)), aggD t] [] fun p s => p = .d (.v (.bool true)) ∧ s = [] := by
 have hL := Lib.hid (slight_p l ns)
 have hA := Lib.hid Qkn
 have hS := Lib.hid (rSize_p t)
 rw [Qdg] at hS ⊢
 by_cases hlt : l.length ≤ 60 ∧ ns.length ≤ 40
 rotate_left
 ·rw [decide_eq_false hlt] at hL
  clear hlt hS ho
  refine PCalls.enter Tryz.func10 rfl Tryz.ntmps10 (by simp) ?_
  simp only [Qaa]
  refine go_ ?_
  refine Jd ?_
  intro i5 hi5
  try simp only [Ja, Rh, Rg, Jb] at hi5
  refine go_ ?_
  refine Jc (hL.out) ?_
  refine go_ ?_
  refine Jc (hA.out) ?_
  refine go_ ?_
  refine Jm (by simp) (by simp only [Tryz.results10]; rfl) (by simp [resP, St.box?, PF.get, Jn, TyK.agg, *]; rfl) Nl ?_
  exact ⟨rfl, rfl⟩
 rw [decide_eq_true hlt] at hL
 generalize Qda t = z at *
 by_cases hz : 600 < z
 ·clear hlt ho
  refine PCalls.enter Tryz.func10 rfl Tryz.ntmps10 (by simp) ?_
  simp only [Qaa]
  refine go_ ?_
  refine Jd ?_
  intro i5 hi5
  try simp only [Ja, Rh, Rg, Jb] at hi5
  refine go_ ?_
  refine Jc (hL.out) ?_
  refine go_ ?_
  refine Jr (hS.out) ?_
  refine go_ ?_
  refine Jc (hA.out) ?_
  refine go_ ?_
  refine Jm (by simp) (by simp only [Tryz.results10]; rfl) (by simp [resP, St.box?, PF.get, Jn, TyK.agg, *]; rfl) Nl ?_
  exact ⟨rfl, rfl⟩
 have h1 := sExpr_p l ns t ho hlt.1
 have h2 := rExpr18_p l ns t ho hlt.1
 have h3 := node18_p (xpA l ns t).1
 have hb := fun h => xp_zero (l := l) (ns := ns) (t := t) h
 generalize xpA l ns t = X at *
 obtain ⟨N, e⟩ := X
 unfold xpP at h1
 unfold shP at h2
 rw [Qdg] at h1 h2
 rw [Qfy] at h1 h3
 simp only at h1 h2 hb
 have H1 := Lib.hid h1
 have H2 := Lib.hid h2
 have H3 := Lib.hid h3
 clear h1 h2 h3 hlt ho
 by_cases he : e = 0
 rotate_left
 ·have heb : (e != 0) = true := bne_iff_ne.2 he
  have hN := hb he
  subst hN
  unfold zNdX at H1 H2
  simp only [Nd.kind, Nd.at, Nd.name, Nd.num, Nd.sub, List.map_nil] at H1 H2
  clear hb H3
  refine PCalls.enter Tryz.func10 rfl Tryz.ntmps10 (by simp) ?_
  simp only [Qaa]
  refine go_ ?_
  refine Jd ?_
  intro i5 hi5
  try simp only [Ja, Rh, Rg, Jb] at hi5
  refine go_ ?_
  refine Jc (hL.out) ?_
  refine go_ ?_
  refine Jr (hS.out) ?_
  refine go_ ?_
  refine Jc (H1.out) ?_
  refine go_ ?_
  refine Je ?_
  intro i7 hi7
  try simp only [Ja, Rh, Rg, Jb] at hi7
  refine go_ ?_
  refine Rd ?_
  refine go_ ?_
  refine Jc (H2.out) ?_
  refine go_ ?_
  refine Je ?_
  intro i9 hi9
  try simp only [Ja, Rh, Rg, Jb] at hi9
  refine go_ ?_
  refine Rd ?_
  refine go_ ?_
  refine Jr (hA.out) ?_
  refine go_ ?_
  refine Jm (by simp) (by simp only [Tryz.results10]; rfl) (by simp [resP, St.box?, PF.get, Jn, TyK.agg, *]; rfl) Nl ?_
  exact ⟨by simp [tupP, PV.norm2, PV.norm1, PV.norm0], rfl⟩
 subst he
 clear hb
 refine PCalls.enter Tryz.func10 rfl Tryz.ntmps10 (by simp) ?_
 simp only [Qaa]
 refine go_ ?_
 refine Jd ?_
 intro i5 hi5
 try simp only [Ja, Rh, Rg, Jb] at hi5
 refine go_ ?_
 refine Jc (hL.out) ?_
 refine go_ ?_
 refine Jr (hS.out) ?_
 refine go_ ?_
 refine Jc (H1.out) ?_
 refine go_ ?_
 refine Je ?_
 intro i7 hi7
 try simp only [Ja, Rh, Rg, Jb] at hi7
 refine go_ ?_
 refine Rd ?_
 refine go_ ?_
 refine Jc (H2.out) ?_
 refine go_ ?_
 refine Je ?_
 intro i9 hi9
 try simp only [Ja, Rh, Rg, Jb] at hi9
 refine go_ ?_
 refine Rd ?_
 refine go_ ?_
 refine Jc (H3.out) ?_
 refine go_ ?_
 refine Jr (hA.out) ?_
 refine go_ ?_
 refine Jm (by simp) (by simp only [Tryz.results10]; rfl) (by simp [resP, St.box?, PF.get, Jn, TyK.agg, *]; rfl) Nl ?_
 exact ⟨by simp [tupP, PV.norm2, PV.norm1, PV.norm0], rfl⟩
theorem scopeExprs_walk (v : Value) (l : List En) (v2 : Value) (ns : List ByteArray) (t : Tm) (cs : List Value) (w : World) (h : EnS w v l) (h2 : StS w v2 ns) (h3 : TyC w t cs) : Calls Tryz.prog 10 #[v, v2, .agg cs.toArray] w fun e w' => e = .returned (.bool true) ∧ Below w.heap.size w w' := by
 refine PCalls.top ((scopeExprs_p l ns t h.2).mono fun p s hp => hp.1) ?_
 refine Qbr (.d (Qib (fun b o v _ hv => ⟨v, hv⟩) (by decide) h.1)) (Qbr (.d (Qib (fun b o v _ hv => ⟨v, hv⟩) (by decide) h2)) (Qbr (Qjh (K := K0 w) (fun b o v _ h => ⟨v, h⟩) h3) (Qey _ _)))
end Go.Proofs.YtdklpbefbamchaaGreat
