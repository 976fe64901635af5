import Derived.Test.YtdklpbefbamchaaGreatBR2
set_option linter.unusedSimpArgs false
set_option linter.unusedVariables false
set_option maxHeartbeats 16000000
set_option maxRecDepth 100000
namespace Go.Proofs.YtdklpbefbamchaaGreat
open Go.RowKit
theorem back_ask (B : List En) (hF : formedB B = true) (hE : ∀ e ∈ B, EnOk e) (hP : ∀ c : Int, parN B c ≤ 2) (p : Pt) (hpg : pgT B p = true) (hpn : pndT p ≤ 8000) (hph : phgT p ≤ 128) (vs : List Tm) (hvs : ∀ v ∈ vs, Qai v = true) (t : Tm) (hb : bldT B Qdj p = some t) (hv : ∀ n ∈ pvT p, n < vs.length) (hx : Qai (chT vs t) = true) :
  PCalls Tryz.prog 29 [.d (.sl (B.map encD)), .d (.sl ([p].map encD)), .d (.sl ([chT vs t].map encD))] [] fun r s => r = .tup [.agg [.d (.v (.bool true)), .d (.v (.bool false)), .d (.sl ((pvT p).map encD)), .d (.sl (((pvT p).map (vaT vs)).map encD))], .d (.v (.int .i64 0))] ∧ s = [] :=
 askY_p B hF hE p _ hpg hpn hph hx _ _ (back_law (l := B) (pars := Qdj) (fun c => hP c) hvs p t ⟨false, false, [], []⟩ hpg hb hv hx rfl rfl)
theorem back_other (B : List En) (hF : formedB B = true) (hE : ∀ e ∈ B, EnOk e) (hP : ∀ c : Int, parN B c ≤ 2) (p : Pt) (hpg : pgT B p = true) (vs : List Tm) (t : Tm) (hb : bldT B Qdj p = some t) (hx : Qai (chT vs t) = true) (m : Int) (hm : arN B m = 0) (hk : p.kind = 2) (hne : p.num ≠ m) :
  PCalls Tryz.prog 29 [.d (.sl (B.map encD)), .d (.sl ([Pt.mk 2 m 0 [] (.mk 0 0 [])].map encD)), .d (.sl ([chT vs t].map encD))] [] fun r s => r = .tup [.agg [.d (.v (.bool false)), .d (.v (.bool true)), .d (.sl []), .d (.sl [])], .d (.v (.int .i64 0))] ∧ s = [] := by
 have q1 : Qbp (Tm.mk 0 0 []) = true := by decide +kernel
 have hg : pgT B (.mk 2 m 0 [] (.mk 0 0 [])) = true := by
  simp [pgT, pgL, hm, q1]
 obtain ⟨k, n, a, sub, d⟩ := p
 have hk2 : k = 2 := hk
 subst hk2
 exact askN_p B hF hE _ _ hg (by simp [pndT, pndL, cndT, cndL]) (by simp [phgT, phgL, chgT, chgL]) hx [] [] false (other_law (l := B) (pars := Qdj) (vs := vs) (σ := ⟨false, false, [], []⟩) (fun c => hP c) hpg hb hne rfl rfl)
theorem closed_shaped {t : Tm} {e : Int} (h : Qbv t e = true) : Qai t = true := by
 unfold Qbv Qdl at h
 simp only [Bool.and_eq_true] at h
 exact h.1.1.1
theorem rsamei24_p (a : List Int) (hml : a.length ≤ 100000) : PCalls Tryz.prog 30 [.d (.sl (a.map encD)), .d (.sl (a.map encD))] [] fun p s => p = .d (.v (.bool true)) ∧ s = [] := by
 have hne : ((a.length : Int) != a.length) = false := by simp
 refine PCalls.enter Tryz.func30 rfl Tryz.ntmps30 (by simp) ?_
 simp only [Qab]
 refine go_ ?_
 refine Qak (ι := Nat) (fun y => y ≤ a.length) (fun y => [(0, .d (.sl (a.map encD))), (1, .d (.sl (a.map encD))), (5, .d (.v (.int .i64 (y : Int))))]) (fun _ => []) (fun y => a.length - y) 0 (Nat.zero_le _) ?_ ?_ ?_
 ·repeat (first | exact Jt _ | refine Js (by simp [PF.get]; rfl) (by first | rfl | (simp [*]; done) | fail) ?_)
 ·repeat (first | exact List.Sublist.refl _ | exact List.nil_sublist _ | refine List.Sublist.cons_cons _ ?_ | refine List.Sublist.cons _ ?_)
 rintro j hj
 by_cases hlt : j < a.length
 ·have hx := Qal hlt
  have hc : (j : Int) < a.length := by omega
  have hn : (0 : Int) ≤ j := by omega
  have hin := wr64 (n := (j : Int) + 1) (by omega) (by omega)
  have hqn : (a[j] != a[j]) = false := by simp
  refine go_ ?_
  refine Qan [(0, .a), (1, .a), (2, .a), (3, .a), (4, .a), (5, .a), (6, .a), (7, .a), (8, .a)] (by kernel_rfl) (by rfl) (by kernel_rfl) ?_
  refine go_ ?_
  exact ⟨j + 1, hlt, by omega, by repeat (first | exact Jt _ | refine Js (by simp [PF.get]; rfl) (by first | rfl | (simp [*]; done) | fail) ?_), by repeat (first | exact List.Sublist.refl _ | exact List.nil_sublist _ | refine List.Sublist.cons_cons _ ?_ | refine List.Sublist.cons _ ?_)⟩
 ·have hc : ¬ (j : Int) < a.length := by omega
  refine go_ ?_
  refine Jm (by simp) (by simp only [Tryz.results30]; rfl) (by simp [resP, St.box?, PF.get, Jn, TyK.agg, *]; rfl) Nl ?_
  exact ⟨rfl, rfl⟩
theorem pv_nn {B : List En} : ∀ (p : Pt), pgT B p = true → ∀ n ∈ pvT p, 0 ≤ n := by
  refine Pt.ind ?_
  intro k n a sub d ih hg m hm
  by_cases k1 : k = 1
  · subst k1
    simp only [pvT, if_true] at hm
    rw [List.mem_singleton] at hm
    rw [hm]; exact (pg_var hg).1
  · by_cases k2 : k = 2
    · subst k2
      obtain ⟨-, -, hsg⟩ := pg_con hg
      simp only [pvT] at hm
      rw [if_neg (by decide)] at hm
      have key : ∀ ss : List Pt, (∀ s ∈ ss, s ∈ sub) → m ∈ pvL ss → 0 ≤ m := by
        intro ss
        induction ss with
        | nil => intro _ h; simp [pvL] at h
        | cons s ss ihs =>
          intro hs h
          simp only [pvL] at h
          rcases List.mem_append.1 h with h | h
          · exact ih s (hs s (by simp)) (hsg s (hs s (by simp))) m h
          · exact ihs (fun q hq => hs q (by simp [hq])) h
      exact key sub (fun s h => h) hm
    · by_cases k3 : sub = []
      · subst k3
        simp only [pvT] at hm
        rw [if_neg k1] at hm
        simp [pvL] at hm
      · exfalso
        have : sub.length ≠ 0 := fun e => k3 (List.eq_nil_of_length_eq_zero e)
        simp [pgT, k1, k2, k3] at hg
theorem va_at {vs : List Tm} {n : Int} (h0 : 0 ≤ n) (h : n < vs.length) : vs[n.toNat]? = some (vaT vs n) := by
 unfold vaT
 rw [List.getElem?_eq_getElem (by omega)]; rfl
theorem back24_p (p : Pt) (vs : List Tm) : PCalls Tryz.prog 4 [aggD p, .d (.sl (vs.map encD))] [] fun r s => r = .d (.v (.bool true)) ∧ s = [] := by
  have hO := Lib.hid (of24_p [p])
  have hW := Lib.hid awake24_p
  have hB := Lib.hid rbase_p
  obtain ⟨hof1, hof2⟩ := of_facts [p] 600
  generalize ofL [p] 600 = W at *
  have hF := Lib.hid Qgn
  have hE := Lib.hid base_ok
  have hP := Lib.hid base_par
  have hA4 : Hid (arN baseL 4 = 0 ∧ arN baseL 5 = 0) := by constructor <;> decide +kernel
  have hL23 : Hid (baseL.length = 23) := rfl
  generalize baseL = B at *
  by_cases h2 : 0 < W.2
  rotate_left
  · clear hof1 hof2
    simp only [aggD, Qap, Jl, List.map_cons, List.map_nil] at hO ⊢
    refine PCalls.enter Tryz.func4 rfl Tryz.ntmps4 (by simp) ?_
    simp only [Qab]
    refine go_ ?_
    refine Jd ?_
    intro i2 hi2
    try simp only [Ja, Rh, Rg, Jb] at hi2
    refine go_ ?_
    refine Jc (hB.out) ?_
    refine go_ ?_
    refine Je ?_
    intro i5 hi5
    try simp only [Ja, Rh, Rg, Jb] at hi5
    refine go_ ?_
    refine Rd ?_
    refine go_ ?_
    refine Qao ?_
    refine go_ ?_
    refine Jc (hO.out) ?_
    refine go_ ?_
    refine Qan [(0, .a), (1, .a), (2, .a), (3, .b), (4, .a), (5, .a), (6, .a), (7, .a), (8, .a), (9, .a), (10, .a), (11, .a), (12, .a), (13, .a), (14, .a), (15, .a), (16, .a), (17, .a), (18, .a), (19, .a)] (by kernel_rfl) (by rfl) (by kernel_rfl) ?_
    refine go_ ?_
    refine Jc (hW.out) ?_
    refine go_ ?_
    refine Jm (by simp) (by simp only [Tryz.results4]; rfl) (by simp [resP, St.box?, PF.get, Jn, TyK.agg, *]; rfl) Nl ?_
    exact ⟨rfl, rfl⟩
  obtain ⟨e1, e2⟩ := hof2 h2
  simp only [pndL] at e2
  have hpn : pndT p ≤ 600 := by omega
  rw [e1, decide_eq_true h2] at hO
  clear hof1 hof2 e1 e2 h2
  have hR1 := Lib.hid (rpRight_p B p hE.out (by omega))
  cases hr : pRight B p with
  | false =>
    rw [hr] at hR1
    clear hr
    simp only [aggD, Qap, Jl, List.map_cons, List.map_nil] at hO hR1 ⊢
    have hlen : (0 : Int) < ([encD p] : List (List D)).length := by simp
    refine PCalls.enter Tryz.func4 rfl Tryz.ntmps4 (by simp) ?_
    simp only [Qab]
    refine go_ ?_
    refine Jd ?_
    intro i2 hi2
    try simp only [Ja, Rh, Rg, Jb] at hi2
    refine go_ ?_
    refine Jc (hB.out) ?_
    refine go_ ?_
    refine Je ?_
    intro i5 hi5
    try simp only [Ja, Rh, Rg, Jb] at hi5
    refine go_ ?_
    refine Rd ?_
    refine go_ ?_
    refine Qao ?_
    refine go_ ?_
    refine Jc (hO.out) ?_
    refine go_ ?_
    refine Qan [(0, .a), (1, .a), (2, .a), (3, .b), (4, .a), (5, .a), (6, .a), (7, .a), (8, .a), (9, .a), (10, .a), (11, .a), (12, .a), (13, .a), (14, .a), (15, .a), (16, .a), (17, .a), (18, .a), (19, .a)] (by kernel_rfl) (by rfl) (by kernel_rfl) ?_
    refine go_ ?_
    refine Qas (hR1.out) ?_
    refine go_ ?_
    refine Jc (hW.out) ?_
    refine go_ ?_
    refine Jm (by simp) (by simp only [Tryz.results4]; rfl) (by simp [resP, St.box?, PF.get, Jn, TyK.agg, *]; rfl) Nl ?_
    exact ⟨rfl, rfl⟩
  | true =>
  rw [hr] at hR1
  obtain ⟨-, hph, hpg⟩ := right_parts hr
  have hLin := Lib.hid (rLinearN_p [p] (by simp only [pndL]; omega) (by simpa using hph))
  have hVar := Lib.hid (Qjj [p] (by simp only [pndL]; omega) (by simpa using hph))
  have hv1 : pvL [p] = pvT p := by simp [pvL]
  rw [hv1] at hLin hVar
  have hNV : (pvT p).length ≤ 8000 := by
    have := Qfn [p]
    rw [hv1] at this
    simp only [pndL] at this
    omega
  cases hli : decide (pvT p).Nodup with
  | false =>
    rw [hli] at hLin
    clear hli hr
    simp only [aggD, Qap, Jl, List.map_cons, List.map_nil] at hO hR1 hLin ⊢
    have hlen : (0 : Int) < ([encD p] : List (List D)).length := by simp
    refine PCalls.enter Tryz.func4 rfl Tryz.ntmps4 (by simp) ?_
    simp only [Qab]
    refine go_ ?_
    refine Jd ?_
    intro i2 hi2
    try simp only [Ja, Rh, Rg, Jb] at hi2
    refine go_ ?_
    refine Jc (hB.out) ?_
    refine go_ ?_
    refine Je ?_
    intro i5 hi5
    try simp only [Ja, Rh, Rg, Jb] at hi5
    refine go_ ?_
    refine Rd ?_
    refine go_ ?_
    refine Qao ?_
    refine go_ ?_
    refine Jc (hO.out) ?_
    refine go_ ?_
    refine Qan [(0, .a), (1, .a), (2, .a), (3, .b), (4, .a), (5, .a), (6, .a), (7, .a), (8, .a), (9, .a), (10, .a), (11, .a), (12, .a), (13, .a), (14, .a), (15, .a), (16, .a), (17, .a), (18, .a), (19, .a)] (by kernel_rfl) (by rfl) (by kernel_rfl) ?_
    refine go_ ?_
    refine Qas (hR1.out) ?_
    refine go_ ?_
    refine Qas (hLin.out) ?_
    refine go_ ?_
    refine Jc (hW.out) ?_
    refine go_ ?_
    refine Jm (by simp) (by simp only [Tryz.results4]; rfl) (by simp [resP, St.box?, PF.get, Jn, TyK.agg, *]; rfl) Nl ?_
    exact ⟨rfl, rfl⟩
  | true =>
  rw [hli] at hLin
  clear hli
  by_cases hvl : (12 : Int) < vs.length
  · clear hr
    simp only [aggD, Qap, Jl, List.map_cons, List.map_nil] at hO hR1 hLin ⊢
    have hlen : (0 : Int) < ([encD p] : List (List D)).length := by simp
    refine PCalls.enter Tryz.func4 rfl Tryz.ntmps4 (by simp) ?_
    simp only [Qab]
    refine go_ ?_
    refine Jd ?_
    intro i2 hi2
    try simp only [Ja, Rh, Rg, Jb] at hi2
    refine go_ ?_
    refine Jc (hB.out) ?_
    refine go_ ?_
    refine Je ?_
    intro i5 hi5
    try simp only [Ja, Rh, Rg, Jb] at hi5
    refine go_ ?_
    refine Rd ?_
    refine go_ ?_
    refine Qao ?_
    refine go_ ?_
    refine Jc (hO.out) ?_
    refine go_ ?_
    refine Qan [(0, .a), (1, .a), (2, .a), (3, .b), (4, .a), (5, .a), (6, .a), (7, .a), (8, .a), (9, .a), (10, .a), (11, .a), (12, .a), (13, .a), (14, .a), (15, .a), (16, .a), (17, .a), (18, .a), (19, .a)] (by kernel_rfl) (by rfl) (by kernel_rfl) ?_
    refine go_ ?_
    refine Qas (hR1.out) ?_
    refine go_ ?_
    refine Qas (hLin.out) ?_
    refine go_ ?_
    refine Jc (hW.out) ?_
    refine go_ ?_
    refine Jm (by simp) (by simp only [Tryz.results4]; rfl) (by simp [resP, St.box?, PF.get, Jn, TyK.agg, *]; rfl) Nl ?_
    exact ⟨rfl, rfl⟩
  have hvl2 := Lib.hid (show vs.length ≤ 12 by omega)
  have HC : Hid (∀ t : Tm, PCalls Tryz.prog 24 [aggD t, .d (.v (.int .i64 B.length))] [] fun p s => p = .d (.v (.bool (Qbv t B.length))) ∧ s = []) := fun t => Qjk t _
  have HZ : Hid (∀ t : Tm, PCalls Tryz.prog 16 [aggD t] [] fun p s => p = .d (.v (.int .i64 (Qcy t))) ∧ s = []) := fun t => rSize_p t
  have HPG := Lib.hid hpg
  have HT : Hid (∀ b5 b3 : Nat, PCalls Tryz.prog 17 [.d (.sl (B.map encD)), aggD p, .fn (.func 26) [] [.ptr b5 0, .ptr b3 0]] (capS b5 b3 B Qdj) fun r s => r = .tup [aggD (trmP B Qdj p).1, .d (.v (.int .i64 (trmP B Qdj p).2))] ∧ s = capS b5 b3 B Qdj) := fun b5 b3 =>
    pTerm_p B hE.out Qdj (by decide) (fun t ht => Qgz (prs_good t ht).1 (by
      simp only [Qdj, List.mem_cons, List.not_mem_nil, or_false] at ht
      rcases ht with rfl | rfl <;> decide +kernel) (by have := (prs_good t ht).2; omega)) (fun _ q _ _ => hP.out _) b5 b3 _ rfl (fun i m x h1 h2 h3 h4 => cloB_p B Qdj b5 b3 i m x h1 h2 h3 h4) p (by omega)
  have hTM : Hid (trmP B Qdj p = (match bldT B Qdj p with | some t => if Qai t = true then (t, 0) else (.mk 0 0 [], 2) | none => (.mk 0 0 [], 16) : Tm × Int)) := by
    show _ = _
    unfold trmP
    rw [if_pos hr]
    rfl
  obtain ⟨T, hT⟩ : ∃ T, T = trmP B Qdj p := ⟨_, rfl⟩
  rw [← hT] at HT hTM
  have hph2 := Lib.hid hph
  have hpn2 := Lib.hid hpn
  have hc0 := Lib.hid (bC_p 0)
  have hc3 := Lib.hid (bC_p 3)
  obtain ⟨V, hV⟩ : ∃ V, V = pvT p := ⟨_, rfl⟩
  have HV := Lib.hid hV
  rw [← hV] at hVar hNV
  clear hr hT hpg hph hV
  simp only [aggD, Qap, Jl, List.map_cons, List.map_nil] at hO hR1 hLin hc0 hc3 HC HZ HT ⊢
  simp only [Tm.kind_mk, Tm.num_mk, Tm.sub_mk, List.map_nil] at hc0 hc3
  have hlen : (0 : Int) < ([encD p] : List (List D)).length := by simp
  refine PCalls.enter Tryz.func4 rfl Tryz.ntmps4 (by simp) ?_
  simp only [Qab]
  refine go_ ?_
  refine Jd ?_
  intro i2 hi2
  try simp only [Ja, Rh, Rg, Jb] at hi2
  refine go_ ?_
  refine Jc (hB.out) ?_
  refine go_ ?_
  refine Je ?_
  intro i5 hi5
  try simp only [Ja, Rh, Rg, Jb] at hi5
  refine go_ ?_
  refine Rd ?_
  refine go_ ?_
  refine Qao ?_
  refine go_ ?_
  refine Jc (hO.out) ?_
  refine go_ ?_
  refine Qan [(0, .a), (1, .a), (2, .a), (3, .b), (4, .a), (5, .a), (6, .a), (7, .a), (8, .a), (9, .a), (10, .a), (11, .a), (12, .a), (13, .a), (14, .a), (15, .a), (16, .a), (17, .a), (18, .a), (19, .a)] (by kernel_rfl) (by rfl) (by kernel_rfl) ?_
  refine go_ ?_
  refine Qas (hR1.out) ?_
  refine go_ ?_
  refine Qas (hLin.out) ?_
  refine go_ ?_
  clear hLin hR1 hO hvl hpn
  obtain ⟨CP, hCP⟩ : ∃ CP : List PV, CP = [.d (.v (.int .i64 p.kind)), .d (.v (.int .i64 p.num)), .d (.v (.int .i64 p.at_)), .d (.sl (p.sub.map encD)), .d (.v (.int .i64 p.t.kind)), .d (.v (.int .i64 p.t.num)), .d (.sl (p.t.sub.map encD))] := ⟨_, rfl⟩
  refine Qak (ι := Nat) (fun y => y ≤ vs.length ∧ Hid (∀ t ∈ vs.take y, Qai t = true)) (fun y => [(1, .d (.sl (vs.map encD))), (2, .ptr i2 0), (5, .ptr i5 0), (6, .d (.sl [encD p])), (8, .d (.v (.int .i64 (y : Int))))]) (fun y => [.box i5 22 [.d (.sl (B.map encD))], .box i2 28 [.d (.v (.int .i64 p.kind)), .d (.v (.int .i64 p.num)), .d (.v (.int .i64 p.at_)), .d (.sl (p.sub.map encD)), .d (.v (.int .i64 p.t.kind)), .d (.v (.int .i64 p.t.num)), .d (.sl (p.t.sub.map encD))]]) (fun y => vs.length - y) 0 ⟨Nat.zero_le _, fun t ht => by simp at ht⟩ ?_ ?_ ?_
  · repeat (first | exact Jt _ | refine Js (by simp [PF.get]; rfl) (by first | rfl | (simp [*]; done) | fail) ?_)
  · repeat (first | exact List.Sublist.refl _ | exact List.nil_sublist _ | refine List.Sublist.cons_cons _ ?_ | refine List.Sublist.cons _ ?_)
  rintro j ⟨hj, hsj⟩
  by_cases hlt : j < vs.length
  · have hxs := Qal hlt
    have hc : (j : Int) < vs.length := by omega
    have hn1 : (0 : Int) ≤ j := by omega
    have hin := wr64 (n := (j : Int) + 1) (by omega) (by have := hvl2.out; omega)
    have hs2 : Hid (Qbv vs[j] B.length = true → ∀ t ∈ vs.take (j + 1), Qai t = true) := fun h t ht => by
      rw [List.take_succ_eq_append_getElem hlt] at ht
      rcases List.mem_append.1 ht with ht | ht
      · exact hsj.out t ht
      · rw [List.mem_singleton] at ht; subst ht; exact closed_shaped h
    have hc1 := Lib.hid (HC.out vs[j])
    have hc2 := Lib.hid (HZ.out vs[j])
    obtain ⟨v, hv⟩ : ∃ v, v = vs[j] := ⟨_, rfl⟩
    rw [← hv] at hxs hc1 hc2 hs2
    have HJL := Lib.hid hlt
    clear hsj hv hlt HC HZ
    generalize Qbv v B.length = cv at *
    generalize Qcy v = zv at *
    cases cv with
    | false =>
      refine go_ ?_
      refine Qan [(0, .a), (1, .a), (2, .a), (3, .a), (4, .b), (5, .a), (6, .a), (7, .a), (8, .a), (9, .a), (10, .a), (11, .a), (12, .a), (13, .a), (14, .a), (15, .a)] (by kernel_rfl) (by rfl) (by kernel_rfl) ?_
      refine go_ ?_
      refine Qaa (hc1.out) ?_
      refine go_ ?_
      refine Jc (hW.out) ?_
      refine go_ ?_
      refine Jm (by simp) (by simp only [Tryz.results4]; rfl) (by simp [resP, St.box?, PF.get, Jn, TyK.agg, *]; rfl) Nl ?_
      exact ⟨rfl, rfl⟩
    | true =>
      by_cases hz : 30 < zv
      · refine go_ ?_
        refine Qan [(0, .a), (1, .a), (2, .a), (3, .a), (4, .b), (5, .a), (6, .a), (7, .a), (8, .a), (9, .a), (10, .a), (11, .a), (12, .a), (13, .a), (14, .a), (15, .a)] (by kernel_rfl) (by rfl) (by kernel_rfl) ?_
        refine go_ ?_
        refine Qaa (hc1.out) ?_
        refine go_ ?_
        refine Qas (hc2.out) ?_
        refine go_ ?_
        refine Jc (hW.out) ?_
        refine go_ ?_
        refine Jm (by simp) (by simp only [Tryz.results4]; rfl) (by simp [resP, St.box?, PF.get, Jn, TyK.agg, *]; rfl) Nl ?_
        exact ⟨rfl, rfl⟩
      · refine go_ ?_
        refine Qan [(0, .a), (1, .a), (2, .a), (3, .a), (4, .b), (5, .a), (6, .a), (7, .a), (8, .a), (9, .a), (10, .a), (11, .a), (12, .a), (13, .a), (14, .a), (15, .a)] (by kernel_rfl) (by rfl) (by kernel_rfl) ?_
        refine go_ ?_
        refine Qaa (hc1.out) ?_
        refine go_ ?_
        refine Qas (hc2.out) ?_
        refine go_ ?_
        exact ⟨j + 1, ⟨HJL.out, hs2.out rfl⟩, by have := HJL.out; omega, by repeat (first | exact Jt _ | refine Js (by simp [PF.get]; rfl) (by first | rfl | (simp [*]; done) | fail) ?_), by repeat (first | exact List.Sublist.refl _ | exact List.nil_sublist _ | refine List.Sublist.cons_cons _ ?_ | refine List.Sublist.cons _ ?_)⟩
  have hc : ¬ (j : Int) < vs.length := by omega
  have hsh := Lib.hid (show ∀ t ∈ vs, Qai t = true by have h := hsj.out; rw [List.take_of_length_le (by omega)] at h; exact h)
  clear hsj HC HZ
  refine go_ ?_
  refine Jc (hc0.out) ?_
  refine go_ ?_
  refine Jc (hc3.out) ?_
  refine go_ ?_
  refine Qao ?_
  refine go_ ?_
  refine Je ?_
  intro i9 hi9
  try simp only [Ja, Rh, Rg, Jb] at hi9
  refine go_ ?_
  refine Rd ?_
  refine go_ ?_
  refine Qib ?_
  refine go_ ?_
  have hT2 := Lib.hid (HT.out i9 i5)
  clear HT
  simp only [capS, Qdj, Jl, List.map_cons, List.map_nil, Tm.kind_mk, Tm.num_mk, Tm.sub_mk] at hT2
  refine Re 0 2 (hT2.out) ?_
  rintro _ _ ⟨rfl, rfl⟩
  simp only [List.cons_append, List.nil_append, List.append_nil, Ja, Rh, Rg]
  refine go_ ?_
  refine Je ?_
  intro i10 hi10
  try simp only [Ja, Rh, Rg, Jb] at hi10
  refine go_ ?_
  refine Rd ?_
  refine go_ ?_
  refine Jc (hVar.out) ?_
  refine go_ ?_
  refine Qak (ι := Nat) (fun y => y ≤ V.length ∧ Hid (∀ n ∈ V.take y, n < vs.length)) (fun y => [(1, .d (.sl (vs.map encD))), (2, .ptr i2 0), (5, .ptr i5 0), (10, .ptr i10 0), (11, .d (.v (.int .i64 T.2))), (12, .d (.sl (V.map encD))), (13, .d (.v (.int .i64 (y : Int))))]) (fun y => [.box i10 26 [.d (.v (.int .i64 T.1.kind)), .d (.v (.int .i64 T.1.num)), .d (.sl (T.1.sub.map encD))], .box i5 22 [.d (.sl (B.map encD))], .box i2 28 [.d (.v (.int .i64 p.kind)), .d (.v (.int .i64 p.num)), .d (.v (.int .i64 p.at_)), .d (.sl (p.sub.map encD)), .d (.v (.int .i64 p.t.kind)), .d (.v (.int .i64 p.t.num)), .d (.sl (p.t.sub.map encD))]]) (fun y => V.length - y) 0 ⟨Nat.zero_le _, fun t ht => by simp at ht⟩ ?_ ?_ ?_
  · repeat (first | exact Jt _ | refine Js (by simp [PF.get]; rfl) (by first | rfl | (simp [*]; done) | fail) ?_)
  · repeat (first | exact List.Sublist.refl _ | exact List.nil_sublist _ | refine List.Sublist.cons_cons _ ?_ | refine List.Sublist.cons _ ?_)
  clear hc
  rintro q ⟨hq, hsq⟩
  by_cases hqt : q < V.length
  · have hxs := Qal hqt
    have hc : (q : Int) < V.length := by omega
    have hn1 : (0 : Int) ≤ q := by omega
    have hin := wr64 (n := (q : Int) + 1) (by omega) (by omega)
    have hs2 : Hid (V[q] < vs.length → ∀ n ∈ V.take (q + 1), n < vs.length) := fun h t ht => by
      rw [List.take_succ_eq_append_getElem hqt] at ht
      rcases List.mem_append.1 ht with ht | ht
      · exact hsq.out t ht
      · rw [List.mem_singleton] at ht; subst ht; exact h
    have HQL := Lib.hid hqt
    obtain ⟨n, hn⟩ : ∃ n, n = V[q]'hqt := ⟨_, rfl⟩
    rw [← hn] at hxs hs2
    simp only [Jf] at hxs
    clear hsq hn hqt
    by_cases hb : (vs.length : Int) ≤ n
    · refine go_ ?_
      refine Jc (hW.out) ?_
      refine go_ ?_
      refine Jm (by simp) (by simp only [Tryz.results4]; rfl) (by simp [resP, St.box?, PF.get, Jn, TyK.agg, *]; rfl) Nl ?_
      exact ⟨rfl, rfl⟩
    · refine go_ ?_
      exact ⟨q + 1, ⟨HQL.out, hs2.out (by omega)⟩, by have := HQL.out; omega, by repeat (first | exact Jt _ | refine Js (by simp [PF.get]; rfl) (by first | rfl | (simp [*]; done) | fail) ?_), by repeat (first | exact List.Sublist.refl _ | exact List.nil_sublist _ | refine List.Sublist.cons_cons _ ?_ | refine List.Sublist.cons _ ?_)⟩
  have hc : ¬ (q : Int) < V.length := by omega
  have hnv := Lib.hid (show ∀ n ∈ V, n < vs.length by have h := hsq.out; rw [List.take_of_length_le (by omega)] at h; exact h)
  clear hsq
  have hE2 : Hid ((∃ e : Int, (T.2 != 0) = true ∧ e = 0) ∨ ∃ t, bldT B Qdj p = some t ∧ Qai t = true ∧ T = (t, 0)) := by
    have h : T = (match bldT B Qdj p with | some t => if Qai t = true then (t, 0) else (.mk 0 0 [], 2) | none => (.mk 0 0 [], 16) : Tm × Int) := hTM.out
    cases hb : bldT B Qdj p with
    | none => rw [hb] at h; exact .inl ⟨0, by rw [h]; rfl, rfl⟩
    | some t =>
      rw [hb] at h
      by_cases hs : Qai t = true
      · exact .inr ⟨t, rfl, hs, by rw [h]; exact if_pos hs⟩
      · exact .inl ⟨0, by rw [h]; simp only [if_neg hs]; rfl, rfl⟩
  clear hTM
  rcases hE2.out with ⟨-, hte, -⟩ | ⟨t, hb, hst, hte⟩
  · clear hE2
    refine go_ ?_
    refine Jc (hW.out) ?_
    refine go_ ?_
    refine Jm (by simp) (by simp only [Tryz.results4]; rfl) (by simp [resP, St.box?, PF.get, Jn, TyK.agg, *]; rfl) Nl ?_
    exact ⟨rfl, rfl⟩
  clear hE2
  subst hte
  have hvs2 := Lib.hid (show ∀ n ∈ pvT p, n < vs.length by rw [← HV.out]; exact hnv.out)
  obtain ⟨hgt, -, hnt⟩ := Qbd hst
  have hCh := Lib.hid (chosen_p vs t hgt (by omega))
  have hX := Lib.hid (Qgx (chT vs t))
  have hAsk := Lib.hid (fun hx => back_ask B hF.out hE.out hP.out p HPG.out (by have := hpn2.out; omega) hph2.out vs hsh.out t hb hvs2.out hx)
  have hOth := Lib.hid (fun hx => back_other B hF.out hE.out hP.out p HPG.out vs t hb hx)
  rw [← HV.out] at hAsk
  have hVS : Hid (∀ n ∈ V, 0 ≤ n ∧ n < vs.length) := fun n hn => by
    refine ⟨?_, hnv.out n hn⟩
    rw [HV.out] at hn
    exact pv_nn p HPG.out n hn
  have hSI := Lib.hid (rsamei24_p V (by omega))
  have hQ : Hid (∀ u : Tm, PCalls Tryz.prog 21 [aggD u, aggD u] [] fun p s => p = .d (.v (.bool true)) ∧ s = []) := fun u => by
    have h := requal_p u u
    rw [ceq_refl24] at h; exact h
  clear hb hst hgt hnt hvs2 hsh hnv
  obtain ⟨x, hx⟩ : ∃ x, x = chT vs t := ⟨_, rfl⟩
  obtain ⟨ts, hts⟩ : ∃ ts, ts = V.map (vaT vs) := ⟨_, rfl⟩
  have HTS := Lib.hid hts
  rw [← hx] at hCh hX hAsk hOth
  rw [← hts] at hAsk
  have htl : ts.length = V.length := by rw [hts, List.length_map]
  clear hx hts
  simp only [aggD, Jl, List.map_cons, List.map_nil, Tm.kind_mk, Tm.num_mk, Tm.sub_mk] at hCh hX hAsk hOth hQ
  refine go_ ?_
  refine Jc (hCh.out) ?_
  refine go_ ?_
  refine Je ?_
  intro i14 hi14
  try simp only [Ja, Rh, Rg, Jb] at hi14
  refine go_ ?_
  refine Rd ?_
  refine go_ ?_
  cases hxs : Qai x with
  | false =>
    rw [hxs] at hX
    clear hxs
    refine go_ ?_
    refine Jc (hX.out) ?_
    refine go_ ?_
    refine Jc (hW.out) ?_
    refine go_ ?_
    refine Jm (by simp) (by simp only [Tryz.results4]; rfl) (by simp [resP, St.box?, PF.get, Jn, TyK.agg, *]; rfl) Nl ?_
    exact ⟨rfl, rfl⟩
  | true =>
  rw [hxs] at hX
  have hA := Lib.hid (hAsk.out hxs)
  have hO2 := Lib.hid (hOth.out hxs)
  clear hAsk hOth hxs
  refine go_ ?_
  refine Jc (hX.out) ?_
  refine go_ ?_
  refine Qao ?_
  refine go_ ?_
  refine Qao ?_
  refine go_ ?_
  refine Jc (hA.out) ?_
  refine go_ ?_
  refine Je ?_
  intro i15 hi15
  try simp only [Ja, Rh, Rg, Jb] at hi15
  refine go_ ?_
  refine Rd ?_
  refine go_ ?_
  refine Jr (hSI.out) ?_
  have hne1 : ((ts.length : Int) != (V.length : Int)) = false := by rw [htl]; simp
  refine go_ ?_
  refine Qak (ι := Nat) (fun y => y ≤ V.length) (fun y => [(1, .d (.sl (vs.map encD))), (2, .ptr i2 0), (5, .ptr i5 0), (12, .d (.sl (V.map encD))), (14, .ptr i14 0), (15, .ptr i15 0), (17, .d (.v (.int .i64 (y : Int))))]) (fun y => [.box i15 56 [.d (.v (.bool true)), .d (.v (.bool false)), .d (.sl (V.map encD)), .d (.sl (ts.map encD))], .box i14 26 [.d (.v (.int .i64 x.kind)), .d (.v (.int .i64 x.num)), .d (.sl (x.sub.map encD))], .box i5 22 [.d (.sl (B.map encD))], .box i2 28 [.d (.v (.int .i64 p.kind)), .d (.v (.int .i64 p.num)), .d (.v (.int .i64 p.at_)), .d (.sl (p.sub.map encD)), .d (.v (.int .i64 p.t.kind)), .d (.v (.int .i64 p.t.num)), .d (.sl (p.t.sub.map encD))]]) (fun y => V.length - y) 0 (Nat.zero_le _) ?_ ?_ ?_
  · repeat (first | exact Jt _ | refine Js (by simp [PF.get]; rfl) (by first | rfl | (simp [*]; done) | fail) ?_)
  · repeat (first | exact List.Sublist.refl _ | exact List.nil_sublist _ | refine List.Sublist.cons_cons _ ?_ | refine List.Sublist.cons _ ?_)
  clear hc hq
  rintro r hr
  by_cases hrl : r < V.length
  · have hc : (r : Int) < V.length := by omega
    have hc2 : (r : Int) < ts.length := by omega
    have hn1 : (0 : Int) ≤ r := by omega
    have hin := wr64 (n := (r : Int) + 1) (by omega) (by omega)
    have hxv := Qal hrl
    obtain ⟨h0, h1⟩ := hVS.out _ (List.getElem_mem hrl)
    have hrt : r < ts.length := by omega
    have hxt := Qal hrt
    have htr : ts[r]'hrt = vaT vs (V[r]'hrl) := by
      simp only [HTS.out, List.getElem_map]
    rw [htr] at hxt
    have hrn := Lib.hid hrl
    obtain ⟨n, hn⟩ : ∃ n, n = V[r]'hrl := ⟨_, rfl⟩
    rw [← hn] at hxv hxt h0 h1
    obtain ⟨m, rfl⟩ := Int.eq_ofNat_of_zero_le h0
    have hva := va_at h0 h1
    rw [Int.toNat_natCast] at hva
    have hxe : (vs.map encD)[m]? = some (encD (vaT vs m)) := by rw [List.getElem?_map, hva]; rfl
    have hq1 := Lib.hid (hQ.out (vaT vs m))
    simp only [Jf] at hxv
    clear hva htr hn hrt hrl
    generalize vaT vs (m : Int) = u at *
    refine go_ ?_
    refine Qan [(0, .a), (1, .b), (2, .a), (3, .a), (4, .a), (5, .a), (6, .a), (7, .a), (8, .a), (9, .a), (10, .a), (11, .a), (12, .a), (13, .a)] (by kernel_rfl) (by rfl) (by kernel_rfl) ?_
    refine go_ ?_
    refine Qaa (hq1.out) ?_
    refine go_ ?_
    exact ⟨r + 1, hrn.out, by have := hrn.out; omega, by repeat (first | exact Jt _ | refine Js (by simp [PF.get]; rfl) (by first | rfl | (simp [*]; done) | fail) ?_), by repeat (first | exact List.Sublist.refl _ | exact List.nil_sublist _ | refine List.Sublist.cons_cons _ ?_ | refine List.Sublist.cons _ ?_)⟩
  have hc : ¬ (r : Int) < V.length := by omega
  clear hVS hQ
  by_cases hk : p.kind = 2
  rotate_left
  · have hk2 : (p.kind != 2) = true := bne_iff_ne.2 hk
    clear hk
    refine go_ ?_
    refine Jc (hW.out) ?_
    refine go_ ?_
    refine Jm (by simp) (by simp only [Tryz.results4]; rfl) (by simp [resP, St.box?, PF.get, Jn, TyK.agg, *]; rfl) Nl ?_
    exact ⟨rfl, rfl⟩
  have hk2 : (p.kind != 2) = false := by rw [hk]; rfl
  by_cases h4 : p.num = 4
  · have h5 := Lib.hid (hO2.out 5 hA4.out.2 hk (by omega))
    have h4b : (p.num == 4) = true := beq_iff_eq.2 h4
    simp only [Qap, Jl, List.map_nil, Pt.kind_mk, Pt.num_mk, Pt.at_mk, Pt.sub_mk, Pt.t_mk, Tm.kind_mk, Tm.num_mk, Tm.sub_mk] at h5
    clear hk h4 hO2
    refine go_ ?_
    refine Je ?_
    intro i18 hi18
    try simp only [Ja, Rh, Rg, Jb] at hi18
    refine go_ ?_
    refine Rd ?_
    refine go_ ?_
    refine Rd ?_
    refine go_ ?_
    refine Qao ?_
    refine go_ ?_
    refine Qao ?_
    refine go_ ?_
    refine Jc (h5.out) ?_
    refine go_ ?_
    refine Je ?_
    intro i19 hi19
    try simp only [Ja, Rh, Rg, Jb] at hi19
    refine go_ ?_
    refine Rd ?_
    refine go_ ?_
    refine Jr (hW.out) ?_
    refine go_ ?_
    refine Jm (by simp) (by simp only [Tryz.results4]; rfl) (by simp [resP, St.box?, PF.get, Jn, TyK.agg, *]; rfl) Nl ?_
    exact ⟨rfl, rfl⟩
  · have h5 := Lib.hid (hO2.out 4 hA4.out.1 hk h4)
    have h4b : (p.num == 4) = false := beq_false_of_ne h4
    simp only [Qap, Jl, List.map_nil, Pt.kind_mk, Pt.num_mk, Pt.at_mk, Pt.sub_mk, Pt.t_mk, Tm.kind_mk, Tm.num_mk, Tm.sub_mk] at h5
    clear hk h4 hO2
    refine go_ ?_
    refine Je ?_
    intro i18 hi18
    try simp only [Ja, Rh, Rg, Jb] at hi18
    refine go_ ?_
    refine Rd ?_
    refine go_ ?_
    refine Qao ?_
    refine go_ ?_
    refine Qao ?_
    refine go_ ?_
    refine Jc (h5.out) ?_
    refine go_ ?_
    refine Je ?_
    intro i19 hi19
    try simp only [Ja, Rh, Rg, Jb] at hi19
    refine go_ ?_
    refine Rd ?_
    refine go_ ?_
    refine Jr (hW.out) ?_
    refine go_ ?_
    refine Jm (by simp) (by simp only [Tryz.results4]; rfl) (by simp [resP, St.box?, PF.get, Jn, TyK.agg, *]; rfl) Nl ?_
    exact ⟨rfl, rfl⟩
theorem back24_walk (p : Pt) (cs : List Value) (v3 : Value) (vs : List Tm) (w : World) (h2 : PtC w p cs) (h3 : TwS w v3 vs) : Calls Tryz.prog 4 #[.agg cs.toArray, v3] w fun e w' => e = .returned (.bool true) ∧ Below w.heap.size w w' := by
 refine PCalls.top ((back24_p p vs).mono fun _ _ hp => hp.1) ?_
 exact Qcz (rel_rep (K := K0 w) (fun b o v _ h => ⟨v, h⟩) h2) (Qcz (.d (relS_of (fun b o v _ hv => ⟨v, hv⟩) (by decide) h3)) (Qfp _ _))
end Go.Proofs.YtdklpbefbamchaaGreat
