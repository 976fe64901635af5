import Derived.Test.YtdklpbefbamchaaGreatDBH
import Derived.Test.YtdklpbefbamchaaGreatPBR
set_option linter.unusedSimpArgs false
set_option linter.unusedVariables false
set_option maxHeartbeats 16000000
set_option maxRecDepth 100000
namespace Go.Proofs.YtdklpbefbamchaaGreat
open Go.RowKit
def gotG (r : Pt × List ByteArray × Int × Int) : PV := .agg [.d (.v (.int .i64 r.1.kind)), .d (.v (.int .i64 r.1.num)), .d (.v (.int .i64 r.1.at_)), .d (.sl (r.1.sub.map encD)), .d (.v (.int .i64 r.1.t.kind)), .d (.v (.int .i64 r.1.t.num)), .d (.sl (r.1.t.sub.map encD)), .d (.sl (r.2.1.map encD)), .d (.v (.int .i64 r.2.2.1)), .d (.v (.int .i64 r.2.2.2))]
def gotOf (r : Pt × Rs) : Pt × List ByteArray × Int × Int := if r.2.e = 0 then (r.1, r.2.names, 0, 0) else (zPt, [], r.2.at_, r.2.e)
theorem rvar24_p (ns : List ByteArray) (s : ByteArray) (a : Int) (hn : ns.length ≤ 2000000) : PCalls Tryz.prog 147 [.d (.sl (ns.map encD)), .d (.v (.string s)), .d (.v (.int .i64 a))] [] fun p st => p = gotG (gotOf (varR s a ⟨ns, 0, 0⟩)) ∧ st = [] := by
  have hc1 := Lib.hid (rnplace_p ns s)
  obtain ⟨R, hR⟩ : ∃ R, R = gotOf (varR s a ⟨ns, 0, 0⟩) := ⟨_, rfl⟩
  rw [← hR]
  unfold varR hasN at hR
  generalize Qbx ns s ns.length = z at *
  by_cases hf : (!(s.toList == [95]) && decide (0 ≤ z)) = true
  · simp only at hR
    rw [if_pos hf] at hR
    have hf0 : Hid (R = (zPt, [], a, 4)) := hR
    simp only [Bool.and_eq_true, Bool.not_eq_true', decide_eq_true_eq] at hf
    obtain ⟨hf1, hz⟩ := hf
    have hf2 : (s.toList != [95]) = true := by simpa using hf1
    clear hR
    refine PCalls.enter Tryz.func147 rfl Tryz.ntmps147 (by simp) ?_
    simp only [Qab]
    refine go_ ?_
    refine Je ?_
    intro i0 hi0
    try simp only [Ja, Rh, Rg, Jb] at hi0
    refine go_ ?_
    refine Jr (hc1.out) ?_
    refine go_ ?_
    refine Rd ?_
    refine go_ ?_
    refine Jm (by simp) (by simp only [Tryz.results147]; rfl) (by simp [resP, St.box?, PF.get, Jn, TyK.agg, *]; rfl) Nl ?_
    exact ⟨by rw [hf0.out]; rfl, rfl⟩
  · simp only at hR
    rw [if_neg hf] at hR
    have hf0 : Hid (R = (.mk 1 ns.length a [] zTm, ns ++ [s], 0, 0)) := hR
    clear hR
    cases hu : (s.toList == [95]) with
    | true =>
      have hu2 : (s.toList != [95]) = false := by simpa using hu
      clear hf hc1
      refine PCalls.enter Tryz.func147 rfl Tryz.ntmps147 (by simp) ?_
      simp only [Qab]
      refine go_ ?_
      refine Je ?_
      intro i0 hi0
      try simp only [Ja, Rh, Rg, Jb] at hi0
      refine go_ ?_
      refine Qdq ?_ (by decide) (by first | (simp [nev, nevA, nevB, Jp, PF.eval, PF.get, PF.wants, cPV, Qag, PV.rows, Qah, evUn, Jq, Qaj, Qai, Jn, TyK.agg, Qaf, St.box?, St.tok?, St.setBox, St.setTok, Qae, spl, PV.ps, PV.one, Jo, aggD, slD, Jh, Jk, Ji, Jj, Jg, Jf, *]; done) | fail) (by simp; rfl) (by rfl) (by simp; rfl) (by rfl) (by decide)
      intro g hg
      refine go_ ?_
      refine Qba ns.length ?_ ?_ ?_ ?_
      · simp
      · simp
      · exact Qil (α := ByteArray) rfl
      refine go_ ?_
      refine Qam ?_
      refine go_ ?_
      refine Qba (ns.length + 1) ?_ ?_ ?_ ?_
      · simp
      · intro row h
        exact Qil (α := ByteArray) rfl row h
      · exact Qbw rfl
      refine go_ ?_
      refine Rd ?_
      refine go_ ?_
      refine Jm (by simp) (by simp only [Tryz.results147]; rfl) (by simp [resP, St.box?, PF.get, Jn, TyK.agg, *]; rfl) Nl ?_
      exact ⟨by rw [hf0.out]; simp [gotG, zTm, tupP, PV.norm2, PV.norm1, PV.norm0, Jg], rfl⟩
    | false =>
      have hu2 : (s.toList != [95]) = true := by simpa using hu
      have hz : ¬ 0 ≤ z := by rw [hu] at hf; simpa using hf
      clear hf
      refine PCalls.enter Tryz.func147 rfl Tryz.ntmps147 (by simp) ?_
      simp only [Qab]
      refine go_ ?_
      refine Je ?_
      intro i0 hi0
      try simp only [Ja, Rh, Rg, Jb] at hi0
      refine go_ ?_
      refine Jr (hc1.out) ?_
      refine go_ ?_
      refine Qdq ?_ (by decide) (by first | (simp [nev, nevA, nevB, Jp, PF.eval, PF.get, PF.wants, cPV, Qag, PV.rows, Qah, evUn, Jq, Qaj, Qai, Jn, TyK.agg, Qaf, St.box?, St.tok?, St.setBox, St.setTok, Qae, spl, PV.ps, PV.one, Jo, aggD, slD, Jh, Jk, Ji, Jj, Jg, Jf, *]; done) | fail) (by simp; rfl) (by rfl) (by simp; rfl) (by rfl) (by decide)
      intro g hg
      refine go_ ?_
      refine Qba ns.length ?_ ?_ ?_ ?_
      · simp
      · simp
      · exact Qil (α := ByteArray) rfl
      refine go_ ?_
      refine Qam ?_
      refine go_ ?_
      refine Qba (ns.length + 1) ?_ ?_ ?_ ?_
      · simp
      · intro row h
        exact Qil (α := ByteArray) rfl row h
      · exact Qbw rfl
      refine go_ ?_
      refine Rd ?_
      refine go_ ?_
      refine Jm (by simp) (by simp only [Tryz.results147]; rfl) (by simp [resP, St.box?, PF.get, Jn, TyK.agg, *]; rfl) Nl ?_
      exact ⟨by rw [hf0.out]; simp [gotG, zTm, tupP, PV.norm2, PV.norm1, PV.norm0, Jg], rfl⟩
theorem var_at (s : ByteArray) (a : Int) (σ : Rs) (h : σ.at_ = 0) : (varR s a σ).2.e = 0 → (varR s a σ).2.at_ = 0 := by
 unfold varR
 split
 ·intro h2; exact absurd h2 (fail_ne (by decide))
 ·intro _; exact h
theorem rd_at (l : List En) : ∀ (n : Nd) (σ : Rs), σ.at_ = 0 → (rdT l n σ).2.e = 0 → (rdT l n σ).2.at_ = 0 := by
  refine Nd.ind ?_
  intro k a s m sub ih σ h
  have key : ∀ (r : List Nd), (∀ x ∈ r, x ∈ sub) → ∀ τ : Rs, τ.at_ = 0 → (rdL l r τ).2.e = 0 → (rdL l r τ).2.at_ = 0 := by
    intro r
    induction r with
    | nil => intro _ τ ht _; simp only [rdL]; exact ht
    | cons x r ihr =>
      intro hm τ ht he
      simp only [rdL] at he ⊢
      by_cases hx : (rdT l x τ).2.e = 0
      · exact ihr (fun y hy => hm y (by simp [hy])) _ (ih x (hm x (by simp)) τ ht hx) he
      · rw [(rdL_err r _ hx).1] at he; exact absurd he hx
  simp only [rdT]
  split
  · exact var_at _ _ _ h
  · split
    · intro _; exact h
    · split
      · intro _; exact h
      · split
        · split
          · exact key sub (fun x h => h) σ h
          · intro h2; exact absurd h2 (fail_ne (by decide))
        · split
          · intro h2; exact absurd h2 (fail_ne (by decide))
          · exact var_at _ _ _ h
theorem conN_none {l : List En} {s : ByteArray} (h : conN l s = none) : isE l (findI (findN s l 0)) 2 = false := by
  unfold conN at h
  cases hf : findN s l 0 with
  | none => unfold isE findI; simp
  | some c =>
    rw [hf] at h
    simp only at h
    show isE l c 2 = false
    split at h
    · cases h
    · rename_i h2; simpa using h2
theorem conN_some {l : List En} {s : ByteArray} {c : Nat} (h : conN l s = some c) : findI (findN s l 0) = c ∧ isE l c 2 = true := by
  unfold conN at h
  cases hf : findN s l 0 with
  | none => rw [hf] at h; cases h
  | some d =>
    rw [hf] at h
    simp only at h
    split at h
    · rename_i h2
      obtain rfl := Option.some.inj h
      exact ⟨rfl, h2⟩
    · cases h
theorem rread_p (l : List En) (hF : formedB l = true) : ∀ (n : Nd) (ns : List ByteArray), ns.length + ndT n ≤ 1000000 → PCalls Tryz.prog 87 [.d (.sl (l.map encD)), .d (.sl (ns.map encD)), aggD n] [] fun p st => p = gotG (gotOf (rdT l n ⟨ns, 0, 0⟩)) ∧ st = [] := by
  refine Nd.ind ?_
  intro k a s m sub ih ns hb
  simp only [ndT] at hb
  obtain ⟨R, hR⟩ : ∃ R, R = gotOf (rdT l (.mk k a s m sub) ⟨ns, 0, 0⟩) := ⟨_, rfl⟩
  rw [← hR]
  simp only [rdT] at hR
  simp only [aggD, Jh, List.map_cons, List.map_nil, Nd.kind, Nd.at, Nd.name, Nd.num, Nd.sub]
  by_cases k7 : k = 7
  · rw [if_pos k7] at hR
    have hv := Lib.hid (rvar24_p ns lowS a (by omega))
    rw [← hR] at hv
    subst k7
    clear hR ih hb hF
    simp only [lowS, gotG] at hv ⊢
    refine PCalls.enter Tryz.func87 rfl Tryz.ntmps87 (by simp) ?_
    simp only [Qab]
    refine go_ ?_
    refine Jd ?_
    intro i0 hi0
    try simp only [Ja, Rh, Rg, Jb] at hi0
    refine go_ ?_
    refine Je ?_
    intro i1 hi1
    try simp only [Ja, Rh, Rg, Jb] at hi1
    refine go_ ?_
    refine Jc (hv.out) ?_
    refine go_ ?_
    refine Rd ?_
    refine go_ ?_
    refine Jm (by simp) (by simp only [Tryz.results87]; rfl) (by simp [resP, St.box?, PF.get, Jn, TyK.agg, *]; rfl) Nl ?_
    exact ⟨rfl, rfl⟩
  rw [if_neg k7] at hR
  have k7b : (k == 7) = false := beq_eq_false_iff_ne.2 k7
  by_cases k9 : k = 9
  · rw [if_pos k9] at hR
    have hf0 : Hid (R = (.mk 4 0 a [] zTm, ns, 0, 0)) := hR
    subst k9
    clear hR ih hb k7 k7b hF
    refine PCalls.enter Tryz.func87 rfl Tryz.ntmps87 (by simp) ?_
    simp only [Qab]
    refine go_ ?_
    refine Jd ?_
    intro i0 hi0
    try simp only [Ja, Rh, Rg, Jb] at hi0
    refine go_ ?_
    refine Je ?_
    intro i1 hi1
    try simp only [Ja, Rh, Rg, Jb] at hi1
    refine go_ ?_
    refine Rd ?_
    refine go_ ?_
    refine Jm (by simp) (by simp only [Tryz.results87]; rfl) (by simp [resP, St.box?, PF.get, Jn, TyK.agg, *]; rfl) Nl ?_
    exact ⟨by rw [hf0.out]; rfl, rfl⟩
  rw [if_neg k9] at hR
  have k9b : (k == 9) = false := beq_eq_false_iff_ne.2 k9
  by_cases k10 : k = 10
  · rw [if_pos k10] at hR
    have hf0 : Hid (R = (.mk 3 0 a [] (.mk 2 0 []), ns, 0, 0)) := hR
    have hS := Lib.hid (bS_p 0)
    subst k10
    clear hR ih hb k7 k7b k9 k9b hF
    simp only [aggD, Jl, List.map_cons, List.map_nil, Tm.kind_mk, Tm.num_mk, Tm.sub_mk] at hS
    refine PCalls.enter Tryz.func87 rfl Tryz.ntmps87 (by simp) ?_
    simp only [Qab]
    refine go_ ?_
    refine Jd ?_
    intro i0 hi0
    try simp only [Ja, Rh, Rg, Jb] at hi0
    refine go_ ?_
    refine Je ?_
    intro i1 hi1
    try simp only [Ja, Rh, Rg, Jb] at hi1
    refine go_ ?_
    refine Qax [(0, .a), (1, .b), (2, .a), (3, .a), (4, .a), (5, .a), (6, .e)] (by kernel_rfl) (by rfl) (by kernel_rfl) ?_
    refine go_ ?_
    refine Qaa (hS.out) ?_
    refine go_ ?_
    refine Qfx ?_
    refine go_ ?_
    refine Jm (by simp) (by simp only [Tryz.results87]; rfl) (by simp [resP, St.box?, PF.get, Jn, TyK.agg, *]; rfl) Nl ?_
    exact ⟨by rw [hf0.out]; rfl, rfl⟩
  rw [if_neg k10] at hR
  have k10b : (k == 10) = false := beq_eq_false_iff_ne.2 k10
  have hFd := Lib.hid (rfindI_p l s)
  have hI := Lib.hid (ris_p l (findI (findN s l 0)) 2)
  clear k7 k9 k10
  cases hcn : conN l s with
  | none =>
    rw [hcn] at hR
    simp only at hR
    rw [conN_none hcn] at hI
    have hv := Lib.hid (rvar24_p ns s a (by omega))
    clear hcn ih hb hF
    generalize findI (findN s l 0) = z at *
    by_cases k8 : k = 8
    · rw [if_pos k8] at hR
      have hf0 : Hid (R = (zPt, [], a, 17)) := hR
      subst k8
      clear hR hv
      refine PCalls.enter Tryz.func87 rfl Tryz.ntmps87 (by simp) ?_
      simp only [Qab]
      refine go_ ?_
      refine Jd ?_
      intro i0 hi0
      try simp only [Ja, Rh, Rg, Jb] at hi0
      refine go_ ?_
      refine Je ?_
      intro i1 hi1
      try simp only [Ja, Rh, Rg, Jb] at hi1
      refine go_ ?_
      refine Jc (hFd.out) ?_
      refine go_ ?_
      refine Jc (hI.out) ?_
      refine go_ ?_
      refine Rd ?_
      refine go_ ?_
      refine Jm (by simp) (by simp only [Tryz.results87]; rfl) (by simp [resP, St.box?, PF.get, Jn, TyK.agg, *]; rfl) Nl ?_
      exact ⟨by rw [hf0.out]; rfl, rfl⟩
    · rw [if_neg k8] at hR
      have k8b : (k == 8) = false := beq_eq_false_iff_ne.2 k8
      rw [← hR] at hv
      clear hR k8
      simp only [gotG] at hv ⊢
      refine PCalls.enter Tryz.func87 rfl Tryz.ntmps87 (by simp) ?_
      simp only [Qab]
      refine go_ ?_
      refine Jd ?_
      intro i0 hi0
      try simp only [Ja, Rh, Rg, Jb] at hi0
      refine go_ ?_
      refine Je ?_
      intro i1 hi1
      try simp only [Ja, Rh, Rg, Jb] at hi1
      refine go_ ?_
      refine Jc (hFd.out) ?_
      refine go_ ?_
      refine Jc (hI.out) ?_
      refine go_ ?_
      refine Jc (hv.out) ?_
      refine go_ ?_
      refine Rd ?_
      refine go_ ?_
      refine Jm (by simp) (by simp only [Tryz.results87]; rfl) (by simp [resP, St.box?, PF.get, Jn, TyK.agg, *]; rfl) Nl ?_
      exact ⟨rfl, rfl⟩
  | some c =>
    rw [hcn] at hR
    simp only at hR
    obtain ⟨e1, e2⟩ := conN_some hcn
    rw [e1] at hFd hI
    rw [e2] at hI
    have hA := Lib.hid (rarity_p l c hF)
    clear hcn e1 e2 hF
    generalize arN l c = ar at *
    by_cases h1 : ar = (sub.length : Int)
    rotate_left
    · rw [if_neg h1] at hR
      have hf0 : Hid (R = (zPt, [], a, 17)) := hR
      have h1c : (ar != (sub.length : Int)) = true := bne_iff_ne.2 h1
      clear hR ih hb h1
      refine PCalls.enter Tryz.func87 rfl Tryz.ntmps87 (by simp) ?_
      simp only [Qab]
      refine go_ ?_
      refine Jd ?_
      intro i0 hi0
      try simp only [Ja, Rh, Rg, Jb] at hi0
      refine go_ ?_
      refine Je ?_
      intro i1 hi1
      try simp only [Ja, Rh, Rg, Jb] at hi1
      refine go_ ?_
      refine Jc (hFd.out) ?_
      refine go_ ?_
      refine Jc (hI.out) ?_
      refine go_ ?_
      refine Qax [(0, .a), (1, .a), (2, .a), (3, .a), (4, .b), (5, .a), (6, .a)] (by kernel_rfl) (by rfl) (by kernel_rfl) ?_
      refine go_ ?_
      refine Qaa (hA.out) ?_
      refine go_ ?_
      refine Rd ?_
      refine go_ ?_
      refine Jm (by simp) (by simp only [Tryz.results87]; rfl) (by simp [resP, St.box?, PF.get, Jn, TyK.agg, *]; rfl) Nl ?_
      exact ⟨by rw [hf0.out]; rfl, rfl⟩
    rw [if_pos h1] at hR
    have h1c : (ar != (sub.length : Int)) = false := by rw [h1]; simp
    have hsl := ndL_len sub
    obtain ⟨V, hV⟩ : ∃ V, V = rdL l sub ⟨ns, 0, 0⟩ := ⟨_, rfl⟩
    have HR : Hid (R = gotOf (.mk 2 c a V.1 zTm, V.2)) := by show _ = _; rw [hR, hV]
    have HV : Hid (V = ([] ++ (rdL l (sub.drop 0) ⟨ns, 0, 0⟩).1, (rdL l (sub.drop 0) ⟨ns, 0, 0⟩).2)) := by show _ = _; rw [hV]; rfl
    have IH := Lib.hid ih
    clear hR hV ih h1
    refine PCalls.enter Tryz.func87 rfl Tryz.ntmps87 (by simp) ?_
    simp only [Qab]
    refine go_ ?_
    refine Jd ?_
    intro i0 hi0
    try simp only [Ja, Rh, Rg, Jb] at hi0
    refine go_ ?_
    refine Je ?_
    intro i1 hi1
    try simp only [Ja, Rh, Rg, Jb] at hi1
    refine go_ ?_
    refine Jc (hFd.out) ?_
    refine go_ ?_
    refine Jc (hI.out) ?_
    refine go_ ?_
    refine Qax [(0, .a), (1, .a), (2, .a), (3, .a), (4, .b), (5, .a), (6, .a)] (by kernel_rfl) (by rfl) (by kernel_rfl) ?_
    refine go_ ?_
    refine Qaa (hA.out) ?_
    refine go_ ?_
    refine Je ?_
    intro i2 hi2
    try simp only [Ja, Rh, Rg, Jb] at hi2
    refine go_ ?_
    refine Rd ?_
    refine go_ ?_
    refine PW_ownB i2 3 44 7 (by simp [nev, nevA, nevB, Jp, PF.eval, PF.get, PF.wants, cPV, Qag, PV.rows, Qah, evUn, Jq, Qaj, Qai, Jn, TyK.agg, Qaf, St.box?, St.tok?, St.setBox, St.setTok, Qae, spl, PV.ps, PV.one, Jo, aggD, slD, Jh, Jk, Ji, Jj, Jg, Jf, *]; rfl) (by rfl) (by rfl) (by intro g; simp [St.setBox, *]; rfl) (by decide) ?_
    intro g hg
    clear hFd hI hA
    refine Qak (ι := List Pt × List ByteArray) (fun y => y.1.length ≤ sub.length ∧ y.2.length + ndL (sub.drop y.1.length) ≤ 1000000 ∧ Hid (V = (y.1 ++ (rdL l (sub.drop y.1.length) ⟨y.2, 0, 0⟩).1, (rdL l (sub.drop y.1.length) ⟨y.2, 0, 0⟩).2))) (fun y => [(0, .d (.sl (l.map encD))), (5, .ptr i0 0), (6, .ptr i1 0), (8, .ptr i2 0), (9, .d (.v (.int .i64 (y.1.length : Int))))]) (fun y => [.tok g 44 7 y.1.length, .box i2 139 [.d (.v (.int .i64 2)), .d (.v (.int .i64 c)), .d (.v (.int .i64 a)), .own g (y.1.map encD), .d (.v (.int .i64 0)), .d (.v (.int .i64 0)), .nils, .d (.sl (y.2.map encD)), .d (.v (.int .i64 0)), .d (.v (.int .i64 0))], .box i1 139 [.d (.v (.int .i64 0)), .d (.v (.int .i64 0)), .d (.v (.int .i64 0)), .nils, .d (.v (.int .i64 0)), .d (.v (.int .i64 0)), .nils, .nils, .d (.v (.int .i64 0)), .d (.v (.int .i64 0))], .box i0 64 [.d (.v (.int .i64 k)), .d (.v (.int .i64 a)), .d (.v (.string s)), .d (.v (.int .i64 m)), .d (.sl (sub.map encD))]]) (fun y => sub.length - y.1.length) ([], ns) ⟨Nat.zero_le _, by simp only [List.length_nil, List.drop_zero]; omega, HV.out⟩ ?_ ?_ ?_
    · repeat (first | exact Jt _ | refine Js (by simp [PF.get]; rfl) (by first | rfl | (simp [*]; done) | fail) ?_)
    · repeat (first | exact List.Sublist.refl _ | exact List.nil_sublist _ | refine List.Sublist.cons_cons _ ?_ | refine List.Sublist.cons _ ?_)
    rintro ⟨rs, nn⟩ ⟨hk, hbt, hR⟩
    simp only at hk hbt hR ⊢
    clear HV
    by_cases hlt : rs.length < sub.length
    · have hxs := Qal hlt
      have hc : (rs.length : Int) < sub.length := by omega
      have hn : (0 : Int) ≤ rs.length := by omega
      have hin := wr64 (n := (rs.length : Int) + 1) (by omega) (by omega)
      have hdn : ndL (sub.drop rs.length) = ndT sub[rs.length] + ndL (sub.drop (rs.length + 1)) := by rw [List.drop_eq_getElem_cons hlt]; simp only [ndL]
      have hc1 := Lib.hid (IH.out _ (List.getElem_mem hlt) nn (by omega))
      have hnm := rd_names l sub[rs.length] ⟨nn, 0, 0⟩
      have hR2 : Hid (V = ((rs ++ [(rdT l sub[rs.length] ⟨nn, 0, 0⟩).1]) ++ (rdL l (sub.drop (rs.length + 1)) (rdT l sub[rs.length] ⟨nn, 0, 0⟩).2).1, (rdL l (sub.drop (rs.length + 1)) (rdT l sub[rs.length] ⟨nn, 0, 0⟩).2).2)) := by
        show _ = _
        rw [show V = _ from hR.out, List.drop_eq_getElem_cons hlt]
        simp only [rdL]
        rw [List.append_assoc]; rfl
      have herr := rdL_err (l := l) (sub.drop (rs.length + 1)) (rdT l sub[rs.length] ⟨nn, 0, 0⟩).2
      have hkeep : (rdT l sub[rs.length] ⟨nn, 0, 0⟩).2.e = 0 → (rdT l sub[rs.length] ⟨nn, 0, 0⟩).2.at_ = 0 := rd_at l sub[rs.length] ⟨nn, 0, 0⟩ rfl
      obtain ⟨W, hW⟩ : ∃ W, W = rdT l sub[rs.length] ⟨nn, 0, 0⟩ := ⟨_, rfl⟩
      rw [← hW] at hc1 hR2 hnm herr hkeep
      obtain ⟨q, ⟨n2, e2, a2⟩⟩ := W
      simp only at hR2 hnm herr hkeep
      clear hR hW
      simp only [aggD, Jh, List.map_cons, List.map_nil] at hc1
      by_cases he : e2 = 0
      · subst he
        obtain rfl := hkeep rfl
        have hc2 : Hid (PCalls Tryz.prog 87 _ [] _) := hc1
        simp only [gotG, gotOf, if_pos] at hc2
        clear hc1 herr hkeep
        refine go_ ?_
        refine Qek (J := Qcy [(i2, _), (i0, _)]) [(0, .a), (1, .a), (2, .a), (3, .a), (4, .a), (5, .a), (6, .a), (7, .a), (8, .a), (9, .e), (10, .e)] (by kernel_rfl) (by rfl) (by kernel_rfl) (by (repeat (first | exact Qap _ | refine Ju (by simp [St.box?, *] <;> rfl) ?_))) ?_
        repeat (first | with_reducible refine Qaw ?_ | refine Qay ?_ | refine Qbe ?_ | refine Qbg ?_)
        refine Qdp (hc2.out) ?_
        repeat (first | with_reducible refine Qaw ?_ | refine Qay ?_ | refine Qbe ?_ | refine Qbg ?_)
        refine Qgh rfl (by decide) rfl (by simp; rfl) (fun i hi => by simp only [Ja, Rh, Rg] at hi; (repeat (first | exact Qap _ | refine Ju (by simp [St.box?, *] <;> rfl) ?_))) ?_
        intro i3 hi3
        try simp only [Ja, Rh, Rg, Jb] at hi3
        repeat (first | with_reducible refine Qaw ?_ | refine Qay ?_ | refine Qbe ?_ | refine Qbg ?_)
        refine Qgi rfl rfl (by simp [nev, nevA, nevB, Jp, PF.eval, PF.get, PF.wants, cPV, Qag, PV.rows, Qah, evUn, Jq, Qaj, Qai, Jn, TyK.agg, Qaf, St.box?, St.tok?, St.setBox, St.setTok, Qae, spl, PV.ps, PV.one, Jo, aggD, slD, Jh, Jk, Ji, Jj, Jg, Jf, *]; rfl) (by rfl) (by simp [nev, nevA, nevB, Jp, PF.eval, PF.get, PF.wants, cPV, Qag, PV.rows, Qah, evUn, Jq, Qaj, Qai, Jn, TyK.agg, Qaf, St.box?, St.tok?, St.setBox, St.setTok, Qae, spl, PV.ps, PV.one, Jo, aggD, slD, Jh, Jk, Ji, Jj, Jg, Jf, *]; rfl) (by simp [PV.ps, aggD, slD, Jh, Jk, Ji, Jj, Jg, Jf]; rfl) (by first | rfl | (simp [*]; done) | (simp [PV.one, *]; done) | fail) (by simp; rfl) (by first | (simp; done) | fail) (by simp [nev, nevA, nevB, Jp, PF.eval, PF.get, PF.wants, cPV, Qag, PV.rows, Qah, evUn, Jq, Qaj, Qai, Jn, TyK.agg, Qaf, St.box?, St.tok?, St.setBox, St.setTok, Qae, spl, PV.ps, PV.one, Jo, aggD, slD, Jh, Jk, Ji, Jj, Jg, Jf, *]; rfl) (by rfl) (by first | (simp; done) | fail) (by simp [St.setBox, spl, *]; rfl) (by (repeat (first | exact Qap _ | refine Ju (by simp [St.box?, *] <;> rfl) ?_))) ?_
        repeat (first | with_reducible refine Qaw ?_ | refine Qay ?_ | refine Qbe ?_ | refine Qbg ?_)
        refine go_ ?_
        refine Qam ?_
        refine go_ ?_
        refine Qba (rs.length + 1) ?_ ?_ ?_ ?_
        · simp
        · exact rows7 _
        · exact Qbw rfl
        refine go_ ?_
        refine Rd ?_
        refine go_ ?_
        refine Rd ?_
        refine go_ ?_
        refine ⟨(rs ++ [q], n2), ⟨by simp only [List.length_append, List.length_singleton]; omega, by simp only [List.length_append, List.length_singleton]; omega, by simp only [List.length_append, List.length_singleton]; exact hR2.out⟩, by simp only [List.length_append, List.length_singleton]; omega, ?_, ?_⟩
        · simp only [List.length_append, List.length_singleton]
          repeat (first | exact Jt _ | refine Js (by simp [PF.get]; rfl) (by first | rfl | (simp [hin]; done) | fail) ?_)
        · simp only [List.length_append, List.length_singleton, List.map_append, List.map_cons, List.map_nil, Qao]
          repeat (first | exact List.Sublist.refl _ | exact List.nil_sublist _ | refine List.Sublist.cons_cons _ ?_ | refine List.Sublist.cons _ ?_)
      · obtain ⟨q1, q2⟩ := herr he
        have hf0 : Hid (R = (zPt, [], a2, e2)) := by
          show _ = _
          rw [HR.out]
          unfold gotOf
          simp only
          rw [hR2.out]
          simp only
          rw [if_neg (by rw [q1]; exact he), q1, q2]
        have hc2 : Hid (PCalls Tryz.prog 87 _ [] _) := hc1
        simp only [gotG, gotOf, if_neg he, zPt, zTm, Pt.kind_mk, Pt.num_mk, Pt.at_mk, Pt.sub_mk, Pt.t_mk, Tm.kind_mk, Tm.num_mk, Tm.sub_mk, List.map_nil] at hc2
        have heb : (e2 != 0) = true := bne_iff_ne.2 he
        clear hc1 herr hkeep q1 q2 hR2 he
        refine go_ ?_
        refine Qek (J := Qcy [(i2, _), (i0, _)]) [(0, .a), (1, .a), (2, .a), (3, .a), (4, .a), (5, .a), (6, .a), (7, .a), (8, .a), (9, .e), (10, .e)] (by kernel_rfl) (by rfl) (by kernel_rfl) (by (repeat (first | exact Qap _ | refine Ju (by simp [St.box?, *] <;> rfl) ?_))) ?_
        repeat (first | with_reducible refine Qaw ?_ | refine Qay ?_ | refine Qbe ?_ | refine Qbg ?_)
        refine Qdp (hc2.out) ?_
        repeat (first | with_reducible refine Qaw ?_ | refine Qay ?_ | refine Qbe ?_ | refine Qbg ?_)
        refine Qgh rfl (by decide) rfl (by simp; rfl) (fun i hi => by simp only [Ja, Rh, Rg] at hi; (repeat (first | exact Qap _ | refine Ju (by simp [St.box?, *] <;> rfl) ?_))) ?_
        intro i3 hi3
        try simp only [Ja, Rh, Rg, Jb] at hi3
        repeat (first | with_reducible refine Qaw ?_ | refine Qay ?_ | refine Qbe ?_ | refine Qbg ?_)
        refine Qgi rfl rfl (by simp [nev, nevA, nevB, Jp, PF.eval, PF.get, PF.wants, cPV, Qag, PV.rows, Qah, evUn, Jq, Qaj, Qai, Jn, TyK.agg, Qaf, St.box?, St.tok?, St.setBox, St.setTok, Qae, spl, PV.ps, PV.one, Jo, aggD, slD, Jh, Jk, Ji, Jj, Jg, Jf, *]; rfl) (by rfl) (by simp [nev, nevA, nevB, Jp, PF.eval, PF.get, PF.wants, cPV, Qag, PV.rows, Qah, evUn, Jq, Qaj, Qai, Jn, TyK.agg, Qaf, St.box?, St.tok?, St.setBox, St.setTok, Qae, spl, PV.ps, PV.one, Jo, aggD, slD, Jh, Jk, Ji, Jj, Jg, Jf, *]; rfl) (by simp [PV.ps, aggD, slD, Jh, Jk, Ji, Jj, Jg, Jf]; rfl) (by first | rfl | (simp [*]; done) | (simp [PV.one, *]; done) | fail) (by simp; rfl) (by first | (simp; done) | fail) (by simp [nev, nevA, nevB, Jp, PF.eval, PF.get, PF.wants, cPV, Qag, PV.rows, Qah, evUn, Jq, Qaj, Qai, Jn, TyK.agg, Qaf, St.box?, St.tok?, St.setBox, St.setTok, Qae, spl, PV.ps, PV.one, Jo, aggD, slD, Jh, Jk, Ji, Jj, Jg, Jf, *]; rfl) (by rfl) (by first | (simp; done) | fail) (by simp [St.setBox, spl, *]; rfl) (by (repeat (first | exact Qap _ | refine Ju (by simp [St.box?, *] <;> rfl) ?_))) ?_
        repeat (first | with_reducible refine Qaw ?_ | refine Qay ?_ | refine Qbe ?_ | refine Qbg ?_)
        refine go_ ?_
        refine Rd ?_
        refine go_ ?_
        refine Jm (by simp) (by simp only [Tryz.results87]; rfl) (by simp [resP, St.box?, PF.get, Jn, TyK.agg, *]; rfl) Nl ?_
        exact ⟨by rw [hf0.out]; rfl, rfl⟩
    · have hc : ¬ (rs.length : Int) < sub.length := by omega
      have hf : V = (rs, ⟨nn, 0, 0⟩) := by rw [show V = _ from hR.out, List.drop_of_length_le (by omega)]; simp only [rdL, List.append_nil]
      have hf0 : Hid (R = (.mk 2 c a rs zTm, nn, 0, 0)) := by show _ = _; rw [HR.out, hf]; rfl
      clear hR hf
      refine go_ ?_
      refine Rd ?_
      refine go_ ?_
      refine Jm (by simp) (by simp only [Tryz.results87]; rfl) (by simp [resP, St.box?, PF.get, Jn, TyK.agg, *]; rfl) Nl ?_
      exact ⟨by rw [hf0.out]; rfl, rfl⟩
def gotL (r : List Pt × List ByteArray × Int × Int) : PV := .agg [.d (.sl (r.1.map encD)), .d (.sl (r.2.1.map encD)), .d (.v (.int .i64 r.2.2.1)), .d (.v (.int .i64 r.2.2.2))]
theorem rRead24_p (l : List En) (fr : List Nd) (ho : ∀ e ∈ l, EnOk e) (hnd : ndL fr ≤ 100000) : PCalls Tryz.prog 33 [.d (.sl (l.map encD)), .d (.sl (fr.map encD))] [] fun p s => p = gotL (rdAll l fr) ∧ s = [] := by
  have hFm := Lib.hid (rformed_p l ho)
  rw [← formed_eq] at hFm
  have HPt : Hid (∀ t : Nd, PCalls Tryz.prog 86 [aggD t] [] fun p s => p = .d (.v (.bool (patB t))) ∧ s = []) := fun t => rpat_p t
  have hfl := ndL_len fr
  obtain ⟨R, hR⟩ : ∃ R, R = rdAll l fr := ⟨_, rfl⟩
  rw [← hR]
  unfold rdAll at hR
  have HPP : Hid (formedB l = true → ∀ (n : Nd) (ns : List ByteArray), ns.length + ndT n ≤ 1000000 → PCalls Tryz.prog 87 [.d (.sl (l.map encD)), .d (.sl (ns.map encD)), aggD n] [] fun p st => p = gotG (gotOf (rdT l n ⟨ns, 0, 0⟩)) ∧ st = []) := fun h => rread_p l h
  obtain ⟨Z, hZ⟩ : ∃ Z, Z = (formedB l && fr.all patB) := ⟨_, rfl⟩
  rw [← hZ] at hR
  have HZ : Hid (Z = (formedB l && (fr.drop 0).all patB)) := hZ
  have HZf : Hid (Z = true → formedB l = true) := fun h => by rw [hZ] at h; simp only [Bool.and_eq_true] at h; exact h.1
  have HR := Lib.hid hR
  clear hR hZ ho
  generalize formedB l = fb at *
  refine PCalls.enter Tryz.func33 rfl Tryz.ntmps33 (by simp) ?_
  simp only [Qab]
  refine go_ ?_
  refine Je ?_
  intro i1 hi1
  try simp only [Ja, Rh, Rg, Jb] at hi1
  refine go_ ?_
  refine Jc (hFm.out) ?_
  refine go_ ?_
  refine Qak (ι := Nat × Bool) (fun y => y.1 ≤ fr.length ∧ Hid (Z = (y.2 && (fr.drop y.1).all patB))) (fun y => [(0, .d (.sl (l.map encD))), (1, .d (.sl (fr.map encD))), (4, .ptr i1 0), (5, .d (.v (.bool y.2))), (6, .d (.v (.int .i64 (y.1 : Int))))]) (fun _ => [.box i1 73 [.nils, .nils, .d (.v (.int .i64 0)), .d (.v (.int .i64 0))]]) (fun y => fr.length - y.1) (0, fb) ⟨Nat.zero_le _, HZ.out⟩ ?_ ?_ ?_
  · repeat (first | exact Jt _ | refine Js (by simp [PF.get]; rfl) (by first | rfl | (simp [*]; done) | fail) ?_)
  · repeat (first | exact List.Sublist.refl _ | exact List.nil_sublist _ | refine List.Sublist.cons_cons _ ?_ | refine List.Sublist.cons _ ?_)
  rintro ⟨j, b⟩ ⟨hj, hz⟩
  simp only at hj hz ⊢
  clear HZ
  by_cases hlt : j < fr.length
  · have hx := Qal hlt
    have hc : (j : Int) < fr.length := by omega
    have hn : (0 : Int) ≤ j := by omega
    have hin := wr64 (n := (j : Int) + 1) (by omega) (by omega)
    have hc1 := Lib.hid (HPt.out fr[j])
    have hz2 : Hid (Z = ((b && patB fr[j]) && (fr.drop (j + 1)).all patB)) := by show _ = _; rw [show Z = _ from hz.out, List.drop_eq_getElem_cons hlt, List.all_cons, Bool.and_assoc]
    simp only [aggD, Jh, List.map_cons, List.map_nil] at hc1
    clear hz
    generalize patB fr[j] = q at *
    cases b with
    | false =>
      refine go_ ?_
      exact ⟨(j + 1, false), ⟨hlt, hz2.out⟩, by simp only; omega, by repeat (first | exact Jt _ | refine Js (by simp [PF.get]; rfl) (by first | rfl | (simp [*]; done) | fail) ?_), by repeat (first | exact List.Sublist.refl _ | exact List.nil_sublist _ | refine List.Sublist.cons_cons _ ?_ | refine List.Sublist.cons _ ?_)⟩
    | true =>
      refine go_ ?_
      refine Jr (hc1.out) ?_
      refine go_ ?_
      exact ⟨(j + 1, q), ⟨hlt, hz2.out⟩, by simp only; omega, by repeat (first | exact Jt _ | refine Js (by simp [PF.get]; rfl) (by first | rfl | (simp [*]; done) | fail) ?_), by repeat (first | exact List.Sublist.refl _ | exact List.nil_sublist _ | refine List.Sublist.cons_cons _ ?_ | refine List.Sublist.cons _ ?_)⟩
  have hc : ¬ (j : Int) < fr.length := by omega
  have hzb : Hid (Z = b) := by show _ = _; rw [show Z = _ from hz.out, List.drop_of_length_le (by omega)]; simp
  clear hz HPt
  cases b with
  | false =>
    have hf : Hid (R = ([], [], 0, 5)) := by show _ = _; rw [HR.out, if_neg (by rw [hzb.out]; decide)]
    refine go_ ?_
    refine Rd ?_
    refine go_ ?_
    refine Jm (by simp) (by simp only [Tryz.results33]; rfl) (by simp [resP, St.box?, PF.get, Jn, TyK.agg, *]; rfl) Nl ?_
    exact ⟨by rw [hf.out]; rfl, rfl⟩
  | true =>
  have IH := Lib.hid (HPP.out (HZf.out hzb.out))
  obtain ⟨V, hV⟩ : ∃ V, V = rdL l fr ⟨[], 0, 0⟩ := ⟨_, rfl⟩
  have HR2 : Hid (R = if V.2.e = 0 then (V.1, V.2.names, 0, 0) else ([], [], V.2.at_, V.2.e)) := by show _ = _; rw [HR.out, if_pos hzb.out, hV]
  have HV : Hid (V = ([] ++ (rdL l (fr.drop 0) ⟨[], 0, 0⟩).1, (rdL l (fr.drop 0) ⟨[], 0, 0⟩).2)) := by show _ = _; rw [hV]; rfl
  clear hzb hV HR HPP HZf
  refine go_ ?_
  refine Je ?_
  intro i2 hi2
  try simp only [Ja, Rh, Rg, Jb] at hi2
  refine go_ ?_
  refine Rd ?_
  refine go_ ?_
  refine PW_ownB i2 0 44 7 (by simp [nev, nevA, nevB, Jp, PF.eval, PF.get, PF.wants, cPV, Qag, PV.rows, Qah, evUn, Jq, Qaj, Qai, Jn, TyK.agg, Qaf, St.box?, St.tok?, St.setBox, St.setTok, Qae, spl, PV.ps, PV.one, Jo, aggD, slD, Jh, Jk, Ji, Jj, Jg, Jf, *]; rfl) (by rfl) (by rfl) (by intro g; simp [St.setBox, *]; rfl) (by decide) ?_
  intro g hg
  refine Qak (ι := List Pt × List ByteArray × PV) (fun y => y.1.length ≤ fr.length ∧ y.2.1.length + ndL (fr.drop y.1.length) ≤ 1000000 ∧ Hid (V = (y.1 ++ (rdL l (fr.drop y.1.length) ⟨y.2.1, 0, 0⟩).1, (rdL l (fr.drop y.1.length) ⟨y.2.1, 0, 0⟩).2)) ∧ ((y.2.1 = [] ∧ y.2.2 = .nils) ∨ y.2.2 = .d (.sl (y.2.1.map encD)))) (fun y => [(0, .d (.sl (l.map encD))), (1, .d (.sl (fr.map encD))), (4, .ptr i1 0), (7, .ptr i2 0), (8, .d (.v (.int .i64 (y.1.length : Int))))]) (fun y => [.tok g 44 7 y.1.length, .box i2 73 [.own g (y.1.map encD), y.2.2, .d (.v (.int .i64 0)), .d (.v (.int .i64 0))], .box i1 73 [.nils, .nils, .d (.v (.int .i64 0)), .d (.v (.int .i64 0))]]) (fun y => fr.length - y.1.length) ([], [], .nils) ⟨Nat.zero_le _, by simp only [List.length_nil, List.drop_zero]; omega, HV.out, .inl ⟨rfl, rfl⟩⟩ ?_ ?_ ?_
  · repeat (first | exact Jt _ | refine Js (by simp [PF.get]; rfl) (by first | rfl | (simp [*]; done) | fail) ?_)
  · repeat (first | exact List.Sublist.refl _ | exact List.nil_sublist _ | refine List.Sublist.cons_cons _ ?_ | refine List.Sublist.cons _ ?_)
  rintro ⟨rs, nn, pv⟩ ⟨hk, hbt, hR, hpv⟩
  simp only at hk hbt hR hpv ⊢
  clear HV
  rcases hpv with ⟨hn0, rfl⟩ | rfl
  all_goals
    by_cases hlt2 : rs.length < fr.length
    · have hxs := Qal hlt2
      have hc2 : (rs.length : Int) < fr.length := by omega
      have hn2 : (0 : Int) ≤ rs.length := by omega
      have hin := wr64 (n := (rs.length : Int) + 1) (by omega) (by omega)
      have hdn : ndL (fr.drop rs.length) = ndT fr[rs.length] + ndL (fr.drop (rs.length + 1)) := by rw [List.drop_eq_getElem_cons hlt2]; simp only [ndL]
      have hc1 := Lib.hid (IH.out fr[rs.length] nn (by omega))
      have hnm := rd_names l fr[rs.length] ⟨nn, 0, 0⟩
      have hR2 : Hid (V = ((rs ++ [(rdT l fr[rs.length] ⟨nn, 0, 0⟩).1]) ++ (rdL l (fr.drop (rs.length + 1)) (rdT l fr[rs.length] ⟨nn, 0, 0⟩).2).1, (rdL l (fr.drop (rs.length + 1)) (rdT l fr[rs.length] ⟨nn, 0, 0⟩).2).2)) := by
        show _ = _
        rw [show V = _ from hR.out, List.drop_eq_getElem_cons hlt2]
        simp only [rdL]
        rw [List.append_assoc]; rfl
      have herr := rdL_err (l := l) (fr.drop (rs.length + 1)) (rdT l fr[rs.length] ⟨nn, 0, 0⟩).2
      have hkeep : (rdT l fr[rs.length] ⟨nn, 0, 0⟩).2.e = 0 → (rdT l fr[rs.length] ⟨nn, 0, 0⟩).2.at_ = 0 := rd_at l fr[rs.length] ⟨nn, 0, 0⟩ rfl
      obtain ⟨W, hW⟩ : ∃ W, W = rdT l fr[rs.length] ⟨nn, 0, 0⟩ := ⟨_, rfl⟩
      rw [← hW] at hc1 hR2 hnm herr hkeep
      obtain ⟨q, ⟨n2, e2, a2⟩⟩ := W
      simp only at hR2 hnm herr hkeep
      clear hR hW
      simp only [aggD, Jh, List.map_cons, List.map_nil] at hc1
      by_cases he : e2 = 0
      · subst he
        obtain rfl := hkeep rfl
        have hcc : Hid (PCalls Tryz.prog 87 _ [] _) := hc1
        simp only [gotG, gotOf, if_pos] at hcc
        try rw [hn0, List.map_nil] at hcc
        clear hc1 herr hkeep
        refine go_ ?_
        refine Qek (J := Qcy [(i2, _)]) [(0, .a), (1, .a), (2, .a), (3, .a), (4, .a), (5, .a), (6, .a), (7, .a), (8, .e), (9, .e)] (by kernel_rfl) (by rfl) (by kernel_rfl) (by (repeat (first | exact Qap _ | refine Ju (by simp [St.box?, *] <;> rfl) ?_))) ?_
        repeat (first | with_reducible refine Qaw ?_ | refine Qay ?_ | refine Qbe ?_ | refine Qbg ?_)
        refine Qdp (hcc.out) ?_
        repeat (first | with_reducible refine Qaw ?_ | refine Qay ?_ | refine Qbe ?_ | refine Qbg ?_)
        refine Qgh rfl (by decide) rfl (by simp; rfl) (fun i hi => by simp only [Ja, Rh, Rg] at hi; (repeat (first | exact Qap _ | refine Ju (by simp [St.box?, *] <;> rfl) ?_))) ?_
        intro i3 hi3
        try simp only [Ja, Rh, Rg, Jb] at hi3
        repeat (first | with_reducible refine Qaw ?_ | refine Qay ?_ | refine Qbe ?_ | refine Qbg ?_)
        refine Qgi rfl rfl (by simp [nev, nevA, nevB, Jp, PF.eval, PF.get, PF.wants, cPV, Qag, PV.rows, Qah, evUn, Jq, Qaj, Qai, Jn, TyK.agg, Qaf, St.box?, St.tok?, St.setBox, St.setTok, Qae, spl, PV.ps, PV.one, Jo, aggD, slD, Jh, Jk, Ji, Jj, Jg, Jf, *]; rfl) (by rfl) (by simp [nev, nevA, nevB, Jp, PF.eval, PF.get, PF.wants, cPV, Qag, PV.rows, Qah, evUn, Jq, Qaj, Qai, Jn, TyK.agg, Qaf, St.box?, St.tok?, St.setBox, St.setTok, Qae, spl, PV.ps, PV.one, Jo, aggD, slD, Jh, Jk, Ji, Jj, Jg, Jf, *]; rfl) (by simp [PV.ps, aggD, slD, Jh, Jk, Ji, Jj, Jg, Jf]; rfl) (by first | rfl | (simp [*]; done) | (simp [PV.one, *]; done) | fail) (by simp; rfl) (by first | (simp; done) | fail) (by simp [nev, nevA, nevB, Jp, PF.eval, PF.get, PF.wants, cPV, Qag, PV.rows, Qah, evUn, Jq, Qaj, Qai, Jn, TyK.agg, Qaf, St.box?, St.tok?, St.setBox, St.setTok, Qae, spl, PV.ps, PV.one, Jo, aggD, slD, Jh, Jk, Ji, Jj, Jg, Jf, *]; rfl) (by rfl) (by first | (simp; done) | fail) (by simp [St.setBox, spl, *]; rfl) (by (repeat (first | exact Qap _ | refine Ju (by simp [St.box?, *] <;> rfl) ?_))) ?_
        repeat (first | with_reducible refine Qaw ?_ | refine Qay ?_ | refine Qbe ?_ | refine Qbg ?_)
        refine go_ ?_
        refine Qam ?_
        refine go_ ?_
        refine Qba (rs.length + 1) ?_ ?_ ?_ ?_
        · simp
        · exact rows7 _
        · exact Qbw rfl
        refine go_ ?_
        refine Rd ?_
        refine go_ ?_
        refine Rd ?_
        refine go_ ?_
        refine ⟨(rs ++ [q], n2, .d (.sl (n2.map encD))), ⟨by simp only [List.length_append, List.length_singleton]; omega, by simp only [List.length_append, List.length_singleton]; omega, by simp only [List.length_append, List.length_singleton]; exact hR2.out, .inr rfl⟩, by simp only [List.length_append, List.length_singleton]; omega, ?_, ?_⟩
        · simp only [List.length_append, List.length_singleton]
          repeat (first | exact Jt _ | refine Js (by simp [PF.get]; rfl) (by first | rfl | (simp [hin]; done) | fail) ?_)
        · simp only [List.length_append, List.length_singleton, List.map_append, List.map_cons, List.map_nil, Qao]
          repeat (first | exact List.Sublist.refl _ | exact List.nil_sublist _ | refine List.Sublist.cons_cons _ ?_ | refine List.Sublist.cons _ ?_)
      · obtain ⟨q1, q2⟩ := herr he
        have hf0 : Hid (R = ([], [], a2, e2)) := by
          show _ = _
          rw [HR2.out, hR2.out]
          simp only
          rw [if_neg (by rw [q1]; exact he), q1, q2]
        have hcc : Hid (PCalls Tryz.prog 87 _ [] _) := hc1
        simp only [gotG, gotOf, if_neg he, zPt, zTm, Pt.kind_mk, Pt.num_mk, Pt.at_mk, Pt.sub_mk, Pt.t_mk, Tm.kind_mk, Tm.num_mk, Tm.sub_mk, List.map_nil] at hcc
        try rw [hn0, List.map_nil] at hcc
        have heb : (e2 != 0) = true := bne_iff_ne.2 he
        clear hc1 herr hkeep q1 q2 hR2 he
        refine go_ ?_
        refine Qek (J := Qcy [(i2, _)]) [(0, .a), (1, .a), (2, .a), (3, .a), (4, .a), (5, .a), (6, .a), (7, .a), (8, .e), (9, .e)] (by kernel_rfl) (by rfl) (by kernel_rfl) (by (repeat (first | exact Qap _ | refine Ju (by simp [St.box?, *] <;> rfl) ?_))) ?_
        repeat (first | with_reducible refine Qaw ?_ | refine Qay ?_ | refine Qbe ?_ | refine Qbg ?_)
        refine Qdp (hcc.out) ?_
        repeat (first | with_reducible refine Qaw ?_ | refine Qay ?_ | refine Qbe ?_ | refine Qbg ?_)
        refine Qgh rfl (by decide) rfl (by simp; rfl) (fun i hi => by simp only [Ja, Rh, Rg] at hi; (repeat (first | exact Qap _ | refine Ju (by simp [St.box?, *] <;> rfl) ?_))) ?_
        intro i3 hi3
        try simp only [Ja, Rh, Rg, Jb] at hi3
        repeat (first | with_reducible refine Qaw ?_ | refine Qay ?_ | refine Qbe ?_ | refine Qbg ?_)
        refine Qgi rfl rfl (by simp [nev, nevA, nevB, Jp, PF.eval, PF.get, PF.wants, cPV, Qag, PV.rows, Qah, evUn, Jq, Qaj, Qai, Jn, TyK.agg, Qaf, St.box?, St.tok?, St.setBox, St.setTok, Qae, spl, PV.ps, PV.one, Jo, aggD, slD, Jh, Jk, Ji, Jj, Jg, Jf, *]; rfl) (by rfl) (by simp [nev, nevA, nevB, Jp, PF.eval, PF.get, PF.wants, cPV, Qag, PV.rows, Qah, evUn, Jq, Qaj, Qai, Jn, TyK.agg, Qaf, St.box?, St.tok?, St.setBox, St.setTok, Qae, spl, PV.ps, PV.one, Jo, aggD, slD, Jh, Jk, Ji, Jj, Jg, Jf, *]; rfl) (by simp [PV.ps, aggD, slD, Jh, Jk, Ji, Jj, Jg, Jf]; rfl) (by first | rfl | (simp [*]; done) | (simp [PV.one, *]; done) | fail) (by simp; rfl) (by first | (simp; done) | fail) (by simp [nev, nevA, nevB, Jp, PF.eval, PF.get, PF.wants, cPV, Qag, PV.rows, Qah, evUn, Jq, Qaj, Qai, Jn, TyK.agg, Qaf, St.box?, St.tok?, St.setBox, St.setTok, Qae, spl, PV.ps, PV.one, Jo, aggD, slD, Jh, Jk, Ji, Jj, Jg, Jf, *]; rfl) (by rfl) (by first | (simp; done) | fail) (by simp [St.setBox, spl, *]; rfl) (by (repeat (first | exact Qap _ | refine Ju (by simp [St.box?, *] <;> rfl) ?_))) ?_
        repeat (first | with_reducible refine Qaw ?_ | refine Qay ?_ | refine Qbe ?_ | refine Qbg ?_)
        refine go_ ?_
        refine Rd ?_
        refine go_ ?_
        refine Jm (by simp) (by simp only [Tryz.results33]; rfl) (by simp [resP, St.box?, PF.get, Jn, TyK.agg, *]; rfl) Nl ?_
        exact ⟨by rw [hf0.out]; rfl, rfl⟩
    · have hc2 : ¬ (rs.length : Int) < fr.length := by omega
      have hf : V = (rs, ⟨nn, 0, 0⟩) := by rw [show V = _ from hR.out, List.drop_of_length_le (by omega)]; simp only [rdL, List.append_nil]
      have hf0 : Hid (R = (rs, nn, 0, 0)) := by show _ = _; rw [HR2.out, hf]; rfl
      clear hR hf
      refine go_ ?_
      refine Rd ?_
      refine go_ ?_
      refine Jm (by simp) (by simp only [Tryz.results33]; rfl) (by simp [resP, St.box?, PF.get, Jn, TyK.agg, *]; rfl) Nl ?_
      exact ⟨by first | (rw [hf0.out, hn0]; rfl) | (rw [hf0.out]; rfl), rfl⟩
mutual
theorem pv_len : ∀ p : Pt, (pvT p).length ≤ pndT p
  | .mk k n _ sub _ => by
    simp only [pvT, pndT]
    have := pvL_len2 sub
    split
    · simp only [List.length_singleton]; omega
    · omega
theorem pvL_len2 : ∀ l : List Pt, (pvL l).length ≤ pndL l
  | [] => by simp only [pvL, pndL, List.length_nil]; omega
  | p :: ps => by
    have h1 := pv_len p
    have h2 := pvL_len2 ps
    simp only [pvL, pndL, List.length_append]; omega
end
theorem rone_p : ∀ p : Pt, pndT p ≤ 100000 → PCalls Tryz.prog 79 [aggD p] [] fun r s => r = .d (.sl ((pvT p).map encD)) ∧ s = [] := by
 refine Pt.ind ?_
 intro k n a sub d ih hb
 simp only [pndT] at hb
 obtain ⟨R, hR⟩ : ∃ R, R = pvT (.mk k n a sub d) := ⟨_, rfl⟩
 rw [← hR]
 simp only [pvT] at hR
 simp only [aggD, Qao, Jl, List.map_cons, List.map_nil, Pt.kind_mk, Pt.num_mk, Pt.at_mk, Pt.sub_mk, Pt.t_mk]
 by_cases k1 : k = 1
 ·rw [if_pos k1] at hR
  subst hR k1
  clear ih hb
  refine PCalls.enter Tryz.func79 rfl Tryz.ntmps79 (by simp) ?_
  simp only [Qab]
  refine go_ ?_
  refine Jd ?_
  intro i0 hi0
  try simp only [Ja, Rh, Rg, Jb] at hi0
  refine go_ ?_
  refine Qam ?_
  refine go_ ?_
  refine Jm (by simp) (by simp only [Tryz.results79]; rfl) (by simp [resP, St.box?, PF.get, Jn, TyK.agg, *]; rfl) Nl ?_
  exact ⟨rfl, rfl⟩
 rw [if_neg k1] at hR
 have k1b : (k == 1) = false := beq_eq_false_iff_ne.2 k1
 have HR : Hid (R = [] ++ pvL (sub.drop 0)) := hR
 have hlen : ∀ p : Pt, (pvT p).length ≤ pndT p := pv_len
 have hlR : R.length ≤ 100000 := by rw [hR]; have := pvL_len2 sub; omega
 have hsl := Qjd sub
 have IH : Hid (∀ s ∈ sub, PCalls Tryz.prog 79 [aggD s] [] fun r st => r = .d (.sl ((pvT s).map encD)) ∧ st = []) := fun s hs => ih s hs (by have := pnd_mem s hs; omega)
 clear hR ih k1 hlen
 refine PCalls.enter Tryz.func79 rfl Tryz.ntmps79 (by simp) ?_
 simp only [Qab]
 refine go_ ?_
 refine Jd ?_
 intro i0 hi0
 try simp only [Ja, Rh, Rg, Jb] at hi0
 refine go_ ?_
 refine Qdq ?_ (by decide) (by first | (simp [nev, nevA, nevB, Jp, PF.eval, PF.get, PF.wants, cPV, Qag, PV.rows, Qah, evUn, Jq, Qaj, Qai, Jn, TyK.agg, Qaf, St.box?, St.tok?, St.setBox, St.setTok, Qae, spl, PV.ps, PV.one, Jo, aggD, slD, Jh, Jk, Ji, Jj, Jg, Jf, *]; done) | fail) (by simp; rfl) (by rfl) (by simp; rfl) (by rfl) (by decide)
 intro g hg
 refine go_ ?_
 refine Qak (ι := Nat × List Int) (fun y => y.1 ≤ sub.length ∧ Hid (R = y.2 ++ pvL (sub.drop y.1))) (fun y => [(1, .ptr i0 0), (3, .own g (y.2.map encD)), (4, .d (.v (.int .i64 (y.1 : Int))))]) (fun y => [.tok g 3 1 y.2.length, .box i0 44 [.d (.v (.int .i64 k)), .d (.v (.int .i64 n)), .d (.v (.int .i64 a)), .d (.sl (sub.map encD)), .d (.v (.int .i64 d.kind)), .d (.v (.int .i64 d.num)), .d (.sl (d.sub.map encD))]]) (fun y => sub.length - y.1) (0, []) ⟨Nat.zero_le _, HR.out⟩ ?_ ?_ ?_
 ·repeat (first | exact Jt _ | refine Js (by simp [PF.get]; rfl) (by first | rfl | (simp [*]; done) | fail) ?_)
 ·repeat (first | exact List.Sublist.refl _ | exact List.nil_sublist _ | refine List.Sublist.cons_cons _ ?_ | refine List.Sublist.cons _ ?_)
 rintro ⟨j, v⟩ ⟨hj, hR⟩
 simp only at hj hR ⊢
 clear HR
 have hvl : v.length ≤ 100000 := by have h := congrArg List.length hR.out; simp only [List.length_append] at h; omega
 by_cases hlt : j < sub.length
 ·have hxs := Qal hlt
  have hc : (j : Int) < sub.length := by omega
  have hn1 : (0 : Int) ≤ j := by omega
  have hin := wr64 (n := (j : Int) + 1) (by omega) (by omega)
  have hc1 := Lib.hid (IH.out _ (List.getElem_mem hlt))
  have hR2 : Hid (R = (v ++ pvT sub[j]) ++ pvL (sub.drop (j + 1))) := by show _ = _; rw [show R = _ from hR.out, List.drop_eq_getElem_cons hlt]; simp only [pvL, List.append_assoc]
  have hvl2 : (pvT sub[j]).length ≤ 100000 := by have h := congrArg List.length hR2.out; simp only [List.length_append] at h; omega
  simp only [aggD, Qao, Jl, List.map_cons, List.map_nil] at hc1
  clear hR
  generalize pvT sub[j] = q at *
  refine go_ ?_
  refine Jc (hc1.out) ?_
  refine go_ ?_
  refine Qba (v.length + q.length) ?_ ?_ ?_ ?_
  ·simp
  ·exact Qil (α := Int) rfl
  ·exact Qil (α := Int) rfl
  refine go_ ?_
  refine ⟨(j + 1, v ++ q), ⟨hlt, hR2⟩, by simp only; omega, ?_, ?_⟩
  ·repeat (first | exact Jt _ | refine Js (by simp [PF.get]; rfl) (by first | rfl | (simp [*]; done) | fail) ?_)
  ·simp only [List.length_append]
   repeat (first | exact List.Sublist.refl _ | exact List.nil_sublist _ | refine List.Sublist.cons_cons _ ?_ | refine List.Sublist.cons _ ?_)
 ·have hc : ¬ (j : Int) < sub.length := by omega
  have hf : Hid (R = v) := by show _ = _; rw [show R = _ from hR.out, List.drop_of_length_le (by omega)]; simp only [pvL, List.append_nil]
  clear hR
  refine go_ ?_
  refine Jm (by simp) (by simp only [Tryz.results79]; rfl) (by simp [resP, St.box?, PF.get, Jn, TyK.agg, *]; rfl) Nl ?_
  exact ⟨by rw [hf.out]; rfl, rfl⟩
theorem rVars24_p (l : List Pt) (hb : pndL l ≤ 8000) (hs : ∀ p ∈ l, phgT p ≤ 128) : PCalls Tryz.prog 27 [.d (.sl (l.map encD))] [] fun r s => r = .d (.sl ((pvL l).map encD)) ∧ s = [] := by
 have HS : Hid (∀ p ∈ l, PCalls Tryz.prog 66 [aggD p] [] fun r s => r = .d (.v (.bool true)) ∧ s = []) := fun p hp => by
  have h := rpsmall_p p (by have := pnd_mem p hp; omega)
  rw [decide_eq_true (hs p hp)] at h; exact h
 have HO : Hid (∀ p ∈ l, PCalls Tryz.prog 79 [aggD p] [] fun r s => r = .d (.sl ((pvT p).map encD)) ∧ s = []) := fun p hp => rone_p p (by have := pnd_mem p hp; omega)
 obtain ⟨R, hR⟩ : ∃ R, R = pvL l := ⟨_, rfl⟩
 rw [← hR]
 have HR : Hid (R = [] ++ pvL (l.drop 0)) := hR
 have hlR : R.length ≤ 100000 := by rw [hR]; have := pvL_len2 l; omega
 have hsl := Qjd l
 clear hR hs
 refine PCalls.enter Tryz.func27 rfl Tryz.ntmps27 (by simp) ?_
 simp only [Qab]
 refine go_ ?_
 refine Qdq ?_ (by decide) (by first | (simp [nev, nevA, nevB, Jp, PF.eval, PF.get, PF.wants, cPV, Qag, PV.rows, Qah, evUn, Jq, Qaj, Qai, Jn, TyK.agg, Qaf, St.box?, St.tok?, St.setBox, St.setTok, Qae, spl, PV.ps, PV.one, Jo, aggD, slD, Jh, Jk, Ji, Jj, Jg, Jf, *]; done) | fail) (by simp; rfl) (by rfl) (by simp; rfl) (by rfl) (by decide)
 intro g hg
 refine go_ ?_
 refine Qak (ι := Nat × List Int) (fun y => y.1 ≤ l.length ∧ Hid (R = y.2 ++ pvL (l.drop y.1))) (fun y => [(0, .d (.sl (l.map encD))), (3, .own g (y.2.map encD)), (4, .d (.v (.int .i64 (y.1 : Int))))]) (fun y => [.tok g 3 1 y.2.length]) (fun y => l.length - y.1) (0, []) ⟨Nat.zero_le _, HR.out⟩ ?_ ?_ ?_
 ·repeat (first | exact Jt _ | refine Js (by simp [PF.get]; rfl) (by first | rfl | (simp [*]; done) | fail) ?_)
 ·repeat (first | exact List.Sublist.refl _ | exact List.nil_sublist _ | refine List.Sublist.cons_cons _ ?_ | refine List.Sublist.cons _ ?_)
 rintro ⟨j, v⟩ ⟨hj, hR⟩
 simp only at hj hR ⊢
 clear HR
 have hvl : v.length ≤ 100000 := by have h := congrArg List.length hR.out; simp only [List.length_append] at h; omega
 by_cases hlt : j < l.length
 ·have hxs := Qal hlt
  have hc : (j : Int) < l.length := by omega
  have hn1 : (0 : Int) ≤ j := by omega
  have hin := wr64 (n := (j : Int) + 1) (by omega) (by omega)
  have hc1 := Lib.hid (HS.out _ (List.getElem_mem hlt))
  have hc2 := Lib.hid (HO.out _ (List.getElem_mem hlt))
  have hR2 : Hid (R = (v ++ pvT l[j]) ++ pvL (l.drop (j + 1))) := by show _ = _; rw [show R = _ from hR.out, List.drop_eq_getElem_cons hlt]; simp only [pvL, List.append_assoc]
  have hvl2 : (pvT l[j]).length ≤ 100000 := by have h := congrArg List.length hR2.out; simp only [List.length_append] at h; omega
  simp only [aggD, Qao, Jl, List.map_cons, List.map_nil] at hc1 hc2
  clear hR
  generalize pvT l[j] = q at *
  refine go_ ?_
  refine Jc (hc1.out) ?_
  refine go_ ?_
  refine Jc (hc2.out) ?_
  refine go_ ?_
  refine Qba (v.length + q.length) ?_ ?_ ?_ ?_
  ·simp
  ·exact Qil (α := Int) rfl
  ·exact Qil (α := Int) rfl
  refine go_ ?_
  refine ⟨(j + 1, v ++ q), ⟨hlt, hR2⟩, by simp only; omega, ?_, ?_⟩
  ·repeat (first | exact Jt _ | refine Js (by simp [PF.get]; rfl) (by first | rfl | (simp [*]; done) | fail) ?_)
  ·simp only [List.length_append]
   repeat (first | exact List.Sublist.refl _ | exact List.nil_sublist _ | refine List.Sublist.cons_cons _ ?_ | refine List.Sublist.cons _ ?_)
 ·have hc : ¬ (j : Int) < l.length := by omega
  have hf : Hid (R = v) := by show _ = _; rw [show R = _ from hR.out, List.drop_of_length_le (by omega)]; simp only [pvL, List.append_nil]
  clear hR
  refine go_ ?_
  refine Jm (by simp) (by simp only [Tryz.results27]; rfl) (by simp [resP, St.box?, PF.get, Jn, TyK.agg, *]; rfl) Nl ?_
  exact ⟨by rw [hf.out]; rfl, rfl⟩
theorem rLinear_p (l : List Pt) (hb : pndL l ≤ 8000) (hs : ∀ p ∈ l, phgT p ≤ 128) (hnd : (pvL l).Nodup) : PCalls Tryz.prog 23 [.d (.sl (l.map encD))] [] fun r s => r = .d (.v (.bool true)) ∧ s = [] := by
 have hV := Lib.hid (rVars24_p l hb hs)
 have hvl := pvL_len2 l
 obtain ⟨v, hv⟩ : ∃ v, v = pvL l := ⟨_, rfl⟩
 rw [← hv] at hV hnd hvl
 have HN : Hid (∀ i j : Nat, j < i → (hi : i < v.length) → ∀ hj : j < v.length, (v[i] == v[j]) = false) := by
  intro i j hji hi hj
  rw [beq_eq_false_iff_ne]
  intro e
  have := (List.getElem_inj hnd (h₀ := hi) (h₁ := hj)).1 e
  omega
 clear hv hnd hs
 refine PCalls.enter Tryz.func23 rfl Tryz.ntmps23 (by simp) ?_
 simp only [Qab]
 refine go_ ?_
 refine Jc (hV.out) ?_
 refine go_ ?_
 refine Qak (ι := Nat) (fun y => y ≤ v.length) (fun y => [(3, .d (.sl (v.map encD))), (4, .d (.v (.int .i64 (y : Int))))]) (fun _ => []) (fun y => v.length - y) 0 (Nat.zero_le _) ?_ ?_ ?_
 ·repeat (first | exact Jt _ | refine Js (by simp [PF.get]; rfl) (by first | rfl | (simp [*]; done) | fail) ?_)
 ·repeat (first | exact List.Sublist.refl _ | exact List.nil_sublist _ | refine List.Sublist.cons_cons _ ?_ | refine List.Sublist.cons _ ?_)
 rintro i hi
 by_cases hlt : i < v.length
 ·have hx := Qal hlt
  simp only [Jf] at hx
  have hc : (i : Int) < v.length := by omega
  have hn : (0 : Int) ≤ i := by omega
  have hin := wr64 (n := (i : Int) + 1) (by omega) (by omega)
  refine go_ ?_
  refine Qak (ι := Nat) (fun y => y ≤ i) (fun y => [(3, .d (.sl (v.map encD))), (4, .d (.v (.int .i64 (i : Int)))), (5, .d (.v (.int .i64 (y : Int))))]) (fun _ => []) (fun y => i - y) 0 (Nat.zero_le _) ?_ ?_ ?_
  ·repeat (first | exact Jt _ | refine Js (by simp [PF.get]; rfl) (by first | rfl | (simp [*]; done) | fail) ?_)
  ·repeat (first | exact List.Sublist.refl _ | exact List.nil_sublist _ | refine List.Sublist.cons_cons _ ?_ | refine List.Sublist.cons _ ?_)
  rintro j hj
  by_cases hji : j < i
  ·have hjl : j < v.length := by omega
   have hxj := Qal hjl
   simp only [Jf] at hxj
   have hcj : (j : Int) < i := by omega
   have hcj2 : (j : Int) < v.length := by omega
   have hnj : (0 : Int) ≤ j := by omega
   have hinj := wr64 (n := (j : Int) + 1) (by omega) (by omega)
   have hne := HN.out i j hji hlt hjl
   refine go_ ?_
   refine Qax [(0, .a), (1, .a), (2, .a), (3, .a), (4, .a), (5, .a), (6, .a), (7, .a), (8, .a)] (by kernel_rfl) (by rfl) (by kernel_rfl) ?_
   refine go_ ?_
   exact ⟨j + 1, hji, by omega, by repeat (first | exact Jt _ | refine Js (by simp [PF.get]; rfl) (by first | rfl | (simp [*]; done) | fail) ?_), by repeat (first | exact List.Sublist.refl _ | exact List.nil_sublist _ | refine List.Sublist.cons_cons _ ?_ | refine List.Sublist.cons _ ?_)⟩
  ·have hcj : ¬ (j : Int) < i := by omega
   refine go_ ?_
   exact ⟨i + 1, hlt, by omega, by repeat (first | exact Jt _ | refine Js (by simp [PF.get]; rfl) (by first | rfl | (simp [*]; done) | fail) ?_), by repeat (first | exact List.Sublist.refl _ | exact List.nil_sublist _ | refine List.Sublist.cons_cons _ ?_ | refine List.Sublist.cons _ ?_)⟩
 ·have hc : ¬ (i : Int) < v.length := by omega
  refine go_ ?_
  refine Jm (by simp) (by simp only [Tryz.results23]; rfl) (by simp [resP, St.box?, PF.get, Jn, TyK.agg, *]; rfl) Nl ?_
  exact ⟨rfl, rfl⟩
theorem same24_p : ∀ p : Pt, pndT p ≤ 100000 → PCalls Tryz.prog 35 [aggD p, aggD p] [] fun r s => r = .d (.v (.bool true)) ∧ s = [] := by
 refine Pt.ind ?_
 intro k n a sub d ih hb
 simp only [pndT] at hb
 have hE := Lib.hid (requal_p d d)
 rw [(eqT_iff d d).2 rfl] at hE
 have hsl := Qjd sub
 have n1 : (k != k) = false := by simp
 have n2 : (n != n) = false := by simp
 have n3 : (a != a) = false := by simp
 have n4 : ((sub.length : Int) != (sub.length : Int)) = false := by simp
 have IH : Hid (∀ s ∈ sub, PCalls Tryz.prog 35 [aggD s, aggD s] [] fun r st => r = .d (.v (.bool true)) ∧ st = []) := fun s hs => ih s hs (by have := pnd_mem s hs; omega)
 clear ih
 simp only [aggD, Qao, Jl, List.map_cons, List.map_nil, Pt.kind_mk, Pt.num_mk, Pt.at_mk, Pt.sub_mk, Pt.t_mk] at hE ⊢
 refine PCalls.enter Tryz.func35 rfl Tryz.ntmps35 (by simp) ?_
 simp only [Qab]
 refine go_ ?_
 refine Jd ?_
 intro i0 hi0
 try simp only [Ja, Rh, Rg, Jb] at hi0
 refine go_ ?_
 refine Jd ?_
 intro i1 hi1
 try simp only [Ja, Rh, Rg, Jb] at hi1
 refine go_ ?_
 refine Jr (hE.out) ?_
 refine go_ ?_
 refine Qak (ι := Nat) (fun y => y ≤ sub.length) (fun y => [(2, .ptr i0 0), (3, .ptr i1 0), (5, .d (.v (.int .i64 (y : Int))))]) (fun _ => [.box i1 44 [.d (.v (.int .i64 k)), .d (.v (.int .i64 n)), .d (.v (.int .i64 a)), .d (.sl (sub.map encD)), .d (.v (.int .i64 d.kind)), .d (.v (.int .i64 d.num)), .d (.sl (d.sub.map encD))], .box i0 28 [.d (.v (.int .i64 k)), .d (.v (.int .i64 n)), .d (.v (.int .i64 a)), .d (.sl (sub.map encD)), .d (.v (.int .i64 d.kind)), .d (.v (.int .i64 d.num)), .d (.sl (d.sub.map encD))]]) (fun y => sub.length - y) 0 (Nat.zero_le _) ?_ ?_ ?_
 ·repeat (first | exact Jt _ | refine Js (by simp [PF.get]; rfl) (by first | rfl | (simp [*]; done) | fail) ?_)
 ·repeat (first | exact List.Sublist.refl _ | exact List.nil_sublist _ | refine List.Sublist.cons_cons _ ?_ | refine List.Sublist.cons _ ?_)
 rintro j hj
 by_cases hlt : j < sub.length
 ·have hxs := Qal hlt
  have hc : (j : Int) < sub.length := by omega
  have hn1 : (0 : Int) ≤ j := by omega
  have hin := wr64 (n := (j : Int) + 1) (by omega) (by omega)
  have hc1 := Lib.hid (IH.out _ (List.getElem_mem hlt))
  simp only [aggD, Qao, Jl, List.map_cons, List.map_nil] at hc1
  refine go_ ?_
  refine Qax [(0, .a), (1, .b), (2, .a), (3, .a), (4, .a), (5, .a), (6, .b), (7, .a), (8, .a), (9, .a), (10, .a), (11, .a)] (by kernel_rfl) (by rfl) (by kernel_rfl) ?_
  refine go_ ?_
  refine Qaa (hc1.out) ?_
  refine go_ ?_
  exact ⟨j + 1, hlt, by omega, by repeat (first | exact Jt _ | refine Js (by simp [PF.get]; rfl) (by first | rfl | (simp [*]; done) | fail) ?_), by repeat (first | exact List.Sublist.refl _ | exact List.nil_sublist _ | refine List.Sublist.cons_cons _ ?_ | refine List.Sublist.cons _ ?_)⟩
 ·have hc : ¬ (j : Int) < sub.length := by omega
  refine go_ ?_
  refine Jm (by simp) (by simp only [Tryz.results35]; rfl) (by simp [resP, St.box?, PF.get, Jn, TyK.agg, *]; rfl) Nl ?_
  exact ⟨rfl, rfl⟩
theorem Rel.freeze {F : Fz} {st : St} {K : Kp} {w : World} {i : Nat} {E : TypeId} {ps : List PV} (h : Rel F (.box i E ps :: st) K w) :
  ∃ K', Ext F K w K' w ∧ Rel F st K' w ∧ ∀ (rows : List (List D)) (c es : Nat) (v : Value), RelV K w (.bsl i rows.length c) v → (∀ row ∈ rows, row.length = es) → (∀ (j : Nat) (d : D), rows.flatten[j]? = some d → ps[j]? = some (.d d)) → RelV K' w (.d (.sl rows)) v := by
 obtain ⟨b, arr, hb, hnf, hheap, hsz, hrel, hnk⟩ := h.ents (.box i E ps) (by simp)
 have hx : Ext F K w ⟨fun b' o => K.cell b' o ∨ (b' = b ∧ o < arr.size), K.box, K.own⟩ w := ⟨rfl, rfl, rfl, Nat.le_refl _, fun _ _ => rfl, fun _ _ h => ⟨.inl h, rfl⟩, fun b' o h => by
  rcases h with h | ⟨rfl, _⟩
  ·exact .inl h
  ·exact .inr hnf, fun _ _ h => h, fun g u h => ⟨u, h, .inl rfl⟩, fun _ _ => rfl⟩
 refine ⟨_, hx, ⟨fun b' o hc => ?_, h.ff, h.fin, h.fi, fun e he => ?_, ?_, ?_⟩, ?_⟩
 ·rcases hc with hc | ⟨rfl, ho⟩
  ·exact h.kc b' o hc
  ·rw [Qcv hheap]
   exact ⟨_, Array.getElem?_eq_getElem ho⟩
 ·refine (h.ents e (List.mem_cons_of_mem _ he)).keep hx (fun _ _ => rfl) (fun b' o hb' hc => ?_) fun _ _ => rfl
  rcases hc with hc | ⟨rfl, _⟩
  ·exact hc
  ·exfalso
   have hnb := h.nb
   rw [List.filterMap_cons] at hnb
   simp only [Ent.block, hb] at hnb
   rw [List.nodup_cons] at hnb
   exact hnb.1 (List.mem_filterMap.2 ⟨e, he, hb'⟩)
 ·have hnb := h.nb
  rw [List.filterMap_cons] at hnb
  simp only [Ent.block, hb] at hnb
  rw [List.nodup_cons] at hnb
  exact hnb.2
 ·have hnt := h.nt
  rw [List.filterMap_cons] at hnt
  simpa only [Ent.tid] using hnt
 ·intro rows c es v hv hl hp
  cases hv with
  | bsl hb2 h1 h2 =>
  rw [hb] at hb2
  obtain rfl := Option.some.inj hb2
  refine .d (rows_mk hheap h1 h2 hl fun i' j row d hi hj => ?_)
  have h3 := flat_row rows i' j row d hl hi hj
  have h4 := hp _ d h3
  have h5 : i' * es + j < arr.size := by rw [hsz]; exact (List.getElem?_eq_some_iff.1 h4).1
  refine ⟨.inr ⟨rfl, h5⟩, _, Array.getElem?_eq_getElem h5, ?_⟩
  have h6 := hrel _ _ _ h4 (Array.getElem?_eq_getElem h5)
  cases h6 with
  | d h7 => exact h7.mono fun b o h => ⟨.inl h, rfl⟩
theorem relV_agg4 {K : Kp} {w : World} {a b c d : PV} {v : Value} (h : RelV K w (.agg [a, b, c, d]) v) : ∃ x y z u, v = .agg #[x, y, z, u] ∧ RelV K w a x ∧ RelV K w b y ∧ RelV K w c z ∧ RelV K w d u := by
 cases h with
 | @agg _ vs hs hv =>
 obtain ⟨l⟩ := vs
 match l, hs with
 | [x, y, z, u], _ => exact ⟨x, y, z, u, rfl, hv 0 _ _ rfl rfl, hv 1 _ _ rfl rfl, hv 2 _ _ rfl rfl, hv 3 _ _ rfl rfl⟩
theorem relV_tup2 {K : Kp} {w : World} {a b : PV} {v : Value} (h : RelV K w (.tup [a, b]) v) : ∃ x y, v = .tuple #[x, y] ∧ RelV K w a x ∧ RelV K w b y := by
 cases h with
 | @tup _ vs hs hv =>
 obtain ⟨l⟩ := vs
 match l, hs with
 | [x, y], _ => exact ⟨x, y, rfl, hv 0 _ _ rfl rfl, hv 1 _ _ rfl rfl⟩
theorem PCalls.freeze4 {P : Program} {f : FuncId} {args : List PV} {st : St} {x y z e : PV} {E : TypeId} {rows : List (List D)} {es : Nat} (hl : ∀ row ∈ rows, row.length = es)
  (h : PCalls P f args st fun p s => ∃ i c X, p = .tup [.agg [x, y, z, .bsl i rows.length c], e] ∧ s = [.box i E (rows.flatten.map .d ++ X)]) : PCalls P f args st fun p s => p = .tup [.agg [x, y, z, .d (.sl rows)], e] ∧ s = [] := by
 intro F K w vs hr ha
 refine (h F K w vs hr ha).mono ?_
 rintro en w' ⟨v, K', p, st', rfl, hx, hr', hv, i, c, X, rfl, rfl⟩
 obtain ⟨K2, hx2, hr2, hf⟩ := hr'.freeze
 obtain ⟨v1, v2, rfl, h1, h2⟩ := relV_tup2 hv
 obtain ⟨a, b, cc, d, rfl, ha1, hb1, hc1, hd1⟩ := relV_agg4 h1
 have hd2 := hf rows c es d hd1 hl fun j dd hj => by
  rw [List.getElem?_append_left (by rw [List.length_map]; exact (List.getElem?_eq_some_iff.1 hj).1), List.getElem?_map, hj]; rfl
 refine ⟨_, K2, _, [], rfl, hx.trans hx2, hr2, ?_, rfl, rfl⟩
 refine tup2 ?_ (h2.mono hx2)
 refine .agg rfl fun i p v hp hv => ?_
 match i with
 | 0 => simp at hp hv; subst hp hv; exact ha1.mono hx2
 | 1 => simp at hp hv; subst hp hv; exact hb1.mono hx2
 | 2 => simp at hp hv; subst hp hv; exact hc1.mono hx2
 | 3 => simp at hp hv; subst hp hv; exact hd2
 | n + 4 => simp at hp
theorem rSameTexts_p (l : List ByteArray) (hl : l.length ≤ 1000000) : PCalls Tryz.prog 34 [.d (.sl (l.map encD)), .d (.sl (l.map encD))] [] fun r s => r = .d (.v (.bool true)) ∧ s = [] := by
 have hne : ((l.length : Int) != (l.length : Int)) = false := by simp
 refine PCalls.enter Tryz.func34 rfl Tryz.ntmps34 (by simp) ?_
 simp only [Qab]
 refine go_ ?_
 refine Qak (ι := Nat) (fun y => y ≤ l.length) (fun y => [(0, .d (.sl (l.map encD))), (1, .d (.sl (l.map encD))), (5, .d (.v (.int .i64 (y : Int))))]) (fun _ => []) (fun y => l.length - y) 0 (Nat.zero_le _) ?_ ?_ ?_
 ·repeat (first | exact Jt _ | refine Js (by simp [PF.get]; rfl) (by first | rfl | (simp [*]; done) | fail) ?_)
 ·repeat (first | exact List.Sublist.refl _ | exact List.nil_sublist _ | refine List.Sublist.cons_cons _ ?_ | refine List.Sublist.cons _ ?_)
 rintro j hj
 by_cases hlt : j < l.length
 ·have hx := Qal hlt
  simp only [Jg] at hx
  have hc : (j : Int) < l.length := by omega
  have hn : (0 : Int) ≤ j := by omega
  have hin := wr64 (n := (j : Int) + 1) (by omega) (by omega)
  have hnq : (l[j].toList != l[j].toList) = false := by simp
  refine go_ ?_
  refine Qax [(0, .a), (1, .a), (2, .a), (3, .a), (4, .a), (5, .a), (6, .a), (7, .a), (8, .a)] (by kernel_rfl) (by rfl) (by kernel_rfl) ?_
  refine go_ ?_
  exact ⟨j + 1, hlt, by omega, by repeat (first | exact Jt _ | refine Js (by simp [PF.get]; rfl) (by first | rfl | (simp [*]; done) | fail) ?_), by repeat (first | exact List.Sublist.refl _ | exact List.nil_sublist _ | refine List.Sublist.cons_cons _ ?_ | refine List.Sublist.cons _ ?_)⟩
 ·have hc : ¬ (j : Int) < l.length := by omega
  refine go_ ?_
  refine Jm (by simp) (by simp only [Tryz.results34]; rfl) (by simp [resP, St.box?, PF.get, Jn, TyK.agg, *]; rfl) Nl ?_
  exact ⟨rfl, rfl⟩
end Go.Proofs.YtdklpbefbamchaaGreat
