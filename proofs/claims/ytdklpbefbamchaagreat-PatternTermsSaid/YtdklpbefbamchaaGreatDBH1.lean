import Derived.Test.YtdklpbefbamchaaGreatDBG1
import Derived.Test.YtdklpbefbamchaaGreatDBH
import Derived.Test.YtdklpbefbamchaaGreatDBA6
set_option linter.unusedSimpArgs false
set_option linter.unusedVariables false
set_option maxHeartbeats 16000000
set_option maxRecDepth 100000
namespace Go.Proofs.YtdklpbefbamchaaGreat
open Go.RowKit
theorem Qhf {l : List En} {n a : Int} {sub : List Pt} {d : Tm} (h : pgT l (.mk 2 n a sub d) = true) : arN l n = (sub.length : Int) ∧ ∀ s ∈ sub, pgT l s = true := by
 simp only [pgT] at h
 rw [if_neg (by decide), if_neg (by decide), if_neg (by decide), if_pos (by trivial)] at h
 simp only [Bool.and_eq_true, beq_iff_eq] at h
 exact ⟨h.1, Qih h.2.2⟩
theorem con_at {l : List En} {n : Int} {k : Nat} (hF : formedB l = true) (h : arN l n = (k : Int)) : ∃ (i : Nat) (x : En) (m : Nat), n = i ∧ i < l.length ∧ (l.map encD)[i]? = some (encD x) ∧ l[i]? = some x ∧ x.pars = m ∧ m = parN l i ∧ m ≤ 24 ∧ k ≤ 24 := by
 obtain ⟨i, x, rfl, hil, hx, hk⟩ := arN_get (l := l) (c := n) (by omega)
 obtain ⟨h1, h2, h3, h4, h5⟩ := parN_at hF hx hk
 exact ⟨i, x, parN l i, rfl, hil, by rw [List.getElem?_map, hx]; rfl, hx, h1, rfl, h2, by omega⟩
theorem cequal_p (l : List En) (hF : formedB l = true) : ∀ (p : Pt) (t : Tm), pgT l p = true → Qad t = true → PCalls Tryz.prog 150 [.d (.sl (l.map encD)), aggD p, aggD t] [] fun r s => r = .d (.v (.bool (peqT l p t))) ∧ s = [] := by
  refine Pt.ind ?_
  intro k n a sub d ih t hg ht
  obtain ⟨R, hR⟩ : ∃ R, R = peqT l (.mk k n a sub d) t := ⟨_, rfl⟩
  rw [← hR]
  by_cases k1 : k = 1
  · subst k1
    rw [Qig] at hR
    have HR := Lib.hid hR
    clear hR ih hg ht hF
    simp only [aggD, Qao, Jl, List.map_cons, List.map_nil, Pt.kind_mk, Pt.num_mk, Pt.at_mk, Pt.sub_mk, Pt.t_mk]
    refine PCalls.enter Tryz.func150 rfl Tryz.ntmps150 (by simp) ?_
    simp only [Qab]
    refine go_ ?_
    refine Jd ?_
    intro i0 hi0
    try simp only [Ja, Rh, Rg, Jb] at hi0
    refine go_ ?_
    refine Jd ?_
    intro i1 hi1
    try simp only [Ja, Rh, Rg, Jb] at hi1
    refine go_ ?_
    rcases Bool.eq_false_or_eq_true (t.kind == 8) with h1 | h1
    rotate_left
    · refine go_ ?_
      refine Jm (by simp) (by simp only [Tryz.results150]; rfl) (by simp [resP, St.box?, PF.get, Jn, TyK.agg, *]; rfl) Nl ?_
      exact ⟨by rw [HR.out]; simp [tupP, PV.norm2, PV.norm1, PV.norm0, *], rfl⟩
    refine go_ ?_
    refine Jm (by simp) (by simp only [Tryz.results150]; rfl) (by simp [resP, St.box?, PF.get, Jn, TyK.agg, *]; rfl) Nl ?_
    exact ⟨by rw [HR.out]; simp [tupP, PV.norm2, PV.norm1, PV.norm0, *], rfl⟩
  by_cases k2 : k = 2
  rotate_left
  · rw [peq_no k1 k2] at hR
    have HR := Lib.hid hR
    clear hR ih hg ht hF
    simp only [aggD, Qao, Jl, List.map_cons, List.map_nil, Pt.kind_mk, Pt.num_mk, Pt.at_mk, Pt.sub_mk, Pt.t_mk]
    refine PCalls.enter Tryz.func150 rfl Tryz.ntmps150 (by simp) ?_
    simp only [Qab]
    refine go_ ?_
    refine Jd ?_
    intro i0 hi0
    try simp only [Ja, Rh, Rg, Jb] at hi0
    refine go_ ?_
    refine Jd ?_
    intro i1 hi1
    try simp only [Ja, Rh, Rg, Jb] at hi1
    refine go_ ?_
    refine Jm (by simp) (by simp only [Tryz.results150]; rfl) (by simp [resP, St.box?, PF.get, Jn, TyK.agg, *]; rfl) Nl ?_
    exact ⟨by rw [HR.out]; rfl, rfl⟩
  subst k2
  rw [Qhe] at hR
  obtain ⟨har, hgs⟩ := Qhf hg
  obtain ⟨i, x, m, rfl, hil, hx, hx0, hpm, hmp, hm24, hs24⟩ := con_at hF har
  rw [← hmp] at hR
  have hS := Lib.hid (Qhr t ht)
  have HA := Lib.hid (Qjv _ t (Nat.le_refl _) ht)
  have hAl : (Qav t).length ≤ 8192 := Nat.le_trans (Qhh t) (Qaq ht).2.2
  have IH : Hid (∀ s ∈ sub, ∀ u : Tm, Qad u = true → PCalls Tryz.prog 150 [.d (.sl (l.map encD)), aggD s, aggD u] [] fun r st => r = .d (.v (.bool (peqT l s u))) ∧ st = []) := fun s hs u hu => ih s hs u (hgs s hs) hu
  simp only [aggD, Qao, Jl, List.map_cons, List.map_nil, Pt.kind_mk, Pt.num_mk, Pt.at_mk, Pt.sub_mk, Pt.t_mk] at hS ⊢
  generalize Qan t = h at *
  generalize Qav t = A at *
  have HR := Lib.hid hR
  have hc0 : (i : Int) < l.length := by omega
  have hn0 : (0 : Int) ≤ i := by omega
  have hw0 := wr64 (n := (m : Int) + sub.length) (by omega) (by omega)
  clear hR k1 hF hg har hgs ih hmp hx0 ht hil
  refine PCalls.enter Tryz.func150 rfl Tryz.ntmps150 (by simp) ?_
  simp only [Qab]
  refine go_ ?_
  refine Jd ?_
  intro i0 hi0
  try simp only [Ja, Rh, Rg, Jb] at hi0
  refine go_ ?_
  refine Jd ?_
  intro i1 hi1
  try simp only [Ja, Rh, Rg, Jb] at hi1
  refine go_ ?_
  refine Jc (hS.out) ?_
  refine go_ ?_
  refine Je ?_
  intro i2 hi2
  try simp only [Ja, Rh, Rg, Jb] at hi2
  refine go_ ?_
  refine Rd ?_
  refine go_ ?_
  rcases Bool.eq_false_or_eq_true (h.kind == 6) with h1 | h1
  rotate_left
  · have h1b : (h.kind != 6) = true := by simpa using h1
    refine go_ ?_
    refine Jm (by simp) (by simp only [Tryz.results150]; rfl) (by simp [resP, St.box?, PF.get, Jn, TyK.agg, *]; rfl) Nl ?_
    exact ⟨by rw [HR.out, h1]; rfl, rfl⟩
  have h1b : (h.kind != 6) = false := by simpa using h1
  have HR2 : Hid (R = (h.num == (i : Int) && (A.length == m + sub.length && peqL l sub (A.drop m)))) := by show _ = _; rw [HR.out, h1]; rfl
  clear HR h1
  refine go_ ?_
  rcases Bool.eq_false_or_eq_true (h.num == (i : Int)) with h2 | h2
  rotate_left
  · have h2b : (h.num != (i : Int)) = true := by simpa using h2
    refine go_ ?_
    refine Jm (by simp) (by simp only [Tryz.results150]; rfl) (by simp [resP, St.box?, PF.get, Jn, TyK.agg, *]; rfl) Nl ?_
    exact ⟨by rw [HR2.out, h2]; rfl, rfl⟩
  have h2b : (h.num != (i : Int)) = false := by simpa using h2
  have HR3 : Hid (R = ((A.length == m + sub.length) && peqL l sub (A.drop m))) := by show _ = _; rw [HR2.out, h2]; rfl
  clear HR2 h2
  refine go_ ?_
  by_cases h3 : A.length = m + sub.length
  rotate_left
  · have h3b : ((A.length : Int) != (m : Int) + sub.length) = true := by simp; omega
    have hf : Hid (R = false) := by show _ = _; rw [HR3.out]; simp [h3]
    clear HR3 h3
    refine go_ ?_
    refine Jm (by simp) (by simp only [Tryz.results150]; rfl) (by simp [resP, St.box?, PF.get, Jn, TyK.agg, *]; rfl) Nl ?_
    exact ⟨by rw [hf.out]; rfl, rfl⟩
  have h3b : ((A.length : Int) != (m : Int) + sub.length) = false := by simp; omega
  have HR4 : Hid (R = peqL l (sub.drop 0) (A.drop (m + 0))) := by show _ = _; rw [HR3.out]; simp [h3]
  have H3 := Lib.hid h3
  clear HR3 h3
  refine go_ ?_
  refine Qak (ι := Nat) (fun y => y ≤ sub.length ∧ Hid (R = peqL l (sub.drop y) (A.drop (m + y)))) (fun y => [(0, .d (.sl (l.map encD))), (8, .d (.sl (A.map encD))), (9, .d (.v (.int .i64 (m : Int)))), (60, .d (.sl (sub.map encD))), (61, .d (.v (.int .i64 sub.length))), (62, .d (.v (.int .i64 (y : Int))))]) (fun _ => []) (fun y => sub.length - y) 0 ⟨Nat.zero_le _, HR4.out⟩ ?_ ?_ ?_
  · repeat (first | exact Jt _ | refine Js (by simp [PF.get]; rfl) (by first | rfl | (simp [*]; done) | fail) ?_)
  · repeat (first | exact List.Sublist.refl _ | exact List.nil_sublist _ | refine List.Sublist.cons_cons _ ?_ | refine List.Sublist.cons _ ?_)
  rintro j ⟨hj, hR⟩
  clear HR4
  by_cases hlt : j < sub.length
  · have hxs := Qal hlt
    have hAj : m + j < A.length := by have := H3.out; omega
    have hxa := Qal hAj
    have hc : (j : Int) < sub.length := by omega
    have hca : (m : Int) + j < A.length := by omega
    have hn1 : (0 : Int) ≤ j := by omega
    have hn2 : (0 : Int) ≤ (m : Int) + j := by omega
    have hin := wr64 (n := (j : Int) + 1) (by omega) (by omega)
    have hwa := wr64 (n := (m : Int) + j) (by omega) (by omega)
    have htn : ((m : Int) + j).toNat = m + j := by omega
    have hc1 := Lib.hid (IH.out _ (List.getElem_mem hlt) A[m + j] (HA.out _ (List.getElem_mem hAj)))
    have hR2 : Hid (R = (peqT l sub[j] A[m + j] && peqL l (sub.drop (j + 1)) (A.drop (m + (j + 1))))) := by show _ = _; rw [show R = _ from hR.out, List.drop_eq_getElem_cons hlt, List.drop_eq_getElem_cons hAj]; rfl
    simp only [aggD, Qao, Jl, List.map_cons, List.map_nil] at hc1
    clear hR
    generalize peqT l sub[j] A[m + j] = q at *
    refine go_ ?_
    refine Je ?_
    intro i3 hi3
    try simp only [Ja, Rh, Rg, Jb] at hi3
    refine go_ ?_
    refine Rd ?_
    refine go_ ?_
    refine Qax [(0, .a), (1, .b), (2, .a), (3, .a), (4, .a), (5, .a), (6, .a), (7, .a), (8, .a), (9, .a)] (by kernel_rfl) (by rfl) (by kernel_rfl) ?_
    refine go_ ?_
    refine Qaa (hc1.out) ?_
    refine go_ ?_
    cases q with
    | false =>
      refine go_ ?_
      refine Jm (by simp) (by simp only [Tryz.results150]; rfl) (by simp [resP, St.box?, PF.get, Jn, TyK.agg, *]; rfl) Nl ?_
      exact ⟨by rw [hR2.out]; rfl, rfl⟩
    | true =>
      refine go_ ?_
      exact ⟨j + 1, ⟨hlt, hR2.out⟩, by omega, by repeat (first | exact Jt _ | refine Js (by simp [PF.get]; rfl) (by first | rfl | (simp [*]; done) | fail) ?_), by repeat (first | exact List.Sublist.refl _ | exact List.nil_sublist _ | refine List.Sublist.cons_cons _ ?_ | refine List.Sublist.cons _ ?_)⟩
  · have hc : ¬ (j : Int) < sub.length := by omega
    have hf : Hid (R = true) := by show _ = _; rw [show R = _ from hR.out, List.drop_of_length_le (by omega)]; rfl
    clear hR
    refine go_ ?_
    refine Jm (by simp) (by simp only [Tryz.results150]; rfl) (by simp [resP, St.box?, PF.get, Jn, TyK.agg, *]; rfl) Nl ?_
    exact ⟨by rw [hf.out]; rfl, rfl⟩
theorem cless_p (l : List En) (hF : formedB l = true) : ∀ (p : Pt) (t : Tm), pgT l p = true → Qad t = true → PCalls Tryz.prog 151 [.d (.sl (l.map encD)), aggD p, aggD t] [] fun r s => r = .d (.v (.bool (plsT l p t))) ∧ s = [] := by
  refine Pt.ind ?_
  intro k n a sub d ih t hg ht
  obtain ⟨R, hR⟩ : ∃ R, R = plsT l (.mk k n a sub d) t := ⟨_, rfl⟩
  rw [← hR]
  by_cases k2 : k = 2
  rotate_left
  · rw [pls_no k2] at hR
    have HR := Lib.hid hR
    have k2b : (k != 2) = true := bne_iff_ne.2 k2
    clear hR ih hg ht hF k2
    simp only [aggD, Qao, Jl, List.map_cons, List.map_nil, Pt.kind_mk, Pt.num_mk, Pt.at_mk, Pt.sub_mk, Pt.t_mk]
    refine PCalls.enter Tryz.func151 rfl Tryz.ntmps151 (by simp) ?_
    simp only [Qab]
    refine go_ ?_
    refine Jd ?_
    intro i0 hi0
    try simp only [Ja, Rh, Rg, Jb] at hi0
    refine go_ ?_
    refine Jd ?_
    intro i1 hi1
    try simp only [Ja, Rh, Rg, Jb] at hi1
    refine go_ ?_
    refine Jm (by simp) (by simp only [Tryz.results151]; rfl) (by simp [resP, St.box?, PF.get, Jn, TyK.agg, *]; rfl) Nl ?_
    exact ⟨by rw [HR.out]; rfl, rfl⟩
  subst k2
  rw [Qii] at hR
  obtain ⟨har, hgs⟩ := Qhf hg
  have hs24 : sub.length ≤ 24 := by
    obtain ⟨i, x, m, -, -, -, -, -, -, -, h⟩ := con_at hF har
    exact h
  have hS := Lib.hid (Qhr t ht)
  have HPA : Hid (∀ s : Pt, papB s t = (((Qan t).kind == 8) && ((decide (0 < (Qav t).length)) && ((s.kind == 1) && (s.num == (Qan t).num))))) := fun s => rfl
  have IH : Hid (∀ s ∈ sub, PCalls Tryz.prog 151 [.d (.sl (l.map encD)), aggD s, aggD t] [] fun r st => r = .d (.v (.bool (plsT l s t))) ∧ st = []) := fun s hs => ih s hs t (hgs s hs) ht
  have IE : Hid (∀ s ∈ sub, PCalls Tryz.prog 150 [.d (.sl (l.map encD)), aggD s, aggD t] [] fun r st => r = .d (.v (.bool (peqT l s t))) ∧ st = []) := fun s hs => cequal_p l hF s t (hgs s hs) ht
  simp only [aggD, Qao, Jl, List.map_cons, List.map_nil, Pt.kind_mk, Pt.num_mk, Pt.at_mk, Pt.sub_mk, Pt.t_mk] at hS ⊢
  generalize Qan t = h at *
  generalize Qav t = A at *
  have HR := Lib.hid hR
  clear hR hF hg har hgs ih ht
  refine PCalls.enter Tryz.func151 rfl Tryz.ntmps151 (by simp) ?_
  simp only [Qab]
  refine go_ ?_
  refine Jd ?_
  intro i0 hi0
  try simp only [Ja, Rh, Rg, Jb] at hi0
  refine go_ ?_
  refine Jd ?_
  intro i1 hi1
  try simp only [Ja, Rh, Rg, Jb] at hi1
  refine go_ ?_
  refine Jc (hS.out) ?_
  refine go_ ?_
  refine Je ?_
  intro i2 hi2
  try simp only [Ja, Rh, Rg, Jb] at hi2
  refine go_ ?_
  refine Rd ?_
  refine go_ ?_
  refine Qak (ι := Nat) (fun y => y ≤ sub.length ∧ Hid (R = plsL l (sub.drop y) t)) (fun y => [(0, .d (.sl (l.map encD))), (5, .ptr i1 0), (7, .ptr i2 0), (8, .d (.sl (A.map encD))), (20, .d (.sl (sub.map encD))), (21, .d (.v (.int .i64 sub.length))), (22, .d (.v (.int .i64 (y : Int))))]) (fun _ => [.box i2 26 [.d (.v (.int .i64 h.kind)), .d (.v (.int .i64 h.num)), .d (.sl (h.sub.map encD))], .box i1 26 [.d (.v (.int .i64 t.kind)), .d (.v (.int .i64 t.num)), .d (.sl (t.sub.map encD))]]) (fun y => sub.length - y) 0 ⟨Nat.zero_le _, HR.out⟩ ?_ ?_ ?_
  · repeat (first | exact Jt _ | refine Js (by simp [PF.get]; rfl) (by first | rfl | (simp [*]; done) | fail) ?_)
  · repeat (first | exact List.Sublist.refl _ | exact List.nil_sublist _ | refine List.Sublist.cons_cons _ ?_ | refine List.Sublist.cons _ ?_)
  rintro j ⟨hj, hR⟩
  clear HR
  by_cases hlt : j < sub.length
  · have hxs := Qal hlt
    have hc : (j : Int) < sub.length := by omega
    have hn1 : (0 : Int) ≤ j := by omega
    have hin := wr64 (n := (j : Int) + 1) (by omega) (by omega)
    have hc1 := Lib.hid (IE.out _ (List.getElem_mem hlt))
    have hc2 := Lib.hid (IH.out _ (List.getElem_mem hlt))
    have hR2 : Hid (R = ((peqT l sub[j] t || plsT l sub[j] t) || (papB sub[j] t || plsL l (sub.drop (j + 1)) t))) := by show _ = _; rw [show R = _ from hR.out, List.drop_eq_getElem_cons hlt]; rfl
    have hpa := Lib.hid (HPA.out sub[j])
    simp only [aggD, Qao, Jl, List.map_cons, List.map_nil] at hc1 hc2
    clear hR
    generalize peqT l sub[j] t = q1 at *
    generalize plsT l sub[j] t = q2 at *
    refine go_ ?_
    refine Je ?_
    intro i3 hi3
    try simp only [Ja, Rh, Rg, Jb] at hi3
    refine go_ ?_
    refine Rd ?_
    refine go_ ?_
    refine Jc (hc1.out) ?_
    cases q1 with
    | true =>
      refine go_ ?_
      refine Jm (by simp) (by simp only [Tryz.results151]; rfl) (by simp [resP, St.box?, PF.get, Jn, TyK.agg, *]; rfl) Nl ?_
      exact ⟨by rw [hR2.out]; simp [tupP, PV.norm2, PV.norm1, PV.norm0], rfl⟩
    | false =>
      refine go_ ?_
      refine Jr (hc2.out) ?_
      cases q2 with
      | true =>
        refine go_ ?_
        refine Jm (by simp) (by simp only [Tryz.results151]; rfl) (by simp [resP, St.box?, PF.get, Jn, TyK.agg, *]; rfl) Nl ?_
        exact ⟨by rw [hR2.out]; simp [tupP, PV.norm2, PV.norm1, PV.norm0], rfl⟩
      | false =>
        have hR3 : Hid (R = (papB sub[j] t || plsL l (sub.drop (j + 1)) t)) := by show _ = _; rw [hR2.out]; rfl
        clear hR2
        refine go_ ?_
        rcases Bool.eq_false_or_eq_true (h.kind == 8) with e1 | e1
        rotate_left
        · have hp : Hid (R = plsL l (sub.drop (j + 1)) t) := by show _ = _; rw [hR3.out, hpa.out, e1]; rfl
          clear hR3
          refine go_ ?_
          exact ⟨j + 1, ⟨hlt, hp.out⟩, by omega, by repeat (first | exact Jt _ | refine Js (by simp [PF.get]; rfl) (by first | rfl | (simp [*]; done) | fail) ?_), by repeat (first | exact List.Sublist.refl _ | exact List.nil_sublist _ | refine List.Sublist.cons_cons _ ?_ | refine List.Sublist.cons _ ?_)⟩
        have hpa2 : Hid (papB sub[j] t = ((decide (0 < A.length)) && ((sub[j].kind == 1) && (sub[j].num == h.num)))) := by show _ = _; rw [hpa.out, e1]; rfl
        clear hpa
        refine go_ ?_
        by_cases e2 : A = []
        · subst e2
          have hp : Hid (R = plsL l (sub.drop (j + 1)) t) := by show _ = _; rw [hR3.out, hpa2.out]; rfl
          clear hR3
          refine go_ ?_
          exact ⟨j + 1, ⟨hlt, hp.out⟩, by omega, by repeat (first | exact Jt _ | refine Js (by simp [PF.get]; rfl) (by first | rfl | (simp [*]; done) | fail) ?_), by repeat (first | exact List.Sublist.refl _ | exact List.nil_sublist _ | refine List.Sublist.cons_cons _ ?_ | refine List.Sublist.cons _ ?_)⟩
        have e2p : 0 < A.length := List.length_pos_iff.2 e2
        have e2i : (0 : Int) < A.length := by omega
        have e2n : ¬ A.length = 0 := by omega
        have hpa3 : Hid (papB sub[j] t = ((sub[j].kind == 1) && (sub[j].num == h.num))) := by show _ = _; rw [hpa2.out, decide_eq_true e2p]; rfl
        clear hpa2
        refine go_ ?_
        rcases Bool.eq_false_or_eq_true (sub[j].kind == 1) with e3 | e3
        rotate_left
        · have hp : Hid (R = plsL l (sub.drop (j + 1)) t) := by show _ = _; rw [hR3.out, hpa3.out, e3]; rfl
          clear hR3
          refine go_ ?_
          exact ⟨j + 1, ⟨hlt, hp.out⟩, by omega, by repeat (first | exact Jt _ | refine Js (by simp [PF.get]; rfl) (by first | rfl | (simp [*]; done) | fail) ?_), by repeat (first | exact List.Sublist.refl _ | exact List.nil_sublist _ | refine List.Sublist.cons_cons _ ?_ | refine List.Sublist.cons _ ?_)⟩
        have hpa4 : Hid (papB sub[j] t = (sub[j].num == h.num)) := by show _ = _; rw [hpa3.out, e3]; rfl
        clear hpa3
        refine go_ ?_
        rcases Bool.eq_false_or_eq_true (sub[j].num == h.num) with e4 | e4
        rotate_left
        · have hp : Hid (R = plsL l (sub.drop (j + 1)) t) := by show _ = _; rw [hR3.out, hpa4.out, e4]; rfl
          clear hR3
          refine go_ ?_
          exact ⟨j + 1, ⟨hlt, hp.out⟩, by omega, by repeat (first | exact Jt _ | refine Js (by simp [PF.get]; rfl) (by first | rfl | (simp [*]; done) | fail) ?_), by repeat (first | exact List.Sublist.refl _ | exact List.nil_sublist _ | refine List.Sublist.cons_cons _ ?_ | refine List.Sublist.cons _ ?_)⟩
        have hp : Hid (R = true) := by show _ = _; rw [hR3.out, hpa4.out, e4]; rfl
        clear hR3
        refine go_ ?_
        refine Jm (by simp) (by simp only [Tryz.results151]; rfl) (by simp [resP, St.box?, PF.get, Jn, TyK.agg, *]; rfl) Nl ?_
        exact ⟨by rw [hp.out]; rfl, rfl⟩
  · have hc : ¬ (j : Int) < sub.length := by omega
    have hf : Hid (R = false) := by show _ = _; rw [show R = _ from hR.out, List.drop_of_length_le (by omega)]; rfl
    clear hR
    refine go_ ?_
    refine Jm (by simp) (by simp only [Tryz.results151]; rfl) (by simp [resP, St.box?, PF.get, Jn, TyK.agg, *]; rfl) Nl ?_
    exact ⟨by rw [hf.out]; rfl, rfl⟩
theorem cstand_p (l : List En) (hF : formedB l = true) (p : Pt) (t : Tm) (hg : pgT l p = true) (ht : Qad t = true) : PCalls Tryz.prog 90 [.d (.sl (l.map encD)), aggD p, aggD t] [] fun r s => r = .d (.v (.int .i64 (Qat l p t))) ∧ s = [] := by
  have hc1 := Lib.hid (cequal_p l hF p t hg ht)
  have hc2 := Lib.hid (cless_p l hF p t hg ht)
  have HR := Lib.hid (show Qat l p t = if peqT l p t = true then 1 else if plsT l p t = true then 2 else 0 from rfl)
  clear hF hg ht
  generalize Qat l p t = R at *
  generalize peqT l p t = q1 at *
  generalize plsT l p t = q2 at *
  simp only [aggD, Qao, Jl, List.map_cons, List.map_nil] at hc1 hc2 ⊢
  refine PCalls.enter Tryz.func90 rfl Tryz.ntmps90 (by simp) ?_
  simp only [Qab]
  refine go_ ?_
  refine Jd ?_
  intro i0 hi0
  try simp only [Ja, Rh, Rg, Jb] at hi0
  refine go_ ?_
  refine Jd ?_
  intro i1 hi1
  try simp only [Ja, Rh, Rg, Jb] at hi1
  refine go_ ?_
  refine Jc (hc1.out) ?_
  cases q1 with
  | true =>
    refine go_ ?_
    refine Jm (by simp) (by simp only [Tryz.results90]; rfl) (by simp [resP, St.box?, PF.get, Jn, TyK.agg, *]; rfl) Nl ?_
    exact ⟨by rw [HR.out]; rfl, rfl⟩
  | false =>
    refine go_ ?_
    refine Jc (hc2.out) ?_
    cases q2 with
    | true =>
      refine go_ ?_
      refine Jm (by simp) (by simp only [Tryz.results90]; rfl) (by simp [resP, St.box?, PF.get, Jn, TyK.agg, *]; rfl) Nl ?_
      exact ⟨by rw [HR.out]; rfl, rfl⟩
    | false =>
      refine go_ ?_
      refine Jm (by simp) (by simp only [Tryz.results90]; rfl) (by simp [resP, St.box?, PF.get, Jn, TyK.agg, *]; rfl) Nl ?_
      exact ⟨by rw [HR.out]; rfl, rfl⟩
theorem Qgl (l : List En) (p : Pt) (t : Tm) (ho : ∀ e ∈ l, EnOk e) (h : pndT p ≤ 8000) : PCalls Tryz.prog 40 [.d (.sl (l.map encD)), aggD p, aggD t] [] fun r s => r = .d (.v (.int .i64 (if pRight l p = true ∧ Qad t = true then Qat l p t else 0))) ∧ s = [] := by
  have hc1 := Lib.hid (pRight_p l p ho h)
  have hc2 := Lib.hid (Qeb t)
  have HC : Hid (pRight l p = true → Qad t = true → PCalls Tryz.prog 90 [.d (.sl (l.map encD)), aggD p, aggD t] [] fun r s => r = .d (.v (.int .i64 (Qat l p t))) ∧ s = []) := fun h1 h2 => by
    have h3 : (formedB l && (decide (phgT p ≤ 128) && pgT l p)) = true := h1
    simp only [Bool.and_eq_true] at h3
    exact cstand_p l h3.1 p t h3.2.2 h2
  clear ho h
  generalize Qat l p t = R at *
  generalize pRight l p = q1 at *
  generalize Qad t = q2 at *
  simp only [aggD, Qao, Jl, List.map_cons, List.map_nil] at hc1 hc2 HC ⊢
  refine PCalls.enter Tryz.func40 rfl Tryz.ntmps40 (by simp) ?_
  simp only [Qab]
  refine go_ ?_
  refine Jd ?_
  intro i0 hi0
  try simp only [Ja, Rh, Rg, Jb] at hi0
  refine go_ ?_
  refine Jd ?_
  intro i1 hi1
  try simp only [Ja, Rh, Rg, Jb] at hi1
  refine go_ ?_
  refine Jc (hc1.out) ?_
  cases q1 with
  | false =>
    refine go_ ?_
    refine Jm (by simp) (by simp only [Tryz.results40]; rfl) (by simp [resP, St.box?, PF.get, Jn, TyK.agg, *]; rfl) Nl ?_
    exact ⟨rfl, rfl⟩
  | true =>
    refine go_ ?_
    refine Jr (hc2.out) ?_
    cases q2 with
    | false =>
      refine go_ ?_
      refine Jm (by simp) (by simp only [Tryz.results40]; rfl) (by simp [resP, St.box?, PF.get, Jn, TyK.agg, *]; rfl) Nl ?_
      exact ⟨rfl, rfl⟩
    | true =>
      have hc3 := Lib.hid (HC.out rfl rfl)
      clear HC
      refine go_ ?_
      refine Jc (hc3.out) ?_
      refine go_ ?_
      refine Jm (by simp) (by simp only [Tryz.results40]; rfl) (by simp [resP, St.box?, PF.get, Jn, TyK.agg, *]; rfl) Nl ?_
      exact ⟨rfl, rfl⟩
def rowD (r : List Int) : List D := [.sl (r.map encD)]
theorem rowsD (M : List (List Int)) : ∀ row ∈ M.map rowD, row.length = 1 := by
 intro row h
 obtain ⟨r, _, rfl⟩ := List.mem_map.1 h
 rfl
def mxL (l : List En) (p : List Pt) (args : List Tm) : List (List Int) := p.map fun x => args.map fun a => Qat l x a
theorem cright_p (l : List En) (p : List Pt) (ho : ∀ e ∈ l, EnOk e) (h : ∀ x ∈ p, pndT x ≤ 8000) : PCalls Tryz.prog 97 [.d (.sl (l.map encD)), .d (.sl (p.map encD))] [] fun r s => r = .d (.v (.bool (formedB l && p.all (pRight l)))) ∧ s = [] := by
  have hF := Lib.hid (sformed_p l ho)
  have HP : Hid (∀ x ∈ p, PCalls Tryz.prog 63 [.d (.sl (l.map encD)), aggD x] [] fun r s => r = .d (.v (.bool (pRight l x))) ∧ s = []) := fun x hx => pRight_p l x ho (h x hx)
  obtain ⟨R, hR⟩ : ∃ R, R = (formedB l && p.all (pRight l)) := ⟨_, rfl⟩
  rw [← hR]
  have HR := Lib.hid hR
  clear hR ho h
  cases hf : formedB l with
  | false =>
    rw [hf] at hF HR
    refine PCalls.enter Tryz.func97 rfl Tryz.ntmps97 (by simp) ?_
    simp only [Qab]
    refine go_ ?_
    refine Jc (hF.out) ?_
    refine go_ ?_
    refine Jm (by simp) (by simp only [Tryz.results97]; rfl) (by simp [resP, St.box?, PF.get, Jn, TyK.agg, *]; rfl) Nl ?_
    exact ⟨by rw [HR.out]; rfl, rfl⟩
  | true =>
    rw [hf] at hF HR
    have HR2 : Hid (R = (p.drop 0).all (pRight l)) := by show _ = _; rw [HR.out]; rfl
    clear HR hf
    refine PCalls.enter Tryz.func97 rfl Tryz.ntmps97 (by simp) ?_
    simp only [Qab]
    refine go_ ?_
    refine Jc (hF.out) ?_
    refine go_ ?_
    refine Qdt (t := 10) (rows := p.map encD) (by simp [PF.get] <;> rfl) rfl fun hl => ?_
    rw [List.length_map] at hl
    unfold maxLen at hl
    refine Qak (ι := Nat) (fun y => y ≤ p.length ∧ Hid (R = (p.drop y).all (pRight l))) (fun y => [(0, .d (.sl (l.map encD))), (10, .d (.sl (p.map encD))), (11, .d (.v (.int .i64 p.length))), (12, .d (.v (.int .i64 (y : Int))))]) (fun _ => []) (fun y => p.length - y) 0 ⟨Nat.zero_le _, HR2.out⟩ ?_ ?_ ?_
    · repeat (first | exact Jt _ | refine Js (by simp [PF.get]; rfl) (by first | rfl | (simp [*]; done) | fail) ?_)
    · repeat (first | exact List.Sublist.refl _ | exact List.nil_sublist _ | refine List.Sublist.cons_cons _ ?_ | refine List.Sublist.cons _ ?_)
    rintro j ⟨hj, hR⟩
    clear HR2
    by_cases hlt : j < p.length
    · have hx := Qal hlt
      have hc : (j : Int) < p.length := by omega
      have hn1 : (0 : Int) ≤ j := by omega
      have hin := wr64 (n := (j : Int) + 1) (by omega) (by omega)
      have hc1 := Lib.hid (HP.out _ (List.getElem_mem hlt))
      have hR2 : Hid (R = (pRight l p[j] && (p.drop (j + 1)).all (pRight l))) := by show _ = _; rw [show R = _ from hR.out, List.drop_eq_getElem_cons hlt]; rfl
      simp only [aggD, Qao, Jl, List.map_cons, List.map_nil] at hc1
      clear hR
      generalize pRight l p[j] = q at *
      refine go_ ?_
      refine Je ?_
      intro i3 hi3
      try simp only [Ja, Rh, Rg, Jb] at hi3
      refine go_ ?_
      refine Rd ?_
      refine go_ ?_
      refine Jc (hc1.out) ?_
      cases q with
      | false =>
        refine go_ ?_
        refine Jm (by simp) (by simp only [Tryz.results97]; rfl) (by simp [resP, St.box?, PF.get, Jn, TyK.agg, *]; rfl) Nl ?_
        exact ⟨by rw [hR2.out]; rfl, rfl⟩
      | true =>
        refine go_ ?_
        exact ⟨j + 1, ⟨hlt, hR2.out⟩, by omega, by repeat (first | exact Jt _ | refine Js (by simp [PF.get]; rfl) (by first | rfl | (simp [*]; done) | fail) ?_), by repeat (first | exact List.Sublist.refl _ | exact List.nil_sublist _ | refine List.Sublist.cons_cons _ ?_ | refine List.Sublist.cons _ ?_)⟩
    · have hc : ¬ (j : Int) < p.length := by omega
      have hf : Hid (R = true) := by show _ = _; rw [show R = _ from hR.out, List.drop_of_length_le (by omega)]; rfl
      clear hR
      refine go_ ?_
      refine Jm (by simp) (by simp only [Tryz.results97]; rfl) (by simp [resP, St.box?, PF.get, Jn, TyK.agg, *]; rfl) Nl ?_
      exact ⟨by rw [hf.out]; rfl, rfl⟩
theorem cmatrix_p (l : List En) (p : List Pt) (args : List Tm) (hF : formedB l = true) (hp : ∀ x ∈ p, pgT l x = true) (ha : ∀ a ∈ args, Qad a = true) (hpl : p.length ≤ 1000) (hal : args.length ≤ 1000) : PCalls Tryz.prog 98 [.d (.sl (l.map encD)), .d (.sl (p.map encD)), .d (.sl (args.map encD))] [] fun r s => r = .d (.sl ((mxL l p args).map rowD)) ∧ s = [] := by
 have HS : Hid (∀ x ∈ p, ∀ a ∈ args, PCalls Tryz.prog 90 [.d (.sl (l.map encD)), aggD x, aggD a] [] fun r s => r = .d (.v (.int .i64 (Qat l x a))) ∧ s = []) := fun x hx a h => cstand_p l hF x a (hp x hx) (ha a h)
 obtain ⟨R, hR⟩ : ∃ R, R = mxL l p args := ⟨_, rfl⟩
 rw [← hR]
 have HR : Hid (R = p.map fun x => args.map fun a => Qat l x a) := hR
 clear hR hF hp ha
 refine PCalls.enter Tryz.func98 rfl Tryz.ntmps98 (by simp) ?_
 simp only [Qab]
 refine go_ ?_
 refine PW_own 7 38 1 (by decide) (by simp [PF.get] <;> rfl) fun g hg => ?_
 refine Qak (ι := List (List Int) × Nat) (fun y => y.2 ≤ p.length ∧ Hid (y.1 = (p.take y.2).map fun x => args.map fun a => Qat l x a)) (fun y => [(0, .d (.sl (l.map encD))), (2, .d (.sl (args.map encD))), (7, .own g (y.1.map rowD)), (13, .d (.sl (p.map encD))), (14, .d (.v (.int .i64 p.length))), (15, .d (.v (.int .i64 (y.2 : Int))))]) (fun y => [.tok g 38 1 y.1.length]) (fun y => p.length - y.2) ([], 0) ⟨Nat.zero_le _, rfl⟩ ?_ ?_ ?_
 ·repeat (first | exact Jt _ | refine Js (by simp [PF.get]; rfl) (by first | rfl | (simp [*]; done) | fail) ?_)
 ·repeat (first | exact List.Sublist.refl _ | exact List.nil_sublist _ | refine List.Sublist.cons_cons _ ?_ | refine List.Sublist.cons _ ?_)
 rintro ⟨M, j⟩ ⟨hj, hM⟩
 simp only at hj hM ⊢
 by_cases hlt : j < p.length
 ·have hx := Qal hlt
  have hc : (j : Int) < p.length := by omega
  have hn : (0 : Int) ≤ j := by omega
  have hin := wr64 (n := (j : Int) + 1) (by omega) (by omega)
  have HM : Hid (M ++ [args.map fun a => Qat l p[j] a] = (p.take (j + 1)).map fun x => args.map fun a => Qat l x a) := by show _ = _; rw [List.take_succ_eq_append_getElem hlt, List.map_append, show M = _ from hM.out]; rfl
  have hml : M.length ≤ 1000 := by rw [show M = _ from hM.out, List.length_map, List.length_take]; omega
  have HS1 := Lib.hid (HS.out _ (List.getElem_mem hlt))
  obtain ⟨N, hN⟩ : ∃ N, N = args.map fun a => Qat l p[j] a := ⟨_, rfl⟩
  rw [← hN] at HM
  have HN := Lib.hid hN
  clear hM hN
  refine go_ ?_
  refine Je ?_
  intro i3 hi3
  try simp only [Ja, Rh, Rg, Jb] at hi3
  refine go_ ?_
  refine Rd ?_
  refine go_ ?_
  refine PW_own 10 3 1 (by decide) (by simp [PF.get] <;> rfl) fun g1 hg1 => ?_
  simp only [St.freshT_tok, St.freshT_box, St.freshT_nil] at hg1
  refine Qak (ι := List Int × Nat) (fun y => y.2 ≤ args.length ∧ Hid (y.1 = (args.take y.2).map fun a => Qat l p[j] a)) (fun y => [(0, .d (.sl (l.map encD))), (2, .d (.sl (args.map encD))), (7, .own g (M.map rowD)), (9, .ptr i3 0), (10, .own g1 (y.1.map encD)), (13, .d (.sl (p.map encD))), (14, .d (.v (.int .i64 p.length))), (15, .d (.v (.int .i64 (j : Int)))), (19, .d (.sl (args.map encD))), (20, .d (.v (.int .i64 args.length))), (21, .d (.v (.int .i64 (y.2 : Int))))]) (fun y => [.tok g1 3 1 y.1.length, .box i3 28 [.d (.v (.int .i64 p[j].kind)), .d (.v (.int .i64 p[j].num)), .d (.v (.int .i64 p[j].at_)), .d (.sl (p[j].sub.map encD)), .d (.v (.int .i64 p[j].t.kind)), .d (.v (.int .i64 p[j].t.num)), .d (.sl (p[j].t.sub.map encD))], .tok g 38 1 M.length]) (fun y => args.length - y.2) ([], 0) ⟨Nat.zero_le _, rfl⟩ ?_ ?_ ?_
  ·repeat (first | exact Jt _ | refine Js (by simp [PF.get]; rfl) (by first | rfl | (simp [*]; done) | fail) ?_)
  ·repeat (first | exact List.Sublist.refl _ | exact List.nil_sublist _ | refine List.Sublist.cons_cons _ ?_ | refine List.Sublist.cons _ ?_)
  rintro ⟨V, k⟩ ⟨hk, hV⟩
  simp only at hk hV ⊢
  by_cases hkl : k < args.length
  ·have hxa := Qal hkl
   have hck : (k : Int) < args.length := by omega
   have hnk : (0 : Int) ≤ k := by omega
   have hink := wr64 (n := (k : Int) + 1) (by omega) (by omega)
   have HV : Hid (V ++ [Qat l p[j] args[k]] = (args.take (k + 1)).map fun a => Qat l p[j] a) := by show _ = _; rw [List.take_succ_eq_append_getElem hkl, List.map_append, show V = _ from hV.out]; rfl
   have hvl : V.length ≤ 1000 := by rw [show V = _ from hV.out, List.length_map, List.length_take]; omega
   have hc1 := Lib.hid (HS1.out _ (List.getElem_mem hkl))
   simp only [aggD, Qao, Jl, List.map_cons, List.map_nil] at hc1
   clear hV
   generalize Qat l p[j] args[k] = q at *
   refine go_ ?_
   refine Je ?_
   intro i4 hi4
   try simp only [Ja, Rh, Rg, Jb] at hi4
   refine go_ ?_
   refine Rd ?_
   refine go_ ?_
   refine Jc (hc1.out) ?_
   refine go_ ?_
   refine Qam ?_
   refine go_ ?_
   refine Qba (V.length + 1) ?_ ?_ ?_ ?_
   ·simp
   ·exact Qil (α := Int) rfl
   ·exact Qbw rfl
   refine go_ ?_
   refine ⟨(V ++ [q], k + 1), ⟨hkl, HV⟩, by simp only; omega, ?_, ?_⟩
   ·repeat (first | exact Jt _ | refine Js (by simp [PF.get]; rfl) (by first | rfl | (simp [Jf]; done) | fail) ?_)
   ·simp only [List.length_append, List.length_singleton]
    repeat (first | exact List.Sublist.refl _ | exact List.nil_sublist _ | refine List.Sublist.cons_cons _ ?_ | refine List.Sublist.cons _ ?_)
  ·have hck : ¬ (k : Int) < args.length := by omega
   have hf : Hid (V = N) := by show _ = _; rw [show V = _ from hV.out, List.take_of_length_le (by omega), show N = _ from HN.out]
   clear hV
   refine gs_ ?_
   refine Qep 10 (by simp [PF.get] <;> rfl) ?_
   simp only [PV.norm0]
   rw [hf.out]
   refine go_ ?_
   refine Qam ?_
   refine go_ ?_
   refine Qba (M.length + 1) ?_ ?_ ?_ ?_
   ·simp
   ·exact rowsD _
   ·exact Qbw rfl
   refine go_ ?_
   refine ⟨(M ++ [N], j + 1), ⟨hlt, HM⟩, by simp only; omega, ?_, ?_⟩
   ·repeat (first | exact Jt _ | refine Js (by simp [PF.get]; rfl) (by first | rfl | (simp [rowD]; done) | fail) ?_)
   ·simp only [List.length_append, List.length_singleton]
    repeat (first | exact List.Sublist.refl _ | exact List.nil_sublist _ | refine List.Sublist.cons_cons _ ?_ | refine List.Sublist.cons _ ?_)
 ·have hc : ¬ (j : Int) < p.length := by omega
  have hf : Hid (M = R) := by show _ = _; rw [show M = _ from hM.out, List.take_of_length_le (by omega), show R = _ from HR.out]
  clear hM
  refine go_ ?_
  refine Jm (by simp) (by simp only [Tryz.results98]; rfl) (by simp [resP, St.box?, PF.get, Jn, TyK.agg, *]; rfl) Nl ?_
  exact ⟨by rw [hf.out]; rfl, rfl⟩
theorem cMatrix_p (l : List En) (p : List Pt) (args : List Tm) (ho : ∀ e ∈ l, EnOk e) (h : ∀ x ∈ p, pndT x ≤ 8000) (hpl : p.length ≤ 1000) (hal : args.length ≤ 1000) : PCalls Tryz.prog 45 [.d (.sl (l.map encD)), .d (.sl (p.map encD)), .d (.sl (args.map encD))] [] fun r s => r = (if ((formedB l && p.all (pRight l)) = true ∧ p.length = args.length) ∧ (args.all Qad) = true then .tup [.d (.sl ((mxL l p args).map rowD)), .d (.v (.int .i64 0))] else .tup [.d (.sl []), .d (.v (.int .i64 5))]) ∧ s = [] := by
  have hc1 := Lib.hid (cright_p l p ho h)
  have HT : Hid (∀ a : Tm, PCalls Tryz.prog 65 [aggD a] [] fun r s => r = .d (.v (.bool (Qad a))) ∧ s = []) := fun a => Qeb a
  have HC : Hid ((formedB l && p.all (pRight l)) = true → args.all Qad = true → PCalls Tryz.prog 98 [.d (.sl (l.map encD)), .d (.sl (p.map encD)), .d (.sl (args.map encD))] [] fun r s => r = .d (.sl ((mxL l p args).map rowD)) ∧ s = []) := fun h1 h2 => by
    simp only [Bool.and_eq_true, List.all_eq_true] at h1 h2
    refine cmatrix_p l p args h1.1 (fun x hx => ?_) h2 hpl hal
    have h3 : (formedB l && (decide (phgT x ≤ 128) && pgT l x)) = true := h1.2 x hx
    simp only [Bool.and_eq_true] at h3
    exact h3.2.2
  clear ho h
  generalize mxL l p args = M at *
  generalize (formedB l && p.all (pRight l)) = q1 at *
  by_cases hq : q1 = true ∧ p.length = args.length
  rotate_left
  · rw [if_neg (fun h => hq h.1)]
    cases q1 with
    | false =>
      clear hq
      refine PCalls.enter Tryz.func45 rfl Tryz.ntmps45 (by simp) ?_
      simp only [Qab]
      refine go_ ?_
      refine Jc (hc1.out) ?_
      refine go_ ?_
      refine Jm (by simp) (by simp only [Tryz.results45]; rfl) (by simp [resP, St.box?, PF.get, Jn, TyK.agg, *]; rfl) Nl ?_
      exact ⟨rfl, rfl⟩
    | true =>
      have hne : ((p.length : Int) != (args.length : Int)) = true := by
        have : ¬ p.length = args.length := fun e => hq ⟨rfl, e⟩
        simp; omega
      clear hq
      refine PCalls.enter Tryz.func45 rfl Tryz.ntmps45 (by simp) ?_
      simp only [Qab]
      refine go_ ?_
      refine Jc (hc1.out) ?_
      refine go_ ?_
      refine Jm (by simp) (by simp only [Tryz.results45]; rfl) (by simp [resP, St.box?, PF.get, Jn, TyK.agg, *]; rfl) Nl ?_
      exact ⟨rfl, rfl⟩
  obtain ⟨rfl, hql⟩ := hq
  obtain ⟨T, hT⟩ : ∃ T, T = args.all Qad := ⟨_, rfl⟩
  rw [← hT] at HC ⊢
  have HT0 : Hid (T = (args.drop 0).all Qad) := hT
  have hne : ((p.length : Int) != (args.length : Int)) = false := by rw [hql]; simp
  have e1 : (if ((true : Bool) = true ∧ p.length = args.length) ∧ T = true then PV.tup [.d (.sl (M.map rowD)), .d (.v (.int .i64 0))] else .tup [.d (.sl []), .d (.v (.int .i64 5))]) = if T = true then PV.tup [.d (.sl (M.map rowD)), .d (.v (.int .i64 0))] else .tup [.d (.sl []), .d (.v (.int .i64 5))] := by cases T <;> simp [hql]
  rw [e1]
  clear e1
  clear hT hql
  refine PCalls.enter Tryz.func45 rfl Tryz.ntmps45 (by simp) ?_
  simp only [Qab]
  refine go_ ?_
  refine Jc (hc1.out) ?_
  refine go_ ?_
  refine Qak (ι := Nat) (fun y => y ≤ args.length ∧ Hid (T = (args.drop y).all Qad)) (fun y => [(0, .d (.sl (l.map encD))), (1, .d (.sl (p.map encD))), (2, .d (.sl (args.map encD))), (21, .d (.sl (args.map encD))), (22, .d (.v (.int .i64 args.length))), (23, .d (.v (.int .i64 (y : Int))))]) (fun _ => []) (fun y => args.length - y) 0 ⟨Nat.zero_le _, HT0.out⟩ ?_ ?_ ?_
  · repeat (first | exact Jt _ | refine Js (by simp [PF.get]; rfl) (by first | rfl | (simp [*]; done) | fail) ?_)
  · repeat (first | exact List.Sublist.refl _ | exact List.nil_sublist _ | refine List.Sublist.cons_cons _ ?_ | refine List.Sublist.cons _ ?_)
  rintro j ⟨hj, hR⟩
  clear HT0
  by_cases hlt : j < args.length
  · have hx := Qal hlt
    have hc : (j : Int) < args.length := by omega
    have hn1 : (0 : Int) ≤ j := by omega
    have hin := wr64 (n := (j : Int) + 1) (by omega) (by omega)
    have hc2 := Lib.hid (HT.out args[j])
    have hR2 : Hid (T = (Qad args[j] && (args.drop (j + 1)).all Qad)) := by show _ = _; rw [show T = _ from hR.out, List.drop_eq_getElem_cons hlt]; rfl
    simp only [aggD, Qao, Jl, List.map_cons, List.map_nil] at hc2
    clear hR
    generalize Qad args[j] = q at *
    refine go_ ?_
    refine Je ?_
    intro i3 hi3
    try simp only [Ja, Rh, Rg, Jb] at hi3
    refine go_ ?_
    refine Rd ?_
    refine go_ ?_
    refine Jc (hc2.out) ?_
    cases q with
    | false =>
      refine go_ ?_
      refine Jm (by simp) (by simp only [Tryz.results45]; rfl) (by simp [resP, St.box?, PF.get, Jn, TyK.agg, *]; rfl) Nl ?_
      exact ⟨by rw [hR2.out]; rfl, rfl⟩
    | true =>
      refine go_ ?_
      exact ⟨j + 1, ⟨hlt, hR2.out⟩, by omega, by repeat (first | exact Jt _ | refine Js (by simp [PF.get]; rfl) (by first | rfl | (simp [*]; done) | fail) ?_), by repeat (first | exact List.Sublist.refl _ | exact List.nil_sublist _ | refine List.Sublist.cons_cons _ ?_ | refine List.Sublist.cons _ ?_)⟩
  · have hc : ¬ (j : Int) < args.length := by omega
    have hf : Hid (T = true) := by show _ = _; rw [show T = _ from hR.out, List.drop_of_length_le (by omega)]; rfl
    have hc3 := Lib.hid (HC.out rfl hf.out)
    clear hR HC
    refine go_ ?_
    refine Jc (hc3.out) ?_
    refine go_ ?_
    refine Jm (by simp) (by simp only [Tryz.results45]; rfl) (by simp [resP, St.box?, PF.get, Jn, TyK.agg, *]; rfl) Nl ?_
    exact ⟨by rw [hf.out]; rfl, rfl⟩
theorem app_args {t : Tm} (hg : Qac t = true) : decide (0 < (Qav t).length) = (t.kind == 5) := by
 by_cases h : t.kind = 5
 ·obtain ⟨y, b, rfl, -, -⟩ := Qey hg h
  rw [(Qfe 0 y b).2]; simp
 ·rw [(Qdh h).2]; simp [h]
theorem r29equal_p (l : List En) (hF : formedB l = true) : ∀ (p : Pt) (t : Tm), pgT l p = true → Qad t = true → PCalls Tryz.prog 99 [.d (.sl (l.map encD)), aggD p, aggD t] [] fun r s => r = .d (.v (.bool (peqT l p t))) ∧ s = [] := by
  refine Pt.ind ?_
  intro k n a sub d ih t hg ht
  obtain ⟨R, hR⟩ : ∃ R, R = peqT l (.mk k n a sub d) t := ⟨_, rfl⟩
  rw [← hR]
  by_cases k1 : k = 1
  · subst k1
    rw [Qig] at hR
    have HR := Lib.hid hR
    clear hR ih hg ht hF
    simp only [aggD, Qao, Jl, List.map_cons, List.map_nil, Pt.kind_mk, Pt.num_mk, Pt.at_mk, Pt.sub_mk, Pt.t_mk]
    refine PCalls.enter Tryz.func99 rfl Tryz.ntmps99 (by simp) ?_
    simp only [Qab]
    refine go_ ?_
    refine Jd ?_
    intro i0 hi0
    try simp only [Ja, Rh, Rg, Jb] at hi0
    refine go_ ?_
    refine Jd ?_
    intro i1 hi1
    try simp only [Ja, Rh, Rg, Jb] at hi1
    refine go_ ?_
    rcases Bool.eq_false_or_eq_true (t.kind == 8) with h1 | h1
    rotate_left
    · refine go_ ?_
      refine Jm (by simp) (by simp only [Tryz.results99]; rfl) (by simp [resP, St.box?, PF.get, Jn, TyK.agg, *]; rfl) Nl ?_
      exact ⟨by rw [HR.out]; simp [tupP, PV.norm2, PV.norm1, PV.norm0, *], rfl⟩
    refine go_ ?_
    refine Jm (by simp) (by simp only [Tryz.results99]; rfl) (by simp [resP, St.box?, PF.get, Jn, TyK.agg, *]; rfl) Nl ?_
    exact ⟨by rw [HR.out]; simp [tupP, PV.norm2, PV.norm1, PV.norm0, *], rfl⟩
  by_cases k2 : k = 2
  rotate_left
  · rw [peq_no k1 k2] at hR
    have HR := Lib.hid hR
    have k2b : (k != 2) = true := bne_iff_ne.2 k2
    clear hR ih hg ht hF
    simp only [aggD, Qao, Jl, List.map_cons, List.map_nil, Pt.kind_mk, Pt.num_mk, Pt.at_mk, Pt.sub_mk, Pt.t_mk]
    refine PCalls.enter Tryz.func99 rfl Tryz.ntmps99 (by simp) ?_
    simp only [Qab]
    refine go_ ?_
    refine Jd ?_
    intro i0 hi0
    try simp only [Ja, Rh, Rg, Jb] at hi0
    refine go_ ?_
    refine Jd ?_
    intro i1 hi1
    try simp only [Ja, Rh, Rg, Jb] at hi1
    refine go_ ?_
    refine Jm (by simp) (by simp only [Tryz.results99]; rfl) (by simp [resP, St.box?, PF.get, Jn, TyK.agg, *]; rfl) Nl ?_
    exact ⟨by rw [HR.out]; rfl, rfl⟩
  subst k2
  rw [Qhe] at hR
  obtain ⟨har, hgs⟩ := Qhf hg
  obtain ⟨i, x, m, rfl, hil, hx, hx0, hpm, hmp, hm24, hs24⟩ := con_at hF har
  rw [← hmp] at hR
  obtain ⟨hgt, -, hct⟩ := Qaq ht
  have hS1 := Lib.hid (Qij t hgt)
  have hS2 := Lib.hid (rArgs_p t hgt (by omega))
  have HA := Lib.hid (Qjv _ t (Nat.le_refl _) ht)
  have hAl : (Qav t).length ≤ 8192 := Nat.le_trans (Qhh t) hct
  have IH : Hid (∀ s ∈ sub, ∀ u : Tm, Qad u = true → PCalls Tryz.prog 99 [.d (.sl (l.map encD)), aggD s, aggD u] [] fun r st => r = .d (.v (.bool (peqT l s u))) ∧ st = []) := fun s hs u hu => ih s hs u (hgs s hs) hu
  simp only [aggD, Qao, Jl, List.map_cons, List.map_nil, Pt.kind_mk, Pt.num_mk, Pt.at_mk, Pt.sub_mk, Pt.t_mk] at hS1 hS2 ⊢
  generalize Qan t = h at *
  generalize Qav t = A at *
  have HR := Lib.hid hR
  have hc0 : (i : Int) < l.length := by omega
  have hn0 : (0 : Int) ≤ i := by omega
  have hw0 := wr64 (n := (m : Int) + sub.length) (by omega) (by omega)
  clear hR k1 hF hg har hgs ih hmp hx0 ht hil hgt hct
  refine PCalls.enter Tryz.func99 rfl Tryz.ntmps99 (by simp) ?_
  simp only [Qab]
  refine go_ ?_
  refine Jd ?_
  intro i0 hi0
  try simp only [Ja, Rh, Rg, Jb] at hi0
  refine go_ ?_
  refine Jd ?_
  intro i1 hi1
  try simp only [Ja, Rh, Rg, Jb] at hi1
  refine go_ ?_
  refine Jc (hS1.out) ?_
  refine go_ ?_
  refine Je ?_
  intro i2 hi2
  try simp only [Ja, Rh, Rg, Jb] at hi2
  refine go_ ?_
  refine Rd ?_
  refine go_ ?_
  refine Jc (hS2.out) ?_
  refine go_ ?_
  refine Qax [(0, .a), (1, .b), (2, .a), (3, .a), (4, .a), (5, .b), (6, .a), (7, .b), (8, .a), (9, .a), (10, .a), (11, .a), (12, .a), (13, .a), (14, .a), (15, .b), (16, .a), (17, .a), (18, .a), (19, .a), (20, .b), (21, .a), (22, .a), (23, .a), (24, .a)] (by kernel_rfl) (by rfl) (by kernel_rfl) ?_
  refine go_ ?_
  rcases Bool.eq_false_or_eq_true (h.kind == 6) with h1 | h1
  rotate_left
  · have h1b : (h.kind != 6) = true := by simpa using h1
    refine go_ ?_
    refine Jm (by simp) (by simp only [Tryz.results99]; rfl) (by simp [resP, St.box?, PF.get, Jn, TyK.agg, *]; rfl) Nl ?_
    exact ⟨by rw [HR.out, h1]; rfl, rfl⟩
  have h1b : (h.kind != 6) = false := by simpa using h1
  have HR2 : Hid (R = (h.num == (i : Int) && (A.length == m + sub.length && peqL l sub (A.drop m)))) := by show _ = _; rw [HR.out, h1]; rfl
  clear HR h1
  refine go_ ?_
  rcases Bool.eq_false_or_eq_true (h.num == (i : Int)) with h2 | h2
  rotate_left
  · have h2b : (h.num != (i : Int)) = true := by simpa using h2
    refine go_ ?_
    refine Jm (by simp) (by simp only [Tryz.results99]; rfl) (by simp [resP, St.box?, PF.get, Jn, TyK.agg, *]; rfl) Nl ?_
    exact ⟨by rw [HR2.out, h2]; rfl, rfl⟩
  have h2b : (h.num != (i : Int)) = false := by simpa using h2
  have HR3 : Hid (R = ((A.length == m + sub.length) && peqL l sub (A.drop m))) := by show _ = _; rw [HR2.out, h2]; rfl
  clear HR2 h2
  refine go_ ?_
  by_cases h3 : A.length = m + sub.length
  rotate_left
  · have h3b : ((A.length : Int) != (m : Int) + sub.length) = true := by simp; omega
    have hf : Hid (R = false) := by show _ = _; rw [HR3.out]; simp [h3]
    clear HR3 h3
    refine go_ ?_
    refine Jm (by simp) (by simp only [Tryz.results99]; rfl) (by simp [resP, St.box?, PF.get, Jn, TyK.agg, *]; rfl) Nl ?_
    exact ⟨by rw [hf.out]; rfl, rfl⟩
  have h3b : ((A.length : Int) != (m : Int) + sub.length) = false := by simp; omega
  have HR4 : Hid (R = (true && peqL l (sub.drop 0) (A.drop (m + 0)))) := by show _ = _; rw [HR3.out]; simp [h3]
  have H3 := Lib.hid h3
  clear HR3 h3
  refine go_ ?_
  refine Qak (ι := Nat × Bool) (fun y => y.1 ≤ sub.length ∧ Hid (R = (y.2 && peqL l (sub.drop y.1) (A.drop (m + y.1))))) (fun y => [(0, .d (.sl (l.map encD))), (4, .ptr i0 0), (8, .d (.sl (A.map encD))), (9, .d (.v (.bool y.2))), (10, .d (.v (.int .i64 (y.1 : Int))))]) (fun _ => [.box i0 44 [.d (.v (.int .i64 2)), .d (.v (.int .i64 (i : Int))), .d (.v (.int .i64 a)), .d (.sl (sub.map encD)), .d (.v (.int .i64 d.kind)), .d (.v (.int .i64 d.num)), .d (.sl (d.sub.map encD))]]) (fun y => sub.length - y.1) (0, true) ⟨Nat.zero_le _, HR4.out⟩ ?_ ?_ ?_
  · repeat (first | exact Jt _ | refine Js (by simp [PF.get]; rfl) (by first | rfl | (simp [*]; done) | fail) ?_)
  · repeat (first | exact List.Sublist.refl _ | exact List.nil_sublist _ | refine List.Sublist.cons_cons _ ?_ | refine List.Sublist.cons _ ?_)
  rintro ⟨j, b⟩ ⟨hj, hR⟩
  simp only at hj hR ⊢
  clear HR4
  by_cases hlt : j < sub.length
  · have hxs := Qal hlt
    have hAj : m + j < A.length := by have := H3.out; omega
    have hxa := Qal hAj
    have hc : (j : Int) < sub.length := by omega
    have hca : (m : Int) + j < A.length := by omega
    have hn1 : (0 : Int) ≤ j := by omega
    have hn2 : (0 : Int) ≤ (m : Int) + j := by omega
    have hin := wr64 (n := (j : Int) + 1) (by omega) (by omega)
    have hwa := wr64 (n := (m : Int) + j) (by omega) (by omega)
    have htn : ((m : Int) + j).toNat = m + j := by omega
    have hc1 := Lib.hid (IH.out _ (List.getElem_mem hlt) A[m + j] (HA.out _ (List.getElem_mem hAj)))
    have hR2 : Hid (R = ((b && peqT l sub[j] A[m + j]) && peqL l (sub.drop (j + 1)) (A.drop (m + (j + 1))))) := by show _ = _; rw [show R = _ from hR.out, List.drop_eq_getElem_cons hlt, List.drop_eq_getElem_cons hAj, Bool.and_assoc]; rfl
    simp only [aggD, Qao, Jl, List.map_cons, List.map_nil] at hc1
    clear hR
    generalize peqT l sub[j] A[m + j] = q at *
    refine go_ ?_
    refine Qax [(0, .a), (1, .a), (2, .a), (3, .a), (4, .b), (5, .a), (6, .a), (7, .a), (8, .a), (9, .a), (10, .a), (11, .b), (12, .a), (13, .a), (14, .a), (15, .a), (16, .a), (17, .a), (18, .a), (19, .a), (20, .a), (21, .a)] (by kernel_rfl) (by rfl) (by kernel_rfl) ?_
    refine go_ ?_
    cases b with
    | false =>
      refine go_ ?_
      exact ⟨(j + 1, false), ⟨hlt, hR2.out⟩, by simp only; omega, by repeat (first | exact Jt _ | refine Js (by simp [PF.get]; rfl) (by first | rfl | (simp [*]; done) | fail) ?_), by repeat (first | exact List.Sublist.refl _ | exact List.nil_sublist _ | refine List.Sublist.cons_cons _ ?_ | refine List.Sublist.cons _ ?_)⟩
    | true =>
      refine go_ ?_
      refine Qbm (hc1.out) ?_
      refine go_ ?_
      exact ⟨(j + 1, q), ⟨hlt, hR2.out⟩, by simp only; omega, by repeat (first | exact Jt _ | refine Js (by simp [PF.get]; rfl) (by first | rfl | (simp [*]; done) | fail) ?_), by repeat (first | exact List.Sublist.refl _ | exact List.nil_sublist _ | refine List.Sublist.cons_cons _ ?_ | refine List.Sublist.cons _ ?_)⟩
  · have hc : ¬ (j : Int) < sub.length := by omega
    have hf : Hid (R = b) := by show _ = _; rw [show R = _ from hR.out, List.drop_of_length_le (by omega)]; cases b <;> rfl
    clear hR
    refine go_ ?_
    refine Jm (by simp) (by simp only [Tryz.results99]; rfl) (by simp [resP, St.box?, PF.get, Jn, TyK.agg, *]; rfl) Nl ?_
    exact ⟨by rw [hf.out]; rfl, rfl⟩
theorem r29Stand_p (l : List En) (hF : formedB l = true) : ∀ (p : Pt) (t : Tm), pgT l p = true → Qad t = true → PCalls Tryz.prog 46 [.d (.sl (l.map encD)), aggD p, aggD t] [] fun r s => r = .d (.v (.int .i64 (Qat l p t))) ∧ s = [] := by
  refine Pt.ind ?_
  intro k n a sub d ih t hg ht
  obtain ⟨R, hR⟩ : ∃ R, R = Qat l (.mk k n a sub d) t := ⟨_, rfl⟩
  rw [← hR]
  have hR1 : R = if peqT l (.mk k n a sub d) t = true then 1 else if plsT l (.mk k n a sub d) t = true then 2 else 0 := hR
  have hc0 := Lib.hid (r29equal_p l hF (.mk k n a sub d) t hg ht)
  clear hR
  simp only [aggD, Qao, Jl, List.map_cons, List.map_nil, Pt.kind_mk, Pt.num_mk, Pt.at_mk, Pt.sub_mk, Pt.t_mk] at hc0 ⊢
  generalize peqT l (.mk k n a sub d) t = q0 at *
  cases q0 with
  | true =>
    have HR := Lib.hid hR1
    clear hR1 ih hg ht hF
    refine PCalls.enter Tryz.func46 rfl Tryz.ntmps46 (by simp) ?_
    simp only [Qab]
    refine go_ ?_
    refine Jd ?_
    intro i0 hi0
    try simp only [Ja, Rh, Rg, Jb] at hi0
    refine go_ ?_
    refine Jd ?_
    intro i1 hi1
    try simp only [Ja, Rh, Rg, Jb] at hi1
    refine go_ ?_
    refine Jc (hc0.out) ?_
    refine go_ ?_
    refine Jm (by simp) (by simp only [Tryz.results46]; rfl) (by simp [resP, St.box?, PF.get, Jn, TyK.agg, *]; rfl) Nl ?_
    exact ⟨by rw [HR.out]; rfl, rfl⟩
  | false =>
  by_cases k2 : k = 2
  rotate_left
  · rw [pls_no k2] at hR1
    have HR := Lib.hid hR1
    have k2b : (k != 2) = true := bne_iff_ne.2 k2
    clear hR1 ih hg ht hF k2
    refine PCalls.enter Tryz.func46 rfl Tryz.ntmps46 (by simp) ?_
    simp only [Qab]
    refine go_ ?_
    refine Jd ?_
    intro i0 hi0
    try simp only [Ja, Rh, Rg, Jb] at hi0
    refine go_ ?_
    refine Jd ?_
    intro i1 hi1
    try simp only [Ja, Rh, Rg, Jb] at hi1
    refine go_ ?_
    refine Jc (hc0.out) ?_
    refine go_ ?_
    refine Jm (by simp) (by simp only [Tryz.results46]; rfl) (by simp [resP, St.box?, PF.get, Jn, TyK.agg, *]; rfl) Nl ?_
    exact ⟨by rw [HR.out]; rfl, rfl⟩
  subst k2
  rw [Qii] at hR1
  obtain ⟨har, hgs⟩ := Qhf hg
  have hs24 : sub.length ≤ 24 := by
    obtain ⟨i, x, m, -, -, -, -, -, -, -, h⟩ := con_at hF har
    exact h
  have HR : Hid (R = if plsL l (sub.drop 0) t = true then 2 else 0) := hR1
  obtain ⟨hgt, -, hct⟩ := Qaq ht
  have hS1 := Lib.hid (Qij t hgt)
  have HPA : Hid (∀ s : Pt, papB s t = ((t.kind == 5) && (((Qan t).kind == 8) && ((s.kind == 1) && (s.num == (Qan t).num))))) := fun s => by
    have : papB s t = (((Qan t).kind == 8) && ((decide (0 < (Qav t).length)) && ((s.kind == 1) && (s.num == (Qan t).num)))) := rfl
    rw [this, app_args hgt]
    cases (t.kind == 5) <;> cases ((Qan t).kind == 8) <;> rfl
  have IH : Hid (∀ s ∈ sub, PCalls Tryz.prog 46 [.d (.sl (l.map encD)), aggD s, aggD t] [] fun r st => r = .d (.v (.int .i64 (Qat l s t))) ∧ st = []) := fun s hs => ih s hs t (hgs s hs) ht
  simp only [aggD, Qao, Jl, List.map_cons, List.map_nil, Pt.kind_mk, Pt.num_mk, Pt.at_mk, Pt.sub_mk, Pt.t_mk] at hS1 ⊢
  generalize Qan t = h at *
  clear hR1 hF hg har hgs ih ht hgt hct
  refine PCalls.enter Tryz.func46 rfl Tryz.ntmps46 (by simp) ?_
  simp only [Qab]
  refine go_ ?_
  refine Jd ?_
  intro i0 hi0
  try simp only [Ja, Rh, Rg, Jb] at hi0
  refine go_ ?_
  refine Jd ?_
  intro i1 hi1
  try simp only [Ja, Rh, Rg, Jb] at hi1
  refine go_ ?_
  refine Jc (hc0.out) ?_
  refine go_ ?_
  refine Jc (hS1.out) ?_
  refine go_ ?_
  refine Je ?_
  intro i2 hi2
  try simp only [Ja, Rh, Rg, Jb] at hi2
  refine go_ ?_
  refine Rd ?_
  refine go_ ?_
  refine Qak (ι := Nat) (fun y => y ≤ sub.length ∧ Hid (R = if plsL l (sub.drop y) t = true then 2 else 0)) (fun y => [(0, .d (.sl (l.map encD))), (4, .ptr i0 0), (5, .ptr i1 0), (7, .ptr i2 0), (8, .d (.v (.int .i64 (y : Int))))]) (fun _ => [.box i2 26 [.d (.v (.int .i64 h.kind)), .d (.v (.int .i64 h.num)), .d (.sl (h.sub.map encD))], .box i1 26 [.d (.v (.int .i64 t.kind)), .d (.v (.int .i64 t.num)), .d (.sl (t.sub.map encD))], .box i0 44 [.d (.v (.int .i64 2)), .d (.v (.int .i64 n)), .d (.v (.int .i64 a)), .d (.sl (sub.map encD)), .d (.v (.int .i64 d.kind)), .d (.v (.int .i64 d.num)), .d (.sl (d.sub.map encD))]]) (fun y => sub.length - y) 0 ⟨Nat.zero_le _, HR.out⟩ ?_ ?_ ?_
  · repeat (first | exact Jt _ | refine Js (by simp [PF.get]; rfl) (by first | rfl | (simp [*]; done) | fail) ?_)
  · repeat (first | exact List.Sublist.refl _ | exact List.nil_sublist _ | refine List.Sublist.cons_cons _ ?_ | refine List.Sublist.cons _ ?_)
  rintro j ⟨hj, hR⟩
  clear HR
  by_cases hlt : j < sub.length
  · have hxs := Qal hlt
    have hc : (j : Int) < sub.length := by omega
    have hn1 : (0 : Int) ≤ j := by omega
    have hin := wr64 (n := (j : Int) + 1) (by omega) (by omega)
    have hc2 := Lib.hid (IH.out _ (List.getElem_mem hlt))
    have hsp := Lib.hid (stand_pos l sub[j] t)
    have hR2 : Hid (R = if ((peqT l sub[j] t || plsT l sub[j] t) || (papB sub[j] t || plsL l (sub.drop (j + 1)) t)) = true then 2 else 0) := by show _ = _; rw [show R = _ from hR.out, List.drop_eq_getElem_cons hlt]; rfl
    rw [← hsp.out] at hR2
    have hpa := Lib.hid (HPA.out sub[j])
    simp only [aggD, Qao, Jl, List.map_cons, List.map_nil] at hc2
    clear hR hsp
    generalize Qat l sub[j] t = z at *
    refine go_ ?_
    refine Je ?_
    intro i3 hi3
    try simp only [Ja, Rh, Rg, Jb] at hi3
    refine go_ ?_
    refine Rd ?_
    refine go_ ?_
    refine Jc (hc2.out) ?_
    by_cases hz : 0 < z
    · have hf : Hid (R = 2) := by show _ = _; rw [hR2.out]; simp [hz]
      clear hR2
      refine go_ ?_
      refine Jm (by simp) (by simp only [Tryz.results46]; rfl) (by simp [resP, St.box?, PF.get, Jn, TyK.agg, *]; rfl) Nl ?_
      exact ⟨by rw [hf.out]; rfl, rfl⟩
    have hR3 : Hid (R = if (papB sub[j] t || plsL l (sub.drop (j + 1)) t) = true then 2 else 0) := by show _ = _; rw [hR2.out]; simp [hz]
    clear hR2
    refine go_ ?_
    rcases Bool.eq_false_or_eq_true (t.kind == 5) with e1 | e1
    rotate_left
    · have hp : Hid (R = if plsL l (sub.drop (j + 1)) t = true then 2 else 0) := by show _ = _; rw [hR3.out, hpa.out, e1]; rfl
      clear hR3
      refine go_ ?_
      exact ⟨j + 1, ⟨hlt, hp.out⟩, by omega, by repeat (first | exact Jt _ | refine Js (by simp [PF.get]; rfl) (by first | rfl | (simp [*]; done) | fail) ?_), by repeat (first | exact List.Sublist.refl _ | exact List.nil_sublist _ | refine List.Sublist.cons_cons _ ?_ | refine List.Sublist.cons _ ?_)⟩
    have hpa1 : Hid (papB sub[j] t = ((h.kind == 8) && ((sub[j].kind == 1) && (sub[j].num == h.num)))) := by show _ = _; rw [hpa.out, e1]; rfl
    clear hpa
    refine go_ ?_
    rcases Bool.eq_false_or_eq_true (h.kind == 8) with e2 | e2
    rotate_left
    · have hp : Hid (R = if plsL l (sub.drop (j + 1)) t = true then 2 else 0) := by show _ = _; rw [hR3.out, hpa1.out, e2]; rfl
      clear hR3
      refine go_ ?_
      exact ⟨j + 1, ⟨hlt, hp.out⟩, by omega, by repeat (first | exact Jt _ | refine Js (by simp [PF.get]; rfl) (by first | rfl | (simp [*]; done) | fail) ?_), by repeat (first | exact List.Sublist.refl _ | exact List.nil_sublist _ | refine List.Sublist.cons_cons _ ?_ | refine List.Sublist.cons _ ?_)⟩
    have hpa3 : Hid (papB sub[j] t = ((sub[j].kind == 1) && (sub[j].num == h.num))) := by show _ = _; rw [hpa1.out, e2]; rfl
    clear hpa1
    refine go_ ?_
    rcases Bool.eq_false_or_eq_true (sub[j].kind == 1) with e3 | e3
    rotate_left
    · have hp : Hid (R = if plsL l (sub.drop (j + 1)) t = true then 2 else 0) := by show _ = _; rw [hR3.out, hpa3.out, e3]; rfl
      clear hR3
      refine go_ ?_
      exact ⟨j + 1, ⟨hlt, hp.out⟩, by omega, by repeat (first | exact Jt _ | refine Js (by simp [PF.get]; rfl) (by first | rfl | (simp [*]; done) | fail) ?_), by repeat (first | exact List.Sublist.refl _ | exact List.nil_sublist _ | refine List.Sublist.cons_cons _ ?_ | refine List.Sublist.cons _ ?_)⟩
    have hpa4 : Hid (papB sub[j] t = (sub[j].num == h.num)) := by show _ = _; rw [hpa3.out, e3]; rfl
    clear hpa3
    refine go_ ?_
    rcases Bool.eq_false_or_eq_true (sub[j].num == h.num) with e4 | e4
    rotate_left
    · have hp : Hid (R = if plsL l (sub.drop (j + 1)) t = true then 2 else 0) := by show _ = _; rw [hR3.out, hpa4.out, e4]; rfl
      clear hR3
      refine go_ ?_
      exact ⟨j + 1, ⟨hlt, hp.out⟩, by omega, by repeat (first | exact Jt _ | refine Js (by simp [PF.get]; rfl) (by first | rfl | (simp [*]; done) | fail) ?_), by repeat (first | exact List.Sublist.refl _ | exact List.nil_sublist _ | refine List.Sublist.cons_cons _ ?_ | refine List.Sublist.cons _ ?_)⟩
    have hp : Hid (R = 2) := by show _ = _; rw [hR3.out, hpa4.out, e4]; rfl
    clear hR3
    refine go_ ?_
    refine Jm (by simp) (by simp only [Tryz.results46]; rfl) (by simp [resP, St.box?, PF.get, Jn, TyK.agg, *]; rfl) Nl ?_
    exact ⟨by rw [hp.out]; rfl, rfl⟩
  · have hc : ¬ (j : Int) < sub.length := by omega
    have hf : Hid (R = 0) := by show _ = _; rw [show R = _ from hR.out, List.drop_of_length_le (by omega)]; rfl
    clear hR
    refine go_ ?_
    refine Jm (by simp) (by simp only [Tryz.results46]; rfl) (by simp [resP, St.box?, PF.get, Jn, TyK.agg, *]; rfl) Nl ?_
    exact ⟨by rw [hf.out]; rfl, rfl⟩
end Go.Proofs.YtdklpbefbamchaaGreat
