import Derived.Test.YtdklpbefbamchaaGreatBR
import Derived.Test.YtdklpbefbamchaaGreatBH
import Derived.Test.YtdklpbefbamchaaGreatBV
set_option linter.unusedSimpArgs false
set_option linter.unusedVariables false
set_option maxHeartbeats 16000000
set_option maxRecDepth 100000
namespace Go.Proofs.YtdklpbefbamchaaGreat
open Go.RowKit
theorem ak_no {l : List En} {k n a : Int} {sub : List Pt} {d t : Tm} {s : Bool} {vs : List Int} {ts : List Tm} : akT l (.mk k n a sub d) t ⟨true, s, vs, ts⟩ = ⟨true, s, vs, ts⟩ := by simp only [akT, Bool.true_or, if_true]
theorem ak_st {l : List En} {k n a : Int} {sub : List Pt} {d t : Tm} {vs : List Int} {ts : List Tm} : akT l (.mk k n a sub d) t ⟨false, true, vs, ts⟩ = ⟨false, true, vs, ts⟩ := by simp only [akT, Bool.true_or, Bool.or_true, if_true]
theorem ak_3 {l : List En} {n a : Int} {sub : List Pt} {d t : Tm} {vs : List Int} {ts : List Tm} : akT l (.mk 3 n a sub d) t ⟨false, false, vs, ts⟩ = ⟨false, false, vs, ts⟩ := by simp [akT]
theorem ak_1 {l : List En} {n a : Int} {sub : List Pt} {d t : Tm} {vs : List Int} {ts : List Tm} : akT l (.mk 1 n a sub d) t ⟨false, false, vs, ts⟩ = ⟨false, false, vs ++ [n], ts ++ [Qel t]⟩ := by simp [akT]
theorem ak_4 {l : List En} {n a : Int} {sub : List Pt} {d t : Tm} {vs : List Int} {ts : List Tm} : akT l (.mk 4 n a sub d) t ⟨false, false, vs, ts⟩ = ⟨true, false, vs, ts⟩ := by simp [akT]
theorem ak_2n {l : List En} {n a : Int} {sub : List Pt} {d t : Tm} {vs : List Int} {ts : List Tm} (h : Qfw l t = false) : akT l (.mk 2 n a sub d) t ⟨false, false, vs, ts⟩ = ⟨false, true, vs, ts⟩ := by simp [akT, h]
theorem ak_2o {l : List En} {n a : Int} {sub : List Pt} {d t : Tm} {vs : List Int} {ts : List Tm} (h : Qfw l t = true) (h2 : (Qbo t).num ≠ n) : akT l (.mk 2 n a sub d) t ⟨false, false, vs, ts⟩ = ⟨true, false, vs, ts⟩ := by simp [akT, h, h2]
theorem ak_2y {l : List En} {n a : Int} {sub : List Pt} {d t : Tm} {vs : List Int} {ts : List Tm} (h : Qfw l t = true) (h2 : (Qbo t).num = n) : akT l (.mk 2 n a sub d) t ⟨false, false, vs, ts⟩ = akL l sub ((Qbr t).drop (parN l n)) ⟨false, false, vs, ts⟩ := by simp [akT, h, h2]
theorem ask_p (B : List En) (hF : formedB B = true) (b : Nat) : ∀ (p : Pt), pgT B p = true → ∀ (t : Tm) (σ : Ak) (L : St) (V T : PV), Qai t = true → akV σ L V T → σ.terms.length + pndT p ≤ 100000 →
    PCalls Tryz.prog 83 [.ptr b 0, aggD p, aggD t] (akB b B σ V T :: L) fun r s => r = .tup [] ∧ ∃ L' V' T', s = akB b B (akT B p t σ) V' T' :: L' ∧ akV (akT B p t σ) L' V' T' := by
  refine Pt.ind ?_
  intro k n a sub d ih hg t σ L V T hs hv hlen
  obtain ⟨no, stuck, vars, terms⟩ := σ
  cases no with
  | true =>
    rw [ak_no]
    clear ih hg hs hlen hF
    simp only [akB, aggD, Qap, Jl, List.map_cons, List.map_nil, Pt.kind_mk, Pt.num_mk, Pt.at_mk, Pt.sub_mk, Pt.t_mk, Tm.kind_mk, Tm.num_mk, Tm.sub_mk]
    refine PCalls.enter Tryz.func83 rfl Tryz.ntmps83 (by simp) ?_
    simp only [Qab]
    refine go_ ?_
    refine Jd ?_
    intro i0 hi0
    try simp only [Ja, Rh, Rg, Jb] at hi0
    refine go_ ?_
    refine Jd ?_
    intro i1 hi1
    try simp only [Ja, Rh, Rg, Jb] at hi1
    refine go_ ?_
    refine Jm (st' := (.box b 130 [.d (.sl (B.map encD)), .d (.v (.bool false)), .d (.v (.bool true)), V, T, .d (.v (.bool stuck))] :: L)) (by simp) (by simp only [Tryz.results83]; rfl) (by simp [resP, St.box?, PF.get, Jn, TyK.agg, *]; rfl) (by repeat (first | exact List.Sublist.refl _ | exact List.nil_sublist _ | refine List.Sublist.cons_cons _ ?_ | refine List.Sublist.cons _ ?_)) ?_
    exact ⟨rfl, L, V, T, rfl, hv⟩
  | false =>
  cases stuck with
  | true =>
    rw [ak_st]
    clear ih hg hs hlen hF
    simp only [akB, aggD, Qap, Jl, List.map_cons, List.map_nil, Pt.kind_mk, Pt.num_mk, Pt.at_mk, Pt.sub_mk, Pt.t_mk, Tm.kind_mk, Tm.num_mk, Tm.sub_mk]
    refine PCalls.enter Tryz.func83 rfl Tryz.ntmps83 (by simp) ?_
    simp only [Qab]
    refine go_ ?_
    refine Jd ?_
    intro i0 hi0
    try simp only [Ja, Rh, Rg, Jb] at hi0
    refine go_ ?_
    refine Jd ?_
    intro i1 hi1
    try simp only [Ja, Rh, Rg, Jb] at hi1
    refine go_ ?_
    refine Jm (st' := (.box b 130 [.d (.sl (B.map encD)), .d (.v (.bool false)), .d (.v (.bool false)), V, T, .d (.v (.bool true))] :: L)) (by simp) (by simp only [Tryz.results83]; rfl) (by simp [resP, St.box?, PF.get, Jn, TyK.agg, *]; rfl) (by repeat (first | exact List.Sublist.refl _ | exact List.nil_sublist _ | refine List.Sublist.cons_cons _ ?_ | refine List.Sublist.cons _ ?_)) ?_
    exact ⟨rfl, L, V, T, rfl, hv⟩
  | false =>
  by_cases k3 : k = 3
  · subst k3
    rw [ak_3]
    clear ih hg hs hlen hF
    simp only [akB, aggD, Qap, Jl, List.map_cons, List.map_nil, Pt.kind_mk, Pt.num_mk, Pt.at_mk, Pt.sub_mk, Pt.t_mk, Tm.kind_mk, Tm.num_mk, Tm.sub_mk]
    refine PCalls.enter Tryz.func83 rfl Tryz.ntmps83 (by simp) ?_
    simp only [Qab]
    refine go_ ?_
    refine Jd ?_
    intro i0 hi0
    try simp only [Ja, Rh, Rg, Jb] at hi0
    refine go_ ?_
    refine Jd ?_
    intro i1 hi1
    try simp only [Ja, Rh, Rg, Jb] at hi1
    refine go_ ?_
    refine Jm (st' := (.box b 130 [.d (.sl (B.map encD)), .d (.v (.bool false)), .d (.v (.bool false)), V, T, .d (.v (.bool false))] :: L)) (by simp) (by simp only [Tryz.results83]; rfl) (by simp [resP, St.box?, PF.get, Jn, TyK.agg, *]; rfl) (by repeat (first | exact List.Sublist.refl _ | exact List.nil_sublist _ | refine List.Sublist.cons_cons _ ?_ | refine List.Sublist.cons _ ?_)) ?_
    exact ⟨rfl, L, V, T, rfl, hv⟩
  by_cases k1 : k = 1
  · subst k1
    rw [ak_1]
    simp only [akB]
    rcases hv with ⟨h1, h2, rfl, rfl, rfl⟩ | ⟨g, i, c, X, h1, h2, rfl, rfl, rfl, h3⟩
    · simp only at h1 h2
      subst h1 h2
      exact (askV0_p b B n a sub d t).permOut fun p s ⟨e, s', hp, L, V, T, e2, h⟩ => ⟨s', hp, e, L, V, T, e2, h⟩
    · simp only at h1 h2 h3 hlen ⊢
      exact (askV1_p b B n a sub d t vars terms g i c X h1 h2 (by omega) h3).permOut fun p s ⟨e, s', hp, L, V, T, e2, h⟩ => ⟨s', hp, e, L, V, T, e2, h⟩
  by_cases k4 : k = 4
  · subst k4
    rw [ak_4]
    clear ih hg hs hlen hF
    simp only [akB, aggD, Qap, Jl, List.map_cons, List.map_nil, Pt.kind_mk, Pt.num_mk, Pt.at_mk, Pt.sub_mk, Pt.t_mk, Tm.kind_mk, Tm.num_mk, Tm.sub_mk]
    refine PCalls.enter Tryz.func83 rfl Tryz.ntmps83 (by simp) ?_
    simp only [Qab]
    refine go_ ?_
    refine Jd ?_
    intro i0 hi0
    try simp only [Ja, Rh, Rg, Jb] at hi0
    refine go_ ?_
    refine Jd ?_
    intro i1 hi1
    try simp only [Ja, Rh, Rg, Jb] at hi1
    refine go_ ?_
    refine Rd ?_
    refine go_ ?_
    refine Jm (st' := (.box b 130 [.d (.sl (B.map encD)), .d (.v (.bool false)), .d (.v (.bool true)), V, T, .d (.v (.bool false))] :: L)) (by simp) (by simp only [Tryz.results83]; rfl) (by simp [resP, St.box?, PF.get, Jn, TyK.agg, *]; rfl) (by repeat (first | exact List.Sublist.refl _ | exact List.nil_sublist _ | refine List.Sublist.cons_cons _ ?_ | refine List.Sublist.cons _ ?_)) ?_
    exact ⟨rfl, L, V, T, rfl, hv⟩
  have k2 : k = 2 := by
    by_cases k2 : k = 2
    · exact k2
    · simp only [pgT] at hg
      rw [if_neg k1, if_neg k3, if_neg k4, if_neg k2] at hg; cases hg
  subst k2
  clear k1 k3 k4
  obtain ⟨har, hgs⟩ := pg_con2 hg
  have hSp := Lib.hid (tSpine_p t hs)
  have hsa := Lib.hid (Qjo _ t (Nat.le_refl _) hs)
  have hfu : Hid (Qfw B t = (((Qbo t).kind == 6) && (decide (0 ≤ arN B (Qbo t).num) && (((Qbr t).length : Int) == (parN B (Qbo t).num : Int) + arN B (Qbo t).num)))) := rfl
  have hA := Lib.hid (parity_p B (Qbo t).num hF)
  by_cases c1 : (Qbo t).kind = 6
  rotate_left
  · have hf : Qfw B t = false := by rw [hfu.out, beq_eq_false_iff_ne.2 c1]; rfl
    rw [ak_2n hf]
    have c1b : ((Qbo t).kind != 6) = true := bne_iff_ne.2 c1
    generalize Qbo t = h at *
    generalize Qbr t = ag at *
    clear ih hg hs hlen hF har hgs hfu hf c1 hA hsa
    simp only [akB, aggD, Qap, Jl, List.map_cons, List.map_nil, Pt.kind_mk, Pt.num_mk, Pt.at_mk, Pt.sub_mk, Pt.t_mk, Tm.kind_mk, Tm.num_mk, Tm.sub_mk] at hSp ⊢
    refine PCalls.enter Tryz.func83 rfl Tryz.ntmps83 (by simp) ?_
    simp only [Qab]
    refine go_ ?_
    refine Jd ?_
    intro i0 hi0
    try simp only [Ja, Rh, Rg, Jb] at hi0
    refine go_ ?_
    refine Jd ?_
    intro i1 hi1
    try simp only [Ja, Rh, Rg, Jb] at hi1
    refine go_ ?_
    refine Jc (hSp.out) ?_
    refine go_ ?_
    refine Je ?_
    intro i2 hi2
    try simp only [Ja, Rh, Rg, Jb] at hi2
    refine go_ ?_
    refine Rd ?_
    refine go_ ?_
    refine Qan [(0, .a), (1, .b), (2, .a), (3, .a), (4, .a), (5, .a), (6, .a), (7, .b), (8, .a), (9, .b), (10, .a), (11, .a), (12, .a), (13, .a), (14, .a), (15, .a), (16, .a), (17, .a), (18, .a), (19, .b), (20, .a), (21, .b), (22, .a), (23, .a), (24, .a), (25, .a), (26, .a), (27, .a), (28, .b), (29, .a), (30, .b), (31, .a), (32, .a), (33, .a), (34, .a)] (by kernel_rfl) (by rfl) (by kernel_rfl) ?_
    refine go_ ?_
    refine Rd ?_
    refine go_ ?_
    refine Jm (st' := (.box b 130 [.d (.sl (B.map encD)), .d (.v (.bool false)), .d (.v (.bool false)), V, T, .d (.v (.bool true))] :: L)) (by simp) (by simp only [Tryz.results83]; rfl) (by simp [resP, St.box?, PF.get, Jn, TyK.agg, *]; rfl) (by repeat (first | exact List.Sublist.refl _ | exact List.nil_sublist _ | refine List.Sublist.cons_cons _ ?_ | refine List.Sublist.cons _ ?_)) ?_
    exact ⟨rfl, L, V, T, rfl, hv⟩
  by_cases c2 : 0 ≤ arN B (Qbo t).num
  rotate_left
  · have hf : Qfw B t = false := by rw [hfu.out, decide_eq_false c2]; simp
    rw [ak_2n hf]
    have c2b : arN B (Qbo t).num < 0 := by omega
    generalize arN B (Qbo t).num = q at *
    generalize Qbo t = h at *
    generalize Qbr t = ag at *
    clear ih hg hs hlen hF har hgs hfu hf c2 hsa
    simp only [akB, aggD, Qap, Jl, List.map_cons, List.map_nil, Pt.kind_mk, Pt.num_mk, Pt.at_mk, Pt.sub_mk, Pt.t_mk, Tm.kind_mk, Tm.num_mk, Tm.sub_mk] at hSp ⊢
    refine PCalls.enter Tryz.func83 rfl Tryz.ntmps83 (by simp) ?_
    simp only [Qab]
    refine go_ ?_
    refine Jd ?_
    intro i0 hi0
    try simp only [Ja, Rh, Rg, Jb] at hi0
    refine go_ ?_
    refine Jd ?_
    intro i1 hi1
    try simp only [Ja, Rh, Rg, Jb] at hi1
    refine go_ ?_
    refine Jc (hSp.out) ?_
    refine go_ ?_
    refine Je ?_
    intro i2 hi2
    try simp only [Ja, Rh, Rg, Jb] at hi2
    refine go_ ?_
    refine Rd ?_
    refine go_ ?_
    refine Qan [(0, .a), (1, .b), (2, .a), (3, .a), (4, .a), (5, .a), (6, .a), (7, .b), (8, .a), (9, .b), (10, .a), (11, .a), (12, .a), (13, .a), (14, .a), (15, .a), (16, .a), (17, .a), (18, .a), (19, .b), (20, .a), (21, .b), (22, .a), (23, .a), (24, .a), (25, .a), (26, .a), (27, .a), (28, .b), (29, .a), (30, .b), (31, .a), (32, .a), (33, .a), (34, .a)] (by kernel_rfl) (by rfl) (by kernel_rfl) ?_
    refine go_ ?_
    refine Qas (hA.out) ?_
    refine go_ ?_
    refine Rd ?_
    refine go_ ?_
    refine Jm (st' := (.box b 130 [.d (.sl (B.map encD)), .d (.v (.bool false)), .d (.v (.bool false)), V, T, .d (.v (.bool true))] :: L)) (by simp) (by simp only [Tryz.results83]; rfl) (by simp [resP, St.box?, PF.get, Jn, TyK.agg, *]; rfl) (by repeat (first | exact List.Sublist.refl _ | exact List.nil_sublist _ | refine List.Sublist.cons_cons _ ?_ | refine List.Sublist.cons _ ?_)) ?_
    exact ⟨rfl, L, V, T, rfl, hv⟩
  obtain ⟨i, x, hi, hil, hx0, hk2⟩ := arN_get c2
  obtain ⟨h1, h2, h3, h4, h5⟩ := parN_at hF hx0 hk2
  have hx : (B.map encD)[i]? = some (encD x) := by rw [List.getElem?_map, hx0]; rfl
  obtain ⟨m, hm⟩ : ∃ m, m = parN B i := ⟨_, rfl⟩
  rw [hi, ← hm] at hfu
  rw [← hm] at h1 h2 h3 h4
  obtain ⟨q, hq⟩ : ∃ q, q = arN B (Qbo t).num := ⟨_, rfl⟩
  rw [hi] at hq
  rw [← hq] at hfu
  rw [hi] at hA c2
  rw [← hq] at h3 hA c2
  have hw : IntKind.i64.wrap ((m : Int) + q) = (m : Int) + q := wr64 (by omega) (by omega)
  have hc0 : (i : Int) < B.length := by omega
  have hn0 : (0 : Int) ≤ i := by omega
  have c2b : ¬ q < 0 := by omega
  have hpm : x.pars = (m : Int) := h1
  by_cases c3 : ((Qbr t).length : Int) = (m : Int) + q
  rotate_left
  · have hf : Qfw B t = false := by rw [hfu.out, beq_eq_false_iff_ne.2 c3]; simp
    rw [ak_2n hf]
    have c3b : (((Qbr t).length : Int) != (m : Int) + q) = true := bne_iff_ne.2 c3
    generalize Qbo t = h at *
    obtain ⟨hk, hn, hsb⟩ := h
    simp only [Tm.kind_mk, Tm.num_mk] at hi c1
    subst hi c1
    generalize Qbr t = ag at *
    clear ih hg hs hlen hF har hgs hfu hf c3 hsa hx0 hil h1 h2 h3 h4 h5 hm hq hk2
    simp only [akB, aggD, Qap, Jl, List.map_cons, List.map_nil, Pt.kind_mk, Pt.num_mk, Pt.at_mk, Pt.sub_mk, Pt.t_mk, Tm.kind_mk, Tm.num_mk, Tm.sub_mk] at hSp ⊢
    refine PCalls.enter Tryz.func83 rfl Tryz.ntmps83 (by simp) ?_
    simp only [Qab]
    refine go_ ?_
    refine Jd ?_
    intro i0 hi0
    try simp only [Ja, Rh, Rg, Jb] at hi0
    refine go_ ?_
    refine Jd ?_
    intro i1 hi1
    try simp only [Ja, Rh, Rg, Jb] at hi1
    refine go_ ?_
    refine Jc (hSp.out) ?_
    refine go_ ?_
    refine Je ?_
    intro i2 hi2
    try simp only [Ja, Rh, Rg, Jb] at hi2
    refine go_ ?_
    refine Rd ?_
    refine go_ ?_
    refine Qan [(0, .a), (1, .b), (2, .a), (3, .a), (4, .a), (5, .a), (6, .a), (7, .b), (8, .a), (9, .b), (10, .a), (11, .a), (12, .a), (13, .a), (14, .a), (15, .a), (16, .a), (17, .a), (18, .a), (19, .b), (20, .a), (21, .b), (22, .a), (23, .a), (24, .a), (25, .a), (26, .a), (27, .a), (28, .b), (29, .a), (30, .b), (31, .a), (32, .a), (33, .a), (34, .a)] (by kernel_rfl) (by rfl) (by kernel_rfl) ?_
    refine go_ ?_
    refine Qas (hA.out) ?_
    refine go_ ?_
    refine Qas (hA.out) ?_
    refine go_ ?_
    refine Rd ?_
    refine go_ ?_
    refine Jm (st' := (.box b 130 [.d (.sl (B.map encD)), .d (.v (.bool false)), .d (.v (.bool false)), V, T, .d (.v (.bool true))] :: L)) (by simp) (by simp only [Tryz.results83]; rfl) (by simp [resP, St.box?, PF.get, Jn, TyK.agg, *]; rfl) (by repeat (first | exact List.Sublist.refl _ | exact List.nil_sublist _ | refine List.Sublist.cons_cons _ ?_ | refine List.Sublist.cons _ ?_)) ?_
    exact ⟨rfl, L, V, T, rfl, hv⟩
  have c3b : (((Qbr t).length : Int) != (m : Int) + q) = false := by rw [c3]; simp
  have hf : Qfw B t = true := by rw [hfu.out, c1, decide_eq_true c2, c3]; simp
  by_cases c4 : (i : Int) = n
  rotate_left
  · rw [ak_2o hf (by rw [hi]; exact c4)]
    have c4b : ((i : Int) != n) = true := bne_iff_ne.2 c4
    generalize Qbo t = h at *
    obtain ⟨hk, hn, hsb⟩ := h
    simp only [Tm.kind_mk, Tm.num_mk] at hi c1
    subst hi c1
    generalize Qbr t = ag at *
    clear ih hg hs hlen hF har hgs hfu hf c3 hsa hx0 hil h1 h2 h3 h4 h5 hm hq hk2 c4
    simp only [akB, aggD, Qap, Jl, List.map_cons, List.map_nil, Pt.kind_mk, Pt.num_mk, Pt.at_mk, Pt.sub_mk, Pt.t_mk, Tm.kind_mk, Tm.num_mk, Tm.sub_mk] at hSp ⊢
    refine PCalls.enter Tryz.func83 rfl Tryz.ntmps83 (by simp) ?_
    simp only [Qab]
    refine go_ ?_
    refine Jd ?_
    intro i0 hi0
    try simp only [Ja, Rh, Rg, Jb] at hi0
    refine go_ ?_
    refine Jd ?_
    intro i1 hi1
    try simp only [Ja, Rh, Rg, Jb] at hi1
    refine go_ ?_
    refine Jc (hSp.out) ?_
    refine go_ ?_
    refine Je ?_
    intro i2 hi2
    try simp only [Ja, Rh, Rg, Jb] at hi2
    refine go_ ?_
    refine Rd ?_
    refine go_ ?_
    refine Qan [(0, .a), (1, .b), (2, .a), (3, .a), (4, .a), (5, .a), (6, .a), (7, .b), (8, .a), (9, .b), (10, .a), (11, .a), (12, .a), (13, .a), (14, .a), (15, .a), (16, .a), (17, .a), (18, .a), (19, .b), (20, .a), (21, .b), (22, .a), (23, .a), (24, .a), (25, .a), (26, .a), (27, .a), (28, .b), (29, .a), (30, .b), (31, .a), (32, .a), (33, .a), (34, .a)] (by kernel_rfl) (by rfl) (by kernel_rfl) ?_
    refine go_ ?_
    refine Qas (hA.out) ?_
    refine go_ ?_
    refine Qas (hA.out) ?_
    refine go_ ?_
    refine Rd ?_
    refine go_ ?_
    refine Jm (st' := (.box b 130 [.d (.sl (B.map encD)), .d (.v (.bool false)), .d (.v (.bool true)), V, T, .d (.v (.bool false))] :: L)) (by simp) (by simp only [Tryz.results83]; rfl) (by simp [resP, St.box?, PF.get, Jn, TyK.agg, *]; rfl) (by repeat (first | exact List.Sublist.refl _ | exact List.nil_sublist _ | refine List.Sublist.cons_cons _ ?_ | refine List.Sublist.cons _ ?_)) ?_
    exact ⟨rfl, L, V, T, rfl, hv⟩
  subst c4
  rw [ak_2y hf hi, ← hm]
  have c4b : ((i : Int) != (i : Int)) = false := by simp
  rw [← hq] at har
  obtain ⟨R, hR⟩ : ∃ R, R = akL B sub ((Qbr t).drop m) ⟨false, false, vars, terms⟩ := ⟨_, rfl⟩
  rw [← hR]
  generalize Qbo t = h at *
  obtain ⟨hk, hn, hsb⟩ := h
  simp only [Tm.kind_mk, Tm.num_mk] at hi c1
  subst hi c1
  generalize Qbr t = ag at *
  have hR0 : Hid (R = akL B (sub.drop 0) (ag.drop (m + 0)) ⟨false, false, vars, terms⟩) := hR
  have hagl : Hid (ag.length = m + sub.length) := by show _ = _; omega
  have hm24 : m ≤ 24 := h2
  have hs24 : sub.length ≤ 24 := by omega
  have IH := Lib.hid ih
  have HG := Lib.hid hgs
  have hV := Lib.hid hv
  simp only [pndT] at hlen
  have hlen0 : Hid (terms.length + pndL (sub.drop 0) ≤ 100000) := by show _ ≤ _; rw [List.drop_zero]; omega
  clear ih hg hs hlen hF hgs hfu hf c3 hx0 hil h1 h2 h3 h4 h5 hm hq hk2 hR hv har
  simp only [akB, aggD, Qap, Jl, List.map_cons, List.map_nil, Pt.kind_mk, Pt.num_mk, Pt.at_mk, Pt.sub_mk, Pt.t_mk, Tm.kind_mk, Tm.num_mk, Tm.sub_mk] at hSp ⊢
  refine PCalls.enter Tryz.func83 rfl Tryz.ntmps83 (by simp) ?_
  simp only [Qab]
  refine go_ ?_
  refine Jd ?_
  intro i0 hi0
  try simp only [Ja, Rh, Rg, Jb] at hi0
  refine go_ ?_
  refine Jd ?_
  intro i1 hi1
  try simp only [Ja, Rh, Rg, Jb] at hi1
  refine go_ ?_
  refine Jc (hSp.out) ?_
  refine go_ ?_
  refine Je ?_
  intro i2 hi2
  try simp only [Ja, Rh, Rg, Jb] at hi2
  refine go_ ?_
  refine Rd ?_
  refine go_ ?_
  refine Qan [(0, .a), (1, .b), (2, .a), (3, .a), (4, .a), (5, .a), (6, .a), (7, .b), (8, .a), (9, .b), (10, .a), (11, .a), (12, .a), (13, .a), (14, .a), (15, .a), (16, .a), (17, .a), (18, .a), (19, .b), (20, .a), (21, .b), (22, .a), (23, .a), (24, .a), (25, .a), (26, .a), (27, .a), (28, .b), (29, .a), (30, .b), (31, .a), (32, .a), (33, .a), (34, .a)] (by kernel_rfl) (by rfl) (by kernel_rfl) ?_
  refine go_ ?_
  refine Qas (hA.out) ?_
  refine go_ ?_
  refine Qas (hA.out) ?_
  refine go_ ?_
  refine Qak (ι := Nat × Ak × St × PV × PV) (fun y => y.1 ≤ sub.length ∧ Hid (akV y.2.1 y.2.2.1 y.2.2.2.1 y.2.2.2.2) ∧ Hid (y.2.1.terms.length + pndL (sub.drop y.1) ≤ 100000) ∧ Hid (R = akL B (sub.drop y.1) (ag.drop (m + y.1)) y.2.1)) (fun y => [(0, .ptr b 0), (6, .ptr i2 0), (7, .d (.sl (ag.map encD))), (119, .d (.sl (sub.map encD))), (120, .d (.v (.int .i64 (sub.length : Int)))), (121, .d (.v (.int .i64 (y.1 : Int))))]) (fun y => .box i2 26 [.d (.v (.int .i64 6)), .d (.v (.int .i64 (i : Int))), .d (.sl (hsb.map encD))] :: .box b 130 [.d (.sl (B.map encD)), .d (.v (.bool false)), .d (.v (.bool y.2.1.no)), y.2.2.2.1, y.2.2.2.2, .d (.v (.bool y.2.1.stuck))] :: y.2.2.1) (fun y => sub.length - y.1) (0, ⟨false, false, vars, terms⟩, L, V, T) ⟨Nat.zero_le _, hV, hlen0, hR0⟩ ?_ ?_ ?_
  · repeat (first | exact Jt _ | refine Js (by simp [PF.get]; rfl) (by first | rfl | (simp [*]; done) | fail) ?_)
  · repeat (first | exact List.Sublist.refl _ | exact List.nil_sublist _ | refine List.Sublist.cons_cons _ ?_ | refine List.Sublist.cons _ ?_)
  rintro ⟨k, τ, L1, V1, T1⟩ ⟨hk, hv, hl, hR⟩
  simp only at hk hv hl hR ⊢
  clear hR0 hlen0 hV
  by_cases hlt : k < sub.length
  · obtain ⟨w, hw2⟩ : ∃ w, w = m + k := ⟨_, rfl⟩
    have hwl : w < ag.length := by rw [hagl.out]; omega
    have hxs := Qal hlt
    have hxa := Qal hwl
    have hc : (k : Int) < sub.length := by omega
    have hn1 : (0 : Int) ≤ k := by omega
    have hin := wr64 (n := (k : Int) + 1) (by omega) (by omega)
    have hwm : IntKind.i64.wrap ((m : Int) + k) = (w : Int) := by rw [wr64 (by omega) (by omega)]; omega
    have hcw : (w : Int) < ag.length := by omega
    have hnw : (0 : Int) ≤ w := by omega
    have hl2 := hl.out
    rw [List.drop_eq_getElem_cons hlt] at hl2
    simp only [pndL] at hl2
    have hc1 := Lib.hid (IH.out _ (List.getElem_mem hlt) (HG.out _ (List.getElem_mem hlt)) ag[w] τ L1 V1 T1 (hsa.out _ (List.getElem_mem hwl)) hv.out (by omega))
    have hlen3 := ak_len (l := B) sub[k] ag[w] τ
    have hR2 : Hid (R = akL B (sub.drop (k + 1)) (ag.drop (m + (k + 1))) (akT B sub[k] ag[w] τ)) := by
      show _ = _
      rw [show R = _ from hR.out, List.drop_eq_getElem_cons hlt, ← hw2, List.drop_eq_getElem_cons hwl]
      simp only [akL]
      rw [show m + (k + 1) = w + 1 from by omega]
    obtain ⟨τ2, hτ⟩ : ∃ τ2, τ2 = akT B sub[k] ag[w] τ := ⟨_, rfl⟩
    rw [← hτ] at hc1 hR2 hlen3
    have hlen4 : Hid (τ2.terms.length + pndL (sub.drop (k + 1)) ≤ 100000) := by show _ ≤ _; omega
    obtain ⟨s1, hs1⟩ : ∃ s1, s1 = sub[k] := ⟨_, rfl⟩
    obtain ⟨a1, ha1⟩ : ∃ a1, a1 = ag[w] := ⟨_, rfl⟩
    rw [← hs1] at hxs hc1
    rw [← ha1] at hxa hc1
    simp only [akB, aggD, Qap, Jl, List.map_cons, List.map_nil] at hc1
    have hkl := Lib.hid hlt
    clear hR hτ hs1 ha1 hl hl2 hlen3 hlt hwl hw2 hsa
    refine go_ ?_
    refine Je ?_
    intro i3 hi3
    try simp only [Ja, Rh, Rg, Jb] at hi3
    refine go_ ?_
    refine Rd ?_
    refine go_ ?_
    refine Qan [(0, .a), (1, .b), (2, .a), (3, .a), (4, .a), (5, .a), (6, .b), (7, .a), (8, .b), (9, .a), (10, .a), (11, .a), (12, .a), (13, .a), (14, .a), (15, .a), (16, .e)] (by kernel_rfl) (by rfl) (by kernel_rfl) ?_
    refine go_ ?_
    refine Qev 2 (L1.length + 1) hc1.out ?_ (M := []) (h0 := by simp) (hM := by simp)
    rintro _ _ ⟨rfl, L2, V2, T2, rfl, hv2⟩
    simp only [List.cons_append, List.nil_append, List.append_nil, Ja, Rh, Rg]
    refine go_ ?_
    refine ⟨(k + 1, τ2, L2, V2, T2), ⟨hkl.out, hv2, hlen4, hR2⟩, by have := hkl.out; simp only; omega, by repeat (first | exact Jt _ | refine Js (by simp [PF.get]; rfl) (by first | rfl | (simp [*]; done) | fail) ?_), by repeat (first | exact List.Sublist.refl _ | exact List.nil_sublist _ | refine List.Sublist.cons_cons _ ?_ | refine List.Sublist.cons _ ?_)⟩
  · have hc : ¬ (k : Int) < sub.length := by omega
    have hf : R = τ := by rw [show R = _ from hR.out, List.drop_of_length_le (by omega)]; cases ag.drop (m + k) <;> rfl
    clear hR
    subst hf
    refine go_ ?_
    refine Jm (st' := (.box b 130 [.d (.sl (B.map encD)), .d (.v (.bool false)), .d (.v (.bool R.no)), V1, T1, .d (.v (.bool R.stuck))] :: L1)) (by simp) (by simp only [Tryz.results83]; rfl) (by simp [resP, St.box?, PF.get, Jn, TyK.agg, *]; rfl) (by repeat (first | exact List.Sublist.refl _ | exact List.nil_sublist _ | refine List.Sublist.cons_cons _ ?_ | refine List.Sublist.cons _ ?_)) ?_
    exact ⟨rfl, L1, V1, T1, rfl, hv.out⟩
theorem chosen_p (vs : List Tm) : ∀ t : Tm, Qaj t = true → cndT t ≤ 100000 → PCalls Tryz.prog 28 [.d (.sl (vs.map encD)), aggD t] [] fun p s => p = aggD (chT vs t) ∧ s = [] := by
 refine Tm.ind ?_
 intro k n sub ih hg hnd
 obtain ⟨hh, hgs⟩ := Qcs hg
 have hns : cndL sub ≤ 100000 := by simp only [cndT] at hnd; omega
 have hsl : sub.length ≤ 100000 := Nat.le_trans (Qgd sub) hns
 have IH : Hid (∀ s ∈ sub, PCalls Tryz.prog 28 [.d (.sl (vs.map encD)), aggD s] [] fun p st => p = aggD (chT vs s) ∧ st = []) := fun s hs => ih s hs (hgs s hs) (by have := cnd_mem s hs; omega)
 by_cases h8 : k = 8 ∧ n < vs.length
 ·obtain ⟨rfl, hn⟩ := h8
  have hn0 : 0 ≤ n := by
   rw [head_mk] at hh
   exact (of_decide_eq_true hh).2.2.2.1
  obtain ⟨i, rfl⟩ := Int.eq_ofNat_of_zero_le hn0
  have hil : i < vs.length := by omega
  rw [ch_var hn, Int.toNat_natCast, List.getElem?_eq_getElem hil, Option.getD_some]
  have hx := Qal hil
  obtain ⟨v, hv⟩ : ∃ v, v = vs[i] := ⟨_, rfl⟩
  rw [← hv] at hx ⊢
  clear ih hg hnd hh hgs hns hsl IH hv hil
  simp only [aggD, Jl, List.map_cons, List.map_nil, Tm.kind_mk, Tm.num_mk, Tm.sub_mk] at hx ⊢
  refine PCalls.enter Tryz.func28 rfl Tryz.ntmps28 (by simp) ?_
  simp only [Qab]
  refine go_ ?_
  refine Jd ?_
  intro i0 hi0
  try simp only [Ja, Rh, Rg, Jb] at hi0
  refine go_ ?_
  refine Je ?_
  intro i1 hi1
  try simp only [Ja, Rh, Rg, Jb] at hi1
  refine go_ ?_
  refine Rd ?_
  refine go_ ?_
  refine Jm (by simp) (by simp only [Tryz.results28]; rfl) (by simp [resP, St.box?, PF.get, Jn, TyK.agg, *]; rfl) Nl ?_
  exact ⟨rfl, rfl⟩
 have e : chT vs (.mk k n sub) = .mk k n (sub.map (chT vs)) := by simp only [chT, chL_map]; rw [if_neg h8]
 rw [e]
 obtain ⟨S, hS⟩ : ∃ S, S = sub.map (chT vs) := ⟨_, rfl⟩
 rw [← hS]
 have hSl : S.length = sub.length := by rw [hS, List.length_map]
 have HS2 : Hid (∀ (j : Nat) (h : j < sub.length) (h2 : j < S.length), S[j] = chT vs sub[j]) := fun j h h2 => by subst hS; rw [List.getElem_map]
 simp only [aggD, Jl, List.map_cons, List.map_nil, Tm.kind_mk, Tm.num_mk, Tm.sub_mk]
 clear ih hnd hns hg hh hgs e hS
 by_cases k8 : k = 8
 ·have hn8 : ¬ n < vs.length := fun h => h8 ⟨k8, h⟩
  subst k8
  clear h8
  refine PCalls.enter Tryz.func28 rfl Tryz.ntmps28 (by simp) ?_
  simp only [Qab]
  refine go_ ?_
  refine Jd ?_
  intro i0 hi0
  try simp only [Ja, Rh, Rg, Jb] at hi0
  refine go_ ?_
  refine Je ?_
  intro i1 hi1
  try simp only [Ja, Rh, Rg, Jb] at hi1
  refine go_ ?_
  refine Je ?_
  intro i2 hi2
  try simp only [Ja, Rh, Rg, Jb] at hi2
  refine go_ ?_
  refine Rd ?_
  refine gs_ ?_
  refine Qhf i2 2 26 3 (by simp [nev, nevA, nevB, Jp, PF.eval, PF.get, PF.wants, cPV, Qae, PV.rows, Qaf, evUn, Jq, Qah, Qag, Jn, TyK.agg, Qad, St.box?, St.tok?, St.setBox, St.setTok, Qac, spl, PV.ps, PV.one, Jo, aggD, slD, Jh, Jk, Ji, Jj, Jg, Jf, *]; rfl) (by rfl) (by rfl) (by intro g; simp [St.setBox, *]; rfl) (by decide) ?_
  intro g hg
  refine go_ ?_
  refine Qak (ι := Nat) (fun y => y ≤ sub.length) (fun y => [(0, .d (.sl (vs.map encD))), (3, .ptr i0 0), (4, .ptr i1 0), (5, .ptr i2 0), (6, .d (.v (.int .i64 (y : Int))))]) (fun y => [.tok g 26 3 y, .box i2 26 [.d (.v (.int .i64 8)), .d (.v (.int .i64 n)), .own g ((S.map encD).take y)], .box i1 26 [.d (.v (.int .i64 0)), .d (.v (.int .i64 0)), .nils], .box i0 26 [.d (.v (.int .i64 8)), .d (.v (.int .i64 n)), .d (.sl (sub.map encD))]]) (fun y => sub.length - y) 0 (Nat.zero_le _) ?_ ?_ ?_
  ·repeat (first | exact Jt _ | refine Js (by simp [PF.get]; rfl) (by first | rfl | (simp [*]; done) | fail) ?_)
  ·repeat (first | exact List.Sublist.refl _ | exact List.nil_sublist _ | refine List.Sublist.cons_cons _ ?_ | refine List.Sublist.cons _ ?_)
  rintro j hj
  by_cases hlt : j < sub.length
  ·have hx := Qal hlt
   have hc : (j : Int) < sub.length := by omega
   have hn : (0 : Int) ≤ j := by omega
   have hin := wr64 (n := (j : Int) + 1) (by omega) (by omega)
   have hc1 := Lib.hid (IH.out _ (List.getElem_mem hlt))
   have hlS : j < S.length := by omega
   have hSj := HS2.out j hlt hlS
   have hT : (S.map encD).take (j + 1) = (S.map encD).take j ++ [encD S[j]] := by rw [← List.map_take, List.take_succ_eq_append_getElem hlS, List.map_append, List.map_take]; rfl
   rw [hSj] at hT
   have HT := Lib.hid hT
   obtain ⟨v, hv⟩ : ∃ v, v = chT vs sub[j] := ⟨_, rfl⟩
   obtain ⟨s1, hs1⟩ : ∃ s1, s1 = sub[j] := ⟨_, rfl⟩
   rw [← hv] at hc1 HT
   rw [← hs1] at hc1 hx
   have hkl := Lib.hid hlt
   have hlen : (S.take j).length = j := by rw [List.length_take]; omega
   clear hT hSj hv hs1 hlt hlS
   simp only [aggD, Jl, List.map_cons, List.map_nil] at hc1
   refine go_ ?_
   refine Qgp (J := Qcw [(i2, _), (i0, _)]) [(0, .a), (1, .a), (2, .a), (3, .a), (4, .a), (5, .a), (6, .a), (7, .a), (8, .a), (9, .a), (10, .e), (11, .a), (12, .e)] (by kernel_rfl) (by rfl) (by kernel_rfl) (by (repeat (first | exact Qam _ | refine Ju (by simp [St.box?, *] <;> rfl) ?_))) ?_
   repeat (first | with_reducible refine Qar ?_ | refine Qaq ?_ | refine Qax ?_ | refine Qaw ?_)
   refine Qcc (hc1.out) ?_
   repeat (first | with_reducible refine Qar ?_ | refine Qaq ?_ | refine Qax ?_ | refine Qaw ?_)
   refine PL_bs ?_ rfl (by decide) rfl (by simp; rfl) (by rfl) (by simp; rfl) (by rfl) (by decide) (by decide) (by simp [nev, nevA, nevB, Jp, PF.eval, PF.get, PF.wants, cPV, Qae, PV.rows, Qaf, evUn, Jq, Qah, Qag, Jn, TyK.agg, Qad, St.box?, St.tok?, St.setBox, St.setTok, Qac, spl, PV.ps, PV.one, Jo, aggD, slD, Jh, Jk, Ji, Jj, Jg, Jf, *]; rfl) (by simp [Qcd, toDs, PV.toD]; rfl)
   refine PL_app (j + 1) ?_ ?_ ?_ ?_ ?_
   rotate_left
   ·exact fun row h => Qdv S row (List.mem_of_mem_take h)
   ·exact Qbs rfl
   ·simp; omega
   ·exact .inr (by (repeat (first | exact Qam _ | refine Ju (by simp [St.box?, *] <;> rfl) ?_)))
   repeat (first | with_reducible refine Qar ?_ | refine Qaq ?_ | refine Qax ?_ | refine Qaw ?_)
   refine Qcl rfl rfl (by simp [nev, nevA, nevB, Jp, PF.eval, PF.get, PF.wants, cPV, Qae, PV.rows, Qaf, evUn, Jq, Qah, Qag, Jn, TyK.agg, Qad, St.box?, St.tok?, St.setBox, St.setTok, Qac, spl, PV.ps, PV.one, Jo, aggD, slD, Jh, Jk, Ji, Jj, Jg, Jf, *]; rfl) (by rfl) (by simp [nev, nevA, nevB, Jp, PF.eval, PF.get, PF.wants, cPV, Qae, PV.rows, Qaf, evUn, Jq, Qah, Qag, Jn, TyK.agg, Qad, St.box?, St.tok?, St.setBox, St.setTok, Qac, spl, PV.ps, PV.one, Jo, aggD, slD, Jh, Jk, Ji, Jj, Jg, Jf, *]; rfl) (by simp [PV.ps, aggD, slD, Jh, Jk, Ji, Jj, Jg, Jf]; rfl) (by first | rfl | (simp [*]; done) | (simp [PV.one, *]; done) | fail) (by simp; rfl) (by first | (simp; done) | fail) (by simp [nev, nevA, nevB, Jp, PF.eval, PF.get, PF.wants, cPV, Qae, PV.rows, Qaf, evUn, Jq, Qah, Qag, Jn, TyK.agg, Qad, St.box?, St.tok?, St.setBox, St.setTok, Qac, spl, PV.ps, PV.one, Jo, aggD, slD, Jh, Jk, Ji, Jj, Jg, Jf, *]; rfl) (by rfl) (by first | (simp; done) | fail) (by simp [St.setBox, spl, *]; rfl) (by first | exact .inl (by decide +kernel) | exact .inr (by (repeat (first | exact Qam _ | refine Ju (by simp [St.box?, *] <;> rfl) ?_)))) ?_
   repeat (first | with_reducible refine Qar ?_ | refine Qaq ?_ | refine Qax ?_ | refine Qaw ?_)
   refine go_ ?_
   refine ⟨j + 1, hkl.out, by have := hkl.out; omega, ?_, ?_⟩
   ·repeat (first | exact Jt _ | refine Js (by simp [PF.get]; rfl) (by first | rfl | (simp [*]; done) | fail) ?_)
   ·rw [HT.out]
    simp only [Jl]
    repeat (first | exact List.Sublist.refl _ | exact List.nil_sublist _ | refine List.Sublist.cons_cons _ ?_ | refine List.Sublist.cons _ ?_)
  ·have hc : ¬ (j : Int) < sub.length := by omega
   have hj2 : j = S.length := by omega
   subst hj2
   have htk : (S.map encD).take S.length = S.map encD := List.take_of_length_le (by simp)
   rw [htk]
   refine go_ ?_
   refine Rd ?_
   refine go_ ?_
   refine Jm (by simp) (by simp only [Tryz.results28]; rfl) (by simp [resP, St.box?, PF.get, Jn, TyK.agg, *]; rfl) Nl ?_
   exact ⟨by simp [tupP, PV.norm2, PV.norm1, PV.norm0], rfl⟩
 ·clear h8
  refine PCalls.enter Tryz.func28 rfl Tryz.ntmps28 (by simp) ?_
  simp only [Qab]
  refine go_ ?_
  refine Jd ?_
  intro i0 hi0
  try simp only [Ja, Rh, Rg, Jb] at hi0
  refine go_ ?_
  refine Je ?_
  intro i1 hi1
  try simp only [Ja, Rh, Rg, Jb] at hi1
  refine go_ ?_
  refine Je ?_
  intro i2 hi2
  try simp only [Ja, Rh, Rg, Jb] at hi2
  refine go_ ?_
  refine Rd ?_
  refine gs_ ?_
  refine Qhf i2 2 26 3 (by simp [nev, nevA, nevB, Jp, PF.eval, PF.get, PF.wants, cPV, Qae, PV.rows, Qaf, evUn, Jq, Qah, Qag, Jn, TyK.agg, Qad, St.box?, St.tok?, St.setBox, St.setTok, Qac, spl, PV.ps, PV.one, Jo, aggD, slD, Jh, Jk, Ji, Jj, Jg, Jf, *]; rfl) (by rfl) (by rfl) (by intro g; simp [St.setBox, *]; rfl) (by decide) ?_
  intro g hg
  refine go_ ?_
  refine Qak (ι := Nat) (fun y => y ≤ sub.length) (fun y => [(0, .d (.sl (vs.map encD))), (3, .ptr i0 0), (4, .ptr i1 0), (5, .ptr i2 0), (6, .d (.v (.int .i64 (y : Int))))]) (fun y => [.tok g 26 3 y, .box i2 26 [.d (.v (.int .i64 k)), .d (.v (.int .i64 n)), .own g ((S.map encD).take y)], .box i1 26 [.d (.v (.int .i64 0)), .d (.v (.int .i64 0)), .nils], .box i0 26 [.d (.v (.int .i64 k)), .d (.v (.int .i64 n)), .d (.sl (sub.map encD))]]) (fun y => sub.length - y) 0 (Nat.zero_le _) ?_ ?_ ?_
  ·repeat (first | exact Jt _ | refine Js (by simp [PF.get]; rfl) (by first | rfl | (simp [*]; done) | fail) ?_)
  ·repeat (first | exact List.Sublist.refl _ | exact List.nil_sublist _ | refine List.Sublist.cons_cons _ ?_ | refine List.Sublist.cons _ ?_)
  rintro j hj
  by_cases hlt : j < sub.length
  ·have hx := Qal hlt
   have hc : (j : Int) < sub.length := by omega
   have hn : (0 : Int) ≤ j := by omega
   have hin := wr64 (n := (j : Int) + 1) (by omega) (by omega)
   have hc1 := Lib.hid (IH.out _ (List.getElem_mem hlt))
   have hlS : j < S.length := by omega
   have hSj := HS2.out j hlt hlS
   have hT : (S.map encD).take (j + 1) = (S.map encD).take j ++ [encD S[j]] := by rw [← List.map_take, List.take_succ_eq_append_getElem hlS, List.map_append, List.map_take]; rfl
   rw [hSj] at hT
   have HT := Lib.hid hT
   obtain ⟨v, hv⟩ : ∃ v, v = chT vs sub[j] := ⟨_, rfl⟩
   obtain ⟨s1, hs1⟩ : ∃ s1, s1 = sub[j] := ⟨_, rfl⟩
   rw [← hv] at hc1 HT
   rw [← hs1] at hc1 hx
   have hkl := Lib.hid hlt
   have hlen : (S.take j).length = j := by rw [List.length_take]; omega
   clear hT hSj hv hs1 hlt hlS
   simp only [aggD, Jl, List.map_cons, List.map_nil] at hc1
   refine go_ ?_
   refine Qgp (J := Qcw [(i2, _), (i0, _)]) [(0, .a), (1, .a), (2, .a), (3, .a), (4, .a), (5, .a), (6, .a), (7, .a), (8, .a), (9, .a), (10, .e), (11, .a), (12, .e)] (by kernel_rfl) (by rfl) (by kernel_rfl) (by (repeat (first | exact Qam _ | refine Ju (by simp [St.box?, *] <;> rfl) ?_))) ?_
   repeat (first | with_reducible refine Qar ?_ | refine Qaq ?_ | refine Qax ?_ | refine Qaw ?_)
   refine Qcc (hc1.out) ?_
   repeat (first | with_reducible refine Qar ?_ | refine Qaq ?_ | refine Qax ?_ | refine Qaw ?_)
   refine PL_bs ?_ rfl (by decide) rfl (by simp; rfl) (by rfl) (by simp; rfl) (by rfl) (by decide) (by decide) (by simp [nev, nevA, nevB, Jp, PF.eval, PF.get, PF.wants, cPV, Qae, PV.rows, Qaf, evUn, Jq, Qah, Qag, Jn, TyK.agg, Qad, St.box?, St.tok?, St.setBox, St.setTok, Qac, spl, PV.ps, PV.one, Jo, aggD, slD, Jh, Jk, Ji, Jj, Jg, Jf, *]; rfl) (by simp [Qcd, toDs, PV.toD]; rfl)
   refine PL_app (j + 1) ?_ ?_ ?_ ?_ ?_
   rotate_left
   ·exact fun row h => Qdv S row (List.mem_of_mem_take h)
   ·exact Qbs rfl
   ·simp; omega
   ·exact .inr (by (repeat (first | exact Qam _ | refine Ju (by simp [St.box?, *] <;> rfl) ?_)))
   repeat (first | with_reducible refine Qar ?_ | refine Qaq ?_ | refine Qax ?_ | refine Qaw ?_)
   refine Qcl rfl rfl (by simp [nev, nevA, nevB, Jp, PF.eval, PF.get, PF.wants, cPV, Qae, PV.rows, Qaf, evUn, Jq, Qah, Qag, Jn, TyK.agg, Qad, St.box?, St.tok?, St.setBox, St.setTok, Qac, spl, PV.ps, PV.one, Jo, aggD, slD, Jh, Jk, Ji, Jj, Jg, Jf, *]; rfl) (by rfl) (by simp [nev, nevA, nevB, Jp, PF.eval, PF.get, PF.wants, cPV, Qae, PV.rows, Qaf, evUn, Jq, Qah, Qag, Jn, TyK.agg, Qad, St.box?, St.tok?, St.setBox, St.setTok, Qac, spl, PV.ps, PV.one, Jo, aggD, slD, Jh, Jk, Ji, Jj, Jg, Jf, *]; rfl) (by simp [PV.ps, aggD, slD, Jh, Jk, Ji, Jj, Jg, Jf]; rfl) (by first | rfl | (simp [*]; done) | (simp [PV.one, *]; done) | fail) (by simp; rfl) (by first | (simp; done) | fail) (by simp [nev, nevA, nevB, Jp, PF.eval, PF.get, PF.wants, cPV, Qae, PV.rows, Qaf, evUn, Jq, Qah, Qag, Jn, TyK.agg, Qad, St.box?, St.tok?, St.setBox, St.setTok, Qac, spl, PV.ps, PV.one, Jo, aggD, slD, Jh, Jk, Ji, Jj, Jg, Jf, *]; rfl) (by rfl) (by first | (simp; done) | fail) (by simp [St.setBox, spl, *]; rfl) (by first | exact .inl (by decide +kernel) | exact .inr (by (repeat (first | exact Qam _ | refine Ju (by simp [St.box?, *] <;> rfl) ?_)))) ?_
   repeat (first | with_reducible refine Qar ?_ | refine Qaq ?_ | refine Qax ?_ | refine Qaw ?_)
   refine go_ ?_
   refine ⟨j + 1, hkl.out, by have := hkl.out; omega, ?_, ?_⟩
   ·repeat (first | exact Jt _ | refine Js (by simp [PF.get]; rfl) (by first | rfl | (simp [*]; done) | fail) ?_)
   ·rw [HT.out]
    simp only [Jl]
    repeat (first | exact List.Sublist.refl _ | exact List.nil_sublist _ | refine List.Sublist.cons_cons _ ?_ | refine List.Sublist.cons _ ?_)
  ·have hc : ¬ (j : Int) < sub.length := by omega
   have hj2 : j = S.length := by omega
   subst hj2
   have htk : (S.map encD).take S.length = S.map encD := List.take_of_length_le (by simp)
   rw [htk]
   refine go_ ?_
   refine Rd ?_
   refine go_ ?_
   refine Jm (by simp) (by simp only [Tryz.results28]; rfl) (by simp [resP, St.box?, PF.get, Jn, TyK.agg, *]; rfl) Nl ?_
   exact ⟨by simp [tupP, PV.norm2, PV.norm1, PV.norm0], rfl⟩
theorem askN_p (B : List En) (hF : formedB B = true) (ho : ∀ e ∈ B, EnOk e) (p : Pt) (t : Tm) (hg : pgT B p = true) (hn : pndT p ≤ 8000) (hh : phgT p ≤ 128) (hs : Qai t = true) (vs : List Int) (ts : List Tm) (st : Bool) (hR : akT B p t ⟨false, false, [], []⟩ = ⟨true, st, vs, ts⟩) :
  PCalls Tryz.prog 29 [.d (.sl (B.map encD)), .d (.sl ([p].map encD)), .d (.sl ([t].map encD))] [] fun r s => r = .tup [.agg [.d (.v (.bool false)), .d (.v (.bool true)), .d (.sl []), .d (.sl [])], .d (.v (.int .i64 0))] ∧ s = [] := by
 have HF := Lib.hid (Qgy B ho)
 rw [hF] at HF
 have HG := Lib.hid (Qie B hF p)
 rw [hg] at HG
 have hSm := Lib.hid (Qhn p hn)
 rw [decide_eq_true hh] at hSm
 have hSh := Lib.hid (Qdc t)
 rw [hs] at hSh
 have HA : Hid (∀ b, _) := fun b => ask_p B hF b p hg t ⟨false, false, [], []⟩ [] .nils .nils hs (.inl ⟨rfl, rfl, rfl, rfl, rfl⟩) (by simp only [List.length_nil]; omega)
 have hw1 : IntKind.i64.wrap (0 + 1) = 1 := wr64 (by decide) (by decide)
 have hw2 : IntKind.i64.wrap 1 = 1 := wr64 (by decide) (by decide)
 have hl1 : (0 : Int) < 1 := by decide
 rw [hR] at HA
 clear hR hF ho hg hn hh hs
 simp only [akB, aggD, Qap, Jl, List.map_cons, List.map_nil] at HA HG hSm hSh ⊢
 refine PCalls.enter Tryz.func29 rfl Tryz.ntmps29 (by simp) ?_
 simp only [Qab]
 refine go_ ?_
 refine Je ?_
 intro i0 hi0
 try simp only [Ja, Rh, Rg, Jb] at hi0
 refine go_ ?_
 refine Jr (HF.out) ?_
 refine go_ ?_
 refine Qak (ι := Bool) (fun _ => True) (fun y => [(0, .d (.sl (B.map encD))), (1, .d (.sl [[.v (.int .i64 p.kind), .v (.int .i64 p.num), .v (.int .i64 p.at_), .sl (p.sub.map encD), .v (.int .i64 p.t.kind), .v (.int .i64 p.t.num), .sl (p.t.sub.map encD)]])), (2, .d (.sl [[.v (.int .i64 t.kind), .v (.int .i64 t.num), .sl (t.sub.map encD)]])), (6, .ptr i0 0), (23, .d (.v (.int .i64 1))), (24, .d (.v (.int .i64 (match y with | false => 0 | true => 1))))]) (fun _ => [.box i0 56 [.d (.v (.bool false)), .d (.v (.bool false)), .nils, .nils]]) (fun y => match y with | false => 1 | true => 0) false trivial ?_ ?_ ?_
 ·repeat (first | exact Jt _ | refine Js (by simp [PF.get]; rfl) (by first | rfl | (simp [*]; done) | fail) ?_)
 ·repeat (first | exact List.Sublist.refl _ | exact List.nil_sublist _ | refine List.Sublist.cons_cons _ ?_ | refine List.Sublist.cons _ ?_)
 rintro (_ | _) -
 ·simp only
  refine go_ ?_
  refine Jc (hSm.out) ?_
  refine go_ ?_
  refine Jr (HG.out) ?_
  refine go_ ?_
  refine Jr (hSh.out) ?_
  refine go_ ?_
  exact ⟨true, trivial, by decide, by repeat (first | exact Jt _ | refine Js (by simp [PF.get]; rfl) (by first | rfl | (simp [*]; done) | fail) ?_), by repeat (first | exact List.Sublist.refl _ | exact List.nil_sublist _ | refine List.Sublist.cons_cons _ ?_ | refine List.Sublist.cons _ ?_)⟩
 simp only
 refine go_ ?_
 refine Jd ?_
 intro b hb
 try simp only [Ja, Rh, Rg, Jb] at hb
 refine go_ ?_
 have h2 := Lib.hid (HA.out b)
 clear HA
 refine PW_perm (st' := [.box i0 56 [.d (.v (.bool false)), .d (.v (.bool false)), .nils, .nils], .box b 130 [.d (.sl (B.map encD)), .d (.v (.bool false)), .d (.v (.bool false)), .nils, .nils, .d (.v (.bool false))]]) (List.Perm.swap _ _ _) ?_
 refine Qak (ι := Option (St × PV × PV)) (fun y => match y with | none => True | some (L, V, T) => True) (fun y => [(1, .d (.sl [[.v (.int .i64 p.kind), .v (.int .i64 p.num), .v (.int .i64 p.at_), .sl (p.sub.map encD), .v (.int .i64 p.t.kind), .v (.int .i64 p.t.num), .sl (p.t.sub.map encD)]])), (2, .d (.sl [[.v (.int .i64 t.kind), .v (.int .i64 t.num), .sl (t.sub.map encD)]])), (6, .ptr i0 0), (9, .ptr b 0), (56, .d (.v (.int .i64 1))), (57, .d (.v (.int .i64 (match y with | none => 0 | some _ => 1))))]) (fun y => match y with
  | none => [.box i0 56 [.d (.v (.bool false)), .d (.v (.bool false)), .nils, .nils], .box b 130 [.d (.sl (B.map encD)), .d (.v (.bool false)), .d (.v (.bool false)), .nils, .nils, .d (.v (.bool false))]]
  | some (L, V, T) => [.box i0 56 [.d (.v (.bool false)), .d (.v (.bool false)), .nils, .nils], .box b 130 [.d (.sl (B.map encD)), .d (.v (.bool false)), .d (.v (.bool true)), V, T, .d (.v (.bool st))]] ++ L) (fun y => match y with | none => 1 | some _ => 0) none trivial ?_ ?_ ?_
 ·repeat (first | exact Jt _ | refine Js (by simp [PF.get]; rfl) (by first | rfl | (simp [*]; done) | fail) ?_)
 ·repeat (first | exact List.Sublist.refl _ | exact List.nil_sublist _ | refine List.Sublist.cons_cons _ ?_ | refine List.Sublist.cons _ ?_)
 rintro (_ | ⟨L, V, T⟩) -
 ·simp only
  refine go_ ?_
  refine Qan [(0, .a), (1, .a), (2, .a), (3, .a), (4, .a), (5, .a), (6, .a), (7, .a), (8, .a), (9, .e)] (by kernel_rfl) (by rfl) (by kernel_rfl) ?_
  refine go_ ?_
  refine Qev 1 1 h2.out ?_ (M := []) (hM := by simp)
  rintro _ _ ⟨rfl, L, V, T, rfl, hv⟩
  simp only [List.cons_append, List.nil_append, List.append_nil, Ja, Rh, Rg]
  refine go_ ?_
  exact ⟨some (L, V, T), trivial, by show 0 < 1; decide, by repeat (first | exact Jt _ | refine Js (by simp [PF.get]; rfl) (by first | rfl | (simp [*]; done) | fail) ?_), by repeat (first | exact List.Sublist.refl _ | exact List.nil_sublist _ | refine List.Sublist.cons_cons _ ?_ | refine List.Sublist.cons _ ?_)⟩
 ·simp only [List.cons_append, List.nil_append]
  refine go_ ?_
  refine Rd ?_
  refine go_ ?_
  refine Jm (by simp) (by simp only [Tryz.results29]; rfl) (by simp [resP, St.box?, PF.get, Jn, TyK.agg, *]; rfl) Nl ?_
  exact ⟨rfl, rfl⟩
theorem askY0_p (B : List En) (hF : formedB B = true) (ho : ∀ e ∈ B, EnOk e) (p : Pt) (t : Tm) (hg : pgT B p = true) (hn : pndT p ≤ 8000) (hh : phgT p ≤ 128) (hs : Qai t = true) (vs : List Int) (hR : akT B p t ⟨false, false, [], []⟩ = ⟨false, false, vs, []⟩) :
  PCalls Tryz.prog 29 [.d (.sl (B.map encD)), .d (.sl ([p].map encD)), .d (.sl ([t].map encD))] [] fun r s => r = .tup [.agg [.d (.v (.bool true)), .d (.v (.bool false)), .d (.sl (vs.map encD)), .d (.sl [])], .d (.v (.int .i64 0))] ∧ s = [] := by
 have HF := Lib.hid (Qgy B ho)
 rw [hF] at HF
 have HG := Lib.hid (Qie B hF p)
 rw [hg] at HG
 have hSm := Lib.hid (Qhn p hn)
 rw [decide_eq_true hh] at hSm
 have hSh := Lib.hid (Qdc t)
 rw [hs] at hSh
 have HA : Hid (∀ b, _) := fun b => ask_p B hF b p hg t ⟨false, false, [], []⟩ [] .nils .nils hs (.inl ⟨rfl, rfl, rfl, rfl, rfl⟩) (by simp only [List.length_nil]; omega)
 have hw1 : IntKind.i64.wrap (0 + 1) = 1 := wr64 (by decide) (by decide)
 have hw2 : IntKind.i64.wrap 1 = 1 := wr64 (by decide) (by decide)
 have hl1 : (0 : Int) < 1 := by decide
 rw [hR] at HA
 clear hR hF ho hg hn hh hs
 simp only [akB, aggD, Qap, Jl, List.map_cons, List.map_nil] at HA HG hSm hSh ⊢
 refine PCalls.enter Tryz.func29 rfl Tryz.ntmps29 (by simp) ?_
 simp only [Qab]
 refine go_ ?_
 refine Je ?_
 intro i0 hi0
 try simp only [Ja, Rh, Rg, Jb] at hi0
 refine go_ ?_
 refine Jr (HF.out) ?_
 refine go_ ?_
 refine Qak (ι := Bool) (fun _ => True) (fun y => [(0, .d (.sl (B.map encD))), (1, .d (.sl [[.v (.int .i64 p.kind), .v (.int .i64 p.num), .v (.int .i64 p.at_), .sl (p.sub.map encD), .v (.int .i64 p.t.kind), .v (.int .i64 p.t.num), .sl (p.t.sub.map encD)]])), (2, .d (.sl [[.v (.int .i64 t.kind), .v (.int .i64 t.num), .sl (t.sub.map encD)]])), (6, .ptr i0 0), (23, .d (.v (.int .i64 1))), (24, .d (.v (.int .i64 (match y with | false => 0 | true => 1))))]) (fun _ => [.box i0 56 [.d (.v (.bool false)), .d (.v (.bool false)), .nils, .nils]]) (fun y => match y with | false => 1 | true => 0) false trivial ?_ ?_ ?_
 ·repeat (first | exact Jt _ | refine Js (by simp [PF.get]; rfl) (by first | rfl | (simp [*]; done) | fail) ?_)
 ·repeat (first | exact List.Sublist.refl _ | exact List.nil_sublist _ | refine List.Sublist.cons_cons _ ?_ | refine List.Sublist.cons _ ?_)
 rintro (_ | _) -
 ·simp only
  refine go_ ?_
  refine Jc (hSm.out) ?_
  refine go_ ?_
  refine Jr (HG.out) ?_
  refine go_ ?_
  refine Jr (hSh.out) ?_
  refine go_ ?_
  exact ⟨true, trivial, by decide, by repeat (first | exact Jt _ | refine Js (by simp [PF.get]; rfl) (by first | rfl | (simp [*]; done) | fail) ?_), by repeat (first | exact List.Sublist.refl _ | exact List.nil_sublist _ | refine List.Sublist.cons_cons _ ?_ | refine List.Sublist.cons _ ?_)⟩
 simp only
 refine go_ ?_
 refine Jd ?_
 intro b hb
 try simp only [Ja, Rh, Rg, Jb] at hb
 refine go_ ?_
 have h2 := Lib.hid (HA.out b)
 clear HA
 refine PW_perm (st' := [.box i0 56 [.d (.v (.bool false)), .d (.v (.bool false)), .nils, .nils], .box b 130 [.d (.sl (B.map encD)), .d (.v (.bool false)), .d (.v (.bool false)), .nils, .nils, .d (.v (.bool false))]]) (List.Perm.swap _ _ _) ?_
 refine Qak (ι := Option (Unit)) (fun y => match y with | none => True | some () => vs = []) (fun y => [(1, .d (.sl [[.v (.int .i64 p.kind), .v (.int .i64 p.num), .v (.int .i64 p.at_), .sl (p.sub.map encD), .v (.int .i64 p.t.kind), .v (.int .i64 p.t.num), .sl (p.t.sub.map encD)]])), (2, .d (.sl [[.v (.int .i64 t.kind), .v (.int .i64 t.num), .sl (t.sub.map encD)]])), (6, .ptr i0 0), (9, .ptr b 0), (56, .d (.v (.int .i64 1))), (57, .d (.v (.int .i64 (match y with | none => 0 | some _ => 1))))]) (fun y => match y with
  | none => [.box i0 56 [.d (.v (.bool false)), .d (.v (.bool false)), .nils, .nils], .box b 130 [.d (.sl (B.map encD)), .d (.v (.bool false)), .d (.v (.bool false)), .nils, .nils, .d (.v (.bool false))]]
  | some () => [.box i0 56 [.d (.v (.bool false)), .d (.v (.bool false)), .nils, .nils], .box b 130 [.d (.sl (B.map encD)), .d (.v (.bool false)), .d (.v (.bool false)), .nils, .nils, .d (.v (.bool false))]]) (fun y => match y with | none => 1 | some _ => 0) none trivial ?_ ?_ ?_
 ·repeat (first | exact Jt _ | refine Js (by simp [PF.get]; rfl) (by first | rfl | (simp [*]; done) | fail) ?_)
 ·repeat (first | exact List.Sublist.refl _ | exact List.nil_sublist _ | refine List.Sublist.cons_cons _ ?_ | refine List.Sublist.cons _ ?_)
 rintro (_ | ⟨⟩) hvs
 ·simp only
  refine go_ ?_
  refine Qan [(0, .a), (1, .a), (2, .a), (3, .a), (4, .a), (5, .a), (6, .a), (7, .a), (8, .a), (9, .e)] (by kernel_rfl) (by rfl) (by kernel_rfl) ?_
  refine go_ ?_
  refine Qev 1 1 h2.out ?_ (M := []) (hM := by simp)
  rintro _ _ ⟨rfl, L, V, T, rfl, hv⟩
  rcases hv with ⟨h1, h2', rfl, rfl, rfl⟩ | ⟨g, i, c, X, h1, -⟩
  ·simp only [List.cons_append, List.nil_append, List.append_nil, Ja, Rh, Rg]
   refine go_ ?_
   exact ⟨some (), h1, by show 0 < 1; decide, by repeat (first | exact Jt _ | refine Js (by simp [PF.get]; rfl) (by first | rfl | (simp [*]; done) | fail) ?_), by repeat (first | exact List.Sublist.refl _ | exact List.nil_sublist _ | refine List.Sublist.cons_cons _ ?_ | refine List.Sublist.cons _ ?_)⟩
  ·simp at h1
 ·simp only at hvs ⊢
  subst hvs
  refine go_ ?_
  refine Rd ?_
  refine go_ ?_
  refine Rd ?_
  refine go_ ?_
  refine Jm (by simp) (by simp only [Tryz.results29]; rfl) (by simp [resP, St.box?, PF.get, Jn, TyK.agg, *]; rfl) Nl ?_
  exact ⟨rfl, rfl⟩
theorem askY1_p (B : List En) (hF : formedB B = true) (ho : ∀ e ∈ B, EnOk e) (p : Pt) (t : Tm) (hg : pgT B p = true) (hn : pndT p ≤ 8000) (hh : phgT p ≤ 128) (hs : Qai t = true) (vs : List Int) (ts : List Tm) (hts : 0 < ts.length) (hR : akT B p t ⟨false, false, [], []⟩ = ⟨false, false, vs, ts⟩) :
  PCalls Tryz.prog 29 [.d (.sl (B.map encD)), .d (.sl ([p].map encD)), .d (.sl ([t].map encD))] [] fun r s => r = .tup [.agg [.d (.v (.bool true)), .d (.v (.bool false)), .d (.sl (vs.map encD)), .d (.sl (ts.map encD))], .d (.v (.int .i64 0))] ∧ s = [] := by
 refine PCalls.freeze4 (E := 26) (es := 3) (rows := ts.map encD) (Qdv ts) ?_
 obtain ⟨CS, hCS⟩ : ∃ CS : List PV, CS = (ts.map encD).flatten.map PV.d := ⟨_, rfl⟩
 have HCS := Lib.hid hCS
 clear hCS
 have hK := Lib.hid hts
 clear hts
 have HF := Lib.hid (Qgy B ho)
 rw [hF] at HF
 have HG := Lib.hid (Qie B hF p)
 rw [hg] at HG
 have hSm := Lib.hid (Qhn p hn)
 rw [decide_eq_true hh] at hSm
 have hSh := Lib.hid (Qdc t)
 rw [hs] at hSh
 have HA : Hid (∀ b, _) := fun b => ask_p B hF b p hg t ⟨false, false, [], []⟩ [] .nils .nils hs (.inl ⟨rfl, rfl, rfl, rfl, rfl⟩) (by simp only [List.length_nil]; omega)
 have hw1 : IntKind.i64.wrap (0 + 1) = 1 := wr64 (by decide) (by decide)
 have hw2 : IntKind.i64.wrap 1 = 1 := wr64 (by decide) (by decide)
 have hl1 : (0 : Int) < 1 := by decide
 rw [hR] at HA
 clear hR hF ho hg hn hh hs
 simp only [akB, aggD, Qap, Jl, List.map_cons, List.map_nil] at HA HG hSm hSh ⊢
 refine PCalls.enter Tryz.func29 rfl Tryz.ntmps29 (by simp) ?_
 simp only [Qab]
 refine go_ ?_
 refine Je ?_
 intro i0 hi0
 try simp only [Ja, Rh, Rg, Jb] at hi0
 refine go_ ?_
 refine Jr (HF.out) ?_
 refine go_ ?_
 refine Qak (ι := Bool) (fun _ => True) (fun y => [(0, .d (.sl (B.map encD))), (1, .d (.sl [[.v (.int .i64 p.kind), .v (.int .i64 p.num), .v (.int .i64 p.at_), .sl (p.sub.map encD), .v (.int .i64 p.t.kind), .v (.int .i64 p.t.num), .sl (p.t.sub.map encD)]])), (2, .d (.sl [[.v (.int .i64 t.kind), .v (.int .i64 t.num), .sl (t.sub.map encD)]])), (6, .ptr i0 0), (23, .d (.v (.int .i64 1))), (24, .d (.v (.int .i64 (match y with | false => 0 | true => 1))))]) (fun _ => [.box i0 56 [.d (.v (.bool false)), .d (.v (.bool false)), .nils, .nils]]) (fun y => match y with | false => 1 | true => 0) false trivial ?_ ?_ ?_
 ·repeat (first | exact Jt _ | refine Js (by simp [PF.get]; rfl) (by first | rfl | (simp [*]; done) | fail) ?_)
 ·repeat (first | exact List.Sublist.refl _ | exact List.nil_sublist _ | refine List.Sublist.cons_cons _ ?_ | refine List.Sublist.cons _ ?_)
 rintro (_ | _) -
 ·simp only
  refine go_ ?_
  refine Jc (hSm.out) ?_
  refine go_ ?_
  refine Jr (HG.out) ?_
  refine go_ ?_
  refine Jr (hSh.out) ?_
  refine go_ ?_
  exact ⟨true, trivial, by decide, by repeat (first | exact Jt _ | refine Js (by simp [PF.get]; rfl) (by first | rfl | (simp [*]; done) | fail) ?_), by repeat (first | exact List.Sublist.refl _ | exact List.nil_sublist _ | refine List.Sublist.cons_cons _ ?_ | refine List.Sublist.cons _ ?_)⟩
 simp only
 refine go_ ?_
 refine Jd ?_
 intro b hb
 try simp only [Ja, Rh, Rg, Jb] at hb
 refine go_ ?_
 have h2 := Lib.hid (HA.out b)
 clear HA
 refine PW_perm (st' := [.box i0 56 [.d (.v (.bool false)), .d (.v (.bool false)), .nils, .nils], .box b 130 [.d (.sl (B.map encD)), .d (.v (.bool false)), .d (.v (.bool false)), .nils, .nils, .d (.v (.bool false))]]) (List.Perm.swap _ _ _) ?_
 refine Qak (ι := Option (Nat × Nat × Nat × List PV)) (fun y => match y with | none => True | some (g, i, c, X) => True) (fun y => [(1, .d (.sl [[.v (.int .i64 p.kind), .v (.int .i64 p.num), .v (.int .i64 p.at_), .sl (p.sub.map encD), .v (.int .i64 p.t.kind), .v (.int .i64 p.t.num), .sl (p.t.sub.map encD)]])), (2, .d (.sl [[.v (.int .i64 t.kind), .v (.int .i64 t.num), .sl (t.sub.map encD)]])), (6, .ptr i0 0), (9, .ptr b 0), (56, .d (.v (.int .i64 1))), (57, .d (.v (.int .i64 (match y with | none => 0 | some _ => 1))))]) (fun y => match y with
  | none => [.box i0 56 [.d (.v (.bool false)), .d (.v (.bool false)), .nils, .nils], .box b 130 [.d (.sl (B.map encD)), .d (.v (.bool false)), .d (.v (.bool false)), .nils, .nils, .d (.v (.bool false))]]
  | some (g, i, c, X) => [.box i0 56 [.d (.v (.bool false)), .d (.v (.bool false)), .nils, .nils], .box b 130 [.d (.sl (B.map encD)), .d (.v (.bool false)), .d (.v (.bool false)), .own g (vs.map encD), .bsl i ts.length c, .d (.v (.bool false))], .box i 26 (CS ++ X), .tok g 3 1 vs.length]) (fun y => match y with | none => 1 | some _ => 0) none trivial ?_ ?_ ?_
 ·repeat (first | exact Jt _ | refine Js (by simp [PF.get]; rfl) (by first | rfl | (simp [*]; done) | fail) ?_)
 ·repeat (first | exact List.Sublist.refl _ | exact List.nil_sublist _ | refine List.Sublist.cons_cons _ ?_ | refine List.Sublist.cons _ ?_)
 rintro (_ | ⟨g, i, c, X⟩) -
 ·simp only
  refine go_ ?_
  refine Qan [(0, .a), (1, .a), (2, .a), (3, .a), (4, .a), (5, .a), (6, .a), (7, .a), (8, .a), (9, .e)] (by kernel_rfl) (by rfl) (by kernel_rfl) ?_
  refine go_ ?_
  refine Qev 1 1 h2.out ?_ (M := []) (hM := by simp)
  rintro _ _ ⟨rfl, L, V, T, rfl, hv⟩
  rcases hv with ⟨h1, h2', rfl, rfl, rfl⟩ | ⟨g, i, c, X, h1, -, rfl, rfl, rfl, -⟩
  ·simp only at h2'
   subst h2'
   exact absurd hK.out (by decide)
  ·rw [← HCS.out]
   simp only [List.cons_append, List.nil_append, List.append_nil, Ja, Rh, Rg]
   refine go_ ?_
   exact ⟨some (g, i, c, X), trivial, by show 0 < 1; decide, by repeat (first | exact Jt _ | refine Js (by simp [PF.get]; rfl) (by first | rfl | (simp [*]; done) | fail) ?_), by repeat (first | exact List.Sublist.refl _ | exact List.nil_sublist _ | refine List.Sublist.cons_cons _ ?_ | refine List.Sublist.cons _ ?_)⟩
 ·simp only
  refine go_ ?_
  refine Rd ?_
  refine go_ ?_
  refine Rd ?_
  refine go_ ?_
  refine Jm (st' := [.box i 26 (CS ++ X)]) (by simp) (by simp only [Tryz.results29]; rfl) (by simp [resP, St.box?, PF.get, Jn, TyK.agg, *]; rfl) (by repeat (first | exact List.Sublist.refl _ | exact List.nil_sublist _ | refine List.Sublist.cons_cons _ ?_ | refine List.Sublist.cons _ ?_)) ?_
  exact ⟨i, c, X, by simp [tupP, PV.norm2, PV.norm1, PV.norm0], by rw [HCS.out]⟩
theorem askY_p (B : List En) (hF : formedB B = true) (ho : ∀ e ∈ B, EnOk e) (p : Pt) (t : Tm) (hg : pgT B p = true) (hn : pndT p ≤ 8000) (hh : phgT p ≤ 128) (hs : Qai t = true) (vs : List Int) (ts : List Tm) (hR : akT B p t ⟨false, false, [], []⟩ = ⟨false, false, vs, ts⟩) :
  PCalls Tryz.prog 29 [.d (.sl (B.map encD)), .d (.sl ([p].map encD)), .d (.sl ([t].map encD))] [] fun r s => r = .tup [.agg [.d (.v (.bool true)), .d (.v (.bool false)), .d (.sl (vs.map encD)), .d (.sl (ts.map encD))], .d (.v (.int .i64 0))] ∧ s = [] := by
 cases ts with
 | nil => exact askY0_p B hF ho p t hg hn hh hs vs hR
 | cons a r => exact askY1_p B hF ho p t hg hn hh hs vs (a :: r) (by simp) hR
end Go.Proofs.YtdklpbefbamchaaGreat
