import Derived.Test.YtdklpbefbamchaaGreatBH
import Derived.Test.YtdklpbefbamchaaGreatBA6
import Derived.Test.YtdklpbefbamchaaGreatBG
import Derived.Test.YtdklpbefbamchaaGreatBR
import Derived.Test.YtdklpbefbamchaaGreatBG1
import Derived.Test.YtdklpbefbamchaaGreatBR1
set_option linter.unusedSimpArgs false
set_option linter.unusedVariables false
set_option maxHeartbeats 16000000
set_option maxRecDepth 100000
namespace Go.Proofs.YtdklpbefbamchaaGreat
open Go.RowKit
theorem bud24_p : ∀ (p : Pt) (l : Int), -9000 < l → l ≤ 1000 → PCalls Tryz.prog 59 [aggD p, .d (.v (.int .i64 l))] [] fun r s => r = .tup [aggD (pbT p l).1, .d (.v (.int .i64 (pbT p l).2))] ∧ s = [] := by
 refine Pt.ind ?_
 intro k n a sub d ih l h0 h1
 obtain ⟨R, hR⟩ : ∃ R, R = pbL sub (l - 1) := ⟨_, rfl⟩
 have e : pbT (.mk k n a sub d) l = (.mk k n a R.1 d, R.2) := by rw [hR]; simp only [pbT]
 rw [e]
 have HR : Hid (R = ([] ++ (pbL (sub.drop 0) (l - 1)).1, (pbL (sub.drop 0) (l - 1)).2)) := by show _ = _; rw [hR]; rfl
 have hcn : R.1.length ≤ 20000 := by have := pbL_count sub (l - 1); rw [← hR] at this; omega
 have IH := Lib.hid ih
 have hw := wr64 (n := l - 1) (by omega) (by omega)
 clear ih e hR
 simp only [aggD, Qap, Jl, List.map_cons, List.map_nil, Pt.kind_mk, Pt.num_mk, Pt.at_mk, Pt.sub_mk, Pt.t_mk]
 refine PCalls.enter Tryz.func59 rfl Tryz.ntmps59 (by simp) ?_
 simp only [Qab]
 refine go_ ?_
 refine Jd ?_
 intro i0 hi0
 try simp only [Ja, Rh, Rg, Jb] at hi0
 refine go_ ?_
 refine Je ?_
 intro i1 hi1
 try simp only [Ja, Rh, Rg, Jb] at hi1
 refine go_ ?_
 refine Je ?_
 intro i2 hi2
 try simp only [Ja, Rh, Rg, Jb] at hi2
 refine go_ ?_
 refine Rd ?_
 refine go_ ?_
 refine Qhf i2 3 44 7 (by simp [nev, nevA, nevB, Jp, PF.eval, PF.get, PF.wants, cPV, Qae, PV.rows, Qaf, evUn, Jq, Qah, Qag, Jn, TyK.agg, Qad, St.box?, St.tok?, St.setBox, St.setTok, Qac, spl, PV.ps, PV.one, Jo, aggD, slD, Jh, Jk, Ji, Jj, Jg, Jf, *]; rfl) (by rfl) (by rfl) (by intro g; simp [St.setBox, *]; rfl) (by decide) ?_
 intro g hg
 refine Qak (ι := List Pt × Int) (fun y => y.1.length ≤ sub.length ∧ -9000 ≤ y.2 ∧ y.2 ≤ 1000 ∧ Hid (R = (y.1 ++ (pbL (sub.drop y.1.length) y.2).1, (pbL (sub.drop y.1.length) y.2).2))) (fun y => [(1, .d (.v (.int .i64 y.2))), (2, .ptr i0 0), (4, .ptr i1 0), (6, .ptr i2 0), (7, .d (.v (.int .i64 (y.1.length : Int))))]) (fun y => [.tok g 44 7 y.1.length, .box i2 44 [.d (.v (.int .i64 k)), .d (.v (.int .i64 n)), .d (.v (.int .i64 a)), .own g (y.1.map encD), .d (.v (.int .i64 d.kind)), .d (.v (.int .i64 d.num)), .d (.sl (d.sub.map encD))], .box i1 44 [.d (.v (.int .i64 0)), .d (.v (.int .i64 0)), .d (.v (.int .i64 0)), .nils, .d (.v (.int .i64 0)), .d (.v (.int .i64 0)), .nils], .box i0 28 [.d (.v (.int .i64 k)), .d (.v (.int .i64 n)), .d (.v (.int .i64 a)), .d (.sl (sub.map encD)), .d (.v (.int .i64 d.kind)), .d (.v (.int .i64 d.num)), .d (.sl (d.sub.map encD))]]) (fun y => sub.length - y.1.length) ([], l - 1) ⟨Nat.zero_le _, by simp only; omega, by simp only; omega, HR.out⟩ ?_ ?_ ?_
 ·repeat (first | exact Jt _ | refine Js (by simp [PF.get]; rfl) (by first | rfl | (simp [*]; done) | fail) ?_)
 ·repeat (first | exact List.Sublist.refl _ | exact List.nil_sublist _ | refine List.Sublist.cons_cons _ ?_ | refine List.Sublist.cons _ ?_)
 rintro ⟨rs, x⟩ ⟨hk, hx0, hx1, hR⟩
 simp only at hk hx0 hx1 hR ⊢
 clear HR
 have hrc : rs.length ≤ 20000 := by
  have h := congrArg (fun z : List Pt × Int => z.1.length) hR.out
  simp only [List.length_append] at h
  omega
 by_cases hlt : rs.length < sub.length
 ·have hxs := Qal hlt
  have hc : (rs.length : Int) < sub.length := by omega
  have hn : (0 : Int) ≤ rs.length := by omega
  have hin := wr64 (n := (rs.length : Int) + 1) (by omega) (by omega)
  by_cases hx : -9000 < x
  ·have hR2 : Hid (R = ((rs ++ [(pbT sub[rs.length] x).1]) ++ (pbL (sub.drop (rs ++ [(pbT sub[rs.length] x).1]).length) (pbT sub[rs.length] x).2).1, (pbL (sub.drop (rs ++ [(pbT sub[rs.length] x).1]).length) (pbT sub[rs.length] x).2).2)) := by
    show _ = _
    rw [show R = _ from hR.out, List.drop_eq_getElem_cons hlt]
    simp only [pbL]
    rw [if_pos hx, List.append_assoc, List.length_append, List.length_singleton]; rfl
   have hlo := pb_lo sub[rs.length] x hx
   have hhi := (Qgl sub[rs.length] x).1
   have hc1 := Lib.hid (IH.out _ (List.getElem_mem hlt) x hx hx1)
   simp only [aggD, Qap, Jl, List.map_cons, List.map_nil] at hc1
   obtain ⟨q, hq⟩ : ∃ q, q = (pbT sub[rs.length] x).1 := ⟨_, rfl⟩
   obtain ⟨z, hz⟩ : ∃ z, z = (pbT sub[rs.length] x).2 := ⟨_, rfl⟩
   rw [← hq, ← hz] at hc1 hR2
   rw [← hz] at hlo hhi
   clear hR hq hz
   refine go_ ?_
   refine Jc (hc1.out) ?_
   refine go_ ?_
   refine Je ?_
   intro i3 hi3
   try simp only [Ja, Rh, Rg, Jb] at hi3
   refine go_ ?_
   refine Rd ?_
   refine go_ ?_
   refine Qao ?_
   refine go_ ?_
   refine Qbe (rs.length + 1) ?_ ?_ ?_ ?_
   ·simp
   ·exact rows7 _
   ·exact Qbs rfl
   refine go_ ?_
   refine Rd ?_
   refine go_ ?_
   refine ⟨(rs ++ [q], z), ⟨by simp only [List.length_append, List.length_singleton]; omega, hlo, by simp only; omega, hR2⟩, by simp only [List.length_append, List.length_singleton]; omega, ?_, ?_⟩
   ·simp only [List.length_append, List.length_singleton]
    repeat (first | exact Jt _ | refine Js (by simp [PF.get]; rfl) (by first | rfl | (simp [hin]; done) | fail) ?_)
   ·simp only [List.length_append, List.length_singleton, List.map_append, List.map_cons, List.map_nil, Qap]
    repeat (first | exact List.Sublist.refl _ | exact List.nil_sublist _ | refine List.Sublist.cons_cons _ ?_ | refine List.Sublist.cons _ ?_)
  ·have hf : Hid (R = (rs, x)) := by show _ = _; rw [show R = _ from hR.out, List.drop_eq_getElem_cons hlt]; simp only [pbL]; rw [if_neg hx, List.append_nil]
   clear hR
   refine go_ ?_
   refine Rd ?_
   refine go_ ?_
   refine Jm (by simp) (by simp only [Tryz.results59]; rfl) (by simp [resP, St.box?, PF.get, Jn, TyK.agg, *]; rfl) Nl ?_
   exact ⟨by rw [hf.out]; rfl, rfl⟩
 ·have hc : ¬ (rs.length : Int) < sub.length := by omega
  have hf : Hid (R = (rs, x)) := by show _ = _; rw [show R = _ from hR.out, List.drop_of_length_le (by omega)]; simp only [pbL, List.append_nil]
  clear hR
  refine go_ ?_
  refine Rd ?_
  refine go_ ?_
  refine Jm (by simp) (by simp only [Tryz.results59]; rfl) (by simp [resP, St.box?, PF.get, Jn, TyK.agg, *]; rfl) Nl ?_
  exact ⟨by rw [hf.out]; rfl, rfl⟩
theorem of24_p (l : List Pt) : PCalls Tryz.prog 13 [.d (.sl (l.map encD))] [] fun r s => r = .tup [.d (.sl ((ofL l 600).1.map encD)), .d (.v (.bool (decide (0 < (ofL l 600).2))))] ∧ s = [] := by
 obtain ⟨R, hR⟩ : ∃ R, R = ofL l 600 := ⟨_, rfl⟩
 rw [← hR]
 have HR : Hid (R = ([] ++ (ofL (l.drop 0) 600).1, (ofL (l.drop 0) 600).2)) := by show _ = _; rw [hR]; rfl
 have hcn : R.1.length ≤ 600 := by have := of_count l 600; rw [← hR] at this; omega
 clear hR
 refine PCalls.enter Tryz.func13 rfl Tryz.ntmps13 (by simp) ?_
 simp only [Qab]
 refine go_ ?_
 refine Qdo ?_ (by decide) (by first | (simp [nev, nevA, nevB, Jp, PF.eval, PF.get, PF.wants, cPV, Qae, PV.rows, Qaf, evUn, Jq, Qah, Qag, Jn, TyK.agg, Qad, St.box?, St.tok?, St.setBox, St.setTok, Qac, spl, PV.ps, PV.one, Jo, aggD, slD, Jh, Jk, Ji, Jj, Jg, Jf, *]; done) | fail) (by simp; rfl) (by rfl) (by simp; rfl) (by rfl) (by decide)
 intro g hg
 refine go_ ?_
 refine Qak (ι := List Pt × Int) (fun y => y.1.length ≤ l.length ∧ -9001 ≤ y.2 ∧ y.2 ≤ 600 ∧ Hid (R = (y.1 ++ (ofL (l.drop y.1.length) y.2).1, (ofL (l.drop y.1.length) y.2).2))) (fun y => [(0, .d (.sl (l.map encD))), (4, .own g (y.1.map encD)), (5, .d (.v (.int .i64 y.2))), (6, .d (.v (.int .i64 (y.1.length : Int))))]) (fun y => [.tok g 44 7 y.1.length]) (fun y => l.length - y.1.length) ([], 600) ⟨Nat.zero_le _, by simp only; omega, by simp only; omega, HR.out⟩ ?_ ?_ ?_
 ·repeat (first | exact Jt _ | refine Js (by simp [PF.get]; rfl) (by first | rfl | (simp [*]; done) | fail) ?_)
 ·repeat (first | exact List.Sublist.refl _ | exact List.nil_sublist _ | refine List.Sublist.cons_cons _ ?_ | refine List.Sublist.cons _ ?_)
 rintro ⟨rs, x⟩ ⟨hk, hx0, hx1, hR⟩
 simp only at hk hx0 hx1 hR ⊢
 clear HR
 have hrc : rs.length ≤ 600 := by
  have h := congrArg (fun z : List Pt × Int => z.1.length) hR.out
  simp only [List.length_append] at h
  omega
 by_cases hlt : rs.length < l.length
 ·have hxs := Qal hlt
  have hc : (rs.length : Int) < l.length := by omega
  have hn : (0 : Int) ≤ rs.length := by omega
  have hin := wr64 (n := (rs.length : Int) + 1) (by omega) (by omega)
  by_cases hx : 0 < x
  ·have hR2 : Hid (R = ((rs ++ [(pbT l[rs.length] x).1]) ++ (ofL (l.drop (rs ++ [(pbT l[rs.length] x).1]).length) ((pbT l[rs.length] x).2 - 1)).1, (ofL (l.drop (rs ++ [(pbT l[rs.length] x).1]).length) ((pbT l[rs.length] x).2 - 1)).2)) := by
    show _ = _
    rw [show R = _ from hR.out, List.drop_eq_getElem_cons hlt]
    simp only [ofL]
    rw [if_pos hx, List.append_assoc, List.length_append, List.length_singleton]; rfl
   have hlo := pb_lo l[rs.length] x (by omega)
   have hhi := (Qgl l[rs.length] x).1
   have hc1 := Lib.hid (bud24_p l[rs.length] x (by omega) (by omega))
   simp only [aggD, Qap, Jl, List.map_cons, List.map_nil] at hc1
   obtain ⟨q, hq⟩ : ∃ q, q = (pbT l[rs.length] x).1 := ⟨_, rfl⟩
   obtain ⟨z, hz⟩ : ∃ z, z = (pbT l[rs.length] x).2 := ⟨_, rfl⟩
   rw [← hq, ← hz] at hc1 hR2
   rw [← hz] at hlo hhi
   have hwz := wr64 (n := z - 1) (by omega) (by omega)
   clear hR hq hz
   refine go_ ?_
   refine Jc (hc1.out) ?_
   refine go_ ?_
   refine Je ?_
   intro i3 hi3
   try simp only [Ja, Rh, Rg, Jb] at hi3
   refine go_ ?_
   refine Rd ?_
   refine go_ ?_
   refine Qao ?_
   refine go_ ?_
   refine Qbe (rs.length + 1) ?_ ?_ ?_ ?_
   ·simp
   ·exact rows7 _
   ·exact Qbs rfl
   refine go_ ?_
   refine ⟨(rs ++ [q], z - 1), ⟨by simp only [List.length_append, List.length_singleton]; omega, by simp only; omega, by simp only; omega, hR2⟩, by simp only [List.length_append, List.length_singleton]; omega, ?_, ?_⟩
   ·simp only [List.length_append, List.length_singleton]
    repeat (first | exact Jt _ | refine Js (by simp [PF.get]; rfl) (by first | rfl | (simp [Qap]; done) | fail) ?_)
   ·simp only [List.length_append, List.length_singleton]
    repeat (first | exact List.Sublist.refl _ | exact List.nil_sublist _ | refine List.Sublist.cons_cons _ ?_ | refine List.Sublist.cons _ ?_)
  ·have hf : Hid (R = (rs, x)) := by show _ = _; rw [show R = _ from hR.out, List.drop_eq_getElem_cons hlt]; simp only [ofL]; rw [if_neg hx, List.append_nil]
   clear hR
   refine go_ ?_
   refine Jm (by simp) (by simp only [Tryz.results13]; rfl) (by simp [resP, St.box?, PF.get, Jn, TyK.agg, *]; rfl) Nl ?_
   exact ⟨by rw [hf.out]; simp [tupP, PV.norm2, PV.norm1, PV.norm0, *], rfl⟩
 ·have hc : ¬ (rs.length : Int) < l.length := by omega
  have hf : Hid (R = (rs, x)) := by show _ = _; rw [show R = _ from hR.out, List.drop_of_length_le (by omega)]; simp only [ofL, List.append_nil]
  clear hR
  refine go_ ?_
  refine Jm (by simp) (by simp only [Tryz.results13]; rfl) (by simp [resP, St.box?, PF.get, Jn, TyK.agg, *]; rfl) Nl ?_
  exact ⟨by rw [hf.out]; simp [tupP, PV.norm2, PV.norm1, PV.norm0, *], rfl⟩
def capS (b5 b3 : Nat) (l : List En) (pars : List Tm) : St := [.box b5 24 [.d (.sl (pars.map encD))], .box b3 22 [.d (.sl (l.map encD))]]
def bldE (o : Option Tm) : PV := match o with
 | some t => .tup [aggD t, .d (.v (.int .i64 0))]
 | none => .tup [aggD (Tm.mk 0 0 []), .d (.v (.int .i64 16))]
theorem pbuild_p (l : List En) (hF : formedB l = true) (pars : List Tm) (hpl : pars.length ≤ 1000) (hsh : ∀ t ∈ pars, Qai t = true) (hp : ∀ p : Pt, pgT l p = true → p.kind = 2 → parN l p.num ≤ pars.length) (b5 b3 : Nat) (f : FuncId) (hca : Qbl Tryz.prog f = true)
    (hf : ∀ (i m : Nat) (x : En), l[i]? = some x → x.pars = m → m ≤ pars.length → i < l.length → PCalls Tryz.prog f [.d (.v (.int .i64 i)), .ptr b5 0, .ptr b3 0] (capS b5 b3 l pars) fun p s => p = .d (.sl ((pars.take m).map encD)) ∧ s = capS b5 b3 l pars) :
    ∀ p : Pt, pgT l p = true → PCalls Tryz.prog 64 [.d (.sl (l.map encD)), aggD p, .fn (.func f) [] [.ptr b5 0, .ptr b3 0]] (capS b5 b3 l pars) fun r s => r = bldE (bldT l pars p) ∧ s = capS b5 b3 l pars := by
  refine Pt.ind ?_
  intro k n a sub d ih hg
  obtain ⟨R, hR⟩ : ∃ R, R = bldT l pars (.mk k n a sub d) := ⟨_, rfl⟩
  rw [← hR]
  by_cases k1 : k = 1
  · subst k1
    rw [bld_var] at hR
    have hL := Lib.hid (tmFree_p n)
    subst hR
    clear ih hg hF hp hf hsh
    simp only [bldE, capS, aggD, Qap, Jl, List.map_cons, List.map_nil, Pt.kind_mk, Pt.num_mk, Pt.at_mk, Pt.sub_mk, Pt.t_mk, Tm.kind_mk, Tm.num_mk, Tm.sub_mk] at hL ⊢
    refine PCalls.enter Tryz.func64 rfl Tryz.ntmps64 (by simp) ?_
    simp only [Qab]
    refine go_ ?_
    refine Jd ?_
    intro i0 hi0
    try simp only [Ja, Rh, Rg, Jb] at hi0
    refine go_ ?_
    refine Je ?_
    intro i1 hi1
    try simp only [Ja, Rh, Rg, Jb] at hi1
    refine go_ ?_
    refine Jc (hL.out) ?_
    refine go_ ?_
    refine Rd ?_
    refine go_ ?_
    refine Jm (st' := [.box b5 24 [.d (.sl (pars.map encD))], .box b3 22 [.d (.sl (l.map encD))]]) (by simp) (by simp only [Tryz.results64]; rfl) (by simp [resP, St.box?, PF.get, Jn, TyK.agg, *]; rfl) (by repeat (first | exact List.Sublist.refl _ | exact List.nil_sublist _ | refine List.Sublist.cons_cons _ ?_ | refine List.Sublist.cons _ ?_)) ?_
    exact ⟨rfl, rfl⟩
  by_cases k2 : k = 2
  rotate_left
  · rw [bld_no k1 k2] at hR
    subst hR
    have k34 : k = 3 ∨ k = 4 := by
      simp only [pgT] at hg
      rw [if_neg k1] at hg
      by_cases h3 : k = 3
      · exact .inl h3
      · rw [if_neg h3] at hg
        by_cases h4 : k = 4
        · exact .inr h4
        · rw [if_neg h4, if_neg k2] at hg; cases hg
    clear ih hg hF hp hf hsh k1 k2
    simp only [bldE, capS, aggD, Qap, Jl, List.map_cons, List.map_nil, Pt.kind_mk, Pt.num_mk, Pt.at_mk, Pt.sub_mk, Pt.t_mk, Tm.kind_mk, Tm.num_mk, Tm.sub_mk]
    rcases k34 with rfl | rfl
    all_goals
      refine PCalls.enter Tryz.func64 rfl Tryz.ntmps64 (by simp) ?_
      simp only [Qab]
      refine go_ ?_
      refine Jd ?_
      intro i0 hi0
      try simp only [Ja, Rh, Rg, Jb] at hi0
      refine go_ ?_
      refine Je ?_
      intro i1 hi1
      try simp only [Ja, Rh, Rg, Jb] at hi1
      refine go_ ?_
      refine Rd ?_
      refine go_ ?_
      refine Jm (st' := [.box b5 24 [.d (.sl (pars.map encD))], .box b3 22 [.d (.sl (l.map encD))]]) (by simp) (by simp only [Tryz.results64]; rfl) (by simp [resP, St.box?, PF.get, Jn, TyK.agg, *]; rfl) (by repeat (first | exact List.Sublist.refl _ | exact List.nil_sublist _ | refine List.Sublist.cons_cons _ ?_ | refine List.Sublist.cons _ ?_)) ?_
      exact ⟨rfl, rfl⟩
  subst k2
  have hpn := hp _ hg rfl
  simp only [Pt.num_mk] at hpn
  rw [bld_con] at hR
  obtain ⟨har, hgs⟩ := pg_con2 hg
  obtain ⟨i, x, m, rfl, hil, hx, hx0, hpm, hmp, hm24, hs24⟩ := con_at hF har
  rw [← hmp] at hR hpn
  have IH : Hid (∀ s ∈ sub, PCalls Tryz.prog 64 [.d (.sl (l.map encD)), aggD s, .fn (.func f) [] [.ptr b5 0, .ptr b3 0]] [.box b5 24 [.d (.sl (pars.map encD))], .box b3 22 [.d (.sl (l.map encD))]] fun r s' => r = bldE (bldT l pars s) ∧ s' = [.box b5 24 [.d (.sl (pars.map encD))], .box b3 22 [.d (.sl (l.map encD))]]) := fun s hs => ih s hs (hgs s hs)
  have hf1 := Lib.hid (hf i m x hx0 hpm hpn hil)
  have hC := Lib.hid (tmConst_p i)
  obtain ⟨B, hB⟩ : ∃ B, B = pars.take m := ⟨_, rfl⟩
  have hBl : (B.length : Int) = m := by rw [hB, List.length_take]; omega
  have hBn : ((B.length : Int) != (m : Int)) = false := by rw [hBl]; simp
  have hBs : Hid (∀ u ∈ B, Qai u = true) := fun u hu => hsh u (List.mem_of_mem_take (hB ▸ hu))
  rw [← hB] at hf1 hR
  obtain ⟨t0, ht0⟩ : ∃ t0, t0 = Qba (.mk 6 (i : Int) []) B := ⟨_, rfl⟩
  rw [← ht0] at hR
  have HT : Hid (Qba (.mk 6 (i : Int) []) (B.drop 0) = t0) := ht0.symm
  have HR : Hid (R = (bldL l pars (sub.drop 0)).map fun ts => Qba t0 ts) := hR
  have hc0 : (i : Int) < l.length := by omega
  have hn0 : (0 : Int) ≤ i := by omega
  have HCA := Lib.hid hca
  have hBc : B.length ≤ 1000 := by omega
  clear hR k1 hF hg har hgs ih hmp hx0 hil hp hB ht0 hf hsh hca hpn hBl
  simp only [capS, aggD, Qap, Jl, List.map_cons, List.map_nil, Pt.kind_mk, Pt.num_mk, Pt.at_mk, Pt.sub_mk, Pt.t_mk, Tm.kind_mk, Tm.num_mk, Tm.sub_mk] at hC hf1 ⊢
  refine PCalls.enter Tryz.func64 rfl Tryz.ntmps64 (by simp) ?_
  simp only [Qab]
  refine go_ ?_
  refine Jd ?_
  intro i0 hi0
  try simp only [Ja, Rh, Rg, Jb] at hi0
  refine go_ ?_
  refine Je ?_
  intro i1 hi1
  try simp only [Ja, Rh, Rg, Jb] at hi1
  refine go_ ?_
  refine POps_callC 2 2 hf1.out ?_ HCA.out
  rintro _ _ ⟨rfl, rfl⟩
  simp only [List.cons_append, List.nil_append, List.append_nil, Ja, Rh, Rg]
  refine go_ ?_
  refine Jc (hC.out) ?_
  refine go_ ?_
  refine Je ?_
  intro i2 hi2
  try simp only [Ja, Rh, Rg, Jb] at hi2
  refine go_ ?_
  refine Rd ?_
  refine go_ ?_
  refine Qak (ι := Nat × Tm) (fun y => y.1 ≤ B.length ∧ Hid (Qba y.2 (B.drop y.1) = t0)) (fun y => [(0, .d (.sl (l.map encD))), (2, .fn (.func f) [] [.ptr b5 0, .ptr b3 0]), (4, .ptr i0 0), (6, .ptr i1 0), (9, .ptr i2 0), (44, .d (.sl (B.map encD))), (45, .d (.v (.int .i64 (B.length : Int)))), (46, .d (.v (.int .i64 (y.1 : Int))))]) (fun y => [.box i2 26 [.d (.v (.int .i64 y.2.kind)), .d (.v (.int .i64 y.2.num)), .d (.sl (y.2.sub.map encD))], .box i1 26 [.d (.v (.int .i64 0)), .d (.v (.int .i64 0)), .nils], .box i0 28 [.d (.v (.int .i64 2)), .d (.v (.int .i64 (i : Int))), .d (.v (.int .i64 a)), .d (.sl (sub.map encD)), .d (.v (.int .i64 d.kind)), .d (.v (.int .i64 d.num)), .d (.sl (d.sub.map encD))], .box b5 24 [.d (.sl (pars.map encD))], .box b3 22 [.d (.sl (l.map encD))]]) (fun y => B.length - y.1) (0, .mk 6 (i : Int) []) ⟨Nat.zero_le _, HT.out⟩ ?_ ?_ ?_
  · repeat (first | exact Jt _ | refine Js (by simp [PF.get]; rfl) (by first | rfl | (simp [*]; done) | fail) ?_)
  · repeat (first | exact List.Sublist.refl _ | exact List.nil_sublist _ | refine List.Sublist.cons_cons _ ?_ | refine List.Sublist.cons _ ?_)
  rintro ⟨j, u⟩ ⟨hj, hT⟩
  simp only at hj hT ⊢
  clear HT
  by_cases hlt : j < B.length
  · have hxs := Qal hlt
    have hc : (j : Int) < B.length := by omega
    have hn1 : (0 : Int) ≤ j := by omega
    have hin := wr64 (n := (j : Int) + 1) (by omega) (by omega)
    have hsu := hBs.out _ (List.getElem_mem hlt)
    have hc1 := Lib.hid (Qdc B[j])
    have hc2 := Lib.hid (Qih B[j])
    have hc3 := Lib.hid (tmApp_p u B[j])
    rw [hsu] at hc1
    rw [show Qel B[j] = B[j] from by unfold Qel; rw [hsu]; rfl] at hc2
    have hT2 : Hid (Qba (.mk 5 0 [u, B[j]]) (B.drop (j + 1)) = t0) := by
      show _ = _
      rw [← show Qba u (B.drop j) = t0 from hT.out, List.drop_eq_getElem_cons hlt]; rfl
    clear hT hsu
    obtain ⟨v, hv⟩ : ∃ v, v = B[j] := ⟨_, rfl⟩
    rw [← hv] at hxs hc1 hc2 hc3 hT2
    clear hv hlt
    simp only [aggD, Jl, List.map_cons, List.map_nil, Tm.kind_mk, Tm.num_mk, Tm.sub_mk] at hc1 hc2 hc3
    refine go_ ?_
    refine Je ?_
    intro i3 hi3
    try simp only [Ja, Rh, Rg, Jb] at hi3
    refine go_ ?_
    refine Rd ?_
    refine go_ ?_
    refine Jc (hc1.out) ?_
    refine go_ ?_
    refine Qan [(0, .b), (1, .b), (2, .a), (3, .a), (4, .e)] (by kernel_rfl) (by rfl) (by kernel_rfl) ?_
    refine go_ ?_
    refine Qaa (hc2.out) ?_
    refine go_ ?_
    refine Qaa (hc3.out) ?_
    refine go_ ?_
    refine Qdp ?_
    refine go_ ?_
    refine ⟨(j + 1, .mk 5 0 [u, v]), ⟨by omega, hT2.out⟩, by simp only; omega, by repeat (first | exact Jt _ | refine Js (by simp [PF.get]; rfl) (by first | rfl | (simp [*]; done) | fail) ?_), ?_⟩
    simp only [Tm.kind_mk, Tm.num_mk, Tm.sub_mk, List.map_cons, List.map_nil, Jl]
    repeat (first | exact List.Sublist.refl _ | exact List.nil_sublist _ | refine List.Sublist.cons_cons _ ?_ | refine List.Sublist.cons _ ?_)
  have hc : ¬ (j : Int) < B.length := by omega
  have hu : u = t0 := by have h := hT.out; rw [List.drop_of_length_le (by omega)] at h; exact h
  subst hu
  clear hT hBs hC hf1
  refine go_ ?_
  refine Qak (ι := Nat × Tm) (fun y => y.1 ≤ sub.length ∧ Hid (R = (bldL l pars (sub.drop y.1)).map fun ts => Qba y.2 ts)) (fun y => [(0, .d (.sl (l.map encD))), (2, .fn (.func f) [] [.ptr b5 0, .ptr b3 0]), (4, .ptr i0 0), (6, .ptr i1 0), (9, .ptr i2 0), (60, .d (.sl (sub.map encD))), (61, .d (.v (.int .i64 (sub.length : Int)))), (62, .d (.v (.int .i64 (y.1 : Int))))]) (fun y => [.box i2 26 [.d (.v (.int .i64 y.2.kind)), .d (.v (.int .i64 y.2.num)), .d (.sl (y.2.sub.map encD))], .box i1 26 [.d (.v (.int .i64 0)), .d (.v (.int .i64 0)), .nils], .box i0 28 [.d (.v (.int .i64 2)), .d (.v (.int .i64 (i : Int))), .d (.v (.int .i64 a)), .d (.sl (sub.map encD)), .d (.v (.int .i64 d.kind)), .d (.v (.int .i64 d.num)), .d (.sl (d.sub.map encD))], .box b5 24 [.d (.sl (pars.map encD))], .box b3 22 [.d (.sl (l.map encD))]]) (fun y => sub.length - y.1) (0, u) ⟨Nat.zero_le _, HR.out⟩ ?_ ?_ ?_
  · repeat (first | exact Jt _ | refine Js (by simp [PF.get]; rfl) (by first | rfl | (simp [*]; done) | fail) ?_)
  · repeat (first | exact List.Sublist.refl _ | exact List.nil_sublist _ | refine List.Sublist.cons_cons _ ?_ | refine List.Sublist.cons _ ?_)
  rintro ⟨j, u⟩ ⟨hj, hR⟩
  simp only at hj hR ⊢
  clear HR
  by_cases hlt : j < sub.length
  · have hxs := Qal hlt
    have hc : (j : Int) < sub.length := by omega
    have hn1 : (0 : Int) ≤ j := by omega
    have hin := wr64 (n := (j : Int) + 1) (by omega) (by omega)
    have hc1 := Lib.hid (IH.out _ (List.getElem_mem hlt))
    have hR2 : Hid (R = match bldT l pars sub[j] with | none => none | some t => (bldL l pars (sub.drop (j + 1))).map fun ts => Qba u (t :: ts)) := by
      show _ = _
      rw [show R = _ from hR.out, List.drop_eq_getElem_cons hlt]
      simp only [bldL]
      cases bldT l pars sub[j] with
      | none => rfl
      | some t => simp only [Option.map_map]; rfl
    simp only [aggD, Qap, Jl, List.map_cons, List.map_nil] at hc1
    clear hR
    generalize bldT l pars sub[j] = o at *
    cases o with
    | none =>
      have hf : Hid (R = none) := hR2.out
      clear hR2
      simp only [bldE, aggD, Jl, List.map_nil, Tm.kind_mk, Tm.num_mk, Tm.sub_mk] at hc1
      refine go_ ?_
      refine Je ?_
      intro i3 hi3
      try simp only [Ja, Rh, Rg, Jb] at hi3
      refine go_ ?_
      refine Rd ?_
      refine go_ ?_
      refine Re 4 2 (hc1.out) ?_
      rintro _ _ ⟨rfl, rfl⟩
      simp only [List.cons_append, List.nil_append, List.append_nil, Ja, Rh, Rg]
      refine go_ ?_
      refine Je ?_
      intro i4 hi4
      try simp only [Ja, Rh, Rg, Jb] at hi4
      refine go_ ?_
      refine Rd ?_
      refine go_ ?_
      refine Rd ?_
      refine go_ ?_
      refine Jm (st' := [.box b5 24 [.d (.sl (pars.map encD))], .box b3 22 [.d (.sl (l.map encD))]]) (by simp) (by simp only [Tryz.results64]; rfl) (by simp [resP, St.box?, PF.get, Jn, TyK.agg, *]; rfl) (by repeat (first | exact List.Sublist.refl _ | exact List.nil_sublist _ | refine List.Sublist.cons_cons _ ?_ | refine List.Sublist.cons _ ?_)) ?_
      exact ⟨by rw [hf.out]; rfl, rfl⟩
    | some t =>
      have hR3 : Hid (R = (bldL l pars (sub.drop (j + 1))).map fun ts => Qba (.mk 5 0 [u, t]) ts) := hR2.out
      have hA1 := Lib.hid (tmApp_p u t)
      clear hR2
      simp only [bldE, aggD, Jl, List.map_cons, List.map_nil, Tm.kind_mk, Tm.num_mk, Tm.sub_mk] at hc1 hA1
      refine go_ ?_
      refine Je ?_
      intro i3 hi3
      try simp only [Ja, Rh, Rg, Jb] at hi3
      refine go_ ?_
      refine Rd ?_
      refine go_ ?_
      refine Re 4 2 (hc1.out) ?_
      rintro _ _ ⟨rfl, rfl⟩
      simp only [List.cons_append, List.nil_append, List.append_nil, Ja, Rh, Rg]
      refine go_ ?_
      refine Je ?_
      intro i4 hi4
      try simp only [Ja, Rh, Rg, Jb] at hi4
      refine go_ ?_
      refine Rd ?_
      refine go_ ?_
      refine Jc (hA1.out) ?_
      refine go_ ?_
      refine Rd ?_
      refine go_ ?_
      refine ⟨(j + 1, .mk 5 0 [u, t]), ⟨hlt, hR3.out⟩, by simp only; omega, by repeat (first | exact Jt _ | refine Js (by simp [PF.get]; rfl) (by first | rfl | (simp [*]; done) | fail) ?_), ?_⟩
      simp only [Tm.kind_mk, Tm.num_mk, Tm.sub_mk, List.map_cons, List.map_nil, Jl]
      repeat (first | exact List.Sublist.refl _ | exact List.nil_sublist _ | refine List.Sublist.cons_cons _ ?_ | refine List.Sublist.cons _ ?_)
  · have hc : ¬ (j : Int) < sub.length := by omega
    have hf : Hid (R = some u) := by show _ = _; rw [show R = _ from hR.out, List.drop_of_length_le (by omega)]; rfl
    clear hR
    refine go_ ?_
    refine Rd ?_
    refine go_ ?_
    refine Jm (st' := [.box b5 24 [.d (.sl (pars.map encD))], .box b3 22 [.d (.sl (l.map encD))]]) (by simp) (by simp only [Tryz.results64]; rfl) (by simp [resP, St.box?, PF.get, Jn, TyK.agg, *]; rfl) (by repeat (first | exact List.Sublist.refl _ | exact List.nil_sublist _ | refine List.Sublist.cons_cons _ ?_ | refine List.Sublist.cons _ ?_)) ?_
    exact ⟨by rw [hf.out]; simp only [bldE, aggD, Jl]; rfl, rfl⟩
noncomputable def trmP (l : List En) (pars : List Tm) (p : Pt) : Tm × Int :=
 if pRight l p = true then (match bldT l pars p with
  | some t => if Qai t = true then (t, 0) else (.mk 0 0 [], 2)
  | none => (.mk 0 0 [], 16)) else (.mk 0 0 [], 5)
theorem pTerm_p (l : List En) (ho : ∀ e ∈ l, EnOk e) (pars : List Tm) (hpl : pars.length ≤ 1000) (hsh : ∀ t ∈ pars, Qai t = true) (hp : formedB l = true → ∀ p : Pt, pgT l p = true → p.kind = 2 → parN l p.num ≤ pars.length) (b5 b3 : Nat) (f : FuncId) (hca : Qbl Tryz.prog f = true)
    (hf : ∀ (i m : Nat) (x : En), l[i]? = some x → x.pars = m → m ≤ pars.length → i < l.length → PCalls Tryz.prog f [.d (.v (.int .i64 i)), .ptr b5 0, .ptr b3 0] (capS b5 b3 l pars) fun p s => p = .d (.sl ((pars.take m).map encD)) ∧ s = capS b5 b3 l pars)
    (p : Pt) (hn : pndT p ≤ 8000) : PCalls Tryz.prog 17 [.d (.sl (l.map encD)), aggD p, .fn (.func f) [] [.ptr b5 0, .ptr b3 0]] (capS b5 b3 l pars) fun r s => r = .tup [aggD (trmP l pars p).1, .d (.v (.int .i64 (trmP l pars p).2))] ∧ s = capS b5 b3 l pars := by
  have HR := Lib.hid (pRight_p l p ho hn)
  obtain ⟨R, hR⟩ : ∃ R, R = trmP l pars p := ⟨_, rfl⟩
  rw [← hR]
  have HB := Lib.hid (fun h : pRight l p = true => by
    have h3 : (formedB l && (decide (phgT p ≤ 128) && pgT l p)) = true := h
    simp only [Bool.and_eq_true] at h3
    exact pbuild_p l h3.1 pars hpl hsh (hp h3.1) b5 b3 f hca hf p h3.2.2)
  unfold trmP at hR
  clear ho hsh hp hf hn
  generalize pRight l p = q at *
  generalize bldT l pars p = o at *
  cases q with
  | false =>
    rw [if_neg (by decide)] at hR
    subst hR
    clear HB
    simp only [capS, aggD, Qap, Jl, List.map_cons, List.map_nil, Pt.kind_mk, Pt.num_mk, Pt.at_mk, Pt.sub_mk, Pt.t_mk, Tm.kind_mk, Tm.num_mk, Tm.sub_mk] at HR ⊢
    refine PCalls.enter Tryz.func17 rfl Tryz.ntmps17 (by simp) ?_
    simp only [Qab]
    refine go_ ?_
    refine Jd ?_
    intro i0 hi0
    try simp only [Ja, Rh, Rg, Jb] at hi0
    refine go_ ?_
    refine Je ?_
    intro i1 hi1
    try simp only [Ja, Rh, Rg, Jb] at hi1
    refine go_ ?_
    refine Jc (HR.out) ?_
    refine go_ ?_
    refine Rd ?_
    refine go_ ?_
    refine Jm (st' := [.box b5 24 [.d (.sl (pars.map encD))], .box b3 22 [.d (.sl (l.map encD))]]) (by simp) (by simp only [Tryz.results17]; rfl) (by simp [resP, St.box?, PF.get, Jn, TyK.agg, *]; rfl) (by repeat (first | exact List.Sublist.refl _ | exact List.nil_sublist _ | refine List.Sublist.cons_cons _ ?_ | refine List.Sublist.cons _ ?_)) ?_
    exact ⟨rfl, rfl⟩
  | true =>
    rw [if_pos (by rfl)] at hR
    have hB := Lib.hid (HB.out rfl)
    clear HB
    cases o with
    | none =>
      simp only at hR
      subst hR
      simp only [bldE, capS, aggD, Qap, Jl, List.map_cons, List.map_nil, Pt.kind_mk, Pt.num_mk, Pt.at_mk, Pt.sub_mk, Pt.t_mk, Tm.kind_mk, Tm.num_mk, Tm.sub_mk] at HR hB ⊢
      refine PCalls.enter Tryz.func17 rfl Tryz.ntmps17 (by simp) ?_
      simp only [Qab]
      refine go_ ?_
      refine Jd ?_
      intro i0 hi0
      try simp only [Ja, Rh, Rg, Jb] at hi0
      refine go_ ?_
      refine Je ?_
      intro i1 hi1
      try simp only [Ja, Rh, Rg, Jb] at hi1
      refine go_ ?_
      refine Jc (HR.out) ?_
      refine go_ ?_
      refine Qik ?_
      refine go_ ?_
      refine Re 2 2 (hB.out) ?_
      rintro _ _ ⟨rfl, rfl⟩
      simp only [List.cons_append, List.nil_append, List.append_nil, Ja, Rh, Rg]
      refine go_ ?_
      refine Je ?_
      intro i2 hi2
      try simp only [Ja, Rh, Rg, Jb] at hi2
      refine go_ ?_
      refine Rd ?_
      refine go_ ?_
      refine Rd ?_
      refine go_ ?_
      refine Jm (st' := [.box b5 24 [.d (.sl (pars.map encD))], .box b3 22 [.d (.sl (l.map encD))]]) (by simp) (by simp only [Tryz.results17]; rfl) (by simp [resP, St.box?, PF.get, Jn, TyK.agg, *]; rfl) (by repeat (first | exact List.Sublist.refl _ | exact List.nil_sublist _ | refine List.Sublist.cons_cons _ ?_ | refine List.Sublist.cons _ ?_)) ?_
      exact ⟨rfl, rfl⟩
    | some t =>
      simp only at hR
      have hS := Lib.hid (Qdc t)
      generalize Qai t = sh at *
      simp only [bldE, capS, aggD, Qap, Jl, List.map_cons, List.map_nil, Pt.kind_mk, Pt.num_mk, Pt.at_mk, Pt.sub_mk, Pt.t_mk, Tm.kind_mk, Tm.num_mk, Tm.sub_mk] at HR hB hS ⊢
      cases sh with
      | false =>
        rw [if_neg (by decide)] at hR
        subst hR
        refine PCalls.enter Tryz.func17 rfl Tryz.ntmps17 (by simp) ?_
        simp only [Qab]
        refine go_ ?_
        refine Jd ?_
        intro i0 hi0
        try simp only [Ja, Rh, Rg, Jb] at hi0
        refine go_ ?_
        refine Je ?_
        intro i1 hi1
        try simp only [Ja, Rh, Rg, Jb] at hi1
        refine go_ ?_
        refine Jc (HR.out) ?_
        refine go_ ?_
        refine Qik ?_
        refine go_ ?_
        refine Re 2 2 (hB.out) ?_
        rintro _ _ ⟨rfl, rfl⟩
        simp only [List.cons_append, List.nil_append, List.append_nil, Ja, Rh, Rg]
        refine go_ ?_
        refine Je ?_
        intro i2 hi2
        try simp only [Ja, Rh, Rg, Jb] at hi2
        refine go_ ?_
        refine Rd ?_
        refine go_ ?_
        refine Jr (hS.out) ?_
        refine go_ ?_
        refine Rd ?_
        refine go_ ?_
        refine Jm (st' := [.box b5 24 [.d (.sl (pars.map encD))], .box b3 22 [.d (.sl (l.map encD))]]) (by simp) (by simp only [Tryz.results17]; rfl) (by simp [resP, St.box?, PF.get, Jn, TyK.agg, *]; rfl) (by repeat (first | exact List.Sublist.refl _ | exact List.nil_sublist _ | refine List.Sublist.cons_cons _ ?_ | refine List.Sublist.cons _ ?_)) ?_
        exact ⟨rfl, rfl⟩
      | true =>
        rw [if_pos (by rfl)] at hR
        subst hR
        refine PCalls.enter Tryz.func17 rfl Tryz.ntmps17 (by simp) ?_
        simp only [Qab]
        refine go_ ?_
        refine Jd ?_
        intro i0 hi0
        try simp only [Ja, Rh, Rg, Jb] at hi0
        refine go_ ?_
        refine Je ?_
        intro i1 hi1
        try simp only [Ja, Rh, Rg, Jb] at hi1
        refine go_ ?_
        refine Jc (HR.out) ?_
        refine go_ ?_
        refine Qik ?_
        refine go_ ?_
        refine Re 2 2 (hB.out) ?_
        rintro _ _ ⟨rfl, rfl⟩
        simp only [List.cons_append, List.nil_append, List.append_nil, Ja, Rh, Rg]
        refine go_ ?_
        refine Je ?_
        intro i2 hi2
        try simp only [Ja, Rh, Rg, Jb] at hi2
        refine go_ ?_
        refine Rd ?_
        refine go_ ?_
        refine Jr (hS.out) ?_
        refine go_ ?_
        refine Rd ?_
        refine go_ ?_
        refine Jm (st' := [.box b5 24 [.d (.sl (pars.map encD))], .box b3 22 [.d (.sl (l.map encD))]]) (by simp) (by simp only [Tryz.results17]; rfl) (by simp [resP, St.box?, PF.get, Jn, TyK.agg, *]; rfl) (by repeat (first | exact List.Sublist.refl _ | exact List.nil_sublist _ | refine List.Sublist.cons_cons _ ?_ | refine List.Sublist.cons _ ?_)) ?_
        exact ⟨rfl, rfl⟩
def x24 : Pt := .mk 2 2 0 [.mk 1 0 0 [] (.mk 0 0 [])] (.mk 0 0 [])
def o24 : Tm := .mk 5 0 [.mk 6 2 [], .mk 6 1 []]
theorem o24_sp : Qai o24 = true ∧ Qbo o24 = .mk 6 2 [] ∧ Qbr o24 = [c29] := by
 refine ⟨by decide +kernel, ?_⟩
 have h := Qhr 0 (.mk 6 2 []) (.mk 6 1 [])
 have h2 := Qfs (t := .mk 6 2 []) (by decide)
 unfold o24
 rw [h.1, h.2, h2.1, h2.2]; exact ⟨rfl, rfl⟩
theorem x24_ok : pndT x24 ≤ 8000 ∧ decide (phgT x24 ≤ 128) = true ∧ pgT baseL x24 = true ∧ arN baseL 2 = 1 := ⟨by decide +kernel, by decide +kernel, by decide +kernel, by decide +kernel⟩
theorem ask2_p (b : Nat) (B : List En) (e2 : En) (hB2 : B[2]? = some e2) (hpar : e2.pars = 0) (hlen : (2 : Int) < B.length) (hA : PCalls Tryz.prog 134 [.d (.sl (B.map encD)), .d (.v (.int .i64 2))] [] fun p s => p = .d (.v (.int .i64 1)) ∧ s = []) :
  PCalls Tryz.prog 83 [.ptr b 0, aggD x24, aggD o24] [.box b 130 [.d (.sl (B.map encD)), .d (.v (.bool false)), .d (.v (.bool false)), .nils, .nils, .d (.v (.bool false))]] fun p s => p = .tup [] ∧ ∃ g i c X, s = [.box i 26 ([.d (.v (.int .i64 6)), .d (.v (.int .i64 1)), .d (.sl [])] ++ X), .tok g 3 1 1, .box b 130 [.d (.sl (B.map encD)), .d (.v (.bool false)), .d (.v (.bool false)), .own g [[.v (.int .i64 0)]], .bsl i 1 c, .d (.v (.bool false))]] := by
 have hS := Lib.hid (tSpine_p o24 o24_sp.1)
 rw [o24_sp.2.1, o24_sp.2.2] at hS
 have h1 := Lib.hid (ask1_p b B)
 have HA := Lib.hid hA
 have hx2 : (B.map encD)[2]? = some (encD e2) := by rw [List.getElem?_map, hB2]; rfl
 have hw0 : IntKind.i64.wrap 0 = 0 := wr64 (by decide) (by decide)
 have hw1 : IntKind.i64.wrap (0 + 1) = 1 := wr64 (by decide) (by decide)
 have hw2 : IntKind.i64.wrap 1 = 1 := wr64 (by decide) (by decide)
 clear hA
 simp only [x24, o24, c29, zTm, aggD, Qap, Jl, List.map_cons, List.map_nil, Pt.kind_mk, Pt.num_mk, Pt.at_mk, Pt.sub_mk, Pt.t_mk, Tm.kind_mk, Tm.num_mk, Tm.sub_mk] at hS h1 ⊢
 refine PCalls.enter Tryz.func83 rfl Tryz.ntmps83 (by simp) ?_
 simp only [Qab]
 refine go_ ?_
 refine Jd ?_
 intro i0 hi0
 try simp only [Ja, Rh, Rg, Jb] at hi0
 refine go_ ?_
 refine Jd ?_
 intro i1 hi1
 try simp only [Ja, Rh, Rg, Jb] at hi1
 refine go_ ?_
 refine Jc (hS.out) ?_
 refine go_ ?_
 refine Je ?_
 intro i2 hi2
 try simp only [Ja, Rh, Rg, Jb] at hi2
 refine go_ ?_
 refine Rd ?_
 refine go_ ?_
 refine Qan [(0, .a), (1, .b), (2, .a), (3, .a), (4, .a), (5, .a), (6, .a), (7, .b), (8, .a), (9, .b), (10, .a), (11, .a), (12, .a), (13, .a), (14, .a), (15, .a), (16, .a), (17, .a), (18, .a), (19, .b), (20, .a), (21, .b), (22, .a), (23, .a), (24, .a), (25, .a), (26, .a), (27, .a), (28, .b), (29, .a), (30, .b), (31, .a), (32, .a), (33, .a), (34, .a)] (by kernel_rfl) (by rfl) (by kernel_rfl) ?_
 refine go_ ?_
 refine Qaa (HA.out) ?_
 refine go_ ?_
 refine Qaa (HA.out) ?_
 refine go_ ?_
 refine Qak (ι := Option (Nat × Nat × Nat × List PV)) (fun _ => True) (fun y => [(0, .ptr b 0), (6, .ptr i2 0), (7, .d (.sl [[.v (.int .i64 6), .v (.int .i64 1), .sl []]])), (119, .d (.sl [[.v (.int .i64 1), .v (.int .i64 0), .v (.int .i64 0), .sl [], .v (.int .i64 0), .v (.int .i64 0), .sl []]])), (120, .d (.v (.int .i64 1))), (121, .d (.v (.int .i64 (match y with | none => 0 | some _ => 1))))]) (fun y => match y with
  | none => [.box i2 26 [.d (.v (.int .i64 6)), .d (.v (.int .i64 2)), .d (.sl [])], .box b 130 [.d (.sl (B.map encD)), .d (.v (.bool false)), .d (.v (.bool false)), .nils, .nils, .d (.v (.bool false))]]
  | some (g, i, c, X) => [.box i 26 ([.d (.v (.int .i64 6)), .d (.v (.int .i64 1)), .d (.sl [])] ++ X), .tok g 3 1 1, .box b 130 [.d (.sl (B.map encD)), .d (.v (.bool false)), .d (.v (.bool false)), .own g [[.v (.int .i64 0)]], .bsl i 1 c, .d (.v (.bool false))]]) (fun y => match y with | none => 1 | some _ => 0) none trivial ?_ ?_ ?_
 ·repeat (first | exact Jt _ | refine Js (by simp [PF.get]; rfl) (by first | rfl | (simp [*]; done) | fail) ?_)
 ·repeat (first | exact List.Sublist.refl _ | exact List.nil_sublist _ | refine List.Sublist.cons_cons _ ?_ | refine List.Sublist.cons _ ?_)
 rintro (_ | ⟨g, i, c, X⟩) -
 ·simp only
  refine go_ ?_
  refine Je ?_
  intro i3 hi3
  try simp only [Ja, Rh, Rg, Jb] at hi3
  refine go_ ?_
  refine Rd ?_
  refine go_ ?_
  refine Qan [(0, .a), (1, .b), (2, .a), (3, .a), (4, .a), (5, .a), (6, .b), (7, .a), (8, .b), (9, .a), (10, .a), (11, .a), (12, .a), (13, .a), (14, .a), (15, .a), (16, .e)] (by kernel_rfl) (by rfl) (by kernel_rfl) ?_
  refine go_ ?_
  refine Qev 2 1 (h1.out) ?_
  rintro _ _ ⟨rfl, g, i, c, X, rfl⟩
  simp only [List.cons_append, List.nil_append, List.append_nil, Ja, Rh, Rg]
  refine go_ ?_
  exact ⟨some (g, i, c, X), trivial, by show 0 < 1; decide, by repeat (first | exact Jt _ | refine Js (by simp [PF.get]; rfl) (by first | rfl | (simp [*]; done) | fail) ?_), by repeat (first | exact List.Sublist.refl _ | exact List.nil_sublist _ | refine List.Sublist.cons_cons _ ?_ | refine List.Sublist.cons _ ?_)⟩
 ·simp only
  refine go_ ?_
  refine Jm (st' := [.box i 26 ([.d (.v (.int .i64 6)), .d (.v (.int .i64 1)), .d (.sl [])] ++ X), .tok g 3 1 1, .box b 130 [.d (.sl (B.map encD)), .d (.v (.bool false)), .d (.v (.bool false)), .own g [[.v (.int .i64 0)]], .bsl i 1 c, .d (.v (.bool false))]]) (by simp) (by simp only [Tryz.results83]; rfl) (by simp [resP, St.box?, PF.get, Jn, TyK.agg, *]; rfl) (by repeat (first | exact List.Sublist.refl _ | exact List.nil_sublist _ | refine List.Sublist.cons_cons _ ?_ | refine List.Sublist.cons _ ?_)) ?_
  exact ⟨rfl, g, i, c, X, rfl⟩
theorem Ask24_p (B : List En) (e2 : En) (hB2 : B[2]? = some e2) (hpar : e2.pars = 0) (hlen : (2 : Int) < B.length) (hA : PCalls Tryz.prog 134 [.d (.sl (B.map encD)), .d (.v (.int .i64 2))] [] fun p s => p = .d (.v (.int .i64 1)) ∧ s = [])
  (hF : PCalls Tryz.prog 80 [.d (.sl (B.map encD))] [] fun p s => p = .d (.v (.bool true)) ∧ s = []) (hg : PCalls Tryz.prog 82 [.d (.sl (B.map encD)), aggD x24] [] fun p s => p = .d (.v (.bool true)) ∧ s = []) :
  PCalls Tryz.prog 29 [.d (.sl (B.map encD)), .d (.sl ([x24].map encD)), .d (.sl ([o24].map encD))] [] fun p s => p = .tup [.agg [.d (.v (.bool true)), .d (.v (.bool false)), .d (.sl [[.v (.int .i64 0)]]), .d (.sl [[.v (.int .i64 6), .v (.int .i64 1), .sl []]])], .d (.v (.int .i64 0))] ∧ s = [] := by
 refine PCalls.freeze4 (E := 26) (es := 3) (rows := [[.v (.int .i64 6), .v (.int .i64 1), .sl []]]) (Qbs rfl) ?_
 have H2 : Hid (∀ b, _) := fun b => ask2_p b B e2 hB2 hpar hlen hA
 have HF := Lib.hid hF
 have HG := Lib.hid hg
 have hSm := Lib.hid (Qhn x24 x24_ok.1)
 rw [x24_ok.2.1] at hSm
 have hSh := Lib.hid (Qdc o24)
 rw [o24_sp.1] at hSh
 have hw1 : IntKind.i64.wrap (0 + 1) = 1 := wr64 (by decide) (by decide)
 have hw2 : IntKind.i64.wrap 1 = 1 := wr64 (by decide) (by decide)
 clear hA hF hg hB2 hpar hlen
 simp only [x24, o24, aggD, Qap, Jl, List.map_cons, List.map_nil, Pt.kind_mk, Pt.num_mk, Pt.at_mk, Pt.sub_mk, Pt.t_mk, Tm.kind_mk, Tm.num_mk, Tm.sub_mk] at H2 HG hSm hSh ⊢
 obtain ⟨PR, hPR⟩ : ∃ PR : List (List D), PR = [[.v (.int .i64 2), .v (.int .i64 2), .v (.int .i64 0), .sl [[.v (.int .i64 1), .v (.int .i64 0), .v (.int .i64 0), .sl [], .v (.int .i64 0), .v (.int .i64 0), .sl []]], .v (.int .i64 0), .v (.int .i64 0), .sl []]] := ⟨_, rfl⟩
 refine PCalls.enter Tryz.func29 rfl Tryz.ntmps29 (by simp) ?_
 simp only [Qab]
 refine go_ ?_
 refine Je ?_
 intro i0 hi0
 try simp only [Ja, Rh, Rg, Jb] at hi0
 refine go_ ?_
 refine Jr (HF.out) ?_
 refine go_ ?_
 refine Qak (ι := Bool) (fun _ => True) (fun y => [(0, .d (.sl (B.map encD))), (1, .d (.sl [[.v (.int .i64 2), .v (.int .i64 2), .v (.int .i64 0), .sl [[.v (.int .i64 1), .v (.int .i64 0), .v (.int .i64 0), .sl [], .v (.int .i64 0), .v (.int .i64 0), .sl []]], .v (.int .i64 0), .v (.int .i64 0), .sl []]])), (2, .d (.sl [[.v (.int .i64 5), .v (.int .i64 0), .sl [[.v (.int .i64 6), .v (.int .i64 2), .sl []], [.v (.int .i64 6), .v (.int .i64 1), .sl []]]]])), (6, .ptr i0 0), (23, .d (.v (.int .i64 1))), (24, .d (.v (.int .i64 (match y with | false => 0 | true => 1))))]) (fun _ => [.box i0 56 [.d (.v (.bool false)), .d (.v (.bool false)), .nils, .nils]]) (fun y => match y with | false => 1 | true => 0) false trivial ?_ ?_ ?_
 ·repeat (first | exact Jt _ | refine Js (by simp [PF.get]; rfl) (by first | rfl | (simp [*]; done) | fail) ?_)
 ·repeat (first | exact List.Sublist.refl _ | exact List.nil_sublist _ | refine List.Sublist.cons_cons _ ?_ | refine List.Sublist.cons _ ?_)
 rintro (_ | _) -
 ·simp only
  refine go_ ?_
  refine Jc (hSm.out) ?_
  refine go_ ?_
  refine Jr (HG.out) ?_
  refine go_ ?_
  refine Jr (hSh.out) ?_
  refine go_ ?_
  exact ⟨true, trivial, by decide, by repeat (first | exact Jt _ | refine Js (by simp [PF.get]; rfl) (by first | rfl | (simp [*]; done) | fail) ?_), by repeat (first | exact List.Sublist.refl _ | exact List.nil_sublist _ | refine List.Sublist.cons_cons _ ?_ | refine List.Sublist.cons _ ?_)⟩
 simp only
 refine go_ ?_
 refine Jd ?_
 intro b hb
 try simp only [Ja, Rh, Rg, Jb] at hb
 refine go_ ?_
 have h2 := Lib.hid (H2.out b)
 clear H2
 refine Qak (ι := Option (Nat × Nat × Nat × List PV)) (fun _ => True) (fun y => [(1, .d (.sl [[.v (.int .i64 2), .v (.int .i64 2), .v (.int .i64 0), .sl [[.v (.int .i64 1), .v (.int .i64 0), .v (.int .i64 0), .sl [], .v (.int .i64 0), .v (.int .i64 0), .sl []]], .v (.int .i64 0), .v (.int .i64 0), .sl []]])), (2, .d (.sl [[.v (.int .i64 5), .v (.int .i64 0), .sl [[.v (.int .i64 6), .v (.int .i64 2), .sl []], [.v (.int .i64 6), .v (.int .i64 1), .sl []]]]])), (6, .ptr i0 0), (9, .ptr b 0), (56, .d (.v (.int .i64 1))), (57, .d (.v (.int .i64 (match y with | none => 0 | some _ => 1))))]) (fun y => match y with
  | none => [.box b 130 [.d (.sl (B.map encD)), .d (.v (.bool false)), .d (.v (.bool false)), .nils, .nils, .d (.v (.bool false))], .box i0 56 [.d (.v (.bool false)), .d (.v (.bool false)), .nils, .nils]]
  | some (g, i, c, X) => [.box i 26 ([.d (.v (.int .i64 6)), .d (.v (.int .i64 1)), .d (.sl [])] ++ X), .tok g 3 1 1, .box b 130 [.d (.sl (B.map encD)), .d (.v (.bool false)), .d (.v (.bool false)), .own g [[.v (.int .i64 0)]], .bsl i 1 c, .d (.v (.bool false))], .box i0 56 [.d (.v (.bool false)), .d (.v (.bool false)), .nils, .nils]]) (fun y => match y with | none => 1 | some _ => 0) none trivial ?_ ?_ ?_
 ·repeat (first | exact Jt _ | refine Js (by simp [PF.get]; rfl) (by first | rfl | (simp [*]; done) | fail) ?_)
 ·repeat (first | exact List.Sublist.refl _ | exact List.nil_sublist _ | refine List.Sublist.cons_cons _ ?_ | refine List.Sublist.cons _ ?_)
 rintro (_ | ⟨g, i, c, X⟩) -
 ·simp only
  refine go_ ?_
  refine Qan [(0, .a), (1, .a), (2, .a), (3, .a), (4, .a), (5, .a), (6, .a), (7, .a), (8, .a), (9, .e)] (by kernel_rfl) (by rfl) (by kernel_rfl) ?_
  refine go_ ?_
  refine Qev 0 1 (h2.out) ?_
  rintro _ _ ⟨rfl, g, i, c, X, rfl⟩
  simp only [List.cons_append, List.nil_append, List.append_nil, Ja, Rh, Rg]
  refine go_ ?_
  exact ⟨some (g, i, c, X), trivial, by show 0 < 1; decide, by repeat (first | exact Jt _ | refine Js (by simp [PF.get]; rfl) (by first | rfl | (simp [*]; done) | fail) ?_), by repeat (first | exact List.Sublist.refl _ | exact List.nil_sublist _ | refine List.Sublist.cons_cons _ ?_ | refine List.Sublist.cons _ ?_)⟩
 ·simp only
  refine Qje fun hnd => ?_
  simp only [bidn_box, bidn_tok, bidn_nil, List.nodup_cons, List.mem_cons, List.not_mem_nil, not_or, or_false, not_false_eq_true, and_true, List.nodup_nil] at hnd
  obtain ⟨⟨n1, n2⟩, n3⟩ := hnd
  have n1' : ¬ b = i := fun e => n1 e.symm
  have n2' : ¬ i0 = i := fun e => n2 e.symm
  refine go_ ?_
  refine Rd ?_
  refine go_ ?_
  refine Rd ?_
  refine go_ ?_
  refine Jm (st' := [.box i 26 ([.d (.v (.int .i64 6)), .d (.v (.int .i64 1)), .d (.sl [])] ++ X)]) (by simp) (by simp only [Tryz.results29]; rfl) (by simp [resP, St.box?, PF.get, Jn, TyK.agg, *]; rfl) (by repeat (first | exact List.Sublist.refl _ | exact List.nil_sublist _ | refine List.Sublist.cons_cons _ ?_ | refine List.Sublist.cons _ ?_)) ?_
  exact ⟨i, c, X, rfl, rfl⟩
theorem awake24_p : PCalls Tryz.prog 14 [] [] fun p s => p = .d (.v (.bool true)) ∧ s = [] := by
 have hB2 : ∃ e2, baseL[2]? = some e2 ∧ e2.pars = 0 := ⟨⟨2, ⟨#[115, 117, 99]⟩, .mk 3 0 [.mk 6 0 [], .mk 6 0 []], .mk 0 0 [], 0, 1, 0, 0, 0, [], []⟩, rfl, rfl⟩
 obtain ⟨e2, hB2, hpar⟩ := hB2
 have hA := parity_p baseL 2 Qgn
 rw [x24_ok.2.2.2] at hA
 have hF := Qgy baseL base_ok
 rw [Qgn] at hF
 have hg := Qie baseL Qgn x24
 rw [x24_ok.2.2.1] at hg
 have hK := Lib.hid (Ask24_p baseL e2 hB2 hpar (by decide) hA hF hg)
 have hC1 := Lib.hid (bC_p 1)
 have hC2 := Lib.hid (bC_p 2)
 have hAp := Lib.hid (bA_p (.mk 6 2 []) [.mk 6 1 []] (by decide))
 have hB := Lib.hid rbase_p
 clear hA hF hg hB2 hpar
 generalize baseL = B at *
 simp only [x24, o24, apT, List.foldl_cons, List.foldl_nil, aggD, Qap, Jl, List.map_cons, List.map_nil, Pt.kind_mk, Pt.num_mk, Pt.at_mk, Pt.sub_mk, Pt.t_mk, Tm.kind_mk, Tm.num_mk, Tm.sub_mk] at hK hC1 hC2 hAp
 refine PCalls.enter Tryz.func14 rfl Tryz.ntmps14 (by simp) ?_
 simp only [Qab]
 refine go_ ?_
 refine Qao ?_
 refine go_ ?_
 refine Je ?_
 intro i0 hi0
 try simp only [Ja, Rh, Rg, Jb] at hi0
 refine go_ ?_
 refine Rd ?_
 refine go_ ?_
 refine Jc (hC2.out) ?_
 refine go_ ?_
 refine Jc (hC1.out) ?_
 refine go_ ?_
 refine Qao ?_
 refine go_ ?_
 refine Jc (hAp.out) ?_
 refine go_ ?_
 refine Je ?_
 intro i1 hi1
 try simp only [Ja, Rh, Rg, Jb] at hi1
 refine go_ ?_
 refine Rd ?_
 refine go_ ?_
 refine Qgo (J := Qcw [(i0, _), (i1, _)]) [(0, .a), (1, .a), (2, .a), (3, .a), (4, .a), (5, .a), (6, .a), (7, .a), (8, .a), (9, .e), (10, .e), (11, .a)] (by kernel_rfl) (by rfl) (by kernel_rfl) (by (repeat (first | exact Qam _ | refine Ju (by simp [St.box?, *] <;> rfl) ?_))) ?_
 repeat (first | with_reducible refine Qby ?_ | refine Qcb ?_ | refine Qcj ?_ | refine Qcr ?_)
 refine PJ_call2 (hB.out) ?_
 repeat (first | with_reducible refine Qby ?_ | refine Qcb ?_ | refine Qcj ?_ | refine Qcr ?_)
 refine PJ_bs ?_ rfl (by decide) rfl (by simp; rfl) (by rfl) (by simp; rfl) (by rfl) (by decide) (by decide) (by simp [nev, nevA, nevB, Jp, PF.eval, PF.get, PF.wants, cPV, Qae, PV.rows, Qaf, evUn, Jq, Qah, Qag, Jn, TyK.agg, Qad, St.box?, St.tok?, St.setBox, St.setTok, Qac, spl, PV.ps, PV.one, Jo, aggD, slD, Jh, Jk, Ji, Jj, Jg, Jf, *]; rfl) (by simp [Qcd, toDs, PV.toD]; rfl)
 repeat (first | with_reducible refine Qby ?_ | refine Qcb ?_ | refine Qcj ?_ | refine Qcr ?_)
 refine PJ_bs ?_ rfl (by decide) rfl (by simp; rfl) (by rfl) (by simp; rfl) (by rfl) (by decide) (by decide) (by simp [nev, nevA, nevB, Jp, PF.eval, PF.get, PF.wants, cPV, Qae, PV.rows, Qaf, evUn, Jq, Qah, Qag, Jn, TyK.agg, Qad, St.box?, St.tok?, St.setBox, St.setTok, Qac, spl, PV.ps, PV.one, Jo, aggD, slD, Jh, Jk, Ji, Jj, Jg, Jf, *]; rfl) (by simp [Qcd, toDs, PV.toD]; rfl)
 repeat (first | with_reducible refine Qby ?_ | refine Qcb ?_ | refine Qcj ?_ | refine Qcr ?_)
 refine PJ_call2 (hK.out) ?_
 repeat (first | with_reducible refine Qby ?_ | refine Qcb ?_ | refine Qcj ?_ | refine Qcr ?_)
 refine PJ_alloc rfl (by decide) rfl (by simp; rfl) (fun i hi => by simp only [Ja, Rh, Rg] at hi; (repeat (first | exact Qam _ | refine Ju (by simp [St.box?, *] <;> rfl) ?_))) ?_
 intro i2 hi2
 try simp only [Ja, Rh, Rg, Jb] at hi2
 repeat (first | with_reducible refine Qby ?_ | refine Qcb ?_ | refine Qcj ?_ | refine Qcr ?_)
 refine PJ_store rfl rfl (by simp [nev, nevA, nevB, Jp, PF.eval, PF.get, PF.wants, cPV, Qae, PV.rows, Qaf, evUn, Jq, Qah, Qag, Jn, TyK.agg, Qad, St.box?, St.tok?, St.setBox, St.setTok, Qac, spl, PV.ps, PV.one, Jo, aggD, slD, Jh, Jk, Ji, Jj, Jg, Jf, *]; rfl) (by rfl) (by simp [nev, nevA, nevB, Jp, PF.eval, PF.get, PF.wants, cPV, Qae, PV.rows, Qaf, evUn, Jq, Qah, Qag, Jn, TyK.agg, Qad, St.box?, St.tok?, St.setBox, St.setTok, Qac, spl, PV.ps, PV.one, Jo, aggD, slD, Jh, Jk, Ji, Jj, Jg, Jf, *]; rfl) (by simp [PV.ps, aggD, slD, Jh, Jk, Ji, Jj, Jg, Jf]; rfl) (by first | rfl | (simp [*]; done) | (simp [PV.one, *]; done) | fail) (by simp; rfl) (by first | (simp; done) | fail) (by simp [nev, nevA, nevB, Jp, PF.eval, PF.get, PF.wants, cPV, Qae, PV.rows, Qaf, evUn, Jq, Qah, Qag, Jn, TyK.agg, Qad, St.box?, St.tok?, St.setBox, St.setTok, Qac, spl, PV.ps, PV.one, Jo, aggD, slD, Jh, Jk, Ji, Jj, Jg, Jf, *]; rfl) (by rfl) (by first | (simp; done) | fail) (by simp [St.setBox, spl, *]; rfl) (by (repeat (first | exact Qam _ | refine Ju (by simp [St.box?, *] <;> rfl) ?_))) ?_
 repeat (first | with_reducible refine Qby ?_ | refine Qcb ?_ | refine Qcj ?_ | refine Qcr ?_)
 refine go_ ?_
 refine Jm (by simp) (by simp only [Tryz.results14]; rfl) (by simp [resP, St.box?, PF.get, Jn, TyK.agg, *]; rfl) Nl ?_
 exact ⟨rfl, rfl⟩
theorem ceq_refl24 (t : Tm) : ceqT t t = true := (eqT_iff t t).2 rfl
theorem rLinearN_p (l : List Pt) (hb : pndL l ≤ 8000) (hs : ∀ p ∈ l, phgT p ≤ 128) : PCalls Tryz.prog 23 [.d (.sl (l.map encD))] [] fun r s => r = .d (.v (.bool (decide (pvL l).Nodup))) ∧ s = [] := by
  by_cases hnd : (pvL l).Nodup
  · rw [decide_eq_true hnd]; exact rLinear_p l hb hs hnd
  rw [decide_eq_false hnd]
  have hV := Lib.hid (Qjj l hb hs)
  have hvl := Qfn l
  obtain ⟨v, hv⟩ : ∃ v, v = pvL l := ⟨_, rfl⟩
  rw [← hv] at hV hnd hvl
  have HN := Lib.hid hnd
  clear hv hnd hs
  refine PCalls.enter Tryz.func23 rfl Tryz.ntmps23 (by simp) ?_
  simp only [Qab]
  refine go_ ?_
  refine Jc (hV.out) ?_
  refine go_ ?_
  refine Qak (ι := Nat) (fun y => y ≤ v.length ∧ Hid (v.take y).Nodup) (fun y => [(3, .d (.sl (v.map encD))), (4, .d (.v (.int .i64 (y : Int))))]) (fun _ => []) (fun y => v.length - y) 0 ⟨Nat.zero_le _, by show (v.take 0).Nodup; simp⟩ ?_ ?_ ?_
  · repeat (first | exact Jt _ | refine Js (by simp [PF.get]; rfl) (by first | rfl | (simp [*]; done) | fail) ?_)
  · repeat (first | exact List.Sublist.refl _ | exact List.nil_sublist _ | refine List.Sublist.cons_cons _ ?_ | refine List.Sublist.cons _ ?_)
  rintro i ⟨hi, hI⟩
  by_cases hlt : i < v.length
  · have hx := Qal hlt
    simp only [Jf] at hx
    have hc : (i : Int) < v.length := by omega
    have hn : (0 : Int) ≤ i := by omega
    have hin := wr64 (n := (i : Int) + 1) (by omega) (by omega)
    have hI2 : Hid ((∀ q (hq : q < v.length), q < i → v[i] ≠ v[q]) → (v.take (i + 1)).Nodup) := fun h => by
      rw [List.take_succ_eq_append_getElem hlt, List.nodup_append]
      refine ⟨hI.out, by simp, ?_⟩
      intro a ha b hb e
      rw [List.mem_singleton] at hb
      obtain ⟨q, hq, rfl⟩ := List.mem_iff_getElem.1 ha
      rw [List.length_take] at hq
      rw [List.getElem_take] at e
      exact h q (by omega) (by omega) (by rw [← hb]; exact e.symm)
    have HLT := Lib.hid hlt
    clear hI
    refine go_ ?_
    refine Qak (ι := Nat) (fun y => y ≤ i ∧ Hid (∀ q (hq : q < v.length), q < y → v[i]'hlt ≠ v[q])) (fun y => [(3, .d (.sl (v.map encD))), (4, .d (.v (.int .i64 (i : Int)))), (5, .d (.v (.int .i64 (y : Int))))]) (fun _ => []) (fun y => i - y) 0 ⟨Nat.zero_le _, fun q hq h => by omega⟩ ?_ ?_ ?_
    · repeat (first | exact Jt _ | refine Js (by simp [PF.get]; rfl) (by first | rfl | (simp [*]; done) | fail) ?_)
    · repeat (first | exact List.Sublist.refl _ | exact List.nil_sublist _ | refine List.Sublist.cons_cons _ ?_ | refine List.Sublist.cons _ ?_)
    rintro j ⟨hj, hJ⟩
    by_cases hji : j < i
    · have hjl : j < v.length := by omega
      have hxj := Qal hjl
      simp only [Jf] at hxj
      have hcj : (j : Int) < i := by omega
      have hcj2 : (j : Int) < v.length := by omega
      have hnj : (0 : Int) ≤ j := by omega
      have hinj := wr64 (n := (j : Int) + 1) (by omega) (by omega)
      cases hne : (v[i]'hlt == v[j]'hjl) with
      | true =>
        refine go_ ?_
        refine Qan [(0, .a), (1, .a), (2, .a), (3, .a), (4, .a), (5, .a), (6, .a), (7, .a), (8, .a)] (by kernel_rfl) (by rfl) (by kernel_rfl) ?_
        refine go_ ?_
        refine Jm (by simp) (by simp only [Tryz.results23]; rfl) (by simp [resP, St.box?, PF.get, Jn, TyK.agg, *]; rfl) Nl ?_
        exact ⟨rfl, rfl⟩
      | false =>
        have hJ2 : Hid (∀ q (hq : q < v.length), q < j + 1 → v[i]'hlt ≠ v[q]) := fun q hq h => by
          by_cases e : q = j
          · subst e; exact beq_eq_false_iff_ne.1 hne
          · exact hJ.out q hq (by omega)
        clear hJ
        refine go_ ?_
        refine Qan [(0, .a), (1, .a), (2, .a), (3, .a), (4, .a), (5, .a), (6, .a), (7, .a), (8, .a)] (by kernel_rfl) (by rfl) (by kernel_rfl) ?_
        refine go_ ?_
        exact ⟨j + 1, ⟨hji, hJ2⟩, by omega, by repeat (first | exact Jt _ | refine Js (by simp [PF.get]; rfl) (by first | rfl | (simp [*]; done) | fail) ?_), by repeat (first | exact List.Sublist.refl _ | exact List.nil_sublist _ | refine List.Sublist.cons_cons _ ?_ | refine List.Sublist.cons _ ?_)⟩
    · have hcj : ¬ (j : Int) < i := by omega
      obtain rfl : j = i := by omega
      have hT := Lib.hid (hI2.out hJ.out)
      clear hJ hI2
      refine go_ ?_
      exact ⟨j + 1, ⟨HLT.out, hT⟩, by have := HLT.out; omega, by repeat (first | exact Jt _ | refine Js (by simp [PF.get]; rfl) (by first | rfl | (simp [*]; done) | fail) ?_), by repeat (first | exact List.Sublist.refl _ | exact List.nil_sublist _ | refine List.Sublist.cons_cons _ ?_ | refine List.Sublist.cons _ ?_)⟩
  · exfalso
    have h := hI.out
    rw [List.take_of_length_le (by omega)] at h
    exact HN.out h
theorem cloB_p (l : List En) (pars : List Tm) (b5 b3 i m : Nat) (x : En) (hx0 : l[i]? = some x) (hpm : x.pars = m) (hmp : m ≤ pars.length) (hil : i < l.length) : PCalls Tryz.prog 26 [.d (.v (.int .i64 i)), .ptr b5 0, .ptr b3 0] (capS b5 b3 l pars) fun p s => p = .d (.sl ((pars.take m).map encD)) ∧ s = capS b5 b3 l pars := by
 have hx : (l.map encD)[i]? = some (encD x) := by rw [List.getElem?_map, hx0]; rfl
 have hc0 : (i : Int) < l.length := by omega
 have hn0 : (0 : Int) ≤ i := by omega
 have hmi : (m : Int) ≤ pars.length := by omega
 have HS : Hid (List.drop 0 (List.take m (pars.map encD)) = ((pars.take m).map encD)) := by show _ = _; rw [List.drop_zero, List.map_take]
 obtain ⟨B, hB⟩ : ∃ B, B = pars.take m := ⟨_, rfl⟩
 rw [← hB] at HS ⊢
 unfold capS
 clear hx0 hB hil
 refine PCalls.enter Tryz.func26 rfl Tryz.ntmps26 (by simp) ?_
 simp only [Qab]
 refine go_ ?_
 refine Qje fun hnd => ?_
 simp only [bidn_box, bidn_tok, bidn_nil, List.nodup_cons, List.mem_cons, List.not_mem_nil, not_or, or_false, not_false_eq_true, and_true, List.nodup_nil] at hnd
 have n1' : ¬ b3 = b5 := fun e => hnd e.symm
 refine Qgo (J := Qcw [(b5, _), (b3, _)]) [(0, .a), (1, .a), (2, .a), (3, .a), (4, .a), (5, .a), (6, .a), (7, .a)] (by kernel_rfl) (by rfl) (by kernel_rfl) (by (repeat (first | exact Qam _ | refine Ju (by simp [St.box?, *] <;> rfl) ?_))) ?_
 repeat (first | with_reducible refine Qby ?_ | refine Qcb ?_ | refine Qcj ?_ | refine Qcr ?_)
 refine Qhg 0 m ?_ ?_ HS.out
 rotate_left
 ·exact Qdv _
 repeat (first | with_reducible refine Qby ?_ | refine Qcb ?_ | refine Qcj ?_ | refine Qcr ?_)
 refine go_ ?_
 refine Jm (st' := [.box b5 24 [.d (.sl (pars.map encD))], .box b3 22 [.d (.sl (l.map encD))]]) (by simp) (by simp only [Tryz.results26]; rfl) (by simp [resP, St.box?, PF.get, Jn, TyK.agg, *]; rfl) (by repeat (first | exact List.Sublist.refl _ | exact List.nil_sublist _ | refine List.Sublist.cons_cons _ ?_ | refine List.Sublist.cons _ ?_)) ?_
 exact ⟨rfl, rfl⟩
end Go.Proofs.YtdklpbefbamchaaGreat
