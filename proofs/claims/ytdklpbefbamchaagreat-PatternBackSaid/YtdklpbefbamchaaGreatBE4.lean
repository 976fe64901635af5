import Derived.Test.YtdklpbefbamchaaGreatBE3
import Derived.Test.YtdklpbefbamchaaGreatBE2
import Derived.Test.YtdklpbefbamchaaGreatBD
import Derived.SizedLaws
set_option linter.unusedSimpArgs false
set_option linter.unusedVariables false
set_option maxHeartbeats 16000000
set_option maxRecDepth 100000
namespace Go.Proofs.YtdklpbefbamchaaGreat
open Go.RowKit
def piN : Tm → Nat
 | .mk 3 _ [_, b] => piN b + 1
 | _ => 0
theorem piN_pi (m : Int) (a b : Tm) : piN (.mk 3 m [a, b]) = piN b + 1 := by simp only [piN]
theorem piN_no {t : Tm} (h : ¬ (t.kind = 3 ∧ t.sub.length = 2)) : piN t = 0 := by
 obtain ⟨k, m, sub⟩ := t
 unfold piN
 split
 ·rename_i e
  injection e with e1 _ e3
  exact absurd ⟨e1, by rw [Tm.sub_mk, e3]; rfl⟩ h
 ·rfl
def Qbu (t : Tm) : List Tm × Tm × Int := Qay t (min (piN t : Int) 25)
theorem tWhole_p (t : Tm) : PCalls Tryz.prog 248 [aggD t] [] fun p s => p = Qdi (Qbu t) ∧ s = [] := by
 obtain ⟨N, hN0⟩ : ∃ N, N = min (piN t) 25 := ⟨_, rfl⟩
 have HC := Lib.hid (tSplit_p t (min (piN t : Int) 25))
 rw [show min (piN t : Int) 25 = (N : Int) by omega] at HC
 have HW : Hid (Qbu t = Qay t N) := by show _ = _; unfold Qbu; rw [show min (piN t : Int) 25 = (N : Int) by omega]
 rw [HW.out]
 have HN : Hid (N = min (0 + piN t) 25) := by show _ = _; omega
 clear hN0 HW
 generalize Qay t (N : Int) = S at *
 obtain ⟨sl, sx, se⟩ := S
 unfold Qdi at HC ⊢
 simp only [aggD, Jl, List.map_cons, List.map_nil] at HC ⊢
 refine PCalls.enter Tryz.func248 rfl Tryz.ntmps248 (by simp) ?_
 simp only [Qab]
 refine go_ ?_
 refine Jd ?_
 intro i0 hi0
 refine go_ ?_
 refine Je ?_
 intro i1 hi1
 try simp only [Ja, Rh, Rg, Jb] at hi1
 refine go_ ?_
 refine Je ?_
 intro i2 hi2
 try simp only [Ja, Rh, Rg, Jb] at hi2
 refine go_ ?_
 refine Rd ?_
 refine go_ ?_
 refine Qak (ι := Nat × Nat × Tm) (fun y => y.2.1 ≤ 25 ∧ ((i1 ≠ y.1 ∧ y.1 ≠ i1) ∧ (i0 ≠ y.1 ∧ y.1 ≠ i0)) ∧ Hid (N = min (y.2.1 + piN y.2.2) 25)) (fun y => [(1, .ptr i0 0), (3, .ptr i1 0), (5, .d (.v (.int .i64 (y.2.1 : Int)))), (6, .ptr y.1 0)]) (fun y => [.box y.1 26 [.d (.v (.int .i64 y.2.2.kind)), .d (.v (.int .i64 y.2.2.num)), .d (.sl (y.2.2.sub.map encD))], .box i1 26 [.d (.v (.int .i64 0)), .d (.v (.int .i64 0)), .nils], .box i0 26 [.d (.v (.int .i64 t.kind)), .d (.v (.int .i64 t.num)), .d (.sl (t.sub.map encD))]]) (fun y => 25 - y.2.1) (i2, 0, t) ⟨Nat.zero_le _, ⟨hi2.1, hi2.2.1⟩, HN.out⟩ ?_ ?_ ?_
 ·repeat (first | exact Jt _ | refine Js (by simp [PF.get]; rfl) (by first | rfl | (simp [*]; done) | fail) ?_)
 ·repeat (first | exact List.Sublist.refl _ | exact List.nil_sublist _ | refine List.Sublist.cons_cons _ ?_ | refine List.Sublist.cons _ ?_)
 ·rintro ⟨i, j, x⟩ ⟨hj, hne, hR⟩
  simp only at hj hR hne ⊢
  clear HN hi2
  by_cases hx : x.kind = 3
  ·by_cases hl : x.sub.length = 2
   ·by_cases h24 : (j : Int) ≤ 24
    ·obtain ⟨k, m, sub⟩ := x
     have hk : k = 3 := hx
     subst hk
     match sub, (show sub.length = 2 from hl) with
     | [a, b], _ =>
     have hR2 : Hid (N = min ((j + 1) + piN b) 25) := by
      show _ = _
      rw [show N = _ from hR.out, piN_pi]; omega
     have hin := wr64 (n := (j : Int) + 1) (by omega) (by omega)
     clear hR hx hl
     simp only [Tm.kind_mk, Tm.num_mk, Tm.sub_mk, List.map_cons, List.map_nil]
     refine go_ ?_
     refine Je ?_
     intro i3 hi3
     try simp only [Ja, Rh, Rg, Jb] at hi3
     refine go_ ?_
     refine Rd ?_
     refine go_ ?_
     refine Rd ?_
     refine go_ ?_
     refine ⟨(i3, j + 1, b), ⟨by simp only; omega, ⟨hi3.2.1, hi3.2.2.1⟩, hR2⟩, by simp only; omega, ?_, ?_⟩
     ·repeat (first | exact Jt _ | refine Js (by simp [PF.get]; rfl) (by first | rfl | (simp [hin]; done) | fail) ?_)
     ·repeat (first | exact List.Sublist.refl _ | exact List.nil_sublist _ | refine List.Sublist.cons_cons _ ?_ | refine List.Sublist.cons _ ?_)
    ·have hf : N = j := by rw [show N = _ from hR.out]; omega
     clear hR
     subst hf
     refine go_ ?_
     refine Jc (HC.out) ?_
     refine go_ ?_
     refine Rd ?_
     refine go_ ?_
     refine Jm (by simp) (by simp only [Tryz.results248]; rfl) (by simp [resP, St.box?, PF.get, Jn, TyK.agg, *]; rfl) Nl ?_
     exact ⟨by simp [tupP, PV.norm2, PV.norm1, PV.norm0], rfl⟩
   ·have hf : N = j := by rw [show N = _ from hR.out, piN_no (fun h => hl h.2)]; omega
    have hl2 : ((x.sub.length : Int) == 2) = false := beq_eq_false_iff_ne.2 (by omega)
    clear hR
    subst hf
    refine go_ ?_
    refine Jc (HC.out) ?_
    refine go_ ?_
    refine Rd ?_
    refine go_ ?_
    refine Jm (by simp) (by simp only [Tryz.results248]; rfl) (by simp [resP, St.box?, PF.get, Jn, TyK.agg, *]; rfl) Nl ?_
    exact ⟨by simp [tupP, PV.norm2, PV.norm1, PV.norm0], rfl⟩
  ·have hf : N = j := by rw [show N = _ from hR.out, piN_no (fun h => hx h.1)]; omega
   clear hR
   subst hf
   refine go_ ?_
   refine Jc (HC.out) ?_
   refine go_ ?_
   refine Rd ?_
   refine go_ ?_
   refine Jm (by simp) (by simp only [Tryz.results248]; rfl) (by simp [resP, St.box?, PF.get, Jn, TyK.agg, *]; rfl) Nl ?_
   exact ⟨by simp [tupP, PV.norm2, PV.norm1, PV.norm0], rfl⟩
theorem Qhr (n : Int) (f a : Tm) : Qbo (.mk 5 n [f, a]) = Qbo f ∧ Qbr (.mk 5 n [f, a]) = Qbr f ++ [a] := by
 unfold Qbo Qbr; rw [spineT_app]; exact ⟨rfl, rfl⟩
theorem Qfs {t : Tm} (h : t.kind ≠ 5) : Qbo t = t ∧ Qbr t = [] := by
 unfold Qbo Qbr; rw [spineT_not h]; exact ⟨rfl, rfl⟩
theorem Qex (k n : Int) (a b : Tm) : cndT (.mk k n [a, b]) = cndT a + cndT b + 1 := by simp only [cndT, cndL]; omega
theorem args_len : ∀ (t : Tm), (Qbr t).length ≤ cndT t := by
 refine Tm.ind ?_
 intro k n sub ih
 unfold Qbr Qdm
 split
 ·rename_i f a
  have := ih f (by simp)
  unfold Qbr at this
  rw [List.length_append, List.length_singleton, Qex]
  omega
 ·exact Nat.zero_le _
theorem rHead_p (t : Tm) (hg : Qaj t = true) : PCalls Tryz.prog 91 [aggD t] [] fun p s => p = aggD (Qbo t) ∧ s = [] := by
 obtain ⟨R, hR0⟩ : ∃ R, R = Qbo t := ⟨_, rfl⟩
 rw [← hR0]
 have HR0 := Lib.hid hR0
 have HG := Lib.hid hg
 clear hR0 hg
 simp only [aggD, Jl, List.map_cons, List.map_nil]
 refine PCalls.enter Tryz.func91 rfl Tryz.ntmps91 (by simp) ?_
 simp only [Qab]
 refine go_ ?_
 refine Jd ?_
 intro i0 hi0
 refine go_ ?_
 refine Je ?_
 intro i1 hi1
 try simp only [Ja, Rh, Rg, Jb] at hi1
 refine go_ ?_
 refine Qak (ι := Tm) (fun x => Hid (Qaj x = true) ∧ Hid (R = Qbo x)) (fun x => [(1, .ptr i0 0), (2, .ptr i1 0)]) (fun x => [.box i1 26 [.d (.v (.int .i64 0)), .d (.v (.int .i64 0)), .nils], .box i0 26 [.d (.v (.int .i64 x.kind)), .d (.v (.int .i64 x.num)), .d (.sl (x.sub.map encD))]]) (fun x => cndT x) t ⟨HG.out, HR0.out⟩ ?_ ?_ ?_
 ·repeat (first | exact Jt _ | refine Js (by simp [PF.get]; rfl) (by first | rfl | (simp [*]; done) | fail) ?_)
 ·repeat (first | exact List.Sublist.refl _ | exact List.nil_sublist _ | refine List.Sublist.cons_cons _ ?_ | refine List.Sublist.cons _ ?_)
 ·rintro x ⟨hgx, hR⟩
  clear HR0 HG
  by_cases h5 : x.kind = 5
  ·obtain ⟨f, a, rfl, hf, ha⟩ := Qhj hgx.out h5
   have hR2 : Hid (R = Qbo f) := by show _ = _; rw [show R = _ from hR.out, (Qhr 0 f a).1]
   have hnd := Qex 5 0 f a
   clear hR h5 hgx
   simp only [Tm.kind_mk, Tm.num_mk, Tm.sub_mk, List.map_cons, List.map_nil]
   refine go_ ?_
   refine Rd ?_
   refine go_ ?_
   exact ⟨f, ⟨hf, hR2⟩, by omega, by repeat (first | exact Jt _ | refine Js (by simp [PF.get]; rfl) (by first | rfl | (simp [*]; done) | fail) ?_), by repeat (first | exact List.Sublist.refl _ | exact List.nil_sublist _ | refine List.Sublist.cons_cons _ ?_ | refine List.Sublist.cons _ ?_)⟩
  ·have hf : Hid (R = x) := by show _ = _; rw [show R = _ from hR.out, (Qfs h5).1]
   clear hR
   refine go_ ?_
   refine Rd ?_
   refine go_ ?_
   refine Jm (by simp) (by simp only [Tryz.results91]; rfl) (by simp [resP, St.box?, PF.get, Jn, TyK.agg, *]; rfl) Nl ?_
   exact ⟨by rw [hf.out]; simp [tupP, PV.norm2, PV.norm1, PV.norm0], rfl⟩
theorem rargs_o : ∀ (m : Nat) (t : Tm), cndT t ≤ m → Qaj t = true → cndT t ≤ 100000 → PCalls Tryz.prog 92 [aggD t] [] fun p s => ∃ g, p = .own g ((Qbr t).map encD) ∧ s = [.tok g 26 3 (Qbr t).length] := by
  intro m
  induction m with
  | zero => intro t h; have := Qeo t; omega
  | succ m ih =>
    intro t hm hg hnd
    by_cases h5 : t.kind = 5
    · obtain ⟨f, a, rfl, hf, ha⟩ := Qhj hg h5
      have hn2 := Qex 5 0 f a
      have hp := Qeo a
      have IH := Lib.hid (ih f (by omega) hf (by omega))
      rw [(Qhr 0 f a).2]
      have hal : (Qbr f).length ≤ 100000 := Nat.le_trans (args_len f) (by omega)
      clear ih hm hg h5
      generalize Qbr f = l at *
      simp only [aggD, Jl, List.map_cons, List.map_nil, Tm.kind_mk, Tm.num_mk, Tm.sub_mk] at IH ⊢
      refine PCalls.enter Tryz.func92 rfl Tryz.ntmps92 (by simp) ?_
      simp only [Qab]
      refine go_ ?_
      refine Jd ?_
      intro i0 hi0
      refine go_ ?_
      refine Qgp (J := Qcw [(i0, _)]) [(0, .a), (1, .a), (2, .a), (3, .a), (5, .a), (6, .a), (7, .a), (8, .a), (9, .a), (4, .e), (10, .e), (11, .a)] (by kernel_rfl) (by rfl) (by kernel_rfl) (by (repeat (first | exact Qam _ | refine Ju (by simp [St.box?, *] <;> rfl) ?_))) ?_
      repeat (first | with_reducible refine Qar ?_ | refine Qaq ?_ | refine Qax ?_ | refine Qaw ?_)
      refine PL_bs ?_ rfl (by decide) rfl (by simp; rfl) (by rfl) (by simp; rfl) (by rfl) (by decide) (by decide) (by simp [nev, nevA, nevB, Jp, PF.eval, PF.get, PF.wants, cPV, Qae, PV.rows, Qaf, evUn, Jq, Qah, Qag, Jn, TyK.agg, Qad, St.box?, St.tok?, St.setBox, St.setTok, Qac, spl, PV.ps, PV.one, Jo, aggD, slD, Jh, Jk, Ji, Jj, Jg, Jf, *]; rfl) (by simp [Qcd, toDs, PV.toD]; rfl)
      repeat (first | with_reducible refine Qar ?_ | refine Qaq ?_ | refine Qax ?_ | refine Qaw ?_)
      refine PL_callX 0 0 (IH.out) ?_
      rintro _ _ ⟨g, rfl, rfl⟩
      refine ⟨.inr (by (repeat (first | exact Qam _ | refine Ju (by simp [St.box?, *] <;> rfl) ?_))), ?_⟩
      refine PL_app (l.length + 1) ?_ ?_ ?_ ?_ ?_
      rotate_left
      · exact Qdv _
      · exact Qbs rfl
      · simp
      · exact .inr (by (repeat (first | exact Qam _ | refine Ju (by simp [St.box?, *] <;> rfl) ?_)))
      repeat (first | with_reducible refine Qar ?_ | refine Qaq ?_ | refine Qax ?_ | refine Qaw ?_)
      refine go_ ?_
      refine Qgv (st' := [.tok g 26 3 (l.length + 1)]) (by simp) (by simp only [Tryz.results92]; rfl) (by simp [resP, PF.get]; rfl) (by repeat (first | exact List.Sublist.refl _ | exact List.nil_sublist _ | refine List.Sublist.cons_cons _ ?_ | refine List.Sublist.cons _ ?_)) ⟨g, by simp [tupP], by simp⟩
    · rw [(Qfs h5).2]
      simp only [aggD, Jl, List.map_cons, List.map_nil]
      have h5b : (t.kind != 5) = true := bne_iff_ne.2 h5
      refine PCalls.enter Tryz.func92 rfl Tryz.ntmps92 (by simp) ?_
      simp only [Qab]
      refine go_ ?_
      refine Jd ?_
      intro i0 hi0
      refine go_ ?_
      refine Qdo ?_ (by decide) (by first | (simp [nev, nevA, nevB, Jp, PF.eval, PF.get, PF.wants, cPV, Qae, PV.rows, Qaf, evUn, Jq, Qah, Qag, Jn, TyK.agg, Qad, St.box?, St.tok?, St.setBox, St.setTok, Qac, spl, PV.ps, PV.one, Jo, aggD, slD, Jh, Jk, Ji, Jj, Jg, Jf, *]; done) | fail) (by simp; rfl) (by rfl) (by simp; rfl) (by rfl) (by decide)
      intro g hg2
      refine go_ ?_
      refine Qgv (st' := [.tok g 26 3 0]) (by simp) (by simp only [Tryz.results92]; rfl) (by simp [resP, PF.get]; rfl) (by repeat (first | exact List.Sublist.refl _ | exact List.nil_sublist _ | refine List.Sublist.cons_cons _ ?_ | refine List.Sublist.cons _ ?_)) ⟨g, by simp [tupP], by simp⟩
theorem rArgs_p (t : Tm) (hg : Qaj t = true) (hn : cndT t ≤ 100000) : PCalls Tryz.prog 92 [aggD t] [] fun p s => p = .d (.sl ((Qbr t).map encD)) ∧ s = [] :=
 (rargs_o _ t (Nat.le_refl _) hg hn).norm fun p st ⟨g, e1, e2⟩ => ⟨by rw [e1]; rfl, rfl⟩
def Qat : Tm → List Tm
 | .mk 3 _ [a, b] => a :: Qat b
 | _ => []
def benT : Tm → Tm
  | .mk k n sub => match k, sub with
    | 3, [_, b] => benT b
    | k, sub => .mk k n sub
theorem Qij (m : Int) (a b : Tm) : Qat (.mk 3 m [a, b]) = a :: Qat b ∧ benT (.mk 3 m [a, b]) = benT b := by constructor <;> simp only [Qat, benT]
theorem Qii {t : Tm} (h : t.kind ≠ 3) : Qat t = [] ∧ benT t = t := by
 obtain ⟨k, m, sub⟩ := t
 have hk : k ≠ 3 := h
 constructor
 ·unfold Qat
  split
  ·rename_i e; injection e with e1 _ _; exact absurd e1 hk
  ·rfl
 ·unfold benT
  split
  ·exact absurd rfl hk
  ·rfl
theorem tele_len : ∀ (t : Tm), (Qat t).length ≤ cndT t := by
 refine Tm.ind ?_
 intro k n sub ih
 unfold Qat
 split
 ·rename_i a b e
  injection e with e1 e2 e3
  subst e1; subst e2; subst e3
  have := ih b (by simp)
  rw [List.length_cons, Qex]; omega
 ·exact Nat.zero_le _
theorem rTele_p (t : Tm) (hg : Qaj t = true) (hn : cndT t ≤ 100000) : PCalls Tryz.prog 154 [aggD t] [] fun p s => p = .d (.sl ((Qat t).map encD)) ∧ s = [] := by
 obtain ⟨R, hR0⟩ : ∃ R, R = Qat t := ⟨_, rfl⟩
 have hlen := tele_len t
 rw [← hR0] at hlen ⊢
 have HR0 : Hid (R = [] ++ Qat t) := hR0
 have HG := Lib.hid hg
 clear hR0 hg
 simp only [aggD, Jl, List.map_cons, List.map_nil]
 refine PCalls.enter Tryz.func154 rfl Tryz.ntmps154 (by simp) ?_
 simp only [Qab]
 refine go_ ?_
 refine Jd ?_
 intro i0 hi0
 refine go_ ?_
 refine Qdo ?_ (by decide) (by first | (simp [nev, nevA, nevB, Jp, PF.eval, PF.get, PF.wants, cPV, Qae, PV.rows, Qaf, evUn, Jq, Qah, Qag, Jn, TyK.agg, Qad, St.box?, St.tok?, St.setBox, St.setTok, Qac, spl, PV.ps, PV.one, Jo, aggD, slD, Jh, Jk, Ji, Jj, Jg, Jf, *]; done) | fail) (by simp; rfl) (by rfl) (by simp; rfl) (by rfl) (by decide)
 intro g hg
 refine go_ ?_
 refine Qak (ι := List Tm × Tm) (fun y => Hid (Qaj y.2 = true) ∧ Hid (R = y.1 ++ Qat y.2)) (fun y => [(1, .ptr i0 0), (3, .own g (y.1.map encD))]) (fun y => [.tok g 26 3 y.1.length, .box i0 26 [.d (.v (.int .i64 y.2.kind)), .d (.v (.int .i64 y.2.num)), .d (.sl (y.2.sub.map encD))]]) (fun y => cndT y.2) ([], t) ⟨HG.out, HR0.out⟩ ?_ ?_ ?_
 ·repeat (first | exact Jt _ | refine Js (by simp [PF.get]; rfl) (by first | rfl | (simp [*]; done) | fail) ?_)
 ·repeat (first | exact List.Sublist.refl _ | exact List.nil_sublist _ | refine List.Sublist.cons_cons _ ?_ | refine List.Sublist.cons _ ?_)
 ·rintro ⟨l, x⟩ ⟨hgx, hR⟩
  simp only at hgx hR ⊢
  clear HR0 HG
  by_cases h3 : x.kind = 3
  ·obtain ⟨a, b, rfl, ha, hb⟩ := Qgi hgx.out h3
   have hR2 : Hid (R = (l ++ [a]) ++ Qat b) := by show _ = _; rw [show R = _ from hR.out, (Qij 0 a b).1, List.append_assoc]; rfl
   have hnd := Qex 3 0 a b
   have hll : l.length ≤ 100000 := by
    have := congrArg List.length hR2.out
    simp only [List.length_append] at this
    omega
   clear hR h3 hgx
   simp only [Tm.kind_mk, Tm.num_mk, Tm.sub_mk, List.map_cons, List.map_nil]
   refine go_ ?_
   refine Qao ?_
   refine go_ ?_
   refine Qbe (l.length + 1) ?_ ?_ ?_ ?_
   ·simp
   ·exact Qdv _
   ·exact Qbs rfl
   refine go_ ?_
   refine Rd ?_
   refine go_ ?_
   refine ⟨(l ++ [a], b), ⟨hb, hR2⟩, by simp only; omega, ?_, ?_⟩
   ·repeat (first | exact Jt _ | refine Js (by simp [PF.get]; rfl) (by first | rfl | (simp [*]; done) | fail) ?_)
   ·simp only [List.length_append, List.length_singleton]
    repeat (first | exact List.Sublist.refl _ | exact List.nil_sublist _ | refine List.Sublist.cons_cons _ ?_ | refine List.Sublist.cons _ ?_)
  ·have hf : Hid (R = l) := by show _ = _; rw [show R = _ from hR.out, (Qii h3).1, List.append_nil]
   clear hR
   refine go_ ?_
   refine Jm (by simp) (by simp only [Tryz.results154]; rfl) (by simp [resP, St.box?, PF.get, Jn, TyK.agg, *]; rfl) Nl ?_
   exact ⟨by rw [hf.out]; rfl, rfl⟩
theorem rBeneath_p (t : Tm) (hg : Qaj t = true) : PCalls Tryz.prog 158 [aggD t] [] fun p s => p = aggD (benT t) ∧ s = [] := by
 obtain ⟨R, hR0⟩ : ∃ R, R = benT t := ⟨_, rfl⟩
 rw [← hR0]
 have HR0 := Lib.hid hR0
 have HG := Lib.hid hg
 clear hR0 hg
 simp only [aggD, Jl, List.map_cons, List.map_nil]
 refine PCalls.enter Tryz.func158 rfl Tryz.ntmps158 (by simp) ?_
 simp only [Qab]
 refine go_ ?_
 refine Jd ?_
 intro i0 hi0
 refine go_ ?_
 refine Je ?_
 intro i1 hi1
 try simp only [Ja, Rh, Rg, Jb] at hi1
 refine go_ ?_
 refine Qak (ι := Tm) (fun x => Hid (Qaj x = true) ∧ Hid (R = benT x)) (fun x => [(1, .ptr i0 0), (2, .ptr i1 0)]) (fun x => [.box i1 26 [.d (.v (.int .i64 0)), .d (.v (.int .i64 0)), .nils], .box i0 26 [.d (.v (.int .i64 x.kind)), .d (.v (.int .i64 x.num)), .d (.sl (x.sub.map encD))]]) (fun x => cndT x) t ⟨HG.out, HR0.out⟩ ?_ ?_ ?_
 ·repeat (first | exact Jt _ | refine Js (by simp [PF.get]; rfl) (by first | rfl | (simp [*]; done) | fail) ?_)
 ·repeat (first | exact List.Sublist.refl _ | exact List.nil_sublist _ | refine List.Sublist.cons_cons _ ?_ | refine List.Sublist.cons _ ?_)
 ·rintro x ⟨hgx, hR⟩
  clear HR0 HG
  by_cases h3 : x.kind = 3
  ·obtain ⟨a, b, rfl, ha, hb⟩ := Qgi hgx.out h3
   have hR2 : Hid (R = benT b) := by show _ = _; rw [show R = _ from hR.out, (Qij 0 a b).2]
   have hnd := Qex 3 0 a b
   clear hR h3 hgx
   simp only [Tm.kind_mk, Tm.num_mk, Tm.sub_mk, List.map_cons, List.map_nil]
   refine go_ ?_
   refine Rd ?_
   refine go_ ?_
   exact ⟨b, ⟨hb, hR2⟩, by omega, by repeat (first | exact Jt _ | refine Js (by simp [PF.get]; rfl) (by first | rfl | (simp [*]; done) | fail) ?_), by repeat (first | exact List.Sublist.refl _ | exact List.nil_sublist _ | refine List.Sublist.cons_cons _ ?_ | refine List.Sublist.cons _ ?_)⟩
  ·have hf : Hid (R = x) := by show _ = _; rw [show R = _ from hR.out, (Qii h3).2]
   clear hR
   refine go_ ?_
   refine Rd ?_
   refine go_ ?_
   refine Jm (by simp) (by simp only [Tryz.results158]; rfl) (by simp [resP, St.box?, PF.get, Jn, TyK.agg, *]; rfl) Nl ?_
   exact ⟨by rw [hf.out]; simp [tupP, PV.norm2, PV.norm1, PV.norm0], rfl⟩
theorem lst3 {cs : List Value} (h : cs.length = 3) : ∃ a b c, cs = [a, b, c] := by
 match cs, h with
 | [a, b, c], _ => exact ⟨a, b, c, rfl⟩
theorem repF_tail {S : Nat → Prop} {w : World} {ds : List Dt} {cs : List Value} {o n : Nat} (h : RepF S w ds ((cs.drop o).take n)) (hl : cs.length ≤ o + n) : RepF S w ds (cs.drop o) := by
 rwa [List.take_of_length_le (by rw [List.length_drop]; omega)] at h
def Wl {H : Type} (P : Program) (t : TypeId) (d : DataW H) : Prop := (DataW.weights P t d).all (· ≤ reachBytes) = true
section
variable {H : Type} {P : Program}
theorem wl_arg {ts : List TypeId} {ds : List (DataW H)} (h : (DataW.weightsEach P ts ds).all (· ≤ reachBytes) = true) {j : Nat} {t : TypeId} {d : DataW H} (ht : ts[j]? = some t) (hd : ds[j]? = some d) : Wl P t d := by
 unfold Wl
 rw [List.all_eq_true] at h ⊢
 exact fun w hw => h w (DataW.weights_mem_each ht hd w hw)
theorem weights_all {e : TypeId} {d : DataW H} {x : Nat} (hx : x ∈ DataW.weights P e d) : ∀ l : List (DataW H), d ∈ l → x ∈ DataW.weightsAll P e l := by
  intro l
  induction l with
  | nil => intro h; cases h
  | cons y l ih =>
    intro h
    simp only [DataW.weightsAll, List.mem_append]
    rcases List.mem_cons.1 h with rfl | h
    · exact .inl hx
    · exact .inr (ih h)
theorem wl_slice {t e : TypeId} {elems spare : List (DataW H)} (hu : P.underlying t = some (.slice e)) (h : Wl P t (.slice elems spare)) : (elems.length + spare.length) * P.bytesOf e ≤ reachBytes ∧ ∀ d ∈ elems, Wl P e d := by
 unfold Wl at h
 simp only [DataW.weights, hu, List.all_cons, Bool.and_eq_true, decide_eq_true_eq, List.all_eq_true, List.mem_append] at h
 refine ⟨h.1, fun d hd => ?_⟩
 unfold Wl
 rw [List.all_eq_true]
 exact fun w hw => by simpa using h.2 w (.inl (weights_all hw _ hd))
end
section
variable {H : Type} {enc : TypeId × Value → H} {w : World} {base : Nat} {spare : Nat → Bool} {held : Bool}
def OpnB (α : Type) [Enc α] (Ok : α → Prop) (enc : TypeId × Value → H) (w : World) (base : Nat) (spare : Nat → Bool) (held : Bool) (T : TypeId) (n : Nat) : Prop :=
 ∀ (cs : List Value) (x : DataW H × List MemPlace), DataW.trod enc Tryz.prog w base spare held n T cs = some x → Wl Tryz.prog T x.1 → ∃ a : α, Rep (fun _ => True) w a cs ∧ Ok a
theorem OpnAt.toB {α : Type} [Enc α] {T : TypeId} {n : Nat} (h : OpnAt α enc w base spare held T n) : OpnB α (fun _ => True) enc w base spare held T n := fun cs x h1 _ => by
 obtain ⟨a, ha⟩ := h cs x h1
 exact ⟨a, ha, trivial⟩
theorem opnB_slice {α : Type} [Enc α] {Ok : α → Prop} {T e : TypeId} {n : Nat} (ht : Tryz.prog.underlying T = some (.slice e)) (hc : Tryz.prog.cellsOf e = Enc.sz α) (hpos : 0 < Enc.sz α)
  (ih : ∀ m, m < n → OpnB α Ok enc w base spare held e m) {cs : List Value} {x : DataW H × List MemPlace} (h : DataW.trod enc Tryz.prog w base spare held n T cs = some x) (hw : Wl Tryz.prog T x.1) : ∃ (v : Value) (l : List α), cs = [v] ∧ RepS (fun _ => True) w v l ∧ (∀ a ∈ l, Ok a) ∧ l.length * Tryz.prog.bytesOf e ≤ reachBytes := by
 rcases DataW.trod_slice ht h with ⟨rfl, _⟩ | ⟨a, len, cap, elems, rest, m, rfl, rfl, rfl, _, hl, hm, hlen, hel, _, _⟩
 ·exact ⟨_, [], rfl, RepS.nil, by simp, by simp⟩
 ·rw [hc] at hel
  obtain ⟨hb, hws⟩ := wl_slice ht hw
  have each : ∀ i, i < len → ∃ p : List Value × α, w.cells? base (a.add (i * Enc.sz α)) (Enc.sz α) = some p.1 ∧ (Rep (fun _ => True) w p.2 p.1 ∧ Ok p.2) := by
   intro i hi
   have h1 := hel i hi
   rw [List.getElem?_eq_getElem (by omega)] at h1
   obtain ⟨cs', h2, h3⟩ := Option.bind_eq_some_iff.1 h1
   obtain ⟨t, ht⟩ := ih m (by omega) cs' _ h3 (hws _ (List.mem_map.2 ⟨_, List.getElem_mem _, rfl⟩))
   exact ⟨(cs', t), h2, ht⟩
  obtain ⟨ps, hpl, hp⟩ := Qjs (Q := fun i (p : List Value × α) => w.cells? base (a.add (i * Enc.sz α)) (Enc.sz α) = some p.1 ∧ (Rep (fun _ => True) w p.2 p.1 ∧ Ok p.2)) each
  refine ⟨_, ps.map (·.2), rfl, RepS.mk (css := ps.map (·.1)) ?_ ?_, ?_, ?_⟩
  ·refine ⟨some a, cap, by simp [hpl], by simpa [hpl] using hl, hm, fun hne => ?_⟩
   have hl0 : 0 < ps.length := by
    cases ps with
    | nil => exact absurd rfl hne
    | cons _ _ => simp
   obtain ⟨_, hcl0, hcell0⟩ := World.cells?_some (hp 0 hl0).1
   have h0 := hcell0 0 hpos
   simp only [Nat.zero_mul, Addr.add, if_true] at h0
   rw [List.getElem?_eq_getElem (by omega)] at h0
   have hs : a.spot = none := Qjp h0
   refine ⟨a.block, a.off, by cases a; simp_all, trivial, World.block_lt_of_cell? w _ h0, fun i c hic => ?_⟩
   simp only [List.getElem?_map, Option.map_eq_some_iff] at hic
   obtain ⟨p, hpi, rfl⟩ := hic
   obtain ⟨hi, hpe⟩ := List.getElem?_eq_some_iff.1 hpi
   have hpp := (hp i hi).1
   rw [hpe] at hpp
   obtain ⟨_, hcl, hcell⟩ := World.cells?_some hpp
   refine ⟨hcl, fun j u hu => ?_⟩
   have hj : j < Enc.sz α := by
    have := (List.getElem?_eq_some_iff.1 hu).1; omega
   have := hcell j hj
   rw [hu, Qfm (x := a) hs, Qfm rfl] at this
   simpa [Nat.add_assoc] using this
  ·refine RepL.mk (by simp) fun i hi => ?_
   have hi' : i < ps.length := by simpa using hi
   exact ⟨ps[i].1, by simp [hi'], by have h := (hp i hi').2.1; unfold Rep at h; simpa using h⟩
  ·intro y hy
   obtain ⟨p, hpm, rfl⟩ := List.mem_map.1 hy
   obtain ⟨i, hi, rfl⟩ := List.getElem_of_mem hpm
   exact (hp i hi).2.2
  ·rw [List.length_map, hpl]
   refine Nat.le_trans (Nat.mul_le_mul_right _ ?_) hb
   rw [List.length_map]; omega
theorem opn_tm : ∀ (n : Nat), OpnAt Tm enc w base spare held 26 n := by
  intro n
  induction n using Nat.strongRecOn with
  | ind n ih =>
    intro cs x h
    obtain ⟨xs, m, rfl, _, hlen, hxs, hf⟩ := DataW.trod_struct Tryz.underlying26 h
    have hc : Tryz.prog.cellsOf 26 = 3 := by kernel_rfl
    have hc3 : Tryz.prog.cellsOf 3 = 1 := by kernel_rfl
    have hcs : Tryz.prog.cellsOf 24 = 1 := by kernel_rfl
    rw [hc] at hlen
    obtain ⟨c0, c1, c2, rfl⟩ := lst3 hlen
    match xs, hxs with
    | [x0, x1, x2], _ =>
      have h0 : DataW.trod enc Tryz.prog w base spare held m 3 (([c0, c1, c2].drop 0).take (Tryz.prog.cellsOf 3)) = some x0 := hf 0 _ rfl
      have h1 : DataW.trod enc Tryz.prog w base spare held m 3 (([c0, c1, c2].drop 1).take (Tryz.prog.cellsOf 3)) = some x1 := hf 1 _ rfl
      have h2 : DataW.trod enc Tryz.prog w base spare held m 24 (([c0, c1, c2].drop 2).take (Tryz.prog.cellsOf 24)) = some x2 := hf 2 _ rfl
      rw [hc3] at h0 h1
      rw [hcs] at h2
      obtain ⟨k, hk⟩ := Qic (by kernel_rfl) m _ _ h0
      obtain ⟨a, ha⟩ := Qic (by kernel_rfl) m _ _ h1
      obtain ⟨v, l, hv, hl⟩ := opn_slice (α := Tm) Tryz.underlying24 hc (by decide) (fun m' hm' => ih m' (by omega)) h2
      have e : [c0] = [.int .i64 k] := rep_int.1 hk
      have e1 : [c1] = [.int .i64 a] := rep_int.1 ha
      have e2 : [c2] = [v] := hv
      obtain rfl := (List.cons.inj e).1
      obtain rfl := (List.cons.inj e1).1
      obtain rfl := (List.cons.inj e2).1
      exact ⟨.mk k a l, rep_tm.2 ⟨c2, rfl, hl⟩⟩
end
end Go.Proofs.YtdklpbefbamchaaGreat
