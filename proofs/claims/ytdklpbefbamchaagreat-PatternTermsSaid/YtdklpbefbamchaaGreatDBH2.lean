import Derived.Test.YtdklpbefbamchaaGreatDBH1
import Derived.Test.YtdklpbefbamchaaGreatDBG
import Derived.Test.YtdklpbefbamchaaGreatDBA6
import Derived.Test.YtdklpbefbamchaaGreatDBE
import Derived.Test.YtdklpbefbamchaaGreatDBH
import Derived.Test.YtdklpbefbamchaaGreatDBE3
import Derived.Test.YtdklpbefbamchaaGreatDBE4
import Derived.Test.YtdklpbefbamchaaGreatDBG1
import Derived.Test.YtdklpbefbamchaaGreatDBS3
set_option linter.unusedSimpArgs false
set_option linter.unusedVariables false
set_option maxHeartbeats 16000000
set_option maxRecDepth 100000
namespace Go.Proofs.YtdklpbefbamchaaGreat
open Go.RowKit
theorem r29Matrix_p (l : List En) (p : List Pt) (args : List Tm) (hF : formedB l = true) (hp : ∀ x ∈ p, pgT l x = true) (ha : ∀ a ∈ args, Qad a = true) (hpl : p.length ≤ 1000) (hal : args.length ≤ 1000) : PCalls Tryz.prog 48 [.d (.sl (l.map encD)), .d (.sl (p.map encD)), .d (.sl (args.map encD))] [] fun r s => r = .d (.sl ((mxL l p args).map rowD)) ∧ s = [] := by
 have HS : Hid (∀ x ∈ p, ∀ a ∈ args, PCalls Tryz.prog 46 [.d (.sl (l.map encD)), aggD x, aggD a] [] fun r s => r = .d (.v (.int .i64 (Qat l x a))) ∧ s = []) := fun x hx a h => r29Stand_p l hF x a (hp x hx) (ha a h)
 obtain ⟨R, hR⟩ : ∃ R, R = mxL l p args := ⟨_, rfl⟩
 rw [← hR]
 have HR : Hid (R = p.map fun x => args.map fun a => Qat l x a) := hR
 clear hR hF hp ha
 refine PCalls.enter Tryz.func48 rfl Tryz.ntmps48 (by simp) ?_
 simp only [Qab]
 refine go_ ?_
 refine Qdq ?_ (by decide) (by first | (simp [nev, nevA, nevB, Jp, PF.eval, PF.get, PF.wants, cPV, Qag, PV.rows, Qah, evUn, Jq, Qaj, Qai, Jn, TyK.agg, Qaf, St.box?, St.tok?, St.setBox, St.setTok, Qae, spl, PV.ps, PV.one, Jo, aggD, slD, Jh, Jk, Ji, Jj, Jg, Jf, *]; done) | fail) (by simp; rfl) (by rfl) (by simp; rfl) (by rfl) (by decide)
 intro g hg
 refine go_ ?_
 refine Qak (ι := List (List Int) × Nat) (fun y => y.2 ≤ p.length ∧ Hid (y.1 = (p.take y.2).map fun x => args.map fun a => Qat l x a)) (fun y => [(0, .d (.sl (l.map encD))), (1, .d (.sl (p.map encD))), (2, .d (.sl (args.map encD))), (7, .own g (y.1.map rowD)), (8, .d (.v (.int .i64 (y.2 : Int))))]) (fun y => [.tok g 38 1 y.1.length]) (fun y => p.length - y.2) ([], 0) ⟨Nat.zero_le _, rfl⟩ ?_ ?_ ?_
 ·repeat (first | exact Jt _ | refine Js (by simp [PF.get]; rfl) (by first | rfl | (simp [*]; done) | fail) ?_)
 ·repeat (first | exact List.Sublist.refl _ | exact List.nil_sublist _ | refine List.Sublist.cons_cons _ ?_ | refine List.Sublist.cons _ ?_)
 rintro ⟨M, j⟩ ⟨hj, hM⟩
 simp only at hj hM ⊢
 by_cases hlt : j < p.length
 ·have hx := Qal hlt
  have hc : (j : Int) < p.length := by omega
  have hn : (0 : Int) ≤ j := by omega
  have hin := wr64 (n := (j : Int) + 1) (by omega) (by omega)
  have HM : Hid (M ++ [args.map fun a => Qat l p[j] a] = (p.take (j + 1)).map fun x => args.map fun a => Qat l x a) := by show _ = _; rw [List.take_succ_eq_append_getElem hlt, List.map_append, show M = _ from hM.out]; rfl
  have hml : M.length ≤ 1000 := by rw [show M = _ from hM.out, List.length_map, List.length_take]; omega
  have HS1 := Lib.hid (HS.out _ (List.getElem_mem hlt))
  obtain ⟨N, hN⟩ : ∃ N, N = args.map fun a => Qat l p[j] a := ⟨_, rfl⟩
  rw [← hN] at HM
  have HN := Lib.hid hN
  clear hM hN
  refine go_ ?_
  refine Qdq ?_ (by decide) (by first | (simp [nev, nevA, nevB, Jp, PF.eval, PF.get, PF.wants, cPV, Qag, PV.rows, Qah, evUn, Jq, Qaj, Qai, Jn, TyK.agg, Qaf, St.box?, St.tok?, St.setBox, St.setTok, Qae, spl, PV.ps, PV.one, Jo, aggD, slD, Jh, Jk, Ji, Jj, Jg, Jf, *]; done) | fail) (by simp; rfl) (by rfl) (by simp; rfl) (by rfl) (by decide)
  intro g1 hg1
  simp only [St.freshT_tok, St.freshT_box, St.freshT_nil] at hg1
  refine go_ ?_
  refine Qak (ι := List Int × Nat) (fun y => y.2 ≤ args.length ∧ Hid (y.1 = (args.take y.2).map fun a => Qat l p[j] a)) (fun y => [(0, .d (.sl (l.map encD))), (1, .d (.sl (p.map encD))), (2, .d (.sl (args.map encD))), (7, .own g (M.map rowD)), (8, .d (.v (.int .i64 (j : Int)))), (9, .own g1 (y.1.map encD)), (10, .d (.v (.int .i64 (y.2 : Int))))]) (fun y => [.tok g1 3 1 y.1.length, .tok g 38 1 M.length]) (fun y => args.length - y.2) ([], 0) ⟨Nat.zero_le _, rfl⟩ ?_ ?_ ?_
  ·repeat (first | exact Jt _ | refine Js (by simp [PF.get]; rfl) (by first | rfl | (simp [*]; done) | fail) ?_)
  ·repeat (first | exact List.Sublist.refl _ | exact List.nil_sublist _ | refine List.Sublist.cons_cons _ ?_ | refine List.Sublist.cons _ ?_)
  rintro ⟨V, k⟩ ⟨hk, hV⟩
  simp only at hk hV ⊢
  by_cases hkl : k < args.length
  ·have hxa := Qal hkl
   have hck : (k : Int) < args.length := by omega
   have hnk : (0 : Int) ≤ k := by omega
   have hink := wr64 (n := (k : Int) + 1) (by omega) (by omega)
   have HV : Hid (V ++ [Qat l p[j] args[k]] = (args.take (k + 1)).map fun a => Qat l p[j] a) := by show _ = _; rw [List.take_succ_eq_append_getElem hkl, List.map_append, show V = _ from hV.out]; rfl
   have hvl : V.length ≤ 1000 := by rw [show V = _ from hV.out, List.length_map, List.length_take]; omega
   have hc1 := Lib.hid (HS1.out _ (List.getElem_mem hkl))
   simp only [aggD, Qao, Jl, List.map_cons, List.map_nil] at hc1
   clear hV
   generalize Qat l p[j] args[k] = q at *
   refine go_ ?_
   refine Qax [(0, .a), (1, .a), (2, .a), (3, .a), (4, .a), (5, .a), (6, .a), (7, .a), (8, .a), (9, .a), (10, .a), (11, .a), (12, .e), (13, .a)] (by kernel_rfl) (by rfl) (by kernel_rfl) ?_
   refine go_ ?_
   refine Qaa (hc1.out) ?_
   refine go_ ?_
   refine Qbv ?_
   refine go_ ?_
   refine POrd_app_a (V.length + 1) ?_ ?_ ?_ ?_
   ·simp
   ·exact Qil (α := Int) rfl
   ·exact Qbw rfl
   refine go_ ?_
   refine ⟨(V ++ [q], k + 1), ⟨hkl, HV⟩, by simp only; omega, ?_, ?_⟩
   ·repeat (first | exact Jt _ | refine Js (by simp [PF.get]; rfl) (by first | rfl | (simp [Jf]; done) | fail) ?_)
   ·simp only [List.length_append, List.length_singleton]
    repeat (first | exact List.Sublist.refl _ | exact List.nil_sublist _ | refine List.Sublist.cons_cons _ ?_ | refine List.Sublist.cons _ ?_)
  ·have hck : ¬ (k : Int) < args.length := by omega
   have hf : Hid (V = N) := by show _ = _; rw [show V = _ from hV.out, List.take_of_length_le (by omega), show N = _ from HN.out]
   clear hV
   rw [hf.out]
   refine gs_ ?_
   refine Qep 9 (by simp [PF.get] <;> rfl) ?_
   simp only [PV.norm0]
   refine go_ ?_
   refine Qam ?_
   refine go_ ?_
   refine Qba (M.length + 1) ?_ ?_ ?_ ?_
   ·simp
   ·exact rowsD _
   ·exact Qbw rfl
   refine go_ ?_
   refine ⟨(M ++ [N], j + 1), ⟨hlt, HM⟩, by simp only; omega, ?_, ?_⟩
   ·repeat (first | exact Jt _ | refine Js (by simp [PF.get]; rfl) (by first | rfl | (simp [rowD]; done) | fail) ?_)
   ·simp only [List.length_append, List.length_singleton]
    repeat (first | exact List.Sublist.refl _ | exact List.nil_sublist _ | refine List.Sublist.cons_cons _ ?_ | refine List.Sublist.cons _ ?_)
 ·have hc : ¬ (j : Int) < p.length := by omega
  have hf : Hid (M = R) := by show _ = _; rw [show M = _ from hM.out, List.take_of_length_le (by omega), show R = _ from HR.out]
  clear hM
  refine go_ ?_
  refine Jm (by simp) (by simp only [Tryz.results48]; rfl) (by simp [resP, St.box?, PF.get, Jn, TyK.agg, *]; rfl) Nl ?_
  exact ⟨by rw [hf.out]; rfl, rfl⟩
theorem r29Same_p (M : List (List Int)) (hM : M.length ≤ 1000) (hr : ∀ r ∈ M, r.length ≤ 1000) : PCalls Tryz.prog 47 [.d (.sl (M.map rowD)), .d (.sl (M.map rowD))] [] fun r s => r = .d (.v (.bool true)) ∧ s = [] := by
 have hne : ((M.length : Int) != (M.length : Int)) = false := by simp
 have HRL := Lib.hid hr
 clear hr
 refine PCalls.enter Tryz.func47 rfl Tryz.ntmps47 (by simp) ?_
 simp only [Qab]
 refine go_ ?_
 refine Qak (ι := Nat) (fun y => y ≤ M.length) (fun y => [(0, .d (.sl (M.map rowD))), (1, .d (.sl (M.map rowD))), (5, .d (.v (.int .i64 (y : Int))))]) (fun _ => []) (fun y => M.length - y) 0 (Nat.zero_le _) ?_ ?_ ?_
 ·repeat (first | exact Jt _ | refine Js (by simp [PF.get]; rfl) (by first | rfl | (simp [*]; done) | fail) ?_)
 ·repeat (first | exact List.Sublist.refl _ | exact List.nil_sublist _ | refine List.Sublist.cons_cons _ ?_ | refine List.Sublist.cons _ ?_)
 rintro j hj
 by_cases hlt : j < M.length
 ·have hx : (M.map rowD)[j]? = some [D.sl (M[j].map encD)] := by rw [List.getElem?_map, List.getElem?_eq_getElem hlt]; rfl
  have hc : (j : Int) < M.length := by omega
  have hn : (0 : Int) ≤ j := by omega
  have hin := wr64 (n := (j : Int) + 1) (by omega) (by omega)
  have hrl := HRL.out _ (List.getElem_mem hlt)
  obtain ⟨V, hV⟩ : ∃ V, V = M[j] := ⟨_, rfl⟩
  rw [← hV] at hx hrl
  have hrd : rowD M[j] = [D.sl (V.map encD)] := by rw [hV]; rfl
  have hnv : ((V.length : Int) != (V.length : Int)) = false := by simp
  clear hV
  refine go_ ?_
  refine Qax [(0, .a), (1, .a), (2, .a), (3, .a), (4, .a), (5, .a), (6, .a), (7, .a), (8, .a), (9, .a), (10, .a)] (by kernel_rfl) (by rfl) (by kernel_rfl) ?_
  refine go_ ?_
  refine Qak (ι := Nat) (fun y => y ≤ V.length) (fun y => [(0, .d (.sl (M.map rowD))), (1, .d (.sl (M.map rowD))), (5, .d (.v (.int .i64 (j : Int)))), (6, .d (.v (.int .i64 (y : Int))))]) (fun _ => []) (fun y => V.length - y) 0 (Nat.zero_le _) ?_ ?_ ?_
  ·repeat (first | exact Jt _ | refine Js (by simp [PF.get]; rfl) (by first | rfl | (simp [*]; done) | fail) ?_)
  ·repeat (first | exact List.Sublist.refl _ | exact List.nil_sublist _ | refine List.Sublist.cons_cons _ ?_ | refine List.Sublist.cons _ ?_)
  rintro k hk
  by_cases hkl : k < V.length
  ·have hxa := Qal hkl
   have hck : (k : Int) < V.length := by omega
   have hnk : (0 : Int) ≤ k := by omega
   have hink := wr64 (n := (k : Int) + 1) (by omega) (by omega)
   have hnq : (V[k] != V[k]) = false := by simp
   simp only [Jf] at hxa
   refine go_ ?_
   refine Qax [(0, .a), (1, .a), (2, .a), (3, .a), (4, .a), (5, .a), (6, .a), (7, .a), (8, .a), (9, .a), (10, .a), (11, .a), (12, .a), (13, .a), (14, .a)] (by kernel_rfl) (by rfl) (by kernel_rfl) ?_
   refine go_ ?_
   exact ⟨k + 1, hkl, by omega, by repeat (first | exact Jt _ | refine Js (by simp [PF.get]; rfl) (by first | rfl | (simp [*]; done) | fail) ?_), by repeat (first | exact List.Sublist.refl _ | exact List.nil_sublist _ | refine List.Sublist.cons_cons _ ?_ | refine List.Sublist.cons _ ?_)⟩
  ·have hck : ¬ (k : Int) < V.length := by omega
   refine go_ ?_
   exact ⟨j + 1, hlt, by omega, by repeat (first | exact Jt _ | refine Js (by simp [PF.get]; rfl) (by first | rfl | (simp [*]; done) | fail) ?_), by repeat (first | exact List.Sublist.refl _ | exact List.nil_sublist _ | refine List.Sublist.cons_cons _ ?_ | refine List.Sublist.cons _ ?_)⟩
 ·have hc : ¬ (j : Int) < M.length := by omega
  refine go_ ?_
  refine Jm (by simp) (by simp only [Tryz.results47]; rfl) (by simp [resP, St.box?, PF.get, Jn, TyK.agg, *]; rfl) Nl ?_
  exact ⟨rfl, rfl⟩
theorem pat29_p : ∀ (p : Pt) (l : Int), -9000 < l → l ≤ 1000 → PCalls Tryz.prog 88 [aggD p, .d (.v (.int .i64 l))] [] fun r s => r = .tup [aggD (pbT p l).1, .d (.v (.int .i64 (pbT p l).2))] ∧ s = [] := by
 refine Pt.ind ?_
 intro k n a sub d ih l h0 h1
 obtain ⟨R, hR⟩ : ∃ R, R = pbL sub (l - 1) := ⟨_, rfl⟩
 have e : pbT (.mk k n a sub d) l = (.mk k n a R.1 d, R.2) := by rw [hR]; simp only [pbT]
 rw [e]
 have HR : Hid (R = ([] ++ (pbL (sub.drop 0) (l - 1)).1, (pbL (sub.drop 0) (l - 1)).2)) := by show _ = _; rw [hR]; rfl
 have hcn : R.1.length ≤ 20000 := by have := pbL_count sub (l - 1); rw [← hR] at this; omega
 have IH := Lib.hid ih
 have hw := wr64 (n := l - 1) (by omega) (by omega)
 clear ih e hR
 simp only [aggD, Qao, Jl, List.map_cons, List.map_nil, Pt.kind_mk, Pt.num_mk, Pt.at_mk, Pt.sub_mk, Pt.t_mk]
 refine PCalls.enter Tryz.func88 rfl Tryz.ntmps88 (by simp) ?_
 simp only [Qab]
 refine go_ ?_
 refine Jd ?_
 intro i0 hi0
 try simp only [Ja, Rh, Rg, Jb] at hi0
 refine go_ ?_
 refine Je ?_
 intro i1 hi1
 try simp only [Ja, Rh, Rg, Jb] at hi1
 refine go_ ?_
 refine Je ?_
 intro i2 hi2
 try simp only [Ja, Rh, Rg, Jb] at hi2
 refine go_ ?_
 refine Rd ?_
 refine go_ ?_
 refine PW_ownB i2 3 44 7 (by simp [nev, nevA, nevB, Jp, PF.eval, PF.get, PF.wants, cPV, Qag, PV.rows, Qah, evUn, Jq, Qaj, Qai, Jn, TyK.agg, Qaf, St.box?, St.tok?, St.setBox, St.setTok, Qae, spl, PV.ps, PV.one, Jo, aggD, slD, Jh, Jk, Ji, Jj, Jg, Jf, *]; rfl) (by rfl) (by rfl) (by intro g; simp [St.setBox, *]; rfl) (by decide) ?_
 intro g hg
 refine Qak (ι := List Pt × Int) (fun y => y.1.length ≤ sub.length ∧ -9000 ≤ y.2 ∧ y.2 ≤ 1000 ∧ Hid (R = (y.1 ++ (pbL (sub.drop y.1.length) y.2).1, (pbL (sub.drop y.1.length) y.2).2))) (fun y => [(1, .d (.v (.int .i64 y.2))), (2, .ptr i0 0), (4, .ptr i1 0), (6, .ptr i2 0), (7, .d (.v (.int .i64 (y.1.length : Int))))]) (fun y => [.tok g 44 7 y.1.length, .box i2 44 [.d (.v (.int .i64 k)), .d (.v (.int .i64 n)), .d (.v (.int .i64 a)), .own g (y.1.map encD), .d (.v (.int .i64 d.kind)), .d (.v (.int .i64 d.num)), .d (.sl (d.sub.map encD))], .box i1 44 [.d (.v (.int .i64 0)), .d (.v (.int .i64 0)), .d (.v (.int .i64 0)), .nils, .d (.v (.int .i64 0)), .d (.v (.int .i64 0)), .nils], .box i0 28 [.d (.v (.int .i64 k)), .d (.v (.int .i64 n)), .d (.v (.int .i64 a)), .d (.sl (sub.map encD)), .d (.v (.int .i64 d.kind)), .d (.v (.int .i64 d.num)), .d (.sl (d.sub.map encD))]]) (fun y => sub.length - y.1.length) ([], l - 1) ⟨Nat.zero_le _, by simp only; omega, by simp only; omega, HR.out⟩ ?_ ?_ ?_
 ·repeat (first | exact Jt _ | refine Js (by simp [PF.get]; rfl) (by first | rfl | (simp [*]; done) | fail) ?_)
 ·repeat (first | exact List.Sublist.refl _ | exact List.nil_sublist _ | refine List.Sublist.cons_cons _ ?_ | refine List.Sublist.cons _ ?_)
 rintro ⟨rs, x⟩ ⟨hk, hx0, hx1, hR⟩
 simp only at hk hx0 hx1 hR ⊢
 clear HR
 have hrc : rs.length ≤ 20000 := by
  have h := congrArg (fun z : List Pt × Int => z.1.length) hR.out
  simp only [List.length_append] at h
  omega
 by_cases hlt : rs.length < sub.length
 ·have hxs := Qal hlt
  have hc : (rs.length : Int) < sub.length := by omega
  have hn : (0 : Int) ≤ rs.length := by omega
  have hin := wr64 (n := (rs.length : Int) + 1) (by omega) (by omega)
  by_cases hx : -9000 < x
  ·have hR2 : Hid (R = ((rs ++ [(pbT sub[rs.length] x).1]) ++ (pbL (sub.drop (rs ++ [(pbT sub[rs.length] x).1]).length) (pbT sub[rs.length] x).2).1, (pbL (sub.drop (rs ++ [(pbT sub[rs.length] x).1]).length) (pbT sub[rs.length] x).2).2)) := by
    show _ = _
    rw [show R = _ from hR.out, List.drop_eq_getElem_cons hlt]
    simp only [pbL]
    rw [if_pos hx, List.append_assoc, List.length_append, List.length_singleton]; rfl
   have hlo := pb_lo sub[rs.length] x hx
   have hhi := (Qgq sub[rs.length] x).1
   have hc1 := Lib.hid (IH.out _ (List.getElem_mem hlt) x hx hx1)
   simp only [aggD, Qao, Jl, List.map_cons, List.map_nil] at hc1
   obtain ⟨q, hq⟩ : ∃ q, q = (pbT sub[rs.length] x).1 := ⟨_, rfl⟩
   obtain ⟨z, hz⟩ : ∃ z, z = (pbT sub[rs.length] x).2 := ⟨_, rfl⟩
   rw [← hq, ← hz] at hc1 hR2
   rw [← hz] at hlo hhi
   clear hR hq hz
   refine go_ ?_
   refine Jc (hc1.out) ?_
   refine go_ ?_
   refine Je ?_
   intro i3 hi3
   try simp only [Ja, Rh, Rg, Jb] at hi3
   refine go_ ?_
   refine Rd ?_
   refine go_ ?_
   refine Qam ?_
   refine go_ ?_
   refine Qba (rs.length + 1) ?_ ?_ ?_ ?_
   ·simp
   ·exact rows7 _
   ·exact Qbw rfl
   refine go_ ?_
   refine Rd ?_
   refine go_ ?_
   refine ⟨(rs ++ [q], z), ⟨by simp only [List.length_append, List.length_singleton]; omega, hlo, by simp only; omega, hR2⟩, by simp only [List.length_append, List.length_singleton]; omega, ?_, ?_⟩
   ·simp only [List.length_append, List.length_singleton]
    repeat (first | exact Jt _ | refine Js (by simp [PF.get]; rfl) (by first | rfl | (simp [hin]; done) | fail) ?_)
   ·simp only [List.length_append, List.length_singleton, List.map_append, List.map_cons, List.map_nil, Qao]
    repeat (first | exact List.Sublist.refl _ | exact List.nil_sublist _ | refine List.Sublist.cons_cons _ ?_ | refine List.Sublist.cons _ ?_)
  ·have hf : Hid (R = (rs, x)) := by show _ = _; rw [show R = _ from hR.out, List.drop_eq_getElem_cons hlt]; simp only [pbL]; rw [if_neg hx, List.append_nil]
   clear hR
   refine go_ ?_
   refine Rd ?_
   refine go_ ?_
   refine Jm (by simp) (by simp only [Tryz.results88]; rfl) (by simp [resP, St.box?, PF.get, Jn, TyK.agg, *]; rfl) Nl ?_
   exact ⟨by rw [hf.out]; rfl, rfl⟩
 ·have hc : ¬ (rs.length : Int) < sub.length := by omega
  have hf : Hid (R = (rs, x)) := by show _ = _; rw [show R = _ from hR.out, List.drop_of_length_le (by omega)]; simp only [pbL, List.append_nil]
  clear hR
  refine go_ ?_
  refine Rd ?_
  refine go_ ?_
  refine Jm (by simp) (by simp only [Tryz.results88]; rfl) (by simp [resP, St.box?, PF.get, Jn, TyK.agg, *]; rfl) Nl ?_
  exact ⟨by rw [hf.out]; rfl, rfl⟩
def ofL : List Pt → Int → List Pt × Int
 | [], x => ([], x)
 | p :: ps, x => if 0 < x then ((pbT p x).1 :: (ofL ps ((pbT p x).2 - 1)).1, (ofL ps ((pbT p x).2 - 1)).2) else ([], x)
theorem Qjb : ∀ (l : List Pt) (x : Int), (ofL l x).2 ≤ x ∧ (0 < (ofL l x).2 → (ofL l x).1 = l ∧ (ofL l x).2 = x - pndL l - l.length)
  | [], x => by simp only [ofL, pndL, List.length_nil]; exact ⟨by omega, fun _ => ⟨trivial, by omega⟩⟩
  | p :: ps, x => by
    simp only [ofL, pndL]
    by_cases hx : 0 < x
    · rw [if_pos hx]
      obtain ⟨h1, h2⟩ := Qgq p x
      obtain ⟨h3, h4⟩ := Qjb ps ((pbT p x).2 - 1)
      refine ⟨by simp only; omega, fun h => ?_⟩
      simp only at h ⊢
      obtain ⟨h5, h6⟩ := h4 h
      obtain ⟨h7, h8⟩ := h2 (by omega)
      exact ⟨by rw [h5, h7], by rw [List.length_cons]; omega⟩
    · rw [if_neg hx]
      exact ⟨by simp only; omega, fun h => absurd h hx⟩
theorem of_count : ∀ (l : List Pt) (x : Int), ((ofL l x).1.length : Int) ≤ max 0 x
  | [], x => by simp only [ofL, List.length_nil]; omega
  | p :: ps, x => by
    have h1 := of_count ps ((pbT p x).2 - 1)
    have h2 := (Qgq p x).1
    simp only [ofL]
    split
    · simp only [List.length_cons]; omega
    · simp only [List.length_nil]; omega
theorem of29_p (l : List Pt) : PCalls Tryz.prog 36 [.d (.sl (l.map encD))] [] fun r s => r = .tup [.d (.sl ((ofL l 300).1.map encD)), .d (.v (.bool (decide (0 < (ofL l 300).2))))] ∧ s = [] := by
 obtain ⟨R, hR⟩ : ∃ R, R = ofL l 300 := ⟨_, rfl⟩
 rw [← hR]
 have HR : Hid (R = ([] ++ (ofL (l.drop 0) 300).1, (ofL (l.drop 0) 300).2)) := by show _ = _; rw [hR]; rfl
 have hcn : R.1.length ≤ 300 := by have := of_count l 300; rw [← hR] at this; omega
 clear hR
 refine PCalls.enter Tryz.func36 rfl Tryz.ntmps36 (by simp) ?_
 simp only [Qab]
 refine go_ ?_
 refine Qdq ?_ (by decide) (by first | (simp [nev, nevA, nevB, Jp, PF.eval, PF.get, PF.wants, cPV, Qag, PV.rows, Qah, evUn, Jq, Qaj, Qai, Jn, TyK.agg, Qaf, St.box?, St.tok?, St.setBox, St.setTok, Qae, spl, PV.ps, PV.one, Jo, aggD, slD, Jh, Jk, Ji, Jj, Jg, Jf, *]; done) | fail) (by simp; rfl) (by rfl) (by simp; rfl) (by rfl) (by decide)
 intro g hg
 refine go_ ?_
 refine Qak (ι := List Pt × Int) (fun y => y.1.length ≤ l.length ∧ -9001 ≤ y.2 ∧ y.2 ≤ 300 ∧ Hid (R = (y.1 ++ (ofL (l.drop y.1.length) y.2).1, (ofL (l.drop y.1.length) y.2).2))) (fun y => [(0, .d (.sl (l.map encD))), (4, .own g (y.1.map encD)), (5, .d (.v (.int .i64 y.2))), (6, .d (.v (.int .i64 (y.1.length : Int))))]) (fun y => [.tok g 44 7 y.1.length]) (fun y => l.length - y.1.length) ([], 300) ⟨Nat.zero_le _, by simp only; omega, by simp only; omega, HR.out⟩ ?_ ?_ ?_
 ·repeat (first | exact Jt _ | refine Js (by simp [PF.get]; rfl) (by first | rfl | (simp [*]; done) | fail) ?_)
 ·repeat (first | exact List.Sublist.refl _ | exact List.nil_sublist _ | refine List.Sublist.cons_cons _ ?_ | refine List.Sublist.cons _ ?_)
 rintro ⟨rs, x⟩ ⟨hk, hx0, hx1, hR⟩
 simp only at hk hx0 hx1 hR ⊢
 clear HR
 have hrc : rs.length ≤ 300 := by
  have h := congrArg (fun z : List Pt × Int => z.1.length) hR.out
  simp only [List.length_append] at h
  omega
 by_cases hlt : rs.length < l.length
 ·have hxs := Qal hlt
  have hc : (rs.length : Int) < l.length := by omega
  have hn : (0 : Int) ≤ rs.length := by omega
  have hin := wr64 (n := (rs.length : Int) + 1) (by omega) (by omega)
  by_cases hx : 0 < x
  ·have hR2 : Hid (R = ((rs ++ [(pbT l[rs.length] x).1]) ++ (ofL (l.drop (rs ++ [(pbT l[rs.length] x).1]).length) ((pbT l[rs.length] x).2 - 1)).1, (ofL (l.drop (rs ++ [(pbT l[rs.length] x).1]).length) ((pbT l[rs.length] x).2 - 1)).2)) := by
    show _ = _
    rw [show R = _ from hR.out, List.drop_eq_getElem_cons hlt]
    simp only [ofL]
    rw [if_pos hx, List.append_assoc, List.length_append, List.length_singleton]; rfl
   have hlo := pb_lo l[rs.length] x (by omega)
   have hhi := (Qgq l[rs.length] x).1
   have hc1 := Lib.hid (pat29_p l[rs.length] x (by omega) (by omega))
   simp only [aggD, Qao, Jl, List.map_cons, List.map_nil] at hc1
   obtain ⟨q, hq⟩ : ∃ q, q = (pbT l[rs.length] x).1 := ⟨_, rfl⟩
   obtain ⟨z, hz⟩ : ∃ z, z = (pbT l[rs.length] x).2 := ⟨_, rfl⟩
   rw [← hq, ← hz] at hc1 hR2
   rw [← hz] at hlo hhi
   have hwz := wr64 (n := z - 1) (by omega) (by omega)
   clear hR hq hz
   refine go_ ?_
   refine Jc (hc1.out) ?_
   refine go_ ?_
   refine Je ?_
   intro i3 hi3
   try simp only [Ja, Rh, Rg, Jb] at hi3
   refine go_ ?_
   refine Rd ?_
   refine go_ ?_
   refine Qam ?_
   refine go_ ?_
   refine Qba (rs.length + 1) ?_ ?_ ?_ ?_
   ·simp
   ·exact rows7 _
   ·exact Qbw rfl
   refine go_ ?_
   refine ⟨(rs ++ [q], z - 1), ⟨by simp only [List.length_append, List.length_singleton]; omega, by simp only; omega, by simp only; omega, hR2⟩, by simp only [List.length_append, List.length_singleton]; omega, ?_, ?_⟩
   ·simp only [List.length_append, List.length_singleton]
    repeat (first | exact Jt _ | refine Js (by simp [PF.get]; rfl) (by first | rfl | (simp [Qao]; done) | fail) ?_)
   ·simp only [List.length_append, List.length_singleton]
    repeat (first | exact List.Sublist.refl _ | exact List.nil_sublist _ | refine List.Sublist.cons_cons _ ?_ | refine List.Sublist.cons _ ?_)
  ·have hf : Hid (R = (rs, x)) := by show _ = _; rw [show R = _ from hR.out, List.drop_eq_getElem_cons hlt]; simp only [ofL]; rw [if_neg hx, List.append_nil]
   clear hR
   refine go_ ?_
   refine Jm (by simp) (by simp only [Tryz.results36]; rfl) (by simp [resP, St.box?, PF.get, Jn, TyK.agg, *]; rfl) Nl ?_
   exact ⟨by rw [hf.out]; simp [tupP, PV.norm2, PV.norm1, PV.norm0, *], rfl⟩
 ·have hc : ¬ (rs.length : Int) < l.length := by omega
  have hf : Hid (R = (rs, x)) := by show _ = _; rw [show R = _ from hR.out, List.drop_of_length_le (by omega)]; simp only [ofL, List.append_nil]
  clear hR
  refine go_ ?_
  refine Jm (by simp) (by simp only [Tryz.results36]; rfl) (by simp [resP, St.box?, PF.get, Jn, TyK.agg, *]; rfl) Nl ?_
  exact ⟨by rw [hf.out]; simp [tupP, PV.norm2, PV.norm1, PV.norm0, *], rfl⟩
theorem each0_p (k n : Int) (f : FuncId) (cap : List PV) : PCalls Tryz.prog 203 [.agg [.d (.v (.int .i64 k)), .d (.v (.int .i64 n)), .d (.sl [])], .fn (.func f) [] cap] [] fun p s => p = .tup [] ∧ s = [] := by
 refine PCalls.enter Tryz.func203 rfl Tryz.ntmps203 (by simp) ?_
 simp only [Qab]
 refine go_ ?_
 refine Jd ?_
 intro i0 hi0
 try simp only [Ja, Rh, Rg, Jb] at hi0
 refine go_ ?_
 refine Qak (ι := Unit) (fun _ => True) (fun _ => [(1, .fn (.func f) [] cap), (7, .d (.sl [])), (8, .d (.v (.int .i64 0))), (9, .d (.v (.int .i64 0)))]) (fun _ => []) (fun _ => 0) () trivial ?_ ?_ ?_
 ·repeat (first | exact Jt _ | refine Js (by simp [PF.get]; rfl) (by first | rfl | (simp [*]; done) | fail) ?_)
 ·repeat (first | exact List.Sublist.refl _ | exact List.nil_sublist _ | refine List.Sublist.cons_cons _ ?_ | refine List.Sublist.cons _ ?_)
 rintro ⟨⟩ -
 refine go_ ?_
 refine Jm (by simp) (by simp only [Tryz.results203]; rfl) (by simp [resP, St.box?, PF.get, Jn, TyK.agg, *]; rfl) Nl ?_
 exact ⟨rfl, rfl⟩
def f29 : Tm := .mk 8 9 []
def c29 : Tm := .mk 6 1 []
def t29 : Tm := .mk 5 0 [f29, c29]
theorem c29_sp : Qad c29 = true ∧ Qan c29 = c29 ∧ Qav c29 = [] := ⟨by decide +kernel, Qdh (by decide)⟩
theorem t29_sp : Qad t29 = true ∧ Qan t29 = f29 ∧ Qav t29 = [c29] := by
 refine ⟨by decide +kernel, ?_⟩
 have h := Qfe 0 f29 c29
 have h2 := Qdh (t := f29) (by decide)
 unfold t29
 rw [h.1, h.2, h2.1, h2.2]; exact ⟨rfl, rfl⟩
theorem fleaf_p (b : Nat) : PCalls Tryz.prog 149 [.ptr b 0, aggD c29] [] fun p s => p = .tup [] ∧ s = [] := by
 have hS := Lib.hid (Qhr c29 c29_sp.1)
 rw [c29_sp.2.1, c29_sp.2.2] at hS
 have hE := Lib.hid (each0_p 6 1 204)
 simp only [c29, aggD, Jl, List.map_cons, List.map_nil, Tm.kind_mk, Tm.num_mk, Tm.sub_mk] at hS ⊢
 refine PCalls.enter Tryz.func149 rfl Tryz.ntmps149 (by simp) ?_
 simp only [Qab]
 refine go_ ?_
 refine Jd ?_
 intro i0 hi0
 try simp only [Ja, Rh, Rg, Jb] at hi0
 refine go_ ?_
 refine Jd ?_
 intro i1 hi1
 try simp only [Ja, Rh, Rg, Jb] at hi1
 refine go_ ?_
 refine Jc (hS.out) ?_
 refine go_ ?_
 refine Je ?_
 intro i2 hi2
 try simp only [Ja, Rh, Rg, Jb] at hi2
 refine go_ ?_
 refine Rd ?_
 refine go_ ?_
 refine Qax [(0, .a), (1, .b), (2, .a), (3, .a), (4, .a), (5, .b), (6, .b), (7, .a), (8, .a), (9, .b), (10, .a), (11, .a)] (by kernel_rfl) (by rfl) (by kernel_rfl) ?_
 refine go_ ?_
 refine Qgj ?_
 refine go_ ?_
 refine Jc (hE.out [.ptr i0 0]) ?_
 refine go_ ?_
 refine Qak (ι := Unit) (fun _ => True) (fun _ => [(31, .d (.sl [])), (32, .d (.v (.int .i64 0))), (33, .d (.v (.int .i64 0)))]) (fun _ => []) (fun _ => 0) () trivial ?_ ?_ ?_
 ·repeat (first | exact Jt _ | refine Js (by simp [PF.get]; rfl) (by first | rfl | (simp [*]; done) | fail) ?_)
 ·repeat (first | exact List.Sublist.refl _ | exact List.nil_sublist _ | refine List.Sublist.cons_cons _ ?_ | refine List.Sublist.cons _ ?_)
 rintro ⟨⟩ -
 refine go_ ?_
 refine Jm (by simp) (by simp only [Tryz.results149]; rfl) (by simp [resP, St.box?, PF.get, Jn, TyK.agg, *]; rfl) Nl ?_
 exact ⟨rfl, rfl⟩
theorem fcall_p (b : Nat) (A : List Tm) (hA : A.length = 1) : PCalls Tryz.prog 202 [.ptr b 0, .d (.sl (A.map encD))] [.box b 196 [.d (.v (.int .i64 9)), .d (.v (.int .i64 1)), .nils, .d (.v (.int .i64 0))]] fun p s => p = .tup [] ∧ ∃ g, s = [.tok g 24 1 1, .box b 196 [.d (.v (.int .i64 9)), .d (.v (.int .i64 1)), .own g [[.sl ((A.map Qdx).map encD)]], .d (.v (.int .i64 0))]] := by
 have hal : (A.length : Int) = 1 := by omega
 have HC : Hid (∀ t : Tm, PCalls Tryz.prog 119 [aggD t] [] fun p s => p = aggD (Qdx t) ∧ s = []) := fun t => tCopy_p t
 have HS : Hid (List.drop 0 (List.take 1 (A.map encD)) = (A.map encD)) := by show _ = _; rw [List.drop_zero, List.take_of_length_le (by rw [List.length_map]; omega)]
 obtain ⟨R, hR⟩ : ∃ R, R = A.map Qdx := ⟨_, rfl⟩
 rw [← hR]
 have HR := Lib.hid hR
 clear hR
 refine PCalls.enter Tryz.func202 rfl Tryz.ntmps202 (by simp) ?_
 simp only [Qab]
 refine go_ ?_
 refine POps_slice 0 1 ?_ (by decide) (by first | (simp [nev, nevA, nevB, Jp, PF.eval, PF.get, PF.wants, cPV, Qag, PV.rows, Qah, evUn, Jq, Qaj, Qai, Jn, TyK.agg, Qaf, St.box?, St.tok?, St.setBox, St.setTok, Qae, spl, PV.ps, PV.one, Jo, aggD, slD, Jh, Jk, Ji, Jj, Jg, Jf, *]; done) | fail) (by simp; rfl) (by rfl) (by decide) (by simp [nev, nevA, nevB, Jp, PF.eval, PF.get, PF.wants, cPV, Qag, PV.rows, Qah, evUn, Jq, Qaj, Qai, Jn, TyK.agg, Qaf, St.box?, St.tok?, St.setBox, St.setTok, Qae, spl, PV.ps, PV.one, Jo, aggD, slD, Jh, Jk, Ji, Jj, Jg, Jf, *]; rfl) (by simp [PV.rows]; rfl) (by first | rfl | (simp [lowOf, PF.eval, PF.get, cPV, Qag, *]; done) | fail) (by first | rfl | (simp [Qhk, PF.eval, PF.get, cPV, Qag, *]; done) | fail) (by first | omega | (simp; done) | (simp; omega)) (by first | omega | (simp; done) | (simp; omega)) ?_
 rotate_left
 ·exact Qem _
 rw [HS.out]
 refine go_ ?_
 refine PW_own 4 26 3 (by decide) (by simp [PF.get] <;> rfl) fun g0 hg0 => ?_
 simp only [St.freshT_tok, St.freshT_box, St.freshT_nil] at hg0
 refine Qak (ι := List Tm × Nat) (fun y => y.2 ≤ A.length ∧ Hid (y.1 = (A.take y.2).map Qdx)) (fun y => [(0, .ptr b 0), (4, .own g0 (y.1.map encD)), (29, .d (.sl (A.map encD))), (30, .d (.v (.int .i64 1))), (31, .d (.v (.int .i64 (y.2 : Int))))]) (fun y => [.tok g0 26 3 y.1.length, .box b 196 [.d (.v (.int .i64 9)), .d (.v (.int .i64 1)), .nils, .d (.v (.int .i64 0))]]) (fun y => A.length - y.2) ([], 0) ⟨Nat.zero_le _, rfl⟩ ?_ ?_ ?_
 ·repeat (first | exact Jt _ | refine Js (by simp [PF.get]; rfl) (by first | rfl | (simp [*]; done) | fail) ?_)
 ·repeat (first | exact List.Sublist.refl _ | exact List.nil_sublist _ | refine List.Sublist.cons_cons _ ?_ | refine List.Sublist.cons _ ?_)
 rintro ⟨m, j⟩ ⟨hj, hm⟩
 simp only at hj hm ⊢
 by_cases hlt : j < A.length
 ·have hx := Qal hlt
  have hc : (j : Int) < 1 := by omega
  have hc2 : (j : Int) < A.length := by omega
  have hn : (0 : Int) ≤ j := by omega
  have hin := wr64 (n := (j : Int) + 1) (by omega) (by omega)
  have hM : Hid (m ++ [Qdx A[j]] = (A.take (j + 1)).map Qdx) := by show _ = _; rw [List.take_succ_eq_append_getElem hlt, List.map_append, show m = _ from hm.out]; rfl
  have hml : m.length ≤ 1000 := by rw [show m = _ from hm.out, List.length_map, List.length_take]; omega
  have hc1 := Lib.hid (HC.out A[j])
  simp only [aggD, Jl, List.map_cons, List.map_nil] at hc1
  clear hm
  generalize Qdx A[j] = q at *
  refine go_ ?_
  refine Je ?_
  intro i2 hi2
  try simp only [Ja, Rh, Rg, Jb] at hi2
  refine go_ ?_
  refine Rd ?_
  refine go_ ?_
  refine Jc (hc1.out) ?_
  refine go_ ?_
  refine Qam ?_
  refine go_ ?_
  refine Qba (m.length + 1) ?_ ?_ ?_ ?_
  ·simp
  ·exact Qem _
  ·exact Qbw rfl
  refine go_ ?_
  refine ⟨(m ++ [q], j + 1), ⟨hlt, hM⟩, by simp only; omega, ?_, ?_⟩
  ·repeat (first | exact Jt _ | refine Js (by simp [PF.get]; rfl) (by first | rfl | (simp [Jl]; done) | fail) ?_)
  ·simp only [List.length_append, List.length_singleton]
   repeat (first | exact List.Sublist.refl _ | exact List.nil_sublist _ | refine List.Sublist.cons_cons _ ?_ | refine List.Sublist.cons _ ?_)
 ·have hc : ¬ (j : Int) < 1 := by omega
  have hf : Hid (m = R) := by show _ = _; rw [show m = _ from hm.out, List.take_of_length_le (by omega), show R = _ from HR.out]
  clear hm
  rw [hf.out]
  refine gs_ ?_
  refine Qep 4 (by simp [PF.get] <;> rfl) ?_
  simp only [PV.norm0]
  refine PW_ownB b 2 24 1 (by simp [nev, nevA, nevB, Jp, PF.eval, PF.get, PF.wants, cPV, Qag, PV.rows, Qah, evUn, Jq, Qaj, Qai, Jn, TyK.agg, Qaf, St.box?, St.tok?, St.setBox, St.setTok, Qae, spl, PV.ps, PV.one, Jo, aggD, slD, Jh, Jk, Ji, Jj, Jg, Jf, *]; rfl) (by rfl) (by rfl) (by intro g; simp [St.setBox, *]; rfl) (by decide) ?_
  intro g hg
  refine go_ ?_
  refine Qam ?_
  refine go_ ?_
  refine Qba 1 ?_ ?_ ?_ ?_
  ·simp
  ·simp
  ·exact Qbw rfl
  refine go_ ?_
  refine Rd ?_
  refine go_ ?_
  refine Jm (st' := [.tok g 24 1 1, .box b 196 [.d (.v (.int .i64 9)), .d (.v (.int .i64 1)), .own g [[.sl (R.map encD)]], .d (.v (.int .i64 0))]]) (by simp) (by simp only [Tryz.results202]; rfl) (by simp [resP, St.box?, PF.get, Jn, TyK.agg, *]; rfl) (by repeat (first | exact List.Sublist.refl _ | exact List.nil_sublist _ | refine List.Sublist.cons_cons _ ?_ | refine List.Sublist.cons _ ?_)) ?_
  exact ⟨rfl, g, rfl⟩
theorem fterm_p (b : Nat) : PCalls Tryz.prog 149 [.ptr b 0, aggD t29] [.box b 196 [.d (.v (.int .i64 9)), .d (.v (.int .i64 1)), .nils, .d (.v (.int .i64 0))]] fun p s => p = .tup [] ∧ ∃ g, s = [.tok g 24 1 1, .box b 196 [.d (.v (.int .i64 9)), .d (.v (.int .i64 1)), .own g [[.sl (([c29].map Qdx).map encD)]], .d (.v (.int .i64 0))]] := by
 have hS := Lib.hid (Qhr t29 t29_sp.1)
 rw [t29_sp.2.1, t29_sp.2.2] at hS
 have hE := Lib.hid (each0_p 8 9 204)
 obtain ⟨A, hA⟩ : ∃ A, A = [c29] := ⟨_, rfl⟩
 rw [← hA] at hS ⊢
 have HF := Lib.hid (fcall_p b A (by rw [hA]; rfl))
 have HL : Hid (∀ a ∈ A, PCalls Tryz.prog 149 [.ptr b 0, aggD a] [] fun p s => p = .tup [] ∧ s = []) := by
  intro a ha
  rw [hA, List.mem_singleton] at ha
  subst ha
  exact fleaf_p b
 have hal : A.length = 1 := by rw [hA]; rfl
 have hali : (A.length : Int) = 1 := by omega
 clear hA
 generalize (A.map Qdx).map encD = B at *
 simp only [t29, f29, c29, aggD, Jl, List.map_cons, List.map_nil, Tm.kind_mk, Tm.num_mk, Tm.sub_mk] at hS ⊢
 refine PCalls.enter Tryz.func149 rfl Tryz.ntmps149 (by simp) ?_
 simp only [Qab]
 refine go_ ?_
 refine Jd ?_
 intro i0 hi0
 try simp only [Ja, Rh, Rg, Jb] at hi0
 refine go_ ?_
 refine Jd ?_
 intro i1 hi1
 try simp only [Ja, Rh, Rg, Jb] at hi1
 refine go_ ?_
 refine Jc (hS.out) ?_
 refine go_ ?_
 refine Je ?_
 intro i2 hi2
 try simp only [Ja, Rh, Rg, Jb] at hi2
 refine go_ ?_
 refine Rd ?_
 refine go_ ?_
 refine Qax [(0, .a), (1, .b), (2, .a), (3, .a), (4, .a), (5, .b), (6, .b), (7, .a), (8, .a), (9, .b), (10, .a), (11, .a)] (by kernel_rfl) (by rfl) (by kernel_rfl) ?_
 refine go_ ?_
 refine Re 3 1 (HF.out) ?_
 rintro p s ⟨rfl, g, rfl⟩
 simp only [List.cons_append, List.nil_append, List.append_nil, Ja, Rh, Rg]
 refine go_ ?_
 refine Qgj ?_
 refine go_ ?_
 refine Jc (hE.out [.ptr i0 0]) ?_
 refine go_ ?_
 refine Qak (ι := Nat) (fun y => y ≤ A.length) (fun y => [(2, .ptr i0 0), (31, .d (.sl (A.map encD))), (32, .d (.v (.int .i64 1))), (33, .d (.v (.int .i64 (y : Int))))]) (fun _ => [.box i0 194 [.ptr b 0], .tok g 24 1 1, .box b 196 [.d (.v (.int .i64 9)), .d (.v (.int .i64 1)), .own g [[.sl B]], .d (.v (.int .i64 0))]]) (fun y => A.length - y) 0 (Nat.zero_le _) ?_ ?_ ?_
 ·repeat (first | exact Jt _ | refine Js (by simp [PF.get]; rfl) (by first | rfl | (simp [*]; done) | fail) ?_)
 ·repeat (first | exact List.Sublist.refl _ | exact List.nil_sublist _ | refine List.Sublist.cons_cons _ ?_ | refine List.Sublist.cons _ ?_)
 rintro j hj
 by_cases hlt : j < A.length
 ·have hx := Qal hlt
  have hc : (j : Int) < 1 := by omega
  have hc2 : (j : Int) < A.length := by omega
  have hn : (0 : Int) ≤ j := by omega
  have hin := wr64 (n := (j : Int) + 1) (by omega) (by omega)
  have hc1 := Lib.hid (HL.out _ (List.getElem_mem hlt))
  simp only [aggD, Jl, List.map_cons, List.map_nil] at hc1
  refine go_ ?_
  refine Je ?_
  intro i3 hi3
  try simp only [Ja, Rh, Rg, Jb] at hi3
  refine go_ ?_
  refine Rd ?_
  refine go_ ?_
  refine Jc (hc1.out) ?_
  refine go_ ?_
  exact ⟨j + 1, hlt, by omega, by repeat (first | exact Jt _ | refine Js (by simp [PF.get]; rfl) (by first | rfl | (simp [*]; done) | fail) ?_), by repeat (first | exact List.Sublist.refl _ | exact List.nil_sublist _ | refine List.Sublist.cons_cons _ ?_ | refine List.Sublist.cons _ ?_)⟩
 ·have hc : ¬ (j : Int) < 1 := by omega
  refine go_ ?_
  refine Jm (st' := [.tok g 24 1 1, .box b 196 [.d (.v (.int .i64 9)), .d (.v (.int .i64 1)), .own g [[.sl B]], .d (.v (.int .i64 0))]]) (by simp) (by simp only [Tryz.results149]; rfl) (by simp [resP, St.box?, PF.get, Jn, TyK.agg, *]; rfl) (by repeat (first | exact List.Sublist.refl _ | exact List.nil_sublist _ | refine List.Sublist.cons_cons _ ?_ | refine List.Sublist.cons _ ?_)) ?_
  exact ⟨rfl, g, rfl⟩
theorem find29_p : PCalls Tryz.prog 89 [aggD t29, .d (.v (.int .i64 9)), .d (.v (.int .i64 1))] [] fun p s => p = .tup [.d (.sl [[.sl (([c29].map Qdx).map encD)]]), .d (.v (.int .i64 0))] ∧ s = [] := by
 have hc1 := Lib.hid (Qeb t29)
 rw [t29_sp.1] at hc1
 have HF : Hid (∀ b, _) := fterm_p
 have hB : (([c29].map Qdx).map encD : List (List D)).length = 1 := rfl
 generalize (([c29].map Qdx).map encD : List (List D)) = B at *
 simp only [aggD, Jl, List.map_cons, List.map_nil] at hc1 HF ⊢
 generalize t29 = t at *
 refine PCalls.enter Tryz.func89 rfl Tryz.ntmps89 (by simp) ?_
 simp only [Qab]
 refine go_ ?_
 refine Jd ?_
 intro i0 hi0
 try simp only [Ja, Rh, Rg, Jb] at hi0
 refine go_ ?_
 refine Jc (hc1.out) ?_
 refine go_ ?_
 refine Jd ?_
 intro b hb
 try simp only [Ja, Rh, Rg, Jb] at hb
 refine go_ ?_
 have hc2 := Lib.hid (HF.out b)
 refine Re 0 1 (hc2.out) ?_
 rintro p s ⟨rfl, g, rfl⟩
 simp only [List.cons_append, List.nil_append, List.append_nil, Ja, Rh, Rg]
 refine go_ ?_
 refine Jm (by simp) (by simp only [Tryz.results89]; rfl) (by simp [resP, St.box?, PF.get, Jn, TyK.agg, *]; rfl) Nl ?_
 exact ⟨rfl, rfl⟩
def p29 : Pt := .mk 2 2 0 [.mk 1 0 0 [] (.mk 0 0 [])] (.mk 0 0 [])
theorem p29_right : pRight baseL p29 = true := by
 unfold pRight
 rw [Qer]
 decide +kernel
theorem p29_less : Qat baseL p29 (.mk 8 0 []) = 2 := by decide +kernel
theorem stand29_p : PCalls Tryz.prog 40 [.d (.sl (baseL.map encD)), .agg [.d (.v (.int .i64 2)), .d (.v (.int .i64 2)), .d (.v (.int .i64 0)), .d (.sl [[.v (.int .i64 1), .v (.int .i64 0), .v (.int .i64 0), .sl [], .v (.int .i64 0), .v (.int .i64 0), .sl []]]), .d (.v (.int .i64 0)), .d (.v (.int .i64 0)), .d (.sl [])], .agg [.d (.v (.int .i64 8)), .d (.v (.int .i64 0)), .d (.sl [])]] [] fun r s => r = .d (.v (.int .i64 2)) ∧ s = [] := by
 have h := Qgl baseL p29 (.mk 8 0 []) Qft (by decide +kernel)
 rw [if_pos ⟨p29_right, by decide +kernel⟩, p29_less] at h
 exact h
theorem Qjn : PCalls Tryz.prog 37 [] [] fun p s => p = .d (.v (.bool true)) ∧ s = [] := by
 have hC := Lib.hid (bC_p 1)
 have hA := Lib.hid (bA_p f29 [c29] (by decide))
 have hF := Lib.hid find29_p
 have hB := Lib.hid rbase_p
 have hS := Lib.hid stand29_p
 rw [show apT f29 [c29] = t29 from rfl] at hA
 have hrow : (([c29].map Qdx).map encD : List (List D)).length = 1 := rfl
 simp only [f29, c29, t29, aggD, Jl, List.map_cons, List.map_nil, Tm.kind_mk, Tm.num_mk, Tm.sub_mk] at hC hA hF
 generalize (Qdx (.mk 6 1 [])) = z at *
 generalize baseL = B at *
 refine PCalls.enter Tryz.func37 rfl Tryz.ntmps37 (by simp) ?_
 simp only [Qab]
 refine go_ ?_
 refine Je ?_
 intro i0 hi0
 try simp only [Ja, Rh, Rg, Jb] at hi0
 refine go_ ?_
 refine Rd ?_
 refine go_ ?_
 refine Qax [(0, .b), (1, .a), (2, .a), (3, .a), (4, .a), (5, .a), (6, .a), (7, .a), (8, .a), (9, .a)] (by kernel_rfl) (by rfl) (by kernel_rfl) ?_
 refine go_ ?_
 refine Qaa (hC.out) ?_
 refine go_ ?_
 refine Qbv ?_
 refine go_ ?_
 refine Qaa (hA.out) ?_
 refine go_ ?_
 refine Qaa (hF.out) ?_
 refine go_ ?_
 refine Qam ?_
 refine go_ ?_
 refine Je ?_
 intro i1 hi1
 try simp only [Ja, Rh, Rg, Jb] at hi1
 refine go_ ?_
 refine Rd ?_
 refine go_ ?_
 refine Qax [(0, .a), (1, .a), (2, .a), (3, .a), (4, .a), (5, .a), (6, .a), (7, .a), (8, .a), (9, .a), (10, .a), (11, .a), (12, .a), (13, .a), (14, .a), (15, .a), (16, .b), (17, .a), (18, .a), (19, .a), (20, .a), (21, .a)] (by kernel_rfl) (by rfl) (by kernel_rfl) ?_
 refine go_ ?_
 refine Qbm (hB.out) ?_
 refine go_ ?_
 refine Qbm (hS.out) ?_
 refine go_ ?_
 refine Jm (by simp) (by simp only [Tryz.results37]; rfl) (by simp [resP, St.box?, PF.get, Jn, TyK.agg, *]; rfl) Nl ?_
 exact ⟨rfl, rfl⟩
theorem stands_p (l : List En) (p : List Pt) (args : List Tm) (ho : ∀ e ∈ l, EnOk e) : PCalls Tryz.prog 8 [.d (.sl (l.map encD)), .d (.sl (p.map encD)), .d (.sl (args.map encD))] [] fun r s => r = .d (.v (.bool true)) ∧ s = [] := by
  have hO := Lib.hid (of29_p p)
  have hW := Lib.hid Qjn
  obtain ⟨hof1, hof2⟩ := Qjb p 300
  generalize ofL p 300 = W at *
  by_cases h1 : (60 : Int) < l.length
  · clear ho hof1 hof2
    refine PCalls.enter Tryz.func8 rfl Tryz.ntmps8 (by simp) ?_
    simp only [Qab]
    refine go_ ?_
    refine Jc (hO.out) ?_
    refine go_ ?_
    refine Jc (hW.out) ?_
    refine go_ ?_
    refine Jm (by simp) (by simp only [Tryz.results8]; rfl) (by simp [resP, St.box?, PF.get, Jn, TyK.agg, *]; rfl) Nl ?_
    exact ⟨rfl, rfl⟩
  by_cases h2 : 0 < W.2
  rotate_left
  · clear ho hof1 hof2
    refine PCalls.enter Tryz.func8 rfl Tryz.ntmps8 (by simp) ?_
    simp only [Qab]
    refine go_ ?_
    refine Jc (hO.out) ?_
    refine go_ ?_
    refine Jc (hW.out) ?_
    refine go_ ?_
    refine Jm (by simp) (by simp only [Tryz.results8]; rfl) (by simp [resP, St.box?, PF.get, Jn, TyK.agg, *]; rfl) Nl ?_
    exact ⟨rfl, rfl⟩
  obtain ⟨e1, e2⟩ := hof2 h2
  have hpl : p.length ≤ 300 := by omega
  have hpn : ∀ x ∈ p, pndT x ≤ 8000 := fun x hx => by have := pnd_mem x hx; omega
  rw [e1] at hO
  clear hof1 hof2 e1 e2
  by_cases h3 : (24 : Int) < args.length
  · clear ho hpn
    refine PCalls.enter Tryz.func8 rfl Tryz.ntmps8 (by simp) ?_
    simp only [Qab]
    refine go_ ?_
    refine Jc (hO.out) ?_
    refine go_ ?_
    refine Jc (hW.out) ?_
    refine go_ ?_
    refine Jm (by simp) (by simp only [Tryz.results8]; rfl) (by simp [resP, St.box?, PF.get, Jn, TyK.agg, *]; rfl) Nl ?_
    exact ⟨rfl, rfl⟩
  have hF := Lib.hid (rformed_p l ho)
  rw [← formed_eq] at hF
  have HP : Hid (∀ x ∈ p, PCalls Tryz.prog 19 [.d (.sl (l.map encD)), aggD x] [] fun r s => r = .d (.v (.bool (pRight l x))) ∧ s = []) := fun x hx => Qhy l x ho (hpn x hx)
  have HZ : Hid (∀ a : Tm, PCalls Tryz.prog 16 [aggD a] [] fun p s => p = .d (.v (.int .i64 (Qca a))) ∧ s = []) := fun a => rSize_p a
  have HT : Hid (∀ a : Tm, PCalls Tryz.prog 15 [aggD a] [] fun p s => p = .d (.v (.bool (Qad a))) ∧ s = []) := fun a => Qfc a
  have HM := cMatrix_p l p args ho hpn (by omega) (by omega)
  have HR : (formedB l = true ∧ (∀ x ∈ p, pRight l x = true) ∧ (∀ a ∈ args, Qad a = true)) → PCalls Tryz.prog 48 [.d (.sl (l.map encD)), .d (.sl (p.map encD)), .d (.sl (args.map encD))] [] fun r s => r = .d (.sl ((mxL l p args).map rowD)) ∧ s = [] := fun h => by
    refine r29Matrix_p l p args h.1 (fun x hx => ?_) h.2.2 (by omega) (by omega)
    have h3 : (formedB l && (decide (phgT x ≤ 128) && pgT l x)) = true := h.2.1 x hx
    simp only [Bool.and_eq_true] at h3
    exact h3.2.2
  have HS : Hid (∀ x ∈ p, ∀ a : Tm, PCalls Tryz.prog 40 [.d (.sl (l.map encD)), aggD x, aggD a] [] fun r s => r = .d (.v (.int .i64 (if pRight l x = true ∧ Qad a = true then Qat l x a else 0))) ∧ s = []) := fun x hx a => Qgl l x a ho (hpn x hx)
  have HQ : Hid (∀ x a, pRight l x = true → Qad a = true → PCalls Tryz.prog 46 [.d (.sl (l.map encD)), aggD x, aggD a] [] fun r s => r = .d (.v (.int .i64 (Qat l x a))) ∧ s = []) := fun x a h4 h5 => by
    have h3 : (formedB l && (decide (phgT x ≤ 128) && pgT l x)) = true := h4
    simp only [Bool.and_eq_true] at h3
    exact r29Stand_p l h3.1 x a h3.2.2 h5
  have hE : PCalls Tryz.prog 47 [.d (.sl ((mxL l p args).map rowD)), .d (.sl ((mxL l p args).map rowD))] [] fun r s => r = .d (.v (.bool true)) ∧ s = [] := by
    refine r29Same_p (mxL l p args) (by unfold mxL; rw [List.length_map]; omega) fun r hr => ?_
    obtain ⟨x, _, rfl⟩ := List.mem_map.1 hr
    rw [List.length_map]; omega
  obtain ⟨Z, hZ⟩ : ∃ Z, Z = ((formedB l && ((p.length : Int) == (args.length : Int))) && p.all (pRight l)) := ⟨_, rfl⟩
  obtain ⟨Y, hY⟩ : ∃ Y, Y = (Z && args.all Qad) := ⟨_, rfl⟩
  have hYc : (((formedB l && p.all (pRight l)) = true ∧ p.length = args.length) ∧ (args.all Qad) = true) ↔ Y = true := by
    rw [hY, hZ]
    simp only [Bool.and_eq_true, beq_iff_eq]
    constructor
    · rintro ⟨⟨⟨a, b⟩, c⟩, d⟩; exact ⟨⟨⟨a, by omega⟩, b⟩, d⟩
    · rintro ⟨⟨⟨a, c⟩, b⟩, d⟩; exact ⟨⟨⟨a, b⟩, by omega⟩, d⟩
  have HZ0 : Hid (Z = ((formedB l && ((p.length : Int) == (args.length : Int))) && (p.drop 0).all (pRight l))) := hZ
  have HY0 : Hid (Y = (Z && (args.drop 0).all Qad)) := hY
  have HYT : Hid (Y = true → formedB l = true ∧ (p.length = args.length) ∧ (∀ x ∈ p, pRight l x = true) ∧ (∀ a ∈ args, Qad a = true)) := fun h => by
    obtain ⟨⟨h1, h2⟩, h3⟩ := hYc.2 h
    simp only [Bool.and_eq_true, List.all_eq_true] at h1 h3
    exact ⟨h1.1, h2, h1.2, h3⟩
  have HMT : Hid (Y = true → PCalls Tryz.prog 45 [.d (.sl (l.map encD)), .d (.sl (p.map encD)), .d (.sl (args.map encD))] [] fun r s => r = .tup [.d (.sl ((mxL l p args).map rowD)), .d (.v (.int .i64 0))] ∧ s = []) := fun h => by
    rw [if_pos (hYc.2 h)] at HM; exact HM
  have HMF : Hid (Y = false → PCalls Tryz.prog 45 [.d (.sl (l.map encD)), .d (.sl (p.map encD)), .d (.sl (args.map encD))] [] fun r s => r = .tup [.d (.sl []), .d (.v (.int .i64 5))] ∧ s = []) := fun h => by
    rw [if_neg (fun e => by rw [hYc.1 e] at h; cases h)] at HM; exact HM
  have HRH := Lib.hid HR
  have HE := Lib.hid hE
  clear HM hYc hY hZ HR hE hpn ho
  generalize mxL l p args = M at *
  generalize formedB l = fb at *
  refine PCalls.enter Tryz.func8 rfl Tryz.ntmps8 (by simp) ?_
  simp only [Qab]
  refine go_ ?_
  refine Jc (hO.out) ?_
  refine go_ ?_
  refine Jc (hF.out) ?_
  refine go_ ?_
  cases fb
  all_goals
    refine go_ ?_
    refine Qak (ι := Nat × Bool) (fun y => y.1 ≤ p.length ∧ Hid (Z = (y.2 && (p.drop y.1).all (pRight l)))) (fun y => [(0, .d (.sl (l.map encD))), (1, .d (.sl (p.map encD))), (2, .d (.sl (args.map encD))), (7, .d (.sl (p.map encD))), (9, .d (.v (.bool y.2))), (10, .d (.v (.int .i64 (y.1 : Int))))]) (fun _ => []) (fun y => p.length - y.1) (0, _) ⟨Nat.zero_le _, HZ0.out⟩ ?_ ?_ ?_
    · repeat (first | exact Jt _ | refine Js (by simp [PF.get]; rfl) (by first | rfl | (simp [*]; done) | fail) ?_)
    · repeat (first | exact List.Sublist.refl _ | exact List.nil_sublist _ | refine List.Sublist.cons_cons _ ?_ | refine List.Sublist.cons _ ?_)
    rintro ⟨j, b⟩ ⟨hj, hR⟩
    simp only at hj hR ⊢
    clear HZ0
    by_cases hlt : j < p.length
    · have hx := Qal hlt
      have hc : (j : Int) < p.length := by omega
      have hn : (0 : Int) ≤ j := by omega
      have hin := wr64 (n := (j : Int) + 1) (by omega) (by omega)
      have hc1 := Lib.hid (HP.out _ (List.getElem_mem hlt))
      have hR2 : Hid (Z = ((b && pRight l p[j]) && (p.drop (j + 1)).all (pRight l))) := by show _ = _; rw [show Z = _ from hR.out, List.drop_eq_getElem_cons hlt, List.all_cons, Bool.and_assoc]
      simp only [aggD, Qao, Jl, List.map_cons, List.map_nil] at hc1
      clear hR
      generalize pRight l p[j] = q at *
      cases b with
      | false =>
        refine go_ ?_
        exact ⟨(j + 1, false), ⟨hlt, hR2.out⟩, by simp only; omega, by repeat (first | exact Jt _ | refine Js (by simp [PF.get]; rfl) (by first | rfl | (simp [*]; done) | fail) ?_), by repeat (first | exact List.Sublist.refl _ | exact List.nil_sublist _ | refine List.Sublist.cons_cons _ ?_ | refine List.Sublist.cons _ ?_)⟩
      | true =>
        refine go_ ?_
        refine Jr (hc1.out) ?_
        refine go_ ?_
        exact ⟨(j + 1, q), ⟨hlt, hR2.out⟩, by simp only; omega, by repeat (first | exact Jt _ | refine Js (by simp [PF.get]; rfl) (by first | rfl | (simp [*]; done) | fail) ?_), by repeat (first | exact List.Sublist.refl _ | exact List.nil_sublist _ | refine List.Sublist.cons_cons _ ?_ | refine List.Sublist.cons _ ?_)⟩
    have hc : ¬ (j : Int) < p.length := by omega
    have hf : Hid (Z = b) := by show _ = _; rw [show Z = _ from hR.out, List.drop_of_length_le (by omega)]; simp
    clear hR
    rw [← hf.out]
    refine go_ ?_
    refine Qak (ι := Nat × Bool) (fun y => y.1 ≤ args.length ∧ Hid (Y = (y.2 && (args.drop y.1).all Qad))) (fun y => [(0, .d (.sl (l.map encD))), (1, .d (.sl (p.map encD))), (2, .d (.sl (args.map encD))), (7, .d (.sl (p.map encD))), (9, .d (.v (.bool y.2))), (11, .d (.v (.int .i64 (y.1 : Int))))]) (fun _ => []) (fun y => args.length - y.1) (0, Z) ⟨Nat.zero_le _, HY0.out⟩ ?_ ?_ ?_
    · repeat (first | exact Jt _ | refine Js (by simp [PF.get]; rfl) (by first | rfl | (simp [*]; done) | fail) ?_)
    · repeat (first | exact List.Sublist.refl _ | exact List.nil_sublist _ | refine List.Sublist.cons_cons _ ?_ | refine List.Sublist.cons _ ?_)
    rintro ⟨k, b2⟩ ⟨hk, hR⟩
    simp only at hk hR ⊢
    clear HY0
    by_cases hkl : k < args.length
    · have hxa := Qal hkl
      have hck : (k : Int) < args.length := by omega
      have hnk : (0 : Int) ≤ k := by omega
      have hink := wr64 (n := (k : Int) + 1) (by omega) (by omega)
      have hc1 := Lib.hid (HZ.out args[k])
      have hc2 := Lib.hid (HT.out args[k])
      have hR2 : Hid (Y = ((b2 && Qad args[k]) && (args.drop (k + 1)).all Qad)) := by show _ = _; rw [show Y = _ from hR.out, List.drop_eq_getElem_cons hkl, List.all_cons, Bool.and_assoc]
      simp only [aggD, Jl, List.map_cons, List.map_nil] at hc1 hc2
      clear hR
      generalize Qad args[k] = q at *
      generalize Qca args[k] = z at *
      refine go_ ?_
      refine Jc (hc1.out) ?_
      by_cases hz : 200 < z
      · refine go_ ?_
        refine Jc (hW.out) ?_
        refine go_ ?_
        refine Jm (by simp) (by simp only [Tryz.results8]; rfl) (by simp [resP, St.box?, PF.get, Jn, TyK.agg, *]; rfl) Nl ?_
        exact ⟨rfl, rfl⟩
      cases b2 with
      | false =>
        refine go_ ?_
        exact ⟨(k + 1, false), ⟨hkl, hR2.out⟩, by simp only; omega, by repeat (first | exact Jt _ | refine Js (by simp [PF.get]; rfl) (by first | rfl | (simp [*]; done) | fail) ?_), by repeat (first | exact List.Sublist.refl _ | exact List.nil_sublist _ | refine List.Sublist.cons_cons _ ?_ | refine List.Sublist.cons _ ?_)⟩
      | true =>
        refine go_ ?_
        refine Jr (hc2.out) ?_
        refine go_ ?_
        exact ⟨(k + 1, q), ⟨hkl, hR2.out⟩, by simp only; omega, by repeat (first | exact Jt _ | refine Js (by simp [PF.get]; rfl) (by first | rfl | (simp [*]; done) | fail) ?_), by repeat (first | exact List.Sublist.refl _ | exact List.nil_sublist _ | refine List.Sublist.cons_cons _ ?_ | refine List.Sublist.cons _ ?_)⟩
    have hck : ¬ (k : Int) < args.length := by omega
    have hg : Hid (Y = b2) := by show _ = _; rw [show Y = _ from hR.out, List.drop_of_length_le (by omega)]; simp
    clear hR
    cases b2 with
    | false =>
      have hc3 := Lib.hid (HMF.out hg.out)
      refine go_ ?_
      refine Jc (hc3.out) ?_
      refine go_ ?_
      refine Jr (hW.out) ?_
      refine go_ ?_
      refine Jm (by simp) (by simp only [Tryz.results8]; rfl) (by simp [resP, St.box?, PF.get, Jn, TyK.agg, *]; rfl) Nl ?_
      exact ⟨rfl, rfl⟩
    | true =>
      have hc3 := Lib.hid (HMT.out hg.out)
      obtain ⟨y1, y2, y3, y4⟩ := HYT.out hg.out
      cases y1
      all_goals
        have hc4 := Lib.hid (HRH.out ⟨rfl, y3, y4⟩)
        clear HMT HMF HRH HYT HP HZ HT
        refine go_ ?_
        refine Jc (hc3.out) ?_
        refine go_ ?_
        refine Qax [(0, .a), (1, .a), (2, .a), (3, .a), (4, .a), (5, .a), (6, .a), (7, .a), (8, .a), (9, .a), (10, .a), (11, .a), (12, .a), (13, .a), (14, .a), (15, .a), (16, .a), (17, .a), (18, .a), (19, .a), (20, .a), (21, .a)] (by kernel_rfl) (by rfl) (by kernel_rfl) ?_
        cases p with
        | nil =>
          simp only [List.map_nil] at hc4
          refine go_ ?_
          refine Jr (hc4.out) ?_
          refine go_ ?_
          refine Jr (HE.out) ?_
          refine go_ ?_
          refine Jr (hW.out) ?_
          refine go_ ?_
          refine Jm (by simp) (by simp only [Tryz.results8]; rfl) (by simp [resP, St.box?, PF.get, Jn, TyK.agg, *]; rfl) Nl ?_
          exact ⟨rfl, rfl⟩
        | cons x ps =>
        cases args with
        | nil => simp at y2
        | cons a rs =>
          have hs1 := HS.out x (by simp) a
          rw [if_pos ⟨y3 x (by simp), y4 a (by simp)⟩] at hs1
          have hs2 := Lib.hid (HQ.out x a (y3 x (by simp)) (y4 a (by simp)))
          have HS1 := Lib.hid hs1
          simp only [aggD, Qao, Jl, List.map_cons, List.map_nil] at hs2 HS1 hc4
          generalize Qat l x a = z at *
          have hzz : (z != z) = false := by simp
          clear hs1 HS HQ y3 y4
          refine go_ ?_
          refine Qbm (HS1.out) ?_
          refine go_ ?_
          refine Qbm (hs2.out) ?_
          refine go_ ?_
          refine Jr (hc4.out) ?_
          refine go_ ?_
          refine Jr (HE.out) ?_
          refine go_ ?_
          refine Jr (hW.out) ?_
          refine go_ ?_
          refine Jm (by simp) (by simp only [Tryz.results8]; rfl) (by simp [resP, St.box?, PF.get, Jn, TyK.agg, *]; rfl) Nl ?_
          exact ⟨rfl, rfl⟩
theorem stands_walk (v : Value) (l : List En) (v2 : Value) (p : List Pt) (v3 : Value) (args : List Tm) (w : World) (h : EnS w v l) (h2 : PtS w v2 p) (h3 : TwS w v3 args) : Calls Tryz.prog 8 #[v, v2, v3] w fun e w' => e = .returned (.bool true) ∧ Below w.heap.size w w' := by
 refine PCalls.top ((stands_p l p args h.2).mono fun p s hp => hp.1) ?_
 exact Qby (.d (relS_of (fun b o v _ hv => ⟨v, hv⟩) (by decide) h.1)) (Qby (.d (relS_of (fun b o v _ hv => ⟨v, hv⟩) (by decide) h2)) (Qby (.d (relS_of (fun b o v _ hv => ⟨v, hv⟩) (by decide) h3)) (Qel _ _)))
theorem apT_apply (l : List Tm) : ∀ t : Tm, apT t l = Qau t l := by
 induction l with
 | nil => intro t; rfl
 | cons a l ih => intro t; exact ih _
def bldP (o : Option Tm) : PV := match o with
 | some t => .tup [aggD t, .d (.v (.bool true))]
 | none => .tup [aggD (Tm.mk 0 0 []), .d (.v (.bool false))]
theorem r24Term_p (l : List En) (hF : formedB l = true) (pars : List Tm) (hpl : pars.length ≤ 1000) (hp : ∀ c : Int, parN l c ≤ pars.length) : ∀ p : Pt, pgT l p = true → PCalls Tryz.prog 20 [.d (.sl (l.map encD)), aggD p, .d (.sl (pars.map encD))] [] fun r s => r = bldP (bldT l pars p) ∧ s = [] := by
  refine Pt.ind ?_
  intro k n a sub d ih hg
  obtain ⟨R, hR⟩ : ∃ R, R = bldT l pars (.mk k n a sub d) := ⟨_, rfl⟩
  rw [← hR]
  by_cases k1 : k = 1
  · subst k1
    rw [bld_var] at hR
    have hL := Lib.hid (rleaf_p 8 n)
    subst hR
    clear ih hg hF hp
    simp only [bldP, aggD, Qao, Jl, List.map_cons, List.map_nil, Pt.kind_mk, Pt.num_mk, Pt.at_mk, Pt.sub_mk, Pt.t_mk, Tm.kind_mk, Tm.num_mk, Tm.sub_mk] at hL ⊢
    refine PCalls.enter Tryz.func20 rfl Tryz.ntmps20 (by simp) ?_
    simp only [Qab]
    refine go_ ?_
    refine Jd ?_
    intro i0 hi0
    try simp only [Ja, Rh, Rg, Jb] at hi0
    refine go_ ?_
    refine Je ?_
    intro i1 hi1
    try simp only [Ja, Rh, Rg, Jb] at hi1
    refine go_ ?_
    refine Jc (hL.out) ?_
    refine go_ ?_
    refine Rd ?_
    refine go_ ?_
    refine Jm (by simp) (by simp only [Tryz.results20]; rfl) (by simp [resP, St.box?, PF.get, Jn, TyK.agg, *]; rfl) Nl ?_
    exact ⟨rfl, rfl⟩
  by_cases k2 : k = 2
  rotate_left
  · rw [bld_no k1 k2] at hR
    subst hR
    have k2b : (k != 2) = true := bne_iff_ne.2 k2
    clear ih hg hF hp k2
    simp only [bldP, aggD, Qao, Jl, List.map_cons, List.map_nil, Pt.kind_mk, Pt.num_mk, Pt.at_mk, Pt.sub_mk, Pt.t_mk, Tm.kind_mk, Tm.num_mk, Tm.sub_mk]
    refine PCalls.enter Tryz.func20 rfl Tryz.ntmps20 (by simp) ?_
    simp only [Qab]
    refine go_ ?_
    refine Jd ?_
    intro i0 hi0
    try simp only [Ja, Rh, Rg, Jb] at hi0
    refine go_ ?_
    refine Je ?_
    intro i1 hi1
    try simp only [Ja, Rh, Rg, Jb] at hi1
    refine go_ ?_
    refine Rd ?_
    refine go_ ?_
    refine Jm (by simp) (by simp only [Tryz.results20]; rfl) (by simp [resP, St.box?, PF.get, Jn, TyK.agg, *]; rfl) Nl ?_
    exact ⟨rfl, rfl⟩
  subst k2
  rw [Qie] at hR
  obtain ⟨har, hgs⟩ := Qhf hg
  obtain ⟨i, x, m, rfl, hil, hx, hx0, hpm, hmp, hm24, hs24⟩ := con_at hF har
  rw [← hmp] at hR
  have hmp2 : m ≤ pars.length := by rw [hmp]; exact hp i
  have IH : Hid (∀ s ∈ sub, PCalls Tryz.prog 20 [.d (.sl (l.map encD)), aggD s, .d (.sl (pars.map encD))] [] fun r s' => r = bldP (bldT l pars s) ∧ s' = []) := fun s hs => ih s hs (hgs s hs)
  have HS : Hid (List.drop 0 (List.take m (pars.map encD)) = ((pars.take m).map encD)) := by show _ = _; rw [List.drop_zero, List.map_take]
  have hC := Lib.hid (bC_p i)
  have hAp := Lib.hid (rapply07_p (.mk 6 i []) (pars.take m) (by rw [List.length_take]; omega))
  rw [apT_apply] at hAp
  generalize Qau (.mk 6 i []) (pars.take m) = t0 at *
  obtain ⟨B, hB⟩ : ∃ B, B = pars.take m := ⟨_, rfl⟩
  rw [← hB] at hAp HS
  have HR : Hid (R = (bldL l pars (sub.drop 0)).map fun ts => Qau t0 ts) := hR
  have hc0 : (i : Int) < l.length := by omega
  have hn0 : (0 : Int) ≤ i := by omega
  have hmi : (m : Int) ≤ pars.length := by omega
  clear hR k1 hF hg har hgs ih hmp hx0 hil hp hB
  simp only [aggD, Qao, Jl, List.map_cons, List.map_nil, Pt.kind_mk, Pt.num_mk, Pt.at_mk, Pt.sub_mk, Pt.t_mk, Tm.kind_mk, Tm.num_mk, Tm.sub_mk] at hC hAp ⊢
  refine PCalls.enter Tryz.func20 rfl Tryz.ntmps20 (by simp) ?_
  simp only [Qab]
  refine go_ ?_
  refine Jd ?_
  intro i0 hi0
  try simp only [Ja, Rh, Rg, Jb] at hi0
  refine go_ ?_
  refine Je ?_
  intro i1 hi1
  try simp only [Ja, Rh, Rg, Jb] at hi1
  refine go_ ?_
  refine Qek (J := Qcy [(i0, _)]) [(0, .a), (1, .a), (2, .a), (3, .a), (4, .a), (5, .a), (6, .a), (7, .a), (8, .a), (9, .a), (10, .a), (11, .a), (12, .e), (13, .e)] (by kernel_rfl) (by rfl) (by kernel_rfl) (by (repeat (first | exact Qap _ | refine Ju (by simp [St.box?, *] <;> rfl) ?_))) ?_
  repeat (first | with_reducible refine Qaw ?_ | refine Qay ?_ | refine Qbe ?_ | refine Qbg ?_)
  refine Qdp (hC.out) ?_
  repeat (first | with_reducible refine Qaw ?_ | refine Qay ?_ | refine Qbe ?_ | refine Qbg ?_)
  refine Qhg 0 m ?_ ?_ HS.out
  rotate_left
  · exact Qem _
  repeat (first | with_reducible refine Qaw ?_ | refine Qay ?_ | refine Qbe ?_ | refine Qbg ?_)
  refine Qdp (hAp.out) ?_
  repeat (first | with_reducible refine Qaw ?_ | refine Qay ?_ | refine Qbe ?_ | refine Qbg ?_)
  refine Qgh rfl (by decide) rfl (by simp; rfl) (fun i hi => by simp only [Ja, Rh, Rg] at hi; (repeat (first | exact Qap _ | refine Ju (by simp [St.box?, *] <;> rfl) ?_))) ?_
  intro i2 hi2
  try simp only [Ja, Rh, Rg, Jb] at hi2
  repeat (first | with_reducible refine Qaw ?_ | refine Qay ?_ | refine Qbe ?_ | refine Qbg ?_)
  refine Qgi rfl rfl (by simp [nev, nevA, nevB, Jp, PF.eval, PF.get, PF.wants, cPV, Qag, PV.rows, Qah, evUn, Jq, Qaj, Qai, Jn, TyK.agg, Qaf, St.box?, St.tok?, St.setBox, St.setTok, Qae, spl, PV.ps, PV.one, Jo, aggD, slD, Jh, Jk, Ji, Jj, Jg, Jf, *]; rfl) (by rfl) (by simp [nev, nevA, nevB, Jp, PF.eval, PF.get, PF.wants, cPV, Qag, PV.rows, Qah, evUn, Jq, Qaj, Qai, Jn, TyK.agg, Qaf, St.box?, St.tok?, St.setBox, St.setTok, Qae, spl, PV.ps, PV.one, Jo, aggD, slD, Jh, Jk, Ji, Jj, Jg, Jf, *]; rfl) (by simp [PV.ps, aggD, slD, Jh, Jk, Ji, Jj, Jg, Jf]; rfl) (by first | rfl | (simp [*]; done) | (simp [PV.one, *]; done) | fail) (by simp; rfl) (by first | (simp; done) | fail) (by simp [nev, nevA, nevB, Jp, PF.eval, PF.get, PF.wants, cPV, Qag, PV.rows, Qah, evUn, Jq, Qaj, Qai, Jn, TyK.agg, Qaf, St.box?, St.tok?, St.setBox, St.setTok, Qae, spl, PV.ps, PV.one, Jo, aggD, slD, Jh, Jk, Ji, Jj, Jg, Jf, *]; rfl) (by rfl) (by first | (simp; done) | fail) (by simp [St.setBox, spl, *]; rfl) (by (repeat (first | exact Qap _ | refine Ju (by simp [St.box?, *] <;> rfl) ?_))) ?_
  repeat (first | with_reducible refine Qaw ?_ | refine Qay ?_ | refine Qbe ?_ | refine Qbg ?_)
  refine go_ ?_
  clear HS hC hAp
  refine Qak (ι := Nat × Tm) (fun y => y.1 ≤ sub.length ∧ Hid (R = (bldL l pars (sub.drop y.1)).map fun ts => Qau y.2 ts)) (fun y => [(0, .d (.sl (l.map encD))), (2, .d (.sl (pars.map encD))), (4, .ptr i0 0), (6, .ptr i1 0), (8, .ptr i2 0), (9, .d (.v (.int .i64 (y.1 : Int))))]) (fun y => [.box i2 26 [.d (.v (.int .i64 y.2.kind)), .d (.v (.int .i64 y.2.num)), .d (.sl (y.2.sub.map encD))], .box i1 26 [.d (.v (.int .i64 0)), .d (.v (.int .i64 0)), .nils], .box i0 44 [.d (.v (.int .i64 2)), .d (.v (.int .i64 (i : Int))), .d (.v (.int .i64 a)), .d (.sl (sub.map encD)), .d (.v (.int .i64 d.kind)), .d (.v (.int .i64 d.num)), .d (.sl (d.sub.map encD))]]) (fun y => sub.length - y.1) (0, t0) ⟨Nat.zero_le _, HR.out⟩ ?_ ?_ ?_
  · repeat (first | exact Jt _ | refine Js (by simp [PF.get]; rfl) (by first | rfl | (simp [*]; done) | fail) ?_)
  · repeat (first | exact List.Sublist.refl _ | exact List.nil_sublist _ | refine List.Sublist.cons_cons _ ?_ | refine List.Sublist.cons _ ?_)
  rintro ⟨j, u⟩ ⟨hj, hR⟩
  simp only at hj hR ⊢
  clear HR
  by_cases hlt : j < sub.length
  · have hxs := Qal hlt
    have hc : (j : Int) < sub.length := by omega
    have hn1 : (0 : Int) ≤ j := by omega
    have hin := wr64 (n := (j : Int) + 1) (by omega) (by omega)
    have hc1 := Lib.hid (IH.out _ (List.getElem_mem hlt))
    have hR2 : Hid (R = match bldT l pars sub[j] with | none => none | some t => (bldL l pars (sub.drop (j + 1))).map fun ts => Qau u (t :: ts)) := by
      show _ = _
      rw [show R = _ from hR.out, List.drop_eq_getElem_cons hlt]
      simp only [bldL]
      cases bldT l pars sub[j] with
      | none => rfl
      | some t => simp only [Option.map_map]; rfl
    simp only [aggD, Qao, Jl, List.map_cons, List.map_nil] at hc1
    clear hR
    generalize bldT l pars sub[j] = o at *
    cases o with
    | none =>
      have hf : Hid (R = none) := hR2.out
      clear hR2
      simp only [bldP, aggD, Jl, List.map_nil, Tm.kind_mk, Tm.num_mk, Tm.sub_mk] at hc1
      refine go_ ?_
      refine Jc (hc1.out) ?_
      refine go_ ?_
      refine Je ?_
      intro i3 hi3
      try simp only [Ja, Rh, Rg, Jb] at hi3
      refine go_ ?_
      refine Rd ?_
      refine go_ ?_
      refine Rd ?_
      refine go_ ?_
      refine Jm (by simp) (by simp only [Tryz.results20]; rfl) (by simp [resP, St.box?, PF.get, Jn, TyK.agg, *]; rfl) Nl ?_
      exact ⟨by rw [hf.out]; rfl, rfl⟩
    | some t =>
      have hR3 : Hid (R = (bldL l pars (sub.drop (j + 1))).map fun ts => Qau (.mk 5 0 [u, t]) ts) := hR2.out
      have hA1 := Lib.hid (bA_p u [t] (by simp))
      rw [show apT u [t] = .mk 5 0 [u, t] from rfl] at hA1
      clear hR2
      simp only [bldP, aggD, Jl, List.map_cons, List.map_nil, Tm.kind_mk, Tm.num_mk, Tm.sub_mk] at hc1 hA1
      refine go_ ?_
      refine Jc (hc1.out) ?_
      refine go_ ?_
      refine Je ?_
      intro i3 hi3
      try simp only [Ja, Rh, Rg, Jb] at hi3
      refine go_ ?_
      refine Rd ?_
      refine go_ ?_
      refine Qam ?_
      refine go_ ?_
      refine Jc (hA1.out) ?_
      refine go_ ?_
      refine Rd ?_
      refine go_ ?_
      refine ⟨(j + 1, .mk 5 0 [u, t]), ⟨hlt, hR3.out⟩, by simp only; omega, by repeat (first | exact Jt _ | refine Js (by simp [PF.get]; rfl) (by first | rfl | (simp [*]; done) | fail) ?_), ?_⟩
      simp only [Tm.kind_mk, Tm.num_mk, Tm.sub_mk, List.map_cons, List.map_nil, Jl]
      repeat (first | exact List.Sublist.refl _ | exact List.nil_sublist _ | refine List.Sublist.cons_cons _ ?_ | refine List.Sublist.cons _ ?_)
  · have hc : ¬ (j : Int) < sub.length := by omega
    have hf : Hid (R = some u) := by show _ = _; rw [show R = _ from hR.out, List.drop_of_length_le (by omega)]; rfl
    clear hR
    refine go_ ?_
    refine Rd ?_
    refine go_ ?_
    refine Jm (by simp) (by simp only [Tryz.results20]; rfl) (by simp [resP, St.box?, PF.get, Jn, TyK.agg, *]; rfl) Nl ?_
    exact ⟨by rw [hf.out]; simp only [bldP, aggD, Jl]; rfl, rfl⟩
end Go.Proofs.YtdklpbefbamchaaGreat
