import Derived.Test.YtfnfbbmegdkhjaaGreatBP
import Derived.Test.YtfnfbbmegdkhjaaGreatBS1
import Derived.Test.YtfnfbbmegdkhjaaGreatBE
import Derived.Test.YtfnfbbmegdkhjaaGreatBA1
set_option linter.unusedSimpArgs false
set_option linter.unusedVariables false
namespace Go.Proofs.YtfnfbbmegdkhjaaGreat
open Go.RowKit
set_option maxRecDepth 100000
/-- is a constructor of a formed signature not strictly positive? -/
def badX (x : En) (q m : Nat) (di : Int) : Bool := decide (0 ≤ pargF ((teleT x.ty).drop m) q m di ((teleT x.ty).drop m) 0) || ((argsT (benT x.ty)).drop m).any fun a => stT a q
def badC (l : List En) (x : En) : Bool := badX x x.of_.toNat x.pars.toNat (indsOf l x.of_)
theorem drop_enc {l : List Tm} {m : Nat} : List.drop m (List.take l.length (List.map encD l)) = (l.drop m).map encD := by
  rw [List.take_of_length_le (by rw [List.length_map]; exact Nat.le_refl _), List.map_drop]
set_option maxHeartbeats 16000000 in
theorem pcon_p (l : List En) (i : Nat) (x : En) (hF : formedB l = true) (hx : l[i]? = some x) (hk : x.kind = 2) :
    PCalls Tryz.prog 42 [.d (.sl (l.map encD)), .d (.v (.int .i64 i))] [] fun p s => p = .d (.v (.bool (badC l x))) ∧ s = [] := by
  obtain ⟨q, m, d, hq, hqi, hd, hdk, hm, hdm, hm1, hn0, hn1, hs, h24, hmt, hma, -⟩ := con_facts hF hx hk
  have e1 : badC l x = badX x q m d.inds := by
    unfold badC indsOf
    rw [hq, hm, Int.toNat_natCast, Int.toNat_natCast, hd]
  rw [e1]
  have hW := Lib.hid (tWhole_p x.ty)
  rw [whole_in hs h24] at hW
  unfold splitP at hW
  obtain ⟨-, -, -, -, hsb, hst⟩ := tele_whole _ x.ty (Nat.le_refl _) hs
  have hS := Lib.hid (tSpine_p (benT x.ty) hsb)
  have hA := Lib.hid (pargs_p ((teleT x.ty).drop m) q m d.inds (by omega) (by omega) hn0 hn1 (by rw [List.length_drop]; omega) (by omega) (fun t ht => hst t (List.mem_of_mem_drop ht)))
  obtain ⟨R, hR⟩ : ∃ R, R = badX x q m d.inds := ⟨_, rfl⟩
  rw [← hR]
  unfold badX at hR
  have HR := Lib.hid hR
  have hi0 : (0 : Int) ≤ i := by omega
  have hil : (i : Int) < l.length := by have := (List.getElem?_eq_some_iff.1 hx).1; omega
  have hq0 : (0 : Int) ≤ q := by omega
  have hql : (q : Int) < l.length := by have := (List.getElem?_eq_some_iff.1 hd).1; omega
  have hm0 : (0 : Int) ≤ m := by omega
  have hlen : (argsT (benT x.ty)).length ≤ 8192 := by have := args_len (benT x.ty); have := (shaped_hg hsb).2.2; omega
  have HS1 := Lib.hid (drop_enc (l := teleT x.ty) (m := m))
  have HS2 := Lib.hid (drop_enc (l := argsT (benT x.ty)) (m := m))
  clear hR e1 hs hsb hst hF hk hdk
  simp only [aggD, encD_tm, List.map_cons, List.map_nil, Int.natCast_zero] at hW hS
  generalize benT x.ty = T at *
  generalize teleT x.ty = sl at *
  generalize headT T = h at *
  generalize argsT T = a at *
  obtain ⟨di, hdi⟩ : ∃ di, d.inds = di := ⟨_, rfl⟩
  rw [hdi] at hn0 hn1 HR hA
  have hlA : (sl.drop m).length ≤ 24 := by rw [List.length_drop]; omega
  have hlB : (a.drop m).length ≤ 8192 := by rw [List.length_drop]; omega
  generalize a.drop m = a' at *
  generalize sl.drop m = sl' at *
  generalize pargF sl' q m di sl' 0 = N at *
  refine PCalls.enter Tryz.func42 rfl Tryz.ntmps42 (by simp) ?_
  simp only [argsF]
  refine go_ ?_
  refine POps_alloc_a ?_
  intro i1 hi1
  try simp only [St.freshB_box, St.freshB_nil, St.freshB_tok, St.freshB_obj] at hi1
  refine go_ ?_
  refine Rd ?_
  refine go_ ?_
  refine POps_alloc_a ?_
  intro i2 hi2
  try simp only [St.freshB_box, St.freshB_nil, St.freshB_tok, St.freshB_obj] at hi2
  refine go_ ?_
  refine Rd ?_
  refine go_ ?_
  refine POps_call_a (hW.out) ?_
  refine go_ ?_
  refine POps_alloc_a ?_
  intro i3 hi3
  try simp only [St.freshB_box, St.freshB_nil, St.freshB_tok, St.freshB_obj] at hi3
  refine go_ ?_
  refine Rd ?_
  refine go_ ?_
  refine PW_drawn [(0, .a), (1, .a), (2, .b), (3, .a), (4, .a), (5, .b), (6, .a), (7, .b), (8, .a), (9, .b), (10, .a), (11, .a), (12, .a), (13, .a), (14, .a), (15, .a)] (by kernel_rfl) (by rfl) (by kernel_rfl) ?_
  refine go_ ?_
  refine POrd_slice m sl.length ?_ rfl (by decide) (by first | (simp [nev, nevA, nevB, evBuild, PF.eval, PF.get, PF.wants, cPV, cCell, PV.rows, evBin, evUn, evConv, evLen, loadA, loadB, TyK.agg, partA, St.box?, St.tok?, St.setBox, St.setTok, fillO, spl, PV.ps, PV.one, evalArgs, aggD, slD, encD_nd, encD_bd, encD_rw, encD_dc, encD_str, encD_int, *]; done) | fail) (by simp; rfl) (by rfl) (by decide) (by simp [nev, nevA, nevB, evBuild, PF.eval, PF.get, PF.wants, cPV, cCell, PV.rows, evBin, evUn, evConv, evLen, loadA, loadB, TyK.agg, partA, St.box?, St.tok?, St.setBox, St.setTok, fillO, spl, PV.ps, PV.one, evalArgs, aggD, slD, encD_nd, encD_bd, encD_rw, encD_dc, encD_str, encD_int, *]; rfl) (by simp [PV.rows]; rfl) (by first | rfl | (simp [lowOf, PF.eval, PF.get, cPV, cCell, *]; done) | fail) (by first | rfl | (simp [highOf, PF.eval, PF.get, cPV, cCell, *]; done) | fail) (by first | omega | (simp; done) | (simp; omega)) (by first | omega | (simp; done) | (simp; omega)) ?_
  rotate_left
  · exact rows3 _
  rw [HS1.out]
  refine go_ ?_
  refine POrd_call_a (hA.out) ?_
  refine go_ ?_
  clear hA hW HS1
  by_cases hN : 0 ≤ N
  · have hf : Hid (R = true) := by show _ = _; rw [show R = _ from HR.out, decide_eq_true hN]; rfl
    clear HR
    refine go_ ?_
    refine retP_ok (by simp) (by simp only [Tryz.results42]; rfl) (by simp [resP, St.box?, PF.get, loadB, TyK.agg, *]; rfl) (List.nil_sublist _) ?_
    exact ⟨by rw [hf.out]; rfl, rfl⟩
  have HR0 : Hid (R = (a'.drop 0).any fun a => stT a q) := by show _ = _; rw [show R = _ from HR.out, decide_eq_false hN]; rfl
  clear HR
  refine go_ ?_
  refine POps_call_a (hS.out) ?_
  refine go_ ?_
  refine POps_alloc_a ?_
  intro i4 hi4
  try simp only [St.freshB_box, St.freshB_nil, St.freshB_tok, St.freshB_obj] at hi4
  refine go_ ?_
  refine Rd ?_
  refine go_ ?_
  refine POps_slice m a.length ?_ (by decide) (by first | (simp [nev, nevA, nevB, evBuild, PF.eval, PF.get, PF.wants, cPV, cCell, PV.rows, evBin, evUn, evConv, evLen, loadA, loadB, TyK.agg, partA, St.box?, St.tok?, St.setBox, St.setTok, fillO, spl, PV.ps, PV.one, evalArgs, aggD, slD, encD_nd, encD_bd, encD_rw, encD_dc, encD_str, encD_int, *]; done) | fail) (by simp; rfl) (by rfl) (by decide) (by simp [nev, nevA, nevB, evBuild, PF.eval, PF.get, PF.wants, cPV, cCell, PV.rows, evBin, evUn, evConv, evLen, loadA, loadB, TyK.agg, partA, St.box?, St.tok?, St.setBox, St.setTok, fillO, spl, PV.ps, PV.one, evalArgs, aggD, slD, encD_nd, encD_bd, encD_rw, encD_dc, encD_str, encD_int, *]; rfl) (by simp [PV.rows]; rfl) (by first | rfl | (simp [lowOf, PF.eval, PF.get, cPV, cCell, *]; done) | fail) (by first | rfl | (simp [highOf, PF.eval, PF.get, cPV, cCell, *]; done) | fail) (by first | omega | (simp; done) | (simp; omega)) (by first | omega | (simp; done) | (simp; omega)) ?_
  rotate_left
  · exact rows3 _
  rw [HS2.out]
  refine go_ ?_
  clear hS HS2 hN
  refine PW_loop (ι := Nat) (fun y => y ≤ a'.length ∧ Hid (R = (a'.drop y).any fun a => stT a q)) (fun y => [(5, .ptr i1 0), (56, .d (.sl (a'.map encD))), (57, .d (.v (.int .i64 a'.length))), (58, .d (.v (.int .i64 (y : Int))))]) (fun _ => [.box i1 30 [.d (.v (.int .i64 x.kind)), .d (.v (.string x.name)), .d (.v (.int .i64 x.ty.kind)), .d (.v (.int .i64 x.ty.num)), .d (.sl (x.ty.sub.map encD)), .d (.v (.int .i64 x.body.kind)), .d (.v (.int .i64 x.body.num)), .d (.sl (x.body.sub.map encD)), .d (.v (.int .i64 q)), .d (.v (.int .i64 x.place)), .d (.v (.int .i64 m)), .d (.v (.int .i64 x.inds)), .d (.v (.int .i64 x.level)), .d (.sl (x.cons.map encD)), .d (.sl (x.fields.map encD))]]) (fun y => a'.length - y) 0 ⟨Nat.zero_le _, HR0.out⟩ ?_ ?_ ?_
  · repeat (first | exact sub_nil _ | refine sub_cons (by simp [PF.get]; rfl) (by first | rfl | (simp [*]; done) | fail) ?_)
  · repeat (first | exact List.Sublist.refl _ | exact List.nil_sublist _ | refine List.Sublist.cons_cons _ ?_ | refine List.Sublist.cons _ ?_)
  · rintro j ⟨hj, hR⟩
    clear HR0
    by_cases hlt : j < a'.length
    · have hx2 := get_enc hlt
      have hc : (j : Int) < a'.length := by omega
      have hn : (0 : Int) ≤ j := by omega
      have hin := wr64 (n := (j : Int) + 1) (by omega) (by omega)
      have hR2 : Hid (R = (stT a'[j] q || (a'.drop (j + 1)).any fun a => stT a q)) := by
        rw [show R = _ from hR.out, List.drop_eq_getElem_cons hlt]; rfl
      have hc1 := Lib.hid (pstands_p a'[j] q)
      simp only [aggD, encD_tm, List.map_cons, List.map_nil] at hc1
      clear hR
      generalize stT a'[j] q = x' at *
      refine go_ ?_
      refine POps_alloc_a ?_
      intro i5 hi5
      try simp only [St.freshB_box, St.freshB_nil, St.freshB_tok, St.freshB_obj] at hi5
      refine go_ ?_
      refine Rd ?_
      refine go_ ?_
      refine POps_call_a (hc1.out) ?_
      refine go_ ?_
      clear hc1
      rcases Bool.eq_false_or_eq_true (x') with hq2 | hq2
      · have hf : Hid (R = true) := by show _ = _; rw [show R = _ from hR2.out, hq2]; rfl
        clear hR2
        refine go_ ?_
        refine retP_ok (by simp) (by simp only [Tryz.results42]; rfl) (by simp [resP, St.box?, PF.get, loadB, TyK.agg, *]; rfl) (List.nil_sublist _) ?_
        exact ⟨by rw [hf.out]; rfl, rfl⟩
      have hR3 : Hid (R = (a'.drop (j + 1)).any fun a => stT a q) := by show _ = _; rw [show R = _ from hR2.out, hq2]; rfl
      clear hR2
      refine go_ ?_
      exact ⟨j + 1, ⟨hlt, hR3⟩, by omega, by repeat (first | exact sub_nil _ | refine sub_cons (by simp [PF.get]; rfl) (by first | rfl | (simp [*]; done) | fail) ?_), by repeat (first | exact List.Sublist.refl _ | exact List.nil_sublist _ | refine List.Sublist.cons_cons _ ?_ | refine List.Sublist.cons _ ?_)⟩
    · have hc : ¬ (j : Int) < a'.length := by omega
      have hf : Hid (R = false) := by rw [show R = _ from hR.out, List.drop_of_length_le (by omega)]; rfl
      refine go_ ?_
      refine retP_ok (by simp) (by simp only [Tryz.results42]; rfl) (by simp [resP, St.box?, PF.get, loadB, TyK.agg, *]; rfl) (List.nil_sublist _) ?_
      exact ⟨by rw [hf.out]; rfl, rfl⟩
set_option maxHeartbeats 16000000 in
theorem rcon_p (l : List En) (i : Nat) (x : En) (hF : formedB l = true) (hx : l[i]? = some x) (hk : x.kind = 2) :
    PCalls Tryz.prog 21 [.d (.sl (l.map encD)), .d (.v (.int .i64 i))] [] fun p s => p = .d (.v (.bool (!badC l x))) ∧ s = [] := by
  obtain ⟨q, m, d, hq, hqi, hd, hdk, hm, hdm, hm1, hn0, hn1, hs, h24, hmt, hma, -⟩ := con_facts hF hx hk
  have e1 : badC l x = badX x q m d.inds := by
    unfold badC indsOf
    rw [hq, hm, Int.toNat_natCast, Int.toNat_natCast, hd]
  rw [e1]
  have hP := Lib.hid (rparts_p l i q m x d hx hd hq hm hdm hm1 hn0 hn1 hs h24 hmt hma)
  unfold partsT aggC at hP
  rw [hdm, Int.toNat_natCast] at hP
  obtain ⟨-, -, -, -, hsb, hst⟩ := tele_whole _ x.ty (Nat.le_refl _) hs
  have hA := Lib.hid (rpargs_p ((teleT x.ty).drop m) q m d.inds (by omega) (by omega) hn0 hn1 (by rw [List.length_drop]; omega) (fun t ht => hst t (List.mem_of_mem_drop ht)))
  obtain ⟨R, hR⟩ : ∃ R, R = !badX x q m d.inds := ⟨_, rfl⟩
  rw [← hR]
  unfold badX at hR
  have HR := Lib.hid hR
  have hi0 : (0 : Int) ≤ i := by omega
  have hil : (i : Int) < l.length := by have := (List.getElem?_eq_some_iff.1 hx).1; omega
  have hq0 : (0 : Int) ≤ q := by omega
  have hql : (q : Int) < l.length := by have := (List.getElem?_eq_some_iff.1 hd).1; omega
  have HAS := Lib.hid (show ∀ a ∈ (argsT (benT x.ty)).drop m, shapedB a = true from fun a ha => args_shaped _ _ (Nat.le_refl _) hsb a (List.mem_of_mem_drop ha))
  have hlen : ((argsT (benT x.ty)).drop m).length ≤ 8192 := by rw [List.length_drop]; have := args_len (benT x.ty); have := (shaped_hg hsb).2.2; omega
  clear hR e1 hs hsb hst hF hma hmt h24 hk hdk
  rw [hq] at hP
  generalize recsT q m d.inds ((teleT x.ty).drop m) m = rs at *
  generalize (argsT (benT x.ty)).drop m = a' at *
  generalize (teleT x.ty).drop m = sl' at *
  obtain ⟨di, hdi⟩ : ∃ di, d.inds = di := ⟨_, rfl⟩
  rw [hdi] at hn0 hn1 HR hA
  generalize pargF sl' q m di sl' 0 = N at *
  have HR0 : Hid (R = (decide (N < 0) && !((a'.drop 0).any fun a => stT a q))) := by
    show _ = _
    rw [show R = _ from HR.out, List.drop_zero]
    by_cases hN : 0 ≤ N
    · rw [decide_eq_true hN, decide_eq_false (show ¬ N < 0 by omega)]; rfl
    · rw [decide_eq_false hN, decide_eq_true (show N < 0 by omega)]; rfl
  clear HR
  refine PCalls.enter Tryz.func21 rfl Tryz.ntmps21 (by simp) ?_
  simp only [argsF]
  refine go_ ?_
  refine POps_call_a (hP.out) ?_
  refine go_ ?_
  refine POps_alloc_a ?_
  intro i1 hi1
  try simp only [St.freshB_box, St.freshB_nil, St.freshB_tok, St.freshB_obj] at hi1
  refine go_ ?_
  refine Rd ?_
  refine go_ ?_
  refine PW_drawn [(0, .a), (1, .b), (2, .a), (3, .a), (4, .a), (5, .a), (6, .a), (7, .a), (8, .a), (9, .a), (10, .a), (11, .a), (12, .a), (13, .a), (14, .a), (15, .a)] (by kernel_rfl) (by rfl) (by kernel_rfl) ?_
  refine go_ ?_
  refine POrd_call_a (hA.out) ?_
  refine go_ ?_
  clear hA hP
  refine PW_loop (ι := Nat × Bool) (fun y => y.1 ≤ a'.length ∧ Hid (R = (y.2 && !((a'.drop y.1).any fun a => stT a q)))) (fun y => [(5, .ptr i1 0), (6, .d (.v (.int .i64 q))), (7, .d (.v (.bool y.2))), (8, .d (.v (.int .i64 (y.1 : Int))))]) (fun _ => [.box i1 69 [.d (.sl (sl'.map encD)), .d (.sl (a'.map encD)), .d (.sl (rs.map encD))]]) (fun y => a'.length - y.1) (0, decide (N < 0)) ⟨Nat.zero_le _, HR0.out⟩ ?_ ?_ ?_
  · repeat (first | exact sub_nil _ | refine sub_cons (by simp [PF.get]; rfl) (by first | rfl | (simp [*]; done) | fail) ?_)
  · repeat (first | exact List.Sublist.refl _ | exact List.nil_sublist _ | refine List.Sublist.cons_cons _ ?_ | refine List.Sublist.cons _ ?_)
  · rintro ⟨j, ok⟩ ⟨hj, hR⟩
    simp only at hj hR ⊢
    clear HR0
    by_cases hlt : j < a'.length
    · have hx2 := get_enc hlt
      have hc : (j : Int) < a'.length := by omega
      have hn : (0 : Int) ≤ j := by omega
      have hin := wr64 (n := (j : Int) + 1) (by omega) (by omega)
      have hR2 : Hid (R = ((ok && !stT a'[j] q) && !((a'.drop (j + 1)).any fun a => stT a q))) := by
        rw [show R = _ from hR.out, List.drop_eq_getElem_cons hlt]
        show _ = _
        rw [List.any_cons, Bool.not_or, Bool.and_assoc]
      have hc1 := Lib.hid (rstands_p a'[j] q (small_nd (HAS.out _ (List.getElem_mem hlt))))
      simp only [aggD, encD_tm, List.map_cons, List.map_nil] at hc1
      clear hR
      generalize stT a'[j] q = x' at *
      rcases Bool.eq_false_or_eq_true (ok) with hok | hok
      rotate_left
      · have hR3 : Hid (R = (false && !((a'.drop (j + 1)).any fun a => stT a q))) := by show _ = _; rw [show R = _ from hR2.out, hok]; rfl
        clear hR2
        refine go_ ?_
        exact ⟨(j + 1, false), ⟨hlt, hR3⟩, by simp only; omega, by repeat (first | exact sub_nil _ | refine sub_cons (by simp [PF.get]; rfl) (by first | rfl | (simp [*]; done) | fail) ?_), by repeat (first | exact List.Sublist.refl _ | exact List.nil_sublist _ | refine List.Sublist.cons_cons _ ?_ | refine List.Sublist.cons _ ?_)⟩
      · have hR3 : Hid (R = (!x' && !((a'.drop (j + 1)).any fun a => stT a q))) := by show _ = _; rw [show R = _ from hR2.out, hok]; rfl
        clear hR2
        refine go_ ?_
        refine POps_call_b (hc1.out) ?_
        refine go_ ?_
        exact ⟨(j + 1, !x'), ⟨hlt, hR3⟩, by simp only; omega, by repeat (first | exact sub_nil _ | refine sub_cons (by simp [PF.get]; rfl) (by first | rfl | (simp [*]; done) | fail) ?_), by repeat (first | exact List.Sublist.refl _ | exact List.nil_sublist _ | refine List.Sublist.cons_cons _ ?_ | refine List.Sublist.cons _ ?_)⟩
    · have hc : ¬ (j : Int) < a'.length := by omega
      have hf : Hid (R = ok) := by rw [show R = _ from hR.out, List.drop_of_length_le (by omega)]; exact Bool.and_true ok
      refine go_ ?_
      refine retP_ok (by simp) (by simp only [Tryz.results21]; rfl) (by simp [resP, St.box?, PF.get, loadB, TyK.agg, *]; rfl) (List.nil_sublist _) ?_
      exact ⟨by rw [hf.out]; rfl, rfl⟩
end Go.Proofs.YtfnfbbmegdkhjaaGreat

namespace Go.Proofs.YtfnfbbmegdkhjaaGreat
open Go.RowKit
set_option maxRecDepth 100000
/-- why an entry is no constructor that is strictly positive -/
noncomputable def pConE (l : List En) (c : Int) : Int :=
  if formedB l = true then (if isE l c 2 = true then (match l[c.toNat]? with
    | some x => if badC l x = true then 9 else 0
    | none => 16) else 16) else 5
set_option maxHeartbeats 16000000 in
theorem pCon_p (l : List En) (c : Int) (ho : ∀ e ∈ l, EnOk e) : PCalls Tryz.prog 19 [.d (.sl (l.map encD)), .d (.v (.int .i64 c))] [] fun p s => p = .d (.v (.int .i64 (pConE l c))) ∧ s = [] := by
  have hF := Lib.hid (sformed_p l ho)
  obtain ⟨R, hR⟩ : ∃ R, R = pConE l c := ⟨_, rfl⟩
  rw [← hR]
  unfold pConE at hR
  have HR := Lib.hid hR
  clear hR ho
  cases hfb : formedB l with
  | false =>
    rw [hfb] at hF
    have hf : Hid (R = 5) := by show _ = _; rw [show R = _ from HR.out, hfb]; rfl
    clear HR
    refine PCalls.enter Tryz.func19 rfl Tryz.ntmps19 (by simp) ?_
    simp only [argsF]
    refine go_ ?_
    refine POps_call_a (hF.out) ?_
    refine go_ ?_
    refine retP_ok (by simp) (by simp only [Tryz.results19]; rfl) (by simp [resP, St.box?, PF.get, loadB, TyK.agg, *]; rfl) (List.nil_sublist _) ?_
    exact ⟨by rw [hf.out]; rfl, rfl⟩
  | true =>
  rw [hfb] at hF
  have hneg : Hid (isE l c 2 = false → R = 16) := fun h => by rw [show R = _ from HR.out, hfb, h]; rfl
  by_cases h0 : c < 0
  · have hf : Hid (R = 16) := hneg.out (by unfold isE; rw [decide_eq_false (show ¬ 0 ≤ c by omega)]; rfl)
    clear HR hneg
    refine PCalls.enter Tryz.func19 rfl Tryz.ntmps19 (by simp) ?_
    simp only [argsF]
    refine go_ ?_
    refine POps_call_a (hF.out) ?_
    refine go_ ?_
    refine retP_ok (by simp) (by simp only [Tryz.results19]; rfl) (by simp [resP, St.box?, PF.get, loadB, TyK.agg, *]; rfl) (List.nil_sublist _) ?_
    exact ⟨by rw [hf.out]; rfl, rfl⟩
  by_cases h1 : (l.length : Int) ≤ c
  · have hf : Hid (R = 16) := hneg.out (by unfold isE; rw [decide_eq_false (show ¬ c < l.length by omega)]; simp)
    clear HR hneg
    refine PCalls.enter Tryz.func19 rfl Tryz.ntmps19 (by simp) ?_
    simp only [argsF]
    refine go_ ?_
    refine POps_call_a (hF.out) ?_
    refine go_ ?_
    refine retP_ok (by simp) (by simp only [Tryz.results19]; rfl) (by simp [resP, St.box?, PF.get, loadB, TyK.agg, *]; rfl) (List.nil_sublist _) ?_
    exact ⟨by rw [hf.out]; rfl, rfl⟩
  obtain ⟨k, rfl⟩ : ∃ k : Nat, c = k := ⟨c.toNat, by omega⟩
  have hkl : k < l.length := by omega
  have hx3 : l[k]? = some l[k] := List.getElem?_eq_getElem hkl
  have hkc : (k : Int) < l.length := by omega
  have hk0 : (0 : Int) ≤ k := by omega
  have hC := fun (h : l[k].kind = 2) => pcon_p l k l[k] hfb hx3 h
  have hIs := is_at (k := 2) hx3
  have HR2 : Hid (isE l k 2 = true → R = if badC l l[k] = true then 9 else 0) := fun h => by rw [show R = _ from HR.out, hfb, h, Int.toNat_natCast, hx3]; rfl
  generalize l[k] = x at *
  have HC := Lib.hid hC
  clear hkl hfb hC HR
  by_cases hk : x.kind = 2
  rotate_left
  · have hkb : (x.kind != 2) = true := bne_iff_ne.2 hk
    have hf : Hid (R = 16) := hneg.out (by rw [hIs]; exact beq_eq_false_iff_ne.2 hk)
    clear HR2 hneg HC hk
    refine PCalls.enter Tryz.func19 rfl Tryz.ntmps19 (by simp) ?_
    simp only [argsF]
    refine go_ ?_
    refine POps_call_a (hF.out) ?_
    refine go_ ?_
    refine retP_ok (by simp) (by simp only [Tryz.results19]; rfl) (by simp [resP, St.box?, PF.get, loadB, TyK.agg, *]; rfl) (List.nil_sublist _) ?_
    exact ⟨by rw [hf.out]; rfl, rfl⟩
  have hkb : (x.kind != 2) = false := by rw [hk]; rfl
  have hCC := Lib.hid (HC.out hk)
  have HR3 : Hid (R = if badC l x = true then 9 else 0) := HR2.out (by rw [hIs, hk]; rfl)
  clear HR2 hneg HC hk hIs
  generalize badC l x = b at *
  refine PCalls.enter Tryz.func19 rfl Tryz.ntmps19 (by simp) ?_
  simp only [argsF]
  refine go_ ?_
  refine POps_call_a (hF.out) ?_
  refine go_ ?_
  refine POps_call_a (hCC.out) ?_
  refine go_ ?_
  rcases Bool.eq_false_or_eq_true (b) with hb | hb
  rotate_left
  · have hf : Hid (R = 0) := by show _ = _; rw [show R = _ from HR3.out, hb]; rfl
    clear HR3
    refine go_ ?_
    refine retP_ok (by simp) (by simp only [Tryz.results19]; rfl) (by simp [resP, St.box?, PF.get, loadB, TyK.agg, *]; rfl) (List.nil_sublist _) ?_
    exact ⟨by rw [hf.out]; rfl, rfl⟩
  · have hf : Hid (R = 9) := by show _ = _; rw [show R = _ from HR3.out, hb]; rfl
    clear HR3
    refine go_ ?_
    refine retP_ok (by simp) (by simp only [Tryz.results19]; rfl) (by simp [resP, St.box?, PF.get, loadB, TyK.agg, *]; rfl) (List.nil_sublist _) ?_
    exact ⟨by rw [hf.out]; rfl, rfl⟩
/-- the first constructor that is not strictly positive -/
def fstB (l : List En) : List En → Nat → Option Nat
  | [], _ => none
  | x :: r, i => if (x.kind == 2 && badC l x) = true then some i else fstB l r (i + 1)
def fstI : Option Nat → Int
  | some i => (i : Int)
  | none => -1
def fstE : Option Nat → Int
  | some _ => 9
  | none => 0
theorem fstB_ge (l : List En) : ∀ (r : List En) (i k : Nat), fstB l r i = some k → i ≤ k ∧ k < i + r.length := by
  intro r
  induction r with
  | nil => intro i k h; cases h
  | cons x r ih =>
    intro i k h
    simp only [fstB] at h
    by_cases hb : (x.kind == 2 && badC l x) = true
    · rw [if_pos hb] at h; cases h; simp
    · rw [if_neg hb] at h
      have := ih _ _ h
      rw [List.length_cons]; omega
set_option maxHeartbeats 16000000 in
theorem pAll_p (l : List En) (hF : formedB l = true) (ho : ∀ e ∈ l, EnOk e) : PCalls Tryz.prog 20 [.d (.sl (l.map encD))] [] fun p s => p = .tup [.d (.v (.int .i64 (fstI (fstB l l 0)))), .d (.v (.int .i64 (fstE (fstB l l 0))))] ∧ s = [] := by
  have hFm := Lib.hid (sformed_p l ho)
  rw [hF] at hFm
  have hlen := formed_len hF
  have HF := Lib.hid hF
  obtain ⟨R, hR⟩ : ∃ R, R = fstB l l 0 := ⟨_, rfl⟩
  rw [← hR]
  have HR : Hid (R = fstB l (l.drop 0) 0) := hR
  clear hR hF ho
  refine PCalls.enter Tryz.func20 rfl Tryz.ntmps20 (by simp) ?_
  simp only [argsF]
  refine go_ ?_
  refine POps_call_a (hFm.out) ?_
  refine go_ ?_
  refine PW_loop (ι := Nat) (fun y => y ≤ l.length ∧ Hid (R = fstB l (l.drop y) y)) (fun y => [(0, .d (.sl (l.map encD))), (9, .d (.v (.int .i64 l.length))), (10, .d (.v (.int .i64 (y : Int))))]) (fun _ => []) (fun y => l.length - y) 0 ⟨Nat.zero_le _, HR.out⟩ ?_ ?_ ?_
  · repeat (first | exact sub_nil _ | refine sub_cons (by simp [PF.get]; rfl) (by first | rfl | (simp [*]; done) | fail) ?_)
  · repeat (first | exact List.Sublist.refl _ | exact List.nil_sublist _ | refine List.Sublist.cons_cons _ ?_ | refine List.Sublist.cons _ ?_)
  · rintro j ⟨hj, hR⟩
    clear HR
    by_cases hlt : j < l.length
    rotate_left
    · have hc : ¬ (j : Int) < l.length := by omega
      have hf : Hid (R = none) := by rw [show R = _ from hR.out, List.drop_of_length_le (by omega)]; rfl
      refine go_ ?_
      refine retP_ok (by simp) (by simp only [Tryz.results20]; rfl) (by simp [resP, St.box?, PF.get, loadB, TyK.agg, *]; rfl) (List.nil_sublist _) ?_
      exact ⟨by rw [hf.out]; rfl, rfl⟩
    have hx3 : l[j]? = some l[j] := List.getElem?_eq_getElem hlt
    have hc : (j : Int) < l.length := by omega
    have hn : (0 : Int) ≤ j := by omega
    have hin := wr64 (n := (j : Int) + 1) (by omega) (by omega)
    have hR2 : Hid (R = if (l[j].kind == 2 && badC l l[j]) = true then some j else fstB l (l.drop (j + 1)) (j + 1)) := by
      rw [show R = _ from hR.out, List.drop_eq_getElem_cons hlt]; rfl
    have hC := fun (h : l[j].kind = 2) => pcon_p l j l[j] HF.out hx3 h
    have HLT := Lib.hid hlt
    clear hR
    generalize l[j] = x at *
    have HC := Lib.hid hC
    clear hC hlt
    by_cases hk : x.kind = 2
    rotate_left
    · have hkb : (x.kind == 2) = false := beq_eq_false_iff_ne.2 hk
      have hR3 : Hid (R = fstB l (l.drop (j + 1)) (j + 1)) := by show _ = _; rw [show R = _ from hR2.out, hkb]; rfl
      clear hR2 HC hk
      refine go_ ?_
      exact ⟨j + 1, ⟨HLT.out, hR3⟩, (by have := HLT.out; omega), by repeat (first | exact sub_nil _ | refine sub_cons (by simp [PF.get]; rfl) (by first | rfl | (simp [*]; done) | fail) ?_), by repeat (first | exact List.Sublist.refl _ | exact List.nil_sublist _ | refine List.Sublist.cons_cons _ ?_ | refine List.Sublist.cons _ ?_)⟩
    have hkb : (x.kind == 2) = true := beq_iff_eq.2 hk
    have hCC := Lib.hid (HC.out hk)
    clear HC hk
    generalize badC l x = b at *
    refine go_ ?_
    refine POps_call_b (hCC.out) ?_
    refine go_ ?_
    rcases Bool.eq_false_or_eq_true (b) with hb | hb
    rotate_left
    · have hR3 : Hid (R = fstB l (l.drop (j + 1)) (j + 1)) := by show _ = _; rw [show R = _ from hR2.out, hb, Bool.and_false]; rfl
      clear hR2
      refine go_ ?_
      exact ⟨j + 1, ⟨HLT.out, hR3⟩, (by have := HLT.out; omega), by repeat (first | exact sub_nil _ | refine sub_cons (by simp [PF.get]; rfl) (by first | rfl | (simp [*]; done) | fail) ?_), by repeat (first | exact List.Sublist.refl _ | exact List.nil_sublist _ | refine List.Sublist.cons_cons _ ?_ | refine List.Sublist.cons _ ?_)⟩
    · have hf : Hid (R = some j) := by show _ = _; rw [show R = _ from hR2.out, hb, hkb]; rfl
      clear hR2
      refine go_ ?_
      refine retP_ok (by simp) (by simp only [Tryz.results20]; rfl) (by simp [resP, St.box?, PF.get, loadB, TyK.agg, *]; rfl) (List.nil_sublist _) ?_
      exact ⟨by rw [hf.out]; rfl, rfl⟩
set_option maxHeartbeats 16000000 in
theorem pAll_bad (l : List En) (hF : formedB l = false) (ho : ∀ e ∈ l, EnOk e) : PCalls Tryz.prog 20 [.d (.sl (l.map encD))] [] fun p s => p = .tup [.d (.v (.int .i64 0)), .d (.v (.int .i64 5))] ∧ s = [] := by
  have hFm := Lib.hid (sformed_p l ho)
  rw [hF] at hFm
  clear hF ho
  refine PCalls.enter Tryz.func20 rfl Tryz.ntmps20 (by simp) ?_
  simp only [argsF]
  refine go_ ?_
  refine POps_call_a (hFm.out) ?_
  refine go_ ?_
  refine retP_ok (by simp) (by simp only [Tryz.results20]; rfl) (by simp [resP, St.box?, PF.get, loadB, TyK.agg, *]; rfl) (List.nil_sublist _) ?_
  exact ⟨rfl, rfl⟩
def ptN (v : Int) : Int := if -2 < v then v else -1
def ptE (v : Int) : Int := if -2 < v then 9 else 0
set_option maxHeartbeats 16000000 in
/-- how a type is not strictly positive, where all may be -/
theorem ptype_p (t : Tm) (d p i first : Int) (hs : shapedB t = true) (hp0 : 0 ≤ p) (hp1 : p ≤ 24) (hi0 : 0 ≤ i) (hi1 : i ≤ 24) (hf0 : p - 1 ≤ first) (hf1 : first ≤ 1048576) (hd : 0 ≤ d) :
    PCalls Tryz.prog 16 [aggD t, .d (.v (.int .i64 d)), .d (.v (.int .i64 p)), .d (.v (.int .i64 i)), .d (.v (.int .i64 first))] [] fun q s => q = .tup [.d (.v (.int .i64 (ptN (chkT t d p i first)))), .d (.v (.int .i64 (ptE (chkT t d p i first))))] ∧ s = [] := by
  have hS := Lib.hid (tshaped_p t)
  rw [hs] at hS
  have hfit : ([p, i].all fitB) = true := by
    simp [fitB]
    omega
  have hF := Lib.hid (pfits_p [p, i])
  rw [hfit] at hF
  simp only [List.map_cons, List.map_nil, encD_int] at hF
  have hC := Lib.hid (pcheck_p t d p i first hs hp0 hp1 hi0 hi1 (by omega) (by omega))
  have hw := wr64 (n := p - 1) (by omega) (by omega)
  have n1 : ¬ first < p - 1 := by omega
  have n2 : ¬ (1048576 : Int) < first := by omega
  have n3 : ¬ d < 0 := by omega
  clear hs hfit
  simp only [aggD, encD_tm, List.map_cons, List.map_nil] at hS hC ⊢
  generalize chkT t d p i first = v at *
  refine PCalls.enter Tryz.func16 rfl Tryz.ntmps16 (by simp) ?_
  simp only [argsF]
  refine go_ ?_
  refine POps_box_a ?_
  intro i0 hi0'
  try simp only [St.freshB_box, St.freshB_nil, St.freshB_tok, St.freshB_obj] at hi0'
  refine go_ ?_
  refine POps_call_a (hS.out) ?_
  refine go_ ?_
  refine POps_bs_a ?_ (hw := by simp [PF.wants, PF.get, cPV, cCell, *])
  refine go_ ?_
  refine POps_call_b (hF.out) ?_
  refine go_ ?_
  refine POps_call_a (hC.out) ?_
  refine go_ ?_
  by_cases hv : -2 < v
  · have e1 : ptN v = v := if_pos hv
    have e2 : ptE v = 9 := if_pos hv
    rw [e1, e2]
    refine go_ ?_
    refine retP_ok (by simp) (by simp only [Tryz.results16]; rfl) (by simp [resP, St.box?, PF.get, loadB, TyK.agg, *]; rfl) (List.nil_sublist _) ?_
    exact ⟨rfl, rfl⟩
  · have e1 : ptN v = -1 := if_neg hv
    have e2 : ptE v = 0 := if_neg hv
    rw [e1, e2]
    refine go_ ?_
    refine retP_ok (by simp) (by simp only [Tryz.results16]; rfl) (by simp [resP, St.box?, PF.get, loadB, TyK.agg, *]; rfl) (List.nil_sublist _) ?_
    exact ⟨rfl, rfl⟩
end Go.Proofs.YtfnfbbmegdkhjaaGreat

namespace Go.Proofs.YtfnfbbmegdkhjaaGreat
open Go.RowKit
set_option maxRecDepth 100000
set_option maxHeartbeats 4000000 in
theorem rC_p (n : Int) : PCalls Tryz.prog 34 [.d (.v (.int .i64 n))] [] fun p s => p = aggD (Tm.mk 6 n []) ∧ s = [] := by
  have hL := Lib.hid (rleaf_p 6 n)
  simp only [aggD, encD_tm, List.map_cons, List.map_nil, Tm.kind_mk, Tm.num_mk, Tm.sub_mk] at hL ⊢
  refine PCalls.enter Tryz.func34 rfl Tryz.ntmps34 (by simp) ?_
  simp only [argsF]
  refine go_ ?_
  refine POps_alloc_a ?_
  intro i0 hi0
  try simp only [St.freshB_box, St.freshB_nil, St.freshB_tok, St.freshB_obj] at hi0
  refine go_ ?_
  refine POps_call_a (hL.out) ?_
  refine go_ ?_
  refine Rd ?_
  refine go_ ?_
  refine retP_ok (by simp) (by simp only [Tryz.results34]; rfl) (by simp [resP, St.box?, PF.get, loadB, TyK.agg, *]; rfl) (List.nil_sublist _) ?_
  exact ⟨rfl, rfl⟩
set_option maxHeartbeats 4000000 in
theorem rP_p (a b : Tm) : PCalls Tryz.prog 33 [aggD a, aggD b] [] fun p s => p = aggD (Tm.mk 3 0 [a, b]) ∧ s = [] := by
  have hL := Lib.hid (rtwo_p 3 a b)
  simp only [aggD, encD_tm, List.map_cons, List.map_nil, Tm.kind_mk, Tm.num_mk, Tm.sub_mk] at hL ⊢
  refine PCalls.enter Tryz.func33 rfl Tryz.ntmps33 (by simp) ?_
  simp only [argsF]
  refine go_ ?_
  refine POps_box_a ?_
  intro i0 hi0
  try simp only [St.freshB_box, St.freshB_nil, St.freshB_tok, St.freshB_obj] at hi0
  refine go_ ?_
  refine POps_box_a ?_
  intro i1 hi1
  try simp only [St.freshB_box, St.freshB_nil, St.freshB_tok, St.freshB_obj] at hi1
  refine go_ ?_
  refine POps_alloc_a ?_
  intro i2 hi2
  try simp only [St.freshB_box, St.freshB_nil, St.freshB_tok, St.freshB_obj] at hi2
  refine go_ ?_
  refine POps_call_a (hL.out) ?_
  refine go_ ?_
  refine Rd ?_
  refine go_ ?_
  refine retP_ok (by simp) (by simp only [Tryz.results33]; rfl) (by simp [resP, St.box?, PF.get, loadB, TyK.agg, *]; rfl) (List.nil_sublist _) ?_
  exact ⟨rfl, rfl⟩
set_option maxHeartbeats 8000000 in
theorem awake19_p : PCalls Tryz.prog 14 [] [] fun p s => p = .d (.v (.bool true)) ∧ s = [] := by
  have c3 := Lib.hid (rC_p 3)
  have c0 := Lib.hid (rC_p 0)
  have p1 := Lib.hid (rP_p (.mk 6 3 []) (.mk 6 0 []))
  have p2 := Lib.hid (rP_p (.mk 6 0 []) (.mk 6 3 []))
  have e1 : chkT (.mk 3 0 [.mk 6 3 [], .mk 6 0 []]) 3 0 0 0 = 0 := by decide +kernel
  have e2 : chkT (.mk 3 0 [.mk 6 0 [], .mk 6 3 []]) 3 0 0 0 = -2 := by decide +kernel
  have t1 := Lib.hid (ptype_p (.mk 3 0 [.mk 6 3 [], .mk 6 0 []]) 3 0 0 0 (by decide +kernel) (by decide) (by decide) (by decide) (by decide) (by decide) (by decide) (by decide))
  have t2 := Lib.hid (ptype_p (.mk 3 0 [.mk 6 0 [], .mk 6 3 []]) 3 0 0 0 (by decide +kernel) (by decide) (by decide) (by decide) (by decide) (by decide) (by decide) (by decide))
  rw [e1, show ptN 0 = 0 from rfl, show ptE 0 = 9 from rfl] at t1
  rw [e2, show ptN (-2) = -1 from rfl, show ptE (-2) = 0 from rfl] at t2
  simp only [aggD, encD_tm, List.map_cons, List.map_nil, Tm.kind_mk, Tm.num_mk, Tm.sub_mk] at c3 c0 p1 p2 t1 t2
  clear e1 e2
  refine PCalls.enter Tryz.func14 rfl Tryz.ntmps14 (by simp) ?_
  simp only [argsF]
  refine go_ ?_
  refine POps_call_a (c3.out) ?_
  refine go_ ?_
  refine POps_call_a (c0.out) ?_
  refine go_ ?_
  refine POps_call_a (p1.out) ?_
  refine go_ ?_
  refine POps_call_a (t1.out) ?_
  refine go_ ?_
  refine POps_call_a (c0.out) ?_
  refine go_ ?_
  refine POps_call_a (c3.out) ?_
  refine go_ ?_
  refine POps_call_a (p2.out) ?_
  refine go_ ?_
  refine POps_call_a (t2.out) ?_
  refine go_ ?_
  refine retP_ok (by simp) (by simp only [Tryz.results14]; rfl) (by simp [resP, St.box?, PF.get, loadB, TyK.agg, *]; rfl) (List.nil_sublist _) ?_
  exact ⟨rfl, rfl⟩
set_option maxHeartbeats 16000000 in
theorem cons_p (l : List En) (c : Int) (ho : ∀ e ∈ l, EnOk e) : PCalls Tryz.prog 5 [.d (.sl (l.map encD)), .d (.v (.int .i64 c))] [] fun p s => p = .d (.v (.bool true)) ∧ s = [] := by
  have hA := Lib.hid awake19_p
  by_cases h60 : (60 : Int) < l.length
  · clear ho
    refine PCalls.enter Tryz.func5 rfl Tryz.ntmps5 (by simp) ?_
    simp only [argsF]
    refine go_ ?_
    refine POps_call_a (hA.out) ?_
    refine go_ ?_
    refine retP_ok (by simp) (by simp only [Tryz.results5]; rfl) (by simp [resP, St.box?, PF.get, loadB, TyK.agg, *]; rfl) (List.nil_sublist _) ?_
    exact ⟨rfl, rfl⟩
  have hF := Lib.hid (rformed_p l ho)
  rw [← formed_eq] at hF
  have hE := Lib.hid (pCon_p l c ho)
  cases hfb : formedB l with
  | false =>
    rw [hfb] at hF
    have hAll := Lib.hid (pAll_bad l hfb ho)
    have e5 : pConE l c = 5 := by unfold pConE; rw [hfb]; rfl
    rw [e5] at hE
    clear e5 hfb ho
    refine PCalls.enter Tryz.func5 rfl Tryz.ntmps5 (by simp) ?_
    simp only [argsF]
    refine go_ ?_
    refine POps_call_a (hE.out) ?_
    refine go_ ?_
    refine POps_call_a (hAll.out) ?_
    refine go_ ?_
    refine POps_call_a (hF.out) ?_
    refine go_ ?_
    refine POps_call_b (hA.out) ?_
    refine go_ ?_
    refine retP_ok (by simp) (by simp only [Tryz.results5]; rfl) (by simp [resP, St.box?, PF.get, loadB, TyK.agg, *]; rfl) (List.nil_sublist _) ?_
    exact ⟨rfl, rfl⟩
  | true =>
  rw [hfb] at hF
  have hAll := Lib.hid (pAll_p l hfb ho)
  have hI := Lib.hid (ris_p l c 2)
  have HFB := Lib.hid hfb
  have hge := fstB_ge l l 0
  obtain ⟨o, hO⟩ : ∃ o, o = fstB l l 0 := ⟨_, rfl⟩
  rw [← hO] at hAll hge
  have HO : Hid (o = fstB l (l.drop 0) 0) := hO
  have hwl := wr64 (n := (l.length : Int) - 1) (by omega) (by omega)
  have HE : Hid (isE l c 2 = true → ∃ (k : Nat) (x : En), c = k ∧ l[k]? = some x ∧ x.kind = 2 ∧ pConE l c = if badC l x = true then 9 else 0) := by
    intro h
    obtain ⟨k, rfl, hlt, hk⟩ := isE_get h
    refine ⟨k, l[k], rfl, List.getElem?_eq_getElem hlt, hk, ?_⟩
    unfold pConE
    rw [hfb, h, Int.toNat_natCast, List.getElem?_eq_getElem hlt]; rfl
  have HN : Hid (isE l c 2 = false → pConE l c = 16) := by
    intro h
    unfold pConE
    rw [hfb, h]; rfl
  have HG := Lib.hid hge
  clear hfb ho hO hge
  generalize pConE l c = e at *
  refine PCalls.enter Tryz.func5 rfl Tryz.ntmps5 (by simp) ?_
  simp only [argsF]
  refine go_ ?_
  refine POps_call_a (hE.out) ?_
  refine go_ ?_
  refine POps_call_a (hAll.out) ?_
  refine go_ ?_
  refine POps_call_a (hF.out) ?_
  refine go_ ?_
  refine PW_loop (ι := Nat) (fun y => y ≤ l.length) (fun y => [(0, .d (.sl (l.map encD))), (1, .d (.v (.int .i64 c))), (5, .d (.v (.int .i64 e))), (6, .d (.v (.int .i64 (fstI o)))), (7, .d (.v (.int .i64 (fstE o)))), (8, .d (.v (.int .i64 (fstI (fstB l (l.drop y) y))))), (9, .d (.v (.int .i64 ((y : Int) - 1))))]) (fun _ => []) (fun y => y) l.length (Nat.le_refl _) ?_ ?_ ?_
  · have e0 : fstI (fstB l (l.drop l.length) l.length) = -1 := by rw [List.drop_length]; rfl
    simp only [e0]
    repeat (first | exact sub_nil _ | refine sub_cons (by simp [PF.get]; rfl) (by first | rfl | (simp [*]; done) | fail) ?_)
  · repeat (first | exact List.Sublist.refl _ | exact List.nil_sublist _ | refine List.Sublist.cons_cons _ ?_ | refine List.Sublist.cons _ ?_)
  · rintro j hj
    cases j with
    | succ j =>
      have hx3 : l[j]? = some l[j] := List.getElem?_eq_getElem hj
      have hc : (j : Int) < l.length := by omega
      have hn : (0 : Int) ≤ j := by omega
      have ej : ((j + 1 : Nat) : Int) - 1 = j := by omega
      have hin := wr64 (n := (j : Int) - 1) (by omega) (by omega)
      have hst : Hid (fstB l (l.drop j) j = if (l[j].kind == 2 && badC l l[j]) = true then some j else fstB l (l.drop (j + 1)) (j + 1)) := by
        show _ = _
        rw [List.drop_eq_getElem_cons hj]; rfl
      have hC := fun (h : l[j].kind = 2) => rcon_p l j l[j] HFB.out hx3 h
      have HJ := Lib.hid hj
      generalize l[j] = x at *
      have HC := Lib.hid hC
      clear hC hj
      rw [ej]
      generalize fstB l (l.drop (j + 1)) (j + 1) = prev at *
      by_cases hk : x.kind = 2
      rotate_left
      · have hkb : (x.kind == 2) = false := beq_eq_false_iff_ne.2 hk
        have hR3 : fstB l (l.drop j) j = prev := by rw [hst.out, hkb]; rfl
        clear hst HC hk
        refine go_ ?_
        refine ⟨j, by have := HJ.out; omega, by omega, ?_, ?_⟩
        · rw [hR3]
          repeat (first | exact sub_nil _ | refine sub_cons (by simp [PF.get]; rfl) (by first | rfl | (simp [*]; done) | fail) ?_)
        · repeat (first | exact List.Sublist.refl _ | exact List.nil_sublist _ | refine List.Sublist.cons_cons _ ?_ | refine List.Sublist.cons _ ?_)
      have hkb : (x.kind == 2) = true := beq_iff_eq.2 hk
      have hCC := Lib.hid (HC.out hk)
      clear HC hk
      generalize badC l x = b at *
      refine go_ ?_
      refine POps_call_b (hCC.out) ?_
      refine go_ ?_
      rcases Bool.eq_false_or_eq_true (b) with hb | hb
      rotate_left
      · have hR3 : fstB l (l.drop j) j = prev := by rw [hst.out, hb, Bool.and_false]; rfl
        clear hst
        refine go_ ?_
        refine ⟨j, by have := HJ.out; omega, by omega, ?_, ?_⟩
        · rw [hR3]
          repeat (first | exact sub_nil _ | refine sub_cons (by simp [PF.get]; rfl) (by first | rfl | (simp [*]; done) | fail) ?_)
        · repeat (first | exact List.Sublist.refl _ | exact List.nil_sublist _ | refine List.Sublist.cons_cons _ ?_ | refine List.Sublist.cons _ ?_)
      · have hR3 : fstB l (l.drop j) j = some j := by rw [hst.out, hb, hkb]; rfl
        clear hst
        refine go_ ?_
        refine ⟨j, by have := HJ.out; omega, by omega, ?_, ?_⟩
        · rw [hR3]
          simp only [fstI]
          repeat (first | exact sub_nil _ | refine sub_cons (by simp [PF.get]; rfl) (by first | rfl | (simp [*]; done) | fail) ?_)
        · repeat (first | exact List.Sublist.refl _ | exact List.nil_sublist _ | refine List.Sublist.cons_cons _ ?_ | refine List.Sublist.cons _ ?_)
    | zero =>
      have hO2 : fstB l (l.drop 0) 0 = o := HO.out.symm
      rw [hO2]
      clear hO2 HO
      cases o with
      | none =>
        simp only [fstI, fstE]
        refine go_ ?_
        refine POps_call_a (hI.out) ?_
        refine go_ ?_
        cases hI2 : isE l c 2 with
        | false =>
          have he := HN.out hI2
          subst he
          clear HE HN
          refine go_ ?_
          refine POps_call_b (hA.out) ?_
          refine go_ ?_
          refine retP_ok (by simp) (by simp only [Tryz.results5]; rfl) (by simp [resP, St.box?, PF.get, loadB, TyK.agg, *]; rfl) (List.nil_sublist _) ?_
          exact ⟨rfl, rfl⟩
        | true =>
          obtain ⟨k, x, rfl, hx3, hk, he⟩ := HE.out hI2
          have hC := Lib.hid (rcon_p l k x HFB.out hx3 hk)
          clear HE HN hx3 hk
          generalize badC l x = b at *
          cases b with
          | false =>
            have he0 : e = 0 := he
            subst he0
            clear he
            refine go_ ?_
            refine POps_call_a (hC.out) ?_
            refine go_ ?_
            refine POps_call_b (hA.out) ?_
            refine go_ ?_
            refine retP_ok (by simp) (by simp only [Tryz.results5]; rfl) (by simp [resP, St.box?, PF.get, loadB, TyK.agg, *]; rfl) (List.nil_sublist _) ?_
            exact ⟨rfl, rfl⟩
          | true =>
            have he0 : e = 9 := he
            subst he0
            clear he
            refine go_ ?_
            refine POps_call_a (hC.out) ?_
            refine go_ ?_
            refine POps_call_b (hA.out) ?_
            refine go_ ?_
            refine retP_ok (by simp) (by simp only [Tryz.results5]; rfl) (by simp [resP, St.box?, PF.get, loadB, TyK.agg, *]; rfl) (List.nil_sublist _) ?_
            exact ⟨rfl, rfl⟩
      | some i =>
        have hi0 : (0 : Int) ≤ i := by omega
        have hi1 : ¬ (i : Int) < 0 := by omega
        simp only [fstI, fstE]
        refine go_ ?_
        refine POps_call_a (hI.out) ?_
        refine go_ ?_
        cases hI2 : isE l c 2 with
        | false =>
          have he := HN.out hI2
          subst he
          clear HE HN
          refine go_ ?_
          refine POps_call_b (hA.out) ?_
          refine go_ ?_
          refine retP_ok (by simp) (by simp only [Tryz.results5]; rfl) (by simp [resP, St.box?, PF.get, loadB, TyK.agg, *]; rfl) (List.nil_sublist _) ?_
          exact ⟨rfl, rfl⟩
        | true =>
          obtain ⟨k, x, rfl, hx3, hk, he⟩ := HE.out hI2
          have hC := Lib.hid (rcon_p l k x HFB.out hx3 hk)
          clear HE HN hx3 hk
          generalize badC l x = b at *
          cases b with
          | false =>
            have he0 : e = 0 := he
            subst he0
            clear he
            refine go_ ?_
            refine POps_call_a (hC.out) ?_
            refine go_ ?_
            refine POps_call_b (hA.out) ?_
            refine go_ ?_
            refine retP_ok (by simp) (by simp only [Tryz.results5]; rfl) (by simp [resP, St.box?, PF.get, loadB, TyK.agg, *]; rfl) (List.nil_sublist _) ?_
            exact ⟨rfl, rfl⟩
          | true =>
            have he0 : e = 9 := he
            subst he0
            clear he
            refine go_ ?_
            refine POps_call_a (hC.out) ?_
            refine go_ ?_
            refine POps_call_b (hA.out) ?_
            refine go_ ?_
            refine retP_ok (by simp) (by simp only [Tryz.results5]; rfl) (by simp [resP, St.box?, PF.get, loadB, TyK.agg, *]; rfl) (List.nil_sublist _) ?_
            exact ⟨rfl, rfl⟩
theorem cons_walk (v : Value) (l : List En) (c : Int) (_wc : (Lit.int .i64 c).wf = true) (w : World) (h : EnS w v l) : Calls Tryz.prog 5 #[v, .int .i64 c] w fun e w' => e = .returned (.bool true) ∧ Below w.heap.size w w' := by
  refine PCalls.top ((cons_p l c h.2).mono fun p s hp => hp.1) ?_
  exact relVs_cons (.d (relS_of (fun b o v _ hv => ⟨v, hv⟩) (by decide) h.1)) (relVs_cons (.d (.v trivial)) (relVs_nil _ _))
end Go.Proofs.YtfnfbbmegdkhjaaGreat

namespace Go.Proofs.YtfnfbbmegdkhjaaGreat
open Go.RowKit
set_option maxRecDepth 100000
/-- a type in which an entry stands is strictly positive just where it is the entry, applied to the telescope's variables and to what it does not stand in -/
theorem chk_iff {A : Tm} {d p i f : Int} (hp : 0 ≤ p) (hi : 0 ≤ i) (hst : stT A d = true) : ¬ (-2 < chkT A d p i f) ↔ ((∀ a ∈ teleT A, stT a d = false) ∧ (teleT A).length ≤ 24 ∧ appliedT (benT A) d p i (f + (teleT A).length + 1) = true ∧ ∀ a ∈ argsT (benT A), stT a d = false) := by
  unfold chkT
  rw [if_pos hst]
  unfold chkR
  simp only [Nat.zero_add]
  rw [own_applied _ _ _ _ _ hp hi]
  cases hf : firstS d (teleT A) 0 with
  | some q =>
    constructor
    · intro h
      simp only at h
      omega
    · rintro ⟨h1, -⟩
      exfalso
      have := (firstS_none (d := d) (l := teleT A) (k := 0)).2 h1
      rw [hf] at this; cases this
  | none =>
    have h1 := (firstS_none (d := d) (l := teleT A) (k := 0)).1 hf
    simp only
    constructor
    · intro h
      by_cases hc : (decide (((teleT A).length : Int) ≤ 24) && (appliedT (benT A) d p i (f + ((teleT A).length : Int) + 1) && !((argsT (benT A)).any fun a => stT a d))) = true
      · simp only [Bool.and_eq_true, decide_eq_true_eq, Bool.not_eq_true', List.any_eq_false] at hc
        exact ⟨h1, by omega, hc.2.1, fun a ha => by have := hc.2.2 a ha; simpa using this⟩
      · rw [if_neg hc] at h; omega
    · rintro ⟨-, h2, h3, h4⟩
      rw [if_pos]
      · omega
      · simp only [Bool.and_eq_true, decide_eq_true_eq, Bool.not_eq_true', List.any_eq_false]
        exact ⟨by omega, h3, fun a ha => by rw [h4 a ha]; decide⟩
theorem st_var {a : Tm} (hs : shapedB a = true) (hk : a.kind = 1) (d : Int) : stT a d = false := by
  cases a with
  | mk k n sub =>
    obtain rfl : k = 1 := hk
    obtain rfl := good_1 (shaped_hg hs).1
    simp [stT, stL]
/-- an argument in which the family stands, and that is strictly positive, is recursive -/
theorem rec_of_pos {A : Tm} {q m : Nat} {di : Int} {b : Nat} (hs : shapedB A = true) (hi : 0 ≤ di) (hst : stT A q = true) (h : ¬ (-2 < chkT A q m di ((m : Int) - 1 + b))) : (recT A q m di ((m : Int) + b)).is_ = true := by
  obtain ⟨-, h2, h3, -⟩ := (chk_iff (by omega) hi hst).1 h
  rw [recT_tele hs, if_pos]
  rw [decide_eq_true (show ((teleT A).length : Int) ≤ 24 by omega), Bool.true_and, show (m : Int) + b + ((teleT A).length : Int) = (m : Int) - 1 + b + ((teleT A).length : Int) + 1 by omega]
  exact h3
/-- what is recursive, and has the family nowhere else, is strictly positive -/
theorem pos_of_rec {A : Tm} {q m : Nat} {di : Int} {b : Nat} (hs : shapedB A = true) (hi : 0 ≤ di) (hr : (recT A q m di ((m : Int) + b)).is_ = true) (he : (((recT A q m di ((m : Int) + b)).around.any fun a => stT a q) || ((recT A q m di ((m : Int) + b)).at_.any fun a => stT a q)) = false) : ¬ (-2 < chkT A q m di ((m : Int) - 1 + b)) := by
  by_cases hst : stT A q = true
  rotate_left
  · unfold chkT
    rw [if_neg hst]; omega
  rw [recT_tele hs] at hr he
  by_cases hc : (decide (((teleT A).length : Int) ≤ 24) && appliedT (benT A) q m di ((m : Int) + b + (teleT A).length)) = true
  rotate_left
  · rw [if_neg hc] at hr; cases hr
  rw [if_pos hc] at he
  simp only [Bool.and_eq_true, decide_eq_true_eq, Bool.or_eq_false_iff, List.any_eq_false, Int.toNat_natCast] at hc he
  refine (chk_iff (by omega) hi hst).2 ⟨fun a ha => by have := he.1 a ha; simpa using this, by omega, by rw [show (m : Int) - 1 + b + ((teleT A).length : Int) + 1 = (m : Int) + b + ((teleT A).length : Int) by omega]; exact hc.2, fun a ha => ?_⟩
  obtain ⟨-, -, -, -, hsb, -⟩ := tele_whole _ A (Nat.le_refl _) hs
  have has := args_shaped _ _ (Nat.le_refl _) hsb a ha
  obtain ⟨j, hj, rfl⟩ := List.getElem_of_mem ha
  by_cases hjm : j < m
  · have h4 := hc.2
    unfold appliedT at h4
    simp only [Bool.and_eq_true, beq_iff_eq] at h4
    have h5 := (vars_iff _ _ _ _).1 h4.2.2.2 j (by omega)
    obtain ⟨y, h6, h7, -⟩ := h5
    rw [Nat.zero_add, List.getElem?_eq_getElem hj] at h6
    cases h6
    exact st_var has h7 q
  · have := he.2 (argsT (benT A))[j] (List.mem_iff_getElem?.2 ⟨j - m, by rw [List.getElem?_drop, show m + (j - m) = j by omega]; exact List.getElem?_eq_getElem hj⟩)
    simpa using this
theorem recsT_at (of_ pars inds : Int) : ∀ (l : List Tm) (b j : Nat) (hj : j < l.length), (recsT of_ pars inds l b)[j]? = some (recT l[j] of_ pars inds ((b + j : Nat) : Int)) := by
  intro l
  induction l with
  | nil => intro b j hj; simp at hj
  | cons a l ih =>
    intro b j hj
    cases j with
    | zero => rfl
    | succ j =>
      simp only [recsT, List.getElem?_cons_succ, List.getElem_cons_succ]
      rw [ih (b + 1) j (by simpa using hj), show b + 1 + j = b + (j + 1) by omega]
end Go.Proofs.YtfnfbbmegdkhjaaGreat

namespace Go.Proofs.YtfnfbbmegdkhjaaGreat
open Go.RowKit
set_option maxRecDepth 100000
set_option maxHeartbeats 32000000 in
theorem recs_p (l : List En) (c : Int) (ho : ∀ e ∈ l, EnOk e) : PCalls Tryz.prog 4 [.d (.sl (l.map encD)), .d (.v (.int .i64 c))] [] fun p s => p = .d (.v (.bool true)) ∧ s = [] := by
  have hA := Lib.hid awake19_p
  by_cases h60 : (60 : Int) < l.length
  · clear ho
    refine PCalls.enter Tryz.func4 rfl Tryz.ntmps4 (by simp) ?_
    simp only [argsF]
    refine go_ ?_
    refine POps_call_a (hA.out) ?_
    refine go_ ?_
    refine retP_ok (by simp) (by simp only [Tryz.results4]; rfl) (by simp [resP, St.box?, PF.get, loadB, TyK.agg, *]; rfl) (List.nil_sublist _) ?_
    exact ⟨rfl, rfl⟩
  have hF := Lib.hid (rformed_p l ho)
  rw [← formed_eq] at hF
  have hI := Lib.hid (ris_p l c 2)
  cases hfb : formedB l with
  | false =>
    rw [hfb] at hF
    clear ho
    refine PCalls.enter Tryz.func4 rfl Tryz.ntmps4 (by simp) ?_
    simp only [argsF]
    refine go_ ?_
    refine POps_call_b (hF.out) ?_
    refine go_ ?_
    refine POps_call_a (hA.out) ?_
    refine go_ ?_
    refine retP_ok (by simp) (by simp only [Tryz.results4]; rfl) (by simp [resP, St.box?, PF.get, loadB, TyK.agg, *]; rfl) (List.nil_sublist _) ?_
    exact ⟨rfl, rfl⟩
  | true =>
  rw [hfb] at hF
  cases hIs : isE l c 2 with
  | false =>
    rw [hIs] at hI
    clear ho hfb
    refine PCalls.enter Tryz.func4 rfl Tryz.ntmps4 (by simp) ?_
    simp only [argsF]
    refine go_ ?_
    refine POps_call_b (hF.out) ?_
    refine go_ ?_
    refine POps_call_b (hI.out) ?_
    refine go_ ?_
    refine POps_call_a (hA.out) ?_
    refine go_ ?_
    refine retP_ok (by simp) (by simp only [Tryz.results4]; rfl) (by simp [resP, St.box?, PF.get, loadB, TyK.agg, *]; rfl) (List.nil_sublist _) ?_
    exact ⟨rfl, rfl⟩
  | true =>
  rw [hIs] at hI
  obtain ⟨i, rfl, hil, hk⟩ := isE_get hIs
  have hx3 : l[i]? = some l[i] := List.getElem?_eq_getElem hil
  have hic : (i : Int) < l.length := by omega
  have hi0 : (0 : Int) ≤ i := by omega
  generalize l[i] = x at *
  obtain ⟨q, m, d, hq, hqi, hd, hdk, hm, hdm, hm1, hn0, hn1, hs, h24, hmt, hma, -⟩ := con_facts hfb hx3 hk
  have hP := Lib.hid (sParts_ok l i x ho hfb hx3 hk)
  have e1 : partsT x x.pars (indsOf l x.of_) = ⟨(teleT x.ty).drop m, (argsT (benT x.ty)).drop m, recsT q m d.inds ((teleT x.ty).drop m) m⟩ := by
    unfold partsT indsOf
    rw [hq, hm, Int.toNat_natCast, Int.toNat_natCast, hd]
  rw [e1] at hP
  unfold aggC at hP
  obtain ⟨-, -, -, -, hsb, hst⟩ := tele_whole _ x.ty (Nat.le_refl _) hs
  have HST := Lib.hid (show ∀ s ∈ (teleT x.ty).drop m, shapedB s = true from fun s h => hst s (List.mem_of_mem_drop h))
  have hq0 : (0 : Int) ≤ q := by omega
  have hql : (q : Int) < l.length := by have := (List.getElem?_eq_some_iff.1 hd).1; omega
  have hm0 : (0 : Int) ≤ m := by omega
  have hlA : ((teleT x.ty).drop m).length ≤ 24 := by rw [List.length_drop]; omega
  have HRL := Lib.hid (recsT_len q m d.inds ((teleT x.ty).drop m) m)
  obtain ⟨di, hdi⟩ : ∃ di, d.inds = di := ⟨_, rfl⟩
  rw [hdi] at hn0 hn1 hP HRL
  have HAT := Lib.hid (recsT_at q m di ((teleT x.ty).drop m) m)
  clear e1 hs hsb hst h24 hmt hma hk hdk ho hfb hIs hil hm
  generalize (argsT (benT x.ty)).drop m = in' at *
  generalize (teleT x.ty).drop m = al at *
  generalize recsT q m di al m = rl at *
  have hrl : (rl.length : Int) = al.length := by have := HRL.out; omega
  have hrl2 : ((rl.length : Int) != al.length) = false := by rw [hrl]; simp
  have hwm := wr64 (n := (m : Int) - 1) (by omega) (by omega)
  simp only at hP
  refine PCalls.enter Tryz.func4 rfl Tryz.ntmps4 (by simp) ?_
  simp only [argsF]
  refine go_ ?_
  refine POps_call_b (hF.out) ?_
  refine go_ ?_
  refine POps_call_b (hI.out) ?_
  refine go_ ?_
  refine POps_call_a (hP.out) ?_
  refine go_ ?_
  refine POps_alloc_a ?_
  intro i1 hi1
  try simp only [St.freshB_box, St.freshB_nil, St.freshB_tok, St.freshB_obj] at hi1
  refine go_ ?_
  refine Rd ?_
  refine go_ ?_
  clear hP hF hI
  refine PW_loop (ι := Nat) (fun y => y ≤ al.length) (fun y => [(0, .d (.sl (l.map encD))), (5, .ptr i1 0), (7, .d (.v (.int .i64 q))), (8, .d (.v (.int .i64 (y : Int))))]) (fun _ => [.box i1 41 [.d (.sl (al.map encD)), .d (.sl (in'.map encD)), .d (.sl (rl.map encD))]]) (fun y => al.length - y) 0 (Nat.zero_le _) ?_ ?_ ?_
  · repeat (first | exact sub_nil _ | refine sub_cons (by simp [PF.get]; rfl) (by first | rfl | (simp [*]; done) | fail) ?_)
  · repeat (first | exact List.Sublist.refl _ | exact List.nil_sublist _ | refine List.Sublist.cons_cons _ ?_ | refine List.Sublist.cons _ ?_)
  · rintro j hj
    by_cases hlt : j < al.length
    rotate_left
    · have hc : ¬ (j : Int) < al.length := by omega
      refine go_ ?_
      refine POps_call_a (hA.out) ?_
      refine go_ ?_
      refine retP_ok (by simp) (by simp only [Tryz.results4]; rfl) (by simp [resP, St.box?, PF.get, loadB, TyK.agg, *]; rfl) (List.nil_sublist _) ?_
      exact ⟨rfl, rfl⟩
    have hx4 : al[j]? = some al[j] := List.getElem?_eq_getElem hlt
    have hr4 := HAT.out j hlt
    have hc : (j : Int) < al.length := by omega
    have hc2 : (j : Int) < rl.length := by omega
    have hn : (0 : Int) ≤ j := by omega
    have hin := wr64 (n := (j : Int) + 1) (by omega) (by omega)
    have hwf := wr64 (n := (m : Int) - 1 + j) (by omega) (by omega)
    have hsA := HST.out _ (List.getElem_mem hlt)
    rw [Int.natCast_add] at hr4
    have hT := Lib.hid (ptype_p al[j] q m di ((m : Int) - 1 + j) hsA hm0 (by omega) hn0 hn1 (by omega) (by omega) hq0)
    have hSt := Lib.hid (pStands_p al[j] q)
    rw [hsA, Bool.true_and] at hSt
    have HF1 : Hid (stT al[j] q = true → ptE (chkT al[j] q m di ((m : Int) - 1 + j)) = 0 → (recT al[j] q m di ((m : Int) + j)).is_ = true) := by
      intro h1 h2
      refine rec_of_pos hsA hn0 h1 ?_
      intro h3
      unfold ptE at h2
      rw [if_pos h3] at h2
      cases h2
    have HF2 : Hid ((recT al[j] q m di ((m : Int) + j)).is_ = true → (((recT al[j] q m di ((m : Int) + j)).around.any fun a => stT a q) || ((recT al[j] q m di ((m : Int) + j)).at_.any fun a => stT a q)) = false → ptE (chkT al[j] q m di ((m : Int) - 1 + j)) = 0) := by
      intro h1 h2
      have h3 := pos_of_rec hsA hn0 h1 h2
      unfold ptE
      rw [if_neg h3]
    have HSR : Hid ((∀ a ∈ (recT al[j] q m di ((m : Int) + j)).around, shapedB a = true) ∧ (∀ a ∈ (recT al[j] q m di ((m : Int) + j)).at_, shapedB a = true) ∧ (recT al[j] q m di ((m : Int) + j)).around.length ≤ 8192 ∧ (recT al[j] q m di ((m : Int) + j)).at_.length ≤ 8192) := by
      obtain ⟨-, -, -, -, hsb, hst⟩ := tele_whole _ al[j] (Nat.le_refl _) hsA
      rw [recT_tele hsA]
      split
      · refine ⟨hst, fun a ha => args_shaped _ _ (Nat.le_refl _) hsb a (List.mem_of_mem_drop ha), ?_, ?_⟩
        · have := tele_len al[j]; have := (shaped_hg hsA).2.2; simp only; omega
        · have := args_len (benT al[j]); have := (shaped_hg hsb).2.2; simp only [List.length_drop]; omega
      · exact ⟨by simp, by simp, by simp, by simp⟩
    have HLT := Lib.hid hlt
    clear hsA
    generalize recT al[j] q m di ((m : Int) + j) = r at *
    generalize ptE (chkT al[j] q m di ((m : Int) - 1 + j)) = fe at *
    generalize ptN (chkT al[j] q m di ((m : Int) - 1 + j)) = fn at *
    generalize stT al[j] q = sA at *
    generalize al[j] = A at *
    clear hlt
    obtain ⟨hsr1, hsr2, hlr1, hlr2⟩ := HSR.out
    have HS1 := Lib.hid hsr1
    have HS2 := Lib.hid hsr2
    clear hsr1 hsr2 HSR
    obtain ⟨ri, ra, rt⟩ := r
    simp only at hlr1 hlr2 HS1 HS2 HF1 HF2
    simp only [aggD, encD_tm, List.map_cons, List.map_nil] at hT hSt
    refine go_ ?_
    refine PW_drawn [(0, .a), (1, .b), (2, .a), (3, .a), (4, .a), (5, .a), (6, .a), (7, .a), (8, .a), (9, .a), (10, .a), (11, .a), (12, .a), (13, .a), (14, .a), (15, .a), (16, .a), (17, .a), (18, .a), (19, .a), (20, .a), (21, .a), (22, .a), (23, .a), (24, .a), (25, .a), (26, .a), (27, .a), (28, .a), (29, .a)] (by kernel_rfl) (by rfl) (by kernel_rfl) ?_
    refine go_ ?_
    refine POrd_call_a (hT.out) ?_
    refine gs_ ?_
    clear hT
    refine PW_cut2 [(0, .d (.sl (l.map encD))), (5, .ptr i1 0), (7, .d (.v (.int .i64 q))), (8, .d (.v (.int .i64 (j : Int)))), (10, .d (.v (.int .i64 fe)))] [.box i1 41 [.d (.sl (al.map encD)), .d (.sl (in'.map encD)), .d (.sl (rl.map encD))]] ?_ ?_
    rotate_left
    · cases hfe : (fe == 0) with
      | false =>
        refine Qc ?_
        refine gs_ ?_
        exact ⟨by repeat (first | exact sub_nil _ | refine sub_cons (by simp [PF.get]; rfl) (by first | rfl | (simp [*]; done) | fail) ?_), by repeat (first | exact List.Sublist.refl _ | exact List.nil_sublist _ | refine List.Sublist.cons_cons _ ?_ | refine List.Sublist.cons _ ?_)⟩
      | true =>
        have hfe1 := beq_iff_eq.1 hfe
        refine Qc ?_
        refine gs_ ?_
        refine POps_call_b (hSt.out) ?_
        refine gs_ ?_
        cases sA with
        | false =>
          refine gs_ ?_
          exact ⟨by repeat (first | exact sub_nil _ | refine sub_cons (by simp [PF.get]; rfl) (by first | rfl | (simp [*]; done) | fail) ?_), by repeat (first | exact List.Sublist.refl _ | exact List.nil_sublist _ | refine List.Sublist.cons_cons _ ?_ | refine List.Sublist.cons _ ?_)⟩
        | true =>
          have hri : ri = true := HF1.out rfl hfe1
          subst hri
          refine gs_ ?_
          exact ⟨by repeat (first | exact sub_nil _ | refine sub_cons (by simp [PF.get]; rfl) (by first | rfl | (simp [*]; done) | fail) ?_), by repeat (first | exact List.Sublist.refl _ | exact List.nil_sublist _ | refine List.Sublist.cons_cons _ ?_ | refine List.Sublist.cons _ ?_)⟩
    clear HF1 hSt
    refine go_ ?_
    obtain ⟨E1, hE1⟩ : ∃ E1, E1 = ra.any fun a => stT a q := ⟨_, rfl⟩
    rw [← hE1] at HF2
    have HE1 : Hid (E1 = (false || (ra.drop 0).any fun a => stT a q)) := hE1
    clear hE1
    refine PW_loop (ι := Nat × Bool) (fun y => y.1 ≤ ra.length ∧ Hid (E1 = (y.2 || (ra.drop y.1).any fun a => stT a q))) (fun y => [(0, .d (.sl (l.map encD))), (5, .ptr i1 0), (7, .d (.v (.int .i64 q))), (8, .d (.v (.int .i64 (j : Int)))), (10, .d (.v (.int .i64 fe))), (11, .d (.v (.bool y.2))), (12, .d (.v (.int .i64 (y.1 : Int))))]) (fun _ => [.box i1 41 [.d (.sl (al.map encD)), .d (.sl (in'.map encD)), .d (.sl (rl.map encD))]]) (fun y => ra.length - y.1) (0, false) ⟨Nat.zero_le _, HE1.out⟩ ?_ ?_ ?_
    · repeat (first | exact sub_nil _ | refine sub_cons (by simp [PF.get]; rfl) (by first | rfl | (simp [*]; done) | fail) ?_)
    · repeat (first | exact List.Sublist.refl _ | exact List.nil_sublist _ | refine List.Sublist.cons_cons _ ?_ | refine List.Sublist.cons _ ?_)
    · rintro ⟨k, e⟩ ⟨hk, hT⟩
      simp only at hk hT ⊢
      by_cases hkl : k < ra.length
      · have hxk := get_enc hkl
        have hck : (k : Int) < ra.length := by omega
        have hnk : (0 : Int) ≤ k := by omega
        have hink := wr64 (n := (k : Int) + 1) (by omega) (by omega)
        have hT2 : Hid (E1 = ((e || stT ra[k] q) || (ra.drop (k + 1)).any fun a => stT a q)) := by
          rw [show E1 = _ from hT.out, List.drop_eq_getElem_cons hkl]
          show _ = _
          rw [List.any_cons, Bool.or_assoc]
        have hR := Lib.hid (rstands_p ra[k] q (small_nd (HS1.out _ (List.getElem_mem hkl))))
        simp only [aggD, encD_tm, List.map_cons, List.map_nil] at hR
        clear hT
        generalize stT ra[k] q = y' at *
        cases e with
        | true =>
          refine go_ ?_
          exact ⟨(k + 1, true), ⟨hkl, hT2⟩, by simp only; omega, by repeat (first | exact sub_nil _ | refine sub_cons (by simp [PF.get]; rfl) (by first | rfl | (simp [*]; done) | fail) ?_), by repeat (first | exact List.Sublist.refl _ | exact List.nil_sublist _ | refine List.Sublist.cons_cons _ ?_ | refine List.Sublist.cons _ ?_)⟩
        | false =>
          refine go_ ?_
          refine POps_call_b (hR.out) ?_
          refine go_ ?_
          exact ⟨(k + 1, y'), ⟨hkl, hT2⟩, by simp only; omega, by repeat (first | exact sub_nil _ | refine sub_cons (by simp [PF.get]; rfl) (by first | rfl | (simp [*]; done) | fail) ?_), by repeat (first | exact List.Sublist.refl _ | exact List.nil_sublist _ | refine List.Sublist.cons_cons _ ?_ | refine List.Sublist.cons _ ?_)⟩
      · have hck : ¬ (k : Int) < ra.length := by omega
        have hfin : e = E1 := by rw [show E1 = _ from hT.out, List.drop_of_length_le (by omega)]; exact (Bool.or_false e).symm
        clear hT hkl hk
        subst hfin
        clear HE1
        refine go_ ?_
        obtain ⟨E2, hE2⟩ : ∃ E2, E2 = (e || rt.any fun a => stT a q) := ⟨_, rfl⟩
        rw [← hE2] at HF2
        have HE2 : Hid (E2 = (e || (rt.drop 0).any fun a => stT a q)) := hE2
        clear hE2 hck
        refine PW_loop (ι := Nat × Bool) (fun y => y.1 ≤ rt.length ∧ Hid (E2 = (y.2 || (rt.drop y.1).any fun a => stT a q))) (fun y => [(0, .d (.sl (l.map encD))), (5, .ptr i1 0), (7, .d (.v (.int .i64 q))), (8, .d (.v (.int .i64 (j : Int)))), (10, .d (.v (.int .i64 fe))), (11, .d (.v (.bool y.2))), (13, .d (.v (.int .i64 (y.1 : Int))))]) (fun _ => [.box i1 41 [.d (.sl (al.map encD)), .d (.sl (in'.map encD)), .d (.sl (rl.map encD))]]) (fun y => rt.length - y.1) (0, e) ⟨Nat.zero_le _, HE2.out⟩ ?_ ?_ ?_
        · repeat (first | exact sub_nil _ | refine sub_cons (by simp [PF.get]; rfl) (by first | rfl | (simp [*]; done) | fail) ?_)
        · repeat (first | exact List.Sublist.refl _ | exact List.nil_sublist _ | refine List.Sublist.cons_cons _ ?_ | refine List.Sublist.cons _ ?_)
        · rintro ⟨k, f⟩ ⟨hk, hT⟩
          simp only at hk hT ⊢
          by_cases hkl : k < rt.length
          · have hxk := get_enc hkl
            have hck : (k : Int) < rt.length := by omega
            have hnk : (0 : Int) ≤ k := by omega
            have hink := wr64 (n := (k : Int) + 1) (by omega) (by omega)
            have hT2 : Hid (E2 = ((f || stT rt[k] q) || (rt.drop (k + 1)).any fun a => stT a q)) := by
              rw [show E2 = _ from hT.out, List.drop_eq_getElem_cons hkl]
              show _ = _
              rw [List.any_cons, Bool.or_assoc]
            have hR := Lib.hid (rstands_p rt[k] q (small_nd (HS2.out _ (List.getElem_mem hkl))))
            simp only [aggD, encD_tm, List.map_cons, List.map_nil] at hR
            clear hT
            generalize stT rt[k] q = y' at *
            cases f with
            | true =>
              refine go_ ?_
              exact ⟨(k + 1, true), ⟨hkl, hT2⟩, by simp only; omega, by repeat (first | exact sub_nil _ | refine sub_cons (by simp [PF.get]; rfl) (by first | rfl | (simp [*]; done) | fail) ?_), by repeat (first | exact List.Sublist.refl _ | exact List.nil_sublist _ | refine List.Sublist.cons_cons _ ?_ | refine List.Sublist.cons _ ?_)⟩
            | false =>
              refine go_ ?_
              refine POps_call_b (hR.out) ?_
              refine go_ ?_
              exact ⟨(k + 1, y'), ⟨hkl, hT2⟩, by simp only; omega, by repeat (first | exact sub_nil _ | refine sub_cons (by simp [PF.get]; rfl) (by first | rfl | (simp [*]; done) | fail) ?_), by repeat (first | exact List.Sublist.refl _ | exact List.nil_sublist _ | refine List.Sublist.cons_cons _ ?_ | refine List.Sublist.cons _ ?_)⟩
          · have hck : ¬ (k : Int) < rt.length := by omega
            have hfin : f = E2 := by rw [show E2 = _ from hT.out, List.drop_of_length_le (by omega)]; exact (Bool.or_false f).symm
            clear hT hkl hk
            subst hfin
            cases ri with
            | false =>
              refine go_ ?_
              exact ⟨j + 1, HLT.out, (by have := HLT.out; omega), by repeat (first | exact sub_nil _ | refine sub_cons (by simp [PF.get]; rfl) (by first | rfl | (simp [*]; done) | fail) ?_), by repeat (first | exact List.Sublist.refl _ | exact List.nil_sublist _ | refine List.Sublist.cons_cons _ ?_ | refine List.Sublist.cons _ ?_)⟩
            | true =>
              cases f with
              | true =>
                refine go_ ?_
                exact ⟨j + 1, HLT.out, (by have := HLT.out; omega), by repeat (first | exact sub_nil _ | refine sub_cons (by simp [PF.get]; rfl) (by first | rfl | (simp [*]; done) | fail) ?_), by repeat (first | exact List.Sublist.refl _ | exact List.nil_sublist _ | refine List.Sublist.cons_cons _ ?_ | refine List.Sublist.cons _ ?_)⟩
              | false =>
                have hfe0 : fe = 0 := HF2.out rfl rfl
                subst hfe0
                refine go_ ?_
                exact ⟨j + 1, HLT.out, (by have := HLT.out; omega), by repeat (first | exact sub_nil _ | refine sub_cons (by simp [PF.get]; rfl) (by first | rfl | (simp [*]; done) | fail) ?_), by repeat (first | exact List.Sublist.refl _ | exact List.nil_sublist _ | refine List.Sublist.cons_cons _ ?_ | refine List.Sublist.cons _ ?_)⟩
theorem recs_walk (v : Value) (l : List En) (c : Int) (_wc : (Lit.int .i64 c).wf = true) (w : World) (h : EnS w v l) : Calls Tryz.prog 4 #[v, .int .i64 c] w fun e w' => e = .returned (.bool true) ∧ Below w.heap.size w w' := by
  refine PCalls.top ((recs_p l c h.2).mono fun p s hp => hp.1) ?_
  exact relVs_cons (.d (relS_of (fun b o v _ hv => ⟨v, hv⟩) (by decide) h.1)) (relVs_cons (.d (.v trivial)) (relVs_nil _ _))
end Go.Proofs.YtfnfbbmegdkhjaaGreat
