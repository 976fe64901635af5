import Derived.Test.YtfnfbbmegdkhjaaGreatBS
import Derived.Test.YtfnfbbmegdkhjaaGreatBP
import Derived.Test.YtfnfbbmegdkhjaaGreatBN
import Derived.Test.YtfnfbbmegdkhjaaGreatBE1
import Derived.Test.YtfnfbbmegdkhjaaGreatBA1
set_option linter.unusedSimpArgs false
set_option linter.unusedVariables false
namespace Go.Proofs.YtfnfbbmegdkhjaaGreat
open Go.RowKit
set_option maxRecDepth 100000
theorem recT_tele {a : Tm} (hs : shapedB a = true) (of_ p i b : Int) : recT a of_ p i b = if (decide (((teleT a).length : Int) ≤ 24) && appliedT (benT a) of_ p i (b + (teleT a).length)) = true then ⟨true, teleT a, (argsT (benT a)).drop p.toNat⟩ else ⟨false, [], []⟩ := by
  unfold recT
  by_cases h : (teleT a).length ≤ 24
  · rw [whole_in hs h, decide_eq_true (show ((teleT a).length : Int) ≤ 24 by omega)]; rfl
  · rw [whole_out hs h, decide_eq_false (show ¬ ((teleT a).length : Int) ≤ 24 by omega)]; rfl
set_option maxHeartbeats 32000000 in
theorem rparts_p (l : List En) (i q m : Nat) (x d : En) (hi : l[i]? = some x) (hd : l[q]? = some d) (hq : x.of_ = q) (hm : x.pars = m) (hdm : d.pars = m) (hm1 : m ≤ 24) (hn0 : 0 ≤ d.inds) (hn1 : d.inds ≤ 24) (hs : shapedB x.ty = true) (h24 : (teleT x.ty).length ≤ 24) (hmt : m ≤ (teleT x.ty).length) (hma : m ≤ (argsT (benT x.ty)).length) :
    PCalls Tryz.prog 43 [.d (.sl (l.map encD)), .d (.v (.int .i64 i))] [] fun p s => p = aggC (partsT x d.pars d.inds) ∧ s = [] := by
  have hTe := Lib.hid (rTele_p x.ty (shaped_hg hs).1 (by have := small_nd hs; omega))
  have hBe := Lib.hid (rBeneath_p x.ty (shaped_hg hs).1)
  obtain ⟨-, -, -, -, hsb, hst⟩ := tele_whole _ x.ty (Nat.le_refl _) hs
  have hAr := Lib.hid (rArgs_p (benT x.ty) (shaped_hg hsb).1 (by have := small_nd hsb; omega))
  obtain ⟨R, hR⟩ : ∃ R, R = partsT x d.pars d.inds := ⟨_, rfl⟩
  rw [← hR]
  unfold partsT at hR
  rw [hdm, Int.toNat_natCast, hq] at hR
  have HR := Lib.hid hR
  have hi0 : (0 : Int) ≤ i := by omega
  have hil : (i : Int) < l.length := by have := (List.getElem?_eq_some_iff.1 hi).1; omega
  have hq0 : (0 : Int) ≤ q := by omega
  have hql : (q : Int) < l.length := by have := (List.getElem?_eq_some_iff.1 hd).1; omega
  have hm0 : (0 : Int) ≤ m := by omega
  have hlen : (argsT (benT x.ty)).length ≤ 8192 := by have := args_len (benT x.ty); have := (shaped_hg hsb).2.2; omega
  have HST := Lib.hid (show ∀ s ∈ (teleT x.ty).drop m, shapedB s = true from fun s h => hst s (List.mem_of_mem_drop h))
  clear hR hs hsb hst
  simp only [aggD, encD_tm, List.map_cons, List.map_nil] at hTe hBe hAr
  unfold aggC
  generalize benT x.ty = T at *
  generalize teleT x.ty = sl at *
  generalize argsT T = a at *
  obtain ⟨di, hdi⟩ : ∃ di, d.inds = di := ⟨_, rfl⟩
  rw [hdi] at hn0 hn1 HR
  have hsl1 : List.drop m (List.take sl.length (List.map encD sl)) = (sl.drop m).map encD := by rw [List.take_of_length_le (by rw [List.length_map]; exact Nat.le_refl _), List.map_drop]
  have hsl2 : List.drop m (List.take a.length (List.map encD a)) = (a.drop m).map encD := by rw [List.take_of_length_le (by rw [List.length_map]; exact Nat.le_refl _), List.map_drop]
  have hlA : (sl.drop m).length ≤ 24 := by rw [List.length_drop]; omega
  have HS1 := Lib.hid hsl1
  have HS2 := Lib.hid hsl2
  clear hsl1 hsl2
  generalize a.drop m = a' at *
  generalize sl.drop m = sl' at *
  refine PCalls.enter Tryz.func43 rfl Tryz.ntmps43 (by simp) ?_
  simp only [argsF]
  refine go_ ?_
  refine POps_alloc_a ?_
  intro i0 hi0'
  try simp only [St.freshB_box, St.freshB_nil, St.freshB_tok, St.freshB_obj] at hi0'
  refine go_ ?_
  refine POps_alloc_a ?_
  intro i1 hi1
  try simp only [St.freshB_box, St.freshB_nil, St.freshB_tok, St.freshB_obj] at hi1
  refine go_ ?_
  refine Rd ?_
  refine go_ ?_
  refine POps_alloc_a ?_
  intro i2 hi2
  try simp only [St.freshB_box, St.freshB_nil, St.freshB_tok, St.freshB_obj] at hi2
  refine go_ ?_
  refine Rd ?_
  refine go_ ?_
  refine POps_call_a (hTe.out) ?_
  refine go_ ?_
  refine PW_drawnJ (J := keepJ [(i1, _)]) [(0, .a), (1, .a), (2, .a), (3, .a), (4, .a), (5, .a), (6, .a), (7, .a), (8, .a), (9, .a), (10, .a), (11, .a), (12, .e), (13, .e)] (by kernel_rfl) (by rfl) (by kernel_rfl) (by (repeat (first | exact keepJ_nil _ | refine keepJ_cons (by simp [St.box?, *] <;> rfl) ?_))) ?_
  repeat (first | with_reducible refine PJ_nil ?_ | refine PJ_gn2 ?_ | refine PJ_s2 ?_ | refine PJ_b2 ?_)
  refine PJ_slice m sl.length ?_ ?_ HS1.out
  rotate_left
  · exact rows3 _
  repeat (first | with_reducible refine PJ_nil ?_ | refine PJ_gn2 ?_ | refine PJ_s2 ?_ | refine PJ_b2 ?_)
  refine PJ_call2 (hBe.out) ?_
  repeat (first | with_reducible refine PJ_nil ?_ | refine PJ_gn2 ?_ | refine PJ_s2 ?_ | refine PJ_b2 ?_)
  refine PJ_call2 (hAr.out) ?_
  repeat (first | with_reducible refine PJ_nil ?_ | refine PJ_gn2 ?_ | refine PJ_s2 ?_ | refine PJ_b2 ?_)
  refine PJ_slice m a.length ?_ ?_ HS2.out
  rotate_left
  · exact rows3 _
  repeat (first | with_reducible refine PJ_nil ?_ | refine PJ_gn2 ?_ | refine PJ_s2 ?_ | refine PJ_b2 ?_)
  refine PJ_alloc rfl (by decide) rfl (by simp; rfl) (fun i hi => by simp only [St.freshB_box, St.freshB_nil, St.freshB_tok] at hi; (repeat (first | exact keepJ_nil _ | refine keepJ_cons (by simp [St.box?, *] <;> rfl) ?_))) ?_
  intro i4 hi4
  try simp only [St.freshB_box, St.freshB_nil, St.freshB_tok, St.freshB_obj] at hi4
  repeat (first | with_reducible refine PJ_nil ?_ | refine PJ_gn2 ?_ | refine PJ_s2 ?_ | refine PJ_b2 ?_)
  refine PJ_store rfl rfl (by simp [nev, nevA, nevB, evBuild, PF.eval, PF.get, PF.wants, cPV, cCell, PV.rows, evBin, evUn, evConv, evLen, loadA, loadB, TyK.agg, partA, St.box?, St.tok?, St.setBox, St.setTok, fillO, spl, PV.ps, PV.one, evalArgs, aggD, slD, encD_nd, encD_bd, encD_rw, encD_dc, encD_str, encD_int, *]; rfl) (by rfl) (by simp [nev, nevA, nevB, evBuild, PF.eval, PF.get, PF.wants, cPV, cCell, PV.rows, evBin, evUn, evConv, evLen, loadA, loadB, TyK.agg, partA, St.box?, St.tok?, St.setBox, St.setTok, fillO, spl, PV.ps, PV.one, evalArgs, aggD, slD, encD_nd, encD_bd, encD_rw, encD_dc, encD_str, encD_int, *]; rfl) (by simp [PV.ps, aggD, slD, encD_nd, encD_bd, encD_rw, encD_dc, encD_str, encD_int]; rfl) (by first | rfl | (simp [*]; done) | (simp [PV.one, *]; done) | fail) (by simp; rfl) (by first | (simp; done) | fail) (by simp [nev, nevA, nevB, evBuild, PF.eval, PF.get, PF.wants, cPV, cCell, PV.rows, evBin, evUn, evConv, evLen, loadA, loadB, TyK.agg, partA, St.box?, St.tok?, St.setBox, St.setTok, fillO, spl, PV.ps, PV.one, evalArgs, aggD, slD, encD_nd, encD_bd, encD_rw, encD_dc, encD_str, encD_int, *]; rfl) (by rfl) (by first | (simp; done) | fail) (by simp [St.setBox, spl, *]; rfl) (by (repeat (first | exact keepJ_nil _ | refine keepJ_cons (by simp [St.box?, *] <;> rfl) ?_))) ?_
  repeat (first | with_reducible refine PJ_nil ?_ | refine PJ_gn2 ?_ | refine PJ_s2 ?_ | refine PJ_b2 ?_)
  refine go_ ?_
  refine PW_ownB i4 2 91 3 (by simp [nev, nevA, nevB, evBuild, PF.eval, PF.get, PF.wants, cPV, cCell, PV.rows, evBin, evUn, evConv, evLen, loadA, loadB, TyK.agg, partA, St.box?, St.tok?, St.setBox, St.setTok, fillO, spl, PV.ps, PV.one, evalArgs, aggD, slD, encD_nd, encD_bd, encD_rw, encD_dc, encD_str, encD_int, *]; rfl) (by rfl) (by rfl) (by intro g; simp [St.setBox, *]; rfl) (by decide) ?_
  intro g hg
  have HR0 : Hid (R = ⟨sl', a', recsT q m di sl' m⟩) := HR.out
  clear HR HS1 HS2 hTe hBe hAr hlen hmt hma h24
  refine PW_loop (ι := List Rc × Nat) (fun y => y.2 ≤ sl'.length ∧ Hid (y.1 = recsT q m di (sl'.take y.2) m)) (fun y => [(4, .ptr i0 0), (5, .ptr i1 0), (6, .ptr i2 0), (8, .ptr i4 0), (9, .d (.v (.int .i64 (y.2 : Int))))])
    (fun y => [.tok g 91 3 y.1.length, .box i4 69 [.d (.sl (sl'.map encD)), .d (.sl (a'.map encD)), .own g (y.1.map encD)], .box i2 30 [.d (.v (.int .i64 d.kind)), .d (.v (.string d.name)), .d (.v (.int .i64 d.ty.kind)), .d (.v (.int .i64 d.ty.num)), .d (.sl (d.ty.sub.map encD)), .d (.v (.int .i64 d.body.kind)), .d (.v (.int .i64 d.body.num)), .d (.sl (d.body.sub.map encD)), .d (.v (.int .i64 d.of_)), .d (.v (.int .i64 d.place)), .d (.v (.int .i64 m)), .d (.v (.int .i64 di)), .d (.v (.int .i64 d.level)), .d (.sl (d.cons.map encD)), .d (.sl (d.fields.map encD))], .box i1 30 [.d (.v (.int .i64 x.kind)), .d (.v (.string x.name)), .d (.v (.int .i64 x.ty.kind)), .d (.v (.int .i64 x.ty.num)), .d (.sl (x.ty.sub.map encD)), .d (.v (.int .i64 x.body.kind)), .d (.v (.int .i64 x.body.num)), .d (.sl (x.body.sub.map encD)), .d (.v (.int .i64 q)), .d (.v (.int .i64 x.place)), .d (.v (.int .i64 m)), .d (.v (.int .i64 x.inds)), .d (.v (.int .i64 x.level)), .d (.sl (x.cons.map encD)), .d (.sl (x.fields.map encD))], .box i0 69 [.nils, .nils, .nils]]) (fun y => sl'.length - y.2) ([], 0) ⟨Nat.zero_le _, rfl⟩ ?_ ?_ ?_
  · repeat (first | exact sub_nil _ | refine sub_cons (by simp [PF.get]; rfl) (by first | rfl | (simp [*]; done) | fail) ?_)
  · repeat (first | exact List.Sublist.refl _ | exact List.nil_sublist _ | refine List.Sublist.cons_cons _ ?_ | refine List.Sublist.cons _ ?_)
  · rintro ⟨rs, j⟩ ⟨hj, hrs⟩
    simp only at hj hrs ⊢
    by_cases hlt : j < sl'.length
    rotate_left
    · have hc : ¬ (j : Int) < sl'.length := by omega
      have hf : rs = recsT q m di sl' m := by rw [show rs = _ from hrs.out, List.take_of_length_le (by omega)]
      clear hrs
      refine go_ ?_
      refine Rd ?_
      refine go_ ?_
      refine retP_ok (by simp) (by simp only [Tryz.results43]; rfl) (by simp [resP, St.box?, PF.get, loadB, TyK.agg, *]; rfl) (List.nil_sublist _) ?_
      exact ⟨by rw [show R = _ from HR0.out, ← hf]; rfl, rfl⟩
    have hx := get_enc hlt
    have hc : (j : Int) < sl'.length := by omega
    have hn : (0 : Int) ≤ j := by omega
    have hin := wr64 (n := (j : Int) + 1) (by omega) (by omega)
    have hjl : (sl'.take j).length = j := by rw [List.length_take]; omega
    have hsy := HST.out _ (List.getElem_mem hlt)
    have HM : Hid (rs ++ [recT sl'[j] q m di ((m + j : Nat) : Int)] = recsT q m di (sl'.take (j + 1)) m) := by
      show _ = _
      rw [List.take_succ_eq_append_getElem hlt, recsT_app, hjl, show rs = _ from hrs.out]; rfl
    have hrl : rs.length ≤ 24 := by rw [show rs = _ from hrs.out, recsT_len]; omega
    rw [Int.natCast_add] at HM
    have HRT := Lib.hid (recT_tele hsy q m di ((m : Int) + j))
    rw [Int.toNat_natCast] at HRT
    obtain ⟨-, -, -, -, hsb, -⟩ := tele_whole _ sl'[j] (Nat.le_refl _) hsy
    have hT1 := Lib.hid (rTele_p sl'[j] (shaped_hg hsy).1 (by have := small_nd hsy; omega))
    have hB1 := Lib.hid (rBeneath_p sl'[j] (shaped_hg hsy).1)
    have hA1 := Lib.hid (rArgs_p (benT sl'[j]) (shaped_hg hsb).1 (by have := small_nd hsb; omega))
    have hP1 : Hid ((teleT sl'[j]).length ≤ 24 → PCalls Tryz.prog 51 [aggD (benT sl'[j]), .d (.v (.int .i64 q)), .d (.v (.int .i64 m)), .d (.v (.int .i64 di)), .d (.v (.int .i64 ((m : Int) + j + ((teleT sl'[j]).length : Int))))] [] fun p s => p = .d (.v (.bool (appliedT (benT sl'[j]) q m di ((m : Int) + j + ((teleT sl'[j]).length : Int))))) ∧ s = []) := fun h => rapplied_p _ q m di _ hsb hm0 (by omega) hn0 hn1 (by omega) (by omega)
    have hap : Hid (appliedT (benT sl'[j]) q m di ((m : Int) + j + ((teleT sl'[j]).length : Int)) = true → m ≤ (argsT (benT sl'[j])).length) := by
      intro h
      unfold appliedT at h
      simp only [Bool.and_eq_true, beq_iff_eq] at h
      omega
    have hal : (argsT (benT sl'[j])).length ≤ 8192 := by have := args_len (benT sl'[j]); have := (shaped_hg hsb).2.2; omega
    have hw := wr64 (n := (m : Int) + j) (by omega) (by omega)
    clear hrs hjl hsy hsb
    simp only [aggD, encD_tm, List.map_cons, List.map_nil] at hT1 hB1 hA1 hP1
    generalize appliedT (benT sl'[j]) q m di ((m : Int) + j + ((teleT sl'[j]).length : Int)) = ap at *
    generalize argsT (benT sl'[j]) = ar at *
    generalize benT sl'[j] = bx at *
    generalize teleT sl'[j] = tl at *
    generalize recT sl'[j] q m di ((m : Int) + j) = r at *
    refine go_ ?_
    refine POps_alloc_a ?_
    intro i5 hi5
    try simp only [St.freshB_box, St.freshB_nil, St.freshB_tok, St.freshB_obj] at hi5
    refine go_ ?_
    refine Rd ?_
    refine go_ ?_
    refine POps_call_a (hT1.out) ?_
    refine go_ ?_
    refine POps_alloc_a ?_
    intro i6 hi6
    try simp only [St.freshB_box, St.freshB_nil, St.freshB_tok, St.freshB_obj] at hi6
    refine go_ ?_
    refine Rd ?_
    refine go_ ?_
    refine PW_drawn [(0, .a), (1, .a), (2, .a), (3, .a), (4, .b), (5, .a), (6, .a), (7, .b), (8, .a), (9, .b), (10, .a), (11, .b), (12, .a), (13, .b), (14, .a), (15, .a), (16, .a), (17, .a), (18, .a), (19, .a), (20, .a)] (by kernel_rfl) (by rfl) (by kernel_rfl) ?_
    refine go_ ?_
    by_cases h24 : (tl.length : Int) ≤ 24
    rotate_left
    · have hf : Hid (r = ⟨false, [], []⟩) := by show _ = _; rw [show r = _ from HRT.out, decide_eq_false h24]; rfl
      clear HRT hP1
      refine go_ ?_
      refine POps_bs_a ?_
      refine go_ ?_
      refine POps_app_a (rs.length + 1) ?_ ?_ ?_ ?_
      · simp
      · exact rows3r _
      · exact rows_one rfl
      refine go_ ?_
      refine Rd ?_
      refine go_ ?_
      refine ⟨(rs ++ [r], j + 1), ⟨hlt, HM⟩, by simp only; omega, ?_, ?_⟩
      · repeat (first | exact sub_nil _ | refine sub_cons (by simp [PF.get]; rfl) (by first | rfl | (simp [*]; done) | fail) ?_)
      · rw [show r = _ from hf.out]
        simp only [List.length_append, List.length_singleton, List.map_append, List.map_cons, List.map_nil, encD_rc]
        repeat (first | exact List.Sublist.refl _ | exact List.nil_sublist _ | refine List.Sublist.cons_cons _ ?_ | refine List.Sublist.cons _ ?_)
    have hP2 := Lib.hid (hP1.out (by omega))
    have hw2 := wr64 (n := (m : Int) + j + tl.length) (by omega) (by omega)
    clear hP1
    refine go_ ?_
    refine POrd_call_b (hB1.out) ?_
    refine go_ ?_
    refine POrd_call_b (hP2.out) ?_
    refine go_ ?_
    clear hP2
    rcases Bool.eq_false_or_eq_true (ap) with ha | ha
    rotate_left
    · have hf : Hid (r = ⟨false, [], []⟩) := by show _ = _; rw [show r = _ from HRT.out, ha]; simp
      clear HRT
      refine go_ ?_
      refine POps_bs_a ?_
      refine go_ ?_
      refine POps_app_a (rs.length + 1) ?_ ?_ ?_ ?_
      · simp
      · exact rows3r _
      · exact rows_one rfl
      refine go_ ?_
      refine Rd ?_
      refine go_ ?_
      refine ⟨(rs ++ [r], j + 1), ⟨hlt, HM⟩, by simp only; omega, ?_, ?_⟩
      · repeat (first | exact sub_nil _ | refine sub_cons (by simp [PF.get]; rfl) (by first | rfl | (simp [*]; done) | fail) ?_)
      · rw [show r = _ from hf.out]
        simp only [List.length_append, List.length_singleton, List.map_append, List.map_cons, List.map_nil, encD_rc]
        repeat (first | exact List.Sublist.refl _ | exact List.nil_sublist _ | refine List.Sublist.cons_cons _ ?_ | refine List.Sublist.cons _ ?_)
    have hf : Hid (r = ⟨true, tl, ar.drop m⟩) := by show _ = _; rw [show r = _ from HRT.out, ha, decide_eq_true h24]; rfl
    have hmr := hap.out ha
    have hsl3 : List.drop m (List.take ar.length (List.map encD ar)) = (ar.drop m).map encD := by rw [List.take_of_length_le (by rw [List.length_map]; exact Nat.le_refl _), List.map_drop]
    have HS3 := Lib.hid hsl3
    clear HRT hsl3
    generalize ar.drop m = ar' at *
    refine go_ ?_
    refine PW_drawn [(0, .a), (1, .b), (2, .a), (3, .a), (4, .a), (5, .b), (6, .a), (7, .a), (8, .e)] (by kernel_rfl) (by rfl) (by kernel_rfl) ?_
    refine go_ ?_
    refine POrd_call_a (hB1.out) ?_
    refine go_ ?_
    refine POrd_call_a (hA1.out) ?_
    refine go_ ?_
    refine POrd_slice m ar.length ?_ rfl (by decide) (by first | (simp [nev, nevA, nevB, evBuild, PF.eval, PF.get, PF.wants, cPV, cCell, PV.rows, evBin, evUn, evConv, evLen, loadA, loadB, TyK.agg, partA, St.box?, St.tok?, St.setBox, St.setTok, fillO, spl, PV.ps, PV.one, evalArgs, aggD, slD, encD_nd, encD_bd, encD_rw, encD_dc, encD_str, encD_int, *]; done) | fail) (by simp; rfl) (by rfl) (by decide) (by simp [nev, nevA, nevB, evBuild, PF.eval, PF.get, PF.wants, cPV, cCell, PV.rows, evBin, evUn, evConv, evLen, loadA, loadB, TyK.agg, partA, St.box?, St.tok?, St.setBox, St.setTok, fillO, spl, PV.ps, PV.one, evalArgs, aggD, slD, encD_nd, encD_bd, encD_rw, encD_dc, encD_str, encD_int, *]; rfl) (by simp [PV.rows]; rfl) (by first | rfl | (simp [lowOf, PF.eval, PF.get, cPV, cCell, *]; done) | fail) (by first | rfl | (simp [highOf, PF.eval, PF.get, cPV, cCell, *]; done) | fail) (by first | omega | (simp; done) | (simp; omega)) (by first | omega | (simp; done) | (simp; omega)) ?_
    rotate_left
    · exact rows3 _
    rw [HS3.out]
    refine go_ ?_
    refine POrd_store_a ?_
    refine go_ ?_
    refine go_ ?_
    refine POps_bs_a ?_
    refine go_ ?_
    refine POps_app_a (rs.length + 1) ?_ ?_ ?_ ?_
    · simp
    · exact rows3r _
    · exact rows_one rfl
    refine go_ ?_
    refine Rd ?_
    refine go_ ?_
    refine ⟨(rs ++ [r], j + 1), ⟨hlt, HM⟩, by simp only; omega, ?_, ?_⟩
    · repeat (first | exact sub_nil _ | refine sub_cons (by simp [PF.get]; rfl) (by first | rfl | (simp [*]; done) | fail) ?_)
    · rw [show r = _ from hf.out]
      simp only [List.length_append, List.length_singleton, List.map_append, List.map_cons, List.map_nil, encD_rc]
      repeat (first | exact List.Sublist.refl _ | exact List.nil_sublist _ | refine List.Sublist.cons_cons _ ?_ | refine List.Sublist.cons _ ?_)
end Go.Proofs.YtfnfbbmegdkhjaaGreat

namespace Go.Proofs.YtfnfbbmegdkhjaaGreat
open Go.RowKit
set_option maxRecDepth 100000
/-- the document's: is an entry right, by its kind? -/
def kindR (l : List En) (x : En) (i : Nat) : Bool := if x.kind = 1 then famR l x i else if x.kind = 3 then defB x i else if x.kind = 2 then conB l x i else if x.kind = 4 then projB l x i else false
def entryR (l : List En) (x : En) (i : Nat) : Bool := rightN x.name && (closedT x.ty i && kindR l x i)
set_option maxHeartbeats 8000000 in
theorem rentry_p (l : List En) (i : Nat) (hi : i < l.length) (hl : l.length ≤ 3000000000000000000) (ho : ∀ e ∈ l, EnOk e) (hf : FamOk l i) : PCalls Tryz.prog 24 [.d (.sl (l.map encD)), .d (.v (.int .i64 i))] [] fun p s => p = .d (.v (.bool (entryR l l[i] i))) ∧ s = [] := by
  have hF := Lib.hid (rfamily_p l i hi hl (ho _ (List.getElem_mem hi)))
  have hO := Lib.hid (rowned_p l i hi)
  have hR := Lib.hid (rnright_p l[i].name)
  have hC := Lib.hid (rclosed_p l[i].ty i)
  have hD := Lib.hid (rclosed_p l[i].body i)
  simp only [aggD, encD_tm, List.map_cons, List.map_nil] at hC hD
  have hn : (0 : Int) ≤ i := by omega
  have hx3 : l[i]? = some l[i] := List.getElem?_eq_getElem hi
  have HR := Lib.hid (show entryR l l[i] i = (rightN l[i].name && (closedT l[i].ty i && kindR l l[i] i)) from rfl)
  have hE := ho _ (List.getElem_mem hi)
  generalize entryR l l[i] i = R at *
  generalize l[i] = x at *
  have HE := Lib.hid hE
  have hFam := Lib.hid hf
  clear hi hl ho hf hE
  generalize hB : rightN x.name = B at *
  clear hB
  refine PCalls.enter Tryz.func24 rfl Tryz.ntmps24 (by simp) ?_
  simp only [argsF]
  refine go_ ?_
  refine POps_alloc_a ?_
  intro i0 hi0
  refine go_ ?_
  refine Rd ?_
  refine go_ ?_
  refine POps_call_a (hR.out) ?_
  refine go_ ?_
  clear hR
  rcases Bool.eq_false_or_eq_true (B) with b1 | b1
  rotate_left
  · have HF : Hid (R = false) := by show _ = _; rw [show R = _ from HR.out, b1]; rfl
    clear HR
    refine go_ ?_
    refine retP_ok (by simp) (by simp only [Tryz.results24]; rfl) (by simp [resP, St.box?, PF.get, loadB, TyK.agg, *]; rfl) (List.nil_sublist _) ?_
    exact ⟨by rw [HF.out]; rfl, rfl⟩
  have hcs : closedT x.ty i = true → shapedB x.ty = true := fun h => by
    unfold closedT rightT at h
    simp only [Bool.and_eq_true] at h
    exact h.1.1.1
  have HCS := Lib.hid hcs
  clear hcs
  generalize closedT x.ty i = C at *
  refine go_ ?_
  refine POps_call_b (hC.out) ?_
  refine go_ ?_
  clear hC
  rcases Bool.eq_false_or_eq_true (C) with b2 | b2
  rotate_left
  · have HF : Hid (R = false) := by show _ = _; rw [show R = _ from HR.out, b1, b2]; rfl
    clear HR HCS
    refine go_ ?_
    refine retP_ok (by simp) (by simp only [Tryz.results24]; rfl) (by simp [resP, St.box?, PF.get, loadB, TyK.agg, *]; rfl) (List.nil_sublist _) ?_
    exact ⟨by rw [HF.out]; rfl, rfl⟩
  have HR2 : Hid (R = kindR l x i) := by show _ = _; rw [show R = _ from HR.out, b1, b2]; rfl
  have hs := HCS.out b2
  have HS := Lib.hid hs
  have hT := Lib.hid (rTele_p x.ty (shaped_hg hs).1 (by have := (shaped_hg hs).2.2; omega))
  have hBn := Lib.hid (rBeneath_p x.ty (shaped_hg hs).1)
  simp only [aggD, encD_tm, List.map_cons, List.map_nil] at hT hBn
  clear HR HCS hs
  refine go_ ?_
  refine POps_call_a (hT.out) ?_
  refine go_ ?_
  by_cases k1 : x.kind = 1
  · have HF : Hid (R = famR l x i) := by show _ = _; rw [show R = _ from HR2.out]; unfold kindR; rw [if_pos k1]
    have kb : (x.kind == 1) = true := beq_iff_eq.2 k1
    clear HR2 k1
    generalize famR l x i = Q1 at *
    refine go_ ?_
    refine POps_call_a (hF.out) ?_
    refine go_ ?_
    refine retP_ok (by simp) (by simp only [Tryz.results24]; rfl) (by simp [resP, St.box?, PF.get, loadB, TyK.agg, *]; rfl) (List.nil_sublist _) ?_
    exact ⟨by rw [HF.out]; rfl, rfl⟩
  have kb1 : (x.kind == 1) = false := beq_eq_false_iff_ne.2 k1
  clear hF
  refine go_ ?_
  by_cases k3 : x.kind = 3
  · have HD : Hid (R = (closedT x.body i && ((x.of_ == 0) && ((x.place == 0) && ((x.pars == 0) && ((x.inds == 0) && ((x.level == 0) && ((x.cons.length : Int) + x.fields.length == 0)))))))) := by show _ = _; rw [show R = _ from HR2.out]; unfold kindR; rw [if_neg k1, if_pos k3]; rfl
    have kb : (x.kind == 3) = true := beq_iff_eq.2 k3
    clear HR2 k1 k3
    generalize closedT x.body i = C2 at *
    refine go_ ?_
    refine POps_call_a (hD.out) ?_
    refine go_ ?_
    clear hD
    rcases Bool.eq_false_or_eq_true (C2) with c0 | c0
    rotate_left
    · have HF : Hid (R = false) := by show _ = _; rw [show R = _ from HD.out, c0]; rfl
      clear HD
      refine go_ ?_
      refine retP_ok (by simp) (by simp only [Tryz.results24]; rfl) (by simp [resP, St.box?, PF.get, loadB, TyK.agg, *]; rfl) (List.nil_sublist _) ?_
      exact ⟨by rw [HF.out]; rfl, rfl⟩
    refine go_ ?_
    rcases Bool.eq_false_or_eq_true (x.of_ == 0) with c1 | c1
    rotate_left
    · have HF : Hid (R = false) := by show _ = _; rw [show R = _ from HD.out, c1]; simp
      clear HD
      refine go_ ?_
      refine retP_ok (by simp) (by simp only [Tryz.results24]; rfl) (by simp [resP, St.box?, PF.get, loadB, TyK.agg, *]; rfl) (List.nil_sublist _) ?_
      exact ⟨by rw [HF.out]; rfl, rfl⟩
    refine go_ ?_
    rcases Bool.eq_false_or_eq_true (x.place == 0) with c2 | c2
    rotate_left
    · have HF : Hid (R = false) := by show _ = _; rw [show R = _ from HD.out, c2]; simp
      clear HD
      refine go_ ?_
      refine retP_ok (by simp) (by simp only [Tryz.results24]; rfl) (by simp [resP, St.box?, PF.get, loadB, TyK.agg, *]; rfl) (List.nil_sublist _) ?_
      exact ⟨by rw [HF.out]; rfl, rfl⟩
    refine go_ ?_
    rcases Bool.eq_false_or_eq_true (x.pars == 0) with c3 | c3
    rotate_left
    · have HF : Hid (R = false) := by show _ = _; rw [show R = _ from HD.out, c3]; simp
      clear HD
      refine go_ ?_
      refine retP_ok (by simp) (by simp only [Tryz.results24]; rfl) (by simp [resP, St.box?, PF.get, loadB, TyK.agg, *]; rfl) (List.nil_sublist _) ?_
      exact ⟨by rw [HF.out]; rfl, rfl⟩
    refine go_ ?_
    rcases Bool.eq_false_or_eq_true (x.inds == 0) with c4 | c4
    rotate_left
    · have HF : Hid (R = false) := by show _ = _; rw [show R = _ from HD.out, c4]; simp
      clear HD
      refine go_ ?_
      refine retP_ok (by simp) (by simp only [Tryz.results24]; rfl) (by simp [resP, St.box?, PF.get, loadB, TyK.agg, *]; rfl) (List.nil_sublist _) ?_
      exact ⟨by rw [HF.out]; rfl, rfl⟩
    refine go_ ?_
    rcases Bool.eq_false_or_eq_true (x.level == 0) with c5 | c5
    rotate_left
    · have HF : Hid (R = false) := by show _ = _; rw [show R = _ from HD.out, c5]; simp
      clear HD
      refine go_ ?_
      refine retP_ok (by simp) (by simp only [Tryz.results24]; rfl) (by simp [resP, St.box?, PF.get, loadB, TyK.agg, *]; rfl) (List.nil_sublist _) ?_
      exact ⟨by rw [HF.out]; rfl, rfl⟩
    refine go_ ?_
    have HD2 : Hid (R = ((x.cons.length : Int) + x.fields.length == 0)) := by show _ = _; rw [show R = _ from HD.out, c0, c1, c2, c3, c4, c5]; rfl
    clear HD
    by_cases c6 : (x.cons.length : Int) = 0
    rotate_left
    · have c6b : ((x.cons.length : Int) == 0) = false := beq_eq_false_iff_ne.2 c6
      have HF : Hid (R = false) := by show _ = _; rw [show R = _ from HD2.out]; exact beq_eq_false_iff_ne.2 (by omega)
      clear HD2 c6
      refine go_ ?_
      refine retP_ok (by simp) (by simp only [Tryz.results24]; rfl) (by simp [resP, St.box?, PF.get, loadB, TyK.agg, *]; rfl) (List.nil_sublist _) ?_
      exact ⟨by rw [HF.out]; rfl, rfl⟩
    have c6b : ((x.cons.length : Int) == 0) = true := beq_iff_eq.2 c6
    have HF : Hid (R = ((x.fields.length : Int) == 0)) := by show _ = _; rw [show R = _ from HD2.out, c6, Int.zero_add]
    clear HD2 c6
    refine go_ ?_
    refine retP_ok (by simp) (by simp only [Tryz.results24]; rfl) (by simp [resP, St.box?, PF.get, loadB, TyK.agg, *]; rfl) (List.nil_sublist _) ?_
    exact ⟨by rw [HF.out]; rfl, rfl⟩
  have kb3 : (x.kind == 3) = false := beq_eq_false_iff_ne.2 k3
  clear hD
  by_cases k2 : x.kind = 2
  · have HD : Hid (R = (ownedB l x i && (decide (((teleT x.ty).length : Int) ≤ 24) && (decide (x.pars ≤ (teleT x.ty).length) && appliedT (benT x.ty) x.of_ x.pars (indsOf l x.of_) (teleT x.ty).length)))) := by show _ = _; rw [show R = _ from HR2.out]; unfold kindR; rw [if_neg k1, if_neg k3, if_pos k2]; unfold conB; rw [con_tele HS.out]
    have kb : (x.kind == 2) = true := beq_iff_eq.2 k2
    have kn : (x.kind != 2) = false := by rw [k2]; rfl
    clear HR2 k1 k3 k2
    have hgt : Hid ((ownedB l x i) = true → ∃ (q : Nat) (d : En), x.of_ = q ∧ q < i ∧ l[q]? = some d ∧ d.kind = 1 ∧ x.pars = d.pars) := fun h => owned_get h
    generalize ownedB l x i = OB at *
    refine go_ ?_
    refine POps_call_b (hO.out) ?_
    refine go_ ?_
    clear hO
    rcases Bool.eq_false_or_eq_true (OB) with c0 | c0
    rotate_left
    · have HF : Hid (R = false) := by show _ = _; rw [show R = _ from HD.out, c0]; rfl
      clear HD hgt
      refine go_ ?_
      refine retP_ok (by simp) (by simp only [Tryz.results24]; rfl) (by simp [resP, St.box?, PF.get, loadB, TyK.agg, *]; rfl) (List.nil_sublist _) ?_
      exact ⟨by rw [HF.out]; rfl, rfl⟩
    obtain ⟨q, d, hq, hqi, hd, hdk, hpp⟩ := hgt.out c0
    have hB := Lib.hid (hFam.out q d hqi hd hdk)
    have hq0 : (0 : Int) ≤ q := by omega
    rw [c0] at HD
    unfold indsOf at HD
    rw [hq, Int.toNat_natCast, hd] at HD
    simp only [Bool.true_and] at HD
    have hlen := tele_len x.ty
    have hsb : shapedB (benT x.ty) = true := (tele_whole _ x.ty (Nat.le_refl _) HS.out).2.2.2.2.1
    have hcb := (shaped_hg HS.out).2.2
    have HL := Lib.hid (show (teleT x.ty).length ≤ 8192 by omega)
    have hP := Lib.hid hpp
    have HSB := Lib.hid hsb
    clear hgt hpp hdk hqi hlen hsb hcb hT
    generalize benT x.ty = sx at *
    generalize teleT x.ty = sl at *
    by_cases c1 : (sl.length : Int) ≤ 24
    rotate_left
    · have HF : Hid (R = false) := by show _ = _; rw [show R = _ from HD.out, decide_eq_false c1]; rfl
      clear HD hBn
      refine go_ ?_
      refine PW_drawn [(0, .a), (1, .a), (2, .a), (3, .a), (4, .a), (5, .b), (6, .a), (7, .a), (8, .a), (9, .a), (10, .b), (11, .a), (12, .a), (13, .b), (14, .a), (15, .b), (16, .a), (17, .a), (18, .b), (19, .a), (20, .a), (21, .a), (22, .a), (23, .a), (24, .a), (25, .a)] (by kernel_rfl) (by rfl) (by kernel_rfl) ?_
      refine go_ ?_
      refine retP_ok (by simp) (by simp only [Tryz.results24]; rfl) (by simp [resP, St.box?, PF.get, loadB, TyK.agg, *]; rfl) (List.nil_sublist _) ?_
      exact ⟨by rw [HF.out]; rfl, rfl⟩
    by_cases c2 : x.pars ≤ (sl.length : Int)
    rotate_left
    · have HF : Hid (R = false) := by show _ = _; rw [show R = _ from HD.out, decide_eq_false c2]; simp
      clear HD hBn
      refine go_ ?_
      refine PW_drawn [(0, .a), (1, .a), (2, .a), (3, .a), (4, .a), (5, .b), (6, .a), (7, .a), (8, .a), (9, .a), (10, .b), (11, .a), (12, .a), (13, .b), (14, .a), (15, .b), (16, .a), (17, .a), (18, .b), (19, .a), (20, .a), (21, .a), (22, .a), (23, .a), (24, .a), (25, .a)] (by kernel_rfl) (by rfl) (by kernel_rfl) ?_
      refine go_ ?_
      refine retP_ok (by simp) (by simp only [Tryz.results24]; rfl) (by simp [resP, St.box?, PF.get, loadB, TyK.agg, *]; rfl) (List.nil_sublist _) ?_
      exact ⟨by rw [HF.out]; rfl, rfl⟩
    have hA := Lib.hid (rapplied_p sx q x.pars d.inds sl.length HSB.out (by rw [hP.out]; exact hB.out.1.1) (by rw [hP.out]; exact hB.out.1.2) hB.out.2.1 hB.out.2.2 (by omega) (by omega))
    simp only [aggD, encD_tm, List.map_cons, List.map_nil] at hA
    have HF : Hid (R = appliedT sx q x.pars d.inds sl.length) := by
      show _ = _
      rw [show R = _ from HD.out, decide_eq_true c1, decide_eq_true c2]; rfl
    clear HD HSB HL hB hP
    generalize appliedT sx q x.pars d.inds sl.length = A at *
    refine go_ ?_
    refine PW_drawn [(0, .a), (1, .a), (2, .a), (3, .a), (4, .a), (5, .b), (6, .a), (7, .a), (8, .a), (9, .a), (10, .b), (11, .a), (12, .a), (13, .b), (14, .a), (15, .b), (16, .a), (17, .a), (18, .b), (19, .a), (20, .a), (21, .a), (22, .a), (23, .a), (24, .a), (25, .a)] (by kernel_rfl) (by rfl) (by kernel_rfl) ?_
    refine go_ ?_
    refine POrd_call_b (hBn.out) ?_
    refine go_ ?_
    refine POrd_call_b (hA.out) ?_
    refine go_ ?_
    refine retP_ok (by simp) (by simp only [Tryz.results24]; rfl) (by simp [resP, St.box?, PF.get, loadB, TyK.agg, *]; rfl) (List.nil_sublist _) ?_
    exact ⟨by rw [HF.out]; rfl, rfl⟩
  have kb2 : (x.kind == 2) = false := beq_eq_false_iff_ne.2 k2
  have kn2 : (x.kind != 2) = true := bne_iff_ne.2 k2
  by_cases k4 : x.kind = 4
  rotate_left
  · have kn4 : (x.kind != 4) = true := bne_iff_ne.2 k4
    have HF : Hid (R = false) := by show _ = _; rw [show R = _ from HR2.out]; unfold kindR; rw [if_neg k1, if_neg k3, if_neg k2, if_neg k4]
    clear HR2 k1 k3 k2 k4
    refine go_ ?_
    refine retP_ok (by simp) (by simp only [Tryz.results24]; rfl) (by simp [resP, St.box?, PF.get, loadB, TyK.agg, *]; rfl) (List.nil_sublist _) ?_
    exact ⟨by rw [HF.out]; rfl, rfl⟩
  have kn4 : (x.kind != 4) = false := by rw [k4]; rfl
  have HD : Hid (R = projB l x i) := by show _ = _; rw [show R = _ from HR2.out]; unfold kindR; rw [if_neg k1, if_neg k3, if_neg k2, if_pos k4]
  clear HR2 k1 k3 k2 k4
  have hgt : Hid ((ownedB l x i) = true → ∃ (q : Nat) (d : En), x.of_ = q ∧ q < i ∧ l[q]? = some d ∧ d.kind = 1 ∧ x.pars = d.pars) := fun h => owned_get h
  have HD1 := Lib.hid (show projB l x i = (ownedB l x i && (((splitT x.ty (x.pars + 1)).2.2 == 0) && (match (splitT x.ty (x.pars + 1)).1[x.pars.toNat]? with | some t => appliedT t x.of_ x.pars 0 x.pars | none => false))) from rfl)
  generalize ownedB l x i = OB at *
  refine go_ ?_
  refine POps_call_b (hO.out) ?_
  refine go_ ?_
  clear hO
  rcases Bool.eq_false_or_eq_true (OB) with c0 | c0
  rotate_left
  · have HF : Hid (R = false) := by show _ = _; rw [show R = _ from HD.out, show projB l x i = _ from HD1.out, c0]; rfl
    clear HD hgt HD1
    refine go_ ?_
    refine retP_ok (by simp) (by simp only [Tryz.results24]; rfl) (by simp [resP, St.box?, PF.get, loadB, TyK.agg, *]; rfl) (List.nil_sublist _) ?_
    exact ⟨by rw [HF.out]; rfl, rfl⟩
  obtain ⟨q, d, hq, hqi, hd, hdk, hpp⟩ := hgt.out c0
  have hB := hFam.out q d hqi hd hdk
  obtain ⟨m, hm⟩ : ∃ m : Nat, x.pars = m := ⟨x.pars.toNat, by omega⟩
  have hm24 : Hid ((m : Int) ≤ 24) := by show (m : Int) ≤ 24; omega
  have hm0 : (0 : Int) ≤ m := by omega
  have hws := wr64 (n := (m : Int) + 1) (by omega) (by omega)
  have HD2 : Hid (R = (decide ((m : Int) + 1 ≤ 24) && (decide ((m : Int) + 1 ≤ (teleT x.ty).length) && (match (teleT x.ty)[m]? with | some t => appliedT t q m 0 m | none => false)))) := by
    have e := proj_tele (x := x) HS.out (by omega)
    show R = _
    rw [show R = projB l x i from HD.out]
    refine Eq.trans HD1.out ?_
    rw [c0, Bool.true_and]
    refine Eq.trans e ?_
    rw [hm, hq, Int.toNat_natCast] <;> rfl
  have hcb := (shaped_hg HS.out).2.2
  have hlen := tele_len x.ty
  have HSL := Lib.hid (tele_whole _ x.ty (Nat.le_refl _) HS.out).2.2.2.2.2
  clear HD HD1 hgt hpp hdk hqi hB hBn hcb hlen
  generalize teleT x.ty = sl at *
  by_cases c1 : (m : Int) + 1 ≤ 24
  rotate_left
  · have HF : Hid (R = false) := by show _ = _; rw [show R = _ from HD2.out, decide_eq_false c1]; rfl
    clear HD2
    refine go_ ?_
    refine PW_drawn [(0, .a), (1, .b), (2, .a), (3, .a), (4, .a), (5, .a), (6, .a), (7, .b), (8, .a), (9, .a), (10, .a), (11, .a), (12, .a), (13, .b), (14, .a), (15, .a), (16, .b), (17, .a), (18, .a), (19, .a), (20, .b), (21, .a), (22, .b), (23, .a), (24, .b), (25, .a), (26, .a), (27, .a)] (by kernel_rfl) (by rfl) (by kernel_rfl) ?_
    refine go_ ?_
    refine retP_ok (by simp) (by simp only [Tryz.results24]; rfl) (by simp [resP, St.box?, PF.get, loadB, TyK.agg, *]; rfl) (List.nil_sublist _) ?_
    exact ⟨by rw [HF.out]; rfl, rfl⟩
  by_cases c2 : (m : Int) + 1 ≤ (sl.length : Int)
  rotate_left
  · have HF : Hid (R = false) := by show _ = _; rw [show R = _ from HD2.out, decide_eq_false c2]; simp
    clear HD2
    refine go_ ?_
    refine PW_drawn [(0, .a), (1, .b), (2, .a), (3, .a), (4, .a), (5, .a), (6, .a), (7, .b), (8, .a), (9, .a), (10, .a), (11, .a), (12, .a), (13, .b), (14, .a), (15, .a), (16, .b), (17, .a), (18, .a), (19, .a), (20, .b), (21, .a), (22, .b), (23, .a), (24, .b), (25, .a), (26, .a), (27, .a)] (by kernel_rfl) (by rfl) (by kernel_rfl) ?_
    refine go_ ?_
    refine retP_ok (by simp) (by simp only [Tryz.results24]; rfl) (by simp [resP, St.box?, PF.get, loadB, TyK.agg, *]; rfl) (List.nil_sublist _) ?_
    exact ⟨by rw [HF.out]; rfl, rfl⟩
  have hml : m < sl.length := by omega
  have hy : sl[m]? = some sl[m] := List.getElem?_eq_getElem hml
  have hsy := Lib.hid (HSL.out _ (List.getElem_mem hml))
  have hm1 : (m : Int) < sl.length := by omega
  rw [hy] at HD2
  generalize sl[m] = y at *
  clear hml HSL
  have hA := Lib.hid (rapplied_p y q m 0 m hsy.out hm0 hm24.out (by omega) (by omega) hm0 (by have := hm24.out; omega))
  simp only [aggD, encD_tm, List.map_cons, List.map_nil] at hA
  have HF : Hid (R = appliedT y q m 0 m) := by
    show _ = _
    rw [show R = _ from HD2.out, decide_eq_true c1, decide_eq_true c2]; rfl
  clear HD2 hsy hm24
  generalize appliedT y q m 0 m = A at *
  refine go_ ?_
  refine PW_drawn [(0, .a), (1, .b), (2, .a), (3, .a), (4, .a), (5, .a), (6, .a), (7, .b), (8, .a), (9, .a), (10, .a), (11, .a), (12, .a), (13, .b), (14, .a), (15, .a), (16, .b), (17, .a), (18, .a), (19, .a), (20, .b), (21, .a), (22, .b), (23, .a), (24, .b), (25, .a), (26, .a), (27, .a)] (by kernel_rfl) (by rfl) (by kernel_rfl) ?_
  refine go_ ?_
  refine POrd_call_b (hT.out) ?_
  refine go_ ?_
  refine POrd_call_b (hA.out) ?_
  refine go_ ?_
  refine retP_ok (by simp) (by simp only [Tryz.results24]; rfl) (by simp [resP, St.box?, PF.get, loadB, TyK.agg, *]; rfl) (List.nil_sublist _) ?_
  exact ⟨by rw [HF.out]; rfl, rfl⟩
end Go.Proofs.YtfnfbbmegdkhjaaGreat

namespace Go.Proofs.YtfnfbbmegdkhjaaGreat
open Go.RowKit
set_option maxRecDepth 100000
/-- the names of entries -/
def nms (l : List En) : List ByteArray := l.map En.name
theorem nms_len (l : List En) : (nms l).length = l.length := List.length_map _
theorem nms_take {l : List En} {j : Nat} (h : j < l.length) : (nms l).take (j + 1) = (nms l).take j ++ [l[j].name] := by
  rw [List.take_succ_eq_append_getElem (by rw [nms_len]; exact h)]
  unfold nms
  rw [List.getElem_map]
theorem rows1s (l : List ByteArray) : ∀ row ∈ l.map encD, row.length = 1 := rows_of rfl
set_option maxHeartbeats 4000000 in
theorem snames_p (l : List En) (hl : l.length ≤ 100000) : PCalls Tryz.prog 27 [.d (.sl (l.map encD))] [] fun p s => p = .d (.sl ((nms l).map encD)) ∧ s = [] := by
  refine PCalls.enter Tryz.func27 rfl Tryz.ntmps27 (by simp) ?_
  simp only [argsF]
  refine go_ ?_
  refine PW_own 3 9 1 (by decide) (by simp [PF.get] <;> rfl) fun g hg => ?_
  refine PW_loop (ι := List ByteArray × Nat) (fun y => y.2 ≤ l.length ∧ Hid (y.1 = (nms l).take y.2)) (fun y => [(3, .own g (y.1.map encD)), (6, .d (.sl (l.map encD))), (7, .d (.v (.int .i64 l.length))), (8, .d (.v (.int .i64 (y.2 : Int))))]) (fun y => [.tok g 9 1 y.1.length]) (fun y => l.length - y.2) ([], 0) ⟨Nat.zero_le _, rfl⟩ ?_ ?_ ?_
  · repeat (first | exact sub_nil _ | refine sub_cons (by simp [PF.get]; rfl) (by first | rfl | (simp [*]; done) | fail) ?_)
  · repeat (first | exact List.Sublist.refl _ | exact List.nil_sublist _ | refine List.Sublist.cons_cons _ ?_ | refine List.Sublist.cons _ ?_)
  · rintro ⟨m, j⟩ ⟨hj, hm⟩
    simp only at hj hm ⊢
    by_cases hlt : j < l.length
    · have hx := get_enc hlt
      have hc : (j : Int) < l.length := by omega
      have hn : (0 : Int) ≤ j := by omega
      have hin := wr64 (n := (j : Int) + 1) (by omega) (by omega)
      have hM : Hid (m ++ [l[j].name] = (nms l).take (j + 1)) := by show _ = _; rw [nms_take hlt, show m = _ from hm.out]
      have hml : m.length ≤ 100000 := by rw [show m = _ from hm.out, List.length_take]; omega
      clear hm
      refine go_ ?_
      refine POps_alloc_a ?_
      intro i2 hi2
      try simp only [St.freshB_box, St.freshB_nil, St.freshB_tok, St.freshB_obj] at hi2
      refine go_ ?_
      refine Rd ?_
      refine go_ ?_
      refine POps_bs_a ?_
      refine go_ ?_
      refine POps_app_a (m.length + 1) ?_ ?_ ?_ ?_
      · simp
      · exact rows1s _
      · exact rows_one rfl
      refine go_ ?_
      refine ⟨(m ++ [l[j].name], j + 1), ⟨hlt, hM⟩, by simp only; omega, ?_, ?_⟩
      · repeat (first | exact sub_nil _ | refine sub_cons (by simp [PF.get]; rfl) (by first | rfl | (simp [encD_str]; done) | fail) ?_)
      · simp only [List.length_append, List.length_singleton]
        repeat (first | exact List.Sublist.refl _ | exact List.nil_sublist _ | refine List.Sublist.cons_cons _ ?_ | refine List.Sublist.cons _ ?_)
    · have hc : ¬ (j : Int) < l.length := by omega
      have hf : Hid (m = nms l) := by show _ = _; rw [show m = _ from hm.out, List.take_of_length_le (by rw [nms_len]; omega)]
      clear hm
      refine go_ ?_
      refine retP_ok (by simp) (by simp only [Tryz.results27]; rfl) (by simp [resP, St.box?, PF.get, loadB, TyK.agg, *]; rfl) (List.nil_sublist _) ?_
      exact ⟨by rw [hf.out]; rfl, rfl⟩
set_option maxHeartbeats 4000000 in
theorem rnames_p (l : List En) (hl : l.length ≤ 100000) : PCalls Tryz.prog 23 [.d (.sl (l.map encD))] [] fun p s => p = .d (.sl ((nms l).map encD)) ∧ s = [] := by
  refine PCalls.enter Tryz.func23 rfl Tryz.ntmps23 (by simp) ?_
  simp only [argsF]
  refine go_ ?_
  refine POps_bs0 ?_ (by decide) (by first | (simp [nev, nevA, nevB, evBuild, PF.eval, PF.get, PF.wants, cPV, cCell, PV.rows, evBin, evUn, evConv, evLen, loadA, loadB, TyK.agg, partA, St.box?, St.tok?, St.setBox, St.setTok, fillO, spl, PV.ps, PV.one, evalArgs, aggD, slD, encD_nd, encD_bd, encD_rw, encD_dc, encD_str, encD_int, *]; done) | fail) (by simp; rfl) (by rfl) (by simp; rfl) (by rfl) (by decide)
  intro g hg
  refine go_ ?_
  refine PW_loop (ι := List ByteArray × Nat) (fun y => y.2 ≤ l.length ∧ Hid (y.1 = (nms l).take y.2)) (fun y => [(0, .d (.sl (l.map encD))), (3, .own g (y.1.map encD)), (4, .d (.v (.int .i64 (y.2 : Int))))]) (fun y => [.tok g 9 1 y.1.length]) (fun y => l.length - y.2) ([], 0) ⟨Nat.zero_le _, rfl⟩ ?_ ?_ ?_
  · repeat (first | exact sub_nil _ | refine sub_cons (by simp [PF.get]; rfl) (by first | rfl | (simp [*]; done) | fail) ?_)
  · repeat (first | exact List.Sublist.refl _ | exact List.nil_sublist _ | refine List.Sublist.cons_cons _ ?_ | refine List.Sublist.cons _ ?_)
  · rintro ⟨m, j⟩ ⟨hj, hm⟩
    simp only at hj hm ⊢
    by_cases hlt : j < l.length
    · have hx := get_enc hlt
      have hc : (j : Int) < l.length := by omega
      have hn : (0 : Int) ≤ j := by omega
      have hin := wr64 (n := (j : Int) + 1) (by omega) (by omega)
      have hM : Hid (m ++ [l[j].name] = (nms l).take (j + 1)) := by show _ = _; rw [nms_take hlt, show m = _ from hm.out]
      have hml : m.length ≤ 100000 := by rw [show m = _ from hm.out, List.length_take]; omega
      clear hm
      refine go_ ?_
      refine POps_bs_a ?_
      refine go_ ?_
      refine POps_app_a (m.length + 1) ?_ ?_ ?_ ?_
      · simp
      · exact rows1s _
      · exact rows_one rfl
      refine go_ ?_
      refine ⟨(m ++ [l[j].name], j + 1), ⟨hlt, hM⟩, by simp only; omega, ?_, ?_⟩
      · repeat (first | exact sub_nil _ | refine sub_cons (by simp [PF.get]; rfl) (by first | rfl | (simp [encD_str]; done) | fail) ?_)
      · simp only [List.length_append, List.length_singleton]
        repeat (first | exact List.Sublist.refl _ | exact List.nil_sublist _ | refine List.Sublist.cons_cons _ ?_ | refine List.Sublist.cons _ ?_)
    · have hc : ¬ (j : Int) < l.length := by omega
      have hf : Hid (m = nms l) := by show _ = _; rw [show m = _ from hm.out, List.take_of_length_le (by rw [nms_len]; omega)]
      clear hm
      refine go_ ?_
      refine retP_ok (by simp) (by simp only [Tryz.results23]; rfl) (by simp [resP, St.box?, PF.get, loadB, TyK.agg, *]; rfl) (List.nil_sublist _) ?_
      exact ⟨by rw [hf.out]; rfl, rfl⟩
/-- texts told as data, and as memory -/
theorem slc_str {K : Kp} {w : World} {l : List ByteArray} {v : Value} (h : RelV K w (.d (.sl (l.map encD))) v) : Slc w v (l.map Value.string) ∧ ∀ x ∈ l, x.size ≤ maxLen := by
  cases h with
  | d h =>
    generalize hr : l.map encD = rows at h
    cases h with
    | @nil a cap hm =>
      have hl : l = [] := by cases l with | nil => rfl | cons x r => cases hr
      subst hl
      exact ⟨⟨a, cap, rfl, Nat.zero_le _, fun h => absurd rfl h⟩, by simp⟩
    | @sl sz _ b off cap vals h1 h2 h3 h4 h5 =>
      have hlen : rows.length = l.length := by rw [← hr, List.length_map]
      have hsz : 0 < l.length → sz = 1 := fun h0 => by
        rw [← h3 (encD l[0]) (by rw [← hr]; exact List.mem_map.2 ⟨_, List.getElem_mem h0, rfl⟩)]; rfl
      have hat : ∀ (i : Nat) (hi : i < l.length), w.cell? ⟨b, off + i, none⟩ = some (.string l[i]) ∧ l[i].size ≤ maxLen := by
        intro i hi
        have hri : rows[i]? = some [D.v (.string l[i])] := by rw [← hr, List.getElem?_map, List.getElem?_eq_getElem hi]; rfl
        have e1 := h4 i 0 _ _ hri rfl
        have e2 := h5 i 0 _ _ hri rfl
        rw [hsz (by omega), Nat.mul_one, Nat.add_zero] at e1
        generalize hu : vals i 0 = u at e1 e2
        cases e2 with
        | v h => exact ⟨e1.2, h⟩
      refine ⟨⟨some ⟨b, off, none⟩, cap, by rw [List.length_map, hlen], by rw [List.length_map]; omega, fun hne => ⟨b, off, rfl, fun j hj => ?_⟩⟩, fun x hx => ?_⟩
      · rw [List.length_map] at hj
        rw [(hat j hj).1, List.getElem?_map, List.getElem?_eq_getElem hj]; rfl
      · obtain ⟨i, hi, rfl⟩ := List.getElem_of_mem hx
        exact (hat i hi).2
/-- are no two texts the same? -/
noncomputable def distB (l : List ByteArray) : Bool := @decide (DistN l l.length) (Classical.propDecidable _)
theorem dist_iff (l : List ByteArray) : distB l = true ↔ DistN l l.length := @decide_eq_true_iff _ (Classical.propDecidable _)
theorem dist_ret {l : List ByteArray} {b : Bool} (h : b = true ↔ DistN l l.length) : b = distB l := by
  rw [Bool.eq_iff_iff, h, dist_iff]
theorem sdistinct_p (l : List ByteArray) (hl : l.length ≤ 8192) : PCalls Tryz.prog 26 [.d (.sl (l.map encD))] [] fun p s => p = .d (.v (.bool (distB l))) ∧ s = [] := by
  refine PCalls.flat trivial fun K w vs ha => ?_
  obtain ⟨v, rfl, hv⟩ := ha.one
  obtain ⟨h1, h2⟩ := slc_str hv
  refine (distinct_any l v w h1 h2 hl).mono ?_
  rintro e w' ⟨⟨b, rfl, hb⟩, hbe⟩
  exact ⟨by rw [dist_ret hb], hbe⟩
theorem rdistinct_p (l : List ByteArray) : PCalls Tryz.prog 22 [.d (.sl (l.map encD))] [] fun p s => p = .d (.v (.bool (distB l))) ∧ s = [] := by
  refine PCalls.flat trivial fun K w vs ha => ?_
  obtain ⟨v, rfl, hv⟩ := ha.one
  obtain ⟨h1, h2⟩ := slc_str hv
  refine (rdistinct_any l v w h1).mono ?_
  rintro e w' ⟨⟨b, rfl, hb⟩, rfl⟩
  exact ⟨by rw [dist_ret hb], Below.refl _ _⟩
end Go.Proofs.YtfnfbbmegdkhjaaGreat

namespace Go.Proofs.YtfnfbbmegdkhjaaGreat
open Go.RowKit
set_option maxRecDepth 100000
/-- so it is for each entry and its place -/
def allP (p : En → Nat → Bool) : List En → Nat → Bool
  | [], _ => true
  | x :: r, i => p x i && allP p r (i + 1)
theorem allP_iff (p : En → Nat → Bool) : ∀ (r : List En) (i : Nat), allP p r i = true ↔ ∀ (j : Nat) (x : En), r[j]? = some x → p x (i + j) = true := by
  intro r
  induction r with
  | nil => intro i; simp [allP]
  | cons y r ih =>
    intro i
    simp only [allP, Bool.and_eq_true, ih]
    constructor
    · rintro ⟨h1, h2⟩ j x hx
      cases j with
      | zero => cases hx; exact h1
      | succ j => rw [show i + (j + 1) = i + 1 + j by omega]; exact h2 j x (by simpa using hx)
    · intro h
      exact ⟨h 0 y rfl, fun j x hx => by rw [show i + 1 + j = i + (j + 1) by omega]; exact h (j + 1) x (by simpa using hx)⟩
/-- is a signature formed? (the program's) -/
noncomputable def formedB (l : List En) : Bool := decide ((l.length : Int) ≤ 256) && (distB (nms l) && allP (entryB l) l 0)
/-- is a signature formed? (the document's) -/
noncomputable def formedR (l : List En) : Bool := decide ((l.length : Int) ≤ 256) && (distB (nms l) && allP (entryR l) l 0)
theorem fam3_R {l : List En} {x : En} {i : Nat} (h : fam3 l x i = true) : fam3R l x i = true := by
  unfold fam3 at h
  unfold fam3R
  rw [Bool.or_eq_true] at h ⊢
  rcases h with h | h
  · exact .inl h
  · refine .inr ?_
    simp only [Bool.and_eq_true] at h ⊢
    obtain ⟨h1, h2, h3, h4, h5⟩ := h
    refine ⟨h1, h2, ⟨h3, h4⟩, ?_⟩
    unfold fam4 at h5
    unfold fam4R
    cases hd : l[i + 1]? with
    | none => rw [hd] at h5; cases h5
    | some d =>
      rw [hd] at h5
      simp only [Bool.and_eq_true] at h5 ⊢
      obtain ⟨h6, h7⟩ := h5
      have hs : shapedB d.ty = true := by
        cases hs : shapedB d.ty with
        | true => rfl
        | false => rw [whole_bad hs] at h6; cases h6
      refine ⟨hs, ?_⟩
      by_cases hl : (teleT d.ty).length ≤ 24
      · rw [whole_in hs hl] at h7; exact h7
      · rw [whole_out hs hl] at h6; cases h6
theorem fam3_B {l : List En} {x : En} {i : Nat} (h : fam3R l x i = true) (hc : ∀ d, l[i + 1]? = some d → (wholeT d.ty).2.2 = 0) : fam3 l x i = true := by
  unfold fam3R at h
  unfold fam3
  rw [Bool.or_eq_true] at h ⊢
  rcases h with h | h
  · exact .inl h
  · refine .inr ?_
    simp only [Bool.and_eq_true] at h ⊢
    obtain ⟨h1, h2, ⟨h3, h4⟩, h5⟩ := h
    refine ⟨h1, h2, h3, h4, ?_⟩
    unfold fam4R at h5
    unfold fam4
    cases hd : l[i + 1]? with
    | none => rw [hd] at h5; cases h5
    | some d =>
      rw [hd] at h5
      simp only [Bool.and_eq_true] at h5 ⊢
      obtain ⟨hs, h7⟩ := h5
      have h6 := hc d hd
      refine ⟨beq_iff_eq.2 h6, ?_⟩
      by_cases hl : (teleT d.ty).length ≤ 24
      · rw [whole_in hs hl]; exact h7
      · rw [whole_out hs hl] at h6; simp at h6
theorem con_whole {l : List En} {x : En} {i : Int} (h : conB l x i = true) : (wholeT x.ty).2.2 = 0 := by
  unfold conB at h
  simp only [Bool.and_eq_true] at h
  exact beq_iff_eq.1 h.2.1
theorem run_at : ∀ (c : List Int) (f : Int) (k : Nat), runW c f k = true → ∀ (j : Nat) (n : Int), c[j]? = some n → n = IntKind.i64.wrap (f + ((k + j : Nat) : Int)) := by
  intro c
  induction c with
  | nil => intro f k _ j n h; simp at h
  | cons y c ih =>
    intro f k h j n hn
    simp only [runW, Bool.and_eq_true] at h
    cases j with
    | zero => cases hn; exact beq_iff_eq.1 h.1
    | succ j =>
      have := ih f (k + 1) h.2 j n (by simpa using hn)
      rw [this, show k + 1 + j = k + (j + 1) by omega]
theorem mem_at {l : List En} {of_ k : Int} : ∀ (c : List Int) (i : Nat), membersW l of_ c k i = true → ∀ (j : Nat) (n : Int), c[j]? = some n → memE l of_ n k (i + j) = true := by
  intro c
  induction c with
  | nil => intro i _ j n h; simp at h
  | cons y c ih =>
    intro i h j n hn
    simp only [membersW, Bool.and_eq_true] at h
    cases j with
    | zero => cases hn; exact h.1
    | succ j =>
      have := ih (i + 1) h.2 j n (by simpa using hn)
      rw [show i + (j + 1) = i + 1 + j by omega]; exact this
theorem memE_get {l : List En} {of_ n k : Int} {i : Nat} (h : memE l of_ n k i = true) : ∃ (m : Nat) (d : En), n = m ∧ l[m]? = some d ∧ d.kind = k ∧ d.of_ = of_ ∧ d.place = i := by
  unfold memE at h
  rw [Bool.and_eq_true] at h
  obtain ⟨m, rfl, hm, hk⟩ := isE_get h.1
  have h2 := h.2
  rw [Int.toNat_natCast, List.getElem?_eq_getElem hm] at h2
  simp only [Bool.and_eq_true, beq_iff_eq] at h2
  exact ⟨m, l[m], rfl, List.getElem?_eq_getElem hm, hk, h2.1, h2.2⟩
theorem kind_con {l : List En} {d : En} {i : Nat} (hk : d.kind = 2) : kindB l d i = conB l d i ∧ kindR l d i = conB l d i := by
  unfold kindB kindR
  rw [hk]; simp
theorem fam_con {l : List En} {x : En} {i : Nat} (hi : i < 4000000000000000000) (h : famR l x i = true) (hf : (x.fields.length : Int) ≠ 0) : ∃ d, l[i + 1]? = some d ∧ d.kind = 2 := by
  unfold famR fam2 fam3R at h
  simp only [Bool.and_eq_true, Bool.or_eq_true] at h
  obtain ⟨-, ⟨-, -, -, -, hr, hm⟩, h3⟩ := h
  rcases h3 with h3 | ⟨-, h4, -⟩
  · exact absurd (beq_iff_eq.1 h3) hf
  · have h5 : x.cons.length = 1 := by have := beq_iff_eq.1 h4; omega
    match hc : x.cons, h5 with
    | [n], _ =>
      rw [hc] at hr hm
      have h6 := run_at _ _ _ hr 0 n rfl
      obtain ⟨m, d, h7, h8, h9, -, -⟩ := memE_get (mem_at _ _ hm 0 n rfl)
      rw [wr64 (by omega) (by omega)] at h6
      have : m = i + 1 := by omega
      exact ⟨d, by rw [← this]; exact h8, h9⟩
theorem famB_R {l : List En} {x : En} {i : Nat} (h : famB l x i = true) : famR l x i = true := by
  unfold famB at h
  unfold famR
  simp only [Bool.and_eq_true] at h ⊢
  exact ⟨h.1, h.2.1, fam3_R h.2.2⟩
theorem entryB_R {l : List En} {x : En} {i : Nat} (h : entryB l x i = true) : entryR l x i = true := by
  unfold entryB at h
  unfold entryR
  simp only [Bool.and_eq_true] at h ⊢
  refine ⟨h.1, h.2.1, ?_⟩
  have h3 := h.2.2
  unfold kindB at h3
  unfold kindR
  by_cases k1 : x.kind = 1
  · rw [if_pos k1] at h3 ⊢; exact famB_R h3
  rw [if_neg k1] at h3 ⊢
  by_cases k2 : x.kind = 2
  · rw [if_pos k2] at h3; rw [if_neg (by omega), if_pos k2]; exact h3
  rw [if_neg k2] at h3
  by_cases k4 : x.kind = 4
  · rw [if_pos k4] at h3; rw [if_neg (by omega), if_neg k2, if_pos k4]; exact h3
  rw [if_neg k4] at h3
  by_cases k3 : x.kind = 3
  · rw [if_pos k3] at h3 ⊢; exact h3
  rw [if_neg k3] at h3; cases h3
theorem entryR_B {l : List En} {x : En} {i : Nat} (hi : i < 4000000000000000000) (h : entryR l x i = true) (hn : ∀ d, l[i + 1]? = some d → entryR l d (i + 1) = true) : entryB l x i = true := by
  unfold entryR at h
  unfold entryB
  simp only [Bool.and_eq_true] at h ⊢
  refine ⟨h.1, h.2.1, ?_⟩
  have h3 := h.2.2
  unfold kindR at h3
  unfold kindB
  by_cases k1 : x.kind = 1
  · rw [if_pos k1] at h3 ⊢
    unfold famB
    have h4 := h3
    unfold famR at h4
    simp only [Bool.and_eq_true] at h4 ⊢
    refine ⟨h4.1, h4.2.1, ?_⟩
    by_cases hf : (x.fields.length : Int) = 0
    · unfold fam3; rw [hf]; rfl
    · obtain ⟨d, hd, hk⟩ := fam_con hi h3 hf
      have h5 := hn d hd
      unfold entryR at h5
      simp only [Bool.and_eq_true] at h5
      have h6 := h5.2.2
      rw [(kind_con hk).2] at h6
      refine fam3_B h4.2.2 fun d' hd' => ?_
      rw [hd] at hd'
      cases hd'
      exact con_whole h6
  rw [if_neg k1] at h3 ⊢
  by_cases k3 : x.kind = 3
  · rw [if_pos k3] at h3; rw [if_neg (by omega), if_neg (by omega), if_pos k3]; exact h3
  rw [if_neg k3] at h3
  by_cases k2 : x.kind = 2
  · rw [if_pos k2] at h3 ⊢; exact h3
  rw [if_neg k2] at h3 ⊢
  by_cases k4 : x.kind = 4
  · rw [if_pos k4] at h3 ⊢; exact h3
  rw [if_neg k4] at h3; cases h3
/-- the program's formed signatures are the document's -/
theorem formed_eq (l : List En) : formedB l = formedR l := by
  unfold formedB formedR
  by_cases hl : (l.length : Int) ≤ 256
  · have : allP (entryB l) l 0 = allP (entryR l) l 0 := by
      rw [Bool.eq_iff_iff, allP_iff, allP_iff]
      constructor
      · intro h j x hx; exact entryB_R (h j x hx)
      · intro h j x hx
        have hj := (List.getElem?_eq_some_iff.1 hx).1
        exact entryR_B (by omega) (h j x hx) fun d hd => by have := h (0 + j + 1) d hd; rw [Nat.zero_add] at this; exact this
    rw [this]
  · rw [decide_eq_false hl]; rfl
/-- what an entry that is right says of its family's numbers -/
theorem fam_ok {l : List En} {i : Nat} (h : ∀ (j : Nat) (x : En), j < i → l[j]? = some x → entryB l x j = true) : FamOk l i := by
  intro q d hq hd hk
  have h1 := h q d hq hd
  unfold entryB kindB at h1
  rw [if_pos hk] at h1
  simp only [Bool.and_eq_true] at h1
  have h2 := h1.2.2
  unfold famB fam1 at h2
  simp only [Bool.and_eq_true, decide_eq_true_eq] at h2
  obtain ⟨⟨a, b, c, e, -⟩, -⟩ := h2
  omega
theorem fam_okR {l : List En} {i : Nat} (h : ∀ (j : Nat) (x : En), j < i → l[j]? = some x → entryR l x j = true) : FamOk l i := by
  intro q d hq hd hk
  have h1 := h q d hq hd
  unfold entryR kindR at h1
  rw [if_pos hk] at h1
  simp only [Bool.and_eq_true] at h1
  have h2 := h1.2.2
  unfold famR fam1 at h2
  simp only [Bool.and_eq_true, decide_eq_true_eq] at h2
  obtain ⟨⟨a, b, c, e, -⟩, -⟩ := h2
  omega
end Go.Proofs.YtfnfbbmegdkhjaaGreat

namespace Go.Proofs.YtfnfbbmegdkhjaaGreat
open Go.RowKit
set_option maxRecDepth 100000
theorem isE_take {l : List En} {k m : Nat} {kd : Int} (hm : m < k) (h : isE l m kd = true) : isE (l.take k) m kd = true := by
  obtain ⟨q, hq, hlt, hk⟩ := isE_get h
  have hqm : q = m := by omega
  subst hqm
  unfold isE
  rw [Int.toNat_natCast, List.getElem?_take, if_pos hm, List.getElem?_eq_getElem hlt, List.length_take]
  simp only [Bool.and_eq_true, decide_eq_true_eq]
  exact ⟨by omega, by omega, beq_iff_eq.2 hk⟩
theorem memE_take {l : List En} {k i : Nat} {of_ n kd : Int} (hn : n < k) (h : memE l of_ n kd i = true) : memE (l.take k) of_ n kd i = true := by
  obtain ⟨m, d, rfl, hd, h1, h2, h3⟩ := memE_get h
  unfold memE at h ⊢
  rw [Bool.and_eq_true] at h ⊢
  have hm : m < k := by omega
  refine ⟨isE_take hm h.1, ?_⟩
  rw [Int.toNat_natCast, List.getElem?_take, if_pos hm, hd]
  simp only [Bool.and_eq_true]
  exact ⟨beq_iff_eq.2 h2, beq_iff_eq.2 h3⟩
theorem members_take {l : List En} {k : Nat} {of_ kd : Int} : ∀ (c : List Int) (i : Nat), (∀ (j : Nat) (n : Int), c[j]? = some n → n < k) → membersW l of_ c kd i = true → membersW (l.take k) of_ c kd i = true := by
  intro c
  induction c with
  | nil => intro i _ _; rfl
  | cons y c ih =>
    intro i hb h
    simp only [membersW, Bool.and_eq_true] at h ⊢
    exact ⟨memE_take (hb 0 y rfl) h.1, ih (i + 1) (fun j n hn => hb (j + 1) n (by simpa using hn)) h.2⟩
/-- a row of members does not pass over an entry of another kind -/
theorem run_below {l : List En} {of_ kd : Int} {c : List Int} {f k : Nat} (hk : k ≤ 100000) (hf : f ≤ k) (hr : runW c f 0 = true) (hm : membersW l of_ c kd 0 = true) (hkd : ∀ d, l[k]? = some d → d.kind ≠ kd) : ∀ (j : Nat) (n : Int), c[j]? = some n → n = ((f + j : Nat) : Int) ∧ f + j < k := by
  have key : ∀ (j : Nat), f + j ≤ k → ∀ n, c[j]? = some n → n = ((f + j : Nat) : Int) ∧ f + j < k := by
    intro j hj n hn
    have h1 := run_at _ _ _ hr j n hn
    rw [wr64 (by omega) (by omega)] at h1
    obtain ⟨m, d, h2, h3, h4, -, -⟩ := memE_get (mem_at _ _ hm j n hn)
    have hne : m ≠ k := fun e => by subst e; exact hkd d h3 h4
    omega
  intro j
  induction j with
  | zero => exact key 0 (by omega)
  | succ j ih =>
    intro n hn
    have hlt := (List.getElem?_eq_some_iff.1 hn).1
    have := (ih c[j] (List.getElem?_eq_getElem (by omega))).2
    exact key (j + 1) (by omega) n hn
theorem fam_take {l : List En} {x : En} {i k : Nat} (hik : i < k) (hk : k ≤ 100000) (hkd : ∀ d, l[k]? = some d → d.kind = 1 ∨ d.kind = 3) (h : famB l x i = true) : famB (l.take k) x i = true := by
  unfold famB at h ⊢
  simp only [Bool.and_eq_true] at h ⊢
  obtain ⟨h1, h2, h3⟩ := h
  have n2 : ∀ d, l[k]? = some d → d.kind ≠ 2 := fun d hd => by have := hkd d hd; omega
  have n4 : ∀ d, l[k]? = some d → d.kind ≠ 4 := fun d hd => by have := hkd d hd; omega
  have hcons : ∀ (j : Nat) (n : Int), x.cons[j]? = some n → n = ((i + 1 + j : Nat) : Int) ∧ i + 1 + j < k := by
    unfold fam2 at h2
    simp only [Bool.and_eq_true] at h2
    obtain ⟨-, -, -, -, hr, hm⟩ := h2
    exact run_below hk (by omega) (f := i + 1) (by rw [show ((i + 1 : Nat) : Int) = (i : Int) + 1 by omega]; exact hr) hm n2
  refine ⟨h1, ?_, ?_⟩
  · unfold fam2 at h2 ⊢
    simp only [Bool.and_eq_true] at h2 ⊢
    obtain ⟨a, b, c, d, hr, hm⟩ := h2
    exact ⟨a, b, c, d, hr, members_take _ _ (fun j n hn => by have := hcons j n hn; omega) hm⟩
  · unfold fam3 at h3 ⊢
    rw [Bool.or_eq_true] at h3 ⊢
    rcases h3 with h3 | h3
    · exact .inl h3
    · refine .inr ?_
      simp only [Bool.and_eq_true] at h3 ⊢
      obtain ⟨a, b, hr, hm, h4⟩ := h3
      have hb : x.cons.length = 1 := by have := beq_iff_eq.1 b; omega
      have hi1 : i + 1 < k := by
        match hc : x.cons, hb with
        | [n], _ => have := hcons 0 n (by rw [hc]; rfl); omega
      have hfl := run_below hk (show i + 2 ≤ k by omega) (by rw [show ((i + 2 : Nat) : Int) = (i : Int) + 2 by omega]; exact hr) hm n4
      refine ⟨a, b, hr, members_take _ _ (fun j n hn => by have := hfl j n hn; omega) hm, ?_⟩
      unfold fam4 at h4 ⊢
      rw [List.getElem?_take, if_pos hi1]
      exact h4
theorem owned_take {l : List En} {x : En} {i k : Nat} (hik : i < k) (h : ownedB l x i = true) : ownedB (l.take k) x i = true ∧ indsOf (l.take k) x.of_ = indsOf l x.of_ := by
  obtain ⟨q, d, hq, hqi, hd, hdk, hpp⟩ := owned_get h
  have hqk : q < k := by omega
  have hg : (l.take k)[q]? = l[q]? := by rw [List.getElem?_take, if_pos hqk]
  refine ⟨?_, by unfold indsOf; rw [hq, Int.toNat_natCast, hg]⟩
  unfold ownedB at h ⊢
  simp only [Bool.and_eq_true] at h ⊢
  obtain ⟨a, b, c, d2, e, f, g, g2, g3⟩ := h
  refine ⟨by rw [hq] at a ⊢; exact isE_take hqk a, b, ?_, d2, e, f, g, g2, ?_⟩
  · unfold parsOf at c ⊢; rw [hq, Int.toNat_natCast] at c ⊢; rw [hg]; exact c
  · unfold ownsL at g3 ⊢; rw [hq, Int.toNat_natCast] at g3 ⊢; rw [hg]; exact g3
theorem entry_take {l : List En} {x : En} {i k : Nat} (hik : i < k) (hk : k ≤ 100000) (hkd : ∀ d, l[k]? = some d → d.kind = 1 ∨ d.kind = 3) (h : entryB l x i = true) : entryB (l.take k) x i = true := by
  unfold entryB kindB at h ⊢
  simp only [Bool.and_eq_true] at h ⊢
  refine ⟨h.1, h.2.1, ?_⟩
  have h3 := h.2.2
  by_cases k1 : x.kind = 1
  · rw [if_pos k1] at h3 ⊢; exact fam_take hik hk hkd h3
  rw [if_neg k1] at h3 ⊢
  by_cases k2 : x.kind = 2
  · rw [if_pos k2] at h3 ⊢
    unfold conB at h3 ⊢
    rw [Bool.and_eq_true] at h3 ⊢
    obtain ⟨h4, h5⟩ := owned_take hik h3.1
    rw [h5]; exact ⟨h4, h3.2⟩
  rw [if_neg k2] at h3 ⊢
  by_cases k4 : x.kind = 4
  · rw [if_pos k4] at h3 ⊢
    unfold projB at h3 ⊢
    rw [Bool.and_eq_true] at h3 ⊢
    exact ⟨(owned_take hik h3.1).1, h3.2⟩
  rw [if_neg k4] at h3 ⊢
  exact h3
theorem dist_take {l : List ByteArray} {k : Nat} (h : distB l = true) : distB (l.take k) = true := by
  rw [dist_iff] at h ⊢
  intro i j hij hj
  rw [List.length_take] at hj
  have := h i j hij (by omega)
  simpa only [List.getD, List.getElem?_take, if_pos (show i < k by omega), if_pos (show j < k by omega)] using this
/-- the beginning of a formed signature, up to a family or a definition, is formed -/
theorem formed_take {l : List En} {k : Nat} (h : formedB l = true) (hkd : ∀ d, l[k]? = some d → d.kind = 1 ∨ d.kind = 3) : formedB (l.take k) = true := by
  unfold formedB at h ⊢
  simp only [Bool.and_eq_true, decide_eq_true_eq] at h ⊢
  obtain ⟨h1, h2, h3⟩ := h
  by_cases hkl : k ≤ l.length
  · refine ⟨by rw [List.length_take]; omega, by rw [show nms (l.take k) = (nms l).take k from List.map_take]; exact dist_take h2, ?_⟩
    rw [allP_iff] at h3 ⊢
    intro j x hx
    rw [List.getElem?_take] at hx
    by_cases hj : j < k
    · rw [if_pos hj] at hx
      have := h3 j x hx
      rw [Nat.zero_add] at this ⊢
      exact entry_take hj (by omega) hkd this
    · rw [if_neg hj] at hx; cases hx
  · rw [List.take_of_length_le (by omega)]; exact ⟨h1, h2, h3⟩
end Go.Proofs.YtfnfbbmegdkhjaaGreat

namespace Go.Proofs.YtfnfbbmegdkhjaaGreat
open Go.RowKit
set_option maxRecDepth 100000
set_option maxHeartbeats 8000000 in
theorem sformed_p (l : List En) (ho : ∀ e ∈ l, EnOk e) : PCalls Tryz.prog 9 [.d (.sl (l.map encD))] [] fun p s => p = .d (.v (.bool (formedB l))) ∧ s = [] := by
  obtain ⟨R, hR⟩ : ∃ R, R = formedB l := ⟨_, rfl⟩
  rw [← hR]
  unfold formedB at hR
  have HR0 := Lib.hid hR
  clear hR
  by_cases hl : (l.length : Int) ≤ 256
  rotate_left
  · have hf : Hid (R = false) := by show _ = _; rw [show R = _ from HR0.out, decide_eq_false hl]; rfl
    have h256 : (256 : Int) < l.length := by omega
    clear HR0 ho
    refine PCalls.enter Tryz.func9 rfl Tryz.ntmps9 (by simp) ?_
    simp only [argsF]
    refine go_ ?_
    refine retP_ok (by simp) (by simp only [Tryz.results9]; rfl) (by simp [resP, St.box?, PF.get, loadB, TyK.agg, *]; rfl) (List.nil_sublist _) ?_
    exact ⟨by rw [hf.out]; rfl, rfl⟩
  have HR : Hid (R = (distB (nms l) && allP (entryB l) (l.drop 0) 0)) := by show _ = _; rw [show R = _ from HR0.out, decide_eq_true hl]; rfl
  have h256 : ¬ (256 : Int) < l.length := by omega
  have hN := Lib.hid (snames_p l (by omega))
  have hD := Lib.hid (sdistinct_p (nms l) (by rw [nms_len]; omega))
  have HO := Lib.hid ho
  clear HR0 ho
  generalize distB (nms l) = db at *
  generalize nms l = ns at *
  refine PCalls.enter Tryz.func9 rfl Tryz.ntmps9 (by simp) ?_
  simp only [argsF]
  refine go_ ?_
  refine POps_call_b (hN.out) ?_
  refine go_ ?_
  refine POps_call_b (hD.out) ?_
  refine go_ ?_
  clear hN hD
  rcases Bool.eq_false_or_eq_true (db) with hd | hd
  rotate_left
  · have hf : Hid (R = false) := by show _ = _; rw [show R = _ from HR.out, hd]; rfl
    clear HR
    refine go_ ?_
    refine retP_ok (by simp) (by simp only [Tryz.results9]; rfl) (by simp [resP, St.box?, PF.get, loadB, TyK.agg, *]; rfl) (List.nil_sublist _) ?_
    exact ⟨by rw [hf.out]; rfl, rfl⟩
  have HR1 : Hid (R = allP (entryB l) (l.drop 0) 0) := by show _ = _; rw [show R = _ from HR.out, hd]; rfl
  clear HR
  refine go_ ?_
  refine PW_loop (ι := Nat) (fun y => y ≤ l.length ∧ Hid (R = allP (entryB l) (l.drop y) y) ∧ Hid (∀ (j : Nat) (x : En), j < y → l[j]? = some x → entryB l x j = true)) (fun y => [(0, .d (.sl (l.map encD))), (14, .d (.v (.int .i64 l.length))), (15, .d (.v (.int .i64 (y : Int))))]) (fun _ => []) (fun y => l.length - y) 0 ⟨Nat.zero_le _, HR1.out, fun j x hj => by omega⟩ ?_ ?_ ?_
  · repeat (first | exact sub_nil _ | refine sub_cons (by simp [PF.get]; rfl) (by first | rfl | (simp [*]; done) | fail) ?_)
  · repeat (first | exact List.Sublist.refl _ | exact List.nil_sublist _ | refine List.Sublist.cons_cons _ ?_ | refine List.Sublist.cons _ ?_)
  · rintro j ⟨hj, hR, hA⟩
    clear HR1
    by_cases hlt : j < l.length
    · have hx := get_enc hlt
      have hc : (j : Int) < l.length := by omega
      have hn : (0 : Int) ≤ j := by omega
      have hin := wr64 (n := (j : Int) + 1) (by omega) (by omega)
      have hR2 : Hid (R = (entryB l l[j] j && allP (entryB l) (l.drop (j + 1)) (j + 1))) := by
        rw [show R = _ from hR.out, List.drop_eq_getElem_cons hlt]; rfl
      have hE := Lib.hid (sentry_p l j hlt (by omega) HO.out (fam_ok hA.out))
      have hA2 : Hid (entryB l l[j] j = true → ∀ (q : Nat) (x : En), q < j + 1 → l[q]? = some x → entryB l x q = true) := by
        intro he q z hq hz
        by_cases hqj : q = j
        · subst hqj
          rw [List.getElem?_eq_getElem hlt] at hz
          cases hz; exact he
        · exact hA.out q z (by omega) hz
      clear hR hA
      generalize entryB l l[j] j = b at *
      refine go_ ?_
      refine POps_call_a (hE.out) ?_
      refine go_ ?_
      clear hE
      rcases Bool.eq_false_or_eq_true (b) with hb | hb
      rotate_left
      · have hf : Hid (R = false) := by show _ = _; rw [show R = _ from hR2.out, hb]; rfl
        clear hR2 hA2
        refine go_ ?_
        refine retP_ok (by simp) (by simp only [Tryz.results9]; rfl) (by simp [resP, St.box?, PF.get, loadB, TyK.agg, *]; rfl) (List.nil_sublist _) ?_
        exact ⟨by rw [hf.out]; rfl, rfl⟩
      have hR3 : Hid (R = allP (entryB l) (l.drop (j + 1)) (j + 1)) := by show _ = _; rw [show R = _ from hR2.out, hb]; rfl
      have hA3 := Lib.hid (hA2.out hb)
      clear hR2 hA2
      refine go_ ?_
      exact ⟨j + 1, ⟨hlt, hR3, hA3⟩, by omega, by repeat (first | exact sub_nil _ | refine sub_cons (by simp [PF.get]; rfl) (by first | rfl | (simp [*]; done) | fail) ?_), by repeat (first | exact List.Sublist.refl _ | exact List.nil_sublist _ | refine List.Sublist.cons_cons _ ?_ | refine List.Sublist.cons _ ?_)⟩
    · have hc : ¬ (j : Int) < l.length := by omega
      have hf : Hid (R = true) := by show _ = _; rw [show R = _ from hR.out, List.drop_of_length_le (by omega)]; rfl
      refine go_ ?_
      refine retP_ok (by simp) (by simp only [Tryz.results9]; rfl) (by simp [resP, St.box?, PF.get, loadB, TyK.agg, *]; rfl) (List.nil_sublist _) ?_
      exact ⟨by rw [hf.out]; rfl, rfl⟩
set_option maxHeartbeats 8000000 in
theorem rformed_p (l : List En) (ho : ∀ e ∈ l, EnOk e) : PCalls Tryz.prog 7 [.d (.sl (l.map encD))] [] fun p s => p = .d (.v (.bool (formedR l))) ∧ s = [] := by
  obtain ⟨R, hR⟩ : ∃ R, R = formedR l := ⟨_, rfl⟩
  rw [← hR]
  unfold formedR at hR
  have HR0 := Lib.hid hR
  clear hR
  by_cases hl : (l.length : Int) ≤ 256
  rotate_left
  · have hf : Hid (R = false) := by show _ = _; rw [show R = _ from HR0.out, decide_eq_false hl]; rfl
    have h256 : (256 : Int) < l.length := by omega
    clear HR0 ho
    refine PCalls.enter Tryz.func7 rfl Tryz.ntmps7 (by simp) ?_
    simp only [argsF]
    refine go_ ?_
    refine retP_ok (by simp) (by simp only [Tryz.results7]; rfl) (by simp [resP, St.box?, PF.get, loadB, TyK.agg, *]; rfl) (List.nil_sublist _) ?_
    exact ⟨by rw [hf.out]; rfl, rfl⟩
  have HR : Hid (R = (distB (nms l) && allP (entryR l) (l.drop 0) 0)) := by show _ = _; rw [show R = _ from HR0.out, decide_eq_true hl]; rfl
  have h256 : ¬ (256 : Int) < l.length := by omega
  have hN := Lib.hid (rnames_p l (by omega))
  have hD := Lib.hid (rdistinct_p (nms l))
  have HO := Lib.hid ho
  clear HR0 ho
  generalize distB (nms l) = db at *
  generalize nms l = ns at *
  refine PCalls.enter Tryz.func7 rfl Tryz.ntmps7 (by simp) ?_
  simp only [argsF]
  refine go_ ?_
  refine POps_call_b (hN.out) ?_
  refine go_ ?_
  refine POps_call_b (hD.out) ?_
  refine go_ ?_
  clear hN hD
  rcases Bool.eq_false_or_eq_true (db) with hd | hd
  rotate_left
  · have hf : Hid (R = false) := by show _ = _; rw [show R = _ from HR.out, hd]; rfl
    clear HR
    refine go_ ?_
    refine retP_ok (by simp) (by simp only [Tryz.results7]; rfl) (by simp [resP, St.box?, PF.get, loadB, TyK.agg, *]; rfl) (List.nil_sublist _) ?_
    exact ⟨by rw [hf.out]; rfl, rfl⟩
  have HR1 : Hid (R = allP (entryR l) (l.drop 0) 0) := by show _ = _; rw [show R = _ from HR.out, hd]; rfl
  clear HR
  refine go_ ?_
  refine PW_loop (ι := Nat) (fun y => y ≤ l.length ∧ Hid (R = allP (entryR l) (l.drop y) y) ∧ Hid (∀ (j : Nat) (x : En), j < y → l[j]? = some x → entryR l x j = true)) (fun y => [(0, .d (.sl (l.map encD))), (3, .d (.v (.int .i64 (y : Int))))]) (fun _ => []) (fun y => l.length - y) 0 ⟨Nat.zero_le _, HR1.out, fun j x hj => by omega⟩ ?_ ?_ ?_
  · repeat (first | exact sub_nil _ | refine sub_cons (by simp [PF.get]; rfl) (by first | rfl | (simp [*]; done) | fail) ?_)
  · repeat (first | exact List.Sublist.refl _ | exact List.nil_sublist _ | refine List.Sublist.cons_cons _ ?_ | refine List.Sublist.cons _ ?_)
  · rintro j ⟨hj, hR, hA⟩
    clear HR1
    by_cases hlt : j < l.length
    · have hx := get_enc hlt
      have hc : (j : Int) < l.length := by omega
      have hn : (0 : Int) ≤ j := by omega
      have hin := wr64 (n := (j : Int) + 1) (by omega) (by omega)
      have hR2 : Hid (R = (entryR l l[j] j && allP (entryR l) (l.drop (j + 1)) (j + 1))) := by
        rw [show R = _ from hR.out, List.drop_eq_getElem_cons hlt]; rfl
      have hE := Lib.hid (rentry_p l j hlt (by omega) HO.out (fam_okR hA.out))
      have hA2 : Hid (entryR l l[j] j = true → ∀ (q : Nat) (x : En), q < j + 1 → l[q]? = some x → entryR l x q = true) := by
        intro he q z hq hz
        by_cases hqj : q = j
        · subst hqj
          rw [List.getElem?_eq_getElem hlt] at hz
          cases hz; exact he
        · exact hA.out q z (by omega) hz
      clear hR hA
      generalize entryR l l[j] j = b at *
      refine go_ ?_
      refine POps_call_a (hE.out) ?_
      refine go_ ?_
      clear hE
      rcases Bool.eq_false_or_eq_true (b) with hb | hb
      rotate_left
      · have hf : Hid (R = false) := by show _ = _; rw [show R = _ from hR2.out, hb]; rfl
        clear hR2 hA2
        refine go_ ?_
        refine retP_ok (by simp) (by simp only [Tryz.results7]; rfl) (by simp [resP, St.box?, PF.get, loadB, TyK.agg, *]; rfl) (List.nil_sublist _) ?_
        exact ⟨by rw [hf.out]; rfl, rfl⟩
      have hR3 : Hid (R = allP (entryR l) (l.drop (j + 1)) (j + 1)) := by show _ = _; rw [show R = _ from hR2.out, hb]; rfl
      have hA3 := Lib.hid (hA2.out hb)
      clear hR2 hA2
      refine go_ ?_
      exact ⟨j + 1, ⟨hlt, hR3, hA3⟩, by omega, by repeat (first | exact sub_nil _ | refine sub_cons (by simp [PF.get]; rfl) (by first | rfl | (simp [*]; done) | fail) ?_), by repeat (first | exact List.Sublist.refl _ | exact List.nil_sublist _ | refine List.Sublist.cons_cons _ ?_ | refine List.Sublist.cons _ ?_)⟩
    · have hc : ¬ (j : Int) < l.length := by omega
      have hf : Hid (R = true) := by show _ = _; rw [show R = _ from hR.out, List.drop_of_length_le (by omega)]; rfl
      refine go_ ?_
      refine retP_ok (by simp) (by simp only [Tryz.results7]; rfl) (by simp [resP, St.box?, PF.get, loadB, TyK.agg, *]; rfl) (List.nil_sublist _) ?_
      exact ⟨by rw [hf.out]; rfl, rfl⟩
end Go.Proofs.YtfnfbbmegdkhjaaGreat

namespace Go.Proofs.YtfnfbbmegdkhjaaGreat
open Go.RowKit
set_option maxRecDepth 100000
theorem cnt_rev (l : List ByteArray) (s : ByteArray) : cnt l.reverse s = cnt l s := by
  unfold cnt
  rw [List.filter_reverse, List.length_reverse]
theorem cnt_zero {l : List ByteArray} {s : ByteArray} (h : ∀ y ∈ l, (y.toList == s.toList) = false) : cnt l s = 0 := by
  unfold cnt
  rw [List.filter_eq_nil_iff.2 (fun y hy => by rw [h y hy]; decide)]; rfl
theorem dist_cnt {a b : List ByteArray} (h : distB (a ++ b) = true) {s : ByteArray} (hs : s ∈ b) : cnt a.reverse s = 0 := by
  rw [cnt_rev]
  refine cnt_zero fun y hy => ?_
  rw [dist_iff] at h
  obtain ⟨i, hi, rfl⟩ := List.getElem_of_mem hy
  obtain ⟨j, hj, rfl⟩ := List.getElem_of_mem hs
  have := h i (a.length + j) (by omega) (by rw [List.length_append]; omega)
  rw [List.getD_eq_getElem?_getD, List.getD_eq_getElem?_getD, List.getElem?_append_left hi, List.getElem?_append_right (by omega), Nat.add_sub_cancel_left, List.getElem?_eq_getElem hi, List.getElem?_eq_getElem hj] at this
  exact this
theorem formed_len {l : List En} (h : formedB l = true) : l.length ≤ 256 := by
  unfold formedB at h
  simp only [Bool.and_eq_true, decide_eq_true_eq] at h
  omega
theorem formed_dist {l : List En} (h : formedB l = true) : distB (nms l) = true := by
  unfold formedB at h
  simp only [Bool.and_eq_true, decide_eq_true_eq] at h
  exact h.2.1
set_option maxHeartbeats 16000000 in
theorem sadd_ok (l more : List En) (ho : ∀ e ∈ l ++ more, EnOk e) (hs : ∀ e ∈ l ++ more, EnSmall e) (h1 : formedB l = true) (h2 : formedB (l ++ more) = true) :
    PCalls Tryz.prog 10 [.d (.sl (l.map encD)), .d (.sl (more.map encD))] [] fun p s => p = .tup [.d (.sl (((l ++ more).map copyE).map encD)), .d (.v (.int .i64 0))] ∧ s = [] := by
  have hlen := formed_len h2
  rw [List.length_append] at hlen
  have hF1 := Lib.hid (sformed_p l (fun e he => ho e (List.mem_append_left _ he)))
  have hF2 := Lib.hid (sformed_p (l ++ more) ho)
  rw [h1] at hF1
  rw [h2] at hF2
  have hC := Lib.hid (concat_en_p l more (by omega))
  unfold catD at hC
  have hP := Lib.hid (scopy_p (l ++ more) (by rw [List.length_append]; omega) hs)
  have hcn : ∀ x ∈ more, cnt (nms l).reverse x.name = 0 := fun x hx => dist_cnt (b := nms more) (by have := formed_dist h2; unfold nms at this ⊢; rwa [List.map_append] at this) (List.mem_map.2 ⟨x, hx, rfl⟩)
  have HCN := Lib.hid hcn
  have hw1 := wr64 (n := 256 - (l.length : Int)) (by omega) (by omega)
  have hlt0 : ¬ (256 - (l.length : Int) < more.length) := by omega
  generalize (l ++ more).map copyE = out at *
  generalize l ++ more = lm at *
  clear ho hs h1 h2 hcn
  refine PCalls.enter Tryz.func10 rfl Tryz.ntmps10 (by simp) ?_
  simp only [argsF]
  refine go_ ?_
  refine POps_call_a (hF1.out) ?_
  refine go_ ?_
  clear hF1
  refine POps_makeMap 9 3 fun i0 hi0 => ?_
  try simp only [St.freshB_box, St.freshB_nil, St.freshB_tok, St.freshB_obj] at hi0
  refine go_ ?_
  refine PW_loop (ι := List ByteArray × Nat) (fun y => y.2 ≤ l.length ∧ Hid (y.1 = ((nms l).take y.2).reverse)) (fun y => [(0, .d (.sl (l.map encD))), (1, .d (.sl (more.map encD))), (6, .mp i0), (22, .d (.sl (l.map encD))), (23, .d (.v (.int .i64 l.length))), (24, .d (.v (.int .i64 (y.2 : Int))))]) (fun y => [.obj i0 (MapO Tryz.prog 9 3 y.2 (cntD y.1))]) (fun y => l.length - y.2) ([], 0) ⟨Nat.zero_le _, rfl⟩ ?_ ?_ ?_
  · repeat (first | exact sub_nil _ | refine sub_cons (by simp [PF.get]; rfl) (by first | rfl | (simp [*]; done) | fail) ?_)
  · repeat (first | exact List.Sublist.refl _ | exact List.nil_sublist _ | refine List.Sublist.cons_cons _ ?_ | refine List.Sublist.cons _ ?_)
  · rintro ⟨m, j⟩ ⟨hj, hm⟩
    simp only at hj hm ⊢
    by_cases hlt : j < l.length
    · have hx := get_enc hlt
      have hc : (j : Int) < l.length := by omega
      have hn : (0 : Int) ≤ j := by omega
      have hin := wr64 (n := (j : Int) + 1) (by omega) (by omega)
      have HM : Hid (l[j].name :: m = ((nms l).take (j + 1)).reverse) := by show _ = _; rw [nms_take hlt, List.reverse_append, show m = _ from hm.out]; rfl
      have hcl := cnt_le m l[j].name
      have hml : m.length ≤ 256 := by rw [show m = _ from hm.out, List.length_reverse, List.length_take]; omega
      have hw := wr64 (n := (cnt m l[j].name : Int) + 1) (by omega) (by omega)
      have HCL := Lib.hid (show (cnt m l[j].name : Int) ≤ 256 by omega)
      clear hm hcl hml hlt0
      refine go_ ?_
      refine POps_alloc_a ?_
      intro i2 hi2
      try simp only [St.freshB_box, St.freshB_nil, St.freshB_tok, St.freshB_obj] at hi2
      refine go_ ?_
      refine Rd ?_
      refine go_ ?_
      refine POps_lookupS (D := cntD m) (cnt m l[j].name : Int) Tryz.underlying9 Tryz.underlying3 (fun w => zero3 w) (cntD_at _ _) ?_
      refine go_ ?_
      refine POps_mapUpdateS (N := j) (v := (cnt m l[j].name : Int) + 1) (D := cntD m) Tryz.underlying9 Tryz.underlying3 (by unfold maxLen; omega) (by have := HCL.out; simp [Lit.wf, IntKind.min, IntKind.max, IntKind.signed, IntKind.bits]; omega) ?_
      refine go_ ?_
      refine ⟨(l[j].name :: m, j + 1), ⟨hlt, HM⟩, by simp only; omega, ?_, ?_⟩
      · repeat (first | exact sub_nil _ | refine sub_cons (by simp [PF.get]; rfl) (by first | rfl | (simp [*]; done) | fail) ?_)
      · repeat (first | exact List.Sublist.refl _ | exact List.nil_sublist _ | refine List.Sublist.cons_cons _ ?_ | refine List.Sublist.cons _ ?_)
    · have hc : ¬ (j : Int) < l.length := by omega
      have hjl : j = l.length := by omega
      have hf : m = (nms l).reverse := by rw [show m = _ from hm.out, List.take_of_length_le (by rw [nms_len]; omega)]
      have HCN2 : Hid (∀ x ∈ more, cnt m x.name = 0) := by intro x hx; rw [hf]; exact HCN.out x hx
      clear hm hf HCN hlt hj hlt0
      refine go_ ?_
      refine PW_loop (ι := Nat) (fun y => y ≤ more.length) (fun y => [(0, .d (.sl (l.map encD))), (1, .d (.sl (more.map encD))), (6, .mp i0), (34, .d (.sl (more.map encD))), (35, .d (.v (.int .i64 more.length))), (36, .d (.v (.int .i64 (y : Int))))]) (fun y => [.obj i0 (MapO Tryz.prog 9 3 j (cntD m))]) (fun y => more.length - y) 0 (Nat.zero_le _) ?_ ?_ ?_
      · repeat (first | exact sub_nil _ | refine sub_cons (by simp [PF.get]; rfl) (by first | rfl | (simp [*]; done) | fail) ?_)
      · repeat (first | exact List.Sublist.refl _ | exact List.nil_sublist _ | refine List.Sublist.cons_cons _ ?_ | refine List.Sublist.cons _ ?_)
      · rintro k hk
        clear hc hjl
        by_cases hlt : k < more.length
        · have hx := get_enc hlt
          have hc : (k : Int) < more.length := by omega
          have hn : (0 : Int) ≤ k := by omega
          have hin := wr64 (n := (k : Int) + 1) (by omega) (by omega)
          have H0 := Lib.hid (HCN2.out _ (List.getElem_mem hlt))
          refine go_ ?_
          refine POps_alloc_a ?_
          intro i2 hi2
          try simp only [St.freshB_box, St.freshB_nil, St.freshB_tok, St.freshB_obj] at hi2
          refine go_ ?_
          refine Rd ?_
          refine go_ ?_
          refine POps_lookupS (D := cntD m) 0 Tryz.underlying9 Tryz.underlying3 (fun w => zero3 w) (by rw [cntD_at, H0.out]; rfl) ?_
          refine go_ ?_
          exact ⟨k + 1, hlt, by omega, by repeat (first | exact sub_nil _ | refine sub_cons (by simp [PF.get]; rfl) (by first | rfl | (simp [*]; done) | fail) ?_), by repeat (first | exact List.Sublist.refl _ | exact List.nil_sublist _ | refine List.Sublist.cons_cons _ ?_ | refine List.Sublist.cons _ ?_)⟩
        · have hc : ¬ (k : Int) < more.length := by omega
          refine go_ ?_
          refine POps_bs_a ?_
          refine go_ ?_
          refine POps_call_a (hC.out) ?_
          refine go_ ?_
          refine POps_call_a (hF2.out) ?_
          refine go_ ?_
          refine POps_call_a (hP.out) ?_
          refine go_ ?_
          refine retP_ok (by simp) (by simp only [Tryz.results10]; rfl) (by simp [resP, St.box?, PF.get, loadB, TyK.agg, *]; rfl) (List.nil_sublist _) ?_
          exact ⟨rfl, rfl⟩
end Go.Proofs.YtfnfbbmegdkhjaaGreat

namespace Go.Proofs.YtfnfbbmegdkhjaaGreat
open Go.RowKit
set_option maxRecDepth 100000
theorem formed_at {l : List En} (h : formedB l = true) {i : Nat} {x : En} (hx : l[i]? = some x) : entryB l x i = true := by
  unfold formedB at h
  simp only [Bool.and_eq_true, decide_eq_true_eq] at h
  have := (allP_iff _ _ _).1 h.2.2 i x hx
  rwa [Nat.zero_add] at this
theorem entry_shaped {l : List En} {x : En} {i : Nat} (h : entryB l x i = true) : shapedB x.ty = true := by
  unfold entryB closedT rightT at h
  simp only [Bool.and_eq_true] at h
  exact h.2.1.1.1.1
/-- what a formed signature says of a constructor -/
theorem con_facts {l : List En} {i : Nat} {x : En} (hF : formedB l = true) (hx : l[i]? = some x) (hk : x.kind = 2) : ∃ (q m : Nat) (d : En), x.of_ = q ∧ q < i ∧ l[q]? = some d ∧ d.kind = 1 ∧ x.pars = m ∧ d.pars = m ∧ m ≤ 24 ∧ 0 ≤ d.inds ∧ d.inds ≤ 24 ∧ shapedB x.ty = true ∧ (teleT x.ty).length ≤ 24 ∧ m ≤ (teleT x.ty).length ∧ m ≤ (argsT (benT x.ty)).length ∧ appliedT (benT x.ty) q m d.inds (teleT x.ty).length = true := by
  have he := formed_at hF hx
  have hs := entry_shaped he
  have hc : conB l x i = true := by
    have h2 := he
    unfold entryB at h2
    simp only [Bool.and_eq_true] at h2
    rw [(kind_con hk).1] at h2
    exact h2.2.2
  unfold conB at hc
  rw [Bool.and_eq_true] at hc
  obtain ⟨q, d, hq, hqi, hd, hdk, hpp⟩ := owned_get hc.1
  have hB := fam_ok (i := i) (fun j y hj hy => formed_at hF hy) q d hqi hd hdk
  have h3 := hc.2
  rw [con_tele hs] at h3
  simp only [Bool.and_eq_true, decide_eq_true_eq] at h3
  obtain ⟨h24, hpt, ha⟩ := h3
  obtain ⟨m, hm⟩ : ∃ m : Nat, x.pars = m := ⟨x.pars.toNat, by omega⟩
  unfold indsOf at ha
  rw [hq, Int.toNat_natCast, hd, hm] at ha
  have hal : ((argsT (benT x.ty)).length : Int) = m + d.inds := by
    have h4 := ha
    unfold appliedT at h4
    simp only [Bool.and_eq_true, beq_iff_eq] at h4
    exact h4.2.2.1
  exact ⟨q, m, d, hq, hqi, hd, hdk, hm, by omega, by omega, hB.2.1, hB.2.2, hs, by omega, by omega, by omega, ha⟩
theorem is_at {l : List En} {n : Nat} {k : Int} {x : En} (hx : l[n]? = some x) : isE l n k = (x.kind == k) := by
  have hlt := (List.getElem?_eq_some_iff.1 hx).1
  unfold isE
  rw [decide_eq_true (show (0 : Int) ≤ n by omega), decide_eq_true (show (n : Int) < l.length by omega), Int.toNat_natCast, hx]; rfl
set_option maxHeartbeats 8000000 in
/-- a constructor's parts, of a formed signature -/
theorem sParts_ok (l : List En) (i : Nat) (x : En) (ho : ∀ e ∈ l, EnOk e) (hF : formedB l = true) (hx : l[i]? = some x) (hk : x.kind = 2) :
    PCalls Tryz.prog 15 [.d (.sl (l.map encD)), .d (.v (.int .i64 i))] [] fun p s => p = .tup [aggC (partsT x x.pars (indsOf l x.of_)), .d (.v (.int .i64 0))] ∧ s = [] := by
  obtain ⟨q, m, d, hq, hqi, hd, hdk, hm, hdm, hm1, hn0, hn1, hs, h24, hmt, hma, -⟩ := con_facts hF hx hk
  have hP := Lib.hid (sparts_p l i q m x d hx hd hq hm hdm hm1 hn0 hn1 hs h24 hmt hma)
  have hI := Lib.hid (sis_p l i 2)
  rw [is_at hx, hk] at hI
  have hW := Lib.hid (sformed_p l ho)
  rw [hF] at hW
  have e1 : partsT x x.pars (indsOf l x.of_) = partsT x d.pars d.inds := by
    unfold indsOf
    rw [hq, Int.toNat_natCast, hd, hm, hdm]
  rw [e1]
  generalize partsT x d.pars d.inds = c at *
  unfold aggC at hP ⊢
  clear hs h24 hmt hma e1 hx hd
  refine PCalls.enter Tryz.func15 rfl Tryz.ntmps15 (by simp) ?_
  simp only [argsF]
  refine go_ ?_
  refine POps_alloc_a ?_
  intro i0 hi0
  try simp only [St.freshB_box, St.freshB_nil, St.freshB_tok, St.freshB_obj] at hi0
  refine go_ ?_
  refine POps_call_a (hW.out) ?_
  refine go_ ?_
  refine POps_call_a (hI.out) ?_
  refine go_ ?_
  refine POps_call_a (hP.out) ?_
  refine go_ ?_
  refine Rd ?_
  refine go_ ?_
  refine retP_ok (by simp) (by simp only [Tryz.results15]; rfl) (by simp [resP, St.box?, PF.get, loadB, TyK.agg, *]; rfl) (List.nil_sublist _) ?_
  exact ⟨rfl, rfl⟩
/-- the law's numbers -/
def natL : List En := [⟨1, ⟨#[78, 97, 116]⟩, .mk 2 0 [], .mk 0 0 [], 0, 0, 0, 0, 0, [1, 2], []⟩, ⟨2, ⟨#[122, 101, 114, 111]⟩, .mk 6 0 [], .mk 0 0 [], 0, 0, 0, 0, 0, [], []⟩, ⟨2, ⟨#[115, 117, 99]⟩, .mk 3 0 [.mk 6 0 [], .mk 6 0 []], .mk 0 0 [], 0, 1, 0, 0, 0, [], []⟩]
set_option maxHeartbeats 8000000 in
theorem lnat_p : PCalls Tryz.prog 25 [] [] fun p s => p = .d (.sl (natL.map encD)) ∧ s = [] := by
  have k1 : (⟨#[78, 97, 116]⟩ : ByteArray).size ≤ maxLen := by show 3 ≤ maxLen; unfold maxLen; omega
  have k2 : (⟨#[122, 101, 114, 111]⟩ : ByteArray).size ≤ maxLen := by show 4 ≤ maxLen; unfold maxLen; omega
  have k3 : (⟨#[115, 117, 99]⟩ : ByteArray).size ≤ maxLen := by show 3 ≤ maxLen; unfold maxLen; omega
  refine PCalls.enter Tryz.func25 rfl Tryz.ntmps25 (by simp) ?_
  simp only [argsF]
  refine go_ ?_
  refine POps_alloc_a ?_
  intro i0 hi0
  try simp only [St.freshB_box, St.freshB_nil, St.freshB_tok, St.freshB_obj] at hi0
  refine go_ ?_
  refine Rd ?_
  refine go_ ?_
  refine POps_bs_a ?_
  refine go_ ?_
  refine POps_bs_a ?_
  refine go_ ?_
  refine POps_bs_a ?_
  refine go_ ?_
  refine retP_ok (by simp) (by simp only [Tryz.results25]; rfl) (by simp [resP, St.box?, PF.get, loadB, TyK.agg, *]; rfl) (List.nil_sublist _) ?_
  exact ⟨by simp [natL, encD_int, tupP, PV.norm2, PV.norm1, PV.norm0], rfl⟩
theorem nat_dist : distB (nms natL) = true := by
  rw [dist_iff]
  intro i j hij hj
  have h3 : (nms natL).length = 3 := rfl
  rw [h3] at hj
  rcases (by omega : (i = 0 ∧ j = 1) ∨ (i = 0 ∧ j = 2) ∨ (i = 1 ∧ j = 2)) with ⟨rfl, rfl⟩ | ⟨rfl, rfl⟩ | ⟨rfl, rfl⟩ <;> decide +kernel
theorem nat_entries : allP (entryB natL) natL 0 = true := by decide +kernel
theorem nat_formed : formedB natL = true := by
  unfold formedB
  rw [nat_dist, nat_entries]; rfl
theorem nat_ok : ∀ e ∈ natL, EnOk e := by
  intro e he
  simp only [natL, List.mem_cons, List.not_mem_nil, or_false] at he
  rcases he with rfl | rfl | rfl <;> exact ⟨by decide, by decide⟩
def natC : Cn := partsT natL[2] natL[2].pars (indsOf natL natL[2].of_)
theorem natC_ok : natC.args.length = 1 ∧ ∃ r, natC.recs = [r] ∧ r.is_ = true := by
  refine ⟨by decide +kernel, ⟨(natC.recs[0]?).getD ⟨false, [], []⟩, ?_, by decide +kernel⟩⟩
  have h : natC.recs.length = 1 := by decide +kernel
  match hr : natC.recs, h with
  | [r], _ => rfl
set_option maxHeartbeats 8000000 in
theorem awake12_p : PCalls Tryz.prog 8 [] [] fun p s => p = .d (.v (.bool true)) ∧ s = [] := by
  have hN := Lib.hid lnat_p
  have hP := Lib.hid (sParts_ok natL 2 natL[2] nat_ok nat_formed rfl rfl)
  have hF := Lib.hid (sformed_p natL nat_ok)
  rw [nat_formed] at hF
  obtain ⟨hc1, r, hc2, hc3⟩ := natC_ok
  have hP2 : Hid (PCalls Tryz.prog 15 [.d (.sl (natL.map encD)), .d (.v (.int .i64 2))] [] fun p s => p = .tup [aggC natC, .d (.v (.int .i64 0))] ∧ s = []) := hP.out
  unfold aggC at hP2
  clear hP
  generalize natC = c at *
  generalize natL = nl at *
  obtain ⟨ca, ci, cr⟩ := c
  simp only at hc1 hc2 hP2
  subst hc2
  obtain ⟨ri, ra, rt⟩ := r
  simp only at hc3
  subst hc3
  have hc0 : (ca.length : Int) = 1 := by omega
  refine PCalls.enter Tryz.func8 rfl Tryz.ntmps8 (by simp) ?_
  simp only [argsF]
  refine go_ ?_
  refine POps_call_a (hN.out) ?_
  refine go_ ?_
  refine POps_call_a (hP2.out) ?_
  refine go_ ?_
  refine POps_alloc_a ?_
  intro i0 hi0
  try simp only [St.freshB_box, St.freshB_nil, St.freshB_tok, St.freshB_obj] at hi0
  refine go_ ?_
  refine Rd ?_
  refine go_ ?_
  refine POps_call_a (hN.out) ?_
  refine go_ ?_
  refine POps_call_a (hF.out) ?_
  refine go_ ?_
  refine retP_ok (by simp) (by simp only [Tryz.results8]; rfl) (by simp [resP, St.box?, PF.get, loadB, TyK.agg, *]; rfl) (List.nil_sublist _) ?_
  exact ⟨rfl, rfl⟩
end Go.Proofs.YtfnfbbmegdkhjaaGreat

namespace Go.Proofs.YtfnfbbmegdkhjaaGreat
open Go.RowKit
set_option maxRecDepth 100000
section
variable {H : Type} {enc : TypeId × Value → H} {w : World} {base : Nat} {spare : Nat → Bool} {held : Bool}
theorem opn_en (n : Nat) : OpnB En EnOk enc w base spare held 30 n := by
  intro cs x h hw
  obtain ⟨xs, m, rfl, rfl, hlen, hxs, hf⟩ := DataW.trod_struct Tryz.underlying30 h
  have c0 : Tryz.prog.cellsOf 30 = 15 := by kernel_rfl
  have c1 : Tryz.prog.cellsOf 3 = 1 := by kernel_rfl
  have c2 : Tryz.prog.cellsOf 9 = 1 := by kernel_rfl
  have c3 : Tryz.prog.cellsOf 27 = 3 := by kernel_rfl
  have c4 : Tryz.prog.cellsOf 28 = 1 := by kernel_rfl
  have b1 : Tryz.prog.bytesOf 3 = 8 := by kernel_rfl
  rw [c0] at hlen
  match xs, hxs with
  | [x0, x1, x2, x3, x4, x5, x6, x7, x8, x9, x10], _ =>
    have h0 : DataW.trod enc Tryz.prog w base spare held m 3 ((cs.drop 0).take (Tryz.prog.cellsOf 3)) = some x0 := hf 0 _ rfl
    have h1 : DataW.trod enc Tryz.prog w base spare held m 9 ((cs.drop 1).take (Tryz.prog.cellsOf 9)) = some x1 := hf 1 _ rfl
    have h2 : DataW.trod enc Tryz.prog w base spare held m 27 ((cs.drop 2).take (Tryz.prog.cellsOf 27)) = some x2 := hf 2 _ rfl
    have h3 : DataW.trod enc Tryz.prog w base spare held m 27 ((cs.drop 5).take (Tryz.prog.cellsOf 27)) = some x3 := hf 3 _ rfl
    have h4 : DataW.trod enc Tryz.prog w base spare held m 3 ((cs.drop 8).take (Tryz.prog.cellsOf 3)) = some x4 := hf 4 _ rfl
    have h5 : DataW.trod enc Tryz.prog w base spare held m 3 ((cs.drop 9).take (Tryz.prog.cellsOf 3)) = some x5 := hf 5 _ rfl
    have h6 : DataW.trod enc Tryz.prog w base spare held m 3 ((cs.drop 10).take (Tryz.prog.cellsOf 3)) = some x6 := hf 6 _ rfl
    have h7 : DataW.trod enc Tryz.prog w base spare held m 3 ((cs.drop 11).take (Tryz.prog.cellsOf 3)) = some x7 := hf 7 _ rfl
    have h8 : DataW.trod enc Tryz.prog w base spare held m 3 ((cs.drop 12).take (Tryz.prog.cellsOf 3)) = some x8 := hf 8 _ rfl
    have h9 : DataW.trod enc Tryz.prog w base spare held m 28 ((cs.drop 13).take (Tryz.prog.cellsOf 28)) = some x9 := hf 9 _ rfl
    have h10 : DataW.trod enc Tryz.prog w base spare held m 28 ((cs.drop 14).take (Tryz.prog.cellsOf 28)) = some x10 := hf 10 _ rfl
    have w9 : Wl Tryz.prog 28 x9.1 := wl_part Tryz.underlying30 hw (j := 9) rfl rfl
    have w10 : Wl Tryz.prog 28 x10.1 := wl_part Tryz.underlying30 hw (j := 10) rfl rfl
    rw [c1] at h0 h4 h5 h6 h7 h8
    rw [c2] at h1
    rw [c3] at h2 h3
    rw [c4] at h9 h10
    obtain ⟨k, hk⟩ := opn_int (by kernel_rfl) m _ _ h0
    obtain ⟨s, hs⟩ := opn_str (by kernel_rfl) m _ _ h1
    obtain ⟨t, ht⟩ := opn_tm m _ _ h2
    obtain ⟨u, hu⟩ := opn_tm m _ _ h3
    obtain ⟨a4, ha4⟩ := opn_int (by kernel_rfl) m _ _ h4
    obtain ⟨a5, ha5⟩ := opn_int (by kernel_rfl) m _ _ h5
    obtain ⟨a6, ha6⟩ := opn_int (by kernel_rfl) m _ _ h6
    obtain ⟨a7, ha7⟩ := opn_int (by kernel_rfl) m _ _ h7
    obtain ⟨a8, ha8⟩ := opn_int (by kernel_rfl) m _ _ h8
    obtain ⟨v9, l9, e9, r9, -, z9⟩ := opnB_slice (α := Int) Tryz.underlying28 c1 (by decide) (fun m' _ => (opn_int (by kernel_rfl) m').toB) h9 w9
    obtain ⟨v10, l10, e10, r10, -, z10⟩ := opnB_slice (α := Int) Tryz.underlying28 c1 (by decide) (fun m' _ => (opn_int (by kernel_rfl) m').toB) h10 w10
    have q9 : RepF (fun _ => True) w [.s 1 (l9.map Enc.enc)] ((cs.drop 13).take 1) := by rw [e9]; exact repF_slice r9
    have q10 : RepF (fun _ => True) w [.s 1 (l10.map Enc.enc)] ((cs.drop 14).take 1) := by rw [e10]; exact repF_slice r10
    rw [b1] at z9 z10
    unfold reachBytes at z9 z10
    refine ⟨⟨k, s, t, u, a4, a5, a6, a7, a8, l9, l10⟩, ?_, by show l9.length ≤ _; omega, by show l10.length ≤ _; omega⟩
    have hall := repF_at (o := 0) (n := 1) (m := 1) (ds := [.v (.int .i64 k)]) rfl hk (repF_at (o := 1) (n := 1) (m := 2) (ds := [.str s]) rfl hs (repF_at (o := 2) (n := 3) (m := 5) (ds := tmD t) rfl ht (repF_at (o := 5) (n := 3) (m := 8) (ds := tmD u) rfl hu (repF_at (o := 8) (n := 1) (m := 9) (ds := [.v (.int .i64 a4)]) rfl ha4 (repF_at (o := 9) (n := 1) (m := 10) (ds := [.v (.int .i64 a5)]) rfl ha5 (repF_at (o := 10) (n := 1) (m := 11) (ds := [.v (.int .i64 a6)]) rfl ha6 (repF_at (o := 11) (n := 1) (m := 12) (ds := [.v (.int .i64 a7)]) rfl ha7 (repF_at (o := 12) (n := 1) (m := 13) (ds := [.v (.int .i64 a8)]) rfl ha8 (repF_at (o := 13) (n := 1) (m := 14) (ds := [.s 1 (l9.map Enc.enc)]) rfl q9 (repF_tail q10 (by omega)))))))))))
    unfold Rep
    simp only [Enc.enc, List.append_assoc]
    exact hall
/-- entries in memory, none with a list longer than can be -/
def EnS (w : World) (v : Value) (l : List En) : Prop := RepS (fun _ => True) w v l ∧ ∀ e ∈ l, EnOk e
theorem open_ens {n : Nat} {cs : List Value} {x : DataW H × List MemPlace} (h : DataW.trod enc Tryz.prog w base spare held n 22 cs = some x) (hw : Wl Tryz.prog 22 x.1) : ∃ (a : Option Addr) (len cap : Nat) (ts : List En), cs = [.slice a len cap] ∧ EnS w (.slice a len cap) ts := by
  obtain ⟨v, l, rfl, hl, hok, _⟩ := opnB_slice (α := En) Tryz.underlying22 (by kernel_rfl) (by decide) (fun m' _ => opn_en m') h hw
  obtain ⟨a, c, rfl, _⟩ := hl.shape
  exact ⟨a, _, c, l, rfl, hl, hok⟩
end
end Go.Proofs.YtfnfbbmegdkhjaaGreat

namespace Go.Proofs.YtfnfbbmegdkhjaaGreat
open Go.RowKit
set_option maxRecDepth 100000
theorem ceq_refl : ∀ t : Tm, ceqT t t = true := by
  refine Tm.ind ?_
  intro k n sub ih
  have hl : ∀ l : List Tm, (∀ s ∈ l, ceqT s s = true) → ceqL l l = true := by
    intro l
    induction l with
    | nil => intro _; rfl
    | cons t ts iht =>
      intro h
      simp only [ceqL, Bool.and_eq_true]
      exact ⟨h t (by simp), iht fun s hs => h s (by simp [hs])⟩
  simp only [ceqT, beq_self_eq_true, Bool.true_and, hl sub ih]
theorem sameTB_refl (t : Tm) : sameTB t t = true := by
  unfold sameTB
  rw [ceq_refl]
  cases shapedB t <;> rfl
theorem eqI_refl : ∀ l : List Int, eqI l l = true := by
  intro l
  induction l with
  | nil => rfl
  | cons x l ih => simp only [eqI, ih]; simp
theorem eqIs_refl (l : List Int) : eqIs l l = true := by
  unfold eqIs
  rw [eqI_refl]; simp
theorem sameE_refl (x : En) : sameE x x = true := by
  unfold sameE
  rw [sameTB_refl, sameTB_refl, eqIs_refl, eqIs_refl]
  simp
theorem sameS_refl (l : List En) : sameS l l = true := by
  have : ∀ l : List En, sameL l l = true := by
    intro l
    induction l with
    | nil => rfl
    | cons x l ih => simp only [sameL, sameE_refl, ih]; rfl
  unfold sameS
  rw [this]; simp
theorem none_zero {t : Tm} (h : noneT t = true) : t = .mk 0 0 [] := by
  unfold noneT at h
  simp only [Bool.and_eq_true, beq_iff_eq] at h
  cases t with
  | mk k n sub =>
    simp only [Tm.kind_mk, Tm.num_mk, Tm.sub_mk] at h
    obtain ⟨rfl, rfl, h3⟩ := h
    have h4 : sub = [] := List.eq_nil_of_length_eq_zero (by omega)
    rw [h4]
theorem copy_zero : copyT (.mk 0 0 []) = .mk 0 0 [] := by
  unfold copyT
  split <;> rfl
theorem copy_shaped {t : Tm} (h : shapedB t = true) : copyT t = t := by
  unfold copyT
  rw [if_pos h]
theorem owned_small {l : List En} {x : En} {i : Int} (h : ownedB l x i = true) : noneT x.body = true ∧ x.cons.length = 0 ∧ x.fields.length = 0 := by
  unfold ownedB at h
  simp only [Bool.and_eq_true, beq_iff_eq] at h
  obtain ⟨-, -, -, h4, -, -, h7, h8, -⟩ := h
  exact ⟨h4, by omega, by omega⟩
/-- an entry that is right: its copy is it, its lists are short -/
theorem entry_copy {l : List En} {x : En} {i : Nat} (hl : l.length ≤ 256) (hi : i < l.length) (h : entryB l x i = true) : copyE x = x ∧ EnSmall x := by
  have hs := entry_shaped h
  have hb : copyT x.body = x.body ∧ EnSmall x := by
    unfold entryB kindB at h
    simp only [Bool.and_eq_true] at h
    have h3 := h.2.2
    by_cases k1 : x.kind = 1
    · rw [if_pos k1] at h3
      unfold famB fam1 fam2 fam3 at h3
      simp only [Bool.and_eq_true, decide_eq_true_eq, Bool.or_eq_true] at h3
      obtain ⟨⟨-, -, -, -, -, -, hn⟩, ⟨-, -, -, hc, -⟩, hf⟩ := h3
      refine ⟨by rw [none_zero hn]; exact copy_zero, by show x.cons.length ≤ _; omega, ?_⟩
      show x.fields.length ≤ _
      rcases hf with hf | ⟨-, -, hr, hm, -⟩
      · have := beq_iff_eq.1 hf; omega
      · by_cases h0 : x.fields.length ≤ 100000
        · exact h0
        · exfalso
          have hlt : 1000 < x.fields.length := by omega
          have e1 := run_at _ _ _ hr 1000 _ (List.getElem?_eq_getElem hlt)
          obtain ⟨m, d, e2, e3, -⟩ := memE_get (mem_at _ _ hm 1000 _ (List.getElem?_eq_getElem hlt))
          rw [wr64 (by omega) (by omega)] at e1
          have := (List.getElem?_eq_some_iff.1 e3).1
          omega
    rw [if_neg k1] at h3
    by_cases k2 : x.kind = 2
    · rw [if_pos k2] at h3
      unfold conB at h3
      rw [Bool.and_eq_true] at h3
      obtain ⟨a, b, c⟩ := owned_small h3.1
      exact ⟨by rw [none_zero a]; exact copy_zero, by show x.cons.length ≤ _; omega, by show x.fields.length ≤ _; omega⟩
    rw [if_neg k2] at h3
    by_cases k4 : x.kind = 4
    · rw [if_pos k4] at h3
      unfold projB at h3
      rw [Bool.and_eq_true] at h3
      obtain ⟨a, b, c⟩ := owned_small h3.1
      exact ⟨by rw [none_zero a]; exact copy_zero, by show x.cons.length ≤ _; omega, by show x.fields.length ≤ _; omega⟩
    rw [if_neg k4] at h3
    by_cases k3 : x.kind = 3
    · rw [if_pos k3] at h3
      unfold defB at h3
      simp only [Bool.and_eq_true, beq_iff_eq] at h3
      obtain ⟨hc, -, -, -, -, -, h6⟩ := h3
      have hsb : shapedB x.body = true := by
        unfold closedT rightT at hc
        simp only [Bool.and_eq_true] at hc
        exact hc.1.1.1
      exact ⟨copy_shaped hsb, by show x.cons.length ≤ _; omega, by show x.fields.length ≤ _; omega⟩
    rw [if_neg k3] at h3; cases h3
  refine ⟨?_, hb.2⟩
  unfold copyE
  rw [copy_shaped hs, hb.1]
theorem formed_small {l : List En} (h : formedB l = true) : ∀ e ∈ l, EnSmall e := by
  intro e he
  obtain ⟨i, hi, rfl⟩ := List.getElem_of_mem he
  exact (entry_copy (formed_len h) hi (formed_at h (List.getElem?_eq_getElem hi))).2
theorem formed_copy {l : List En} (h : formedB l = true) : l.map copyE = l := by
  refine List.ext_getElem (by simp) fun i h1 h2 => ?_
  rw [List.getElem_map]
  exact (entry_copy (formed_len h) h2 (formed_at h (List.getElem?_eq_getElem h2))).1
theorem find_at (s : ByteArray) : ∀ (l : List En) (b i : Nat), (∀ j x, j < i → l[j]? = some x → (x.name.toList == s.toList) = false) → (∃ x, l[i]? = some x ∧ (x.name.toList == s.toList) = true) → findN s l b = some (b + i) := by
  intro l
  induction l with
  | nil => rintro b i _ ⟨x, h, _⟩; simp at h
  | cons y l ih =>
    rintro b i h1 ⟨x, h2, h3⟩
    cases i with
    | zero =>
      cases h2
      simp only [findN]
      rw [if_pos h3]; rfl
    | succ i =>
      have h0 := h1 0 y (by omega) rfl
      simp only [findN]
      rw [if_neg (by rw [h0]; decide), ih (b + 1) i (fun j x hj hx => h1 (j + 1) x (by omega) (by simpa using hx)) ⟨x, by simpa using h2, h3⟩]
      congr 1; omega
/-- each name of a formed signature is found where it is -/
theorem find_formed {l : List En} (h : formedB l = true) {i : Nat} (hi : i < l.length) : findN l[i].name l 0 = some i := by
  have hd := (dist_iff _).1 (formed_dist h)
  rw [find_at l[i].name l 0 i ?_ ⟨l[i], List.getElem?_eq_getElem hi, by simp⟩, Nat.zero_add]
  intro j x hj hx
  have := hd j i hj (by rw [nms_len]; exact hi)
  rw [List.getD_eq_getElem?_getD, List.getD_eq_getElem?_getD] at this
  unfold nms at this
  rw [List.getElem?_map, List.getElem?_map, hx, List.getElem?_eq_getElem hi] at this
  exact this
set_option maxHeartbeats 4000000 in
theorem light_p (l : List En) : PCalls Tryz.prog 6 [.d (.sl (l.map encD))] [] fun p s => p = .d (.v (.bool (decide ((l.length : Int) ≤ 300)))) ∧ s = [] := by
  refine PCalls.enter Tryz.func6 rfl Tryz.ntmps6 (by simp) ?_
  simp only [argsF]
  refine go_ ?_
  refine retP_ok (by simp) (by simp only [Tryz.results6]; rfl) (by simp [resP, St.box?, PF.get, loadB, TyK.agg, *]; rfl) (List.nil_sublist _) ?_
  exact ⟨rfl, rfl⟩
end Go.Proofs.YtfnfbbmegdkhjaaGreat

namespace Go.Proofs.YtfnfbbmegdkhjaaGreat
open Go.RowKit
set_option maxRecDepth 100000
theorem entry_kind {l : List En} {x : En} {i : Nat} (h : entryB l x i = true) (h2 : x.kind ≠ 2) (h4 : x.kind ≠ 4) : x.kind = 1 ∨ x.kind = 3 := by
  unfold entryB kindB at h
  simp only [Bool.and_eq_true] at h
  have h3 := h.2.2
  by_cases e1 : x.kind = 1
  · exact .inl e1
  · rw [if_neg e1, if_neg h2, if_neg h4] at h3
    by_cases e3 : x.kind = 3
    · exact .inr e3
    · rw [if_neg e3] at h3; cases h3
set_option maxHeartbeats 16000000 in
theorem begins_p (l : List En) (n : Int) (hn0 : 0 ≤ n) (hn1 : n ≤ 255) (ho : ∀ e ∈ l, EnOk e) : PCalls Tryz.prog 3 [.d (.sl (l.map encD)), .d (.v (.int .u8 n))] [] fun p s => p = .d (.v (.bool true)) ∧ s = [] := by
  have hL := Lib.hid (light_p l)
  have hF := Lib.hid (rformed_p l ho)
  rw [← formed_eq] at hF
  have hA := Lib.hid awake12_p
  by_cases h300 : (l.length : Int) ≤ 300
  rotate_left
  · rw [decide_eq_false h300] at hL
    clear hF
    refine PCalls.enter Tryz.func3 rfl Tryz.ntmps3 (by simp) ?_
    simp only [argsF]
    refine go_ ?_
    refine POps_call_a (hL.out) ?_
    refine go_ ?_
    refine POps_call_a (hA.out) ?_
    refine go_ ?_
    refine retP_ok (by simp) (by simp only [Tryz.results3]; rfl) (by simp [resP, St.box?, PF.get, loadB, TyK.agg, *]; rfl) (List.nil_sublist _) ?_
    exact ⟨rfl, rfl⟩
  rw [decide_eq_true h300] at hL
  cases hfb : formedB l with
  | false =>
    rw [hfb] at hF
    refine PCalls.enter Tryz.func3 rfl Tryz.ntmps3 (by simp) ?_
    simp only [argsF]
    refine go_ ?_
    refine POps_call_a (hL.out) ?_
    refine go_ ?_
    refine POps_call_b (hF.out) ?_
    refine go_ ?_
    refine POps_call_a (hA.out) ?_
    refine go_ ?_
    refine retP_ok (by simp) (by simp only [Tryz.results3]; rfl) (by simp [resP, St.box?, PF.get, loadB, TyK.agg, *]; rfl) (List.nil_sublist _) ?_
    exact ⟨rfl, rfl⟩
  | true =>
  rw [hfb] at hF
  by_cases h0 : l.length = 0
  · have h0b : l = [] := List.eq_nil_of_length_eq_zero h0
    subst h0b
    clear h0 hfb h300 ho
    refine PCalls.enter Tryz.func3 rfl Tryz.ntmps3 (by simp) ?_
    simp only [argsF]
    refine go_ ?_
    refine POps_call_a (hL.out) ?_
    refine go_ ?_
    refine POps_call_b (hF.out) ?_
    refine go_ ?_
    refine POps_call_a (hA.out) ?_
    refine go_ ?_
    refine retP_ok (by simp) (by simp only [Tryz.results3]; rfl) (by simp [resP, St.box?, PF.get, loadB, TyK.agg, *]; rfl) (List.nil_sublist _) ?_
    exact ⟨rfl, rfl⟩
  have hne : ((l.length : Int) == 0) = false := beq_eq_false_iff_ne.2 (by omega)
  have hne2 : ¬ ((l.length : Int) = 0) := by omega
  have hne3 : ¬ l = [] := fun e => h0 (by rw [e]; rfl)
  have hne4 : ¬ l.length = 0 := h0
  obtain ⟨k, hk⟩ : ∃ k : Nat, n.tmod l.length = k := ⟨n.toNat % l.length, by
    rw [Int.tmod_eq_emod_of_nonneg hn0, Int.natCast_emod, Int.toNat_of_nonneg hn0]⟩
  have hkl : k < l.length := by
    have h1 := Int.emod_lt_of_pos n (show (0 : Int) < l.length by omega)
    rw [Int.tmod_eq_emod_of_nonneg hn0] at hk
    omega
  have hwn := wr64 (n := n) (by omega) (by omega)
  have hx3 : l[k]? = some l[k] := List.getElem?_eq_getElem hkl
  have hkc : (k : Int) < l.length := by omega
  have hk0 : (0 : Int) ≤ k := by omega
  have HK := Lib.hid hkl
  have HFB := Lib.hid hfb
  have HO := Lib.hid ho
  have HT : Hid (l[k].kind ≠ 2 → l[k].kind ≠ 4 → formedB (l.take k) = true) := by
    intro h2 h4
    refine formed_take hfb fun d hd => ?_
    rw [hx3] at hd
    cases hd
    exact entry_kind (formed_at hfb hx3) h2 h4
  generalize l[k] = x at *
  clear hkl hfb ho h0
  refine PCalls.enter Tryz.func3 rfl Tryz.ntmps3 (by simp) ?_
  simp only [argsF]
  refine go_ ?_
  refine POps_call_a (hL.out) ?_
  refine go_ ?_
  refine POps_call_b (hF.out) ?_
  refine go_ ?_
  by_cases h2 : x.kind = 2
  · have h2b : (x.kind == 2) = true := beq_iff_eq.2 h2
    clear h2 HT
    refine go_ ?_
    refine POps_call_a (hA.out) ?_
    refine go_ ?_
    refine retP_ok (by simp) (by simp only [Tryz.results3]; rfl) (by simp [resP, St.box?, PF.get, loadB, TyK.agg, *]; rfl) (List.nil_sublist _) ?_
    exact ⟨rfl, rfl⟩
  have h2b : (x.kind == 2) = false := beq_eq_false_iff_ne.2 h2
  by_cases h4 : x.kind = 4
  · have h4b : (x.kind == 4) = true := beq_iff_eq.2 h4
    clear h4 HT h2
    refine go_ ?_
    refine POps_call_a (hA.out) ?_
    refine go_ ?_
    refine retP_ok (by simp) (by simp only [Tryz.results3]; rfl) (by simp [resP, St.box?, PF.get, loadB, TyK.agg, *]; rfl) (List.nil_sublist _) ?_
    exact ⟨rfl, rfl⟩
  have h4b : (x.kind == 4) = false := beq_eq_false_iff_ne.2 h4
  have hft := HT.out h2 h4
  have hT := Lib.hid (sformed_p (l.take k) (fun e he => HO.out e (List.mem_of_mem_take he)))
  rw [hft] at hT
  have happ : l.take k ++ l.drop k = l := List.take_append_drop k l
  have hAdd := sadd_ok (l.take k) (l.drop k) (by rw [happ]; exact HO.out) (by rw [happ]; exact formed_small HFB.out) hft (by rw [happ]; exact HFB.out)
  rw [happ, formed_copy HFB.out] at hAdd
  have HAdd := Lib.hid hAdd
  have hS := Lib.hid (rsame_p l l)
  rw [sameS_refl] at hS
  have hsl1 : List.drop 0 (List.take k (List.map encD l)) = (l.take k).map encD := by rw [List.drop_zero, List.map_take]
  have hsl2 : List.drop k (List.take l.length (List.map encD l)) = (l.drop k).map encD := by rw [List.take_of_length_le (by rw [List.length_map]; exact Nat.le_refl _), List.map_drop]
  have HS1 := Lib.hid hsl1
  have HS2 := Lib.hid hsl2
  clear HT h2 h4 hft happ hAdd hsl1 hsl2
  generalize l.take k = a at *
  generalize l.drop k = b at *
  refine go_ ?_
  refine POps_slice 0 k ?_ (by decide) (by first | (simp [nev, nevA, nevB, evBuild, PF.eval, PF.get, PF.wants, cPV, cCell, PV.rows, evBin, evUn, evConv, evLen, loadA, loadB, TyK.agg, partA, St.box?, St.tok?, St.setBox, St.setTok, fillO, spl, PV.ps, PV.one, evalArgs, aggD, slD, encD_nd, encD_bd, encD_rw, encD_dc, encD_str, encD_int, *]; done) | fail) (by simp; rfl) (by rfl) (by decide) (by simp [nev, nevA, nevB, evBuild, PF.eval, PF.get, PF.wants, cPV, cCell, PV.rows, evBin, evUn, evConv, evLen, loadA, loadB, TyK.agg, partA, St.box?, St.tok?, St.setBox, St.setTok, fillO, spl, PV.ps, PV.one, evalArgs, aggD, slD, encD_nd, encD_bd, encD_rw, encD_dc, encD_str, encD_int, *]; rfl) (by simp [PV.rows]; rfl) (by first | rfl | (simp [lowOf, PF.eval, PF.get, cPV, cCell, *]; done) | fail) (by first | rfl | (simp [highOf, PF.eval, PF.get, cPV, cCell, *]; done) | fail) (by first | omega | (simp; done) | (simp; omega)) (by first | omega | (simp; done) | (simp; omega)) ?_
  rotate_left
  · exact rows15 _
  rw [HS1.out]
  refine go_ ?_
  refine POps_call_a (hT.out) ?_
  refine go_ ?_
  refine PW_drawn [(0, .a), (1, .a), (2, .a), (3, .a), (4, .a), (5, .a), (6, .a), (7, .a), (8, .a), (9, .a), (10, .a), (11, .a)] (by kernel_rfl) (by rfl) (by kernel_rfl) ?_
  refine go_ ?_
  refine POrd_slice 0 k ?_ rfl (by decide) (by first | (simp [nev, nevA, nevB, evBuild, PF.eval, PF.get, PF.wants, cPV, cCell, PV.rows, evBin, evUn, evConv, evLen, loadA, loadB, TyK.agg, partA, St.box?, St.tok?, St.setBox, St.setTok, fillO, spl, PV.ps, PV.one, evalArgs, aggD, slD, encD_nd, encD_bd, encD_rw, encD_dc, encD_str, encD_int, *]; done) | fail) (by simp; rfl) (by rfl) (by decide) (by simp [nev, nevA, nevB, evBuild, PF.eval, PF.get, PF.wants, cPV, cCell, PV.rows, evBin, evUn, evConv, evLen, loadA, loadB, TyK.agg, partA, St.box?, St.tok?, St.setBox, St.setTok, fillO, spl, PV.ps, PV.one, evalArgs, aggD, slD, encD_nd, encD_bd, encD_rw, encD_dc, encD_str, encD_int, *]; rfl) (by simp [PV.rows]; rfl) (by first | rfl | (simp [lowOf, PF.eval, PF.get, cPV, cCell, *]; done) | fail) (by first | rfl | (simp [highOf, PF.eval, PF.get, cPV, cCell, *]; done) | fail) (by first | omega | (simp; done) | (simp; omega)) (by first | omega | (simp; done) | (simp; omega)) ?_
  rotate_left
  · exact rows15 _
  rw [HS1.out]
  refine go_ ?_
  refine POrd_slice k l.length ?_ rfl (by decide) (by first | (simp [nev, nevA, nevB, evBuild, PF.eval, PF.get, PF.wants, cPV, cCell, PV.rows, evBin, evUn, evConv, evLen, loadA, loadB, TyK.agg, partA, St.box?, St.tok?, St.setBox, St.setTok, fillO, spl, PV.ps, PV.one, evalArgs, aggD, slD, encD_nd, encD_bd, encD_rw, encD_dc, encD_str, encD_int, *]; done) | fail) (by simp; rfl) (by rfl) (by decide) (by simp [nev, nevA, nevB, evBuild, PF.eval, PF.get, PF.wants, cPV, cCell, PV.rows, evBin, evUn, evConv, evLen, loadA, loadB, TyK.agg, partA, St.box?, St.tok?, St.setBox, St.setTok, fillO, spl, PV.ps, PV.one, evalArgs, aggD, slD, encD_nd, encD_bd, encD_rw, encD_dc, encD_str, encD_int, *]; rfl) (by simp [PV.rows]; rfl) (by first | rfl | (simp [lowOf, PF.eval, PF.get, cPV, cCell, *]; done) | fail) (by first | rfl | (simp [highOf, PF.eval, PF.get, cPV, cCell, *]; done) | fail) (by first | omega | (simp; done) | (simp; omega)) (by first | omega | (simp; done) | (simp; omega)) ?_
  rotate_left
  · exact rows15 _
  rw [HS2.out]
  refine go_ ?_
  refine POrd_call_a (HAdd.out) ?_
  refine go_ ?_
  refine POps_call_b (hS.out) ?_
  refine go_ ?_
  clear HAdd hS HS1 HS2 hT hx3 hk h2b h4b hkc hk0
  refine PW_loop (ι := Nat) (fun y => y ≤ l.length) (fun y => [(0, .d (.sl (l.map encD))), (6, .d (.sl (l.map encD))), (8, .d (.v (.int .i64 (y : Int))))]) (fun _ => []) (fun y => l.length - y) 0 (Nat.zero_le _) ?_ ?_ ?_
  · repeat (first | exact sub_nil _ | refine sub_cons (by simp [PF.get]; rfl) (by first | rfl | (simp [*]; done) | fail) ?_)
  · repeat (first | exact List.Sublist.refl _ | exact List.nil_sublist _ | refine List.Sublist.cons_cons _ ?_ | refine List.Sublist.cons _ ?_)
  · rintro j hj
    by_cases hlt : j < l.length
    · have hx := get_enc hlt
      have hc : (j : Int) < l.length := by omega
      have hn : (0 : Int) ≤ j := by omega
      have hin := wr64 (n := (j : Int) + 1) (by omega) (by omega)
      have hFd := Lib.hid (sfind_p l l[j].name)
      rw [find_formed HFB.out hlt] at hFd
      unfold findP at hFd
      refine go_ ?_
      refine POps_call_a (hFd.out) ?_
      refine go_ ?_
      exact ⟨j + 1, hlt, by omega, by repeat (first | exact sub_nil _ | refine sub_cons (by simp [PF.get]; rfl) (by first | rfl | (simp [*]; done) | fail) ?_), by repeat (first | exact List.Sublist.refl _ | exact List.nil_sublist _ | refine List.Sublist.cons_cons _ ?_ | refine List.Sublist.cons _ ?_)⟩
    · have hc : ¬ (j : Int) < l.length := by omega
      refine go_ ?_
      refine POps_call_a (hA.out) ?_
      refine go_ ?_
      refine retP_ok (by simp) (by simp only [Tryz.results3]; rfl) (by simp [resP, St.box?, PF.get, loadB, TyK.agg, *]; rfl) (List.nil_sublist _) ?_
      exact ⟨rfl, rfl⟩
/-- the whole walk of SignBegins -/
theorem begins_walk (v : Value) (l : List En) (n : Int) (wn : (Lit.int .u8 n).wf = true) (w : World) (h : EnS w v l) : Calls Tryz.prog 3 #[v, .int .u8 n] w fun e w' => e = .returned (.bool true) ∧ Below w.heap.size w w' := by
  have hn : 0 ≤ n ∧ n ≤ 255 := by
    simp [Lit.wf, IntKind.min, IntKind.max, IntKind.signed, IntKind.bits] at wn
    omega
  refine PCalls.top ((begins_p l n hn.1 hn.2 h.2).mono fun p s hp => hp.1) ?_
  refine relVs_cons (.d (relS_of (fun b o v _ hv => ⟨v, hv⟩) (by decide) h.1)) (relVs_cons (.d (.v trivial)) (relVs_nil _ _))
end Go.Proofs.YtfnfbbmegdkhjaaGreat
