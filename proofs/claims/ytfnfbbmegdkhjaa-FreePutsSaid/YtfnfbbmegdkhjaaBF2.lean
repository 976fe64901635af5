import Derived.Test.YtfnfbbmegdkhjaaBF1
import Derived.Test.YtfnfbbmegdkhjaaBF
set_option linter.unusedSimpArgs false
set_option linter.unusedVariables false
namespace Go.Proofs.Ytfnfbbmegdkhjaa
open Go.RowKit
set_option maxRecDepth 100000
theorem gt_go {lf : Tm → Int → Lf} {k m : Int} {sub : List Tm} {b : Int} (h : lf (.mk k m sub) b = .go) : gtT lf (.mk k m sub) b = subsS k m (gtL lf k sub 0 b) := by rw [gtT, h]
theorem gt_up {lf : Tm → Int → Lf} {k m : Int} {sub : List Tm} {b c : Int} {a : Tm} (h : lf (.mk k m sub) b = .up a c) : gtT lf (.mk k m sub) b = (moveT a c 0, !shapedB (moveT a c 0)) := by rw [gtT, h]
set_option maxHeartbeats 16000000 in
theorem rnamed9_p (a : Tm) (n : Int) (ha : goodB a = true) (hha : chgT a ≤ 1000) : ∀ (t : Tm) (b : Int), goodB t = true → 0 ≤ b → b + chgT t ≤ 1000 → PCalls Try.prog 122 [aggD t, aggD a, .d (.v (.int .i64 n)), .d (.v (.int .i64 b))] [] fun p s => p = gotP (gtT (namedLf a n) t b).1 (gtT (namedLf a n) t b).2 ∧ s = [] := by
  refine Tm.ind ?_
  intro k m sub ih b hg hb hbh
  have IH := Lib.hid ih
  have HG := Lib.hid (good_parts hg).2
  have hsl := good_len hg
  have HH := Lib.hid (fun (s : Tm) (hs : s ∈ sub) => chg_mem (k := k) (n := m) hs)
  clear ih
  by_cases h8 : k = 8 ∧ m = n
  · have hlf : namedLf a n (.mk k m sub) b = .up a b := named_up (by exact h8)
    rw [gt_up hlf]
    obtain ⟨rfl, rfl⟩ := h8
    have hc := Lib.hid (rraised9_p a b ha hb (by omega) hha)
    simp only [aggD, gotP, encD_tm, List.map_cons, List.map_nil, Tm.kind_mk, Tm.num_mk, Tm.sub_mk] at hc ⊢
    clear hlf IH HG HH hg hbh ha hha
    generalize (!shapedB (moveT a b 0)) = q at *
    generalize moveT a b 0 = x at *
    refine PCalls.enter Try.func122 rfl Try.ntmps122 (by simp) ?_
    simp only [argsF]
    refine go_ ?_
    refine POps_box_a ?_
    intro i4 hi4
    try simp only [St.freshB_box, St.freshB_nil, St.freshB_tok, St.freshB_obj] at hi4
    refine go_ ?_
    refine POps_box_a ?_
    intro i5 hi5
    try simp only [St.freshB_box, St.freshB_nil, St.freshB_tok, St.freshB_obj] at hi5
    refine go_ ?_
    refine POps_alloc_a ?_
    intro i8 hi8
    try simp only [St.freshB_box, St.freshB_nil, St.freshB_tok, St.freshB_obj] at hi8
    refine go_ ?_
    refine POps_call_a (hc.out) ?_
    refine go_ ?_
    refine Rc ?_
    refine go_ ?_
    refine retP_ok (by simp) (by simp only [Try.results122]; rfl) (by simp [resP, St.box?, PF.get, loadB, TyK.agg, *]; rfl) (List.nil_sublist _) ?_
    exact ⟨by simp [tupP, PV.norm2, PV.norm1, PV.norm0], rfl⟩
  have hlf : namedLf a n (.mk k m sub) b = .go := named_go (by exact h8)
  rw [gt_go hlf]
  obtain ⟨R, hR⟩ : ∃ R, R = gtL (namedLf a n) k sub 0 b := ⟨_, rfl⟩
  have HR : Hid (R = [] ++ gtL (namedLf a n) k (sub.drop 0) 0 b) := hR
  rw [← hR]
  simp only [aggD, encD_tm, List.map_cons, List.map_nil, Tm.kind_mk, Tm.num_mk, Tm.sub_mk]
  clear hlf hR hg ha hha
  by_cases hk8 : k = 8
  · have hmn : (m == n) = false := by rw [beq_eq_false_iff_ne]; exact fun h => h8 ⟨hk8, h⟩
    have hk8b : (k == 8) = true := by rw [hk8]; rfl
    clear h8 hk8
    refine PCalls.enter Try.func122 rfl Try.ntmps122 (by simp) ?_
    simp only [argsF]
    refine go_ ?_
    refine POps_box_a ?_
    intro i4 hi4
    try simp only [St.freshB_box, St.freshB_nil, St.freshB_tok, St.freshB_obj] at hi4
    refine go_ ?_
    refine POps_box_a ?_
    intro i5 hi5
    try simp only [St.freshB_box, St.freshB_nil, St.freshB_tok, St.freshB_obj] at hi5
    refine go_ ?_
    refine POps_alloc_a ?_
    intro i8 hi8
    try simp only [St.freshB_box, St.freshB_nil, St.freshB_tok, St.freshB_obj] at hi8
    refine go_ ?_
    refine POps_bs0 ?_ (by decide) (by first | (simp [nev, nevA, nevB, evBuild, PF.eval, PF.get, PF.wants, cPV, cCell, PV.rows, evBin, evUn, evConv, evLen, loadA, loadB, TyK.agg, partA, St.box?, St.tok?, St.setBox, St.setTok, fillO, spl, PV.ps, PV.one, evalArgs, aggD, slD, encD_nd, encD_bd, encD_rw, encD_dc, encD_str, encD_int, *]; done) | fail) (by simp; rfl) (by rfl) (by simp; rfl) (by rfl) (by decide)
    intro g hg
    refine go_ ?_
    refine PW_loop (ι := Nat × List (Tm × Bool)) (fun y => y.1 ≤ sub.length ∧ y.2.length ≤ y.1 ∧ Hid (R = y.2 ++ gtL (namedLf a n) k (sub.drop y.1) y.1 b)) (fun y => [(2, .d (.v (.int .i64 n))), (3, .d (.v (.int .i64 b))), (4, .ptr i4 0), (5, .ptr i5 0), (8, .ptr i8 0), (9, .own g (y.2.map encD)), (10, .d (.v (.int .i64 (y.1 : Int))))]) (fun y => [.tok g 134 4 y.2.length, .box i8 134 [.d (.v (.int .i64 0)), .d (.v (.int .i64 0)), .nils, .d (.v (.bool false))], .box i5 28 [.d (.v (.int .i64 a.kind)), .d (.v (.int .i64 a.num)), .d (.sl (a.sub.map encD))], .box i4 28 [.d (.v (.int .i64 k)), .d (.v (.int .i64 m)), .d (.sl (sub.map encD))]]) (fun y => sub.length - y.1) (0, []) ⟨Nat.zero_le _, Nat.le_refl _, HR.out⟩ ?_ ?_ ?_
    · repeat (first | exact sub_nil _ | refine sub_cons (by simp [PF.get]; rfl) (by first | rfl | (simp [*]; done) | fail) ?_)
    · repeat (first | exact List.Sublist.refl _ | exact List.nil_sublist _ | refine List.Sublist.cons_cons _ ?_ | refine List.Sublist.cons _ ?_)
    rintro ⟨j, o⟩ ⟨hj, ho, hR⟩
    simp only at hj ho hR ⊢
    clear HR
    by_cases hlt : j < sub.length
    · have hx := get_enc hlt
      have hc : (j : Int) < sub.length := by omega
      have hn0 : (0 : Int) ≤ j := by omega
      have hin := wr64 (n := (j : Int) + 1) (by omega) (by omega)
      have hR2 := hR.out
      rw [gtL_step hlt] at hR2
      have hmem := List.getElem_mem hlt
      have hol : o.length ≤ 100 := by omega
      have HO := Lib.hid ho
      have hbe := ben_rng k j
      have hc0 := Lib.hid (rbeneath_p (.mk k m sub) j)
      have hc1 := IH.out _ hmem (b + benB k j) (HG.out _ hmem) (by omega) (by have := HH.out _ hmem; omega)
      have hwb := wr64 (n := b + benB k j) (by omega) (by have := HH.out _ hmem; omega)
      simp only [aggD, gotP, encD_tm, List.map_cons, List.map_nil, Tm.kind_mk, Tm.num_mk, Tm.sub_mk] at hc0 hc1
      have HC1 := Lib.hid hc1
      have hR3 : Hid (R = (o ++ [gtT (namedLf a n) sub[j] (b + benB k j)]) ++ gtL (namedLf a n) k (sub.drop (j + 1)) (j + 1) b) := by show _ = _; rw [hR2, List.append_assoc]; rfl
      clear hR hR2 hc1 hmem ho hbe
      generalize gtT (namedLf a n) sub[j] (b + benB k j) = y at *
      generalize benB k j = bj at *
      refine go_ ?_
      refine PW_drawnL (J := keepJ [(i4, _), (i5, _)]) [(0, .a), (1, .a), (2, .a), (3, .a), (4, .a), (5, .a), (6, .a), (7, .a), (8, .a), (9, .a), (10, .a), (11, .a), (12, .a), (13, .a), (14, .a), (15, .e), (16, .a)] (by kernel_rfl) (by rfl) (by kernel_rfl) (by (repeat (first | exact keepJ_nil _ | refine keepJ_cons (by simp [St.box?, *] <;> rfl) ?_))) ?_
      repeat (first | with_reducible refine PL_nil ?_ | refine PL_gn2 ?_ | refine PL_s2 ?_ | refine PL_b2 ?_)
      refine PL_call2 (hc0.out) ?_
      repeat (first | with_reducible refine PL_nil ?_ | refine PL_gn2 ?_ | refine PL_s2 ?_ | refine PL_b2 ?_)
      refine PL_call2 (HC1.out) ?_
      repeat (first | with_reducible refine PL_nil ?_ | refine PL_gn2 ?_ | refine PL_s2 ?_ | refine PL_b2 ?_)
      refine PL_bs ?_ rfl (by decide) rfl (by simp; rfl) (by rfl) (by simp; rfl) (by rfl) (by decide) (by decide) (by simp [nev, nevA, nevB, evBuild, PF.eval, PF.get, PF.wants, cPV, cCell, PV.rows, evBin, evUn, evConv, evLen, loadA, loadB, TyK.agg, partA, St.box?, St.tok?, St.setBox, St.setTok, fillO, spl, PV.ps, PV.one, evalArgs, aggD, slD, encD_nd, encD_bd, encD_rw, encD_dc, encD_str, encD_int, *]; rfl) (by simp [rowsOf, toDs, PV.toD]; rfl)
      refine PL_app (o.length + 1) ?_ ?_ ?_ ?_ ?_
      rotate_left
      · exact rows_of (α := Tm × Bool) rfl
      · exact rows_one rfl
      · simp
      · exact .inr (by (repeat (first | exact keepJ_nil _ | refine keepJ_cons (by simp [St.box?, *] <;> rfl) ?_)))
      repeat (first | with_reducible refine PL_nil ?_ | refine PL_gn2 ?_ | refine PL_s2 ?_ | refine PL_b2 ?_)
      refine go_ ?_
      refine ⟨(j + 1, o ++ [y]), ⟨hlt, by have := HO.out; simp only [List.length_append, List.length_singleton]; omega, hR3⟩, by simp only; omega, ?_, ?_⟩
      · repeat (first | exact sub_nil _ | refine sub_cons (by simp [PF.get]; rfl) (by first | rfl | (simp [(encD_gt y)]; done) | fail) ?_)
      · simp only [List.length_append, List.length_singleton]
        repeat (first | exact List.Sublist.refl _ | exact List.nil_sublist _ | refine List.Sublist.cons_cons _ ?_ | refine List.Sublist.cons _ ?_)
    · have hc : ¬ (j : Int) < sub.length := by omega
      have hf : R = o := by rw [show R = _ from hR.out, List.drop_of_length_le (by omega)]; simp only [gtL, List.append_nil]
      have hS := Lib.hid (rsubs9_p (.mk k m sub) o (by omega))
      rw [hf]
      simp only [aggD, gotP, encD_tm, List.map_cons, List.map_nil, Tm.kind_mk, Tm.num_mk, Tm.sub_mk] at hS ⊢
      clear hR hf ho
      generalize subsS k m o = r at *
      refine go_ ?_
      refine POps_call_a (hS.out) ?_
      refine go_ ?_
      refine Rc ?_
      refine go_ ?_
      refine retP_ok (by simp) (by simp only [Try.results122]; rfl) (by simp [resP, St.box?, PF.get, loadB, TyK.agg, *]; rfl) (List.nil_sublist _) ?_
      exact ⟨by simp [tupP, PV.norm2, PV.norm1, PV.norm0], rfl⟩
  · have hk8b : (k == 8) = false := by rw [beq_eq_false_iff_ne]; exact hk8
    clear h8 hk8
    refine PCalls.enter Try.func122 rfl Try.ntmps122 (by simp) ?_
    simp only [argsF]
    refine go_ ?_
    refine POps_box_a ?_
    intro i4 hi4
    try simp only [St.freshB_box, St.freshB_nil, St.freshB_tok, St.freshB_obj] at hi4
    refine go_ ?_
    refine POps_box_a ?_
    intro i5 hi5
    try simp only [St.freshB_box, St.freshB_nil, St.freshB_tok, St.freshB_obj] at hi5
    refine go_ ?_
    refine POps_alloc_a ?_
    intro i8 hi8
    try simp only [St.freshB_box, St.freshB_nil, St.freshB_tok, St.freshB_obj] at hi8
    refine go_ ?_
    refine POps_bs0 ?_ (by decide) (by first | (simp [nev, nevA, nevB, evBuild, PF.eval, PF.get, PF.wants, cPV, cCell, PV.rows, evBin, evUn, evConv, evLen, loadA, loadB, TyK.agg, partA, St.box?, St.tok?, St.setBox, St.setTok, fillO, spl, PV.ps, PV.one, evalArgs, aggD, slD, encD_nd, encD_bd, encD_rw, encD_dc, encD_str, encD_int, *]; done) | fail) (by simp; rfl) (by rfl) (by simp; rfl) (by rfl) (by decide)
    intro g hg
    refine go_ ?_
    refine PW_loop (ι := Nat × List (Tm × Bool)) (fun y => y.1 ≤ sub.length ∧ y.2.length ≤ y.1 ∧ Hid (R = y.2 ++ gtL (namedLf a n) k (sub.drop y.1) y.1 b)) (fun y => [(2, .d (.v (.int .i64 n))), (3, .d (.v (.int .i64 b))), (4, .ptr i4 0), (5, .ptr i5 0), (8, .ptr i8 0), (9, .own g (y.2.map encD)), (10, .d (.v (.int .i64 (y.1 : Int))))]) (fun y => [.tok g 134 4 y.2.length, .box i8 134 [.d (.v (.int .i64 0)), .d (.v (.int .i64 0)), .nils, .d (.v (.bool false))], .box i5 28 [.d (.v (.int .i64 a.kind)), .d (.v (.int .i64 a.num)), .d (.sl (a.sub.map encD))], .box i4 28 [.d (.v (.int .i64 k)), .d (.v (.int .i64 m)), .d (.sl (sub.map encD))]]) (fun y => sub.length - y.1) (0, []) ⟨Nat.zero_le _, Nat.le_refl _, HR.out⟩ ?_ ?_ ?_
    · repeat (first | exact sub_nil _ | refine sub_cons (by simp [PF.get]; rfl) (by first | rfl | (simp [*]; done) | fail) ?_)
    · repeat (first | exact List.Sublist.refl _ | exact List.nil_sublist _ | refine List.Sublist.cons_cons _ ?_ | refine List.Sublist.cons _ ?_)
    rintro ⟨j, o⟩ ⟨hj, ho, hR⟩
    simp only at hj ho hR ⊢
    clear HR
    by_cases hlt : j < sub.length
    · have hx := get_enc hlt
      have hc : (j : Int) < sub.length := by omega
      have hn0 : (0 : Int) ≤ j := by omega
      have hin := wr64 (n := (j : Int) + 1) (by omega) (by omega)
      have hR2 := hR.out
      rw [gtL_step hlt] at hR2
      have hmem := List.getElem_mem hlt
      have hol : o.length ≤ 100 := by omega
      have HO := Lib.hid ho
      have hbe := ben_rng k j
      have hc0 := Lib.hid (rbeneath_p (.mk k m sub) j)
      have hc1 := IH.out _ hmem (b + benB k j) (HG.out _ hmem) (by omega) (by have := HH.out _ hmem; omega)
      have hwb := wr64 (n := b + benB k j) (by omega) (by have := HH.out _ hmem; omega)
      simp only [aggD, gotP, encD_tm, List.map_cons, List.map_nil, Tm.kind_mk, Tm.num_mk, Tm.sub_mk] at hc0 hc1
      have HC1 := Lib.hid hc1
      have hR3 : Hid (R = (o ++ [gtT (namedLf a n) sub[j] (b + benB k j)]) ++ gtL (namedLf a n) k (sub.drop (j + 1)) (j + 1) b) := by show _ = _; rw [hR2, List.append_assoc]; rfl
      clear hR hR2 hc1 hmem ho hbe
      generalize gtT (namedLf a n) sub[j] (b + benB k j) = y at *
      generalize benB k j = bj at *
      refine go_ ?_
      refine PW_drawnL (J := keepJ [(i4, _), (i5, _)]) [(0, .a), (1, .a), (2, .a), (3, .a), (4, .a), (5, .a), (6, .a), (7, .a), (8, .a), (9, .a), (10, .a), (11, .a), (12, .a), (13, .a), (14, .a), (15, .e), (16, .a)] (by kernel_rfl) (by rfl) (by kernel_rfl) (by (repeat (first | exact keepJ_nil _ | refine keepJ_cons (by simp [St.box?, *] <;> rfl) ?_))) ?_
      repeat (first | with_reducible refine PL_nil ?_ | refine PL_gn2 ?_ | refine PL_s2 ?_ | refine PL_b2 ?_)
      refine PL_call2 (hc0.out) ?_
      repeat (first | with_reducible refine PL_nil ?_ | refine PL_gn2 ?_ | refine PL_s2 ?_ | refine PL_b2 ?_)
      refine PL_call2 (HC1.out) ?_
      repeat (first | with_reducible refine PL_nil ?_ | refine PL_gn2 ?_ | refine PL_s2 ?_ | refine PL_b2 ?_)
      refine PL_bs ?_ rfl (by decide) rfl (by simp; rfl) (by rfl) (by simp; rfl) (by rfl) (by decide) (by decide) (by simp [nev, nevA, nevB, evBuild, PF.eval, PF.get, PF.wants, cPV, cCell, PV.rows, evBin, evUn, evConv, evLen, loadA, loadB, TyK.agg, partA, St.box?, St.tok?, St.setBox, St.setTok, fillO, spl, PV.ps, PV.one, evalArgs, aggD, slD, encD_nd, encD_bd, encD_rw, encD_dc, encD_str, encD_int, *]; rfl) (by simp [rowsOf, toDs, PV.toD]; rfl)
      refine PL_app (o.length + 1) ?_ ?_ ?_ ?_ ?_
      rotate_left
      · exact rows_of (α := Tm × Bool) rfl
      · exact rows_one rfl
      · simp
      · exact .inr (by (repeat (first | exact keepJ_nil _ | refine keepJ_cons (by simp [St.box?, *] <;> rfl) ?_)))
      repeat (first | with_reducible refine PL_nil ?_ | refine PL_gn2 ?_ | refine PL_s2 ?_ | refine PL_b2 ?_)
      refine go_ ?_
      refine ⟨(j + 1, o ++ [y]), ⟨hlt, by have := HO.out; simp only [List.length_append, List.length_singleton]; omega, hR3⟩, by simp only; omega, ?_, ?_⟩
      · repeat (first | exact sub_nil _ | refine sub_cons (by simp [PF.get]; rfl) (by first | rfl | (simp [(encD_gt y)]; done) | fail) ?_)
      · simp only [List.length_append, List.length_singleton]
        repeat (first | exact List.Sublist.refl _ | exact List.nil_sublist _ | refine List.Sublist.cons_cons _ ?_ | refine List.Sublist.cons _ ?_)
    · have hc : ¬ (j : Int) < sub.length := by omega
      have hf : R = o := by rw [show R = _ from hR.out, List.drop_of_length_le (by omega)]; simp only [gtL, List.append_nil]
      have hS := Lib.hid (rsubs9_p (.mk k m sub) o (by omega))
      rw [hf]
      simp only [aggD, gotP, encD_tm, List.map_cons, List.map_nil, Tm.kind_mk, Tm.num_mk, Tm.sub_mk] at hS ⊢
      clear hR hf ho
      generalize subsS k m o = r at *
      refine go_ ?_
      refine POps_call_a (hS.out) ?_
      refine go_ ?_
      refine Rc ?_
      refine go_ ?_
      refine retP_ok (by simp) (by simp only [Try.results122]; rfl) (by simp [resP, St.box?, PF.get, loadB, TyK.agg, *]; rfl) (List.nil_sublist _) ?_
      exact ⟨by simp [tupP, PV.norm2, PV.norm1, PV.norm0], rfl⟩
set_option maxHeartbeats 16000000 in
theorem rnamedR_p (t a : Tm) (n : Int) : PCalls Try.prog 84 [aggD t, aggD a, .d (.v (.int .i64 n))] [] fun p s => p = trP (namedR t a n) ∧ s = [] := by
  have hS := Lib.hid (rshaped_p t)
  have hS2 := Lib.hid (rshaped_p a)
  have hF := Lib.hid (rfits08_p n)
  have HR := Lib.hid (show namedR t a n = if (shapedB t && shapedB a && fitsB n) = true then doneS (subT (namedLf a n) t 0) else (.mk 0 0 [], 5) from rfl)
  cases h1 : shapedB t with
  | false =>
    rw [h1] at hS
    rw [HR.out, h1]
    simp only [Bool.true_and, Bool.false_and, Bool.and_false, Bool.and_self, Bool.false_eq_true, if_false, trP, aggD, encD_tm, List.map_cons, List.map_nil, Tm.kind_mk, Tm.num_mk, Tm.sub_mk] at hS hS2 ⊢
    clear HR h1
    refine PCalls.enter Try.func84 rfl Try.ntmps84 (by simp) ?_
    simp only [argsF]
    refine go_ ?_
    refine POps_box_a ?_
    intro i3 hi3
    try simp only [St.freshB_box, St.freshB_nil, St.freshB_tok, St.freshB_obj] at hi3
    refine go_ ?_
    refine POps_box_a ?_
    intro i4 hi4
    try simp only [St.freshB_box, St.freshB_nil, St.freshB_tok, St.freshB_obj] at hi4
    refine go_ ?_
    refine POps_alloc_a ?_
    intro i6 hi6
    try simp only [St.freshB_box, St.freshB_nil, St.freshB_tok, St.freshB_obj] at hi6
    refine go_ ?_
    refine POps_call_a (hS.out) ?_
    refine go_ ?_
    refine Rc ?_
    refine go_ ?_
    refine retP_ok (by simp) (by simp only [Try.results84]; rfl) (by simp [resP, St.box?, PF.get, loadB, TyK.agg, *]; rfl) (List.nil_sublist _) ?_
    exact ⟨by simp [tupP, PV.norm2, PV.norm1, PV.norm0], rfl⟩
  | true =>
  rw [h1] at hS
  cases h2 : shapedB a with
  | false =>
    rw [h2] at hS2
    rw [HR.out, h1, h2]
    simp only [Bool.true_and, Bool.false_and, Bool.and_false, Bool.and_self, Bool.false_eq_true, if_false, trP, aggD, encD_tm, List.map_cons, List.map_nil, Tm.kind_mk, Tm.num_mk, Tm.sub_mk] at hS hS2 ⊢
    clear HR h1 h2
    refine PCalls.enter Try.func84 rfl Try.ntmps84 (by simp) ?_
    simp only [argsF]
    refine go_ ?_
    refine POps_box_a ?_
    intro i3 hi3
    try simp only [St.freshB_box, St.freshB_nil, St.freshB_tok, St.freshB_obj] at hi3
    refine go_ ?_
    refine POps_box_a ?_
    intro i4 hi4
    try simp only [St.freshB_box, St.freshB_nil, St.freshB_tok, St.freshB_obj] at hi4
    refine go_ ?_
    refine POps_alloc_a ?_
    intro i6 hi6
    try simp only [St.freshB_box, St.freshB_nil, St.freshB_tok, St.freshB_obj] at hi6
    refine go_ ?_
    refine POps_call_a (hS.out) ?_
    refine go_ ?_
    refine POps_call_b (hS2.out) ?_
    refine go_ ?_
    refine Rc ?_
    refine go_ ?_
    refine retP_ok (by simp) (by simp only [Try.results84]; rfl) (by simp [resP, St.box?, PF.get, loadB, TyK.agg, *]; rfl) (List.nil_sublist _) ?_
    exact ⟨by simp [tupP, PV.norm2, PV.norm1, PV.norm0], rfl⟩
  | true =>
  rw [h2] at hS2
  cases h3 : fitsB n with
  | false =>
    rw [h3] at hF
    rw [HR.out, h1, h2, h3]
    simp only [Bool.true_and, Bool.false_and, Bool.and_false, Bool.and_self, Bool.false_eq_true, if_false, trP, aggD, encD_tm, List.map_cons, List.map_nil, Tm.kind_mk, Tm.num_mk, Tm.sub_mk] at hS hS2 ⊢
    clear HR h1 h2 h3
    refine PCalls.enter Try.func84 rfl Try.ntmps84 (by simp) ?_
    simp only [argsF]
    refine go_ ?_
    refine POps_box_a ?_
    intro i3 hi3
    try simp only [St.freshB_box, St.freshB_nil, St.freshB_tok, St.freshB_obj] at hi3
    refine go_ ?_
    refine POps_box_a ?_
    intro i4 hi4
    try simp only [St.freshB_box, St.freshB_nil, St.freshB_tok, St.freshB_obj] at hi4
    refine go_ ?_
    refine POps_alloc_a ?_
    intro i6 hi6
    try simp only [St.freshB_box, St.freshB_nil, St.freshB_tok, St.freshB_obj] at hi6
    refine go_ ?_
    refine POps_call_a (hS.out) ?_
    refine go_ ?_
    refine POps_call_b (hS2.out) ?_
    refine go_ ?_
    refine POps_call_b (hF.out) ?_
    refine go_ ?_
    refine Rc ?_
    refine go_ ?_
    refine retP_ok (by simp) (by simp only [Try.results84]; rfl) (by simp [resP, St.box?, PF.get, loadB, TyK.agg, *]; rfl) (List.nil_sublist _) ?_
    exact ⟨by simp [tupP, PV.norm2, PV.norm1, PV.norm0], rfl⟩
  | true =>
  rw [h3] at hF
  rw [HR.out, h1, h2, h3]
  simp only [Bool.and_self, if_true]
  have hB := Lib.hid (rnamed9_p a n (shaped_hg h2).1 (by have := (shaped_hg h2).2.1; omega) t 0 (shaped_hg h1).1 (by decide) (by have := (shaped_hg h1).2.1; omega))
  have hD := Lib.hid (rdone9_p (gtT (namedLf a n) t 0).1 (gtT (namedLf a n) t 0).2)
  rw [show gotR (gtT (namedLf a n) t 0).1 (gtT (namedLf a n) t 0).2 = doneS (subT (namedLf a n) t 0) from gt_done t] at hD
  clear HR h1 h2 h3
  generalize doneS (subT (namedLf a n) t 0) = r at *
  generalize gtT (namedLf a n) t 0 = x at *
  simp only [gotP, trP, aggD, encD_tm, List.map_cons, List.map_nil] at hS hS2 hB hD ⊢
  refine PCalls.enter Try.func84 rfl Try.ntmps84 (by simp) ?_
  simp only [argsF]
  refine go_ ?_
  refine POps_box_a ?_
  intro i3 hi3
  try simp only [St.freshB_box, St.freshB_nil, St.freshB_tok, St.freshB_obj] at hi3
  refine go_ ?_
  refine POps_box_a ?_
  intro i4 hi4
  try simp only [St.freshB_box, St.freshB_nil, St.freshB_tok, St.freshB_obj] at hi4
  refine go_ ?_
  refine POps_alloc_a ?_
  intro i6 hi6
  try simp only [St.freshB_box, St.freshB_nil, St.freshB_tok, St.freshB_obj] at hi6
  refine go_ ?_
  refine POps_call_a (hS.out) ?_
  refine go_ ?_
  refine POps_call_b (hS2.out) ?_
  refine go_ ?_
  refine POps_call_b (hF.out) ?_
  refine go_ ?_
  refine POps_call_a (hB.out) ?_
  refine go_ ?_
  refine POps_call_a (hD.out) ?_
  refine go_ ?_
  refine Rc ?_
  refine go_ ?_
  refine retP_ok (by simp) (by simp only [Try.results84]; rfl) (by simp [resP, St.box?, PF.get, loadB, TyK.agg, *]; rfl) (List.nil_sublist _) ?_
  exact ⟨by simp [tupP, PV.norm2, PV.norm1, PV.norm0], rfl⟩
end Go.Proofs.Ytfnfbbmegdkhjaa

namespace Go.Proofs.Ytfnfbbmegdkhjaa
open Go.RowKit
set_option maxRecDepth 100000
/-- the variables, with a term put in, in order -/
def putF (n : Int) (t : Tm) : List Va → List Va → List Va × Int
  | o, [] => orderR o
  | o, v :: r => if v.n = n then putF n t o r else if (namedR v.ty t n).2 = 0 then putF n t (o ++ [⟨v.n, (namedR v.ty t n).1⟩]) r else ([], (namedR v.ty t n).2)
def putR (c : List Va) (n : Int) (t : Tm) : List Va × Int :=
  if (rightV c && shapedB t && decide (lsT t 0 ≤ 0)) = false then ([], 5) else if decide (n ∈ c.map Va.n) = false then ([], 16) else if sdT t n = true then ([], 3) else putF n t [] c
theorem put_bad {c : List Va} {n : Int} {t : Tm} (h : (rightV c && shapedB t && decide (lsT t 0 ≤ 0)) = false) : putR c n t = ([], 5) := by unfold putR; rw [if_pos h]
theorem put_good {c : List Va} {n : Int} {t : Tm} (h1 : rightV c = true) (h2 : shapedB t = true) (h3 : lsT t 0 ≤ 0) : putR c n t = if decide (n ∈ c.map Va.n) = false then ([], 16) else if sdT t n = true then ([], 3) else putF n t [] c := by
  unfold putR; rw [h1, h2, decide_eq_true h3]; rfl
set_option maxHeartbeats 16000000 in
theorem fput_p (c : List Va) (hl : c.length ≤ 100000) (n : Int) (t : Tm) : PCalls Try.prog 40 [.d (.sl (c.map encD)), .d (.v (.int .i64 n)), aggD t] [] fun p s => p = ordP (putR c n t) ∧ s = [] := by
  have hR := Lib.hid (fright_p c hl)
  have hS := Lib.hid (tshaped_p t)
  cases h1 : rightV c with
  | false =>
    rw [h1] at hR
    have HR := Lib.hid (put_bad (c := c) (n := n) (t := t) (by rw [h1]; rfl))
    rw [HR.out]
    simp only [aggD, encD_tm, List.map_cons, List.map_nil] at hS ⊢
    clear HR h1
    refine PCalls.enter Try.func40 rfl Try.ntmps40 (by simp) ?_
    simp only [argsF]
    refine go_ ?_
    refine POps_box_a ?_
    intro i5 hi5
    try simp only [St.freshB_box, St.freshB_nil, St.freshB_tok, St.freshB_obj] at hi5
    refine go_ ?_
    refine POps_call_a (hR.out) ?_
    refine go_ ?_
    refine retP_ok (by simp) (by simp only [Try.results40]; rfl) (by simp [resP, St.box?, PF.get, loadB, TyK.agg, *]; rfl) (List.nil_sublist _) ?_
    exact ⟨rfl, rfl⟩
  | true =>
  rw [h1] at hR
  cases h2 : shapedB t with
  | false =>
    rw [h2] at hS
    have HR := Lib.hid (put_bad (c := c) (n := n) (t := t) (by rw [h1, h2]; rfl))
    rw [HR.out]
    simp only [aggD, encD_tm, List.map_cons, List.map_nil] at hS ⊢
    clear HR h1 h2
    refine PCalls.enter Try.func40 rfl Try.ntmps40 (by simp) ?_
    simp only [argsF]
    refine go_ ?_
    refine POps_box_a ?_
    intro i5 hi5
    try simp only [St.freshB_box, St.freshB_nil, St.freshB_tok, St.freshB_obj] at hi5
    refine go_ ?_
    refine POps_call_a (hR.out) ?_
    refine go_ ?_
    refine POps_call_b (hS.out) ?_
    refine go_ ?_
    refine retP_ok (by simp) (by simp only [Try.results40]; rfl) (by simp [resP, St.box?, PF.get, loadB, TyK.agg, *]; rfl) (List.nil_sublist _) ?_
    exact ⟨rfl, rfl⟩
  | true =>
  rw [h2] at hS
  have hL := Lib.hid (tLoose_p t)
  rw [show looseT t = lsT t 0 from by unfold looseT; rw [if_pos h2]] at hL
  by_cases h3 : lsT t 0 ≤ 0
  rotate_left
  · have HR := Lib.hid (put_bad (c := c) (n := n) (t := t) (by rw [h1, h2, decide_eq_false h3]; rfl))
    rw [HR.out]
    have hz : 0 < lsT t 0 := by omega
    generalize lsT t 0 = L at *
    simp only [aggD, encD_tm, List.map_cons, List.map_nil] at hS hL ⊢
    clear HR h1 h2 h3
    refine PCalls.enter Try.func40 rfl Try.ntmps40 (by simp) ?_
    simp only [argsF]
    refine go_ ?_
    refine POps_box_a ?_
    intro i5 hi5
    try simp only [St.freshB_box, St.freshB_nil, St.freshB_tok, St.freshB_obj] at hi5
    refine go_ ?_
    refine POps_call_a (hR.out) ?_
    refine go_ ?_
    refine POps_call_b (hS.out) ?_
    refine go_ ?_
    refine POps_call_b (hL.out) ?_
    refine go_ ?_
    refine retP_ok (by simp) (by simp only [Try.results40]; rfl) (by simp [resP, St.box?, PF.get, loadB, TyK.agg, *]; rfl) (List.nil_sublist _) ?_
    exact ⟨rfl, rfl⟩
  have HR := Lib.hid (put_good (n := n) h1 h2 h3)
  have hz : ¬ 0 < lsT t 0 := by omega
  have hN := Lib.hid (fnumbers_p c hl)
  have hC := Lib.hid (scontains_p (c.map Va.n) n)
  have hT := Lib.hid (tfrees_p t)
  have hC2 := Lib.hid (scontains_p (enT 8 8 t) n)
  rw [show decide (n ∈ enT 8 8 t) = sdT t n from by rw [Bool.eq_iff_iff, decide_eq_true_eq]; exact frees_sd h2 n] at hC2
  clear h1 h2 h3
  generalize lsT t 0 = L at *
  generalize (c.map Va.n).map encD = U at *
  generalize (enT 8 8 t).map encD = E at *
  cases h4 : decide (n ∈ c.map Va.n) with
  | false =>
    rw [h4] at hC HR
    rw [HR.out]
    simp only [aggD, encD_tm, List.map_cons, List.map_nil] at hS hL hT ⊢
    clear HR h4
    refine PCalls.enter Try.func40 rfl Try.ntmps40 (by simp) ?_
    simp only [argsF]
    refine go_ ?_
    refine POps_box_a ?_
    intro i5 hi5
    try simp only [St.freshB_box, St.freshB_nil, St.freshB_tok, St.freshB_obj] at hi5
    refine go_ ?_
    refine POps_call_a (hR.out) ?_
    refine go_ ?_
    refine POps_call_b (hS.out) ?_
    refine go_ ?_
    refine POps_call_b (hL.out) ?_
    refine go_ ?_
    refine POps_call_a (hN.out) ?_
    refine go_ ?_
    refine POps_call_a (hC.out) ?_
    refine go_ ?_
    refine retP_ok (by simp) (by simp only [Try.results40]; rfl) (by simp [resP, St.box?, PF.get, loadB, TyK.agg, *]; rfl) (List.nil_sublist _) ?_
    exact ⟨rfl, rfl⟩
  | true =>
  rw [h4] at hC HR
  clear h4
  simp only [Bool.true_eq_false, if_false] at HR
  cases h5 : sdT t n with
  | true =>
    rw [h5] at hC2 HR
    rw [HR.out]
    simp only [if_true]
    simp only [aggD, encD_tm, List.map_cons, List.map_nil] at hS hL hT ⊢
    clear HR h5
    refine PCalls.enter Try.func40 rfl Try.ntmps40 (by simp) ?_
    simp only [argsF]
    refine go_ ?_
    refine POps_box_a ?_
    intro i5 hi5
    try simp only [St.freshB_box, St.freshB_nil, St.freshB_tok, St.freshB_obj] at hi5
    refine go_ ?_
    refine POps_call_a (hR.out) ?_
    refine go_ ?_
    refine POps_call_b (hS.out) ?_
    refine go_ ?_
    refine POps_call_b (hL.out) ?_
    refine go_ ?_
    refine POps_call_a (hN.out) ?_
    refine go_ ?_
    refine POps_call_a (hC.out) ?_
    refine go_ ?_
    refine POps_call_a (hT.out) ?_
    refine go_ ?_
    refine POps_call_a (hC2.out) ?_
    refine go_ ?_
    refine retP_ok (by simp) (by simp only [Try.results40]; rfl) (by simp [resP, St.box?, PF.get, loadB, TyK.agg, *]; rfl) (List.nil_sublist _) ?_
    exact ⟨rfl, rfl⟩
  | false =>
  rw [h5] at hC2 HR
  simp only [Bool.false_eq_true, if_false] at HR
  clear h5
  obtain ⟨R, hRd⟩ : ∃ R, R = putR c n t := ⟨_, rfl⟩
  rw [← hRd] at HR ⊢
  have HRR : Hid (R = putF n t [] (c.drop 0)) := HR.out
  clear HR hRd
  simp only [aggD, encD_tm, List.map_cons, List.map_nil] at hS hL hT ⊢
  refine PCalls.enter Try.func40 rfl Try.ntmps40 (by simp) ?_
  simp only [argsF]
  refine go_ ?_
  refine POps_box_a ?_
  intro i5 hi5
  try simp only [St.freshB_box, St.freshB_nil, St.freshB_tok, St.freshB_obj] at hi5
  refine go_ ?_
  refine POps_call_a (hR.out) ?_
  refine go_ ?_
  refine POps_call_b (hS.out) ?_
  refine go_ ?_
  refine POps_call_b (hL.out) ?_
  refine go_ ?_
  refine POps_call_a (hN.out) ?_
  refine go_ ?_
  refine POps_call_a (hC.out) ?_
  refine go_ ?_
  refine POps_call_a (hT.out) ?_
  refine go_ ?_
  refine POps_call_a (hC2.out) ?_
  refine go_ ?_
  refine PW_own 8 44 4 (by decide) (by simp [PF.get] <;> rfl) fun g hg => ?_
  refine go_ ?_
  refine PW_loop (ι := Nat × List Va) (fun y => y.1 ≤ c.length ∧ y.2.length ≤ y.1 ∧ Hid (R = putF n t y.2 (c.drop y.1))) (fun y => [(0, .d (.sl (c.map encD))), (1, .d (.v (.int .i64 n))), (5, .ptr i5 0), (8, .own g (y.2.map encD)), (35, .d (.sl (c.map encD))), (36, .d (.v (.int .i64 c.length))), (37, .d (.v (.int .i64 (y.1 : Int))))]) (fun y => [.tok g 44 4 y.2.length, .box i5 28 [.d (.v (.int .i64 t.kind)), .d (.v (.int .i64 t.num)), .d (.sl (t.sub.map encD))]]) (fun y => c.length - y.1) (0, []) ⟨Nat.zero_le _, Nat.le_refl _, HRR.out⟩ ?_ ?_ ?_
  · repeat (first | exact sub_nil _ | refine sub_cons (by simp [PF.get]; rfl) (by first | rfl | (simp [*]; done) | fail) ?_)
  · repeat (first | exact List.Sublist.refl _ | exact List.nil_sublist _ | refine List.Sublist.cons_cons _ ?_ | refine List.Sublist.cons _ ?_)
  rintro ⟨j, o⟩ ⟨hj, ho, hR2⟩
  simp only at hj ho hR2 ⊢
  clear HRR
  by_cases hlt : j < c.length
  · have hx := get_enc hlt
    have hc : (j : Int) < c.length := by omega
    have hn0 : (0 : Int) ≤ j := by omega
    have hin := wr64 (n := (j : Int) + 1) (by omega) (by omega)
    have hR3 := hR2.out
    rw [List.drop_eq_getElem_cons hlt, putF] at hR3
    have hol : o.length ≤ 100000 := by omega
    have HO := Lib.hid ho
    clear hR2 ho
    by_cases hv : c[j].n = n
    · rw [if_pos hv] at hR3
      have hvb : (c[j].n == n) = true := by rw [beq_iff_eq]; exact hv
      have HR3 := Lib.hid hR3
      clear hR3 hv
      refine go_ ?_
      refine POps_alloc_a ?_
      intro i10 hi10
      try simp only [St.freshB_box, St.freshB_nil, St.freshB_tok, St.freshB_obj] at hi10
      refine go_ ?_
      refine Rc ?_
      refine go_ ?_
      exact ⟨(j + 1, o), ⟨hlt, by have := HO.out; simp only; omega, HR3⟩, by simp only; omega, by repeat (first | exact sub_nil _ | refine sub_cons (by simp [PF.get]; rfl) (by first | rfl | (simp [*]; done) | fail) ?_), by repeat (first | exact List.Sublist.refl _ | exact List.nil_sublist _ | refine List.Sublist.cons_cons _ ?_ | refine List.Sublist.cons _ ?_)⟩
    · rw [if_neg hv] at hR3
      have hvb : (c[j].n == n) = false := by rw [beq_eq_false_iff_ne]; exact hv
      have hNm := Lib.hid (snamed_p c[j].ty t n)
      obtain ⟨x, hxd⟩ : ∃ x, x = namedR c[j].ty t n := ⟨_, rfl⟩
      rw [← hxd] at hNm hR3
      have HR3 := Lib.hid hR3
      clear hR3 hv hxd
      obtain ⟨x, e⟩ := x
      simp only [trP, aggD, encD_tm, List.map_cons, List.map_nil] at hNm HR3
      by_cases he : e = 0
      · subst he
        simp only [if_true] at HR3
        refine go_ ?_
        refine POps_alloc_a ?_
        intro i10 hi10
        try simp only [St.freshB_box, St.freshB_nil, St.freshB_tok, St.freshB_obj] at hi10
        refine go_ ?_
        refine Rc ?_
        refine go_ ?_
        refine POps_call_a (hNm.out) ?_
        refine go_ ?_
        refine POps_alloc_a ?_
        intro i11 hi11
        try simp only [St.freshB_box, St.freshB_nil, St.freshB_tok, St.freshB_obj] at hi11
        refine go_ ?_
        refine Rc ?_
        refine go_ ?_
        refine POps_bs_a ?_
        refine go_ ?_
        refine POps_app_a (o.length + 1) ?_ ?_ ?_ ?_
        · simp
        · exact rows_of (α := Va) rfl
        · exact rows_one rfl
        refine go_ ?_
        refine ⟨(j + 1, o ++ [⟨c[j].n, x⟩]), ⟨hlt, by have := HO.out; simp only [List.length_append, List.length_singleton]; omega, HR3⟩, by simp only; omega, ?_, ?_⟩
        · repeat (first | exact sub_nil _ | refine sub_cons (by simp [PF.get]; rfl) (by first | rfl | (simp [encD_va]; done) | fail) ?_)
        · simp only [List.length_append, List.length_singleton]
          repeat (first | exact List.Sublist.refl _ | exact List.nil_sublist _ | refine List.Sublist.cons_cons _ ?_ | refine List.Sublist.cons _ ?_)
      · have hR4 : R = ([], e) := by rw [show R = _ from HR3.out, if_neg he]
        have heb : (e != 0) = true := by rw [bne_iff_ne]; exact he
        rw [hR4]
        clear HR3 hR4
        refine go_ ?_
        refine POps_alloc_a ?_
        intro i10 hi10
        try simp only [St.freshB_box, St.freshB_nil, St.freshB_tok, St.freshB_obj] at hi10
        refine go_ ?_
        refine Rc ?_
        refine go_ ?_
        refine POps_call_a (hNm.out) ?_
        refine go_ ?_
        refine POps_alloc_a ?_
        intro i11 hi11
        try simp only [St.freshB_box, St.freshB_nil, St.freshB_tok, St.freshB_obj] at hi11
        refine go_ ?_
        refine Rc ?_
        refine go_ ?_
        refine retP_ok (by simp) (by simp only [Try.results40]; rfl) (by simp [resP, St.box?, PF.get, loadB, TyK.agg, *]; rfl) (List.nil_sublist _) ?_
        exact ⟨rfl, rfl⟩
  · have hc : ¬ (j : Int) < c.length := by omega
    have hR3 : R = orderR o := by rw [show R = _ from hR2.out, List.drop_of_length_le (by omega)]; rfl
    have hOr := Lib.hid (forder_p o (by omega))
    rw [hR3]
    clear hR2 hR3 ho
    generalize orderR o = r at *
    simp only [ordP] at hOr ⊢
    refine go_ ?_
    refine POps_call_a (hOr.out) ?_
    refine go_ ?_
    refine retP_ok (by simp) (by simp only [Try.results40]; rfl) (by simp [resP, St.box?, PF.get, loadB, TyK.agg, *]; rfl) (List.nil_sublist _) ?_
    exact ⟨by simp [tupP, PV.norm2, PV.norm1, PV.norm0], rfl⟩
end Go.Proofs.Ytfnfbbmegdkhjaa

namespace Go.Proofs.Ytfnfbbmegdkhjaa
open Go.RowKit
set_option maxRecDepth 100000
set_option maxHeartbeats 16000000 in
theorem rput22_p (c : List Va) (hl : c.length ≤ 100000) (n : Int) (t : Tm) : PCalls Try.prog 41 [.d (.sl (c.map encD)), .d (.v (.int .i64 n)), aggD t] [] fun p s => p = ordP (putR c n t) ∧ s = [] := by
  have hR := Lib.hid (rright22_p c)
  have hS := Lib.hid (rshaped_p t)
  cases h1 : rightV c with
  | false =>
    rw [h1] at hR
    have HR := Lib.hid (put_bad (c := c) (n := n) (t := t) (by rw [h1]; rfl))
    rw [HR.out]
    simp only [aggD, encD_tm, List.map_cons, List.map_nil] at hS ⊢
    clear HR h1
    refine PCalls.enter Try.func41 rfl Try.ntmps41 (by simp) ?_
    simp only [argsF]
    refine go_ ?_
    refine POps_box_a ?_
    intro i5 hi5
    try simp only [St.freshB_box, St.freshB_nil, St.freshB_tok, St.freshB_obj] at hi5
    refine go_ ?_
    refine POps_call_a (hR.out) ?_
    refine go_ ?_
    refine retP_ok (by simp) (by simp only [Try.results41]; rfl) (by simp [resP, St.box?, PF.get, loadB, TyK.agg, *]; rfl) (List.nil_sublist _) ?_
    exact ⟨rfl, rfl⟩
  | true =>
  rw [h1] at hR
  cases h2 : shapedB t with
  | false =>
    rw [h2] at hS
    have HR := Lib.hid (put_bad (c := c) (n := n) (t := t) (by rw [h1, h2]; rfl))
    rw [HR.out]
    simp only [aggD, encD_tm, List.map_cons, List.map_nil] at hS ⊢
    clear HR h1 h2
    refine PCalls.enter Try.func41 rfl Try.ntmps41 (by simp) ?_
    simp only [argsF]
    refine go_ ?_
    refine POps_box_a ?_
    intro i5 hi5
    try simp only [St.freshB_box, St.freshB_nil, St.freshB_tok, St.freshB_obj] at hi5
    refine go_ ?_
    refine POps_call_a (hR.out) ?_
    refine go_ ?_
    refine POps_call_b (hS.out) ?_
    refine go_ ?_
    refine retP_ok (by simp) (by simp only [Try.results41]; rfl) (by simp [resP, St.box?, PF.get, loadB, TyK.agg, *]; rfl) (List.nil_sublist _) ?_
    exact ⟨rfl, rfl⟩
  | true =>
  rw [h2] at hS
  have hL := Lib.hid (rloose_p t 0 (shaped_hg h2).1 (by decide) (by have := (shaped_hg h2).2.1; omega))
  by_cases h3 : lsT t 0 ≤ 0
  rotate_left
  · have HR := Lib.hid (put_bad (c := c) (n := n) (t := t) (by rw [h1, h2, decide_eq_false h3]; rfl))
    rw [HR.out]
    have hz : 0 < lsT t 0 := by omega
    generalize lsT t 0 = L at *
    simp only [aggD, encD_tm, List.map_cons, List.map_nil] at hS hL ⊢
    clear HR h1 h2 h3
    refine PCalls.enter Try.func41 rfl Try.ntmps41 (by simp) ?_
    simp only [argsF]
    refine go_ ?_
    refine POps_box_a ?_
    intro i5 hi5
    try simp only [St.freshB_box, St.freshB_nil, St.freshB_tok, St.freshB_obj] at hi5
    refine go_ ?_
    refine POps_call_a (hR.out) ?_
    refine go_ ?_
    refine POps_call_b (hS.out) ?_
    refine go_ ?_
    refine POps_call_b (hL.out) ?_
    refine go_ ?_
    refine retP_ok (by simp) (by simp only [Try.results41]; rfl) (by simp [resP, St.box?, PF.get, loadB, TyK.agg, *]; rfl) (List.nil_sublist _) ?_
    exact ⟨rfl, rfl⟩
  have HR := Lib.hid (put_good (n := n) h1 h2 h3)
  have hz : ¬ 0 < lsT t 0 := by omega
  have hN := Lib.hid (rplace22_p c n)
  have hT := Lib.hid (rstands_p t n)
  clear h1 h2 h3
  generalize lsT t 0 = L at *
  cases h4 : decide (n ∈ c.map Va.n) with
  | false =>
    have hp : plI (plF n c 0) = -1 := by rw [plF_none.2 (of_decide_eq_false h4)]; rfl
    rw [hp] at hN
    rw [h4] at HR
    rw [HR.out]
    simp only [aggD, encD_tm, List.map_cons, List.map_nil] at hS hL ⊢
    clear HR h4 hT hp
    refine PCalls.enter Try.func41 rfl Try.ntmps41 (by simp) ?_
    simp only [argsF]
    refine go_ ?_
    refine POps_box_a ?_
    intro i5 hi5
    try simp only [St.freshB_box, St.freshB_nil, St.freshB_tok, St.freshB_obj] at hi5
    refine go_ ?_
    refine POps_call_a (hR.out) ?_
    refine go_ ?_
    refine POps_call_b (hS.out) ?_
    refine go_ ?_
    refine POps_call_b (hL.out) ?_
    refine go_ ?_
    refine POps_call_a (hN.out) ?_
    refine go_ ?_
    refine retP_ok (by simp) (by simp only [Try.results41]; rfl) (by simp [resP, St.box?, PF.get, loadB, TyK.agg, *]; rfl) (List.nil_sublist _) ?_
    exact ⟨rfl, rfl⟩
  | true =>
  obtain ⟨m, hp⟩ : ∃ m : Nat, plI (plF n c 0) = m := by
    cases hq : plF n c 0 with
    | none => exact absurd (of_decide_eq_true h4) (plF_none.1 hq)
    | some m => exact ⟨m, rfl⟩
  have hp0 : ¬ (m : Int) < 0 := by omega
  rw [hp] at hN
  rw [h4] at HR
  clear h4 hp
  simp only [Bool.true_eq_false, if_false] at HR
  cases h5 : sdT t n with
  | true =>
    rw [h5] at hT HR
    rw [HR.out]
    simp only [if_true]
    simp only [aggD, encD_tm, List.map_cons, List.map_nil] at hS hL hT ⊢
    clear HR h5
    refine PCalls.enter Try.func41 rfl Try.ntmps41 (by simp) ?_
    simp only [argsF]
    refine go_ ?_
    refine POps_box_a ?_
    intro i5 hi5
    try simp only [St.freshB_box, St.freshB_nil, St.freshB_tok, St.freshB_obj] at hi5
    refine go_ ?_
    refine POps_call_a (hR.out) ?_
    refine go_ ?_
    refine POps_call_b (hS.out) ?_
    refine go_ ?_
    refine POps_call_b (hL.out) ?_
    refine go_ ?_
    refine POps_call_a (hN.out) ?_
    refine go_ ?_
    refine POps_call_a (hT.out) ?_
    refine go_ ?_
    refine retP_ok (by simp) (by simp only [Try.results41]; rfl) (by simp [resP, St.box?, PF.get, loadB, TyK.agg, *]; rfl) (List.nil_sublist _) ?_
    exact ⟨rfl, rfl⟩
  | false =>
  rw [h5] at hT HR
  simp only [Bool.false_eq_true, if_false] at HR
  clear h5
  obtain ⟨R, hRd⟩ : ∃ R, R = putR c n t := ⟨_, rfl⟩
  rw [← hRd] at HR ⊢
  have HRR : Hid (R = putF n t [] (c.drop 0)) := HR.out
  clear HR hRd
  simp only [aggD, encD_tm, List.map_cons, List.map_nil] at hS hL hT ⊢
  refine PCalls.enter Try.func41 rfl Try.ntmps41 (by simp) ?_
  simp only [argsF]
  refine go_ ?_
  refine POps_box_a ?_
  intro i5 hi5
  try simp only [St.freshB_box, St.freshB_nil, St.freshB_tok, St.freshB_obj] at hi5
  refine go_ ?_
  refine POps_call_a (hR.out) ?_
  refine go_ ?_
  refine POps_call_b (hS.out) ?_
  refine go_ ?_
  refine POps_call_b (hL.out) ?_
  refine go_ ?_
  refine POps_call_a (hN.out) ?_
  refine go_ ?_
  refine POps_call_a (hT.out) ?_
  refine go_ ?_
  refine POps_bs0 ?_ (by decide) (by first | (simp [nev, nevA, nevB, evBuild, PF.eval, PF.get, PF.wants, cPV, cCell, PV.rows, evBin, evUn, evConv, evLen, loadA, loadB, TyK.agg, partA, St.box?, St.tok?, St.setBox, St.setTok, fillO, spl, PV.ps, PV.one, evalArgs, aggD, slD, encD_nd, encD_bd, encD_rw, encD_dc, encD_str, encD_int, *]; done) | fail) (by simp; rfl) (by rfl) (by simp; rfl) (by rfl) (by decide)
  intro g hg
  refine go_ ?_
  refine PW_loop (ι := Nat × List Va) (fun y => y.1 ≤ c.length ∧ y.2.length ≤ y.1 ∧ Hid (R = putF n t y.2 (c.drop y.1))) (fun y => [(0, .d (.sl (c.map encD))), (1, .d (.v (.int .i64 n))), (5, .ptr i5 0), (8, .own g (y.2.map encD)), (9, .d (.v (.int .i64 (y.1 : Int))))]) (fun y => [.tok g 89 4 y.2.length, .box i5 28 [.d (.v (.int .i64 t.kind)), .d (.v (.int .i64 t.num)), .d (.sl (t.sub.map encD))]]) (fun y => c.length - y.1) (0, []) ⟨Nat.zero_le _, Nat.le_refl _, HRR.out⟩ ?_ ?_ ?_
  · repeat (first | exact sub_nil _ | refine sub_cons (by simp [PF.get]; rfl) (by first | rfl | (simp [*]; done) | fail) ?_)
  · repeat (first | exact List.Sublist.refl _ | exact List.nil_sublist _ | refine List.Sublist.cons_cons _ ?_ | refine List.Sublist.cons _ ?_)
  rintro ⟨j, o⟩ ⟨hj, ho, hR2⟩
  simp only at hj ho hR2 ⊢
  clear HRR
  by_cases hlt : j < c.length
  · have hx := get_enc hlt
    have hc : (j : Int) < c.length := by omega
    have hn0 : (0 : Int) ≤ j := by omega
    have hin := wr64 (n := (j : Int) + 1) (by omega) (by omega)
    have hR3 := hR2.out
    rw [List.drop_eq_getElem_cons hlt, putF] at hR3
    have hol : o.length ≤ 100000 := by omega
    have HO := Lib.hid ho
    clear hR2 ho
    by_cases hv : c[j].n = n
    · rw [if_pos hv] at hR3
      have hvb : (c[j].n == n) = true := by rw [beq_iff_eq]; exact hv
      have HR3 := Lib.hid hR3
      clear hR3 hv
      refine go_ ?_
      exact ⟨(j + 1, o), ⟨hlt, by have := HO.out; simp only; omega, HR3⟩, by simp only; omega, by repeat (first | exact sub_nil _ | refine sub_cons (by simp [PF.get]; rfl) (by first | rfl | (simp [*]; done) | fail) ?_), by repeat (first | exact List.Sublist.refl _ | exact List.nil_sublist _ | refine List.Sublist.cons_cons _ ?_ | refine List.Sublist.cons _ ?_)⟩
    · rw [if_neg hv] at hR3
      have hvb : (c[j].n == n) = false := by rw [beq_eq_false_iff_ne]; exact hv
      have hNm := Lib.hid (rnamedR_p c[j].ty t n)
      obtain ⟨x, hxd⟩ : ∃ x, x = namedR c[j].ty t n := ⟨_, rfl⟩
      rw [← hxd] at hNm hR3
      have HR3 := Lib.hid hR3
      clear hR3 hv hxd
      obtain ⟨x, e⟩ := x
      simp only [trP, aggD, encD_tm, List.map_cons, List.map_nil] at hNm HR3
      by_cases he : e = 0
      · subst he
        simp only [if_true] at HR3
        refine go_ ?_
        refine PW_drawnL (J := keepJ [(i5, _)]) [(0, .a), (1, .a), (2, .a), (3, .a), (4, .a), (5, .a), (6, .a), (7, .a), (8, .a), (9, .a), (10, .a), (11, .e), (12, .e), (13, .a)] (by kernel_rfl) (by rfl) (by kernel_rfl) (by (repeat (first | exact keepJ_nil _ | refine keepJ_cons (by simp [St.box?, *] <;> rfl) ?_))) ?_
        repeat (first | with_reducible refine PL_nil ?_ | refine PL_gn2 ?_ | refine PL_s2 ?_ | refine PL_b2 ?_)
        refine PL_call2 (hNm.out) ?_
        repeat (first | with_reducible refine PL_nil ?_ | refine PL_gn2 ?_ | refine PL_s2 ?_ | refine PL_b2 ?_)
        refine PL_alloc rfl (by decide) rfl (by simp; rfl) (fun i hi => by simp only [St.freshB_box, St.freshB_nil, St.freshB_tok] at hi; (repeat (first | exact keepJ_nil _ | refine keepJ_cons (by simp [St.box?, *] <;> rfl) ?_))) ?_
        intro i10 hi10
        try simp only [St.freshB_box, St.freshB_nil, St.freshB_tok, St.freshB_obj] at hi10
        repeat (first | with_reducible refine PL_nil ?_ | refine PL_gn2 ?_ | refine PL_s2 ?_ | refine PL_b2 ?_)
        refine PL_store rfl rfl (by simp [nev, nevA, nevB, evBuild, PF.eval, PF.get, PF.wants, cPV, cCell, PV.rows, evBin, evUn, evConv, evLen, loadA, loadB, TyK.agg, partA, St.box?, St.tok?, St.setBox, St.setTok, fillO, spl, PV.ps, PV.one, evalArgs, aggD, slD, encD_nd, encD_bd, encD_rw, encD_dc, encD_str, encD_int, *]; rfl) (by rfl) (by simp [nev, nevA, nevB, evBuild, PF.eval, PF.get, PF.wants, cPV, cCell, PV.rows, evBin, evUn, evConv, evLen, loadA, loadB, TyK.agg, partA, St.box?, St.tok?, St.setBox, St.setTok, fillO, spl, PV.ps, PV.one, evalArgs, aggD, slD, encD_nd, encD_bd, encD_rw, encD_dc, encD_str, encD_int, *]; rfl) (by simp [PV.ps, aggD, slD, encD_nd, encD_bd, encD_rw, encD_dc, encD_str, encD_int]; rfl) (by first | rfl | (simp [*]; done) | (simp [PV.one, *]; done) | fail) (by simp; rfl) (by first | (simp; done) | fail) (by simp [nev, nevA, nevB, evBuild, PF.eval, PF.get, PF.wants, cPV, cCell, PV.rows, evBin, evUn, evConv, evLen, loadA, loadB, TyK.agg, partA, St.box?, St.tok?, St.setBox, St.setTok, fillO, spl, PV.ps, PV.one, evalArgs, aggD, slD, encD_nd, encD_bd, encD_rw, encD_dc, encD_str, encD_int, *]; rfl) (by rfl) (by first | (simp; done) | fail) (by simp [St.setBox, spl, *]; rfl) (by first | exact .inl (by decide +kernel) | exact .inr (by (repeat (first | exact keepJ_nil _ | refine keepJ_cons (by simp [St.box?, *] <;> rfl) ?_)))) ?_
        repeat (first | with_reducible refine PL_nil ?_ | refine PL_gn2 ?_ | refine PL_s2 ?_ | refine PL_b2 ?_)
        refine go_ ?_
        refine PW_drawnL (J := keepJ [(i10, _)]) [(0, .a), (1, .a), (2, .a), (3, .a), (4, .a), (5, .a), (6, .a), (7, .a), (8, .a), (9, .e), (10, .a)] (by kernel_rfl) (by rfl) (by kernel_rfl) (by (repeat (first | exact keepJ_nil _ | refine keepJ_cons (by simp [St.box?, *] <;> rfl) ?_))) ?_
        repeat (first | with_reducible refine PL_nil ?_ | refine PL_gn2 ?_ | refine PL_s2 ?_ | refine PL_b2 ?_)
        refine PL_bs ?_ rfl (by decide) rfl (by simp; rfl) (by rfl) (by simp; rfl) (by rfl) (by decide) (by decide) (by simp [nev, nevA, nevB, evBuild, PF.eval, PF.get, PF.wants, cPV, cCell, PV.rows, evBin, evUn, evConv, evLen, loadA, loadB, TyK.agg, partA, St.box?, St.tok?, St.setBox, St.setTok, fillO, spl, PV.ps, PV.one, evalArgs, aggD, slD, encD_nd, encD_bd, encD_rw, encD_dc, encD_str, encD_int, *]; rfl) (by simp [rowsOf, toDs, PV.toD]; rfl)
        refine PL_app (o.length + 1) ?_ ?_ ?_ ?_ ?_
        rotate_left
        · exact rows_of (α := Va) rfl
        · exact rows_one rfl
        · simp
        · exact .inr (by (repeat (first | exact keepJ_nil _ | refine keepJ_cons (by simp [St.box?, *] <;> rfl) ?_)))
        repeat (first | with_reducible refine PL_nil ?_ | refine PL_gn2 ?_ | refine PL_s2 ?_ | refine PL_b2 ?_)
        refine go_ ?_
        refine ⟨(j + 1, o ++ [⟨c[j].n, x⟩]), ⟨hlt, by have := HO.out; simp only [List.length_append, List.length_singleton]; omega, HR3⟩, by simp only; omega, ?_, ?_⟩
        · repeat (first | exact sub_nil _ | refine sub_cons (by simp [PF.get]; rfl) (by first | rfl | (simp [encD_va]; done) | fail) ?_)
        · simp only [List.length_append, List.length_singleton]
          repeat (first | exact List.Sublist.refl _ | exact List.nil_sublist _ | refine List.Sublist.cons_cons _ ?_ | refine List.Sublist.cons _ ?_)
      · have hR4 : R = ([], e) := by rw [show R = _ from HR3.out, if_neg he]
        have heb : (e != 0) = true := by rw [bne_iff_ne]; exact he
        rw [hR4]
        clear HR3 hR4
        refine go_ ?_
        refine PW_drawnL (J := keepJ [(i5, _)]) [(0, .a), (1, .a), (2, .a), (3, .a), (4, .a), (5, .a), (6, .a), (7, .a), (8, .a), (9, .a), (10, .a), (11, .e), (12, .e), (13, .a)] (by kernel_rfl) (by rfl) (by kernel_rfl) (by (repeat (first | exact keepJ_nil _ | refine keepJ_cons (by simp [St.box?, *] <;> rfl) ?_))) ?_
        repeat (first | with_reducible refine PL_nil ?_ | refine PL_gn2 ?_ | refine PL_s2 ?_ | refine PL_b2 ?_)
        refine PL_call2 (hNm.out) ?_
        repeat (first | with_reducible refine PL_nil ?_ | refine PL_gn2 ?_ | refine PL_s2 ?_ | refine PL_b2 ?_)
        refine PL_alloc rfl (by decide) rfl (by simp; rfl) (fun i hi => by simp only [St.freshB_box, St.freshB_nil, St.freshB_tok] at hi; (repeat (first | exact keepJ_nil _ | refine keepJ_cons (by simp [St.box?, *] <;> rfl) ?_))) ?_
        intro i10 hi10
        try simp only [St.freshB_box, St.freshB_nil, St.freshB_tok, St.freshB_obj] at hi10
        repeat (first | with_reducible refine PL_nil ?_ | refine PL_gn2 ?_ | refine PL_s2 ?_ | refine PL_b2 ?_)
        refine PL_store rfl rfl (by simp [nev, nevA, nevB, evBuild, PF.eval, PF.get, PF.wants, cPV, cCell, PV.rows, evBin, evUn, evConv, evLen, loadA, loadB, TyK.agg, partA, St.box?, St.tok?, St.setBox, St.setTok, fillO, spl, PV.ps, PV.one, evalArgs, aggD, slD, encD_nd, encD_bd, encD_rw, encD_dc, encD_str, encD_int, *]; rfl) (by rfl) (by simp [nev, nevA, nevB, evBuild, PF.eval, PF.get, PF.wants, cPV, cCell, PV.rows, evBin, evUn, evConv, evLen, loadA, loadB, TyK.agg, partA, St.box?, St.tok?, St.setBox, St.setTok, fillO, spl, PV.ps, PV.one, evalArgs, aggD, slD, encD_nd, encD_bd, encD_rw, encD_dc, encD_str, encD_int, *]; rfl) (by simp [PV.ps, aggD, slD, encD_nd, encD_bd, encD_rw, encD_dc, encD_str, encD_int]; rfl) (by first | rfl | (simp [*]; done) | (simp [PV.one, *]; done) | fail) (by simp; rfl) (by first | (simp; done) | fail) (by simp [nev, nevA, nevB, evBuild, PF.eval, PF.get, PF.wants, cPV, cCell, PV.rows, evBin, evUn, evConv, evLen, loadA, loadB, TyK.agg, partA, St.box?, St.tok?, St.setBox, St.setTok, fillO, spl, PV.ps, PV.one, evalArgs, aggD, slD, encD_nd, encD_bd, encD_rw, encD_dc, encD_str, encD_int, *]; rfl) (by rfl) (by first | (simp; done) | fail) (by simp [St.setBox, spl, *]; rfl) (by first | exact .inl (by decide +kernel) | exact .inr (by (repeat (first | exact keepJ_nil _ | refine keepJ_cons (by simp [St.box?, *] <;> rfl) ?_)))) ?_
        repeat (first | with_reducible refine PL_nil ?_ | refine PL_gn2 ?_ | refine PL_s2 ?_ | refine PL_b2 ?_)
        refine go_ ?_
        refine retP_ok (by simp) (by simp only [Try.results41]; rfl) (by simp [resP, St.box?, PF.get, loadB, TyK.agg, *]; rfl) (List.nil_sublist _) ?_
        exact ⟨rfl, rfl⟩
  · have hc : ¬ (j : Int) < c.length := by omega
    have hR3 : R = orderR o := by rw [show R = _ from hR2.out, List.drop_of_length_le (by omega)]; rfl
    have hOr := Lib.hid (rorder22_p o (by omega))
    rw [hR3]
    clear hR2 hR3 ho
    generalize orderR o = r at *
    simp only [ordP] at hOr ⊢
    refine go_ ?_
    refine POps_call_a (hOr.out) ?_
    refine go_ ?_
    refine retP_ok (by simp) (by simp only [Try.results41]; rfl) (by simp [resP, St.box?, PF.get, loadB, TyK.agg, *]; rfl) (List.nil_sublist _) ?_
    exact ⟨by simp [tupP, PV.norm2, PV.norm1, PV.norm0], rfl⟩
end Go.Proofs.Ytfnfbbmegdkhjaa

namespace Go.Proofs.Ytfnfbbmegdkhjaa
open Go.RowKit Go.WideMaps
set_option maxRecDepth 100000
theorem order_mem {o : List Va} : (orderR o).1.length ≤ o.length ∧ ∀ v ∈ (orderR o).1, v ∈ o := by
  unfold orderR
  split
  · exact ⟨Nat.zero_le _, fun v h => by cases h⟩
  · split
    · exact ⟨Nat.zero_le _, fun v h => by cases h⟩
    · split
      · exact ⟨Nat.zero_le _, fun v h => by cases h⟩
      · rename_i l h
        obtain ⟨hp, -⟩ := orderG_ok _ _ _ rfl h
        exact ⟨by rw [hp.length_eq]; exact Nat.le_refl _, fun v hv => hp.mem_iff.1 hv⟩
theorem named_free {u t : Tm} {n : Int} (ht : shapedB t = true) (hn : sdT t n = false) (h : (namedR u t n).2 = 0) : sdT (namedR u t n).1 n = false := by
  unfold namedR at h ⊢
  split
  · rename_i hs
    rw [if_pos hs] at h
    simp only [Bool.and_eq_true] at hs
    rw [(done_ok h).2]
    exact sd_named (shaped_hg ht).1 hn u 0 (shaped_hg hs.1.1).1
  · rename_i hs
    rw [if_neg hs] at h
    cases h
theorem putF_ok {n : Int} {t : Tm} (ht : shapedB t = true) (hn : sdT t n = false) : ∀ (c o : List Va), (∀ v ∈ o, v.n ≠ n ∧ sdT v.ty n = false) → (putF n t o c).1.length ≤ o.length + c.length ∧ ∀ v ∈ (putF n t o c).1, v.n ≠ n ∧ sdT v.ty n = false := by
  intro c
  induction c with
  | nil =>
    intro o ho
    exact ⟨order_mem.1, fun v hv => ho v (order_mem.2 v hv)⟩
  | cons v r ih =>
    intro o ho
    rw [putF]
    split
    · obtain ⟨h1, h2⟩ := ih o ho
      exact ⟨by rw [List.length_cons]; omega, h2⟩
    · rename_i hv
      split
      · rename_i h0
        obtain ⟨h1, h2⟩ := ih (o ++ [⟨v.n, (namedR v.ty t n).1⟩]) (by
          intro x hx
          rcases List.mem_append.1 hx with h | h
          · exact ho x h
          · rw [List.mem_singleton] at h
            subst h
            exact ⟨hv, named_free ht hn h0⟩)
        refine ⟨?_, h2⟩
        rw [List.length_append, List.length_singleton] at h1
        rw [List.length_cons]; omega
      · exact ⟨Nat.zero_le _, fun x hx => by cases hx⟩
theorem putR_ok (c : List Va) (n : Int) (t : Tm) : (putR c n t).1.length ≤ c.length ∧ ∀ v ∈ (putR c n t).1, v.n ≠ n ∧ sdT v.ty n = false := by
  unfold putR
  split
  · exact ⟨Nat.zero_le _, fun v h => by cases h⟩
  · rename_i h1
    split
    · exact ⟨Nat.zero_le _, fun v h => by cases h⟩
    · split
      · exact ⟨Nat.zero_le _, fun v h => by cases h⟩
      · rename_i h3
        simp only [Bool.not_eq_false, Bool.and_eq_true] at h1
        obtain ⟨h4, h5⟩ := putF_ok h1.1.2 (by simpa using h3) c [] (fun v h => by cases h)
        exact ⟨by simpa using h4, h5⟩
theorem sameV_rfl : ∀ (a : List Va), sameV ceqT a a = true := by
  intro a
  induction a with
  | nil => rfl
  | cons x a ih =>
    rw [sameV, ih, (eqT_iff x.ty x.ty).2 rfl]; simp
set_option maxHeartbeats 16000000 in
theorem puts_p (c : List Va) (n : Int) (t : Tm) : PCalls Try.prog 7 [.d (.sl (c.map encD)), .d (.v (.int .i64 n)), aggD t] [] fun p s => p = .d (.v (.bool true)) ∧ s = [] := by
  have hA := Lib.hid awake22_p
  have hL := Lib.hid (law22light_p c)
  have hZ := Lib.hid (rSize_p t)
  cases h1 : lightB c with
  | false =>
    rw [h1] at hL
    simp only [aggD, encD_tm, List.map_cons, List.map_nil] at hZ ⊢
    refine PCalls.enter Try.func7 rfl Try.ntmps7 (by simp) ?_
    simp only [argsF]
    refine go_ ?_
    refine POps_box_a ?_
    intro i5 hi5
    try simp only [St.freshB_box, St.freshB_nil, St.freshB_tok, St.freshB_obj] at hi5
    refine go_ ?_
    refine POps_call_a (hL.out) ?_
    refine go_ ?_
    refine POps_call_a (hA.out) ?_
    refine go_ ?_
    refine retP_ok (by simp) (by simp only [Try.results7]; rfl) (by simp [resP, St.box?, PF.get, loadB, TyK.agg, *]; rfl) (List.nil_sublist _) ?_
    exact ⟨rfl, rfl⟩
  | true =>
  rw [h1] at hL
  have hcl := light_iw h1
  have hO := Lib.hid (law22of_p c hcl)
  have hP := Lib.hid (fput_p c hcl n t)
  have hQ := Lib.hid (rput22_p c hcl n t)
  obtain ⟨hxl, hxm⟩ := putR_ok c n t
  have HXM := Lib.hid hxm
  clear h1 hxm
  generalize putR c n t = x at *
  obtain ⟨x, e⟩ := x
  simp only at hxl HXM
  have hxl2 : x.length ≤ 100000 := by omega
  have hSm := Lib.hid (law22same_p x x e e hxl2)
  rw [show ((e == e) && sameV ceqT x x) = true from by rw [sameV_rfl, Bool.and_true, beq_self_eq_true]] at hSm
  simp only [ordP, aggD, encD_tm, List.map_cons, List.map_nil] at hZ hP hQ ⊢
  clear hxl hcl
  by_cases hz : 100 < csizeT t
  · refine PCalls.enter Try.func7 rfl Try.ntmps7 (by simp) ?_
    simp only [argsF]
    refine go_ ?_
    refine POps_box_a ?_
    intro i5 hi5
    try simp only [St.freshB_box, St.freshB_nil, St.freshB_tok, St.freshB_obj] at hi5
    refine go_ ?_
    refine POps_call_a (hL.out) ?_
    refine go_ ?_
    refine POps_call_b (hZ.out) ?_
    refine go_ ?_
    refine POps_call_a (hA.out) ?_
    refine go_ ?_
    refine retP_ok (by simp) (by simp only [Try.results7]; rfl) (by simp [resP, St.box?, PF.get, loadB, TyK.agg, *]; rfl) (List.nil_sublist _) ?_
    exact ⟨rfl, rfl⟩
  refine PCalls.enter Try.func7 rfl Try.ntmps7 (by simp) ?_
  simp only [argsF]
  refine go_ ?_
  refine POps_box_a ?_
  intro i5 hi5
  try simp only [St.freshB_box, St.freshB_nil, St.freshB_tok, St.freshB_obj] at hi5
  refine go_ ?_
  refine POps_call_a (hL.out) ?_
  refine go_ ?_
  refine POps_call_b (hZ.out) ?_
  refine go_ ?_
  refine POps_call_a (hP.out) ?_
  refine go_ ?_
  refine PW_drawnL (J := keepJ [(i5, _)]) [(0, .a), (1, .a), (2, .a), (3, .a), (4, .a), (5, .a), (6, .a), (7, .a), (8, .a), (9, .a)] (by kernel_rfl) (by rfl) (by kernel_rfl) (by (repeat (first | exact keepJ_nil _ | refine keepJ_cons (by simp [St.box?, *] <;> rfl) ?_))) ?_
  repeat (first | with_reducible refine PL_nil ?_ | refine PL_gn2 ?_ | refine PL_s2 ?_ | refine PL_b2 ?_)
  refine PL_call2 (hO.out) ?_
  repeat (first | with_reducible refine PL_nil ?_ | refine PL_gn2 ?_ | refine PL_s2 ?_ | refine PL_b2 ?_)
  refine PL_call2 (hQ.out) ?_
  repeat (first | with_reducible refine PL_nil ?_ | refine PL_gn2 ?_ | refine PL_s2 ?_ | refine PL_b2 ?_)
  refine go_ ?_
  refine POps_call_a (hSm.out) ?_
  refine go_ ?_
  refine PW_loop (ι := Nat) (fun y => y ≤ x.length) (fun y => [(1, .d (.v (.int .i64 n))), (7, .d (.sl (x.map encD))), (11, .d (.v (.int .i64 (y : Int))))]) (fun _ => [.box i5 28 [.d (.v (.int .i64 t.kind)), .d (.v (.int .i64 t.num)), .d (.sl (t.sub.map encD))]]) (fun y => x.length - y) 0 (Nat.zero_le _) ?_ ?_ ?_
  · repeat (first | exact sub_nil _ | refine sub_cons (by simp [PF.get]; rfl) (by first | rfl | (simp [*]; done) | fail) ?_)
  · repeat (first | exact List.Sublist.refl _ | exact List.nil_sublist _ | refine List.Sublist.cons_cons _ ?_ | refine List.Sublist.cons _ ?_)
  rintro j hj
  by_cases hlt : j < x.length
  · have hx := get_enc hlt
    have hc : (j : Int) < x.length := by omega
    have hn0 : (0 : Int) ≤ j := by omega
    have hin := wr64 (n := (j : Int) + 1) (by omega) (by omega)
    obtain ⟨hv, hs⟩ := HXM.out _ (List.getElem_mem hlt)
    have hvb : (x[j].n == n) = false := by rw [beq_eq_false_iff_ne]; exact hv
    have hc1 := Lib.hid (rstands_p x[j].ty n)
    rw [hs] at hc1
    simp only [aggD, encD_tm, List.map_cons, List.map_nil] at hc1
    clear hv hs
    refine go_ ?_
    refine POps_call_b (hc1.out) ?_
    refine go_ ?_
    exact ⟨j + 1, hlt, by omega, by repeat (first | exact sub_nil _ | refine sub_cons (by simp [PF.get]; rfl) (by first | rfl | (simp [*]; done) | fail) ?_), by repeat (first | exact List.Sublist.refl _ | exact List.nil_sublist _ | refine List.Sublist.cons_cons _ ?_ | refine List.Sublist.cons _ ?_)⟩
  · have hc : ¬ (j : Int) < x.length := by omega
    refine go_ ?_
    refine POps_call_a (hA.out) ?_
    refine go_ ?_
    refine retP_ok (by simp) (by simp only [Try.results7]; rfl) (by simp [resP, St.box?, PF.get, loadB, TyK.agg, *]; rfl) (List.nil_sublist _) ?_
    exact ⟨rfl, rfl⟩
theorem puts_walk (v : Value) (c : List Va) (n : Int) (t : Tm) (cs : List Value) (wn : (Lit.int .i64 n).wf = true) (w : World) (hc : VaS w v c) (ht : TzC w t cs) : Calls Try.prog 7 #[v, .int .i64 n, .agg cs.toArray] w fun e w' => e = .returned (.bool true) ∧ Below w.heap.size w w' := by
  refine PCalls.top ((puts_p c n t).mono fun _ _ h => h.1) ?_
  exact relVs_cons (.d (relS_of (fun b o v _ hv => ⟨v, hv⟩) (by decide) hc.1)) (relVs_cons (.d (.v trivial)) (relVs_cons (rel_rep (K := K0 w) (fun b o v _ h => ⟨v, h⟩) ht) (relVs_nil _ _)))
end Go.Proofs.Ytfnfbbmegdkhjaa
