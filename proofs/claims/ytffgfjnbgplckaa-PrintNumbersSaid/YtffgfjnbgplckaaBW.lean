import Derived.Test.YtffgfjnbgplckaaBV
set_option linter.unusedSimpArgs false
set_option linter.unusedVariables false
namespace Go.Proofs.Ytffgfjnbgplckaa
open Go.RowKit
set_option maxRecDepth 100000
set_option maxHeartbeats 8000000 in
theorem rin_step (t : Nd) (hg : goodT t false = true) (hs : ndT t ≤ 100000000) (ih : ∀ x ∈ t.sub, ∀ lv, lv ≤ 8 → RxC x lv) : RiC t := by
  obtain ⟨k, a, s, n, sub⟩ := t
  have hname := good_name hg
  unfold RiC
  rcases ex_cases hg with ⟨rfl, rfl⟩ | ⟨rfl, rfl, hn0, hn7⟩ | ⟨x, y, hk, rfl, hx, hy⟩
  · have HE := Lib.hid (inL_name 1 a n s rfl)
    generalize inL (.mk 1 a s n []) = txt at *
    simp only [aggD, encD_mk, List.map_cons, List.map_nil]
    refine PCalls.enter Try.func75 rfl Try.ntmps75 (by simp) ?_
    simp only [argsF]
    repeat (first | (with_reducible first | refine PW_seq ?_ | refine PW_block ?_ | refine PW_region_lit ?_ | refine PW_skip ?_ | refine PW_exit ?_ | refine PW_ret ?_ | refine PW_label ?_ | refine POps_nil ?_ | refine POrd_nil ?_ | refine thenP_n ?_ | refine thenP_x ?_ | refine thenP_r ?_ | refine blockP_n ?_ | refine blockP_r ?_ | refine blockP_hit ?_ | refine blockP_miss rfl ?_) | (first | refine POps_s_a ?_ | refine POps_b_a ?_) | (first | refine POps_gn_a ?_ | refine POps_gs_a ?_ | refine POps_gb_a ?_) | (first | refine PW_cond_t_a ?_ | refine PW_cond_f_a ?_) | (first | refine POrd_s_a ?_ | refine POrd_b_a ?_) | (first | refine POrd_gn_a ?_ | refine POrd_s_b ?_ | refine POrd_b_b ?_))
    refine POps_box_a ?_
    intro i0 hi0
    repeat (first | (with_reducible first | refine PW_seq ?_ | refine PW_block ?_ | refine PW_region_lit ?_ | refine PW_skip ?_ | refine PW_exit ?_ | refine PW_ret ?_ | refine PW_label ?_ | refine POps_nil ?_ | refine POrd_nil ?_ | refine thenP_n ?_ | refine thenP_x ?_ | refine thenP_r ?_ | refine blockP_n ?_ | refine blockP_r ?_ | refine blockP_hit ?_ | refine blockP_miss rfl ?_) | (first | refine POps_s_a ?_ | refine POps_b_a ?_) | (first | refine POps_gn_a ?_ | refine POps_gs_a ?_ | refine POps_gb_a ?_) | (first | refine PW_cond_t_a ?_ | refine PW_cond_f_a ?_) | (first | refine POrd_s_a ?_ | refine POrd_b_a ?_) | (first | refine POrd_gn_a ?_ | refine POrd_s_b ?_ | refine POrd_b_b ?_))
    refine retP_ok (by simp) (by simp only [Try.results75]; rfl) (by simp [resP, St.box?, PF.get, loadB, TyK.agg, *]; rfl) (List.nil_sublist _) ?_
    exact ⟨by rw [HE.out, ← strB_toList]; rfl, rfl⟩
  · have HE := Lib.hid (inL_set 2 a n s rfl)
    generalize inL (.mk 2 a s n []) = txt at *
    simp only [aggD, encD_mk, List.map_cons, List.map_nil]
    have hnl : (numS n).toList.length ≤ 20 := by
      rw [size_toList, numS, if_neg (by omega)]; exact (decS_size n.natAbs (by omega)).2
    by_cases hn : n = 0
    · refine PCalls.enter Try.func75 rfl Try.ntmps75 (by simp) ?_
      simp only [argsF]
      repeat (first | (with_reducible first | refine PW_seq ?_ | refine PW_block ?_ | refine PW_region_lit ?_ | refine PW_skip ?_ | refine PW_exit ?_ | refine PW_ret ?_ | refine PW_label ?_ | refine POps_nil ?_ | refine POrd_nil ?_ | refine thenP_n ?_ | refine thenP_x ?_ | refine thenP_r ?_ | refine blockP_n ?_ | refine blockP_r ?_ | refine blockP_hit ?_ | refine blockP_miss rfl ?_) | (first | refine POps_s_a ?_ | refine POps_b_a ?_) | (first | refine POps_gn_a ?_ | refine POps_gs_a ?_ | refine POps_gb_a ?_) | (first | refine PW_cond_t_a ?_ | refine PW_cond_f_a ?_) | (first | refine POrd_s_a ?_ | refine POrd_b_a ?_) | (first | refine POrd_gn_a ?_ | refine POrd_s_b ?_ | refine POrd_b_b ?_))
      refine POps_box_a ?_
      intro i0 hi0
      repeat (first | (with_reducible first | refine PW_seq ?_ | refine PW_block ?_ | refine PW_region_lit ?_ | refine PW_skip ?_ | refine PW_exit ?_ | refine PW_ret ?_ | refine PW_label ?_ | refine POps_nil ?_ | refine POrd_nil ?_ | refine thenP_n ?_ | refine thenP_x ?_ | refine thenP_r ?_ | refine blockP_n ?_ | refine blockP_r ?_ | refine blockP_hit ?_ | refine blockP_miss rfl ?_) | (first | refine POps_s_a ?_ | refine POps_b_a ?_) | (first | refine POps_gn_a ?_ | refine POps_gs_a ?_ | refine POps_gb_a ?_) | (first | refine PW_cond_t_a ?_ | refine PW_cond_f_a ?_) | (first | refine POrd_s_a ?_ | refine POrd_b_a ?_) | (first | refine POrd_gn_a ?_ | refine POrd_s_b ?_ | refine POrd_b_b ?_))
      refine retP_ok (by simp) (by simp only [Try.results75]; rfl) (by simp [resP, St.box?, PF.get, loadB, TyK.agg, *]; rfl) (List.nil_sublist _) ?_
      exact ⟨by rw [HE.out, if_neg (by omega)]; rfl, rfl⟩
    · refine PCalls.enter Try.func75 rfl Try.ntmps75 (by simp) ?_
      simp only [argsF]
      repeat (first | (with_reducible first | refine PW_seq ?_ | refine PW_block ?_ | refine PW_region_lit ?_ | refine PW_skip ?_ | refine PW_exit ?_ | refine PW_ret ?_ | refine PW_label ?_ | refine POps_nil ?_ | refine POrd_nil ?_ | refine thenP_n ?_ | refine thenP_x ?_ | refine thenP_r ?_ | refine blockP_n ?_ | refine blockP_r ?_ | refine blockP_hit ?_ | refine blockP_miss rfl ?_) | (first | refine POps_s_a ?_ | refine POps_b_a ?_) | (first | refine POps_gn_a ?_ | refine POps_gs_a ?_ | refine POps_gb_a ?_) | (first | refine PW_cond_t_a ?_ | refine PW_cond_f_a ?_) | (first | refine POrd_s_a ?_ | refine POrd_b_a ?_) | (first | refine POrd_gn_a ?_ | refine POrd_s_b ?_ | refine POrd_b_b ?_))
      refine POps_box_a ?_
      intro i0 hi0
      repeat (first | (with_reducible first | refine PW_seq ?_ | refine PW_block ?_ | refine PW_region_lit ?_ | refine PW_skip ?_ | refine PW_exit ?_ | refine PW_ret ?_ | refine PW_label ?_ | refine POps_nil ?_ | refine POrd_nil ?_ | refine thenP_n ?_ | refine thenP_x ?_ | refine thenP_r ?_ | refine blockP_n ?_ | refine blockP_r ?_ | refine blockP_hit ?_ | refine blockP_miss rfl ?_) | (first | refine POps_s_a ?_ | refine POps_b_a ?_) | (first | refine POps_gn_a ?_ | refine POps_gs_a ?_ | refine POps_gb_a ?_) | (first | refine PW_cond_t_a ?_ | refine PW_cond_f_a ?_) | (first | refine POrd_s_a ?_ | refine POrd_b_a ?_) | (first | refine POrd_gn_a ?_ | refine POrd_s_b ?_ | refine POrd_b_b ?_))
      refine POps_call_a (rnum_p n hn0 (by omega)) ?_
      repeat (first | (with_reducible first | refine PW_seq ?_ | refine PW_block ?_ | refine PW_region_lit ?_ | refine PW_skip ?_ | refine PW_exit ?_ | refine PW_ret ?_ | refine PW_label ?_ | refine POps_nil ?_ | refine POrd_nil ?_ | refine thenP_n ?_ | refine thenP_x ?_ | refine thenP_r ?_ | refine blockP_n ?_ | refine blockP_r ?_ | refine blockP_hit ?_ | refine blockP_miss rfl ?_) | (first | refine POps_s_a ?_ | refine POps_b_a ?_) | (first | refine POps_gn_a ?_ | refine POps_gs_a ?_ | refine POps_gb_a ?_) | (first | refine PW_cond_t_a ?_ | refine PW_cond_f_a ?_) | (first | refine POrd_s_a ?_ | refine POrd_b_a ?_) | (first | refine POrd_gn_a ?_ | refine POrd_s_b ?_ | refine POrd_b_b ?_))
      refine POps_cat_a ?_
      repeat (first | (with_reducible first | refine PW_seq ?_ | refine PW_block ?_ | refine PW_region_lit ?_ | refine PW_skip ?_ | refine PW_exit ?_ | refine PW_ret ?_ | refine PW_label ?_ | refine POps_nil ?_ | refine POrd_nil ?_ | refine thenP_n ?_ | refine thenP_x ?_ | refine thenP_r ?_ | refine blockP_n ?_ | refine blockP_r ?_ | refine blockP_hit ?_ | refine blockP_miss rfl ?_) | (first | refine POps_s_a ?_ | refine POps_b_a ?_) | (first | refine POps_gn_a ?_ | refine POps_gs_a ?_ | refine POps_gb_a ?_) | (first | refine PW_cond_t_a ?_ | refine PW_cond_f_a ?_) | (first | refine POrd_s_a ?_ | refine POrd_b_a ?_) | (first | refine POrd_gn_a ?_ | refine POrd_s_b ?_ | refine POrd_b_b ?_))
      refine retP_ok (by simp) (by simp only [Try.results75]; rfl) (by simp [resP, St.box?, PF.get, loadB, TyK.agg, *]; rfl) (List.nil_sublist _) ?_
      exact ⟨by rw [HE.out, if_pos (by omega)]; simp [tupP, PV.norm2, PV.norm1, PV.norm0], rfl⟩
  · have hx' := ih x (by simp [Nd.sub])
    have hy' := ih y (by simp [Nd.sub])
    have hlx := ex_len hx
    have hly := ex_len hy
    have hnx : ndT x ≤ 100000000 ∧ ndT y ≤ 100000000 := by simp only [ndT, ndL] at hs; omega
    clear ih
    rcases hk with rfl | rfl | rfl
    · by_cases hsu : s = ⟨#[95]⟩
      · have HE := Lib.hid (inL_arrow 3 a n s x y rfl hsu)
        generalize inL (.mk 3 a s n [x, y]) = txt at *
        subst hsu
        have h1 := hx' 1 (by omega)
        have h2 := hy' 0 (by omega)
        have l1 := hlx 1
        have l2 := hly 0
        clear hlx hly hx' hy'
        simp only [aggD, encD_mk, List.map_cons, List.map_nil]
        refine PCalls.enter Try.func75 rfl Try.ntmps75 (by simp) ?_
        simp only [argsF]
        repeat (first | (with_reducible first | refine PW_seq ?_ | refine PW_block ?_ | refine PW_region_lit ?_ | refine PW_skip ?_ | refine PW_exit ?_ | refine PW_ret ?_ | refine PW_label ?_ | refine POps_nil ?_ | refine POrd_nil ?_ | refine thenP_n ?_ | refine thenP_x ?_ | refine thenP_r ?_ | refine blockP_n ?_ | refine blockP_r ?_ | refine blockP_hit ?_ | refine blockP_miss rfl ?_) | (first | refine POps_s_a ?_ | refine POps_b_a ?_) | (first | refine POps_gn_a ?_ | refine POps_gs_a ?_ | refine POps_gb_a ?_) | (first | refine PW_cond_t_a ?_ | refine PW_cond_f_a ?_) | (first | refine POrd_s_a ?_ | refine POrd_b_a ?_) | (first | refine POrd_gn_a ?_ | refine POrd_s_b ?_ | refine POrd_b_b ?_))
        refine POps_box_a ?_
        intro i0 hi0
        repeat (first | (with_reducible first | refine PW_seq ?_ | refine PW_block ?_ | refine PW_region_lit ?_ | refine PW_skip ?_ | refine PW_exit ?_ | refine PW_ret ?_ | refine PW_label ?_ | refine POps_nil ?_ | refine POrd_nil ?_ | refine thenP_n ?_ | refine thenP_x ?_ | refine thenP_r ?_ | refine blockP_n ?_ | refine blockP_r ?_ | refine blockP_hit ?_ | refine blockP_miss rfl ?_) | (first | refine POps_s_a ?_ | refine POps_b_a ?_) | (first | refine POps_gn_a ?_ | refine POps_gs_a ?_ | refine POps_gb_a ?_) | (first | refine PW_cond_t_a ?_ | refine PW_cond_f_a ?_) | (first | refine POrd_s_a ?_ | refine POrd_b_a ?_) | (first | refine POrd_gn_a ?_ | refine POrd_s_b ?_ | refine POrd_b_b ?_))
        refine PW_drawn [(0, .a), (1, .b), (2, .a), (3, .a), (4, .a), (5, .a), (6, .a), (7, .b), (8, .a), (9, .a), (10, .a), (11, .a), (12, .a)] (by kernel_rfl) (by rfl) (by kernel_rfl) ?_
        repeat (first | (with_reducible first | refine PW_seq ?_ | refine PW_block ?_ | refine PW_region_lit ?_ | refine PW_skip ?_ | refine PW_exit ?_ | refine PW_ret ?_ | refine PW_label ?_ | refine POps_nil ?_ | refine POrd_nil ?_ | refine thenP_n ?_ | refine thenP_x ?_ | refine thenP_r ?_ | refine blockP_n ?_ | refine blockP_r ?_ | refine blockP_hit ?_ | refine blockP_miss rfl ?_) | (first | refine POps_s_a ?_ | refine POps_b_a ?_) | (first | refine POps_gn_a ?_ | refine POps_gs_a ?_ | refine POps_gb_a ?_) | (first | refine PW_cond_t_a ?_ | refine PW_cond_f_a ?_) | (first | refine POrd_s_a ?_ | refine POrd_b_a ?_) | (first | refine POrd_gn_a ?_ | refine POrd_s_b ?_ | refine POrd_b_b ?_))
        refine POrd_call_b (h1) ?_
        repeat (first | (with_reducible first | refine PW_seq ?_ | refine PW_block ?_ | refine PW_region_lit ?_ | refine PW_skip ?_ | refine PW_exit ?_ | refine PW_ret ?_ | refine PW_label ?_ | refine POps_nil ?_ | refine POrd_nil ?_ | refine thenP_n ?_ | refine thenP_x ?_ | refine thenP_r ?_ | refine blockP_n ?_ | refine blockP_r ?_ | refine blockP_hit ?_ | refine blockP_miss rfl ?_) | (first | refine POps_s_a ?_ | refine POps_b_a ?_) | (first | refine POps_gn_a ?_ | refine POps_gs_a ?_ | refine POps_gb_a ?_) | (first | refine PW_cond_t_a ?_ | refine PW_cond_f_a ?_) | (first | refine POrd_s_a ?_ | refine POrd_b_a ?_) | (first | refine POrd_gn_a ?_ | refine POrd_s_b ?_ | refine POrd_b_b ?_))
        refine POrd_cat_a ?_
        repeat (first | (with_reducible first | refine PW_seq ?_ | refine PW_block ?_ | refine PW_region_lit ?_ | refine PW_skip ?_ | refine PW_exit ?_ | refine PW_ret ?_ | refine PW_label ?_ | refine POps_nil ?_ | refine POrd_nil ?_ | refine thenP_n ?_ | refine thenP_x ?_ | refine thenP_r ?_ | refine blockP_n ?_ | refine blockP_r ?_ | refine blockP_hit ?_ | refine blockP_miss rfl ?_) | (first | refine POps_s_a ?_ | refine POps_b_a ?_) | (first | refine POps_gn_a ?_ | refine POps_gs_a ?_ | refine POps_gb_a ?_) | (first | refine PW_cond_t_a ?_ | refine PW_cond_f_a ?_) | (first | refine POrd_s_a ?_ | refine POrd_b_a ?_) | (first | refine POrd_gn_a ?_ | refine POrd_s_b ?_ | refine POrd_b_b ?_))
        refine POrd_call_b (h2) ?_
        repeat (first | (with_reducible first | refine PW_seq ?_ | refine PW_block ?_ | refine PW_region_lit ?_ | refine PW_skip ?_ | refine PW_exit ?_ | refine PW_ret ?_ | refine PW_label ?_ | refine POps_nil ?_ | refine POrd_nil ?_ | refine thenP_n ?_ | refine thenP_x ?_ | refine thenP_r ?_ | refine blockP_n ?_ | refine blockP_r ?_ | refine blockP_hit ?_ | refine blockP_miss rfl ?_) | (first | refine POps_s_a ?_ | refine POps_b_a ?_) | (first | refine POps_gn_a ?_ | refine POps_gs_a ?_ | refine POps_gb_a ?_) | (first | refine PW_cond_t_a ?_ | refine PW_cond_f_a ?_) | (first | refine POrd_s_a ?_ | refine POrd_b_a ?_) | (first | refine POrd_gn_a ?_ | refine POrd_s_b ?_ | refine POrd_b_b ?_))
        refine POrd_cat_a ?_
        repeat (first | (with_reducible first | refine PW_seq ?_ | refine PW_block ?_ | refine PW_region_lit ?_ | refine PW_skip ?_ | refine PW_exit ?_ | refine PW_ret ?_ | refine PW_label ?_ | refine POps_nil ?_ | refine POrd_nil ?_ | refine thenP_n ?_ | refine thenP_x ?_ | refine thenP_r ?_ | refine blockP_n ?_ | refine blockP_r ?_ | refine blockP_hit ?_ | refine blockP_miss rfl ?_) | (first | refine POps_s_a ?_ | refine POps_b_a ?_) | (first | refine POps_gn_a ?_ | refine POps_gs_a ?_ | refine POps_gb_a ?_) | (first | refine PW_cond_t_a ?_ | refine PW_cond_f_a ?_) | (first | refine POrd_s_a ?_ | refine POrd_b_a ?_) | (first | refine POrd_gn_a ?_ | refine POrd_s_b ?_ | refine POrd_b_b ?_))
        refine retP_ok (by simp) (by simp only [Try.results75]; rfl) (by simp [resP, St.box?, PF.get, loadB, TyK.agg, *]; rfl) (List.nil_sublist _) ?_
        exact ⟨by rw [HE.out]; simp [tupP, PV.norm2, PV.norm1, PV.norm0], rfl⟩
      · have HE := Lib.hid (inL_pi 3 a n s x y rfl hsu)
        have hs' := ne_toList (b := #[95]) hsu
        generalize inL (.mk 3 a s n [x, y]) = txt at *
        have h1 := hx' 0 (by omega)
        have h2 := hy' 0 (by omega)
        have l1 := hlx 0
        have l2 := hly 0
        clear hlx hly hx' hy'
        simp only [aggD, encD_mk, List.map_cons, List.map_nil]
        refine PCalls.enter Try.func75 rfl Try.ntmps75 (by simp) ?_
        simp only [argsF]
        repeat (first | (with_reducible first | refine PW_seq ?_ | refine PW_block ?_ | refine PW_region_lit ?_ | refine PW_skip ?_ | refine PW_exit ?_ | refine PW_ret ?_ | refine PW_label ?_ | refine POps_nil ?_ | refine POrd_nil ?_ | refine thenP_n ?_ | refine thenP_x ?_ | refine thenP_r ?_ | refine blockP_n ?_ | refine blockP_r ?_ | refine blockP_hit ?_ | refine blockP_miss rfl ?_) | (first | refine POps_s_a ?_ | refine POps_b_a ?_) | (first | refine POps_gn_a ?_ | refine POps_gs_a ?_ | refine POps_gb_a ?_) | (first | refine PW_cond_t_a ?_ | refine PW_cond_f_a ?_) | (first | refine POrd_s_a ?_ | refine POrd_b_a ?_) | (first | refine POrd_gn_a ?_ | refine POrd_s_b ?_ | refine POrd_b_b ?_))
        refine POps_box_a ?_
        intro i0 hi0
        repeat (first | (with_reducible first | refine PW_seq ?_ | refine PW_block ?_ | refine PW_region_lit ?_ | refine PW_skip ?_ | refine PW_exit ?_ | refine PW_ret ?_ | refine PW_label ?_ | refine POps_nil ?_ | refine POrd_nil ?_ | refine thenP_n ?_ | refine thenP_x ?_ | refine thenP_r ?_ | refine blockP_n ?_ | refine blockP_r ?_ | refine blockP_hit ?_ | refine blockP_miss rfl ?_) | (first | refine POps_s_a ?_ | refine POps_b_a ?_) | (first | refine POps_gn_a ?_ | refine POps_gs_a ?_ | refine POps_gb_a ?_) | (first | refine PW_cond_t_a ?_ | refine PW_cond_f_a ?_) | (first | refine POrd_s_a ?_ | refine POrd_b_a ?_) | (first | refine POrd_gn_a ?_ | refine POrd_s_b ?_ | refine POrd_b_b ?_))
        refine PW_drawn [(0, .a), (1, .b), (2, .a), (3, .a), (4, .a), (5, .b), (6, .a), (7, .a), (8, .a), (9, .a), (10, .a), (11, .a), (12, .b), (13, .a), (14, .a), (15, .a), (16, .a), (17, .a)] (by kernel_rfl) (by rfl) (by kernel_rfl) ?_
        repeat (first | (with_reducible first | refine PW_seq ?_ | refine PW_block ?_ | refine PW_region_lit ?_ | refine PW_skip ?_ | refine PW_exit ?_ | refine PW_ret ?_ | refine PW_label ?_ | refine POps_nil ?_ | refine POrd_nil ?_ | refine thenP_n ?_ | refine thenP_x ?_ | refine thenP_r ?_ | refine blockP_n ?_ | refine blockP_r ?_ | refine blockP_hit ?_ | refine blockP_miss rfl ?_) | (first | refine POps_s_a ?_ | refine POps_b_a ?_) | (first | refine POps_gn_a ?_ | refine POps_gs_a ?_ | refine POps_gb_a ?_) | (first | refine PW_cond_t_a ?_ | refine PW_cond_f_a ?_) | (first | refine POrd_s_a ?_ | refine POrd_b_a ?_) | (first | refine POrd_gn_a ?_ | refine POrd_s_b ?_ | refine POrd_b_b ?_))
        refine POrd_cat_a ?_
        refine POrd_cat_a ?_
        repeat (first | (with_reducible first | refine PW_seq ?_ | refine PW_block ?_ | refine PW_region_lit ?_ | refine PW_skip ?_ | refine PW_exit ?_ | refine PW_ret ?_ | refine PW_label ?_ | refine POps_nil ?_ | refine POrd_nil ?_ | refine thenP_n ?_ | refine thenP_x ?_ | refine thenP_r ?_ | refine blockP_n ?_ | refine blockP_r ?_ | refine blockP_hit ?_ | refine blockP_miss rfl ?_) | (first | refine POps_s_a ?_ | refine POps_b_a ?_) | (first | refine POps_gn_a ?_ | refine POps_gs_a ?_ | refine POps_gb_a ?_) | (first | refine PW_cond_t_a ?_ | refine PW_cond_f_a ?_) | (first | refine POrd_s_a ?_ | refine POrd_b_a ?_) | (first | refine POrd_gn_a ?_ | refine POrd_s_b ?_ | refine POrd_b_b ?_))
        refine POrd_call_b (h1) ?_
        repeat (first | (with_reducible first | refine PW_seq ?_ | refine PW_block ?_ | refine PW_region_lit ?_ | refine PW_skip ?_ | refine PW_exit ?_ | refine PW_ret ?_ | refine PW_label ?_ | refine POps_nil ?_ | refine POrd_nil ?_ | refine thenP_n ?_ | refine thenP_x ?_ | refine thenP_r ?_ | refine blockP_n ?_ | refine blockP_r ?_ | refine blockP_hit ?_ | refine blockP_miss rfl ?_) | (first | refine POps_s_a ?_ | refine POps_b_a ?_) | (first | refine POps_gn_a ?_ | refine POps_gs_a ?_ | refine POps_gb_a ?_) | (first | refine PW_cond_t_a ?_ | refine PW_cond_f_a ?_) | (first | refine POrd_s_a ?_ | refine POrd_b_a ?_) | (first | refine POrd_gn_a ?_ | refine POrd_s_b ?_ | refine POrd_b_b ?_))
        refine POrd_cat_a ?_
        refine POrd_cat_a ?_
        repeat (first | (with_reducible first | refine PW_seq ?_ | refine PW_block ?_ | refine PW_region_lit ?_ | refine PW_skip ?_ | refine PW_exit ?_ | refine PW_ret ?_ | refine PW_label ?_ | refine POps_nil ?_ | refine POrd_nil ?_ | refine thenP_n ?_ | refine thenP_x ?_ | refine thenP_r ?_ | refine blockP_n ?_ | refine blockP_r ?_ | refine blockP_hit ?_ | refine blockP_miss rfl ?_) | (first | refine POps_s_a ?_ | refine POps_b_a ?_) | (first | refine POps_gn_a ?_ | refine POps_gs_a ?_ | refine POps_gb_a ?_) | (first | refine PW_cond_t_a ?_ | refine PW_cond_f_a ?_) | (first | refine POrd_s_a ?_ | refine POrd_b_a ?_) | (first | refine POrd_gn_a ?_ | refine POrd_s_b ?_ | refine POrd_b_b ?_))
        refine POrd_call_b (h2) ?_
        repeat (first | (with_reducible first | refine PW_seq ?_ | refine PW_block ?_ | refine PW_region_lit ?_ | refine PW_skip ?_ | refine PW_exit ?_ | refine PW_ret ?_ | refine PW_label ?_ | refine POps_nil ?_ | refine POrd_nil ?_ | refine thenP_n ?_ | refine thenP_x ?_ | refine thenP_r ?_ | refine blockP_n ?_ | refine blockP_r ?_ | refine blockP_hit ?_ | refine blockP_miss rfl ?_) | (first | refine POps_s_a ?_ | refine POps_b_a ?_) | (first | refine POps_gn_a ?_ | refine POps_gs_a ?_ | refine POps_gb_a ?_) | (first | refine PW_cond_t_a ?_ | refine PW_cond_f_a ?_) | (first | refine POrd_s_a ?_ | refine POrd_b_a ?_) | (first | refine POrd_gn_a ?_ | refine POrd_s_b ?_ | refine POrd_b_b ?_))
        refine POrd_cat_a ?_
        repeat (first | (with_reducible first | refine PW_seq ?_ | refine PW_block ?_ | refine PW_region_lit ?_ | refine PW_skip ?_ | refine PW_exit ?_ | refine PW_ret ?_ | refine PW_label ?_ | refine POps_nil ?_ | refine POrd_nil ?_ | refine thenP_n ?_ | refine thenP_x ?_ | refine thenP_r ?_ | refine blockP_n ?_ | refine blockP_r ?_ | refine blockP_hit ?_ | refine blockP_miss rfl ?_) | (first | refine POps_s_a ?_ | refine POps_b_a ?_) | (first | refine POps_gn_a ?_ | refine POps_gs_a ?_ | refine POps_gb_a ?_) | (first | refine PW_cond_t_a ?_ | refine PW_cond_f_a ?_) | (first | refine POrd_s_a ?_ | refine POrd_b_a ?_) | (first | refine POrd_gn_a ?_ | refine POrd_s_b ?_ | refine POrd_b_b ?_))
        refine retP_ok (by simp) (by simp only [Try.results75]; rfl) (by simp [resP, St.box?, PF.get, loadB, TyK.agg, *]; rfl) (List.nil_sublist _) ?_
        exact ⟨by rw [HE.out]; simp [binL, tupP, PV.norm2, PV.norm1, PV.norm0], rfl⟩
    · have HE := Lib.hid (inL_lam 4 a n s x y rfl)
      generalize inL (.mk 4 a s n [x, y]) = txt at *
      have h1 := hx' 0 (by omega)
      have h2 := hy' 0 (by omega)
      have l1 := hlx 0
      have l2 := hly 0
      clear hlx hly hx' hy'
      simp only [aggD, encD_mk, List.map_cons, List.map_nil]
      refine PCalls.enter Try.func75 rfl Try.ntmps75 (by simp) ?_
      simp only [argsF]
      repeat (first | (with_reducible first | refine PW_seq ?_ | refine PW_block ?_ | refine PW_region_lit ?_ | refine PW_skip ?_ | refine PW_exit ?_ | refine PW_ret ?_ | refine PW_label ?_ | refine POps_nil ?_ | refine POrd_nil ?_ | refine thenP_n ?_ | refine thenP_x ?_ | refine thenP_r ?_ | refine blockP_n ?_ | refine blockP_r ?_ | refine blockP_hit ?_ | refine blockP_miss rfl ?_) | (first | refine POps_s_a ?_ | refine POps_b_a ?_) | (first | refine POps_gn_a ?_ | refine POps_gs_a ?_ | refine POps_gb_a ?_) | (first | refine PW_cond_t_a ?_ | refine PW_cond_f_a ?_) | (first | refine POrd_s_a ?_ | refine POrd_b_a ?_) | (first | refine POrd_gn_a ?_ | refine POrd_s_b ?_ | refine POrd_b_b ?_))
      refine POps_box_a ?_
      intro i0 hi0
      repeat (first | (with_reducible first | refine PW_seq ?_ | refine PW_block ?_ | refine PW_region_lit ?_ | refine PW_skip ?_ | refine PW_exit ?_ | refine PW_ret ?_ | refine PW_label ?_ | refine POps_nil ?_ | refine POrd_nil ?_ | refine thenP_n ?_ | refine thenP_x ?_ | refine thenP_r ?_ | refine blockP_n ?_ | refine blockP_r ?_ | refine blockP_hit ?_ | refine blockP_miss rfl ?_) | (first | refine POps_s_a ?_ | refine POps_b_a ?_) | (first | refine POps_gn_a ?_ | refine POps_gs_a ?_ | refine POps_gb_a ?_) | (first | refine PW_cond_t_a ?_ | refine PW_cond_f_a ?_) | (first | refine POrd_s_a ?_ | refine POrd_b_a ?_) | (first | refine POrd_gn_a ?_ | refine POrd_s_b ?_ | refine POrd_b_b ?_))
      refine PW_drawn [(0, .a), (1, .b), (2, .a), (3, .a), (4, .a), (5, .b), (6, .a), (7, .a), (8, .a), (9, .a), (10, .a), (11, .a), (12, .b), (13, .a), (14, .a), (15, .a), (16, .a), (17, .a)] (by kernel_rfl) (by rfl) (by kernel_rfl) ?_
      repeat (first | (with_reducible first | refine PW_seq ?_ | refine PW_block ?_ | refine PW_region_lit ?_ | refine PW_skip ?_ | refine PW_exit ?_ | refine PW_ret ?_ | refine PW_label ?_ | refine POps_nil ?_ | refine POrd_nil ?_ | refine thenP_n ?_ | refine thenP_x ?_ | refine thenP_r ?_ | refine blockP_n ?_ | refine blockP_r ?_ | refine blockP_hit ?_ | refine blockP_miss rfl ?_) | (first | refine POps_s_a ?_ | refine POps_b_a ?_) | (first | refine POps_gn_a ?_ | refine POps_gs_a ?_ | refine POps_gb_a ?_) | (first | refine PW_cond_t_a ?_ | refine PW_cond_f_a ?_) | (first | refine POrd_s_a ?_ | refine POrd_b_a ?_) | (first | refine POrd_gn_a ?_ | refine POrd_s_b ?_ | refine POrd_b_b ?_))
      refine POrd_cat_a ?_
      refine POrd_cat_a ?_
      repeat (first | (with_reducible first | refine PW_seq ?_ | refine PW_block ?_ | refine PW_region_lit ?_ | refine PW_skip ?_ | refine PW_exit ?_ | refine PW_ret ?_ | refine PW_label ?_ | refine POps_nil ?_ | refine POrd_nil ?_ | refine thenP_n ?_ | refine thenP_x ?_ | refine thenP_r ?_ | refine blockP_n ?_ | refine blockP_r ?_ | refine blockP_hit ?_ | refine blockP_miss rfl ?_) | (first | refine POps_s_a ?_ | refine POps_b_a ?_) | (first | refine POps_gn_a ?_ | refine POps_gs_a ?_ | refine POps_gb_a ?_) | (first | refine PW_cond_t_a ?_ | refine PW_cond_f_a ?_) | (first | refine POrd_s_a ?_ | refine POrd_b_a ?_) | (first | refine POrd_gn_a ?_ | refine POrd_s_b ?_ | refine POrd_b_b ?_))
      refine POrd_call_b (h1) ?_
      repeat (first | (with_reducible first | refine PW_seq ?_ | refine PW_block ?_ | refine PW_region_lit ?_ | refine PW_skip ?_ | refine PW_exit ?_ | refine PW_ret ?_ | refine PW_label ?_ | refine POps_nil ?_ | refine POrd_nil ?_ | refine thenP_n ?_ | refine thenP_x ?_ | refine thenP_r ?_ | refine blockP_n ?_ | refine blockP_r ?_ | refine blockP_hit ?_ | refine blockP_miss rfl ?_) | (first | refine POps_s_a ?_ | refine POps_b_a ?_) | (first | refine POps_gn_a ?_ | refine POps_gs_a ?_ | refine POps_gb_a ?_) | (first | refine PW_cond_t_a ?_ | refine PW_cond_f_a ?_) | (first | refine POrd_s_a ?_ | refine POrd_b_a ?_) | (first | refine POrd_gn_a ?_ | refine POrd_s_b ?_ | refine POrd_b_b ?_))
      refine POrd_cat_a ?_
      refine POrd_cat_a ?_
      repeat (first | (with_reducible first | refine PW_seq ?_ | refine PW_block ?_ | refine PW_region_lit ?_ | refine PW_skip ?_ | refine PW_exit ?_ | refine PW_ret ?_ | refine PW_label ?_ | refine POps_nil ?_ | refine POrd_nil ?_ | refine thenP_n ?_ | refine thenP_x ?_ | refine thenP_r ?_ | refine blockP_n ?_ | refine blockP_r ?_ | refine blockP_hit ?_ | refine blockP_miss rfl ?_) | (first | refine POps_s_a ?_ | refine POps_b_a ?_) | (first | refine POps_gn_a ?_ | refine POps_gs_a ?_ | refine POps_gb_a ?_) | (first | refine PW_cond_t_a ?_ | refine PW_cond_f_a ?_) | (first | refine POrd_s_a ?_ | refine POrd_b_a ?_) | (first | refine POrd_gn_a ?_ | refine POrd_s_b ?_ | refine POrd_b_b ?_))
      refine POrd_call_b (h2) ?_
      repeat (first | (with_reducible first | refine PW_seq ?_ | refine PW_block ?_ | refine PW_region_lit ?_ | refine PW_skip ?_ | refine PW_exit ?_ | refine PW_ret ?_ | refine PW_label ?_ | refine POps_nil ?_ | refine POrd_nil ?_ | refine thenP_n ?_ | refine thenP_x ?_ | refine thenP_r ?_ | refine blockP_n ?_ | refine blockP_r ?_ | refine blockP_hit ?_ | refine blockP_miss rfl ?_) | (first | refine POps_s_a ?_ | refine POps_b_a ?_) | (first | refine POps_gn_a ?_ | refine POps_gs_a ?_ | refine POps_gb_a ?_) | (first | refine PW_cond_t_a ?_ | refine PW_cond_f_a ?_) | (first | refine POrd_s_a ?_ | refine POrd_b_a ?_) | (first | refine POrd_gn_a ?_ | refine POrd_s_b ?_ | refine POrd_b_b ?_))
      refine POrd_cat_a ?_
      repeat (first | (with_reducible first | refine PW_seq ?_ | refine PW_block ?_ | refine PW_region_lit ?_ | refine PW_skip ?_ | refine PW_exit ?_ | refine PW_ret ?_ | refine PW_label ?_ | refine POps_nil ?_ | refine POrd_nil ?_ | refine thenP_n ?_ | refine thenP_x ?_ | refine thenP_r ?_ | refine blockP_n ?_ | refine blockP_r ?_ | refine blockP_hit ?_ | refine blockP_miss rfl ?_) | (first | refine POps_s_a ?_ | refine POps_b_a ?_) | (first | refine POps_gn_a ?_ | refine POps_gs_a ?_ | refine POps_gb_a ?_) | (first | refine PW_cond_t_a ?_ | refine PW_cond_f_a ?_) | (first | refine POrd_s_a ?_ | refine POrd_b_a ?_) | (first | refine POrd_gn_a ?_ | refine POrd_s_b ?_ | refine POrd_b_b ?_))
      refine POps_cat_a ?_
      repeat (first | (with_reducible first | refine PW_seq ?_ | refine PW_block ?_ | refine PW_region_lit ?_ | refine PW_skip ?_ | refine PW_exit ?_ | refine PW_ret ?_ | refine PW_label ?_ | refine POps_nil ?_ | refine POrd_nil ?_ | refine thenP_n ?_ | refine thenP_x ?_ | refine thenP_r ?_ | refine blockP_n ?_ | refine blockP_r ?_ | refine blockP_hit ?_ | refine blockP_miss rfl ?_) | (first | refine POps_s_a ?_ | refine POps_b_a ?_) | (first | refine POps_gn_a ?_ | refine POps_gs_a ?_ | refine POps_gb_a ?_) | (first | refine PW_cond_t_a ?_ | refine PW_cond_f_a ?_) | (first | refine POrd_s_a ?_ | refine POrd_b_a ?_) | (first | refine POrd_gn_a ?_ | refine POrd_s_b ?_ | refine POrd_b_b ?_))
      refine retP_ok (by simp) (by simp only [Try.results75]; rfl) (by simp [resP, St.box?, PF.get, loadB, TyK.agg, *]; rfl) (List.nil_sublist _) ?_
      exact ⟨by rw [HE.out]; simp [binL, tupP, PV.norm2, PV.norm1, PV.norm0], rfl⟩
    · have HE := Lib.hid (inL_app 5 a n s x y rfl)
      generalize inL (.mk 5 a s n [x, y]) = txt at *
      have h1 := hx' 1 (by omega)
      have h2 := hy' 2 (by omega)
      have l1 := hlx 1
      have l2 := hly 2
      clear hlx hly hx' hy'
      simp only [aggD, encD_mk, List.map_cons, List.map_nil]
      refine PCalls.enter Try.func75 rfl Try.ntmps75 (by simp) ?_
      simp only [argsF]
      repeat (first | (with_reducible first | refine PW_seq ?_ | refine PW_block ?_ | refine PW_region_lit ?_ | refine PW_skip ?_ | refine PW_exit ?_ | refine PW_ret ?_ | refine PW_label ?_ | refine POps_nil ?_ | refine POrd_nil ?_ | refine thenP_n ?_ | refine thenP_x ?_ | refine thenP_r ?_ | refine blockP_n ?_ | refine blockP_r ?_ | refine blockP_hit ?_ | refine blockP_miss rfl ?_) | (first | refine POps_s_a ?_ | refine POps_b_a ?_) | (first | refine POps_gn_a ?_ | refine POps_gs_a ?_ | refine POps_gb_a ?_) | (first | refine PW_cond_t_a ?_ | refine PW_cond_f_a ?_) | (first | refine POrd_s_a ?_ | refine POrd_b_a ?_) | (first | refine POrd_gn_a ?_ | refine POrd_s_b ?_ | refine POrd_b_b ?_))
      refine POps_box_a ?_
      intro i0 hi0
      repeat (first | (with_reducible first | refine PW_seq ?_ | refine PW_block ?_ | refine PW_region_lit ?_ | refine PW_skip ?_ | refine PW_exit ?_ | refine PW_ret ?_ | refine PW_label ?_ | refine POps_nil ?_ | refine POrd_nil ?_ | refine thenP_n ?_ | refine thenP_x ?_ | refine thenP_r ?_ | refine blockP_n ?_ | refine blockP_r ?_ | refine blockP_hit ?_ | refine blockP_miss rfl ?_) | (first | refine POps_s_a ?_ | refine POps_b_a ?_) | (first | refine POps_gn_a ?_ | refine POps_gs_a ?_ | refine POps_gb_a ?_) | (first | refine PW_cond_t_a ?_ | refine PW_cond_f_a ?_) | (first | refine POrd_s_a ?_ | refine POrd_b_a ?_) | (first | refine POrd_gn_a ?_ | refine POrd_s_b ?_ | refine POrd_b_b ?_))
      refine PW_drawn [(0, .a), (1, .b), (2, .a), (3, .a), (4, .a), (5, .a), (6, .a), (7, .b), (8, .a), (9, .a), (10, .a), (11, .a), (12, .a)] (by kernel_rfl) (by rfl) (by kernel_rfl) ?_
      repeat (first | (with_reducible first | refine PW_seq ?_ | refine PW_block ?_ | refine PW_region_lit ?_ | refine PW_skip ?_ | refine PW_exit ?_ | refine PW_ret ?_ | refine PW_label ?_ | refine POps_nil ?_ | refine POrd_nil ?_ | refine thenP_n ?_ | refine thenP_x ?_ | refine thenP_r ?_ | refine blockP_n ?_ | refine blockP_r ?_ | refine blockP_hit ?_ | refine blockP_miss rfl ?_) | (first | refine POps_s_a ?_ | refine POps_b_a ?_) | (first | refine POps_gn_a ?_ | refine POps_gs_a ?_ | refine POps_gb_a ?_) | (first | refine PW_cond_t_a ?_ | refine PW_cond_f_a ?_) | (first | refine POrd_s_a ?_ | refine POrd_b_a ?_) | (first | refine POrd_gn_a ?_ | refine POrd_s_b ?_ | refine POrd_b_b ?_))
      refine POrd_call_b (h1) ?_
      repeat (first | (with_reducible first | refine PW_seq ?_ | refine PW_block ?_ | refine PW_region_lit ?_ | refine PW_skip ?_ | refine PW_exit ?_ | refine PW_ret ?_ | refine PW_label ?_ | refine POps_nil ?_ | refine POrd_nil ?_ | refine thenP_n ?_ | refine thenP_x ?_ | refine thenP_r ?_ | refine blockP_n ?_ | refine blockP_r ?_ | refine blockP_hit ?_ | refine blockP_miss rfl ?_) | (first | refine POps_s_a ?_ | refine POps_b_a ?_) | (first | refine POps_gn_a ?_ | refine POps_gs_a ?_ | refine POps_gb_a ?_) | (first | refine PW_cond_t_a ?_ | refine PW_cond_f_a ?_) | (first | refine POrd_s_a ?_ | refine POrd_b_a ?_) | (first | refine POrd_gn_a ?_ | refine POrd_s_b ?_ | refine POrd_b_b ?_))
      refine POrd_cat_a ?_
      repeat (first | (with_reducible first | refine PW_seq ?_ | refine PW_block ?_ | refine PW_region_lit ?_ | refine PW_skip ?_ | refine PW_exit ?_ | refine PW_ret ?_ | refine PW_label ?_ | refine POps_nil ?_ | refine POrd_nil ?_ | refine thenP_n ?_ | refine thenP_x ?_ | refine thenP_r ?_ | refine blockP_n ?_ | refine blockP_r ?_ | refine blockP_hit ?_ | refine blockP_miss rfl ?_) | (first | refine POps_s_a ?_ | refine POps_b_a ?_) | (first | refine POps_gn_a ?_ | refine POps_gs_a ?_ | refine POps_gb_a ?_) | (first | refine PW_cond_t_a ?_ | refine PW_cond_f_a ?_) | (first | refine POrd_s_a ?_ | refine POrd_b_a ?_) | (first | refine POrd_gn_a ?_ | refine POrd_s_b ?_ | refine POrd_b_b ?_))
      refine POrd_call_b (h2) ?_
      repeat (first | (with_reducible first | refine PW_seq ?_ | refine PW_block ?_ | refine PW_region_lit ?_ | refine PW_skip ?_ | refine PW_exit ?_ | refine PW_ret ?_ | refine PW_label ?_ | refine POps_nil ?_ | refine POrd_nil ?_ | refine thenP_n ?_ | refine thenP_x ?_ | refine thenP_r ?_ | refine blockP_n ?_ | refine blockP_r ?_ | refine blockP_hit ?_ | refine blockP_miss rfl ?_) | (first | refine POps_s_a ?_ | refine POps_b_a ?_) | (first | refine POps_gn_a ?_ | refine POps_gs_a ?_ | refine POps_gb_a ?_) | (first | refine PW_cond_t_a ?_ | refine PW_cond_f_a ?_) | (first | refine POrd_s_a ?_ | refine POrd_b_a ?_) | (first | refine POrd_gn_a ?_ | refine POrd_s_b ?_ | refine POrd_b_b ?_))
      refine POrd_cat_a ?_
      repeat (first | (with_reducible first | refine PW_seq ?_ | refine PW_block ?_ | refine PW_region_lit ?_ | refine PW_skip ?_ | refine PW_exit ?_ | refine PW_ret ?_ | refine PW_label ?_ | refine POps_nil ?_ | refine POrd_nil ?_ | refine thenP_n ?_ | refine thenP_x ?_ | refine thenP_r ?_ | refine blockP_n ?_ | refine blockP_r ?_ | refine blockP_hit ?_ | refine blockP_miss rfl ?_) | (first | refine POps_s_a ?_ | refine POps_b_a ?_) | (first | refine POps_gn_a ?_ | refine POps_gs_a ?_ | refine POps_gb_a ?_) | (first | refine PW_cond_t_a ?_ | refine PW_cond_f_a ?_) | (first | refine POrd_s_a ?_ | refine POrd_b_a ?_) | (first | refine POrd_gn_a ?_ | refine POrd_s_b ?_ | refine POrd_b_b ?_))
      refine retP_ok (by simp) (by simp only [Try.results75]; rfl) (by simp [resP, St.box?, PF.get, loadB, TyK.agg, *]; rfl) (List.nil_sublist _) ?_
      exact ⟨by rw [HE.out]; simp [tupP, PV.norm2, PV.norm1, PV.norm0], rfl⟩
theorem rex_w : ∀ (m : Nat) (t : Nd), SizeOf.sizeOf t ≤ m → goodT t false = true → ndT t ≤ 100000000 → ∀ lv, lv ≤ 8 → RxC t lv := by
  intro m
  induction m with
  | zero => intro t h; cases t; simp at h
  | succ m ih =>
    intro t h hg hs lv hlv
    refine rex_of_in t lv hlv hg hs (rin_step t hg hs fun x hx lv hlv => ?_)
    have h2 := nd_mem hx
    have h3 := nd_sub t
    obtain ⟨k, a, s, n, sub⟩ := t
    have hlt : SizeOf.sizeOf x ≤ m := by
      have := List.sizeOf_lt_of_mem hx
      simp only [Nd.sub] at this
      simp at h
      omega
    rcases ex_cases hg with ⟨_, rfl⟩ | ⟨_, rfl, _⟩ | ⟨y, z, _, rfl, hy, hz⟩
    · simp [Nd.sub] at hx
    · simp [Nd.sub] at hx
    · simp only [Nd.sub, List.mem_cons, List.not_mem_nil, or_false] at hx
      rcases hx with rfl | rfl
      · exact ih _ hlt hy (by omega) lv hlv
      · exact ih _ hlt hz (by omega) lv hlv
end Go.Proofs.Ytffgfjnbgplckaa

namespace Go.Proofs.Ytffgfjnbgplckaa
open Go.RowKit
set_option maxRecDepth 100000
section
variable {P : Program} {n : Nat} {ops : Array Oper} {Q : PF → St → Prop} {rest : List Oper} {fr : PF} {st : St} {t rt ty : TypeId} {x y : Operand} {pos : String} {after : Array Edge} {gd : Option (Nat × Bool)} {d j : Nat} {od : List (Nat × Kd)}
theorem POps_callV {fo : Operand} {f : FuncId} {xs : Array Operand} {ts : Array TypeId} {ps qs : List PV} {r : PV} (hc : PCalls P f qs [] fun p s => p = r ∧ s = []) (hd : d < n) (hw : PF.wants fr ops ⟨some d, .call { callee := .value fo, args := xs, argTypes := ts }, ty, pos, after, gd⟩ = some true) (hf : fr.eval fo = some (.fn (.func f) [] [])) (hxs : evalArgs fr.eval xs.toList = some ps) (hn : ps.map PV.norm1 = qs) (hca : callable P f = true)
    (h : POps P n ops Q rest ((d, r) :: fr) st) : POps P n ops Q (⟨some d, .call { callee := .value fo, args := xs, argTypes := ts }, ty, pos, after, gd⟩ :: rest) fr st := by
  refine POps_e hd hw (POp_call (st0 := []) (st1 := st) (first := []) (cap := []) rfl hf hxs hca (List.Perm.refl _) (R0 := fun p s => p = r ∧ s = []) ?_ ?_)
  · simp only [List.nil_append, List.append_nil]
    subst hn
    exact hc.args_norm
  · rintro p s0 ⟨rfl, rfl⟩
    exact h
theorem POp_from {o : Oper} {ρ : Operand → Option PV} {t : TypeId} {x : Operand} {i : Nat} {s : ByteArray} (ho : o.op = .slice t x (some (.const (.int .i64 i))) none none) (ht : P.underlying t = some .string) (hx : ρ x = some (.d (.v (.string s)))) (hi : i ≤ s.size) (st : St) : POp P o ρ st fun q s' => q = .d (.v (.string (s.extract i s.size))) ∧ s' = st := by
  refine POp.of_run fun F K w a h1 h2 => ?_
  obtain ⟨od, op, ty, pos, after, guard⟩ := o
  simp only at ho h2
  subst ho
  have hr := h2 x (by simp [Op.operands]) _ hx
  generalize hv : a.eval x = v at hr
  cases hr with
  | d hr =>
    cases hr with
    | v hok =>
      have hok' : (s.extract i s.size).size ≤ maxLen := by
        have hok2 : s.size ≤ maxLen := hok
        rw [ByteArray.size_extract]; omega
      refine ⟨.string (s.extract i s.size), w, K, _, st, ?_, Ext.refl _ _ _, h1, .d (.v hok'), rfl, rfl⟩
      simp only [execOp, Option.map, hv]
      rw [Sem.run_bind, run_sliceAt_string _ _ _ _ _ _ ht]
      have := run_slice_string_l (P := P) w t s ht .i64 (i : Int) (by omega) (by omega)
      rw [show a.eval (.const (.int .i64 (i : Int))) = .int .i64 (i : Int) from rfl, this]
      rfl
end
theorem name_p (s : ByteArray) : PCalls Try.prog 70 [.d (.v (.string s))] [] fun p st => p = aggD (Nd.mk 1 0 s 0 []) ∧ st = [] := by
  refine PCalls.enter Try.func70 rfl Try.ntmps70 (by simp) ?_
  simp only [argsF]
  repeat (first | (with_reducible first | refine PW_seq ?_ | refine PW_block ?_ | refine PW_region_lit ?_ | refine PW_skip ?_ | refine PW_exit ?_ | refine PW_ret ?_ | refine PW_label ?_ | refine POps_nil ?_ | refine POrd_nil ?_ | refine thenP_n ?_ | refine thenP_x ?_ | refine thenP_r ?_ | refine blockP_n ?_ | refine blockP_r ?_ | refine blockP_hit ?_ | refine blockP_miss rfl ?_) | (first | refine POps_s_a ?_ | refine POps_b_a ?_) | (first | refine POps_gn_a ?_ | refine POps_gs_a ?_ | refine POps_gb_a ?_) | (first | refine PW_cond_t_a ?_ | refine PW_cond_f_a ?_) | (first | refine POrd_s_a ?_ | refine POrd_b_a ?_) | (first | refine POrd_gn_a ?_ | refine POrd_s_b ?_ | refine POrd_b_b ?_))
  refine POps_alloc_a ?_
  intro i0 hi0
  repeat (first | (with_reducible first | refine PW_seq ?_ | refine PW_block ?_ | refine PW_region_lit ?_ | refine PW_skip ?_ | refine PW_exit ?_ | refine PW_ret ?_ | refine PW_label ?_ | refine POps_nil ?_ | refine POrd_nil ?_ | refine thenP_n ?_ | refine thenP_x ?_ | refine thenP_r ?_ | refine blockP_n ?_ | refine blockP_r ?_ | refine blockP_hit ?_ | refine blockP_miss rfl ?_) | (first | refine POps_s_a ?_ | refine POps_b_a ?_) | (first | refine POps_gn_a ?_ | refine POps_gs_a ?_ | refine POps_gb_a ?_) | (first | refine PW_cond_t_a ?_ | refine PW_cond_f_a ?_) | (first | refine POrd_s_a ?_ | refine POrd_b_a ?_) | (first | refine POrd_gn_a ?_ | refine POrd_s_b ?_ | refine POrd_b_b ?_))
  refine POps_store_a ?_
  repeat (first | (with_reducible first | refine PW_seq ?_ | refine PW_block ?_ | refine PW_region_lit ?_ | refine PW_skip ?_ | refine PW_exit ?_ | refine PW_ret ?_ | refine PW_label ?_ | refine POps_nil ?_ | refine POrd_nil ?_ | refine thenP_n ?_ | refine thenP_x ?_ | refine thenP_r ?_ | refine blockP_n ?_ | refine blockP_r ?_ | refine blockP_hit ?_ | refine blockP_miss rfl ?_) | (first | refine POps_s_a ?_ | refine POps_b_a ?_) | (first | refine POps_gn_a ?_ | refine POps_gs_a ?_ | refine POps_gb_a ?_) | (first | refine PW_cond_t_a ?_ | refine PW_cond_f_a ?_) | (first | refine POrd_s_a ?_ | refine POrd_b_a ?_) | (first | refine POrd_gn_a ?_ | refine POrd_s_b ?_ | refine POrd_b_b ?_))
  refine retP_ok (by simp) (by simp only [Try.results70]; rfl) (by simp [resP, St.box?, PF.get, loadB, TyK.agg, *]; rfl) (List.nil_sublist _) ?_
  exact ⟨rfl, rfl⟩
theorem arrow_p (a b : Nd) : PCalls Try.prog 69 [aggD a, aggD b] [] fun p st => p = aggD (Nd.mk 3 0 ⟨#[95]⟩ 0 [a, b]) ∧ st = [] := by
  have hE := encD_mk 3 0 0 ⟨#[95]⟩ [a, b]
  simp only [List.map_cons, List.map_nil, encD_nd a, encD_nd b] at hE
  simp only [aggD, encD_nd a, encD_nd b, List.map_cons, List.map_nil]
  refine PCalls.enter Try.func69 rfl Try.ntmps69 (by simp) ?_
  simp only [argsF]
  repeat (first | (with_reducible first | refine PW_seq ?_ | refine PW_block ?_ | refine PW_region_lit ?_ | refine PW_skip ?_ | refine PW_exit ?_ | refine PW_ret ?_ | refine PW_label ?_ | refine POps_nil ?_ | refine POrd_nil ?_ | refine thenP_n ?_ | refine thenP_x ?_ | refine thenP_r ?_ | refine blockP_n ?_ | refine blockP_r ?_ | refine blockP_hit ?_ | refine blockP_miss rfl ?_) | (first | refine POps_s_a ?_ | refine POps_b_a ?_) | (first | refine POps_gn_a ?_ | refine POps_gs_a ?_ | refine POps_gb_a ?_) | (first | refine PW_cond_t_a ?_ | refine PW_cond_f_a ?_) | (first | refine POrd_s_a ?_ | refine POrd_b_a ?_) | (first | refine POrd_gn_a ?_ | refine POrd_s_b ?_ | refine POrd_b_b ?_))
  refine POps_box_a ?_
  intro i0 hi0
  refine POps_box_a ?_
  intro i1 hi1
  simp only [St.freshB_box, St.freshB_nil] at hi1
  refine POps_alloc_a ?_
  intro i2 hi2
  simp only [St.freshB_box, St.freshB_nil] at hi2
  repeat (first | (with_reducible first | refine PW_seq ?_ | refine PW_block ?_ | refine PW_region_lit ?_ | refine PW_skip ?_ | refine PW_exit ?_ | refine PW_ret ?_ | refine PW_label ?_ | refine POps_nil ?_ | refine POrd_nil ?_ | refine thenP_n ?_ | refine thenP_x ?_ | refine thenP_r ?_ | refine blockP_n ?_ | refine blockP_r ?_ | refine blockP_hit ?_ | refine blockP_miss rfl ?_) | (first | refine POps_s_a ?_ | refine POps_b_a ?_) | (first | refine POps_gn_a ?_ | refine POps_gs_a ?_ | refine POps_gb_a ?_) | (first | refine PW_cond_t_a ?_ | refine PW_cond_f_a ?_) | (first | refine POrd_s_a ?_ | refine POrd_b_a ?_) | (first | refine POrd_gn_a ?_ | refine POrd_s_b ?_ | refine POrd_b_b ?_))
  refine POps_bs_a ?_
  repeat (first | (with_reducible first | refine PW_seq ?_ | refine PW_block ?_ | refine PW_region_lit ?_ | refine PW_skip ?_ | refine PW_exit ?_ | refine PW_ret ?_ | refine PW_label ?_ | refine POps_nil ?_ | refine POrd_nil ?_ | refine thenP_n ?_ | refine thenP_x ?_ | refine thenP_r ?_ | refine blockP_n ?_ | refine blockP_r ?_ | refine blockP_hit ?_ | refine blockP_miss rfl ?_) | (first | refine POps_s_a ?_ | refine POps_b_a ?_) | (first | refine POps_gn_a ?_ | refine POps_gs_a ?_ | refine POps_gb_a ?_) | (first | refine PW_cond_t_a ?_ | refine PW_cond_f_a ?_) | (first | refine POrd_s_a ?_ | refine POrd_b_a ?_) | (first | refine POrd_gn_a ?_ | refine POrd_s_b ?_ | refine POrd_b_b ?_))
  refine POps_store_a ?_
  repeat (first | (with_reducible first | refine PW_seq ?_ | refine PW_block ?_ | refine PW_region_lit ?_ | refine PW_skip ?_ | refine PW_exit ?_ | refine PW_ret ?_ | refine PW_label ?_ | refine POps_nil ?_ | refine POrd_nil ?_ | refine thenP_n ?_ | refine thenP_x ?_ | refine thenP_r ?_ | refine blockP_n ?_ | refine blockP_r ?_ | refine blockP_hit ?_ | refine blockP_miss rfl ?_) | (first | refine POps_s_a ?_ | refine POps_b_a ?_) | (first | refine POps_gn_a ?_ | refine POps_gs_a ?_ | refine POps_gb_a ?_) | (first | refine PW_cond_t_a ?_ | refine PW_cond_f_a ?_) | (first | refine POrd_s_a ?_ | refine POrd_b_a ?_) | (first | refine POrd_gn_a ?_ | refine POrd_s_b ?_ | refine POrd_b_b ?_))
  refine retP_ok (by simp) (by simp only [Try.results69]; rfl) (by simp [resP, St.box?, PF.get, loadB, TyK.agg, *]; rfl) (List.nil_sublist _) ?_
  refine ⟨?_, rfl⟩
  rw [hE]
  rfl
def aw6 : Nd := .mk 3 0 ⟨#[95]⟩ 0 [.mk 3 0 ⟨#[95]⟩ 0 [.mk 1 0 ⟨#[65]⟩ 0 [], .mk 1 0 ⟨#[66]⟩ 0 []], .mk 1 0 ⟨#[67]⟩ 0 []]
theorem aw_text : exprR aw6 = .tup [.d (.v (.string ⟨#[40, 65, 32, 45, 62, 32, 66, 41, 32, 45, 62, 32, 67]⟩)), .d (.v (.int .i64 0))] := by
  have h1 : exprB aw6 = true := by decide +kernel
  have h2 : exL aw6 0 = [40, 65, 32, 45, 62, 32, 66, 41, 32, 45, 62, 32, 67] := by
    unfold aw6 exL
    rw [inL_arrow _ _ _ _ _ _ rfl rfl]
    unfold exL
    rw [inL_arrow _ _ _ _ _ _ rfl rfl]
    unfold exL
    simp only [inL_name _ _ _ _ rfl]
    simp [par, wrapL, Nd.kind]
  unfold exprR
  rw [if_pos h1, h2]
  rfl
theorem num_aw : numS (-10) = ⟨#[45, 49, 48]⟩ := by
  rw [numS, if_pos (by omega)]
  unfold decS
  rw [show (-10 : Int).natAbs = 10 from rfl, decL_step 10 (by omega), decL_small (10 / 10) (by omega)]
  rfl
set_option maxHeartbeats 4000000 in
theorem awake6_p : PCalls Try.prog 37 [] [] fun p st => p = .d (.v (.bool true)) ∧ st = [] := by
  have hN := pexpr_p aw6
  rw [aw_text] at hN
  unfold aw6 at hN
  have hP := pnum_p (-10) (by omega) (by omega)
  rw [num_aw] at hP
  refine PCalls.enter Try.func37 rfl Try.ntmps37 (by simp) ?_
  simp only [argsF]
  repeat (first | (with_reducible first | refine PW_seq ?_ | refine PW_block ?_ | refine PW_region_lit ?_ | refine PW_skip ?_ | refine PW_exit ?_ | refine PW_ret ?_ | refine PW_label ?_ | refine POps_nil ?_ | refine POrd_nil ?_ | refine thenP_n ?_ | refine thenP_x ?_ | refine thenP_r ?_ | refine blockP_n ?_ | refine blockP_r ?_ | refine blockP_hit ?_ | refine blockP_miss rfl ?_) | (first | refine POps_s_a ?_ | refine POps_b_a ?_) | (first | refine POps_gn_a ?_ | refine POps_gs_a ?_ | refine POps_gb_a ?_) | (first | refine PW_cond_t_a ?_ | refine PW_cond_f_a ?_) | (first | refine POrd_s_a ?_ | refine POrd_b_a ?_) | (first | refine POrd_gn_a ?_ | refine POrd_s_b ?_ | refine POrd_b_b ?_))
  refine POps_call_a (name_p ⟨#[65]⟩) ?_
  repeat (first | (with_reducible first | refine PW_seq ?_ | refine PW_block ?_ | refine PW_region_lit ?_ | refine PW_skip ?_ | refine PW_exit ?_ | refine PW_ret ?_ | refine PW_label ?_ | refine POps_nil ?_ | refine POrd_nil ?_ | refine thenP_n ?_ | refine thenP_x ?_ | refine thenP_r ?_ | refine blockP_n ?_ | refine blockP_r ?_ | refine blockP_hit ?_ | refine blockP_miss rfl ?_) | (first | refine POps_s_a ?_ | refine POps_b_a ?_) | (first | refine POps_gn_a ?_ | refine POps_gs_a ?_ | refine POps_gb_a ?_) | (first | refine PW_cond_t_a ?_ | refine PW_cond_f_a ?_) | (first | refine POrd_s_a ?_ | refine POrd_b_a ?_) | (first | refine POrd_gn_a ?_ | refine POrd_s_b ?_ | refine POrd_b_b ?_))
  refine POps_call_a (name_p ⟨#[66]⟩) ?_
  repeat (first | (with_reducible first | refine PW_seq ?_ | refine PW_block ?_ | refine PW_region_lit ?_ | refine PW_skip ?_ | refine PW_exit ?_ | refine PW_ret ?_ | refine PW_label ?_ | refine POps_nil ?_ | refine POrd_nil ?_ | refine thenP_n ?_ | refine thenP_x ?_ | refine thenP_r ?_ | refine blockP_n ?_ | refine blockP_r ?_ | refine blockP_hit ?_ | refine blockP_miss rfl ?_) | (first | refine POps_s_a ?_ | refine POps_b_a ?_) | (first | refine POps_gn_a ?_ | refine POps_gs_a ?_ | refine POps_gb_a ?_) | (first | refine PW_cond_t_a ?_ | refine PW_cond_f_a ?_) | (first | refine POrd_s_a ?_ | refine POrd_b_a ?_) | (first | refine POrd_gn_a ?_ | refine POrd_s_b ?_ | refine POrd_b_b ?_))
  refine POps_callV (arrow_p (.mk 1 0 ⟨#[65]⟩ 0 []) (.mk 1 0 ⟨#[66]⟩ 0 [])) (by decide) rfl (by first | (simp [nev, nevA, nevB, evBuild, PF.eval, PF.get, PF.wants, cPV, cCell, PV.rows, evBin, evUn, evConv, evLen, loadA, loadB, TyK.agg, partA, St.box?, St.tok?, St.setBox, St.setTok, fillO, spl, PV.ps, PV.one, evalArgs, aggD, slD, encD_nd, encD_bd, encD_rw, encD_dc, encD_str, encD_int, *]; done) | fail) (by simp [nev, nevA, nevB, evBuild, PF.eval, PF.get, PF.wants, cPV, cCell, PV.rows, evBin, evUn, evConv, evLen, loadA, loadB, TyK.agg, partA, St.box?, St.tok?, St.setBox, St.setTok, fillO, spl, PV.ps, PV.one, evalArgs, aggD, slD, encD_nd, encD_bd, encD_rw, encD_dc, encD_str, encD_int, *]; rfl) (by first | (simp [PV.norm1, PV.norm0, aggD, slD, encD_nd, encD_bd, encD_rw, encD_dc, encD_str]; done) | fail) rfl ?_
  repeat (first | (with_reducible first | refine PW_seq ?_ | refine PW_block ?_ | refine PW_region_lit ?_ | refine PW_skip ?_ | refine PW_exit ?_ | refine PW_ret ?_ | refine PW_label ?_ | refine POps_nil ?_ | refine POrd_nil ?_ | refine thenP_n ?_ | refine thenP_x ?_ | refine thenP_r ?_ | refine blockP_n ?_ | refine blockP_r ?_ | refine blockP_hit ?_ | refine blockP_miss rfl ?_) | (first | refine POps_s_a ?_ | refine POps_b_a ?_) | (first | refine POps_gn_a ?_ | refine POps_gs_a ?_ | refine POps_gb_a ?_) | (first | refine PW_cond_t_a ?_ | refine PW_cond_f_a ?_) | (first | refine POrd_s_a ?_ | refine POrd_b_a ?_) | (first | refine POrd_gn_a ?_ | refine POrd_s_b ?_ | refine POrd_b_b ?_))
  refine POps_call_a (name_p ⟨#[67]⟩) ?_
  repeat (first | (with_reducible first | refine PW_seq ?_ | refine PW_block ?_ | refine PW_region_lit ?_ | refine PW_skip ?_ | refine PW_exit ?_ | refine PW_ret ?_ | refine PW_label ?_ | refine POps_nil ?_ | refine POrd_nil ?_ | refine thenP_n ?_ | refine thenP_x ?_ | refine thenP_r ?_ | refine blockP_n ?_ | refine blockP_r ?_ | refine blockP_hit ?_ | refine blockP_miss rfl ?_) | (first | refine POps_s_a ?_ | refine POps_b_a ?_) | (first | refine POps_gn_a ?_ | refine POps_gs_a ?_ | refine POps_gb_a ?_) | (first | refine PW_cond_t_a ?_ | refine PW_cond_f_a ?_) | (first | refine POrd_s_a ?_ | refine POrd_b_a ?_) | (first | refine POrd_gn_a ?_ | refine POrd_s_b ?_ | refine POrd_b_b ?_))
  refine POps_callV (arrow_p (.mk 3 0 ⟨#[95]⟩ 0 [.mk 1 0 ⟨#[65]⟩ 0 [], .mk 1 0 ⟨#[66]⟩ 0 []]) (.mk 1 0 ⟨#[67]⟩ 0 [])) (by decide) rfl (by first | (simp [nev, nevA, nevB, evBuild, PF.eval, PF.get, PF.wants, cPV, cCell, PV.rows, evBin, evUn, evConv, evLen, loadA, loadB, TyK.agg, partA, St.box?, St.tok?, St.setBox, St.setTok, fillO, spl, PV.ps, PV.one, evalArgs, aggD, slD, encD_nd, encD_bd, encD_rw, encD_dc, encD_str, encD_int, *]; done) | fail) (by simp [nev, nevA, nevB, evBuild, PF.eval, PF.get, PF.wants, cPV, cCell, PV.rows, evBin, evUn, evConv, evLen, loadA, loadB, TyK.agg, partA, St.box?, St.tok?, St.setBox, St.setTok, fillO, spl, PV.ps, PV.one, evalArgs, aggD, slD, encD_nd, encD_bd, encD_rw, encD_dc, encD_str, encD_int, *]; rfl) (by first | (simp [PV.norm1, PV.norm0, aggD, slD, encD_nd, encD_bd, encD_rw, encD_dc, encD_str]; done) | fail) rfl ?_
  repeat (first | (with_reducible first | refine PW_seq ?_ | refine PW_block ?_ | refine PW_region_lit ?_ | refine PW_skip ?_ | refine PW_exit ?_ | refine PW_ret ?_ | refine PW_label ?_ | refine POps_nil ?_ | refine POrd_nil ?_ | refine thenP_n ?_ | refine thenP_x ?_ | refine thenP_r ?_ | refine blockP_n ?_ | refine blockP_r ?_ | refine blockP_hit ?_ | refine blockP_miss rfl ?_) | (first | refine POps_s_a ?_ | refine POps_b_a ?_) | (first | refine POps_gn_a ?_ | refine POps_gs_a ?_ | refine POps_gb_a ?_) | (first | refine PW_cond_t_a ?_ | refine PW_cond_f_a ?_) | (first | refine POrd_s_a ?_ | refine POrd_b_a ?_) | (first | refine POrd_gn_a ?_ | refine POrd_s_b ?_ | refine POrd_b_b ?_))
  refine POps_call_a (hN) ?_
  repeat (first | (with_reducible first | refine PW_seq ?_ | refine PW_block ?_ | refine PW_region_lit ?_ | refine PW_skip ?_ | refine PW_exit ?_ | refine PW_ret ?_ | refine PW_label ?_ | refine POps_nil ?_ | refine POrd_nil ?_ | refine thenP_n ?_ | refine thenP_x ?_ | refine thenP_r ?_ | refine blockP_n ?_ | refine blockP_r ?_ | refine blockP_hit ?_ | refine blockP_miss rfl ?_) | (first | refine POps_s_a ?_ | refine POps_b_a ?_) | (first | refine POps_gn_a ?_ | refine POps_gs_a ?_ | refine POps_gb_a ?_) | (first | refine PW_cond_t_a ?_ | refine PW_cond_f_a ?_) | (first | refine POrd_s_a ?_ | refine POrd_b_a ?_) | (first | refine POrd_gn_a ?_ | refine POrd_s_b ?_ | refine POrd_b_b ?_))
  refine POps_call_b (hP) ?_
  repeat (first | (with_reducible first | refine PW_seq ?_ | refine PW_block ?_ | refine PW_region_lit ?_ | refine PW_skip ?_ | refine PW_exit ?_ | refine PW_ret ?_ | refine PW_label ?_ | refine POps_nil ?_ | refine POrd_nil ?_ | refine thenP_n ?_ | refine thenP_x ?_ | refine thenP_r ?_ | refine blockP_n ?_ | refine blockP_r ?_ | refine blockP_hit ?_ | refine blockP_miss rfl ?_) | (first | refine POps_s_a ?_ | refine POps_b_a ?_) | (first | refine POps_gn_a ?_ | refine POps_gs_a ?_ | refine POps_gb_a ?_) | (first | refine PW_cond_t_a ?_ | refine PW_cond_f_a ?_) | (first | refine POrd_s_a ?_ | refine POrd_b_a ?_) | (first | refine POrd_gn_a ?_ | refine POrd_s_b ?_ | refine POrd_b_b ?_))
  refine retP_ok (by simp) (by simp only [Try.results37]; rfl) (by simp [resP, St.box?, PF.get, loadB, TyK.agg, *]; rfl) (List.nil_sublist _) ?_
  exact ⟨rfl, rfl⟩
end Go.Proofs.Ytffgfjnbgplckaa

namespace Go.Proofs.Ytffgfjnbgplckaa
open Go.RowKit
set_option maxRecDepth 100000
theorem POrd_from {P : Program} {n : Nat} {ops : Array Oper} {Q : PF → St → Prop} {fr : PF} {st : St} {t ty : TypeId} {x : Operand} {lo : Option Operand} {pos : String} {after : Array Edge} {gd : Option (Nat × Bool)} {d j : Nat} {od : List (Nat × Kd)} {s : ByteArray} (i : Nat) (ho : ops[j]? = some ⟨some d, .slice t x lo none none, ty, pos, after, gd⟩) (hd : d < n) (hw : PF.wants fr ops ⟨some d, .slice t x lo none none, ty, pos, after, gd⟩ = some true) (hlo : lo = some (.const (.int .i64 i))) (ht : P.underlying t = some .string) (hx : fr.eval x = some (.d (.v (.string s)))) (hi : i ≤ s.size)
    (h : POrd P n ops Q od ((d, .d (.v (.string (s.extract i s.size)))) :: fr) st) : POrd P n ops Q ((j, .a) :: od) fr st := by
  subst hlo
  exact ⟨_, ho, fun _ e => (by cases e; exact hd), .inr ⟨hw, _, fun st => POp_from (o := ⟨some d, .slice t x (some (.const (.int .i64 i))) none none, ty, pos, after, gd⟩) rfl ht hx hi st, h⟩⟩
theorem minus_from (d : ByteArray) : (minus ++ d).extract 1 (minus ++ d).size = d := by
  apply ByteArray.ext
  simp [minus, ByteArray.size_append]
theorem minus_0 (d : ByteArray) : (minus ++ d)[0]? = some 45 := by
  have h1 : 0 < minus.size := by decide
  have h : 0 < (minus ++ d).size := by rw [ByteArray.size_append]; omega
  rw [getElem?_pos (minus ++ d) 0 h, ByteArray.getElem_append_left h1]
  rfl
theorem num_min : (numS (-9223372036854775808)).toList = [45, 57, 50, 50, 51, 51, 55, 50, 48, 51, 54, 56, 53, 52, 55, 55, 53, 56, 48, 56] := by
  rw [numS, if_pos (by omega)]
  have : decL 9223372036854775808 = [57, 50, 50, 51, 51, 55, 50, 48, 51, 54, 56, 53, 52, 55, 55, 53, 56, 48, 56] := by
    repeat (rw [decL_step _ (by omega)]; simp only [Nat.reduceDiv, Nat.reduceMod])
    rw [decL_small _ (by omega)]
    rfl
  unfold decS
  rw [show (-9223372036854775808 : Int).natAbs = 9223372036854775808 from rfl, this, ByteArray.toList_eq]
  rfl
set_option maxHeartbeats 8000000 in
theorem printNumbers_p (n : Int) (h0 : -9223372036854775808 ≤ n) (h1 : n ≤ 9223372036854775807) : PCalls Try.prog 9 [.d (.v (.int .i64 n))] [] fun p s => p = .d (.v (.bool true)) ∧ s = [] := by
  have hp := pnum_p n h0 h1
  by_cases hn : 0 ≤ n
  · have hr := rnum_p n hn h1
    refine PCalls.enter Try.func9 rfl Try.ntmps9 (by simp) ?_
    simp only [argsF]
    repeat (first | (with_reducible first | refine PW_seq ?_ | refine PW_block ?_ | refine PW_region_lit ?_ | refine PW_skip ?_ | refine PW_exit ?_ | refine PW_ret ?_ | refine PW_label ?_ | refine POps_nil ?_ | refine POrd_nil ?_ | refine thenP_n ?_ | refine thenP_x ?_ | refine thenP_r ?_ | refine blockP_n ?_ | refine blockP_r ?_ | refine blockP_hit ?_ | refine blockP_miss rfl ?_) | (first | refine POps_s_a ?_ | refine POps_b_a ?_) | (first | refine POps_gn_a ?_ | refine POps_gs_a ?_ | refine POps_gb_a ?_) | (first | refine PW_cond_t_a ?_ | refine PW_cond_f_a ?_) | (first | refine POrd_s_a ?_ | refine POrd_b_a ?_) | (first | refine POrd_gn_a ?_ | refine POrd_s_b ?_ | refine POrd_b_b ?_))
    refine POps_call_a (hp) ?_
    repeat (first | (with_reducible first | refine PW_seq ?_ | refine PW_block ?_ | refine PW_region_lit ?_ | refine PW_skip ?_ | refine PW_exit ?_ | refine PW_ret ?_ | refine PW_label ?_ | refine POps_nil ?_ | refine POrd_nil ?_ | refine thenP_n ?_ | refine thenP_x ?_ | refine thenP_r ?_ | refine blockP_n ?_ | refine blockP_r ?_ | refine blockP_hit ?_ | refine blockP_miss rfl ?_) | (first | refine POps_s_a ?_ | refine POps_b_a ?_) | (first | refine POps_gn_a ?_ | refine POps_gs_a ?_ | refine POps_gb_a ?_) | (first | refine PW_cond_t_a ?_ | refine PW_cond_f_a ?_) | (first | refine POrd_s_a ?_ | refine POrd_b_a ?_) | (first | refine POrd_gn_a ?_ | refine POrd_s_b ?_ | refine POrd_b_b ?_))
    refine POps_call_a (hr) ?_
    repeat (first | (with_reducible first | refine PW_seq ?_ | refine PW_block ?_ | refine PW_region_lit ?_ | refine PW_skip ?_ | refine PW_exit ?_ | refine PW_ret ?_ | refine PW_label ?_ | refine POps_nil ?_ | refine POrd_nil ?_ | refine thenP_n ?_ | refine thenP_x ?_ | refine thenP_r ?_ | refine blockP_n ?_ | refine blockP_r ?_ | refine blockP_hit ?_ | refine blockP_miss rfl ?_) | (first | refine POps_s_a ?_ | refine POps_b_a ?_) | (first | refine POps_gn_a ?_ | refine POps_gs_a ?_ | refine POps_gb_a ?_) | (first | refine PW_cond_t_a ?_ | refine PW_cond_f_a ?_) | (first | refine POrd_s_a ?_ | refine POrd_b_a ?_) | (first | refine POrd_gn_a ?_ | refine POrd_s_b ?_ | refine POrd_b_b ?_))
    refine POps_call_b (awake6_p) ?_
    repeat (first | (with_reducible first | refine PW_seq ?_ | refine PW_block ?_ | refine PW_region_lit ?_ | refine PW_skip ?_ | refine PW_exit ?_ | refine PW_ret ?_ | refine PW_label ?_ | refine POps_nil ?_ | refine POrd_nil ?_ | refine thenP_n ?_ | refine thenP_x ?_ | refine thenP_r ?_ | refine blockP_n ?_ | refine blockP_r ?_ | refine blockP_hit ?_ | refine blockP_miss rfl ?_) | (first | refine POps_s_a ?_ | refine POps_b_a ?_) | (first | refine POps_gn_a ?_ | refine POps_gs_a ?_ | refine POps_gb_a ?_) | (first | refine PW_cond_t_a ?_ | refine PW_cond_f_a ?_) | (first | refine POrd_s_a ?_ | refine POrd_b_a ?_) | (first | refine POrd_gn_a ?_ | refine POrd_s_b ?_ | refine POrd_b_b ?_))
    refine retP_ok (by simp) (by simp only [Try.results9]; rfl) (by simp [resP, St.box?, PF.get, loadB, TyK.agg, *]; rfl) (List.nil_sublist _) ?_
    exact ⟨rfl, rfl⟩
  · have hneg : numS n = minus ++ decS n.natAbs := by rw [numS, if_pos (by omega)]
    have hds := decS_size n.natAbs (by omega)
    have hsz : (1 : Int) < ((numS n).size : Int) := by
      rw [hneg, ByteArray.size_append]
      have : minus.size = 1 := rfl
      omega
    have hi0 : (numS n)[0]? = some 45 := by rw [hneg]; exact minus_0 _
    by_cases hmin : n = -9223372036854775808
    · subst hmin
      have hstr := num_min
      clear hneg
      generalize numS (-9223372036854775808) = S at *
      refine PCalls.enter Try.func9 rfl Try.ntmps9 (by simp) ?_
      simp only [argsF]
      repeat (first | (with_reducible first | refine PW_seq ?_ | refine PW_block ?_ | refine PW_region_lit ?_ | refine PW_skip ?_ | refine PW_exit ?_ | refine PW_ret ?_ | refine PW_label ?_ | refine POps_nil ?_ | refine POrd_nil ?_ | refine thenP_n ?_ | refine thenP_x ?_ | refine thenP_r ?_ | refine blockP_n ?_ | refine blockP_r ?_ | refine blockP_hit ?_ | refine blockP_miss rfl ?_) | (first | refine POps_s_a ?_ | refine POps_b_a ?_) | (first | refine POps_gn_a ?_ | refine POps_gs_a ?_ | refine POps_gb_a ?_) | (first | refine PW_cond_t_a ?_ | refine PW_cond_f_a ?_) | (first | refine POrd_s_a ?_ | refine POrd_b_a ?_) | (first | refine POrd_gn_a ?_ | refine POrd_s_b ?_ | refine POrd_b_b ?_))
      refine POps_call_a (hp) ?_
      repeat (first | (with_reducible first | refine PW_seq ?_ | refine PW_block ?_ | refine PW_region_lit ?_ | refine PW_skip ?_ | refine PW_exit ?_ | refine PW_ret ?_ | refine PW_label ?_ | refine POps_nil ?_ | refine POrd_nil ?_ | refine thenP_n ?_ | refine thenP_x ?_ | refine thenP_r ?_ | refine blockP_n ?_ | refine blockP_r ?_ | refine blockP_hit ?_ | refine blockP_miss rfl ?_) | (first | refine POps_s_a ?_ | refine POps_b_a ?_) | (first | refine POps_gn_a ?_ | refine POps_gs_a ?_ | refine POps_gb_a ?_) | (first | refine PW_cond_t_a ?_ | refine PW_cond_f_a ?_) | (first | refine POrd_s_a ?_ | refine POrd_b_a ?_) | (first | refine POrd_gn_a ?_ | refine POrd_s_b ?_ | refine POrd_b_b ?_))
      refine PW_drawn [(0, .a), (1, .a), (2, .a), (3, .a), (4, .a), (5, .a), (6, .a), (7, .a), (8, .a), (9, .a), (10, .a), (11, .a), (12, .a), (13, .a), (14, .a), (15, .a), (16, .a), (17, .a), (18, .a), (19, .a), (20, .a), (21, .a), (22, .a), (23, .a), (24, .a), (25, .a), (26, .a), (27, .a), (28, .a), (29, .a), (30, .a), (31, .a)] (by kernel_rfl) (by rfl) (by kernel_rfl) ?_
      repeat (first | (with_reducible first | refine PW_seq ?_ | refine PW_block ?_ | refine PW_region_lit ?_ | refine PW_skip ?_ | refine PW_exit ?_ | refine PW_ret ?_ | refine PW_label ?_ | refine POps_nil ?_ | refine POrd_nil ?_ | refine thenP_n ?_ | refine thenP_x ?_ | refine thenP_r ?_ | refine blockP_n ?_ | refine blockP_r ?_ | refine blockP_hit ?_ | refine blockP_miss rfl ?_) | (first | refine POps_s_a ?_ | refine POps_b_a ?_) | (first | refine POps_gn_a ?_ | refine POps_gs_a ?_ | refine POps_gb_a ?_) | (first | refine PW_cond_t_a ?_ | refine PW_cond_f_a ?_) | (first | refine POrd_s_a ?_ | refine POrd_b_a ?_) | (first | refine POrd_gn_a ?_ | refine POrd_s_b ?_ | refine POrd_b_b ?_))
      refine POrd_call_b (awake6_p) ?_
      repeat (first | (with_reducible first | refine PW_seq ?_ | refine PW_block ?_ | refine PW_region_lit ?_ | refine PW_skip ?_ | refine PW_exit ?_ | refine PW_ret ?_ | refine PW_label ?_ | refine POps_nil ?_ | refine POrd_nil ?_ | refine thenP_n ?_ | refine thenP_x ?_ | refine thenP_r ?_ | refine blockP_n ?_ | refine blockP_r ?_ | refine blockP_hit ?_ | refine blockP_miss rfl ?_) | (first | refine POps_s_a ?_ | refine POps_b_a ?_) | (first | refine POps_gn_a ?_ | refine POps_gs_a ?_ | refine POps_gb_a ?_) | (first | refine PW_cond_t_a ?_ | refine PW_cond_f_a ?_) | (first | refine POrd_s_a ?_ | refine POrd_b_a ?_) | (first | refine POrd_gn_a ?_ | refine POrd_s_b ?_ | refine POrd_b_b ?_))
      refine retP_ok (by simp) (by simp only [Try.results9]; rfl) (by simp [resP, St.box?, PF.get, loadB, TyK.agg, *]; rfl) (List.nil_sublist _) ?_
      exact ⟨rfl, rfl⟩
    · have hgt : -9223372036854775808 < n := by omega
      have hr := rnum_p (-n) (by omega) (by omega)
      have hext : (numS n).extract 1 (numS n).size = numS (-n) := by
        rw [hneg, minus_from, numS, if_neg (by omega), Int.natAbs_neg]
      have hw : IntKind.i64.wrap (-n) = -n := IntWalk.i64_in _ (by omega)
      have hs1 : 1 ≤ (numS n).size := by omega
      clear hneg
      generalize numS n = S at *
      generalize numS (-n) = R at *
      refine PCalls.enter Try.func9 rfl Try.ntmps9 (by simp) ?_
      simp only [argsF]
      repeat (first | (with_reducible first | refine PW_seq ?_ | refine PW_block ?_ | refine PW_region_lit ?_ | refine PW_skip ?_ | refine PW_exit ?_ | refine PW_ret ?_ | refine PW_label ?_ | refine POps_nil ?_ | refine POrd_nil ?_ | refine thenP_n ?_ | refine thenP_x ?_ | refine thenP_r ?_ | refine blockP_n ?_ | refine blockP_r ?_ | refine blockP_hit ?_ | refine blockP_miss rfl ?_) | (first | refine POps_s_a ?_ | refine POps_b_a ?_) | (first | refine POps_gn_a ?_ | refine POps_gs_a ?_ | refine POps_gb_a ?_) | (first | refine PW_cond_t_a ?_ | refine PW_cond_f_a ?_) | (first | refine POrd_s_a ?_ | refine POrd_b_a ?_) | (first | refine POrd_gn_a ?_ | refine POrd_s_b ?_ | refine POrd_b_b ?_))
      refine POps_call_a (hp) ?_
      repeat (first | (with_reducible first | refine PW_seq ?_ | refine PW_block ?_ | refine PW_region_lit ?_ | refine PW_skip ?_ | refine PW_exit ?_ | refine PW_ret ?_ | refine PW_label ?_ | refine POps_nil ?_ | refine POrd_nil ?_ | refine thenP_n ?_ | refine thenP_x ?_ | refine thenP_r ?_ | refine blockP_n ?_ | refine blockP_r ?_ | refine blockP_hit ?_ | refine blockP_miss rfl ?_) | (first | refine POps_s_a ?_ | refine POps_b_a ?_) | (first | refine POps_gn_a ?_ | refine POps_gs_a ?_ | refine POps_gb_a ?_) | (first | refine PW_cond_t_a ?_ | refine PW_cond_f_a ?_) | (first | refine POrd_s_a ?_ | refine POrd_b_a ?_) | (first | refine POrd_gn_a ?_ | refine POrd_s_b ?_ | refine POrd_b_b ?_))
      refine PW_drawn [(0, .a), (1, .a), (2, .a), (3, .a), (4, .a), (5, .a), (6, .a), (7, .a), (8, .a), (9, .a), (10, .a), (11, .a), (12, .a), (13, .a), (14, .a), (15, .a), (16, .a), (17, .a), (18, .a), (19, .a), (20, .a), (21, .a), (22, .a), (23, .a), (24, .a), (25, .a), (26, .a), (27, .a), (28, .a), (29, .a), (30, .a), (31, .a)] (by kernel_rfl) (by rfl) (by kernel_rfl) ?_
      repeat (first | (with_reducible first | refine PW_seq ?_ | refine PW_block ?_ | refine PW_region_lit ?_ | refine PW_skip ?_ | refine PW_exit ?_ | refine PW_ret ?_ | refine PW_label ?_ | refine POps_nil ?_ | refine POrd_nil ?_ | refine thenP_n ?_ | refine thenP_x ?_ | refine thenP_r ?_ | refine blockP_n ?_ | refine blockP_r ?_ | refine blockP_hit ?_ | refine blockP_miss rfl ?_) | (first | refine POps_s_a ?_ | refine POps_b_a ?_) | (first | refine POps_gn_a ?_ | refine POps_gs_a ?_ | refine POps_gb_a ?_) | (first | refine PW_cond_t_a ?_ | refine PW_cond_f_a ?_) | (first | refine POrd_s_a ?_ | refine POrd_b_a ?_) | (first | refine POrd_gn_a ?_ | refine POrd_s_b ?_ | refine POrd_b_b ?_))
      refine POrd_from 1 rfl (by decide) (by first | (simp [nev, nevA, nevB, evBuild, PF.eval, PF.get, PF.wants, cPV, cCell, PV.rows, evBin, evUn, evConv, evLen, loadA, loadB, TyK.agg, partA, St.box?, St.tok?, St.setBox, St.setTok, fillO, spl, PV.ps, PV.one, evalArgs, aggD, slD, encD_nd, encD_bd, encD_rw, encD_dc, encD_str, encD_int, *]; done) | fail) rfl rfl (by simp [nev, nevA, nevB, evBuild, PF.eval, PF.get, PF.wants, cPV, cCell, PV.rows, evBin, evUn, evConv, evLen, loadA, loadB, TyK.agg, partA, St.box?, St.tok?, St.setBox, St.setTok, fillO, spl, PV.ps, PV.one, evalArgs, aggD, slD, encD_nd, encD_bd, encD_rw, encD_dc, encD_str, encD_int, *]; rfl) (by omega) ?_
      repeat (first | (with_reducible first | refine PW_seq ?_ | refine PW_block ?_ | refine PW_region_lit ?_ | refine PW_skip ?_ | refine PW_exit ?_ | refine PW_ret ?_ | refine PW_label ?_ | refine POps_nil ?_ | refine POrd_nil ?_ | refine thenP_n ?_ | refine thenP_x ?_ | refine thenP_r ?_ | refine blockP_n ?_ | refine blockP_r ?_ | refine blockP_hit ?_ | refine blockP_miss rfl ?_) | (first | refine POps_s_a ?_ | refine POps_b_a ?_) | (first | refine POps_gn_a ?_ | refine POps_gs_a ?_ | refine POps_gb_a ?_) | (first | refine PW_cond_t_a ?_ | refine PW_cond_f_a ?_) | (first | refine POrd_s_a ?_ | refine POrd_b_a ?_) | (first | refine POrd_gn_a ?_ | refine POrd_s_b ?_ | refine POrd_b_b ?_))
      refine POrd_call_b (hr) ?_
      repeat (first | (with_reducible first | refine PW_seq ?_ | refine PW_block ?_ | refine PW_region_lit ?_ | refine PW_skip ?_ | refine PW_exit ?_ | refine PW_ret ?_ | refine PW_label ?_ | refine POps_nil ?_ | refine POrd_nil ?_ | refine thenP_n ?_ | refine thenP_x ?_ | refine thenP_r ?_ | refine blockP_n ?_ | refine blockP_r ?_ | refine blockP_hit ?_ | refine blockP_miss rfl ?_) | (first | refine POps_s_a ?_ | refine POps_b_a ?_) | (first | refine POps_gn_a ?_ | refine POps_gs_a ?_ | refine POps_gb_a ?_) | (first | refine PW_cond_t_a ?_ | refine PW_cond_f_a ?_) | (first | refine POrd_s_a ?_ | refine POrd_b_a ?_) | (first | refine POrd_gn_a ?_ | refine POrd_s_b ?_ | refine POrd_b_b ?_))
      refine POrd_call_b (awake6_p) ?_
      repeat (first | (with_reducible first | refine PW_seq ?_ | refine PW_block ?_ | refine PW_region_lit ?_ | refine PW_skip ?_ | refine PW_exit ?_ | refine PW_ret ?_ | refine PW_label ?_ | refine POps_nil ?_ | refine POrd_nil ?_ | refine thenP_n ?_ | refine thenP_x ?_ | refine thenP_r ?_ | refine blockP_n ?_ | refine blockP_r ?_ | refine blockP_hit ?_ | refine blockP_miss rfl ?_) | (first | refine POps_s_a ?_ | refine POps_b_a ?_) | (first | refine POps_gn_a ?_ | refine POps_gs_a ?_ | refine POps_gb_a ?_) | (first | refine PW_cond_t_a ?_ | refine PW_cond_f_a ?_) | (first | refine POrd_s_a ?_ | refine POrd_b_a ?_) | (first | refine POrd_gn_a ?_ | refine POrd_s_b ?_ | refine POrd_b_b ?_))
      refine retP_ok (by simp) (by simp only [Try.results9]; rfl) (by simp [resP, St.box?, PF.get, loadB, TyK.agg, *]; rfl) (List.nil_sublist _) ?_
      exact ⟨rfl, rfl⟩
theorem printNumbers_walk (n : Int) (hn : (Lit.int .i64 n).wf = true) (w : World) : Calls Try.prog 9 #[.int .i64 n] w fun e w' => e = .returned (.bool true) ∧ Below w.heap.size w w' := by
  have hb : -9223372036854775808 ≤ n ∧ n ≤ 9223372036854775807 := by simp [Lit.wf, IntKind.min, IntKind.max, IntKind.signed, IntKind.bits] at hn; omega
  exact ((printNumbers_p n hb.1 hb.2).mono fun p s h => h.1).top (relVs_cons (.d (.v trivial)) (relVs_nil _ _))
end Go.Proofs.Ytffgfjnbgplckaa
