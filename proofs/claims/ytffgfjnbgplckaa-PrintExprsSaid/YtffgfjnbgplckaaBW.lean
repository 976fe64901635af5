import Derived.Test.YtffgfjnbgplckaaBV
import Derived.Test.YtffgfjnbgplckaaT7
import Derived.Test.YtffgfjnbgplckaaBU
set_option linter.unusedSimpArgs false
set_option linter.unusedVariables false
namespace Go.Proofs.Ytffgfjnbgplckaa
open Go.RowKit
set_option maxRecDepth 100000
set_option maxHeartbeats 8000000 in
theorem rin_step (t : Nd) (hg : goodT t false = true) (hs : ndT t ≤ 100000000) (ih : ∀ x ∈ t.sub, ∀ lv, lv ≤ 8 → RxC x lv) : RiC t := by
  obtain ⟨k, a, s, n, sub⟩ := t
  have hname := good_name hg
  unfold RiC
  rcases ex_cases hg with ⟨rfl, rfl⟩ | ⟨rfl, rfl, hn0, hn7⟩ | ⟨x, y, hk, rfl, hx, hy⟩
  · have HE := Lib.hid (inL_name 1 a n s rfl)
    generalize inL (.mk 1 a s n []) = txt at *
    simp only [aggD, encD_mk, List.map_cons, List.map_nil]
    refine PCalls.enter Try.func75 rfl Try.ntmps75 (by simp) ?_
    simp only [argsF]
    repeat (first | (with_reducible first | refine PW_seq ?_ | refine PW_block ?_ | refine PW_region_lit ?_ | refine PW_skip ?_ | refine PW_exit ?_ | refine PW_ret ?_ | refine PW_label ?_ | refine POps_nil ?_ | refine POrd_nil ?_ | refine thenP_n ?_ | refine thenP_x ?_ | refine thenP_r ?_ | refine blockP_n ?_ | refine blockP_r ?_ | refine blockP_hit ?_ | refine blockP_miss rfl ?_) | (first | refine POps_s_a ?_ | refine POps_b_a ?_) | (first | refine POps_gn_a ?_ | refine POps_gs_a ?_ | refine POps_gb_a ?_) | (first | refine PW_cond_t_a ?_ | refine PW_cond_f_a ?_) | (first | refine POrd_s_a ?_ | refine POrd_b_a ?_) | (first | refine POrd_gn_a ?_ | refine POrd_s_b ?_ | refine POrd_b_b ?_))
    refine POps_box_a ?_
    intro i0 hi0
    repeat (first | (with_reducible first | refine PW_seq ?_ | refine PW_block ?_ | refine PW_region_lit ?_ | refine PW_skip ?_ | refine PW_exit ?_ | refine PW_ret ?_ | refine PW_label ?_ | refine POps_nil ?_ | refine POrd_nil ?_ | refine thenP_n ?_ | refine thenP_x ?_ | refine thenP_r ?_ | refine blockP_n ?_ | refine blockP_r ?_ | refine blockP_hit ?_ | refine blockP_miss rfl ?_) | (first | refine POps_s_a ?_ | refine POps_b_a ?_) | (first | refine POps_gn_a ?_ | refine POps_gs_a ?_ | refine POps_gb_a ?_) | (first | refine PW_cond_t_a ?_ | refine PW_cond_f_a ?_) | (first | refine POrd_s_a ?_ | refine POrd_b_a ?_) | (first | refine POrd_gn_a ?_ | refine POrd_s_b ?_ | refine POrd_b_b ?_))
    refine retP_ok (by simp) (by simp only [Try.results75]; rfl) (by simp [resP, St.box?, PF.get, loadB, TyK.agg, *]; rfl) (List.nil_sublist _) ?_
    exact ⟨by rw [HE.out, ← strB_toList]; rfl, rfl⟩
  · have HE := Lib.hid (inL_set 2 a n s rfl)
    generalize inL (.mk 2 a s n []) = txt at *
    simp only [aggD, encD_mk, List.map_cons, List.map_nil]
    have hnl : (numS n).toList.length ≤ 20 := by
      rw [size_toList, numS, if_neg (by omega)]; exact (decS_size n.natAbs (by omega)).2
    by_cases hn : n = 0
    · refine PCalls.enter Try.func75 rfl Try.ntmps75 (by simp) ?_
      simp only [argsF]
      repeat (first | (with_reducible first | refine PW_seq ?_ | refine PW_block ?_ | refine PW_region_lit ?_ | refine PW_skip ?_ | refine PW_exit ?_ | refine PW_ret ?_ | refine PW_label ?_ | refine POps_nil ?_ | refine POrd_nil ?_ | refine thenP_n ?_ | refine thenP_x ?_ | refine thenP_r ?_ | refine blockP_n ?_ | refine blockP_r ?_ | refine blockP_hit ?_ | refine blockP_miss rfl ?_) | (first | refine POps_s_a ?_ | refine POps_b_a ?_) | (first | refine POps_gn_a ?_ | refine POps_gs_a ?_ | refine POps_gb_a ?_) | (first | refine PW_cond_t_a ?_ | refine PW_cond_f_a ?_) | (first | refine POrd_s_a ?_ | refine POrd_b_a ?_) | (first | refine POrd_gn_a ?_ | refine POrd_s_b ?_ | refine POrd_b_b ?_))
      refine POps_box_a ?_
      intro i0 hi0
      repeat (first | (with_reducible first | refine PW_seq ?_ | refine PW_block ?_ | refine PW_region_lit ?_ | refine PW_skip ?_ | refine PW_exit ?_ | refine PW_ret ?_ | refine PW_label ?_ | refine POps_nil ?_ | refine POrd_nil ?_ | refine thenP_n ?_ | refine thenP_x ?_ | refine thenP_r ?_ | refine blockP_n ?_ | refine blockP_r ?_ | refine blockP_hit ?_ | refine blockP_miss rfl ?_) | (first | refine POps_s_a ?_ | refine POps_b_a ?_) | (first | refine POps_gn_a ?_ | refine POps_gs_a ?_ | refine POps_gb_a ?_) | (first | refine PW_cond_t_a ?_ | refine PW_cond_f_a ?_) | (first | refine POrd_s_a ?_ | refine POrd_b_a ?_) | (first | refine POrd_gn_a ?_ | refine POrd_s_b ?_ | refine POrd_b_b ?_))
      refine retP_ok (by simp) (by simp only [Try.results75]; rfl) (by simp [resP, St.box?, PF.get, loadB, TyK.agg, *]; rfl) (List.nil_sublist _) ?_
      exact ⟨by rw [HE.out, if_neg (by omega)]; rfl, rfl⟩
    · refine PCalls.enter Try.func75 rfl Try.ntmps75 (by simp) ?_
      simp only [argsF]
      repeat (first | (with_reducible first | refine PW_seq ?_ | refine PW_block ?_ | refine PW_region_lit ?_ | refine PW_skip ?_ | refine PW_exit ?_ | refine PW_ret ?_ | refine PW_label ?_ | refine POps_nil ?_ | refine POrd_nil ?_ | refine thenP_n ?_ | refine thenP_x ?_ | refine thenP_r ?_ | refine blockP_n ?_ | refine blockP_r ?_ | refine blockP_hit ?_ | refine blockP_miss rfl ?_) | (first | refine POps_s_a ?_ | refine POps_b_a ?_) | (first | refine POps_gn_a ?_ | refine POps_gs_a ?_ | refine POps_gb_a ?_) | (first | refine PW_cond_t_a ?_ | refine PW_cond_f_a ?_) | (first | refine POrd_s_a ?_ | refine POrd_b_a ?_) | (first | refine POrd_gn_a ?_ | refine POrd_s_b ?_ | refine POrd_b_b ?_))
      refine POps_box_a ?_
      intro i0 hi0
      repeat (first | (with_reducible first | refine PW_seq ?_ | refine PW_block ?_ | refine PW_region_lit ?_ | refine PW_skip ?_ | refine PW_exit ?_ | refine PW_ret ?_ | refine PW_label ?_ | refine POps_nil ?_ | refine POrd_nil ?_ | refine thenP_n ?_ | refine thenP_x ?_ | refine thenP_r ?_ | refine blockP_n ?_ | refine blockP_r ?_ | refine blockP_hit ?_ | refine blockP_miss rfl ?_) | (first | refine POps_s_a ?_ | refine POps_b_a ?_) | (first | refine POps_gn_a ?_ | refine POps_gs_a ?_ | refine POps_gb_a ?_) | (first | refine PW_cond_t_a ?_ | refine PW_cond_f_a ?_) | (first | refine POrd_s_a ?_ | refine POrd_b_a ?_) | (first | refine POrd_gn_a ?_ | refine POrd_s_b ?_ | refine POrd_b_b ?_))
      refine POps_call_a (rnum_p n hn0 (by omega)) ?_
      repeat (first | (with_reducible first | refine PW_seq ?_ | refine PW_block ?_ | refine PW_region_lit ?_ | refine PW_skip ?_ | refine PW_exit ?_ | refine PW_ret ?_ | refine PW_label ?_ | refine POps_nil ?_ | refine POrd_nil ?_ | refine thenP_n ?_ | refine thenP_x ?_ | refine thenP_r ?_ | refine blockP_n ?_ | refine blockP_r ?_ | refine blockP_hit ?_ | refine blockP_miss rfl ?_) | (first | refine POps_s_a ?_ | refine POps_b_a ?_) | (first | refine POps_gn_a ?_ | refine POps_gs_a ?_ | refine POps_gb_a ?_) | (first | refine PW_cond_t_a ?_ | refine PW_cond_f_a ?_) | (first | refine POrd_s_a ?_ | refine POrd_b_a ?_) | (first | refine POrd_gn_a ?_ | refine POrd_s_b ?_ | refine POrd_b_b ?_))
      refine POps_cat_a ?_
      repeat (first | (with_reducible first | refine PW_seq ?_ | refine PW_block ?_ | refine PW_region_lit ?_ | refine PW_skip ?_ | refine PW_exit ?_ | refine PW_ret ?_ | refine PW_label ?_ | refine POps_nil ?_ | refine POrd_nil ?_ | refine thenP_n ?_ | refine thenP_x ?_ | refine thenP_r ?_ | refine blockP_n ?_ | refine blockP_r ?_ | refine blockP_hit ?_ | refine blockP_miss rfl ?_) | (first | refine POps_s_a ?_ | refine POps_b_a ?_) | (first | refine POps_gn_a ?_ | refine POps_gs_a ?_ | refine POps_gb_a ?_) | (first | refine PW_cond_t_a ?_ | refine PW_cond_f_a ?_) | (first | refine POrd_s_a ?_ | refine POrd_b_a ?_) | (first | refine POrd_gn_a ?_ | refine POrd_s_b ?_ | refine POrd_b_b ?_))
      refine retP_ok (by simp) (by simp only [Try.results75]; rfl) (by simp [resP, St.box?, PF.get, loadB, TyK.agg, *]; rfl) (List.nil_sublist _) ?_
      exact ⟨by rw [HE.out, if_pos (by omega)]; simp [tupP, PV.norm2, PV.norm1, PV.norm0], rfl⟩
  · have hx' := ih x (by simp [Nd.sub])
    have hy' := ih y (by simp [Nd.sub])
    have hlx := ex_len hx
    have hly := ex_len hy
    have hnx : ndT x ≤ 100000000 ∧ ndT y ≤ 100000000 := by simp only [ndT, ndL] at hs; omega
    clear ih
    rcases hk with rfl | rfl | rfl
    · by_cases hsu : s = ⟨#[95]⟩
      · have HE := Lib.hid (inL_arrow 3 a n s x y rfl hsu)
        generalize inL (.mk 3 a s n [x, y]) = txt at *
        subst hsu
        have h1 := hx' 1 (by omega)
        have h2 := hy' 0 (by omega)
        have l1 := hlx 1
        have l2 := hly 0
        clear hlx hly hx' hy'
        simp only [aggD, encD_mk, List.map_cons, List.map_nil]
        refine PCalls.enter Try.func75 rfl Try.ntmps75 (by simp) ?_
        simp only [argsF]
        repeat (first | (with_reducible first | refine PW_seq ?_ | refine PW_block ?_ | refine PW_region_lit ?_ | refine PW_skip ?_ | refine PW_exit ?_ | refine PW_ret ?_ | refine PW_label ?_ | refine POps_nil ?_ | refine POrd_nil ?_ | refine thenP_n ?_ | refine thenP_x ?_ | refine thenP_r ?_ | refine blockP_n ?_ | refine blockP_r ?_ | refine blockP_hit ?_ | refine blockP_miss rfl ?_) | (first | refine POps_s_a ?_ | refine POps_b_a ?_) | (first | refine POps_gn_a ?_ | refine POps_gs_a ?_ | refine POps_gb_a ?_) | (first | refine PW_cond_t_a ?_ | refine PW_cond_f_a ?_) | (first | refine POrd_s_a ?_ | refine POrd_b_a ?_) | (first | refine POrd_gn_a ?_ | refine POrd_s_b ?_ | refine POrd_b_b ?_))
        refine POps_box_a ?_
        intro i0 hi0
        repeat (first | (with_reducible first | refine PW_seq ?_ | refine PW_block ?_ | refine PW_region_lit ?_ | refine PW_skip ?_ | refine PW_exit ?_ | refine PW_ret ?_ | refine PW_label ?_ | refine POps_nil ?_ | refine POrd_nil ?_ | refine thenP_n ?_ | refine thenP_x ?_ | refine thenP_r ?_ | refine blockP_n ?_ | refine blockP_r ?_ | refine blockP_hit ?_ | refine blockP_miss rfl ?_) | (first | refine POps_s_a ?_ | refine POps_b_a ?_) | (first | refine POps_gn_a ?_ | refine POps_gs_a ?_ | refine POps_gb_a ?_) | (first | refine PW_cond_t_a ?_ | refine PW_cond_f_a ?_) | (first | refine POrd_s_a ?_ | refine POrd_b_a ?_) | (first | refine POrd_gn_a ?_ | refine POrd_s_b ?_ | refine POrd_b_b ?_))
        refine PW_drawn [(0, .a), (1, .b), (2, .a), (3, .a), (4, .a), (5, .a), (6, .a), (7, .b), (8, .a), (9, .a), (10, .a), (11, .a), (12, .a)] (by kernel_rfl) (by rfl) (by kernel_rfl) ?_
        repeat (first | (with_reducible first | refine PW_seq ?_ | refine PW_block ?_ | refine PW_region_lit ?_ | refine PW_skip ?_ | refine PW_exit ?_ | refine PW_ret ?_ | refine PW_label ?_ | refine POps_nil ?_ | refine POrd_nil ?_ | refine thenP_n ?_ | refine thenP_x ?_ | refine thenP_r ?_ | refine blockP_n ?_ | refine blockP_r ?_ | refine blockP_hit ?_ | refine blockP_miss rfl ?_) | (first | refine POps_s_a ?_ | refine POps_b_a ?_) | (first | refine POps_gn_a ?_ | refine POps_gs_a ?_ | refine POps_gb_a ?_) | (first | refine PW_cond_t_a ?_ | refine PW_cond_f_a ?_) | (first | refine POrd_s_a ?_ | refine POrd_b_a ?_) | (first | refine POrd_gn_a ?_ | refine POrd_s_b ?_ | refine POrd_b_b ?_))
        refine POrd_call_b (h1) ?_
        repeat (first | (with_reducible first | refine PW_seq ?_ | refine PW_block ?_ | refine PW_region_lit ?_ | refine PW_skip ?_ | refine PW_exit ?_ | refine PW_ret ?_ | refine PW_label ?_ | refine POps_nil ?_ | refine POrd_nil ?_ | refine thenP_n ?_ | refine thenP_x ?_ | refine thenP_r ?_ | refine blockP_n ?_ | refine blockP_r ?_ | refine blockP_hit ?_ | refine blockP_miss rfl ?_) | (first | refine POps_s_a ?_ | refine POps_b_a ?_) | (first | refine POps_gn_a ?_ | refine POps_gs_a ?_ | refine POps_gb_a ?_) | (first | refine PW_cond_t_a ?_ | refine PW_cond_f_a ?_) | (first | refine POrd_s_a ?_ | refine POrd_b_a ?_) | (first | refine POrd_gn_a ?_ | refine POrd_s_b ?_ | refine POrd_b_b ?_))
        refine POrd_cat_a ?_
        repeat (first | (with_reducible first | refine PW_seq ?_ | refine PW_block ?_ | refine PW_region_lit ?_ | refine PW_skip ?_ | refine PW_exit ?_ | refine PW_ret ?_ | refine PW_label ?_ | refine POps_nil ?_ | refine POrd_nil ?_ | refine thenP_n ?_ | refine thenP_x ?_ | refine thenP_r ?_ | refine blockP_n ?_ | refine blockP_r ?_ | refine blockP_hit ?_ | refine blockP_miss rfl ?_) | (first | refine POps_s_a ?_ | refine POps_b_a ?_) | (first | refine POps_gn_a ?_ | refine POps_gs_a ?_ | refine POps_gb_a ?_) | (first | refine PW_cond_t_a ?_ | refine PW_cond_f_a ?_) | (first | refine POrd_s_a ?_ | refine POrd_b_a ?_) | (first | refine POrd_gn_a ?_ | refine POrd_s_b ?_ | refine POrd_b_b ?_))
        refine POrd_call_b (h2) ?_
        repeat (first | (with_reducible first | refine PW_seq ?_ | refine PW_block ?_ | refine PW_region_lit ?_ | refine PW_skip ?_ | refine PW_exit ?_ | refine PW_ret ?_ | refine PW_label ?_ | refine POps_nil ?_ | refine POrd_nil ?_ | refine thenP_n ?_ | refine thenP_x ?_ | refine thenP_r ?_ | refine blockP_n ?_ | refine blockP_r ?_ | refine blockP_hit ?_ | refine blockP_miss rfl ?_) | (first | refine POps_s_a ?_ | refine POps_b_a ?_) | (first | refine POps_gn_a ?_ | refine POps_gs_a ?_ | refine POps_gb_a ?_) | (first | refine PW_cond_t_a ?_ | refine PW_cond_f_a ?_) | (first | refine POrd_s_a ?_ | refine POrd_b_a ?_) | (first | refine POrd_gn_a ?_ | refine POrd_s_b ?_ | refine POrd_b_b ?_))
        refine POrd_cat_a ?_
        repeat (first | (with_reducible first | refine PW_seq ?_ | refine PW_block ?_ | refine PW_region_lit ?_ | refine PW_skip ?_ | refine PW_exit ?_ | refine PW_ret ?_ | refine PW_label ?_ | refine POps_nil ?_ | refine POrd_nil ?_ | refine thenP_n ?_ | refine thenP_x ?_ | refine thenP_r ?_ | refine blockP_n ?_ | refine blockP_r ?_ | refine blockP_hit ?_ | refine blockP_miss rfl ?_) | (first | refine POps_s_a ?_ | refine POps_b_a ?_) | (first | refine POps_gn_a ?_ | refine POps_gs_a ?_ | refine POps_gb_a ?_) | (first | refine PW_cond_t_a ?_ | refine PW_cond_f_a ?_) | (first | refine POrd_s_a ?_ | refine POrd_b_a ?_) | (first | refine POrd_gn_a ?_ | refine POrd_s_b ?_ | refine POrd_b_b ?_))
        refine retP_ok (by simp) (by simp only [Try.results75]; rfl) (by simp [resP, St.box?, PF.get, loadB, TyK.agg, *]; rfl) (List.nil_sublist _) ?_
        exact ⟨by rw [HE.out]; simp [tupP, PV.norm2, PV.norm1, PV.norm0], rfl⟩
      · have HE := Lib.hid (inL_pi 3 a n s x y rfl hsu)
        have hs' := ne_toList (b := #[95]) hsu
        generalize inL (.mk 3 a s n [x, y]) = txt at *
        have h1 := hx' 0 (by omega)
        have h2 := hy' 0 (by omega)
        have l1 := hlx 0
        have l2 := hly 0
        clear hlx hly hx' hy'
        simp only [aggD, encD_mk, List.map_cons, List.map_nil]
        refine PCalls.enter Try.func75 rfl Try.ntmps75 (by simp) ?_
        simp only [argsF]
        repeat (first | (with_reducible first | refine PW_seq ?_ | refine PW_block ?_ | refine PW_region_lit ?_ | refine PW_skip ?_ | refine PW_exit ?_ | refine PW_ret ?_ | refine PW_label ?_ | refine POps_nil ?_ | refine POrd_nil ?_ | refine thenP_n ?_ | refine thenP_x ?_ | refine thenP_r ?_ | refine blockP_n ?_ | refine blockP_r ?_ | refine blockP_hit ?_ | refine blockP_miss rfl ?_) | (first | refine POps_s_a ?_ | refine POps_b_a ?_) | (first | refine POps_gn_a ?_ | refine POps_gs_a ?_ | refine POps_gb_a ?_) | (first | refine PW_cond_t_a ?_ | refine PW_cond_f_a ?_) | (first | refine POrd_s_a ?_ | refine POrd_b_a ?_) | (first | refine POrd_gn_a ?_ | refine POrd_s_b ?_ | refine POrd_b_b ?_))
        refine POps_box_a ?_
        intro i0 hi0
        repeat (first | (with_reducible first | refine PW_seq ?_ | refine PW_block ?_ | refine PW_region_lit ?_ | refine PW_skip ?_ | refine PW_exit ?_ | refine PW_ret ?_ | refine PW_label ?_ | refine POps_nil ?_ | refine POrd_nil ?_ | refine thenP_n ?_ | refine thenP_x ?_ | refine thenP_r ?_ | refine blockP_n ?_ | refine blockP_r ?_ | refine blockP_hit ?_ | refine blockP_miss rfl ?_) | (first | refine POps_s_a ?_ | refine POps_b_a ?_) | (first | refine POps_gn_a ?_ | refine POps_gs_a ?_ | refine POps_gb_a ?_) | (first | refine PW_cond_t_a ?_ | refine PW_cond_f_a ?_) | (first | refine POrd_s_a ?_ | refine POrd_b_a ?_) | (first | refine POrd_gn_a ?_ | refine POrd_s_b ?_ | refine POrd_b_b ?_))
        refine PW_drawn [(0, .a), (1, .b), (2, .a), (3, .a), (4, .a), (5, .b), (6, .a), (7, .a), (8, .a), (9, .a), (10, .a), (11, .a), (12, .b), (13, .a), (14, .a), (15, .a), (16, .a), (17, .a)] (by kernel_rfl) (by rfl) (by kernel_rfl) ?_
        repeat (first | (with_reducible first | refine PW_seq ?_ | refine PW_block ?_ | refine PW_region_lit ?_ | refine PW_skip ?_ | refine PW_exit ?_ | refine PW_ret ?_ | refine PW_label ?_ | refine POps_nil ?_ | refine POrd_nil ?_ | refine thenP_n ?_ | refine thenP_x ?_ | refine thenP_r ?_ | refine blockP_n ?_ | refine blockP_r ?_ | refine blockP_hit ?_ | refine blockP_miss rfl ?_) | (first | refine POps_s_a ?_ | refine POps_b_a ?_) | (first | refine POps_gn_a ?_ | refine POps_gs_a ?_ | refine POps_gb_a ?_) | (first | refine PW_cond_t_a ?_ | refine PW_cond_f_a ?_) | (first | refine POrd_s_a ?_ | refine POrd_b_a ?_) | (first | refine POrd_gn_a ?_ | refine POrd_s_b ?_ | refine POrd_b_b ?_))
        refine POrd_cat_a ?_
        refine POrd_cat_a ?_
        repeat (first | (with_reducible first | refine PW_seq ?_ | refine PW_block ?_ | refine PW_region_lit ?_ | refine PW_skip ?_ | refine PW_exit ?_ | refine PW_ret ?_ | refine PW_label ?_ | refine POps_nil ?_ | refine POrd_nil ?_ | refine thenP_n ?_ | refine thenP_x ?_ | refine thenP_r ?_ | refine blockP_n ?_ | refine blockP_r ?_ | refine blockP_hit ?_ | refine blockP_miss rfl ?_) | (first | refine POps_s_a ?_ | refine POps_b_a ?_) | (first | refine POps_gn_a ?_ | refine POps_gs_a ?_ | refine POps_gb_a ?_) | (first | refine PW_cond_t_a ?_ | refine PW_cond_f_a ?_) | (first | refine POrd_s_a ?_ | refine POrd_b_a ?_) | (first | refine POrd_gn_a ?_ | refine POrd_s_b ?_ | refine POrd_b_b ?_))
        refine POrd_call_b (h1) ?_
        repeat (first | (with_reducible first | refine PW_seq ?_ | refine PW_block ?_ | refine PW_region_lit ?_ | refine PW_skip ?_ | refine PW_exit ?_ | refine PW_ret ?_ | refine PW_label ?_ | refine POps_nil ?_ | refine POrd_nil ?_ | refine thenP_n ?_ | refine thenP_x ?_ | refine thenP_r ?_ | refine blockP_n ?_ | refine blockP_r ?_ | refine blockP_hit ?_ | refine blockP_miss rfl ?_) | (first | refine POps_s_a ?_ | refine POps_b_a ?_) | (first | refine POps_gn_a ?_ | refine POps_gs_a ?_ | refine POps_gb_a ?_) | (first | refine PW_cond_t_a ?_ | refine PW_cond_f_a ?_) | (first | refine POrd_s_a ?_ | refine POrd_b_a ?_) | (first | refine POrd_gn_a ?_ | refine POrd_s_b ?_ | refine POrd_b_b ?_))
        refine POrd_cat_a ?_
        refine POrd_cat_a ?_
        repeat (first | (with_reducible first | refine PW_seq ?_ | refine PW_block ?_ | refine PW_region_lit ?_ | refine PW_skip ?_ | refine PW_exit ?_ | refine PW_ret ?_ | refine PW_label ?_ | refine POps_nil ?_ | refine POrd_nil ?_ | refine thenP_n ?_ | refine thenP_x ?_ | refine thenP_r ?_ | refine blockP_n ?_ | refine blockP_r ?_ | refine blockP_hit ?_ | refine blockP_miss rfl ?_) | (first | refine POps_s_a ?_ | refine POps_b_a ?_) | (first | refine POps_gn_a ?_ | refine POps_gs_a ?_ | refine POps_gb_a ?_) | (first | refine PW_cond_t_a ?_ | refine PW_cond_f_a ?_) | (first | refine POrd_s_a ?_ | refine POrd_b_a ?_) | (first | refine POrd_gn_a ?_ | refine POrd_s_b ?_ | refine POrd_b_b ?_))
        refine POrd_call_b (h2) ?_
        repeat (first | (with_reducible first | refine PW_seq ?_ | refine PW_block ?_ | refine PW_region_lit ?_ | refine PW_skip ?_ | refine PW_exit ?_ | refine PW_ret ?_ | refine PW_label ?_ | refine POps_nil ?_ | refine POrd_nil ?_ | refine thenP_n ?_ | refine thenP_x ?_ | refine thenP_r ?_ | refine blockP_n ?_ | refine blockP_r ?_ | refine blockP_hit ?_ | refine blockP_miss rfl ?_) | (first | refine POps_s_a ?_ | refine POps_b_a ?_) | (first | refine POps_gn_a ?_ | refine POps_gs_a ?_ | refine POps_gb_a ?_) | (first | refine PW_cond_t_a ?_ | refine PW_cond_f_a ?_) | (first | refine POrd_s_a ?_ | refine POrd_b_a ?_) | (first | refine POrd_gn_a ?_ | refine POrd_s_b ?_ | refine POrd_b_b ?_))
        refine POrd_cat_a ?_
        repeat (first | (with_reducible first | refine PW_seq ?_ | refine PW_block ?_ | refine PW_region_lit ?_ | refine PW_skip ?_ | refine PW_exit ?_ | refine PW_ret ?_ | refine PW_label ?_ | refine POps_nil ?_ | refine POrd_nil ?_ | refine thenP_n ?_ | refine thenP_x ?_ | refine thenP_r ?_ | refine blockP_n ?_ | refine blockP_r ?_ | refine blockP_hit ?_ | refine blockP_miss rfl ?_) | (first | refine POps_s_a ?_ | refine POps_b_a ?_) | (first | refine POps_gn_a ?_ | refine POps_gs_a ?_ | refine POps_gb_a ?_) | (first | refine PW_cond_t_a ?_ | refine PW_cond_f_a ?_) | (first | refine POrd_s_a ?_ | refine POrd_b_a ?_) | (first | refine POrd_gn_a ?_ | refine POrd_s_b ?_ | refine POrd_b_b ?_))
        refine retP_ok (by simp) (by simp only [Try.results75]; rfl) (by simp [resP, St.box?, PF.get, loadB, TyK.agg, *]; rfl) (List.nil_sublist _) ?_
        exact ⟨by rw [HE.out]; simp [binL, tupP, PV.norm2, PV.norm1, PV.norm0], rfl⟩
    · have HE := Lib.hid (inL_lam 4 a n s x y rfl)
      generalize inL (.mk 4 a s n [x, y]) = txt at *
      have h1 := hx' 0 (by omega)
      have h2 := hy' 0 (by omega)
      have l1 := hlx 0
      have l2 := hly 0
      clear hlx hly hx' hy'
      simp only [aggD, encD_mk, List.map_cons, List.map_nil]
      refine PCalls.enter Try.func75 rfl Try.ntmps75 (by simp) ?_
      simp only [argsF]
      repeat (first | (with_reducible first | refine PW_seq ?_ | refine PW_block ?_ | refine PW_region_lit ?_ | refine PW_skip ?_ | refine PW_exit ?_ | refine PW_ret ?_ | refine PW_label ?_ | refine POps_nil ?_ | refine POrd_nil ?_ | refine thenP_n ?_ | refine thenP_x ?_ | refine thenP_r ?_ | refine blockP_n ?_ | refine blockP_r ?_ | refine blockP_hit ?_ | refine blockP_miss rfl ?_) | (first | refine POps_s_a ?_ | refine POps_b_a ?_) | (first | refine POps_gn_a ?_ | refine POps_gs_a ?_ | refine POps_gb_a ?_) | (first | refine PW_cond_t_a ?_ | refine PW_cond_f_a ?_) | (first | refine POrd_s_a ?_ | refine POrd_b_a ?_) | (first | refine POrd_gn_a ?_ | refine POrd_s_b ?_ | refine POrd_b_b ?_))
      refine POps_box_a ?_
      intro i0 hi0
      repeat (first | (with_reducible first | refine PW_seq ?_ | refine PW_block ?_ | refine PW_region_lit ?_ | refine PW_skip ?_ | refine PW_exit ?_ | refine PW_ret ?_ | refine PW_label ?_ | refine POps_nil ?_ | refine POrd_nil ?_ | refine thenP_n ?_ | refine thenP_x ?_ | refine thenP_r ?_ | refine blockP_n ?_ | refine blockP_r ?_ | refine blockP_hit ?_ | refine blockP_miss rfl ?_) | (first | refine POps_s_a ?_ | refine POps_b_a ?_) | (first | refine POps_gn_a ?_ | refine POps_gs_a ?_ | refine POps_gb_a ?_) | (first | refine PW_cond_t_a ?_ | refine PW_cond_f_a ?_) | (first | refine POrd_s_a ?_ | refine POrd_b_a ?_) | (first | refine POrd_gn_a ?_ | refine POrd_s_b ?_ | refine POrd_b_b ?_))
      refine PW_drawn [(0, .a), (1, .b), (2, .a), (3, .a), (4, .a), (5, .b), (6, .a), (7, .a), (8, .a), (9, .a), (10, .a), (11, .a), (12, .b), (13, .a), (14, .a), (15, .a), (16, .a), (17, .a)] (by kernel_rfl) (by rfl) (by kernel_rfl) ?_
      repeat (first | (with_reducible first | refine PW_seq ?_ | refine PW_block ?_ | refine PW_region_lit ?_ | refine PW_skip ?_ | refine PW_exit ?_ | refine PW_ret ?_ | refine PW_label ?_ | refine POps_nil ?_ | refine POrd_nil ?_ | refine thenP_n ?_ | refine thenP_x ?_ | refine thenP_r ?_ | refine blockP_n ?_ | refine blockP_r ?_ | refine blockP_hit ?_ | refine blockP_miss rfl ?_) | (first | refine POps_s_a ?_ | refine POps_b_a ?_) | (first | refine POps_gn_a ?_ | refine POps_gs_a ?_ | refine POps_gb_a ?_) | (first | refine PW_cond_t_a ?_ | refine PW_cond_f_a ?_) | (first | refine POrd_s_a ?_ | refine POrd_b_a ?_) | (first | refine POrd_gn_a ?_ | refine POrd_s_b ?_ | refine POrd_b_b ?_))
      refine POrd_cat_a ?_
      refine POrd_cat_a ?_
      repeat (first | (with_reducible first | refine PW_seq ?_ | refine PW_block ?_ | refine PW_region_lit ?_ | refine PW_skip ?_ | refine PW_exit ?_ | refine PW_ret ?_ | refine PW_label ?_ | refine POps_nil ?_ | refine POrd_nil ?_ | refine thenP_n ?_ | refine thenP_x ?_ | refine thenP_r ?_ | refine blockP_n ?_ | refine blockP_r ?_ | refine blockP_hit ?_ | refine blockP_miss rfl ?_) | (first | refine POps_s_a ?_ | refine POps_b_a ?_) | (first | refine POps_gn_a ?_ | refine POps_gs_a ?_ | refine POps_gb_a ?_) | (first | refine PW_cond_t_a ?_ | refine PW_cond_f_a ?_) | (first | refine POrd_s_a ?_ | refine POrd_b_a ?_) | (first | refine POrd_gn_a ?_ | refine POrd_s_b ?_ | refine POrd_b_b ?_))
      refine POrd_call_b (h1) ?_
      repeat (first | (with_reducible first | refine PW_seq ?_ | refine PW_block ?_ | refine PW_region_lit ?_ | refine PW_skip ?_ | refine PW_exit ?_ | refine PW_ret ?_ | refine PW_label ?_ | refine POps_nil ?_ | refine POrd_nil ?_ | refine thenP_n ?_ | refine thenP_x ?_ | refine thenP_r ?_ | refine blockP_n ?_ | refine blockP_r ?_ | refine blockP_hit ?_ | refine blockP_miss rfl ?_) | (first | refine POps_s_a ?_ | refine POps_b_a ?_) | (first | refine POps_gn_a ?_ | refine POps_gs_a ?_ | refine POps_gb_a ?_) | (first | refine PW_cond_t_a ?_ | refine PW_cond_f_a ?_) | (first | refine POrd_s_a ?_ | refine POrd_b_a ?_) | (first | refine POrd_gn_a ?_ | refine POrd_s_b ?_ | refine POrd_b_b ?_))
      refine POrd_cat_a ?_
      refine POrd_cat_a ?_
      repeat (first | (with_reducible first | refine PW_seq ?_ | refine PW_block ?_ | refine PW_region_lit ?_ | refine PW_skip ?_ | refine PW_exit ?_ | refine PW_ret ?_ | refine PW_label ?_ | refine POps_nil ?_ | refine POrd_nil ?_ | refine thenP_n ?_ | refine thenP_x ?_ | refine thenP_r ?_ | refine blockP_n ?_ | refine blockP_r ?_ | refine blockP_hit ?_ | refine blockP_miss rfl ?_) | (first | refine POps_s_a ?_ | refine POps_b_a ?_) | (first | refine POps_gn_a ?_ | refine POps_gs_a ?_ | refine POps_gb_a ?_) | (first | refine PW_cond_t_a ?_ | refine PW_cond_f_a ?_) | (first | refine POrd_s_a ?_ | refine POrd_b_a ?_) | (first | refine POrd_gn_a ?_ | refine POrd_s_b ?_ | refine POrd_b_b ?_))
      refine POrd_call_b (h2) ?_
      repeat (first | (with_reducible first | refine PW_seq ?_ | refine PW_block ?_ | refine PW_region_lit ?_ | refine PW_skip ?_ | refine PW_exit ?_ | refine PW_ret ?_ | refine PW_label ?_ | refine POps_nil ?_ | refine POrd_nil ?_ | refine thenP_n ?_ | refine thenP_x ?_ | refine thenP_r ?_ | refine blockP_n ?_ | refine blockP_r ?_ | refine blockP_hit ?_ | refine blockP_miss rfl ?_) | (first | refine POps_s_a ?_ | refine POps_b_a ?_) | (first | refine POps_gn_a ?_ | refine POps_gs_a ?_ | refine POps_gb_a ?_) | (first | refine PW_cond_t_a ?_ | refine PW_cond_f_a ?_) | (first | refine POrd_s_a ?_ | refine POrd_b_a ?_) | (first | refine POrd_gn_a ?_ | refine POrd_s_b ?_ | refine POrd_b_b ?_))
      refine POrd_cat_a ?_
      repeat (first | (with_reducible first | refine PW_seq ?_ | refine PW_block ?_ | refine PW_region_lit ?_ | refine PW_skip ?_ | refine PW_exit ?_ | refine PW_ret ?_ | refine PW_label ?_ | refine POps_nil ?_ | refine POrd_nil ?_ | refine thenP_n ?_ | refine thenP_x ?_ | refine thenP_r ?_ | refine blockP_n ?_ | refine blockP_r ?_ | refine blockP_hit ?_ | refine blockP_miss rfl ?_) | (first | refine POps_s_a ?_ | refine POps_b_a ?_) | (first | refine POps_gn_a ?_ | refine POps_gs_a ?_ | refine POps_gb_a ?_) | (first | refine PW_cond_t_a ?_ | refine PW_cond_f_a ?_) | (first | refine POrd_s_a ?_ | refine POrd_b_a ?_) | (first | refine POrd_gn_a ?_ | refine POrd_s_b ?_ | refine POrd_b_b ?_))
      refine POps_cat_a ?_
      repeat (first | (with_reducible first | refine PW_seq ?_ | refine PW_block ?_ | refine PW_region_lit ?_ | refine PW_skip ?_ | refine PW_exit ?_ | refine PW_ret ?_ | refine PW_label ?_ | refine POps_nil ?_ | refine POrd_nil ?_ | refine thenP_n ?_ | refine thenP_x ?_ | refine thenP_r ?_ | refine blockP_n ?_ | refine blockP_r ?_ | refine blockP_hit ?_ | refine blockP_miss rfl ?_) | (first | refine POps_s_a ?_ | refine POps_b_a ?_) | (first | refine POps_gn_a ?_ | refine POps_gs_a ?_ | refine POps_gb_a ?_) | (first | refine PW_cond_t_a ?_ | refine PW_cond_f_a ?_) | (first | refine POrd_s_a ?_ | refine POrd_b_a ?_) | (first | refine POrd_gn_a ?_ | refine POrd_s_b ?_ | refine POrd_b_b ?_))
      refine retP_ok (by simp) (by simp only [Try.results75]; rfl) (by simp [resP, St.box?, PF.get, loadB, TyK.agg, *]; rfl) (List.nil_sublist _) ?_
      exact ⟨by rw [HE.out]; simp [binL, tupP, PV.norm2, PV.norm1, PV.norm0], rfl⟩
    · have HE := Lib.hid (inL_app 5 a n s x y rfl)
      generalize inL (.mk 5 a s n [x, y]) = txt at *
      have h1 := hx' 1 (by omega)
      have h2 := hy' 2 (by omega)
      have l1 := hlx 1
      have l2 := hly 2
      clear hlx hly hx' hy'
      simp only [aggD, encD_mk, List.map_cons, List.map_nil]
      refine PCalls.enter Try.func75 rfl Try.ntmps75 (by simp) ?_
      simp only [argsF]
      repeat (first | (with_reducible first | refine PW_seq ?_ | refine PW_block ?_ | refine PW_region_lit ?_ | refine PW_skip ?_ | refine PW_exit ?_ | refine PW_ret ?_ | refine PW_label ?_ | refine POps_nil ?_ | refine POrd_nil ?_ | refine thenP_n ?_ | refine thenP_x ?_ | refine thenP_r ?_ | refine blockP_n ?_ | refine blockP_r ?_ | refine blockP_hit ?_ | refine blockP_miss rfl ?_) | (first | refine POps_s_a ?_ | refine POps_b_a ?_) | (first | refine POps_gn_a ?_ | refine POps_gs_a ?_ | refine POps_gb_a ?_) | (first | refine PW_cond_t_a ?_ | refine PW_cond_f_a ?_) | (first | refine POrd_s_a ?_ | refine POrd_b_a ?_) | (first | refine POrd_gn_a ?_ | refine POrd_s_b ?_ | refine POrd_b_b ?_))
      refine POps_box_a ?_
      intro i0 hi0
      repeat (first | (with_reducible first | refine PW_seq ?_ | refine PW_block ?_ | refine PW_region_lit ?_ | refine PW_skip ?_ | refine PW_exit ?_ | refine PW_ret ?_ | refine PW_label ?_ | refine POps_nil ?_ | refine POrd_nil ?_ | refine thenP_n ?_ | refine thenP_x ?_ | refine thenP_r ?_ | refine blockP_n ?_ | refine blockP_r ?_ | refine blockP_hit ?_ | refine blockP_miss rfl ?_) | (first | refine POps_s_a ?_ | refine POps_b_a ?_) | (first | refine POps_gn_a ?_ | refine POps_gs_a ?_ | refine POps_gb_a ?_) | (first | refine PW_cond_t_a ?_ | refine PW_cond_f_a ?_) | (first | refine POrd_s_a ?_ | refine POrd_b_a ?_) | (first | refine POrd_gn_a ?_ | refine POrd_s_b ?_ | refine POrd_b_b ?_))
      refine PW_drawn [(0, .a), (1, .b), (2, .a), (3, .a), (4, .a), (5, .a), (6, .a), (7, .b), (8, .a), (9, .a), (10, .a), (11, .a), (12, .a)] (by kernel_rfl) (by rfl) (by kernel_rfl) ?_
      repeat (first | (with_reducible first | refine PW_seq ?_ | refine PW_block ?_ | refine PW_region_lit ?_ | refine PW_skip ?_ | refine PW_exit ?_ | refine PW_ret ?_ | refine PW_label ?_ | refine POps_nil ?_ | refine POrd_nil ?_ | refine thenP_n ?_ | refine thenP_x ?_ | refine thenP_r ?_ | refine blockP_n ?_ | refine blockP_r ?_ | refine blockP_hit ?_ | refine blockP_miss rfl ?_) | (first | refine POps_s_a ?_ | refine POps_b_a ?_) | (first | refine POps_gn_a ?_ | refine POps_gs_a ?_ | refine POps_gb_a ?_) | (first | refine PW_cond_t_a ?_ | refine PW_cond_f_a ?_) | (first | refine POrd_s_a ?_ | refine POrd_b_a ?_) | (first | refine POrd_gn_a ?_ | refine POrd_s_b ?_ | refine POrd_b_b ?_))
      refine POrd_call_b (h1) ?_
      repeat (first | (with_reducible first | refine PW_seq ?_ | refine PW_block ?_ | refine PW_region_lit ?_ | refine PW_skip ?_ | refine PW_exit ?_ | refine PW_ret ?_ | refine PW_label ?_ | refine POps_nil ?_ | refine POrd_nil ?_ | refine thenP_n ?_ | refine thenP_x ?_ | refine thenP_r ?_ | refine blockP_n ?_ | refine blockP_r ?_ | refine blockP_hit ?_ | refine blockP_miss rfl ?_) | (first | refine POps_s_a ?_ | refine POps_b_a ?_) | (first | refine POps_gn_a ?_ | refine POps_gs_a ?_ | refine POps_gb_a ?_) | (first | refine PW_cond_t_a ?_ | refine PW_cond_f_a ?_) | (first | refine POrd_s_a ?_ | refine POrd_b_a ?_) | (first | refine POrd_gn_a ?_ | refine POrd_s_b ?_ | refine POrd_b_b ?_))
      refine POrd_cat_a ?_
      repeat (first | (with_reducible first | refine PW_seq ?_ | refine PW_block ?_ | refine PW_region_lit ?_ | refine PW_skip ?_ | refine PW_exit ?_ | refine PW_ret ?_ | refine PW_label ?_ | refine POps_nil ?_ | refine POrd_nil ?_ | refine thenP_n ?_ | refine thenP_x ?_ | refine thenP_r ?_ | refine blockP_n ?_ | refine blockP_r ?_ | refine blockP_hit ?_ | refine blockP_miss rfl ?_) | (first | refine POps_s_a ?_ | refine POps_b_a ?_) | (first | refine POps_gn_a ?_ | refine POps_gs_a ?_ | refine POps_gb_a ?_) | (first | refine PW_cond_t_a ?_ | refine PW_cond_f_a ?_) | (first | refine POrd_s_a ?_ | refine POrd_b_a ?_) | (first | refine POrd_gn_a ?_ | refine POrd_s_b ?_ | refine POrd_b_b ?_))
      refine POrd_call_b (h2) ?_
      repeat (first | (with_reducible first | refine PW_seq ?_ | refine PW_block ?_ | refine PW_region_lit ?_ | refine PW_skip ?_ | refine PW_exit ?_ | refine PW_ret ?_ | refine PW_label ?_ | refine POps_nil ?_ | refine POrd_nil ?_ | refine thenP_n ?_ | refine thenP_x ?_ | refine thenP_r ?_ | refine blockP_n ?_ | refine blockP_r ?_ | refine blockP_hit ?_ | refine blockP_miss rfl ?_) | (first | refine POps_s_a ?_ | refine POps_b_a ?_) | (first | refine POps_gn_a ?_ | refine POps_gs_a ?_ | refine POps_gb_a ?_) | (first | refine PW_cond_t_a ?_ | refine PW_cond_f_a ?_) | (first | refine POrd_s_a ?_ | refine POrd_b_a ?_) | (first | refine POrd_gn_a ?_ | refine POrd_s_b ?_ | refine POrd_b_b ?_))
      refine POrd_cat_a ?_
      repeat (first | (with_reducible first | refine PW_seq ?_ | refine PW_block ?_ | refine PW_region_lit ?_ | refine PW_skip ?_ | refine PW_exit ?_ | refine PW_ret ?_ | refine PW_label ?_ | refine POps_nil ?_ | refine POrd_nil ?_ | refine thenP_n ?_ | refine thenP_x ?_ | refine thenP_r ?_ | refine blockP_n ?_ | refine blockP_r ?_ | refine blockP_hit ?_ | refine blockP_miss rfl ?_) | (first | refine POps_s_a ?_ | refine POps_b_a ?_) | (first | refine POps_gn_a ?_ | refine POps_gs_a ?_ | refine POps_gb_a ?_) | (first | refine PW_cond_t_a ?_ | refine PW_cond_f_a ?_) | (first | refine POrd_s_a ?_ | refine POrd_b_a ?_) | (first | refine POrd_gn_a ?_ | refine POrd_s_b ?_ | refine POrd_b_b ?_))
      refine retP_ok (by simp) (by simp only [Try.results75]; rfl) (by simp [resP, St.box?, PF.get, loadB, TyK.agg, *]; rfl) (List.nil_sublist _) ?_
      exact ⟨by rw [HE.out]; simp [tupP, PV.norm2, PV.norm1, PV.norm0], rfl⟩
theorem rex_w : ∀ (m : Nat) (t : Nd), SizeOf.sizeOf t ≤ m → goodT t false = true → ndT t ≤ 100000000 → ∀ lv, lv ≤ 8 → RxC t lv := by
  intro m
  induction m with
  | zero => intro t h; cases t; simp at h
  | succ m ih =>
    intro t h hg hs lv hlv
    refine rex_of_in t lv hlv hg hs (rin_step t hg hs fun x hx lv hlv => ?_)
    have h2 := nd_mem hx
    have h3 := nd_sub t
    obtain ⟨k, a, s, n, sub⟩ := t
    have hlt : SizeOf.sizeOf x ≤ m := by
      have := List.sizeOf_lt_of_mem hx
      simp only [Nd.sub] at this
      simp at h
      omega
    rcases ex_cases hg with ⟨_, rfl⟩ | ⟨_, rfl, _⟩ | ⟨y, z, _, rfl, hy, hz⟩
    · simp [Nd.sub] at hx
    · simp [Nd.sub] at hx
    · simp only [Nd.sub, List.mem_cons, List.not_mem_nil, or_false] at hx
      rcases hx with rfl | rfl
      · exact ih _ hlt hy (by omega) lv hlv
      · exact ih _ hlt hz (by omega) lv hlv
end Go.Proofs.Ytffgfjnbgplckaa

namespace Go.Proofs.Ytffgfjnbgplckaa
open Go.RowKit
set_option maxRecDepth 100000
section
variable {P : Program} {n : Nat} {ops : Array Oper} {Q : PF → St → Prop} {rest : List Oper} {fr : PF} {st : St} {t rt ty : TypeId} {x y : Operand} {pos : String} {after : Array Edge} {gd : Option (Nat × Bool)} {d j : Nat} {od : List (Nat × Kd)}
theorem POps_callV {fo : Operand} {f : FuncId} {xs : Array Operand} {ts : Array TypeId} {ps qs : List PV} {r : PV} (hc : PCalls P f qs [] fun p s => p = r ∧ s = []) (hd : d < n) (hw : PF.wants fr ops ⟨some d, .call { callee := .value fo, args := xs, argTypes := ts }, ty, pos, after, gd⟩ = some true) (hf : fr.eval fo = some (.fn (.func f) [] [])) (hxs : evalArgs fr.eval xs.toList = some ps) (hn : ps.map PV.norm1 = qs) (hca : callable P f = true)
    (h : POps P n ops Q rest ((d, r) :: fr) st) : POps P n ops Q (⟨some d, .call { callee := .value fo, args := xs, argTypes := ts }, ty, pos, after, gd⟩ :: rest) fr st := by
  refine POps_e hd hw (POp_call (st0 := []) (st1 := st) (first := []) (cap := []) rfl hf hxs hca (List.Perm.refl _) (R0 := fun p s => p = r ∧ s = []) ?_ ?_)
  · simp only [List.nil_append, List.append_nil]
    subst hn
    exact hc.args_norm
  · rintro p s0 ⟨rfl, rfl⟩
    exact h
theorem POp_from {o : Oper} {ρ : Operand → Option PV} {t : TypeId} {x : Operand} {i : Nat} {s : ByteArray} (ho : o.op = .slice t x (some (.const (.int .i64 i))) none none) (ht : P.underlying t = some .string) (hx : ρ x = some (.d (.v (.string s)))) (hi : i ≤ s.size) (st : St) : POp P o ρ st fun q s' => q = .d (.v (.string (s.extract i s.size))) ∧ s' = st := by
  refine POp.of_run fun F K w a h1 h2 => ?_
  obtain ⟨od, op, ty, pos, after, guard⟩ := o
  simp only at ho h2
  subst ho
  have hr := h2 x (by simp [Op.operands]) _ hx
  generalize hv : a.eval x = v at hr
  cases hr with
  | d hr =>
    cases hr with
    | v hok =>
      have hok' : (s.extract i s.size).size ≤ maxLen := by
        have hok2 : s.size ≤ maxLen := hok
        rw [ByteArray.size_extract]; omega
      refine ⟨.string (s.extract i s.size), w, K, _, st, ?_, Ext.refl _ _ _, h1, .d (.v hok'), rfl, rfl⟩
      simp only [execOp, Option.map, hv]
      rw [Sem.run_bind, run_sliceAt_string _ _ _ _ _ _ ht]
      have := run_slice_string_l (P := P) w t s ht .i64 (i : Int) (by omega) (by omega)
      rw [show a.eval (.const (.int .i64 (i : Int))) = .int .i64 (i : Int) from rfl, this]
      rfl
end
theorem name_p (s : ByteArray) : PCalls Try.prog 70 [.d (.v (.string s))] [] fun p st => p = aggD (Nd.mk 1 0 s 0 []) ∧ st = [] := by
  refine PCalls.enter Try.func70 rfl Try.ntmps70 (by simp) ?_
  simp only [argsF]
  repeat (first | (with_reducible first | refine PW_seq ?_ | refine PW_block ?_ | refine PW_region_lit ?_ | refine PW_skip ?_ | refine PW_exit ?_ | refine PW_ret ?_ | refine PW_label ?_ | refine POps_nil ?_ | refine POrd_nil ?_ | refine thenP_n ?_ | refine thenP_x ?_ | refine thenP_r ?_ | refine blockP_n ?_ | refine blockP_r ?_ | refine blockP_hit ?_ | refine blockP_miss rfl ?_) | (first | refine POps_s_a ?_ | refine POps_b_a ?_) | (first | refine POps_gn_a ?_ | refine POps_gs_a ?_ | refine POps_gb_a ?_) | (first | refine PW_cond_t_a ?_ | refine PW_cond_f_a ?_) | (first | refine POrd_s_a ?_ | refine POrd_b_a ?_) | (first | refine POrd_gn_a ?_ | refine POrd_s_b ?_ | refine POrd_b_b ?_))
  refine POps_alloc_a ?_
  intro i0 hi0
  repeat (first | (with_reducible first | refine PW_seq ?_ | refine PW_block ?_ | refine PW_region_lit ?_ | refine PW_skip ?_ | refine PW_exit ?_ | refine PW_ret ?_ | refine PW_label ?_ | refine POps_nil ?_ | refine POrd_nil ?_ | refine thenP_n ?_ | refine thenP_x ?_ | refine thenP_r ?_ | refine blockP_n ?_ | refine blockP_r ?_ | refine blockP_hit ?_ | refine blockP_miss rfl ?_) | (first | refine POps_s_a ?_ | refine POps_b_a ?_) | (first | refine POps_gn_a ?_ | refine POps_gs_a ?_ | refine POps_gb_a ?_) | (first | refine PW_cond_t_a ?_ | refine PW_cond_f_a ?_) | (first | refine POrd_s_a ?_ | refine POrd_b_a ?_) | (first | refine POrd_gn_a ?_ | refine POrd_s_b ?_ | refine POrd_b_b ?_))
  refine POps_store_a ?_
  repeat (first | (with_reducible first | refine PW_seq ?_ | refine PW_block ?_ | refine PW_region_lit ?_ | refine PW_skip ?_ | refine PW_exit ?_ | refine PW_ret ?_ | refine PW_label ?_ | refine POps_nil ?_ | refine POrd_nil ?_ | refine thenP_n ?_ | refine thenP_x ?_ | refine thenP_r ?_ | refine blockP_n ?_ | refine blockP_r ?_ | refine blockP_hit ?_ | refine blockP_miss rfl ?_) | (first | refine POps_s_a ?_ | refine POps_b_a ?_) | (first | refine POps_gn_a ?_ | refine POps_gs_a ?_ | refine POps_gb_a ?_) | (first | refine PW_cond_t_a ?_ | refine PW_cond_f_a ?_) | (first | refine POrd_s_a ?_ | refine POrd_b_a ?_) | (first | refine POrd_gn_a ?_ | refine POrd_s_b ?_ | refine POrd_b_b ?_))
  refine retP_ok (by simp) (by simp only [Try.results70]; rfl) (by simp [resP, St.box?, PF.get, loadB, TyK.agg, *]; rfl) (List.nil_sublist _) ?_
  exact ⟨rfl, rfl⟩
theorem arrow_p (a b : Nd) : PCalls Try.prog 69 [aggD a, aggD b] [] fun p st => p = aggD (Nd.mk 3 0 ⟨#[95]⟩ 0 [a, b]) ∧ st = [] := by
  have hE := encD_mk 3 0 0 ⟨#[95]⟩ [a, b]
  simp only [List.map_cons, List.map_nil, encD_nd a, encD_nd b] at hE
  simp only [aggD, encD_nd a, encD_nd b, List.map_cons, List.map_nil]
  refine PCalls.enter Try.func69 rfl Try.ntmps69 (by simp) ?_
  simp only [argsF]
  repeat (first | (with_reducible first | refine PW_seq ?_ | refine PW_block ?_ | refine PW_region_lit ?_ | refine PW_skip ?_ | refine PW_exit ?_ | refine PW_ret ?_ | refine PW_label ?_ | refine POps_nil ?_ | refine POrd_nil ?_ | refine thenP_n ?_ | refine thenP_x ?_ | refine thenP_r ?_ | refine blockP_n ?_ | refine blockP_r ?_ | refine blockP_hit ?_ | refine blockP_miss rfl ?_) | (first | refine POps_s_a ?_ | refine POps_b_a ?_) | (first | refine POps_gn_a ?_ | refine POps_gs_a ?_ | refine POps_gb_a ?_) | (first | refine PW_cond_t_a ?_ | refine PW_cond_f_a ?_) | (first | refine POrd_s_a ?_ | refine POrd_b_a ?_) | (first | refine POrd_gn_a ?_ | refine POrd_s_b ?_ | refine POrd_b_b ?_))
  refine POps_box_a ?_
  intro i0 hi0
  refine POps_box_a ?_
  intro i1 hi1
  simp only [St.freshB_box, St.freshB_nil] at hi1
  refine POps_alloc_a ?_
  intro i2 hi2
  simp only [St.freshB_box, St.freshB_nil] at hi2
  repeat (first | (with_reducible first | refine PW_seq ?_ | refine PW_block ?_ | refine PW_region_lit ?_ | refine PW_skip ?_ | refine PW_exit ?_ | refine PW_ret ?_ | refine PW_label ?_ | refine POps_nil ?_ | refine POrd_nil ?_ | refine thenP_n ?_ | refine thenP_x ?_ | refine thenP_r ?_ | refine blockP_n ?_ | refine blockP_r ?_ | refine blockP_hit ?_ | refine blockP_miss rfl ?_) | (first | refine POps_s_a ?_ | refine POps_b_a ?_) | (first | refine POps_gn_a ?_ | refine POps_gs_a ?_ | refine POps_gb_a ?_) | (first | refine PW_cond_t_a ?_ | refine PW_cond_f_a ?_) | (first | refine POrd_s_a ?_ | refine POrd_b_a ?_) | (first | refine POrd_gn_a ?_ | refine POrd_s_b ?_ | refine POrd_b_b ?_))
  refine POps_bs_a ?_
  repeat (first | (with_reducible first | refine PW_seq ?_ | refine PW_block ?_ | refine PW_region_lit ?_ | refine PW_skip ?_ | refine PW_exit ?_ | refine PW_ret ?_ | refine PW_label ?_ | refine POps_nil ?_ | refine POrd_nil ?_ | refine thenP_n ?_ | refine thenP_x ?_ | refine thenP_r ?_ | refine blockP_n ?_ | refine blockP_r ?_ | refine blockP_hit ?_ | refine blockP_miss rfl ?_) | (first | refine POps_s_a ?_ | refine POps_b_a ?_) | (first | refine POps_gn_a ?_ | refine POps_gs_a ?_ | refine POps_gb_a ?_) | (first | refine PW_cond_t_a ?_ | refine PW_cond_f_a ?_) | (first | refine POrd_s_a ?_ | refine POrd_b_a ?_) | (first | refine POrd_gn_a ?_ | refine POrd_s_b ?_ | refine POrd_b_b ?_))
  refine POps_store_a ?_
  repeat (first | (with_reducible first | refine PW_seq ?_ | refine PW_block ?_ | refine PW_region_lit ?_ | refine PW_skip ?_ | refine PW_exit ?_ | refine PW_ret ?_ | refine PW_label ?_ | refine POps_nil ?_ | refine POrd_nil ?_ | refine thenP_n ?_ | refine thenP_x ?_ | refine thenP_r ?_ | refine blockP_n ?_ | refine blockP_r ?_ | refine blockP_hit ?_ | refine blockP_miss rfl ?_) | (first | refine POps_s_a ?_ | refine POps_b_a ?_) | (first | refine POps_gn_a ?_ | refine POps_gs_a ?_ | refine POps_gb_a ?_) | (first | refine PW_cond_t_a ?_ | refine PW_cond_f_a ?_) | (first | refine POrd_s_a ?_ | refine POrd_b_a ?_) | (first | refine POrd_gn_a ?_ | refine POrd_s_b ?_ | refine POrd_b_b ?_))
  refine retP_ok (by simp) (by simp only [Try.results69]; rfl) (by simp [resP, St.box?, PF.get, loadB, TyK.agg, *]; rfl) (List.nil_sublist _) ?_
  refine ⟨?_, rfl⟩
  rw [hE]
  rfl
def aw6 : Nd := .mk 3 0 ⟨#[95]⟩ 0 [.mk 3 0 ⟨#[95]⟩ 0 [.mk 1 0 ⟨#[65]⟩ 0 [], .mk 1 0 ⟨#[66]⟩ 0 []], .mk 1 0 ⟨#[67]⟩ 0 []]
theorem aw_text : exprR aw6 = .tup [.d (.v (.string ⟨#[40, 65, 32, 45, 62, 32, 66, 41, 32, 45, 62, 32, 67]⟩)), .d (.v (.int .i64 0))] := by
  have h1 : exprB aw6 = true := by decide +kernel
  have h2 : exL aw6 0 = [40, 65, 32, 45, 62, 32, 66, 41, 32, 45, 62, 32, 67] := by
    unfold aw6 exL
    rw [inL_arrow _ _ _ _ _ _ rfl rfl]
    unfold exL
    rw [inL_arrow _ _ _ _ _ _ rfl rfl]
    unfold exL
    simp only [inL_name _ _ _ _ rfl]
    simp [par, wrapL, Nd.kind]
  unfold exprR
  rw [if_pos h1, h2]
  rfl
theorem num_aw : numS (-10) = ⟨#[45, 49, 48]⟩ := by
  rw [numS, if_pos (by omega)]
  unfold decS
  rw [show (-10 : Int).natAbs = 10 from rfl, decL_step 10 (by omega), decL_small (10 / 10) (by omega)]
  rfl
set_option maxHeartbeats 4000000 in
theorem awake6_p : PCalls Try.prog 37 [] [] fun p st => p = .d (.v (.bool true)) ∧ st = [] := by
  have hN := pexpr_p aw6
  rw [aw_text] at hN
  unfold aw6 at hN
  have hP := pnum_p (-10) (by omega) (by omega)
  rw [num_aw] at hP
  refine PCalls.enter Try.func37 rfl Try.ntmps37 (by simp) ?_
  simp only [argsF]
  repeat (first | (with_reducible first | refine PW_seq ?_ | refine PW_block ?_ | refine PW_region_lit ?_ | refine PW_skip ?_ | refine PW_exit ?_ | refine PW_ret ?_ | refine PW_label ?_ | refine POps_nil ?_ | refine POrd_nil ?_ | refine thenP_n ?_ | refine thenP_x ?_ | refine thenP_r ?_ | refine blockP_n ?_ | refine blockP_r ?_ | refine blockP_hit ?_ | refine blockP_miss rfl ?_) | (first | refine POps_s_a ?_ | refine POps_b_a ?_) | (first | refine POps_gn_a ?_ | refine POps_gs_a ?_ | refine POps_gb_a ?_) | (first | refine PW_cond_t_a ?_ | refine PW_cond_f_a ?_) | (first | refine POrd_s_a ?_ | refine POrd_b_a ?_) | (first | refine POrd_gn_a ?_ | refine POrd_s_b ?_ | refine POrd_b_b ?_))
  refine POps_call_a (name_p ⟨#[65]⟩) ?_
  repeat (first | (with_reducible first | refine PW_seq ?_ | refine PW_block ?_ | refine PW_region_lit ?_ | refine PW_skip ?_ | refine PW_exit ?_ | refine PW_ret ?_ | refine PW_label ?_ | refine POps_nil ?_ | refine POrd_nil ?_ | refine thenP_n ?_ | refine thenP_x ?_ | refine thenP_r ?_ | refine blockP_n ?_ | refine blockP_r ?_ | refine blockP_hit ?_ | refine blockP_miss rfl ?_) | (first | refine POps_s_a ?_ | refine POps_b_a ?_) | (first | refine POps_gn_a ?_ | refine POps_gs_a ?_ | refine POps_gb_a ?_) | (first | refine PW_cond_t_a ?_ | refine PW_cond_f_a ?_) | (first | refine POrd_s_a ?_ | refine POrd_b_a ?_) | (first | refine POrd_gn_a ?_ | refine POrd_s_b ?_ | refine POrd_b_b ?_))
  refine POps_call_a (name_p ⟨#[66]⟩) ?_
  repeat (first | (with_reducible first | refine PW_seq ?_ | refine PW_block ?_ | refine PW_region_lit ?_ | refine PW_skip ?_ | refine PW_exit ?_ | refine PW_ret ?_ | refine PW_label ?_ | refine POps_nil ?_ | refine POrd_nil ?_ | refine thenP_n ?_ | refine thenP_x ?_ | refine thenP_r ?_ | refine blockP_n ?_ | refine blockP_r ?_ | refine blockP_hit ?_ | refine blockP_miss rfl ?_) | (first | refine POps_s_a ?_ | refine POps_b_a ?_) | (first | refine POps_gn_a ?_ | refine POps_gs_a ?_ | refine POps_gb_a ?_) | (first | refine PW_cond_t_a ?_ | refine PW_cond_f_a ?_) | (first | refine POrd_s_a ?_ | refine POrd_b_a ?_) | (first | refine POrd_gn_a ?_ | refine POrd_s_b ?_ | refine POrd_b_b ?_))
  refine POps_callV (arrow_p (.mk 1 0 ⟨#[65]⟩ 0 []) (.mk 1 0 ⟨#[66]⟩ 0 [])) (by decide) rfl (by first | (simp [nev, nevA, nevB, evBuild, PF.eval, PF.get, PF.wants, cPV, cCell, PV.rows, evBin, evUn, evConv, evLen, loadA, loadB, TyK.agg, partA, St.box?, St.tok?, St.setBox, St.setTok, fillO, spl, PV.ps, PV.one, evalArgs, aggD, slD, encD_nd, encD_bd, encD_rw, encD_dc, encD_str, encD_int, *]; done) | fail) (by simp [nev, nevA, nevB, evBuild, PF.eval, PF.get, PF.wants, cPV, cCell, PV.rows, evBin, evUn, evConv, evLen, loadA, loadB, TyK.agg, partA, St.box?, St.tok?, St.setBox, St.setTok, fillO, spl, PV.ps, PV.one, evalArgs, aggD, slD, encD_nd, encD_bd, encD_rw, encD_dc, encD_str, encD_int, *]; rfl) (by first | (simp [PV.norm1, PV.norm0, aggD, slD, encD_nd, encD_bd, encD_rw, encD_dc, encD_str]; done) | fail) rfl ?_
  repeat (first | (with_reducible first | refine PW_seq ?_ | refine PW_block ?_ | refine PW_region_lit ?_ | refine PW_skip ?_ | refine PW_exit ?_ | refine PW_ret ?_ | refine PW_label ?_ | refine POps_nil ?_ | refine POrd_nil ?_ | refine thenP_n ?_ | refine thenP_x ?_ | refine thenP_r ?_ | refine blockP_n ?_ | refine blockP_r ?_ | refine blockP_hit ?_ | refine blockP_miss rfl ?_) | (first | refine POps_s_a ?_ | refine POps_b_a ?_) | (first | refine POps_gn_a ?_ | refine POps_gs_a ?_ | refine POps_gb_a ?_) | (first | refine PW_cond_t_a ?_ | refine PW_cond_f_a ?_) | (first | refine POrd_s_a ?_ | refine POrd_b_a ?_) | (first | refine POrd_gn_a ?_ | refine POrd_s_b ?_ | refine POrd_b_b ?_))
  refine POps_call_a (name_p ⟨#[67]⟩) ?_
  repeat (first | (with_reducible first | refine PW_seq ?_ | refine PW_block ?_ | refine PW_region_lit ?_ | refine PW_skip ?_ | refine PW_exit ?_ | refine PW_ret ?_ | refine PW_label ?_ | refine POps_nil ?_ | refine POrd_nil ?_ | refine thenP_n ?_ | refine thenP_x ?_ | refine thenP_r ?_ | refine blockP_n ?_ | refine blockP_r ?_ | refine blockP_hit ?_ | refine blockP_miss rfl ?_) | (first | refine POps_s_a ?_ | refine POps_b_a ?_) | (first | refine POps_gn_a ?_ | refine POps_gs_a ?_ | refine POps_gb_a ?_) | (first | refine PW_cond_t_a ?_ | refine PW_cond_f_a ?_) | (first | refine POrd_s_a ?_ | refine POrd_b_a ?_) | (first | refine POrd_gn_a ?_ | refine POrd_s_b ?_ | refine POrd_b_b ?_))
  refine POps_callV (arrow_p (.mk 3 0 ⟨#[95]⟩ 0 [.mk 1 0 ⟨#[65]⟩ 0 [], .mk 1 0 ⟨#[66]⟩ 0 []]) (.mk 1 0 ⟨#[67]⟩ 0 [])) (by decide) rfl (by first | (simp [nev, nevA, nevB, evBuild, PF.eval, PF.get, PF.wants, cPV, cCell, PV.rows, evBin, evUn, evConv, evLen, loadA, loadB, TyK.agg, partA, St.box?, St.tok?, St.setBox, St.setTok, fillO, spl, PV.ps, PV.one, evalArgs, aggD, slD, encD_nd, encD_bd, encD_rw, encD_dc, encD_str, encD_int, *]; done) | fail) (by simp [nev, nevA, nevB, evBuild, PF.eval, PF.get, PF.wants, cPV, cCell, PV.rows, evBin, evUn, evConv, evLen, loadA, loadB, TyK.agg, partA, St.box?, St.tok?, St.setBox, St.setTok, fillO, spl, PV.ps, PV.one, evalArgs, aggD, slD, encD_nd, encD_bd, encD_rw, encD_dc, encD_str, encD_int, *]; rfl) (by first | (simp [PV.norm1, PV.norm0, aggD, slD, encD_nd, encD_bd, encD_rw, encD_dc, encD_str]; done) | fail) rfl ?_
  repeat (first | (with_reducible first | refine PW_seq ?_ | refine PW_block ?_ | refine PW_region_lit ?_ | refine PW_skip ?_ | refine PW_exit ?_ | refine PW_ret ?_ | refine PW_label ?_ | refine POps_nil ?_ | refine POrd_nil ?_ | refine thenP_n ?_ | refine thenP_x ?_ | refine thenP_r ?_ | refine blockP_n ?_ | refine blockP_r ?_ | refine blockP_hit ?_ | refine blockP_miss rfl ?_) | (first | refine POps_s_a ?_ | refine POps_b_a ?_) | (first | refine POps_gn_a ?_ | refine POps_gs_a ?_ | refine POps_gb_a ?_) | (first | refine PW_cond_t_a ?_ | refine PW_cond_f_a ?_) | (first | refine POrd_s_a ?_ | refine POrd_b_a ?_) | (first | refine POrd_gn_a ?_ | refine POrd_s_b ?_ | refine POrd_b_b ?_))
  refine POps_call_a (hN) ?_
  repeat (first | (with_reducible first | refine PW_seq ?_ | refine PW_block ?_ | refine PW_region_lit ?_ | refine PW_skip ?_ | refine PW_exit ?_ | refine PW_ret ?_ | refine PW_label ?_ | refine POps_nil ?_ | refine POrd_nil ?_ | refine thenP_n ?_ | refine thenP_x ?_ | refine thenP_r ?_ | refine blockP_n ?_ | refine blockP_r ?_ | refine blockP_hit ?_ | refine blockP_miss rfl ?_) | (first | refine POps_s_a ?_ | refine POps_b_a ?_) | (first | refine POps_gn_a ?_ | refine POps_gs_a ?_ | refine POps_gb_a ?_) | (first | refine PW_cond_t_a ?_ | refine PW_cond_f_a ?_) | (first | refine POrd_s_a ?_ | refine POrd_b_a ?_) | (first | refine POrd_gn_a ?_ | refine POrd_s_b ?_ | refine POrd_b_b ?_))
  refine POps_call_b (hP) ?_
  repeat (first | (with_reducible first | refine PW_seq ?_ | refine PW_block ?_ | refine PW_region_lit ?_ | refine PW_skip ?_ | refine PW_exit ?_ | refine PW_ret ?_ | refine PW_label ?_ | refine POps_nil ?_ | refine POrd_nil ?_ | refine thenP_n ?_ | refine thenP_x ?_ | refine thenP_r ?_ | refine blockP_n ?_ | refine blockP_r ?_ | refine blockP_hit ?_ | refine blockP_miss rfl ?_) | (first | refine POps_s_a ?_ | refine POps_b_a ?_) | (first | refine POps_gn_a ?_ | refine POps_gs_a ?_ | refine POps_gb_a ?_) | (first | refine PW_cond_t_a ?_ | refine PW_cond_f_a ?_) | (first | refine POrd_s_a ?_ | refine POrd_b_a ?_) | (first | refine POrd_gn_a ?_ | refine POrd_s_b ?_ | refine POrd_b_b ?_))
  refine retP_ok (by simp) (by simp only [Try.results37]; rfl) (by simp [resP, St.box?, PF.get, loadB, TyK.agg, *]; rfl) (List.nil_sublist _) ?_
  exact ⟨rfl, rfl⟩
end Go.Proofs.Ytffgfjnbgplckaa

namespace Go.Proofs.Ytffgfjnbgplckaa
open Go.RowKit
def okN6 (t : Nd) : Bool := decide (0 < (budT t 600).2)
theorem ok6_same {t : Nd} (h : okN6 t = true) : (budT t 600).1 = t ∧ ndT t < 600 := by
  have h1 := of_decide_eq_true h
  obtain ⟨_, _, h2⟩ := bud_facts t 600
  obtain ⟨h3, h4⟩ := h2 (by omega)
  exact ⟨h3, by omega⟩
set_option maxRecDepth 100000 in
set_option maxHeartbeats 4000000 in
theorem budget6_any : ∀ (t : Nd) (cs : List Value) (l : Int) (w : World), -9000 < l → l ≤ 1000 → NdC w t cs →
    Calls Try.prog 71 #[.agg cs.toArray, .int .i64 l] w fun e w' => ∃ v, e = .returned (.tuple #[.agg #[.int .i64 t.kind, .int .i64 t.at, .string t.name, .int .i64 t.num, v], .int .i64 (budT t l).2]) ∧ RepS (fun b => w.heap.size ≤ b) w' v (budT t l).1.sub ∧ Below w.heap.size w w' := by
  obtain ⟨i0, hi, hz0, hz1, hz2⟩ := info_parts infoR
  refine Nd.ind ?_
  intro kk aa ss n sub ih cs l w hl0 hl1 ht
  obtain ⟨a, cap, rfl, hsub, hlen, hnsa⟩ := nd_open ht
  have hbk := (bud_kind (.mk kk aa ss n sub) l).2
  generalize (budT (.mk kk aa ss n sub) l).1.sub = R at hbk ⊢
  generalize (budT (.mk kk aa ss n sub) l).2 = X at hbk ⊢
  simp only [Nd.kind, Nd.at, Nd.name, Nd.num, Nd.sub] at hsub hlen hnsa hbk ⊢
  have BK := Lib.hid hbk
  clear hbk
  have IH := Lib.hid ih
  clear ht ih
  go_enter Try.func71, Try.ntmps71
  go_wp2_with fail
  go_loopw [1, 7] (fun g i wr => ∃ (k : Nat) (v : Value) (rs : List Nd) (x : Int), k ≤ sub.length ∧ i = .int .i64 k ∧ g = .int .i64 x ∧ -9000 ≤ x ∧ x ≤ 1000 ∧ Own (fun b => w.heap.size + 3 ≤ b) 27 (w.heap.size + 3) v rs wr ∧ Hid (budL sub (l - 1) = (rs ++ (budL (sub.drop k) x).1, (budL (sub.drop k) x).2)) ∧ Box5 24 wr w.heap.size (.int .i64 kk) (.int .i64 aa) (.string ss) (.int .i64 n) (.slice a sub.length cap) ∧ Box5 27 wr (w.heap.size + 1) (.int .i64 0) (.int .i64 0) (.string ByteArray.empty) (.int .i64 0) (.slice none 0 0) ∧ Box5 27 wr (w.heap.size + 2) (.int .i64 kk) (.int .i64 aa) (.string ss) (.int .i64 n) v ∧ Below w.heap.size w wr ∧ w.heap.size + 3 ≤ wr.heap.size) (fun _ i _ => sub.length - (intOf i).toNat)
  case atStart =>
    obtain ⟨h1, h2, h3, h4, h5⟩ := boxes3 w #[.int .i64 kk, .int .i64 aa, .string ss, .int .i64 n, .slice a sub.length cap] #[.int .i64 0, .int .i64 0, .string ByteArray.empty, .int .i64 0, .slice none 0 0] #[.int .i64 kk, .int .i64 aa, .string ss, .int .i64 n, .slice none 0 0] 24 27 27
    exact ⟨0, _, [], l - 1, Nat.zero_le _, rfl, by go_num, by omega, by omega, Own.nil, rfl, h1, h2, h3, h4, h5⟩
  case round =>
    obtain ⟨k, v, rs, x, hk, rfl, rfl, hx0, hx1, hown, HG, b1, b2, b3, hbw, hsz⟩ := hrel
    obtain ⟨c0, c1, c2, c3, c4⟩ := b1.cells
    by_cases hlt : k < sub.length ∧ -9000 < x
    · obtain ⟨hlt, hx⟩ := hlt
      obtain ⟨bb, off, a', cap', rfl, e0, e1, e2, e3, e4, hts⟩ := sub_at hsub hbw k hlt
      have hnsk : sub[k].name.size ≤ maxLen := by obtain ⟨_, _, _, _, _, h⟩ := nd_open hts; exact h
      have hnext : Hid (budL sub (l - 1) = ((rs ++ [(budT sub[k] x).1]) ++ (budL (sub.drop (k + 1)) (budT sub[k] x).2).1, (budL (sub.drop (k + 1)) (budT sub[k] x).2).2)) := by
        have h := HG.out
        rw [List.drop_eq_getElem_cons hlt] at h
        simp only [budL] at h
        rw [if_pos hx] at h
        show _ = _
        rw [h, List.append_assoc]; rfl
      have hcnt : Hid (rs.length + 1 ≤ 20000) := by
        have h := congrArg (fun p => p.1.length) hnext.out
        have h2 := budL_count sub (l - 1)
        simp only [List.length_append, List.length_singleton] at h
        show _ ≤ _
        omega
      have hlo := bud_lo sub[k] x hx
      have hhi := (bud_facts sub[k] x).1
      have HO := Lib.hid hown
      have HBW := Lib.hid hbw
      have B1r := Lib.hid b1
      have B2r := Lib.hid b2
      have B3r := Lib.hid b3
      have HTS := Lib.hid hts
      clear hown b1 b2 b3 hts HG hbw
      go_wp2_with fail
      refine (IH.out _ (List.getElem_mem hlt) _ x _ hx hx1 HTS.out).mono ?_
      rintro e w1 ⟨v1, rfl, hrep, hb1⟩
      obtain ⟨a1, n1, c1, rfl⟩ := hrep.form
      have hs1 := hb1.size
      have hw2 : Below wr.heap.size wr (w1.alloc (.cells #[.int .i64 sub[k].kind, .int .i64 sub[k].at, .string sub[k].name, .int .i64 sub[k].num, .slice a1 n1 c1] 27)) := hb1.alloc hs1 _
      have hzw : wr.heap.size + 1 ≤ (w1.alloc (.cells #[.int .i64 sub[k].kind, .int .i64 sub[k].at, .string sub[k].name, .int .i64 sub[k].num, .slice a1 n1 c1] 27)).heap.size := by simp; omega
      have b3w := B3r.out.later hw2 (by omega)
      obtain ⟨g0, g1, g2, g3, g4⟩ := b3w.cells
      have fz4 := b3w.free 4
      have hrep2 : Rep (fun b => wr.heap.size ≤ b) (w1.alloc (.cells #[.int .i64 sub[k].kind, .int .i64 sub[k].at, .string sub[k].name, .int .i64 sub[k].num, .slice a1 n1 c1] 27)) (budT sub[k] x).1 [.int .i64 sub[k].kind, .int .i64 sub[k].at, .string sub[k].name, .int .i64 sub[k].num, .slice a1 n1 c1] := by
        have hk := (bud_kind sub[k] x).1
        have h := (rep_nd (t := .mk sub[k].kind sub[k].at sub[k].name sub[k].num (budT sub[k] x).1.sub)).2 ⟨_, rfl, hnsk, hrep⟩
        rw [hk]
        exact h.later ((Below.refl _ _).alloc (Nat.le_refl _) _)
      have hown2 := HO.out.later hw2
      have hlt2 := HO.out.lt
      have E1 := boxes1 (w1.alloc (.cells #[.int .i64 sub[k].kind, .int .i64 sub[k].at, .string sub[k].name, .int .i64 sub[k].num, .slice a1 n1 c1] 27)) #[.int .i64 sub[k].kind, .int .i64 sub[k].at, .string sub[k].name, .int .i64 sub[k].num, .slice a1 n1 c1] 27
      have hone := (RepS.one (T := 27) hrep2).sub (S' := fun b => wr.heap.size ≤ b) fun b hb _ => by
        rcases hb with hb | hb
        · exact hb
        · omega
      have hown3 := hown2.later E1.2.1
      have hS3 : ∀ d ∈ [(budT sub[k] x).1], ∀ cs, Rep (fun b => wr.heap.size ≤ b) ((w1.alloc (.cells #[.int .i64 sub[k].kind, .int .i64 sub[k].at, .string sub[k].name, .int .i64 sub[k].num, .slice a1 n1 c1] 27)).alloc (.cells #[.int .i64 sub[k].kind, .int .i64 sub[k].at, .string sub[k].name, .int .i64 sub[k].num, .slice a1 n1 c1] 27)) d cs → Rep (fun b => w.heap.size + 3 ≤ b ∧ v.ownBlock ≠ some b) ((w1.alloc (.cells #[.int .i64 sub[k].kind, .int .i64 sub[k].at, .string sub[k].name, .int .i64 sub[k].num, .slice a1 n1 c1] 27)).alloc (.cells #[.int .i64 sub[k].kind, .int .i64 sub[k].at, .string sub[k].name, .int .i64 sub[k].num, .slice a1 n1 c1] 27)) d cs :=
        fun d _ cs h => h.sub fun b hb _ => ⟨by omega, fun e => by have := (hlt2 b e).2; omega⟩
      have HO3 := Lib.hid hown3
      rw [show (w1.alloc (.cells #[.int .i64 sub[k].kind, .int .i64 sub[k].at, .string sub[k].name, .int .i64 sub[k].num, .slice a1 n1 c1] 27)).heap.size = w1.heap.size + 1 from by simp] at hone
      have HONE := Lib.hid hone
      have HS3 := Lib.hid hS3
      have HZ3 := Lib.hid (show w.heap.size + 3 ≤ ((w1.alloc (.cells #[.int .i64 sub[k].kind, .int .i64 sub[k].at, .string sub[k].name, .int .i64 sub[k].num, .slice a1 n1 c1] 27)).alloc (.cells #[.int .i64 sub[k].kind, .int .i64 sub[k].at, .string sub[k].name, .int .i64 sub[k].num, .slice a1 n1 c1] 27)).heap.size by have := E1.2.2; omega)
      have HW3 := Lib.hid (hw2.trans (E1.2.1.mono (by omega)))
      clear hown2 hlt2 hone hown3 hS3 E1 hrep2 hrep hw2 hzw hb1 b3w
      have HLO := Lib.hid hlo
      have HHI := Lib.hid hhi
      clear hlo hhi
      have hz0r := Lib.hid hsz
      go_wp2_with (at_builtin; refine wpList_push rfl _ _ 25 rfl 27 i0 (.agg #[.int .i64 0, .int .i64 0, .string ByteArray.empty, .int .i64 0, .slice none 0 0]) 64 Try.underlying25 hi hz0 hz1 hz2 rfl (by decide) HO3.out _ [(budT sub[k] x).1] HONE.out (by rfl) (by rfl) HS3.out (by have := hcnt.out; unfold maxLen; simp; omega) (by have := hcnt.out; simp; omega) HZ3.out ?_; intro v2 w2 hown2 hb2 hg2 hap2; obtain ⟨g2, cp2, rfl, -⟩ := hown2.some (by simp); have q3 := Lib.hid ((B3r.out.later HW3.out (by omega)).later hb2 (by omega)); obtain ⟨y0, y1, y2, y3, y4⟩ := q3.out.cells; have y5 := q3.out.free 4; replace hown2 := Lib.hid hown2; replace hb2 := Lib.hid hb2)
      clear hg2 hap2
      have hbf := HBW.out.trans ((HW3.out.mono HBW.out.size).trans (hb2.out.mono (by omega)))
      have HLT := Lib.hid hlt
      go_roundw
      case rel =>
        have hlo := HLO.out
        have hhi := HHI.out
        have hz4 := hb2.out.size
        have hz3 := HZ3.out
        refine ⟨k + 1, _, rs ++ [(budT sub[k] x).1], (budT sub[k] x).2, by omega, by go_num, rfl, by omega, by omega, hown2.out.move fun b hb _ => Below.heap_setCell _ _ _ _ (by show b ≠ w.heap.size + 2; omega), hnext, ?_, ?_, by rw [List.length_append]; exact q3.out.set4 _, hbf.setCell (by show w.heap.size ≤ w.heap.size + 2; omega) _, by simp; omega⟩
        · exact Box5.set_ne ((B1r.out.later HW3.out (by omega)).later hb2.out (by omega)) (by show w.heap.size ≠ w.heap.size + 2; omega) _
        · exact Box5.set_ne ((B2r.out.later HW3.out (by omega)).later hb2.out (by omega)) (by show w.heap.size + 1 ≠ w.heap.size + 2; omega) _
      case measure => have := HLT.out; simp [intOf]; omega
    · have hend : budL (sub.drop k) x = ([], x) := by
        by_cases h1 : k < sub.length
        · rw [List.drop_eq_getElem_cons h1]; simp only [budL]; rw [if_neg (by omega)]
        · rw [List.drop_of_length_le (by omega)]; rfl
      have h := HG.out
      rw [hend] at h
      have hb := BK.out
      rw [h] at hb
      have HRS : Hid (rs = R ∧ x = X) := ⟨by rw [hb.1]; simp, hb.2.symm⟩
      obtain ⟨d0, d1, d2, d3, d4⟩ := b2.cells
      obtain ⟨g0, g1, g2, g3, g4⟩ := b3.cells
      have f0 := b2.free 0
      have f1 := b2.free 1
      have f2 := b2.free 2
      have f3 := b2.free 3
      have f4 := b2.free 4
      obtain ⟨av, cv, rfl⟩ := hown.shape
      have hres : RepS (fun b => w.heap.size ≤ b) (set5 wr (w.heap.size + 1) (.int .i64 kk) (.int .i64 aa) (.string ss) (.int .i64 n) (.slice av rs.length cv)) (.slice av rs.length cv) rs :=
        RepS.move (fun b hb _ => ⟨by omega, by rw [set5_heap _ _ _ _ _ _ _ _ (by omega)]⟩) hown.done
      have HRES := Lib.hid hres
      have hbf : Below w.heap.size w (set5 wr (w.heap.size + 1) (.int .i64 kk) (.int .i64 aa) (.string ss) (.int .i64 n) (.slice av rs.length cv)) := set5_below hbw (by omega) _ _ _ _ _
      have HBF := Lib.hid hbf
      clear h hb hend HG hres hbf b1 b2 b3 hbw hown
      rcases (show (k < sub.length ∧ x ≤ -9000) ∨ sub.length ≤ k by omega) with ⟨h1, h2⟩ | h1
      all_goals
        clear hlt
        go_wp2_with fail
        exact bodyPost_ret (v := .tuple #[.agg #[.int .i64 kk, .int .i64 aa, .string ss, .int .i64 n, .slice av rs.length cv], .int .i64 x]) (by simp [results, Try.results71, go_sem, d0, d1, d2, d3, d4]) rfl ⟨_, by rw [HRS.out.2], by rw [← HRS.out.1]; exact HRES.out, HBF.out⟩
set_option maxRecDepth 100000 in
set_option maxHeartbeats 4000000 in
theorem of6_any (t : Nd) (cs : List Value) (w : World) (ht : NdC w t cs) :
    Calls Try.prog 38 #[.agg cs.toArray] w fun e w' => ∃ v, e = .returned (.tuple #[.agg #[.int .i64 t.kind, .int .i64 t.at, .string t.name, .int .i64 t.num, v], .bool (okN6 t)]) ∧ RepS (fun b => w.heap.size ≤ b) w' v (budT t 600).1.sub ∧ Below w.heap.size w w' := by
  obtain ⟨a, cap, rfl, hsub, hlen, hnsa⟩ := nd_open ht
  have E := boxes2 w #[.int .i64 t.kind, .int .i64 t.at, .string t.name, .int .i64 t.num, .slice a t.sub.length cap] #[.int .i64 0, .int .i64 0, .string ByteArray.empty, .int .i64 0, .slice none 0 0] 24 27
  have BU := Lib.hid (budget6_any t _ 600 _ (by omega) (by omega) (ht.later E.2.2.1))
  have HE := Lib.hid E
  have fin : Hid (decide (0 < (budT t 600).2) = okN6 t) := rfl
  clear hsub hlen ht E
  generalize (budT t 600).1.sub = R at *
  generalize (budT t 600).2 = X at *
  generalize okN6 t = ok at *
  go_enter Try.func38, Try.ntmps38
  go_wp2_with ((go_at_call 71; refine BU.out.mono ?_; rintro e w1 ⟨v1, rfl, hrep, hb1⟩; obtain ⟨a1, n1, c1, rfl⟩ := hrep.form; have q2 := Lib.hid ((show Box5 _ _ _ _ _ _ _ _ from HE.out.2.1).later (hb1.alloc hb1.size (.cells #[.int .i64 t.kind, .int .i64 t.at, .string t.name, .int .i64 t.num, .slice a1 n1 c1] 27)) (by have := HE.out.2.2.2; omega)); obtain ⟨d0, d1, d2, d3, d4⟩ := q2.out.cells; have f0 := q2.out.free 0; have f1 := q2.out.free 1; have f2 := q2.out.free 2; have f3 := q2.out.free 3; have f4 := q2.out.free 4; replace hrep := Lib.hid hrep; replace hb1 := Lib.hid hb1))
  have hw2 : Below w.heap.size w (w1.alloc (.cells #[.int .i64 t.kind, .int .i64 t.at, .string t.name, .int .i64 t.num, .slice a1 n1 c1] 27)) := HE.out.2.2.1.trans ((hb1.out.mono HE.out.2.2.1.size).alloc (Nat.le_trans HE.out.2.2.1.size hb1.out.size) _)
  have hres : RepS (fun b => w.heap.size ≤ b) (set5 (w1.alloc (.cells #[.int .i64 t.kind, .int .i64 t.at, .string t.name, .int .i64 t.num, .slice a1 n1 c1] 27)) (w.heap.size + 1) (.int .i64 t.kind) (.int .i64 t.at) (.string t.name) (.int .i64 t.num) (.slice a1 n1 c1)) (.slice a1 n1 c1) R := by
    refine RepS.move (fun b hb hl => ⟨?_, ?_⟩) hrep.out
    · have := HE.out.2.2.2; omega
    · rw [set5_heap _ _ _ _ _ _ _ _ (by have := HE.out.2.2.2; omega)]; exact Below.heap_alloc _ _ _ hl
  exact bodyPost_ret (v := .tuple #[.agg #[.int .i64 t.kind, .int .i64 t.at, .string t.name, .int .i64 t.num, .slice a1 n1 c1], .bool (decide (0 < X))]) (by simp [results, Try.results38, go_sem, d0, d1, d2, d3, d4]) rfl ⟨_, by rw [fin.out], hres, set5_below hw2 (by omega) _ _ _ _ _⟩
theorem of6_p (t : Nd) : PCalls Try.prog 38 [aggD t] [] fun p s => p = .tup [aggD (budT t 600).1, .d (.v (.bool (okN6 t)))] ∧ s = [] := by
  refine PCalls.data fun K w vs ha => ?_
  obtain ⟨v, rfl, hv⟩ := ha.one
  obtain ⟨cs, rfl, hc⟩ := agg_nd hv
  have hns : t.name.size ≤ maxLen := by obtain ⟨_, _, _, _, _, h⟩ := nd_open hc; exact h
  refine (of6_any t cs w hc).mono ?_
  rintro e w' ⟨u, rfl, hr, hb⟩
  refine ⟨_, rfl, hb, fun K' hK => ?_⟩
  refine tup2 ?_ (.d (.v trivial))
  have : Rep (fun b => w.heap.size ≤ b) w' (budT t 600).1 [.int .i64 t.kind, .int .i64 t.at, .string t.name, .int .i64 t.num, u] := by
    cases t with
    | mk k a s n sub =>
      rw [show budT (.mk k a s n sub) 600 = (.mk k a s n (budL sub (600 - 1)).1, (budL sub (600 - 1)).2) by simp only [budT]] at hr ⊢
      exact rep_nd.2 ⟨u, rfl, hns, hr⟩
  exact rel_rep (fun b o v h1 h2 => hK b o v h1 h2) this
end Go.Proofs.Ytffgfjnbgplckaa

namespace Go.Proofs.Ytffgfjnbgplckaa
open Go.RowKit
set_option maxRecDepth 100000
theorem patsL_len_take (l : List Nd) (k : Nat) : (patsL (l.take k)).length ≤ (patsL l).length := by
  have := patsL_app (l.take k) (l.drop k)
  rw [List.take_append_drop] at this
  rw [this]; simp
theorem pats_len : ∀ (l : List Nd), (∀ x ∈ l, (patL x).length + 1 ≤ 60 * ndT x) → (patsL l).length ≤ 60 * ndL l
  | [], _ => by simp [patsL]
  | t :: ts, h => by
    have h1 := h t (by simp)
    have h2 := pats_len ts fun x hx => h x (by simp [hx])
    simp only [patsL, ndL, List.length_append, List.length_cons, List.length_nil]; omega
theorem pat_len : ∀ (m : Nat) (t : Nd), SizeOf.sizeOf t ≤ m → goodT t true = true → (patL t).length + 1 ≤ 60 * ndT t := by
  intro m
  induction m with
  | zero => intro t h; cases t; simp at h
  | succ m ih =>
    intro t h hg
    obtain ⟨k, a, s, n, sub⟩ := t
    have hn := good_name hg
    rcases pat_cases hg with ⟨rfl, rfl⟩ | ⟨rfl, rfl⟩ | ⟨rfl, rfl⟩ | ⟨rfl, x, rfl, hx⟩ | ⟨rfl, hL⟩
    · simp only [patL, ndT, ndL]; simp; omega
    · simp only [patL, ndT, ndL]; simp
    · simp only [patL, ndT, ndL]; simp
    · have := ex_len hx 2
      simp only [patL, ndT, ndL, dotL]; simp; omega
    · have := pats_len sub fun x hx => by
        refine ih x ?_ (goodL_mem hL x hx)
        have := List.sizeOf_lt_of_mem hx
        simp at h; omega
      simp only [patL, ndT]; simp; omega
def RpC (t : Nd) : Prop := PCalls Try.prog 42 [aggD t] [] fun p s => p = .d (.v (.string (strB (patL t)))) ∧ s = []
set_option maxHeartbeats 8000000 in
theorem rpat_step (t : Nd) (hg : goodT t true = true) (hs : ndT t ≤ 100000) (ih : ∀ x ∈ t.sub, goodT x true = true → RpC x) : RpC t := by
  have hlen := pat_len _ t (Nat.le_refl _) hg
  obtain ⟨k, a, s, n, sub⟩ := t
  have hname := good_name hg
  unfold RpC
  have hdot := fun x (hx : goodT x false = true) (h : ndT x ≤ 100000000) => rex_w _ x (Nat.le_refl _) hx h 2 (by omega)
  rcases pat_cases hg with ⟨rfl, rfl⟩ | ⟨rfl, rfl⟩ | ⟨rfl, rfl⟩ | ⟨rfl, x, rfl, hx⟩ | ⟨rfl, hL⟩
  · have HE := Lib.hid (show patL (.mk 6 a s n []) = s.toList by simp [patL])
    generalize patL (.mk 6 a s n []) = txt at *
    simp only [aggD, encD_mk, List.map_cons, List.map_nil]
    refine PCalls.enter Try.func42 rfl Try.ntmps42 (by simp) ?_
    simp only [argsF]
    repeat (first | (with_reducible first | refine PW_seq ?_ | refine PW_block ?_ | refine PW_region_lit ?_ | refine PW_skip ?_ | refine PW_exit ?_ | refine PW_ret ?_ | refine PW_label ?_ | refine POps_nil ?_ | refine POrd_nil ?_ | refine thenP_n ?_ | refine thenP_x ?_ | refine thenP_r ?_ | refine blockP_n ?_ | refine blockP_r ?_ | refine blockP_hit ?_ | refine blockP_miss rfl ?_) | (first | refine POps_s_a ?_ | refine POps_b_a ?_) | (first | refine POps_gn_a ?_ | refine POps_gs_a ?_ | refine POps_gb_a ?_) | (first | refine PW_cond_t_a ?_ | refine PW_cond_f_a ?_) | (first | refine POrd_s_a ?_ | refine POrd_b_a ?_) | (first | refine POrd_gn_a ?_ | refine POrd_s_b ?_ | refine POrd_b_b ?_))
    refine POps_box_a ?_
    intro i0 hi0
    repeat (first | (with_reducible first | refine PW_seq ?_ | refine PW_block ?_ | refine PW_region_lit ?_ | refine PW_skip ?_ | refine PW_exit ?_ | refine PW_ret ?_ | refine PW_label ?_ | refine POps_nil ?_ | refine POrd_nil ?_ | refine thenP_n ?_ | refine thenP_x ?_ | refine thenP_r ?_ | refine blockP_n ?_ | refine blockP_r ?_ | refine blockP_hit ?_ | refine blockP_miss rfl ?_) | (first | refine POps_s_a ?_ | refine POps_b_a ?_) | (first | refine POps_gn_a ?_ | refine POps_gs_a ?_ | refine POps_gb_a ?_) | (first | refine PW_cond_t_a ?_ | refine PW_cond_f_a ?_) | (first | refine POrd_s_a ?_ | refine POrd_b_a ?_) | (first | refine POrd_gn_a ?_ | refine POrd_s_b ?_ | refine POrd_b_b ?_))
    refine retP_ok (by simp) (by simp only [Try.results42]; rfl) (by simp [resP, St.box?, PF.get, loadB, TyK.agg, *]; rfl) (List.nil_sublist _) ?_
    exact ⟨by rw [HE.out, ← strB_toList]; rfl, rfl⟩
  · have HE := Lib.hid (show patL (.mk 7 a s n []) = [95] by simp [patL])
    generalize patL (.mk 7 a s n []) = txt at *
    simp only [aggD, encD_mk, List.map_cons, List.map_nil]
    refine PCalls.enter Try.func42 rfl Try.ntmps42 (by simp) ?_
    simp only [argsF]
    repeat (first | (with_reducible first | refine PW_seq ?_ | refine PW_block ?_ | refine PW_region_lit ?_ | refine PW_skip ?_ | refine PW_exit ?_ | refine PW_ret ?_ | refine PW_label ?_ | refine POps_nil ?_ | refine POrd_nil ?_ | refine thenP_n ?_ | refine thenP_x ?_ | refine thenP_r ?_ | refine blockP_n ?_ | refine blockP_r ?_ | refine blockP_hit ?_ | refine blockP_miss rfl ?_) | (first | refine POps_s_a ?_ | refine POps_b_a ?_) | (first | refine POps_gn_a ?_ | refine POps_gs_a ?_ | refine POps_gb_a ?_) | (first | refine PW_cond_t_a ?_ | refine PW_cond_f_a ?_) | (first | refine POrd_s_a ?_ | refine POrd_b_a ?_) | (first | refine POrd_gn_a ?_ | refine POrd_s_b ?_ | refine POrd_b_b ?_))
    refine POps_box_a ?_
    intro i0 hi0
    repeat (first | (with_reducible first | refine PW_seq ?_ | refine PW_block ?_ | refine PW_region_lit ?_ | refine PW_skip ?_ | refine PW_exit ?_ | refine PW_ret ?_ | refine PW_label ?_ | refine POps_nil ?_ | refine POrd_nil ?_ | refine thenP_n ?_ | refine thenP_x ?_ | refine thenP_r ?_ | refine blockP_n ?_ | refine blockP_r ?_ | refine blockP_hit ?_ | refine blockP_miss rfl ?_) | (first | refine POps_s_a ?_ | refine POps_b_a ?_) | (first | refine POps_gn_a ?_ | refine POps_gs_a ?_ | refine POps_gb_a ?_) | (first | refine PW_cond_t_a ?_ | refine PW_cond_f_a ?_) | (first | refine POrd_s_a ?_ | refine POrd_b_a ?_) | (first | refine POrd_gn_a ?_ | refine POrd_s_b ?_ | refine POrd_b_b ?_))
    refine retP_ok (by simp) (by simp only [Try.results42]; rfl) (by simp [resP, St.box?, PF.get, loadB, TyK.agg, *]; rfl) (List.nil_sublist _) ?_
    exact ⟨by rw [HE.out]; rfl, rfl⟩
  · have HE := Lib.hid (show patL (.mk 9 a s n []) = [40, 41] by simp [patL])
    generalize patL (.mk 9 a s n []) = txt at *
    simp only [aggD, encD_mk, List.map_cons, List.map_nil]
    refine PCalls.enter Try.func42 rfl Try.ntmps42 (by simp) ?_
    simp only [argsF]
    repeat (first | (with_reducible first | refine PW_seq ?_ | refine PW_block ?_ | refine PW_region_lit ?_ | refine PW_skip ?_ | refine PW_exit ?_ | refine PW_ret ?_ | refine PW_label ?_ | refine POps_nil ?_ | refine POrd_nil ?_ | refine thenP_n ?_ | refine thenP_x ?_ | refine thenP_r ?_ | refine blockP_n ?_ | refine blockP_r ?_ | refine blockP_hit ?_ | refine blockP_miss rfl ?_) | (first | refine POps_s_a ?_ | refine POps_b_a ?_) | (first | refine POps_gn_a ?_ | refine POps_gs_a ?_ | refine POps_gb_a ?_) | (first | refine PW_cond_t_a ?_ | refine PW_cond_f_a ?_) | (first | refine POrd_s_a ?_ | refine POrd_b_a ?_) | (first | refine POrd_gn_a ?_ | refine POrd_s_b ?_ | refine POrd_b_b ?_))
    refine POps_box_a ?_
    intro i0 hi0
    repeat (first | (with_reducible first | refine PW_seq ?_ | refine PW_block ?_ | refine PW_region_lit ?_ | refine PW_skip ?_ | refine PW_exit ?_ | refine PW_ret ?_ | refine PW_label ?_ | refine POps_nil ?_ | refine POrd_nil ?_ | refine thenP_n ?_ | refine thenP_x ?_ | refine thenP_r ?_ | refine blockP_n ?_ | refine blockP_r ?_ | refine blockP_hit ?_ | refine blockP_miss rfl ?_) | (first | refine POps_s_a ?_ | refine POps_b_a ?_) | (first | refine POps_gn_a ?_ | refine POps_gs_a ?_ | refine POps_gb_a ?_) | (first | refine PW_cond_t_a ?_ | refine PW_cond_f_a ?_) | (first | refine POrd_s_a ?_ | refine POrd_b_a ?_) | (first | refine POrd_gn_a ?_ | refine POrd_s_b ?_ | refine POrd_b_b ?_))
    refine retP_ok (by simp) (by simp only [Try.results42]; rfl) (by simp [resP, St.box?, PF.get, loadB, TyK.agg, *]; rfl) (List.nil_sublist _) ?_
    exact ⟨by rw [HE.out]; rfl, rfl⟩
  · have HE := Lib.hid (show patL (.mk 10 a s n [x]) = [46] ++ exL x 2 by simp [patL, dotL])
    generalize patL (.mk 10 a s n [x]) = txt at *
    have hnx : ndT x ≤ 100000000 := by simp only [ndT, ndL] at hs; omega
    have hd := hdot x hx hnx
    have hl := ex_len hx 2
    clear hdot hlen
    simp only [aggD, encD_mk, List.map_cons, List.map_nil]
    refine PCalls.enter Try.func42 rfl Try.ntmps42 (by simp) ?_
    simp only [argsF]
    repeat (first | (with_reducible first | refine PW_seq ?_ | refine PW_block ?_ | refine PW_region_lit ?_ | refine PW_skip ?_ | refine PW_exit ?_ | refine PW_ret ?_ | refine PW_label ?_ | refine POps_nil ?_ | refine POrd_nil ?_ | refine thenP_n ?_ | refine thenP_x ?_ | refine thenP_r ?_ | refine blockP_n ?_ | refine blockP_r ?_ | refine blockP_hit ?_ | refine blockP_miss rfl ?_) | (first | refine POps_s_a ?_ | refine POps_b_a ?_) | (first | refine POps_gn_a ?_ | refine POps_gs_a ?_ | refine POps_gb_a ?_) | (first | refine PW_cond_t_a ?_ | refine PW_cond_f_a ?_) | (first | refine POrd_s_a ?_ | refine POrd_b_a ?_) | (first | refine POrd_gn_a ?_ | refine POrd_s_b ?_ | refine POrd_b_b ?_))
    refine POps_box_a ?_
    intro i0 hi0
    repeat (first | (with_reducible first | refine PW_seq ?_ | refine PW_block ?_ | refine PW_region_lit ?_ | refine PW_skip ?_ | refine PW_exit ?_ | refine PW_ret ?_ | refine PW_label ?_ | refine POps_nil ?_ | refine POrd_nil ?_ | refine thenP_n ?_ | refine thenP_x ?_ | refine thenP_r ?_ | refine blockP_n ?_ | refine blockP_r ?_ | refine blockP_hit ?_ | refine blockP_miss rfl ?_) | (first | refine POps_s_a ?_ | refine POps_b_a ?_) | (first | refine POps_gn_a ?_ | refine POps_gs_a ?_ | refine POps_gb_a ?_) | (first | refine PW_cond_t_a ?_ | refine PW_cond_f_a ?_) | (first | refine POrd_s_a ?_ | refine POrd_b_a ?_) | (first | refine POrd_gn_a ?_ | refine POrd_s_b ?_ | refine POrd_b_b ?_))
    refine POps_call_a (hd) ?_
    repeat (first | (with_reducible first | refine PW_seq ?_ | refine PW_block ?_ | refine PW_region_lit ?_ | refine PW_skip ?_ | refine PW_exit ?_ | refine PW_ret ?_ | refine PW_label ?_ | refine POps_nil ?_ | refine POrd_nil ?_ | refine thenP_n ?_ | refine thenP_x ?_ | refine thenP_r ?_ | refine blockP_n ?_ | refine blockP_r ?_ | refine blockP_hit ?_ | refine blockP_miss rfl ?_) | (first | refine POps_s_a ?_ | refine POps_b_a ?_) | (first | refine POps_gn_a ?_ | refine POps_gs_a ?_ | refine POps_gb_a ?_) | (first | refine PW_cond_t_a ?_ | refine PW_cond_f_a ?_) | (first | refine POrd_s_a ?_ | refine POrd_b_a ?_) | (first | refine POrd_gn_a ?_ | refine POrd_s_b ?_ | refine POrd_b_b ?_))
    refine POps_cat_a ?_
    repeat (first | (with_reducible first | refine PW_seq ?_ | refine PW_block ?_ | refine PW_region_lit ?_ | refine PW_skip ?_ | refine PW_exit ?_ | refine PW_ret ?_ | refine PW_label ?_ | refine POps_nil ?_ | refine POrd_nil ?_ | refine thenP_n ?_ | refine thenP_x ?_ | refine thenP_r ?_ | refine blockP_n ?_ | refine blockP_r ?_ | refine blockP_hit ?_ | refine blockP_miss rfl ?_) | (first | refine POps_s_a ?_ | refine POps_b_a ?_) | (first | refine POps_gn_a ?_ | refine POps_gs_a ?_ | refine POps_gb_a ?_) | (first | refine PW_cond_t_a ?_ | refine PW_cond_f_a ?_) | (first | refine POrd_s_a ?_ | refine POrd_b_a ?_) | (first | refine POrd_gn_a ?_ | refine POrd_s_b ?_ | refine POrd_b_b ?_))
    refine retP_ok (by simp) (by simp only [Try.results42]; rfl) (by simp [resP, St.box?, PF.get, loadB, TyK.agg, *]; rfl) (List.nil_sublist _) ?_
    exact ⟨by rw [HE.out]; simp [tupP, PV.norm2, PV.norm1, PV.norm0], rfl⟩
  · have HE := Lib.hid (show patL (.mk 8 a s n sub) = [40] ++ s.toList ++ patsL sub ++ [41] by simp [patL])
    have hpl : (patsL sub).length ≤ 10000000 := by rw [HE.out] at hlen; simp at hlen; omega
    generalize patL (.mk 8 a s n sub) = txt at *
    have ih' : ∀ (k : Nat) (h : k < sub.length), RpC sub[k] := fun k h => ih _ (List.getElem_mem h) (goodL_mem hL _ (List.getElem_mem h))
    have hsl : sub.length ≤ 100000 := by
      rw [nd_sub] at hs
      have := ndL_len sub
      simp only [Nd.sub] at hs; omega
    clear ih hdot hs hlen
    simp only [aggD, encD_mk, List.map_cons, List.map_nil]
    refine PCalls.enter Try.func42 rfl Try.ntmps42 (by simp) ?_
    simp only [argsF]
    repeat (first | (with_reducible first | refine PW_seq ?_ | refine PW_block ?_ | refine PW_region_lit ?_ | refine PW_skip ?_ | refine PW_exit ?_ | refine PW_ret ?_ | refine PW_label ?_ | refine POps_nil ?_ | refine POrd_nil ?_ | refine thenP_n ?_ | refine thenP_x ?_ | refine thenP_r ?_ | refine blockP_n ?_ | refine blockP_r ?_ | refine blockP_hit ?_ | refine blockP_miss rfl ?_) | (first | refine POps_s_a ?_ | refine POps_b_a ?_) | (first | refine POps_gn_a ?_ | refine POps_gs_a ?_ | refine POps_gb_a ?_) | (first | refine PW_cond_t_a ?_ | refine PW_cond_f_a ?_) | (first | refine POrd_s_a ?_ | refine POrd_b_a ?_) | (first | refine POrd_gn_a ?_ | refine POrd_s_b ?_ | refine POrd_b_b ?_))
    refine POps_box_a ?_
    intro i0 hi0
    repeat (first | (with_reducible first | refine PW_seq ?_ | refine PW_block ?_ | refine PW_region_lit ?_ | refine PW_skip ?_ | refine PW_exit ?_ | refine PW_ret ?_ | refine PW_label ?_ | refine POps_nil ?_ | refine POrd_nil ?_ | refine thenP_n ?_ | refine thenP_x ?_ | refine thenP_r ?_ | refine blockP_n ?_ | refine blockP_r ?_ | refine blockP_hit ?_ | refine blockP_miss rfl ?_) | (first | refine POps_s_a ?_ | refine POps_b_a ?_) | (first | refine POps_gn_a ?_ | refine POps_gs_a ?_ | refine POps_gb_a ?_) | (first | refine PW_cond_t_a ?_ | refine PW_cond_f_a ?_) | (first | refine POrd_s_a ?_ | refine POrd_b_a ?_) | (first | refine POrd_gn_a ?_ | refine POrd_s_b ?_ | refine POrd_b_b ?_))
    refine POps_cat_a ?_
    repeat (first | (with_reducible first | refine PW_seq ?_ | refine PW_block ?_ | refine PW_region_lit ?_ | refine PW_skip ?_ | refine PW_exit ?_ | refine PW_ret ?_ | refine PW_label ?_ | refine POps_nil ?_ | refine POrd_nil ?_ | refine thenP_n ?_ | refine thenP_x ?_ | refine thenP_r ?_ | refine blockP_n ?_ | refine blockP_r ?_ | refine blockP_hit ?_ | refine blockP_miss rfl ?_) | (first | refine POps_s_a ?_ | refine POps_b_a ?_) | (first | refine POps_gn_a ?_ | refine POps_gs_a ?_ | refine POps_gb_a ?_) | (first | refine PW_cond_t_a ?_ | refine PW_cond_f_a ?_) | (first | refine POrd_s_a ?_ | refine POrd_b_a ?_) | (first | refine POrd_gn_a ?_ | refine POrd_s_b ?_ | refine POrd_b_b ?_))
    refine PW_loop (ι := Nat) (fun k => k ≤ sub.length) (fun k => [(1, .ptr i0 0), (3, .d (.v (.string (strB ([40] ++ s.toList ++ patsL (sub.take k)))))), (4, .d (.v (.int .i64 k)))]) (fun k => [.box i0 27 [.d (.v (.int .i64 8)), .d (.v (.int .i64 a)), .d (.v (.string s)), .d (.v (.int .i64 n)), .d (.sl (sub.map encD))]]) (fun k => sub.length - k) 0 (Nat.zero_le _) ?_ ?_ ?_
    · refine sub_cons (by simp [PF.get] <;> rfl) rfl ?_
      refine sub_cons (by simp [PF.get] <;> rfl) (by simp [patsL]) ?_
      repeat (first | exact sub_nil _ | refine sub_cons (by simp [PF.get]; rfl) (by first | rfl | (simp [*]; done) | fail) ?_)
    · repeat (first | exact List.Sublist.refl _ | exact List.nil_sublist _ | refine List.Sublist.cons_cons _ ?_ | refine List.Sublist.cons _ ?_)
    · intro k hk
      by_cases hlt : k < sub.length
      · have hx := get_enc hlt
        have hc : ((k : Int) < (sub.length : Int)) := by omega
        have hn : (0 : Int) ≤ (k : Int) := by omega
        have hin := wrap_next hlt (by omega)
        have hpk := patsL_len_take sub k
        have hp1 := patsL_len_take sub (k + 1)
        rw [patsL_take hlt] at hp1
        simp only [List.length_append] at hp1
        have HT := Lib.hid (patsL_take hlt)
        repeat (first | (with_reducible first | refine PW_seq ?_ | refine PW_block ?_ | refine PW_region_lit ?_ | refine PW_skip ?_ | refine PW_exit ?_ | refine PW_ret ?_ | refine PW_label ?_ | refine POps_nil ?_ | refine POrd_nil ?_ | refine thenP_n ?_ | refine thenP_x ?_ | refine thenP_r ?_ | refine blockP_n ?_ | refine blockP_r ?_ | refine blockP_hit ?_ | refine blockP_miss rfl ?_) | (first | refine POps_s_a ?_ | refine POps_b_a ?_) | (first | refine POps_gn_a ?_ | refine POps_gs_a ?_ | refine POps_gb_a ?_) | (first | refine PW_cond_t_a ?_ | refine PW_cond_f_a ?_) | (first | refine POrd_s_a ?_ | refine POrd_b_a ?_) | (first | refine POrd_gn_a ?_ | refine POrd_s_b ?_ | refine POrd_b_b ?_))
        refine POps_cat_a ?_
        repeat (first | (with_reducible first | refine PW_seq ?_ | refine PW_block ?_ | refine PW_region_lit ?_ | refine PW_skip ?_ | refine PW_exit ?_ | refine PW_ret ?_ | refine PW_label ?_ | refine POps_nil ?_ | refine POrd_nil ?_ | refine thenP_n ?_ | refine thenP_x ?_ | refine thenP_r ?_ | refine blockP_n ?_ | refine blockP_r ?_ | refine blockP_hit ?_ | refine blockP_miss rfl ?_) | (first | refine POps_s_a ?_ | refine POps_b_a ?_) | (first | refine POps_gn_a ?_ | refine POps_gs_a ?_ | refine POps_gb_a ?_) | (first | refine PW_cond_t_a ?_ | refine PW_cond_f_a ?_) | (first | refine POrd_s_a ?_ | refine POrd_b_a ?_) | (first | refine POrd_gn_a ?_ | refine POrd_s_b ?_ | refine POrd_b_b ?_))
        refine POps_call_a (ih' k hlt) ?_
        refine POps_cat_a ?_
        repeat (first | (with_reducible first | refine PW_seq ?_ | refine PW_block ?_ | refine PW_region_lit ?_ | refine PW_skip ?_ | refine PW_exit ?_ | refine PW_ret ?_ | refine PW_label ?_ | refine POps_nil ?_ | refine POrd_nil ?_ | refine thenP_n ?_ | refine thenP_x ?_ | refine thenP_r ?_ | refine blockP_n ?_ | refine blockP_r ?_ | refine blockP_hit ?_ | refine blockP_miss rfl ?_) | (first | refine POps_s_a ?_ | refine POps_b_a ?_) | (first | refine POps_gn_a ?_ | refine POps_gs_a ?_ | refine POps_gb_a ?_) | (first | refine PW_cond_t_a ?_ | refine PW_cond_f_a ?_) | (first | refine POrd_s_a ?_ | refine POrd_b_a ?_) | (first | refine POrd_gn_a ?_ | refine POrd_s_b ?_ | refine POrd_b_b ?_))
        refine ⟨k + 1, by omega, by omega, ?_, ?_⟩
        · refine sub_cons (by simp [PF.get] <;> rfl) rfl ?_
          refine sub_cons (by simp [PF.get] <;> rfl) (by rw [HT.out]; simp) ?_
          repeat (first | exact sub_nil _ | refine sub_cons (by simp [PF.get]; rfl) (by first | rfl | (simp [hin]; done) | fail) ?_)
        · repeat (first | exact List.Sublist.refl _ | exact List.nil_sublist _ | refine List.Sublist.cons_cons _ ?_ | refine List.Sublist.cons _ ?_)
      · have hc : ¬ ((k : Int) < (sub.length : Int)) := by omega
        have hpk := patsL_len_take sub k
        have htk : sub.take k = sub := List.take_of_length_le (by omega)
        repeat (first | (with_reducible first | refine PW_seq ?_ | refine PW_block ?_ | refine PW_region_lit ?_ | refine PW_skip ?_ | refine PW_exit ?_ | refine PW_ret ?_ | refine PW_label ?_ | refine POps_nil ?_ | refine POrd_nil ?_ | refine thenP_n ?_ | refine thenP_x ?_ | refine thenP_r ?_ | refine blockP_n ?_ | refine blockP_r ?_ | refine blockP_hit ?_ | refine blockP_miss rfl ?_) | (first | refine POps_s_a ?_ | refine POps_b_a ?_) | (first | refine POps_gn_a ?_ | refine POps_gs_a ?_ | refine POps_gb_a ?_) | (first | refine PW_cond_t_a ?_ | refine PW_cond_f_a ?_) | (first | refine POrd_s_a ?_ | refine POrd_b_a ?_) | (first | refine POrd_gn_a ?_ | refine POrd_s_b ?_ | refine POrd_b_b ?_))
        refine POps_cat_a ?_
        repeat (first | (with_reducible first | refine PW_seq ?_ | refine PW_block ?_ | refine PW_region_lit ?_ | refine PW_skip ?_ | refine PW_exit ?_ | refine PW_ret ?_ | refine PW_label ?_ | refine POps_nil ?_ | refine POrd_nil ?_ | refine thenP_n ?_ | refine thenP_x ?_ | refine thenP_r ?_ | refine blockP_n ?_ | refine blockP_r ?_ | refine blockP_hit ?_ | refine blockP_miss rfl ?_) | (first | refine POps_s_a ?_ | refine POps_b_a ?_) | (first | refine POps_gn_a ?_ | refine POps_gs_a ?_ | refine POps_gb_a ?_) | (first | refine PW_cond_t_a ?_ | refine PW_cond_f_a ?_) | (first | refine POrd_s_a ?_ | refine POrd_b_a ?_) | (first | refine POrd_gn_a ?_ | refine POrd_s_b ?_ | refine POrd_b_b ?_))
        refine retP_ok (by simp) (by simp only [Try.results42]; rfl) (by simp [resP, St.box?, PF.get, loadB, TyK.agg, *]; rfl) (List.nil_sublist _) ?_
        exact ⟨by rw [HE.out]; simp [tupP, PV.norm2, PV.norm1, PV.norm0, htk], rfl⟩
theorem rpat_w : ∀ (m : Nat) (t : Nd), SizeOf.sizeOf t ≤ m → goodT t true = true → ndT t ≤ 100000 → RpC t := by
  intro m
  induction m with
  | zero => intro t h; cases t; simp at h
  | succ m ih =>
    intro t h hg hs
    refine rpat_step t hg hs fun x hx hgx => ?_
    have h2 := nd_mem hx
    rw [nd_sub] at hs
    obtain ⟨k, a, s, n, sub⟩ := t
    have hlt : SizeOf.sizeOf x ≤ m := by
      have := List.sizeOf_lt_of_mem hx
      simp only [Nd.sub] at this
      simp at h
      omega
    exact ih x hlt hgx (by omega)
end Go.Proofs.Ytffgfjnbgplckaa

namespace Go.Proofs.Ytffgfjnbgplckaa
open Go.RowKit
set_option maxRecDepth 100000
theorem exprB_good {t : Nd} (h : exprB t = true) : goodT t false = true := by unfold exprB at h; simp only [Bool.and_eq_true] at h; exact h.2
theorem patB_good {t : Nd} (h : patB t = true) : goodT t true = true := by unfold patB at h; simp only [Bool.and_eq_true] at h; exact h.2
theorem exprR_yes {t : Nd} (h : exprB t = true) (hs : ndT t < 600) : exprR t = .tup [.d (.v (.string (strB (exL t 0)))), .d (.v (.int .i64 0))] := by
  have := ex_len (exprB_good h) 0
  rw [exprR, if_pos h, textP, if_pos (by omega)]; rfl
theorem exprR_no {t : Nd} (h : exprB t = false) : exprR t = .tup [.d (.v (.string ⟨#[]⟩)), .d (.v (.int .i64 5))] := by
  rw [exprR, if_neg (by rw [h]; decide)]
theorem patR_yes {t : Nd} (h : patB t = true) (hs : ndT t < 600) : patR t = .tup [.d (.v (.string (strB (patL t)))), .d (.v (.int .i64 0))] := by
  have := pat_len _ t (Nat.le_refl _) (patB_good h)
  rw [patR, if_pos h, textP, if_pos (by omega)]; rfl
theorem patR_no {t : Nd} (h : patB t = false) : patR t = .tup [.d (.v (.string ⟨#[]⟩)), .d (.v (.int .i64 5))] := by
  rw [patR, if_neg (by rw [h]; decide)]
set_option maxHeartbeats 8000000 in
theorem printExprs_p (t : Nd) : PCalls Try.prog 10 [aggD t] [] fun p s => p = .d (.v (.bool true)) ∧ s = [] := by
  have hof := of6_p t
  cases hok : okN6 t with
  | false =>
    rw [hok] at hof
    generalize (budT t 600).1 = u at hof
    simp only [aggD, encD_nd, List.map_cons, List.map_nil] at hof ⊢
    refine PCalls.enter Try.func10 rfl Try.ntmps10 (by simp) ?_
    simp only [argsF]
    repeat (first | (with_reducible first | refine PW_seq ?_ | refine PW_block ?_ | refine PW_region_lit ?_ | refine PW_skip ?_ | refine PW_exit ?_ | refine PW_ret ?_ | refine PW_label ?_ | refine POps_nil ?_ | refine POrd_nil ?_ | refine thenP_n ?_ | refine thenP_x ?_ | refine thenP_r ?_ | refine blockP_n ?_ | refine blockP_r ?_ | refine blockP_hit ?_ | refine blockP_miss rfl ?_) | (first | refine POps_s_a ?_ | refine POps_b_a ?_) | (first | refine POps_gn_a ?_ | refine POps_gs_a ?_ | refine POps_gb_a ?_) | (first | refine PW_cond_t_a ?_ | refine PW_cond_f_a ?_) | (first | refine POrd_s_a ?_ | refine POrd_b_a ?_) | (first | refine POrd_gn_a ?_ | refine POrd_s_b ?_ | refine POrd_b_b ?_))
    refine POps_box_a ?_
    intro i0 hi0
    repeat (first | (with_reducible first | refine PW_seq ?_ | refine PW_block ?_ | refine PW_region_lit ?_ | refine PW_skip ?_ | refine PW_exit ?_ | refine PW_ret ?_ | refine PW_label ?_ | refine POps_nil ?_ | refine POrd_nil ?_ | refine thenP_n ?_ | refine thenP_x ?_ | refine thenP_r ?_ | refine blockP_n ?_ | refine blockP_r ?_ | refine blockP_hit ?_ | refine blockP_miss rfl ?_) | (first | refine POps_s_a ?_ | refine POps_b_a ?_) | (first | refine POps_gn_a ?_ | refine POps_gs_a ?_ | refine POps_gb_a ?_) | (first | refine PW_cond_t_a ?_ | refine PW_cond_f_a ?_) | (first | refine POrd_s_a ?_ | refine POrd_b_a ?_) | (first | refine POrd_gn_a ?_ | refine POrd_s_b ?_ | refine POrd_b_b ?_))
    refine POps_call_a (hof) ?_
    repeat (first | (with_reducible first | refine PW_seq ?_ | refine PW_block ?_ | refine PW_region_lit ?_ | refine PW_skip ?_ | refine PW_exit ?_ | refine PW_ret ?_ | refine PW_label ?_ | refine POps_nil ?_ | refine POrd_nil ?_ | refine thenP_n ?_ | refine thenP_x ?_ | refine thenP_r ?_ | refine blockP_n ?_ | refine blockP_r ?_ | refine blockP_hit ?_ | refine blockP_miss rfl ?_) | (first | refine POps_s_a ?_ | refine POps_b_a ?_) | (first | refine POps_gn_a ?_ | refine POps_gs_a ?_ | refine POps_gb_a ?_) | (first | refine PW_cond_t_a ?_ | refine PW_cond_f_a ?_) | (first | refine POrd_s_a ?_ | refine POrd_b_a ?_) | (first | refine POrd_gn_a ?_ | refine POrd_s_b ?_ | refine POrd_b_b ?_))
    refine POps_alloc_a ?_
    intro i1 hi1
    simp only [St.freshB_box, St.freshB_nil] at hi1
    repeat (first | (with_reducible first | refine PW_seq ?_ | refine PW_block ?_ | refine PW_region_lit ?_ | refine PW_skip ?_ | refine PW_exit ?_ | refine PW_ret ?_ | refine PW_label ?_ | refine POps_nil ?_ | refine POrd_nil ?_ | refine thenP_n ?_ | refine thenP_x ?_ | refine thenP_r ?_ | refine blockP_n ?_ | refine blockP_r ?_ | refine blockP_hit ?_ | refine blockP_miss rfl ?_) | (first | refine POps_s_a ?_ | refine POps_b_a ?_) | (first | refine POps_gn_a ?_ | refine POps_gs_a ?_ | refine POps_gb_a ?_) | (first | refine PW_cond_t_a ?_ | refine PW_cond_f_a ?_) | (first | refine POrd_s_a ?_ | refine POrd_b_a ?_) | (first | refine POrd_gn_a ?_ | refine POrd_s_b ?_ | refine POrd_b_b ?_))
    refine POps_store_a ?_
    repeat (first | (with_reducible first | refine PW_seq ?_ | refine PW_block ?_ | refine PW_region_lit ?_ | refine PW_skip ?_ | refine PW_exit ?_ | refine PW_ret ?_ | refine PW_label ?_ | refine POps_nil ?_ | refine POrd_nil ?_ | refine thenP_n ?_ | refine thenP_x ?_ | refine thenP_r ?_ | refine blockP_n ?_ | refine blockP_r ?_ | refine blockP_hit ?_ | refine blockP_miss rfl ?_) | (first | refine POps_s_a ?_ | refine POps_b_a ?_) | (first | refine POps_gn_a ?_ | refine POps_gs_a ?_ | refine POps_gb_a ?_) | (first | refine PW_cond_t_a ?_ | refine PW_cond_f_a ?_) | (first | refine POrd_s_a ?_ | refine POrd_b_a ?_) | (first | refine POrd_gn_a ?_ | refine POrd_s_b ?_ | refine POrd_b_b ?_))
    refine POps_call_a (awake6_p) ?_
    repeat (first | (with_reducible first | refine PW_seq ?_ | refine PW_block ?_ | refine PW_region_lit ?_ | refine PW_skip ?_ | refine PW_exit ?_ | refine PW_ret ?_ | refine PW_label ?_ | refine POps_nil ?_ | refine POrd_nil ?_ | refine thenP_n ?_ | refine thenP_x ?_ | refine thenP_r ?_ | refine blockP_n ?_ | refine blockP_r ?_ | refine blockP_hit ?_ | refine blockP_miss rfl ?_) | (first | refine POps_s_a ?_ | refine POps_b_a ?_) | (first | refine POps_gn_a ?_ | refine POps_gs_a ?_ | refine POps_gb_a ?_) | (first | refine PW_cond_t_a ?_ | refine PW_cond_f_a ?_) | (first | refine POrd_s_a ?_ | refine POrd_b_a ?_) | (first | refine POrd_gn_a ?_ | refine POrd_s_b ?_ | refine POrd_b_b ?_))
    refine retP_ok (by simp) (by simp only [Try.results10]; rfl) (by simp [resP, St.box?, PF.get, loadB, TyK.agg, *]; rfl) (List.nil_sublist _) ?_
    exact ⟨rfl, rfl⟩
  | true =>
    obtain ⟨hsame, hnd⟩ := ok6_same hok
    rw [hok, hsame] at hof
    have hpe := pexpr_p t
    have hpp := ppat_p t
    have hre := rexpr_p t
    have hrp := rpat_p t
    have hge := fun h : exprB t = true => rex_w _ t (Nat.le_refl _) (exprB_good h) (by omega) 0 (by omega)
    have hgp := fun h : patB t = true => rpat_w _ t (Nat.le_refl _) (patB_good h) (by omega)
    cases he : exprB t with
    | false =>
      cases hp : patB t with
      | false =>
        rw [exprR_no he] at hpe
        rw [patR_no hp] at hpp
        rw [he] at hre
        rw [hp] at hrp
        clear hge hgp hok hsame
        simp only [aggD, encD_nd, List.map_cons, List.map_nil]
        refine PCalls.enter Try.func10 rfl Try.ntmps10 (by simp) ?_
        simp only [argsF]
        repeat (first | (with_reducible first | refine PW_seq ?_ | refine PW_block ?_ | refine PW_region_lit ?_ | refine PW_skip ?_ | refine PW_exit ?_ | refine PW_ret ?_ | refine PW_label ?_ | refine POps_nil ?_ | refine POrd_nil ?_ | refine thenP_n ?_ | refine thenP_x ?_ | refine thenP_r ?_ | refine blockP_n ?_ | refine blockP_r ?_ | refine blockP_hit ?_ | refine blockP_miss rfl ?_) | (first | refine POps_s_a ?_ | refine POps_b_a ?_) | (first | refine POps_gn_a ?_ | refine POps_gs_a ?_ | refine POps_gb_a ?_) | (first | refine PW_cond_t_a ?_ | refine PW_cond_f_a ?_) | (first | refine POrd_s_a ?_ | refine POrd_b_a ?_) | (first | refine POrd_gn_a ?_ | refine POrd_s_b ?_ | refine POrd_b_b ?_))
        refine POps_box_a ?_
        intro i0 hi0
        repeat (first | (with_reducible first | refine PW_seq ?_ | refine PW_block ?_ | refine PW_region_lit ?_ | refine PW_skip ?_ | refine PW_exit ?_ | refine PW_ret ?_ | refine PW_label ?_ | refine POps_nil ?_ | refine POrd_nil ?_ | refine thenP_n ?_ | refine thenP_x ?_ | refine thenP_r ?_ | refine blockP_n ?_ | refine blockP_r ?_ | refine blockP_hit ?_ | refine blockP_miss rfl ?_) | (first | refine POps_s_a ?_ | refine POps_b_a ?_) | (first | refine POps_gn_a ?_ | refine POps_gs_a ?_ | refine POps_gb_a ?_) | (first | refine PW_cond_t_a ?_ | refine PW_cond_f_a ?_) | (first | refine POrd_s_a ?_ | refine POrd_b_a ?_) | (first | refine POrd_gn_a ?_ | refine POrd_s_b ?_ | refine POrd_b_b ?_))
        refine POps_call_a (hof) ?_
        repeat (first | (with_reducible first | refine PW_seq ?_ | refine PW_block ?_ | refine PW_region_lit ?_ | refine PW_skip ?_ | refine PW_exit ?_ | refine PW_ret ?_ | refine PW_label ?_ | refine POps_nil ?_ | refine POrd_nil ?_ | refine thenP_n ?_ | refine thenP_x ?_ | refine thenP_r ?_ | refine blockP_n ?_ | refine blockP_r ?_ | refine blockP_hit ?_ | refine blockP_miss rfl ?_) | (first | refine POps_s_a ?_ | refine POps_b_a ?_) | (first | refine POps_gn_a ?_ | refine POps_gs_a ?_ | refine POps_gb_a ?_) | (first | refine PW_cond_t_a ?_ | refine PW_cond_f_a ?_) | (first | refine POrd_s_a ?_ | refine POrd_b_a ?_) | (first | refine POrd_gn_a ?_ | refine POrd_s_b ?_ | refine POrd_b_b ?_))
        refine POps_alloc_a ?_
        intro i1 hi1
        simp only [St.freshB_box, St.freshB_nil] at hi1
        repeat (first | (with_reducible first | refine PW_seq ?_ | refine PW_block ?_ | refine PW_region_lit ?_ | refine PW_skip ?_ | refine PW_exit ?_ | refine PW_ret ?_ | refine PW_label ?_ | refine POps_nil ?_ | refine POrd_nil ?_ | refine thenP_n ?_ | refine thenP_x ?_ | refine thenP_r ?_ | refine blockP_n ?_ | refine blockP_r ?_ | refine blockP_hit ?_ | refine blockP_miss rfl ?_) | (first | refine POps_s_a ?_ | refine POps_b_a ?_) | (first | refine POps_gn_a ?_ | refine POps_gs_a ?_ | refine POps_gb_a ?_) | (first | refine PW_cond_t_a ?_ | refine PW_cond_f_a ?_) | (first | refine POrd_s_a ?_ | refine POrd_b_a ?_) | (first | refine POrd_gn_a ?_ | refine POrd_s_b ?_ | refine POrd_b_b ?_))
        refine POps_store_a ?_
        repeat (first | (with_reducible first | refine PW_seq ?_ | refine PW_block ?_ | refine PW_region_lit ?_ | refine PW_skip ?_ | refine PW_exit ?_ | refine PW_ret ?_ | refine PW_label ?_ | refine POps_nil ?_ | refine POrd_nil ?_ | refine thenP_n ?_ | refine thenP_x ?_ | refine thenP_r ?_ | refine blockP_n ?_ | refine blockP_r ?_ | refine blockP_hit ?_ | refine blockP_miss rfl ?_) | (first | refine POps_s_a ?_ | refine POps_b_a ?_) | (first | refine POps_gn_a ?_ | refine POps_gs_a ?_ | refine POps_gb_a ?_) | (first | refine PW_cond_t_a ?_ | refine PW_cond_f_a ?_) | (first | refine POrd_s_a ?_ | refine POrd_b_a ?_) | (first | refine POrd_gn_a ?_ | refine POrd_s_b ?_ | refine POrd_b_b ?_))
        refine POps_call_a (hpe) ?_
        repeat (first | (with_reducible first | refine PW_seq ?_ | refine PW_block ?_ | refine PW_region_lit ?_ | refine PW_skip ?_ | refine PW_exit ?_ | refine PW_ret ?_ | refine PW_label ?_ | refine POps_nil ?_ | refine POrd_nil ?_ | refine thenP_n ?_ | refine thenP_x ?_ | refine thenP_r ?_ | refine blockP_n ?_ | refine blockP_r ?_ | refine blockP_hit ?_ | refine blockP_miss rfl ?_) | (first | refine POps_s_a ?_ | refine POps_b_a ?_) | (first | refine POps_gn_a ?_ | refine POps_gs_a ?_ | refine POps_gb_a ?_) | (first | refine PW_cond_t_a ?_ | refine PW_cond_f_a ?_) | (first | refine POrd_s_a ?_ | refine POrd_b_a ?_) | (first | refine POrd_gn_a ?_ | refine POrd_s_b ?_ | refine POrd_b_b ?_))
        refine POps_call_a (hpp) ?_
        repeat (first | (with_reducible first | refine PW_seq ?_ | refine PW_block ?_ | refine PW_region_lit ?_ | refine PW_skip ?_ | refine PW_exit ?_ | refine PW_ret ?_ | refine PW_label ?_ | refine POps_nil ?_ | refine POrd_nil ?_ | refine thenP_n ?_ | refine thenP_x ?_ | refine thenP_r ?_ | refine blockP_n ?_ | refine blockP_r ?_ | refine blockP_hit ?_ | refine blockP_miss rfl ?_) | (first | refine POps_s_a ?_ | refine POps_b_a ?_) | (first | refine POps_gn_a ?_ | refine POps_gs_a ?_ | refine POps_gb_a ?_) | (first | refine PW_cond_t_a ?_ | refine PW_cond_f_a ?_) | (first | refine POrd_s_a ?_ | refine POrd_b_a ?_) | (first | refine POrd_gn_a ?_ | refine POrd_s_b ?_ | refine POrd_b_b ?_))
        refine POps_call_a (hre) ?_
        repeat (first | (with_reducible first | refine PW_seq ?_ | refine PW_block ?_ | refine PW_region_lit ?_ | refine PW_skip ?_ | refine PW_exit ?_ | refine PW_ret ?_ | refine PW_label ?_ | refine POps_nil ?_ | refine POrd_nil ?_ | refine thenP_n ?_ | refine thenP_x ?_ | refine thenP_r ?_ | refine blockP_n ?_ | refine blockP_r ?_ | refine blockP_hit ?_ | refine blockP_miss rfl ?_) | (first | refine POps_s_a ?_ | refine POps_b_a ?_) | (first | refine POps_gn_a ?_ | refine POps_gs_a ?_ | refine POps_gb_a ?_) | (first | refine PW_cond_t_a ?_ | refine PW_cond_f_a ?_) | (first | refine POrd_s_a ?_ | refine POrd_b_a ?_) | (first | refine POrd_gn_a ?_ | refine POrd_s_b ?_ | refine POrd_b_b ?_))
        refine POps_call_b (hrp) ?_
        repeat (first | (with_reducible first | refine PW_seq ?_ | refine PW_block ?_ | refine PW_region_lit ?_ | refine PW_skip ?_ | refine PW_exit ?_ | refine PW_ret ?_ | refine PW_label ?_ | refine POps_nil ?_ | refine POrd_nil ?_ | refine thenP_n ?_ | refine thenP_x ?_ | refine thenP_r ?_ | refine blockP_n ?_ | refine blockP_r ?_ | refine blockP_hit ?_ | refine blockP_miss rfl ?_) | (first | refine POps_s_a ?_ | refine POps_b_a ?_) | (first | refine POps_gn_a ?_ | refine POps_gs_a ?_ | refine POps_gb_a ?_) | (first | refine PW_cond_t_a ?_ | refine PW_cond_f_a ?_) | (first | refine POrd_s_a ?_ | refine POrd_b_a ?_) | (first | refine POrd_gn_a ?_ | refine POrd_s_b ?_ | refine POrd_b_b ?_))
        refine POps_call_a (hre) ?_
        repeat (first | (with_reducible first | refine PW_seq ?_ | refine PW_block ?_ | refine PW_region_lit ?_ | refine PW_skip ?_ | refine PW_exit ?_ | refine PW_ret ?_ | refine PW_label ?_ | refine POps_nil ?_ | refine POrd_nil ?_ | refine thenP_n ?_ | refine thenP_x ?_ | refine thenP_r ?_ | refine blockP_n ?_ | refine blockP_r ?_ | refine blockP_hit ?_ | refine blockP_miss rfl ?_) | (first | refine POps_s_a ?_ | refine POps_b_a ?_) | (first | refine POps_gn_a ?_ | refine POps_gs_a ?_ | refine POps_gb_a ?_) | (first | refine PW_cond_t_a ?_ | refine PW_cond_f_a ?_) | (first | refine POrd_s_a ?_ | refine POrd_b_a ?_) | (first | refine POrd_gn_a ?_ | refine POrd_s_b ?_ | refine POrd_b_b ?_))
        refine POps_call_b (hrp) ?_
        repeat (first | (with_reducible first | refine PW_seq ?_ | refine PW_block ?_ | refine PW_region_lit ?_ | refine PW_skip ?_ | refine PW_exit ?_ | refine PW_ret ?_ | refine PW_label ?_ | refine POps_nil ?_ | refine POrd_nil ?_ | refine thenP_n ?_ | refine thenP_x ?_ | refine thenP_r ?_ | refine blockP_n ?_ | refine blockP_r ?_ | refine blockP_hit ?_ | refine blockP_miss rfl ?_) | (first | refine POps_s_a ?_ | refine POps_b_a ?_) | (first | refine POps_gn_a ?_ | refine POps_gs_a ?_ | refine POps_gb_a ?_) | (first | refine PW_cond_t_a ?_ | refine PW_cond_f_a ?_) | (first | refine POrd_s_a ?_ | refine POrd_b_a ?_) | (first | refine POrd_gn_a ?_ | refine POrd_s_b ?_ | refine POrd_b_b ?_))
        refine POps_call_a (awake6_p) ?_
        repeat (first | (with_reducible first | refine PW_seq ?_ | refine PW_block ?_ | refine PW_region_lit ?_ | refine PW_skip ?_ | refine PW_exit ?_ | refine PW_ret ?_ | refine PW_label ?_ | refine POps_nil ?_ | refine POrd_nil ?_ | refine thenP_n ?_ | refine thenP_x ?_ | refine thenP_r ?_ | refine blockP_n ?_ | refine blockP_r ?_ | refine blockP_hit ?_ | refine blockP_miss rfl ?_) | (first | refine POps_s_a ?_ | refine POps_b_a ?_) | (first | refine POps_gn_a ?_ | refine POps_gs_a ?_ | refine POps_gb_a ?_) | (first | refine PW_cond_t_a ?_ | refine PW_cond_f_a ?_) | (first | refine POrd_s_a ?_ | refine POrd_b_a ?_) | (first | refine POrd_gn_a ?_ | refine POrd_s_b ?_ | refine POrd_b_b ?_))
        refine retP_ok (by simp) (by simp only [Try.results10]; rfl) (by simp [resP, St.box?, PF.get, loadB, TyK.agg, *]; rfl) (List.nil_sublist _) ?_
        exact ⟨rfl, rfl⟩
      | true =>
        rw [exprR_no he] at hpe
        rw [patR_yes hp hnd] at hpp
        rw [he] at hre
        rw [hp] at hrp
        have hy := hgp hp
        clear hge hgp hok hsame
        unfold RpC at hy
        generalize strB (patL t) = S2 at *
        simp only [aggD, encD_nd, List.map_cons, List.map_nil]
        refine PCalls.enter Try.func10 rfl Try.ntmps10 (by simp) ?_
        simp only [argsF]
        repeat (first | (with_reducible first | refine PW_seq ?_ | refine PW_block ?_ | refine PW_region_lit ?_ | refine PW_skip ?_ | refine PW_exit ?_ | refine PW_ret ?_ | refine PW_label ?_ | refine POps_nil ?_ | refine POrd_nil ?_ | refine thenP_n ?_ | refine thenP_x ?_ | refine thenP_r ?_ | refine blockP_n ?_ | refine blockP_r ?_ | refine blockP_hit ?_ | refine blockP_miss rfl ?_) | (first | refine POps_s_a ?_ | refine POps_b_a ?_) | (first | refine POps_gn_a ?_ | refine POps_gs_a ?_ | refine POps_gb_a ?_) | (first | refine PW_cond_t_a ?_ | refine PW_cond_f_a ?_) | (first | refine POrd_s_a ?_ | refine POrd_b_a ?_) | (first | refine POrd_gn_a ?_ | refine POrd_s_b ?_ | refine POrd_b_b ?_))
        refine POps_box_a ?_
        intro i0 hi0
        repeat (first | (with_reducible first | refine PW_seq ?_ | refine PW_block ?_ | refine PW_region_lit ?_ | refine PW_skip ?_ | refine PW_exit ?_ | refine PW_ret ?_ | refine PW_label ?_ | refine POps_nil ?_ | refine POrd_nil ?_ | refine thenP_n ?_ | refine thenP_x ?_ | refine thenP_r ?_ | refine blockP_n ?_ | refine blockP_r ?_ | refine blockP_hit ?_ | refine blockP_miss rfl ?_) | (first | refine POps_s_a ?_ | refine POps_b_a ?_) | (first | refine POps_gn_a ?_ | refine POps_gs_a ?_ | refine POps_gb_a ?_) | (first | refine PW_cond_t_a ?_ | refine PW_cond_f_a ?_) | (first | refine POrd_s_a ?_ | refine POrd_b_a ?_) | (first | refine POrd_gn_a ?_ | refine POrd_s_b ?_ | refine POrd_b_b ?_))
        refine POps_call_a (hof) ?_
        repeat (first | (with_reducible first | refine PW_seq ?_ | refine PW_block ?_ | refine PW_region_lit ?_ | refine PW_skip ?_ | refine PW_exit ?_ | refine PW_ret ?_ | refine PW_label ?_ | refine POps_nil ?_ | refine POrd_nil ?_ | refine thenP_n ?_ | refine thenP_x ?_ | refine thenP_r ?_ | refine blockP_n ?_ | refine blockP_r ?_ | refine blockP_hit ?_ | refine blockP_miss rfl ?_) | (first | refine POps_s_a ?_ | refine POps_b_a ?_) | (first | refine POps_gn_a ?_ | refine POps_gs_a ?_ | refine POps_gb_a ?_) | (first | refine PW_cond_t_a ?_ | refine PW_cond_f_a ?_) | (first | refine POrd_s_a ?_ | refine POrd_b_a ?_) | (first | refine POrd_gn_a ?_ | refine POrd_s_b ?_ | refine POrd_b_b ?_))
        refine POps_alloc_a ?_
        intro i1 hi1
        simp only [St.freshB_box, St.freshB_nil] at hi1
        repeat (first | (with_reducible first | refine PW_seq ?_ | refine PW_block ?_ | refine PW_region_lit ?_ | refine PW_skip ?_ | refine PW_exit ?_ | refine PW_ret ?_ | refine PW_label ?_ | refine POps_nil ?_ | refine POrd_nil ?_ | refine thenP_n ?_ | refine thenP_x ?_ | refine thenP_r ?_ | refine blockP_n ?_ | refine blockP_r ?_ | refine blockP_hit ?_ | refine blockP_miss rfl ?_) | (first | refine POps_s_a ?_ | refine POps_b_a ?_) | (first | refine POps_gn_a ?_ | refine POps_gs_a ?_ | refine POps_gb_a ?_) | (first | refine PW_cond_t_a ?_ | refine PW_cond_f_a ?_) | (first | refine POrd_s_a ?_ | refine POrd_b_a ?_) | (first | refine POrd_gn_a ?_ | refine POrd_s_b ?_ | refine POrd_b_b ?_))
        refine POps_store_a ?_
        repeat (first | (with_reducible first | refine PW_seq ?_ | refine PW_block ?_ | refine PW_region_lit ?_ | refine PW_skip ?_ | refine PW_exit ?_ | refine PW_ret ?_ | refine PW_label ?_ | refine POps_nil ?_ | refine POrd_nil ?_ | refine thenP_n ?_ | refine thenP_x ?_ | refine thenP_r ?_ | refine blockP_n ?_ | refine blockP_r ?_ | refine blockP_hit ?_ | refine blockP_miss rfl ?_) | (first | refine POps_s_a ?_ | refine POps_b_a ?_) | (first | refine POps_gn_a ?_ | refine POps_gs_a ?_ | refine POps_gb_a ?_) | (first | refine PW_cond_t_a ?_ | refine PW_cond_f_a ?_) | (first | refine POrd_s_a ?_ | refine POrd_b_a ?_) | (first | refine POrd_gn_a ?_ | refine POrd_s_b ?_ | refine POrd_b_b ?_))
        refine POps_call_a (hpe) ?_
        repeat (first | (with_reducible first | refine PW_seq ?_ | refine PW_block ?_ | refine PW_region_lit ?_ | refine PW_skip ?_ | refine PW_exit ?_ | refine PW_ret ?_ | refine PW_label ?_ | refine POps_nil ?_ | refine POrd_nil ?_ | refine thenP_n ?_ | refine thenP_x ?_ | refine thenP_r ?_ | refine blockP_n ?_ | refine blockP_r ?_ | refine blockP_hit ?_ | refine blockP_miss rfl ?_) | (first | refine POps_s_a ?_ | refine POps_b_a ?_) | (first | refine POps_gn_a ?_ | refine POps_gs_a ?_ | refine POps_gb_a ?_) | (first | refine PW_cond_t_a ?_ | refine PW_cond_f_a ?_) | (first | refine POrd_s_a ?_ | refine POrd_b_a ?_) | (first | refine POrd_gn_a ?_ | refine POrd_s_b ?_ | refine POrd_b_b ?_))
        refine POps_call_a (hpp) ?_
        repeat (first | (with_reducible first | refine PW_seq ?_ | refine PW_block ?_ | refine PW_region_lit ?_ | refine PW_skip ?_ | refine PW_exit ?_ | refine PW_ret ?_ | refine PW_label ?_ | refine POps_nil ?_ | refine POrd_nil ?_ | refine thenP_n ?_ | refine thenP_x ?_ | refine thenP_r ?_ | refine blockP_n ?_ | refine blockP_r ?_ | refine blockP_hit ?_ | refine blockP_miss rfl ?_) | (first | refine POps_s_a ?_ | refine POps_b_a ?_) | (first | refine POps_gn_a ?_ | refine POps_gs_a ?_ | refine POps_gb_a ?_) | (first | refine PW_cond_t_a ?_ | refine PW_cond_f_a ?_) | (first | refine POrd_s_a ?_ | refine POrd_b_a ?_) | (first | refine POrd_gn_a ?_ | refine POrd_s_b ?_ | refine POrd_b_b ?_))
        refine POps_call_a (hre) ?_
        repeat (first | (with_reducible first | refine PW_seq ?_ | refine PW_block ?_ | refine PW_region_lit ?_ | refine PW_skip ?_ | refine PW_exit ?_ | refine PW_ret ?_ | refine PW_label ?_ | refine POps_nil ?_ | refine POrd_nil ?_ | refine thenP_n ?_ | refine thenP_x ?_ | refine thenP_r ?_ | refine blockP_n ?_ | refine blockP_r ?_ | refine blockP_hit ?_ | refine blockP_miss rfl ?_) | (first | refine POps_s_a ?_ | refine POps_b_a ?_) | (first | refine POps_gn_a ?_ | refine POps_gs_a ?_ | refine POps_gb_a ?_) | (first | refine PW_cond_t_a ?_ | refine PW_cond_f_a ?_) | (first | refine POrd_s_a ?_ | refine POrd_b_a ?_) | (first | refine POrd_gn_a ?_ | refine POrd_s_b ?_ | refine POrd_b_b ?_))
        refine POps_call_b (hrp) ?_
        repeat (first | (with_reducible first | refine PW_seq ?_ | refine PW_block ?_ | refine PW_region_lit ?_ | refine PW_skip ?_ | refine PW_exit ?_ | refine PW_ret ?_ | refine PW_label ?_ | refine POps_nil ?_ | refine POrd_nil ?_ | refine thenP_n ?_ | refine thenP_x ?_ | refine thenP_r ?_ | refine blockP_n ?_ | refine blockP_r ?_ | refine blockP_hit ?_ | refine blockP_miss rfl ?_) | (first | refine POps_s_a ?_ | refine POps_b_a ?_) | (first | refine POps_gn_a ?_ | refine POps_gs_a ?_ | refine POps_gb_a ?_) | (first | refine PW_cond_t_a ?_ | refine PW_cond_f_a ?_) | (first | refine POrd_s_a ?_ | refine POrd_b_a ?_) | (first | refine POrd_gn_a ?_ | refine POrd_s_b ?_ | refine POrd_b_b ?_))
        refine POps_call_a (hre) ?_
        repeat (first | (with_reducible first | refine PW_seq ?_ | refine PW_block ?_ | refine PW_region_lit ?_ | refine PW_skip ?_ | refine PW_exit ?_ | refine PW_ret ?_ | refine PW_label ?_ | refine POps_nil ?_ | refine POrd_nil ?_ | refine thenP_n ?_ | refine thenP_x ?_ | refine thenP_r ?_ | refine blockP_n ?_ | refine blockP_r ?_ | refine blockP_hit ?_ | refine blockP_miss rfl ?_) | (first | refine POps_s_a ?_ | refine POps_b_a ?_) | (first | refine POps_gn_a ?_ | refine POps_gs_a ?_ | refine POps_gb_a ?_) | (first | refine PW_cond_t_a ?_ | refine PW_cond_f_a ?_) | (first | refine POrd_s_a ?_ | refine POrd_b_a ?_) | (first | refine POrd_gn_a ?_ | refine POrd_s_b ?_ | refine POrd_b_b ?_))
        refine POps_call_b (hrp) ?_
        repeat (first | (with_reducible first | refine PW_seq ?_ | refine PW_block ?_ | refine PW_region_lit ?_ | refine PW_skip ?_ | refine PW_exit ?_ | refine PW_ret ?_ | refine PW_label ?_ | refine POps_nil ?_ | refine POrd_nil ?_ | refine thenP_n ?_ | refine thenP_x ?_ | refine thenP_r ?_ | refine blockP_n ?_ | refine blockP_r ?_ | refine blockP_hit ?_ | refine blockP_miss rfl ?_) | (first | refine POps_s_a ?_ | refine POps_b_a ?_) | (first | refine POps_gn_a ?_ | refine POps_gs_a ?_ | refine POps_gb_a ?_) | (first | refine PW_cond_t_a ?_ | refine PW_cond_f_a ?_) | (first | refine POrd_s_a ?_ | refine POrd_b_a ?_) | (first | refine POrd_gn_a ?_ | refine POrd_s_b ?_ | refine POrd_b_b ?_))
        refine POps_call_b (hy) ?_
        repeat (first | (with_reducible first | refine PW_seq ?_ | refine PW_block ?_ | refine PW_region_lit ?_ | refine PW_skip ?_ | refine PW_exit ?_ | refine PW_ret ?_ | refine PW_label ?_ | refine POps_nil ?_ | refine POrd_nil ?_ | refine thenP_n ?_ | refine thenP_x ?_ | refine thenP_r ?_ | refine blockP_n ?_ | refine blockP_r ?_ | refine blockP_hit ?_ | refine blockP_miss rfl ?_) | (first | refine POps_s_a ?_ | refine POps_b_a ?_) | (first | refine POps_gn_a ?_ | refine POps_gs_a ?_ | refine POps_gb_a ?_) | (first | refine PW_cond_t_a ?_ | refine PW_cond_f_a ?_) | (first | refine POrd_s_a ?_ | refine POrd_b_a ?_) | (first | refine POrd_gn_a ?_ | refine POrd_s_b ?_ | refine POrd_b_b ?_))
        refine POps_call_a (awake6_p) ?_
        repeat (first | (with_reducible first | refine PW_seq ?_ | refine PW_block ?_ | refine PW_region_lit ?_ | refine PW_skip ?_ | refine PW_exit ?_ | refine PW_ret ?_ | refine PW_label ?_ | refine POps_nil ?_ | refine POrd_nil ?_ | refine thenP_n ?_ | refine thenP_x ?_ | refine thenP_r ?_ | refine blockP_n ?_ | refine blockP_r ?_ | refine blockP_hit ?_ | refine blockP_miss rfl ?_) | (first | refine POps_s_a ?_ | refine POps_b_a ?_) | (first | refine POps_gn_a ?_ | refine POps_gs_a ?_ | refine POps_gb_a ?_) | (first | refine PW_cond_t_a ?_ | refine PW_cond_f_a ?_) | (first | refine POrd_s_a ?_ | refine POrd_b_a ?_) | (first | refine POrd_gn_a ?_ | refine POrd_s_b ?_ | refine POrd_b_b ?_))
        refine retP_ok (by simp) (by simp only [Try.results10]; rfl) (by simp [resP, St.box?, PF.get, loadB, TyK.agg, *]; rfl) (List.nil_sublist _) ?_
        exact ⟨rfl, rfl⟩
    | true =>
      cases hp : patB t with
      | false =>
        rw [exprR_yes he hnd] at hpe
        rw [patR_no hp] at hpp
        rw [he] at hre
        rw [hp] at hrp
        have hx := hge he
        clear hge hgp hok hsame
        unfold RxC at hx
        generalize strB (exL t 0) = S1 at *
        simp only [aggD, encD_nd, List.map_cons, List.map_nil]
        refine PCalls.enter Try.func10 rfl Try.ntmps10 (by simp) ?_
        simp only [argsF]
        repeat (first | (with_reducible first | refine PW_seq ?_ | refine PW_block ?_ | refine PW_region_lit ?_ | refine PW_skip ?_ | refine PW_exit ?_ | refine PW_ret ?_ | refine PW_label ?_ | refine POps_nil ?_ | refine POrd_nil ?_ | refine thenP_n ?_ | refine thenP_x ?_ | refine thenP_r ?_ | refine blockP_n ?_ | refine blockP_r ?_ | refine blockP_hit ?_ | refine blockP_miss rfl ?_) | (first | refine POps_s_a ?_ | refine POps_b_a ?_) | (first | refine POps_gn_a ?_ | refine POps_gs_a ?_ | refine POps_gb_a ?_) | (first | refine PW_cond_t_a ?_ | refine PW_cond_f_a ?_) | (first | refine POrd_s_a ?_ | refine POrd_b_a ?_) | (first | refine POrd_gn_a ?_ | refine POrd_s_b ?_ | refine POrd_b_b ?_))
        refine POps_box_a ?_
        intro i0 hi0
        repeat (first | (with_reducible first | refine PW_seq ?_ | refine PW_block ?_ | refine PW_region_lit ?_ | refine PW_skip ?_ | refine PW_exit ?_ | refine PW_ret ?_ | refine PW_label ?_ | refine POps_nil ?_ | refine POrd_nil ?_ | refine thenP_n ?_ | refine thenP_x ?_ | refine thenP_r ?_ | refine blockP_n ?_ | refine blockP_r ?_ | refine blockP_hit ?_ | refine blockP_miss rfl ?_) | (first | refine POps_s_a ?_ | refine POps_b_a ?_) | (first | refine POps_gn_a ?_ | refine POps_gs_a ?_ | refine POps_gb_a ?_) | (first | refine PW_cond_t_a ?_ | refine PW_cond_f_a ?_) | (first | refine POrd_s_a ?_ | refine POrd_b_a ?_) | (first | refine POrd_gn_a ?_ | refine POrd_s_b ?_ | refine POrd_b_b ?_))
        refine POps_call_a (hof) ?_
        repeat (first | (with_reducible first | refine PW_seq ?_ | refine PW_block ?_ | refine PW_region_lit ?_ | refine PW_skip ?_ | refine PW_exit ?_ | refine PW_ret ?_ | refine PW_label ?_ | refine POps_nil ?_ | refine POrd_nil ?_ | refine thenP_n ?_ | refine thenP_x ?_ | refine thenP_r ?_ | refine blockP_n ?_ | refine blockP_r ?_ | refine blockP_hit ?_ | refine blockP_miss rfl ?_) | (first | refine POps_s_a ?_ | refine POps_b_a ?_) | (first | refine POps_gn_a ?_ | refine POps_gs_a ?_ | refine POps_gb_a ?_) | (first | refine PW_cond_t_a ?_ | refine PW_cond_f_a ?_) | (first | refine POrd_s_a ?_ | refine POrd_b_a ?_) | (first | refine POrd_gn_a ?_ | refine POrd_s_b ?_ | refine POrd_b_b ?_))
        refine POps_alloc_a ?_
        intro i1 hi1
        simp only [St.freshB_box, St.freshB_nil] at hi1
        repeat (first | (with_reducible first | refine PW_seq ?_ | refine PW_block ?_ | refine PW_region_lit ?_ | refine PW_skip ?_ | refine PW_exit ?_ | refine PW_ret ?_ | refine PW_label ?_ | refine POps_nil ?_ | refine POrd_nil ?_ | refine thenP_n ?_ | refine thenP_x ?_ | refine thenP_r ?_ | refine blockP_n ?_ | refine blockP_r ?_ | refine blockP_hit ?_ | refine blockP_miss rfl ?_) | (first | refine POps_s_a ?_ | refine POps_b_a ?_) | (first | refine POps_gn_a ?_ | refine POps_gs_a ?_ | refine POps_gb_a ?_) | (first | refine PW_cond_t_a ?_ | refine PW_cond_f_a ?_) | (first | refine POrd_s_a ?_ | refine POrd_b_a ?_) | (first | refine POrd_gn_a ?_ | refine POrd_s_b ?_ | refine POrd_b_b ?_))
        refine POps_store_a ?_
        repeat (first | (with_reducible first | refine PW_seq ?_ | refine PW_block ?_ | refine PW_region_lit ?_ | refine PW_skip ?_ | refine PW_exit ?_ | refine PW_ret ?_ | refine PW_label ?_ | refine POps_nil ?_ | refine POrd_nil ?_ | refine thenP_n ?_ | refine thenP_x ?_ | refine thenP_r ?_ | refine blockP_n ?_ | refine blockP_r ?_ | refine blockP_hit ?_ | refine blockP_miss rfl ?_) | (first | refine POps_s_a ?_ | refine POps_b_a ?_) | (first | refine POps_gn_a ?_ | refine POps_gs_a ?_ | refine POps_gb_a ?_) | (first | refine PW_cond_t_a ?_ | refine PW_cond_f_a ?_) | (first | refine POrd_s_a ?_ | refine POrd_b_a ?_) | (first | refine POrd_gn_a ?_ | refine POrd_s_b ?_ | refine POrd_b_b ?_))
        refine POps_call_a (hpe) ?_
        repeat (first | (with_reducible first | refine PW_seq ?_ | refine PW_block ?_ | refine PW_region_lit ?_ | refine PW_skip ?_ | refine PW_exit ?_ | refine PW_ret ?_ | refine PW_label ?_ | refine POps_nil ?_ | refine POrd_nil ?_ | refine thenP_n ?_ | refine thenP_x ?_ | refine thenP_r ?_ | refine blockP_n ?_ | refine blockP_r ?_ | refine blockP_hit ?_ | refine blockP_miss rfl ?_) | (first | refine POps_s_a ?_ | refine POps_b_a ?_) | (first | refine POps_gn_a ?_ | refine POps_gs_a ?_ | refine POps_gb_a ?_) | (first | refine PW_cond_t_a ?_ | refine PW_cond_f_a ?_) | (first | refine POrd_s_a ?_ | refine POrd_b_a ?_) | (first | refine POrd_gn_a ?_ | refine POrd_s_b ?_ | refine POrd_b_b ?_))
        refine POps_call_a (hpp) ?_
        repeat (first | (with_reducible first | refine PW_seq ?_ | refine PW_block ?_ | refine PW_region_lit ?_ | refine PW_skip ?_ | refine PW_exit ?_ | refine PW_ret ?_ | refine PW_label ?_ | refine POps_nil ?_ | refine POrd_nil ?_ | refine thenP_n ?_ | refine thenP_x ?_ | refine thenP_r ?_ | refine blockP_n ?_ | refine blockP_r ?_ | refine blockP_hit ?_ | refine blockP_miss rfl ?_) | (first | refine POps_s_a ?_ | refine POps_b_a ?_) | (first | refine POps_gn_a ?_ | refine POps_gs_a ?_ | refine POps_gb_a ?_) | (first | refine PW_cond_t_a ?_ | refine PW_cond_f_a ?_) | (first | refine POrd_s_a ?_ | refine POrd_b_a ?_) | (first | refine POrd_gn_a ?_ | refine POrd_s_b ?_ | refine POrd_b_b ?_))
        refine POps_call_a (hre) ?_
        repeat (first | (with_reducible first | refine PW_seq ?_ | refine PW_block ?_ | refine PW_region_lit ?_ | refine PW_skip ?_ | refine PW_exit ?_ | refine PW_ret ?_ | refine PW_label ?_ | refine POps_nil ?_ | refine POrd_nil ?_ | refine thenP_n ?_ | refine thenP_x ?_ | refine thenP_r ?_ | refine blockP_n ?_ | refine blockP_r ?_ | refine blockP_hit ?_ | refine blockP_miss rfl ?_) | (first | refine POps_s_a ?_ | refine POps_b_a ?_) | (first | refine POps_gn_a ?_ | refine POps_gs_a ?_ | refine POps_gb_a ?_) | (first | refine PW_cond_t_a ?_ | refine PW_cond_f_a ?_) | (first | refine POrd_s_a ?_ | refine POrd_b_a ?_) | (first | refine POrd_gn_a ?_ | refine POrd_s_b ?_ | refine POrd_b_b ?_))
        refine POps_call_b (hrp) ?_
        repeat (first | (with_reducible first | refine PW_seq ?_ | refine PW_block ?_ | refine PW_region_lit ?_ | refine PW_skip ?_ | refine PW_exit ?_ | refine PW_ret ?_ | refine PW_label ?_ | refine POps_nil ?_ | refine POrd_nil ?_ | refine thenP_n ?_ | refine thenP_x ?_ | refine thenP_r ?_ | refine blockP_n ?_ | refine blockP_r ?_ | refine blockP_hit ?_ | refine blockP_miss rfl ?_) | (first | refine POps_s_a ?_ | refine POps_b_a ?_) | (first | refine POps_gn_a ?_ | refine POps_gs_a ?_ | refine POps_gb_a ?_) | (first | refine PW_cond_t_a ?_ | refine PW_cond_f_a ?_) | (first | refine POrd_s_a ?_ | refine POrd_b_a ?_) | (first | refine POrd_gn_a ?_ | refine POrd_s_b ?_ | refine POrd_b_b ?_))
        refine POps_call_a (hre) ?_
        repeat (first | (with_reducible first | refine PW_seq ?_ | refine PW_block ?_ | refine PW_region_lit ?_ | refine PW_skip ?_ | refine PW_exit ?_ | refine PW_ret ?_ | refine PW_label ?_ | refine POps_nil ?_ | refine POrd_nil ?_ | refine thenP_n ?_ | refine thenP_x ?_ | refine thenP_r ?_ | refine blockP_n ?_ | refine blockP_r ?_ | refine blockP_hit ?_ | refine blockP_miss rfl ?_) | (first | refine POps_s_a ?_ | refine POps_b_a ?_) | (first | refine POps_gn_a ?_ | refine POps_gs_a ?_ | refine POps_gb_a ?_) | (first | refine PW_cond_t_a ?_ | refine PW_cond_f_a ?_) | (first | refine POrd_s_a ?_ | refine POrd_b_a ?_) | (first | refine POrd_gn_a ?_ | refine POrd_s_b ?_ | refine POrd_b_b ?_))
        refine POps_call_b (hx) ?_
        repeat (first | (with_reducible first | refine PW_seq ?_ | refine PW_block ?_ | refine PW_region_lit ?_ | refine PW_skip ?_ | refine PW_exit ?_ | refine PW_ret ?_ | refine PW_label ?_ | refine POps_nil ?_ | refine POrd_nil ?_ | refine thenP_n ?_ | refine thenP_x ?_ | refine thenP_r ?_ | refine blockP_n ?_ | refine blockP_r ?_ | refine blockP_hit ?_ | refine blockP_miss rfl ?_) | (first | refine POps_s_a ?_ | refine POps_b_a ?_) | (first | refine POps_gn_a ?_ | refine POps_gs_a ?_ | refine POps_gb_a ?_) | (first | refine PW_cond_t_a ?_ | refine PW_cond_f_a ?_) | (first | refine POrd_s_a ?_ | refine POrd_b_a ?_) | (first | refine POrd_gn_a ?_ | refine POrd_s_b ?_ | refine POrd_b_b ?_))
        refine POps_call_b (hrp) ?_
        repeat (first | (with_reducible first | refine PW_seq ?_ | refine PW_block ?_ | refine PW_region_lit ?_ | refine PW_skip ?_ | refine PW_exit ?_ | refine PW_ret ?_ | refine PW_label ?_ | refine POps_nil ?_ | refine POrd_nil ?_ | refine thenP_n ?_ | refine thenP_x ?_ | refine thenP_r ?_ | refine blockP_n ?_ | refine blockP_r ?_ | refine blockP_hit ?_ | refine blockP_miss rfl ?_) | (first | refine POps_s_a ?_ | refine POps_b_a ?_) | (first | refine POps_gn_a ?_ | refine POps_gs_a ?_ | refine POps_gb_a ?_) | (first | refine PW_cond_t_a ?_ | refine PW_cond_f_a ?_) | (first | refine POrd_s_a ?_ | refine POrd_b_a ?_) | (first | refine POrd_gn_a ?_ | refine POrd_s_b ?_ | refine POrd_b_b ?_))
        refine POps_call_a (awake6_p) ?_
        repeat (first | (with_reducible first | refine PW_seq ?_ | refine PW_block ?_ | refine PW_region_lit ?_ | refine PW_skip ?_ | refine PW_exit ?_ | refine PW_ret ?_ | refine PW_label ?_ | refine POps_nil ?_ | refine POrd_nil ?_ | refine thenP_n ?_ | refine thenP_x ?_ | refine thenP_r ?_ | refine blockP_n ?_ | refine blockP_r ?_ | refine blockP_hit ?_ | refine blockP_miss rfl ?_) | (first | refine POps_s_a ?_ | refine POps_b_a ?_) | (first | refine POps_gn_a ?_ | refine POps_gs_a ?_ | refine POps_gb_a ?_) | (first | refine PW_cond_t_a ?_ | refine PW_cond_f_a ?_) | (first | refine POrd_s_a ?_ | refine POrd_b_a ?_) | (first | refine POrd_gn_a ?_ | refine POrd_s_b ?_ | refine POrd_b_b ?_))
        refine retP_ok (by simp) (by simp only [Try.results10]; rfl) (by simp [resP, St.box?, PF.get, loadB, TyK.agg, *]; rfl) (List.nil_sublist _) ?_
        exact ⟨rfl, rfl⟩
      | true =>
        rw [exprR_yes he hnd] at hpe
        rw [patR_yes hp hnd] at hpp
        rw [he] at hre
        rw [hp] at hrp
        have hx := hge he
        have hy := hgp hp
        clear hge hgp hok hsame
        unfold RxC at hx
        generalize strB (exL t 0) = S1 at *
        unfold RpC at hy
        generalize strB (patL t) = S2 at *
        simp only [aggD, encD_nd, List.map_cons, List.map_nil]
        refine PCalls.enter Try.func10 rfl Try.ntmps10 (by simp) ?_
        simp only [argsF]
        repeat (first | (with_reducible first | refine PW_seq ?_ | refine PW_block ?_ | refine PW_region_lit ?_ | refine PW_skip ?_ | refine PW_exit ?_ | refine PW_ret ?_ | refine PW_label ?_ | refine POps_nil ?_ | refine POrd_nil ?_ | refine thenP_n ?_ | refine thenP_x ?_ | refine thenP_r ?_ | refine blockP_n ?_ | refine blockP_r ?_ | refine blockP_hit ?_ | refine blockP_miss rfl ?_) | (first | refine POps_s_a ?_ | refine POps_b_a ?_) | (first | refine POps_gn_a ?_ | refine POps_gs_a ?_ | refine POps_gb_a ?_) | (first | refine PW_cond_t_a ?_ | refine PW_cond_f_a ?_) | (first | refine POrd_s_a ?_ | refine POrd_b_a ?_) | (first | refine POrd_gn_a ?_ | refine POrd_s_b ?_ | refine POrd_b_b ?_))
        refine POps_box_a ?_
        intro i0 hi0
        repeat (first | (with_reducible first | refine PW_seq ?_ | refine PW_block ?_ | refine PW_region_lit ?_ | refine PW_skip ?_ | refine PW_exit ?_ | refine PW_ret ?_ | refine PW_label ?_ | refine POps_nil ?_ | refine POrd_nil ?_ | refine thenP_n ?_ | refine thenP_x ?_ | refine thenP_r ?_ | refine blockP_n ?_ | refine blockP_r ?_ | refine blockP_hit ?_ | refine blockP_miss rfl ?_) | (first | refine POps_s_a ?_ | refine POps_b_a ?_) | (first | refine POps_gn_a ?_ | refine POps_gs_a ?_ | refine POps_gb_a ?_) | (first | refine PW_cond_t_a ?_ | refine PW_cond_f_a ?_) | (first | refine POrd_s_a ?_ | refine POrd_b_a ?_) | (first | refine POrd_gn_a ?_ | refine POrd_s_b ?_ | refine POrd_b_b ?_))
        refine POps_call_a (hof) ?_
        repeat (first | (with_reducible first | refine PW_seq ?_ | refine PW_block ?_ | refine PW_region_lit ?_ | refine PW_skip ?_ | refine PW_exit ?_ | refine PW_ret ?_ | refine PW_label ?_ | refine POps_nil ?_ | refine POrd_nil ?_ | refine thenP_n ?_ | refine thenP_x ?_ | refine thenP_r ?_ | refine blockP_n ?_ | refine blockP_r ?_ | refine blockP_hit ?_ | refine blockP_miss rfl ?_) | (first | refine POps_s_a ?_ | refine POps_b_a ?_) | (first | refine POps_gn_a ?_ | refine POps_gs_a ?_ | refine POps_gb_a ?_) | (first | refine PW_cond_t_a ?_ | refine PW_cond_f_a ?_) | (first | refine POrd_s_a ?_ | refine POrd_b_a ?_) | (first | refine POrd_gn_a ?_ | refine POrd_s_b ?_ | refine POrd_b_b ?_))
        refine POps_alloc_a ?_
        intro i1 hi1
        simp only [St.freshB_box, St.freshB_nil] at hi1
        repeat (first | (with_reducible first | refine PW_seq ?_ | refine PW_block ?_ | refine PW_region_lit ?_ | refine PW_skip ?_ | refine PW_exit ?_ | refine PW_ret ?_ | refine PW_label ?_ | refine POps_nil ?_ | refine POrd_nil ?_ | refine thenP_n ?_ | refine thenP_x ?_ | refine thenP_r ?_ | refine blockP_n ?_ | refine blockP_r ?_ | refine blockP_hit ?_ | refine blockP_miss rfl ?_) | (first | refine POps_s_a ?_ | refine POps_b_a ?_) | (first | refine POps_gn_a ?_ | refine POps_gs_a ?_ | refine POps_gb_a ?_) | (first | refine PW_cond_t_a ?_ | refine PW_cond_f_a ?_) | (first | refine POrd_s_a ?_ | refine POrd_b_a ?_) | (first | refine POrd_gn_a ?_ | refine POrd_s_b ?_ | refine POrd_b_b ?_))
        refine POps_store_a ?_
        repeat (first | (with_reducible first | refine PW_seq ?_ | refine PW_block ?_ | refine PW_region_lit ?_ | refine PW_skip ?_ | refine PW_exit ?_ | refine PW_ret ?_ | refine PW_label ?_ | refine POps_nil ?_ | refine POrd_nil ?_ | refine thenP_n ?_ | refine thenP_x ?_ | refine thenP_r ?_ | refine blockP_n ?_ | refine blockP_r ?_ | refine blockP_hit ?_ | refine blockP_miss rfl ?_) | (first | refine POps_s_a ?_ | refine POps_b_a ?_) | (first | refine POps_gn_a ?_ | refine POps_gs_a ?_ | refine POps_gb_a ?_) | (first | refine PW_cond_t_a ?_ | refine PW_cond_f_a ?_) | (first | refine POrd_s_a ?_ | refine POrd_b_a ?_) | (first | refine POrd_gn_a ?_ | refine POrd_s_b ?_ | refine POrd_b_b ?_))
        refine POps_call_a (hpe) ?_
        repeat (first | (with_reducible first | refine PW_seq ?_ | refine PW_block ?_ | refine PW_region_lit ?_ | refine PW_skip ?_ | refine PW_exit ?_ | refine PW_ret ?_ | refine PW_label ?_ | refine POps_nil ?_ | refine POrd_nil ?_ | refine thenP_n ?_ | refine thenP_x ?_ | refine thenP_r ?_ | refine blockP_n ?_ | refine blockP_r ?_ | refine blockP_hit ?_ | refine blockP_miss rfl ?_) | (first | refine POps_s_a ?_ | refine POps_b_a ?_) | (first | refine POps_gn_a ?_ | refine POps_gs_a ?_ | refine POps_gb_a ?_) | (first | refine PW_cond_t_a ?_ | refine PW_cond_f_a ?_) | (first | refine POrd_s_a ?_ | refine POrd_b_a ?_) | (first | refine POrd_gn_a ?_ | refine POrd_s_b ?_ | refine POrd_b_b ?_))
        refine POps_call_a (hpp) ?_
        repeat (first | (with_reducible first | refine PW_seq ?_ | refine PW_block ?_ | refine PW_region_lit ?_ | refine PW_skip ?_ | refine PW_exit ?_ | refine PW_ret ?_ | refine PW_label ?_ | refine POps_nil ?_ | refine POrd_nil ?_ | refine thenP_n ?_ | refine thenP_x ?_ | refine thenP_r ?_ | refine blockP_n ?_ | refine blockP_r ?_ | refine blockP_hit ?_ | refine blockP_miss rfl ?_) | (first | refine POps_s_a ?_ | refine POps_b_a ?_) | (first | refine POps_gn_a ?_ | refine POps_gs_a ?_ | refine POps_gb_a ?_) | (first | refine PW_cond_t_a ?_ | refine PW_cond_f_a ?_) | (first | refine POrd_s_a ?_ | refine POrd_b_a ?_) | (first | refine POrd_gn_a ?_ | refine POrd_s_b ?_ | refine POrd_b_b ?_))
        refine POps_call_a (hre) ?_
        repeat (first | (with_reducible first | refine PW_seq ?_ | refine PW_block ?_ | refine PW_region_lit ?_ | refine PW_skip ?_ | refine PW_exit ?_ | refine PW_ret ?_ | refine PW_label ?_ | refine POps_nil ?_ | refine POrd_nil ?_ | refine thenP_n ?_ | refine thenP_x ?_ | refine thenP_r ?_ | refine blockP_n ?_ | refine blockP_r ?_ | refine blockP_hit ?_ | refine blockP_miss rfl ?_) | (first | refine POps_s_a ?_ | refine POps_b_a ?_) | (first | refine POps_gn_a ?_ | refine POps_gs_a ?_ | refine POps_gb_a ?_) | (first | refine PW_cond_t_a ?_ | refine PW_cond_f_a ?_) | (first | refine POrd_s_a ?_ | refine POrd_b_a ?_) | (first | refine POrd_gn_a ?_ | refine POrd_s_b ?_ | refine POrd_b_b ?_))
        refine POps_call_b (hrp) ?_
        repeat (first | (with_reducible first | refine PW_seq ?_ | refine PW_block ?_ | refine PW_region_lit ?_ | refine PW_skip ?_ | refine PW_exit ?_ | refine PW_ret ?_ | refine PW_label ?_ | refine POps_nil ?_ | refine POrd_nil ?_ | refine thenP_n ?_ | refine thenP_x ?_ | refine thenP_r ?_ | refine blockP_n ?_ | refine blockP_r ?_ | refine blockP_hit ?_ | refine blockP_miss rfl ?_) | (first | refine POps_s_a ?_ | refine POps_b_a ?_) | (first | refine POps_gn_a ?_ | refine POps_gs_a ?_ | refine POps_gb_a ?_) | (first | refine PW_cond_t_a ?_ | refine PW_cond_f_a ?_) | (first | refine POrd_s_a ?_ | refine POrd_b_a ?_) | (first | refine POrd_gn_a ?_ | refine POrd_s_b ?_ | refine POrd_b_b ?_))
        refine POps_call_a (hre) ?_
        repeat (first | (with_reducible first | refine PW_seq ?_ | refine PW_block ?_ | refine PW_region_lit ?_ | refine PW_skip ?_ | refine PW_exit ?_ | refine PW_ret ?_ | refine PW_label ?_ | refine POps_nil ?_ | refine POrd_nil ?_ | refine thenP_n ?_ | refine thenP_x ?_ | refine thenP_r ?_ | refine blockP_n ?_ | refine blockP_r ?_ | refine blockP_hit ?_ | refine blockP_miss rfl ?_) | (first | refine POps_s_a ?_ | refine POps_b_a ?_) | (first | refine POps_gn_a ?_ | refine POps_gs_a ?_ | refine POps_gb_a ?_) | (first | refine PW_cond_t_a ?_ | refine PW_cond_f_a ?_) | (first | refine POrd_s_a ?_ | refine POrd_b_a ?_) | (first | refine POrd_gn_a ?_ | refine POrd_s_b ?_ | refine POrd_b_b ?_))
        refine POps_call_b (hx) ?_
        repeat (first | (with_reducible first | refine PW_seq ?_ | refine PW_block ?_ | refine PW_region_lit ?_ | refine PW_skip ?_ | refine PW_exit ?_ | refine PW_ret ?_ | refine PW_label ?_ | refine POps_nil ?_ | refine POrd_nil ?_ | refine thenP_n ?_ | refine thenP_x ?_ | refine thenP_r ?_ | refine blockP_n ?_ | refine blockP_r ?_ | refine blockP_hit ?_ | refine blockP_miss rfl ?_) | (first | refine POps_s_a ?_ | refine POps_b_a ?_) | (first | refine POps_gn_a ?_ | refine POps_gs_a ?_ | refine POps_gb_a ?_) | (first | refine PW_cond_t_a ?_ | refine PW_cond_f_a ?_) | (first | refine POrd_s_a ?_ | refine POrd_b_a ?_) | (first | refine POrd_gn_a ?_ | refine POrd_s_b ?_ | refine POrd_b_b ?_))
        refine POps_call_b (hrp) ?_
        repeat (first | (with_reducible first | refine PW_seq ?_ | refine PW_block ?_ | refine PW_region_lit ?_ | refine PW_skip ?_ | refine PW_exit ?_ | refine PW_ret ?_ | refine PW_label ?_ | refine POps_nil ?_ | refine POrd_nil ?_ | refine thenP_n ?_ | refine thenP_x ?_ | refine thenP_r ?_ | refine blockP_n ?_ | refine blockP_r ?_ | refine blockP_hit ?_ | refine blockP_miss rfl ?_) | (first | refine POps_s_a ?_ | refine POps_b_a ?_) | (first | refine POps_gn_a ?_ | refine POps_gs_a ?_ | refine POps_gb_a ?_) | (first | refine PW_cond_t_a ?_ | refine PW_cond_f_a ?_) | (first | refine POrd_s_a ?_ | refine POrd_b_a ?_) | (first | refine POrd_gn_a ?_ | refine POrd_s_b ?_ | refine POrd_b_b ?_))
        refine POps_call_b (hy) ?_
        repeat (first | (with_reducible first | refine PW_seq ?_ | refine PW_block ?_ | refine PW_region_lit ?_ | refine PW_skip ?_ | refine PW_exit ?_ | refine PW_ret ?_ | refine PW_label ?_ | refine POps_nil ?_ | refine POrd_nil ?_ | refine thenP_n ?_ | refine thenP_x ?_ | refine thenP_r ?_ | refine blockP_n ?_ | refine blockP_r ?_ | refine blockP_hit ?_ | refine blockP_miss rfl ?_) | (first | refine POps_s_a ?_ | refine POps_b_a ?_) | (first | refine POps_gn_a ?_ | refine POps_gs_a ?_ | refine POps_gb_a ?_) | (first | refine PW_cond_t_a ?_ | refine PW_cond_f_a ?_) | (first | refine POrd_s_a ?_ | refine POrd_b_a ?_) | (first | refine POrd_gn_a ?_ | refine POrd_s_b ?_ | refine POrd_b_b ?_))
        refine POps_call_a (awake6_p) ?_
        repeat (first | (with_reducible first | refine PW_seq ?_ | refine PW_block ?_ | refine PW_region_lit ?_ | refine PW_skip ?_ | refine PW_exit ?_ | refine PW_ret ?_ | refine PW_label ?_ | refine POps_nil ?_ | refine POrd_nil ?_ | refine thenP_n ?_ | refine thenP_x ?_ | refine thenP_r ?_ | refine blockP_n ?_ | refine blockP_r ?_ | refine blockP_hit ?_ | refine blockP_miss rfl ?_) | (first | refine POps_s_a ?_ | refine POps_b_a ?_) | (first | refine POps_gn_a ?_ | refine POps_gs_a ?_ | refine POps_gb_a ?_) | (first | refine PW_cond_t_a ?_ | refine PW_cond_f_a ?_) | (first | refine POrd_s_a ?_ | refine POrd_b_a ?_) | (first | refine POrd_gn_a ?_ | refine POrd_s_b ?_ | refine POrd_b_b ?_))
        refine retP_ok (by simp) (by simp only [Try.results10]; rfl) (by simp [resP, St.box?, PF.get, loadB, TyK.agg, *]; rfl) (List.nil_sublist _) ?_
        exact ⟨rfl, rfl⟩
end Go.Proofs.Ytffgfjnbgplckaa

namespace Go.Proofs.Ytffgfjnbgplckaa
open Go.RowKit
theorem printExprs_walk (t : Nd) (cs : List Value) (w : World) (ht : NdC w t cs) : Calls Try.prog 10 #[.agg cs.toArray] w fun e w' => e = .returned (.bool true) ∧ Below w.heap.size w w' :=
  ((printExprs_p t).mono fun p s h => h.1).top (relVs_cons (rel_rep (K := K0 w) (fun b o v _ h => ⟨v, h⟩) (NdC.toR t cs ht)) (relVs_nil _ _))
end Go.Proofs.Ytffgfjnbgplckaa
