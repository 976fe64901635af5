import Derived.Test.YtahhgpafjiljfaaBY
set_option linter.unusedSimpArgs false
set_option linter.unusedVariables false
namespace Go.Proofs.Ytahhgpafjiljfaa
open Go.RowKit
set_option maxRecDepth 100000
theorem ext_toList (s : ByteArray) (m : Nat) (hm : m ≤ s.size) : (s.extract 0 m).toList = s.toList.take m := by
  rw [ByteArray.toList_eq, ByteArray.toList_eq]
  simp
theorem get_byte {l : List UInt8} {k : Nat} (h : k < l.length) : (l.map byteD)[k]? = some [.v (.int .u8 l[k].toNat)] := by rw [List.getElem?_map, List.getElem?_eq_getElem h]; rfl
set_option maxHeartbeats 4000000 in
theorem place_p (s : ByteArray) (at_ : Int) (hs : s.size ≤ 100000) (h1 : -9223372036854775808 ≤ at_) (h2 : at_ ≤ 9223372036854775807) : PCalls Try.prog 11 [.d (.v (.string s)), .d (.v (.int .i64 at_))] [] fun p st => p = .tup [.d (.v (.int .i64 (plcAt s at_).1)), .d (.v (.int .i64 (plcAt s at_).2))] ∧ st = [] := by
  obtain ⟨m, hm, hms, hmt⟩ : ∃ m : Nat, (if (0 : Int) < (if (s.size : Int) < at_ then (s.size : Int) else at_) then (if (s.size : Int) < at_ then (s.size : Int) else at_) else 0) = (m : Int) ∧ m ≤ s.size ∧ s.toList.take at_.toNat = s.toList.take m := by
    by_cases h3 : (s.size : Int) < at_
    · refine ⟨s.size, by rw [if_pos h3]; split <;> omega, Nat.le_refl _, ?_⟩
      rw [List.take_of_length_le (by rw [size_toList]; omega), List.take_of_length_le (by rw [size_toList]; omega)]
    · rw [if_neg h3]
      by_cases h4 : (0 : Int) < at_
      · exact ⟨at_.toNat, by rw [if_pos h4]; omega, by omega, rfl⟩
      · exact ⟨0, by rw [if_neg h4]; rfl, Nat.zero_le _, by rw [show at_.toNat = 0 by omega]⟩
  have HP := Lib.hid (show plcAt s at_ = plc (s.toList.take m) by unfold plcAt; rw [hmt])
  have HM := Lib.hid hm
  have hex := ext_toList s m hms
  have hl : (s.toList.take m).length = m := by rw [List.length_take, size_toList]; omega
  clear hmt h1 h2 hm
  generalize plcAt s at_ = q at *
  generalize hLL : s.toList.take m = L at *
  have HLL := Lib.hid hLL
  clear hLL
  refine PCalls.enter Try.func11 rfl Try.ntmps11 (by simp) ?_
  simp only [argsF]
  repeat (first | (with_reducible first | refine PW_seq ?_ | refine PW_block ?_ | refine PW_region_lit ?_ | refine PW_skip ?_ | refine PW_exit ?_ | refine PW_ret ?_ | refine PW_label ?_ | refine POps_nil ?_ | refine POrd_nil ?_ | refine thenP_n ?_ | refine thenP_x ?_ | refine thenP_r ?_ | refine blockP_n ?_ | refine blockP_r ?_ | refine blockP_hit ?_ | refine blockP_miss rfl ?_) | (first | refine POps_s_a ?_ | refine POps_b_a ?_) | (first | refine POps_gn_a ?_ | refine POps_gs_a ?_ | refine POps_gb_a ?_) | (first | refine PW_cond_t_a ?_ | refine PW_cond_f_a ?_) | (first | refine POrd_s_a ?_ | refine POrd_b_a ?_) | (first | refine POrd_gn_a ?_ | refine POrd_s_b ?_ | refine POrd_b_b ?_))
  refine POps_min ((if (s.size : Int) < at_ then (s.size : Int) else at_)) rfl ?_
  repeat (first | (with_reducible first | refine PW_seq ?_ | refine PW_block ?_ | refine PW_region_lit ?_ | refine PW_skip ?_ | refine PW_exit ?_ | refine PW_ret ?_ | refine PW_label ?_ | refine POps_nil ?_ | refine POrd_nil ?_ | refine thenP_n ?_ | refine thenP_x ?_ | refine thenP_r ?_ | refine blockP_n ?_ | refine blockP_r ?_ | refine blockP_hit ?_ | refine blockP_miss rfl ?_) | (first | refine POps_s_a ?_ | refine POps_b_a ?_) | (first | refine POps_gn_a ?_ | refine POps_gs_a ?_ | refine POps_gb_a ?_) | (first | refine PW_cond_t_a ?_ | refine PW_cond_f_a ?_) | (first | refine POrd_s_a ?_ | refine POrd_b_a ?_) | (first | refine POrd_gn_a ?_ | refine POrd_s_b ?_ | refine POrd_b_b ?_))
  refine POps_max ((m : Int)) HM.out ?_
  repeat (first | (with_reducible first | refine PW_seq ?_ | refine PW_block ?_ | refine PW_region_lit ?_ | refine PW_skip ?_ | refine PW_exit ?_ | refine PW_ret ?_ | refine PW_label ?_ | refine POps_nil ?_ | refine POrd_nil ?_ | refine thenP_n ?_ | refine thenP_x ?_ | refine thenP_r ?_ | refine blockP_n ?_ | refine blockP_r ?_ | refine blockP_hit ?_ | refine blockP_miss rfl ?_) | (first | refine POps_s_a ?_ | refine POps_b_a ?_) | (first | refine POps_gn_a ?_ | refine POps_gs_a ?_ | refine POps_gb_a ?_) | (first | refine PW_cond_t_a ?_ | refine PW_cond_f_a ?_) | (first | refine POrd_s_a ?_ | refine POrd_b_a ?_) | (first | refine POrd_gn_a ?_ | refine POrd_s_b ?_ | refine POrd_b_b ?_))
  refine POps_sliceS 0 m ?_ (by decide) (by first | (simp [nev, nevA, nevB, evBuild, PF.eval, PF.get, PF.wants, cPV, cCell, PV.rows, evBin, evUn, evConv, evLen, loadA, loadB, TyK.agg, partA, St.box?, St.tok?, St.setBox, St.setTok, fillO, spl, PV.ps, PV.one, evalArgs, aggD, slD, encD_nd, encD_bd, encD_rw, encD_dc, encD_str, encD_int, *]; done) | fail) rfl (by simp [nev, nevA, nevB, evBuild, PF.eval, PF.get, PF.wants, cPV, cCell, PV.rows, evBin, evUn, evConv, evLen, loadA, loadB, TyK.agg, partA, St.box?, St.tok?, St.setBox, St.setTok, fillO, spl, PV.ps, PV.one, evalArgs, aggD, slD, encD_nd, encD_bd, encD_rw, encD_dc, encD_str, encD_int, *]; rfl) (by first | rfl | (simp [lowOf, PF.eval, PF.get, cPV, cCell, *]; done) | fail) (by first | rfl | (simp [highOf, PF.eval, PF.get, cPV, cCell, *]; done) | fail) (by first | omega | (simp; omega)) (by first | omega | (simp; omega))
  all_goals try omega
  repeat (first | (with_reducible first | refine PW_seq ?_ | refine PW_block ?_ | refine PW_region_lit ?_ | refine PW_skip ?_ | refine PW_exit ?_ | refine PW_ret ?_ | refine PW_label ?_ | refine POps_nil ?_ | refine POrd_nil ?_ | refine thenP_n ?_ | refine thenP_x ?_ | refine thenP_r ?_ | refine blockP_n ?_ | refine blockP_r ?_ | refine blockP_hit ?_ | refine blockP_miss rfl ?_) | (first | refine POps_s_a ?_ | refine POps_b_a ?_) | (first | refine POps_gn_a ?_ | refine POps_gs_a ?_ | refine POps_gb_a ?_) | (first | refine PW_cond_t_a ?_ | refine PW_cond_f_a ?_) | (first | refine POrd_s_a ?_ | refine POrd_b_a ?_) | (first | refine POrd_gn_a ?_ | refine POrd_s_b ?_ | refine POrd_b_b ?_))
  refine POps_ofStr ?_
  rw [hex]
  clear hex
  repeat (first | (with_reducible first | refine PW_seq ?_ | refine PW_block ?_ | refine PW_region_lit ?_ | refine PW_skip ?_ | refine PW_exit ?_ | refine PW_ret ?_ | refine PW_label ?_ | refine POps_nil ?_ | refine POrd_nil ?_ | refine thenP_n ?_ | refine thenP_x ?_ | refine thenP_r ?_ | refine blockP_n ?_ | refine blockP_r ?_ | refine blockP_hit ?_ | refine blockP_miss rfl ?_) | (first | refine POps_s_a ?_ | refine POps_b_a ?_) | (first | refine POps_gn_a ?_ | refine POps_gs_a ?_ | refine POps_gb_a ?_) | (first | refine PW_cond_t_a ?_ | refine PW_cond_f_a ?_) | (first | refine POrd_s_a ?_ | refine POrd_b_a ?_) | (first | refine POrd_gn_a ?_ | refine POrd_s_b ?_ | refine POrd_b_b ?_))
  refine PW_loop (ι := Nat) (fun k => k ≤ L.length) (fun k => [(18, .d (.sl (L.map byteD))), (19, .d (.v (.int .i64 L.length))), (20, .d (.v (.int .i64 k))), (6, .d (.v (.int .i64 (plc (L.take k)).1))), (7, .d (.v (.int .i64 (plc (L.take k)).2)))]) (fun _ => []) (fun k => L.length - k) 0 (Nat.zero_le _) ?_ ?_ ?_
  · repeat (first | exact sub_nil _ | refine sub_cons (by simp [PF.get]; rfl) (by first | rfl | (simp [*]; done) | fail) ?_)
  · repeat (first | exact List.Sublist.refl _ | exact List.nil_sublist _ | refine List.Sublist.cons_cons _ ?_ | refine List.Sublist.cons _ ?_)
  · intro k hk
    have HB := Lib.hid (plc_bd L k hk)
    by_cases h' : k < L.length
    · have hc : (k : Int) < (L.length : Int) := by omega
      have hn : (0 : Int) ≤ (k : Int) := by omega
      have hx := get_byte h'
      have hin := wrap_next h' (by omega)
      have hT := plc_take h'
      have hw1 : IntKind.i64.wrap ((plc (L.take k)).1 + 1) = (plc (L.take k)).1 + 1 := IntWalk.i64_in _ (by have := HB.out; omega)
      have hw2 : IntKind.i64.wrap ((plc (L.take k)).2 + 1) = (plc (L.take k)).2 + 1 := IntWalk.i64_in _ (by have := HB.out; omega)
      have HT := Lib.hid hT
      clear hT hl
      have hbd : byteD L[k] = [.v (.int .u8 L[k].toNat)] := rfl
      clear hx
      by_cases h10 : L[k].toNat = 10
      · have h10' : (L[k].toNat : Int) = 10 := by omega
        have HE := Lib.hid (show plc (L.take (k + 1)) = ((plc (L.take k)).1 + 1, 1) by rw [HT.out, if_pos h10])
        repeat (first | (with_reducible first | refine PW_seq ?_ | refine PW_block ?_ | refine PW_region_lit ?_ | refine PW_skip ?_ | refine PW_exit ?_ | refine PW_ret ?_ | refine PW_label ?_ | refine POps_nil ?_ | refine POrd_nil ?_ | refine thenP_n ?_ | refine thenP_x ?_ | refine thenP_r ?_ | refine blockP_n ?_ | refine blockP_r ?_ | refine blockP_hit ?_ | refine blockP_miss rfl ?_) | (first | refine POps_s_a ?_ | refine POps_b_a ?_) | (first | refine POps_gn_a ?_ | refine POps_gs_a ?_ | refine POps_gb_a ?_) | (first | refine PW_cond_t_a ?_ | refine PW_cond_f_a ?_) | (first | refine POrd_s_a ?_ | refine POrd_b_a ?_) | (first | refine POrd_gn_a ?_ | refine POrd_s_b ?_ | refine POrd_b_b ?_))
        refine ⟨k + 1, h', by omega, ?_, ?_⟩
        · repeat (first | exact sub_nil _ | refine sub_cons (by simp [PF.get]; rfl) (by first | rfl | (simp [HE.out, hin]; done) | fail) ?_)
        · repeat (first | exact List.Sublist.refl _ | exact List.nil_sublist _ | refine List.Sublist.cons_cons _ ?_ | refine List.Sublist.cons _ ?_)
      · have h10' : ¬ (L[k].toNat : Int) = 10 := by omega
        by_cases ha : L[k].toNat < 128
        · have ha' : (L[k].toNat : Int) < 128 := by omega
          have HE := Lib.hid (show plc (L.take (k + 1)) = ((plc (L.take k)).1, (plc (L.take k)).2 + 1) by rw [HT.out, if_neg h10, if_pos (.inl ha)])
          repeat (first | (with_reducible first | refine PW_seq ?_ | refine PW_block ?_ | refine PW_region_lit ?_ | refine PW_skip ?_ | refine PW_exit ?_ | refine PW_ret ?_ | refine PW_label ?_ | refine POps_nil ?_ | refine POrd_nil ?_ | refine thenP_n ?_ | refine thenP_x ?_ | refine thenP_r ?_ | refine blockP_n ?_ | refine blockP_r ?_ | refine blockP_hit ?_ | refine blockP_miss rfl ?_) | (first | refine POps_s_a ?_ | refine POps_b_a ?_) | (first | refine POps_gn_a ?_ | refine POps_gs_a ?_ | refine POps_gb_a ?_) | (first | refine PW_cond_t_a ?_ | refine PW_cond_f_a ?_) | (first | refine POrd_s_a ?_ | refine POrd_b_a ?_) | (first | refine POrd_gn_a ?_ | refine POrd_s_b ?_ | refine POrd_b_b ?_))
          refine ⟨k + 1, h', by omega, ?_, ?_⟩
          · repeat (first | exact sub_nil _ | refine sub_cons (by simp [PF.get]; rfl) (by first | rfl | (simp [HE.out, hin]; done) | fail) ?_)
          · repeat (first | exact List.Sublist.refl _ | exact List.nil_sublist _ | refine List.Sublist.cons_cons _ ?_ | refine List.Sublist.cons _ ?_)
        · have ha' : ¬ (L[k].toNat : Int) < 128 := by omega
          by_cases hb : 192 ≤ L[k].toNat
          · have hb' : (192 : Int) ≤ (L[k].toNat : Int) := by omega
            have HE := Lib.hid (show plc (L.take (k + 1)) = ((plc (L.take k)).1, (plc (L.take k)).2 + 1) by rw [HT.out, if_neg h10, if_pos (.inr hb)])
            repeat (first | (with_reducible first | refine PW_seq ?_ | refine PW_block ?_ | refine PW_region_lit ?_ | refine PW_skip ?_ | refine PW_exit ?_ | refine PW_ret ?_ | refine PW_label ?_ | refine POps_nil ?_ | refine POrd_nil ?_ | refine thenP_n ?_ | refine thenP_x ?_ | refine thenP_r ?_ | refine blockP_n ?_ | refine blockP_r ?_ | refine blockP_hit ?_ | refine blockP_miss rfl ?_) | (first | refine POps_s_a ?_ | refine POps_b_a ?_) | (first | refine POps_gn_a ?_ | refine POps_gs_a ?_ | refine POps_gb_a ?_) | (first | refine PW_cond_t_a ?_ | refine PW_cond_f_a ?_) | (first | refine POrd_s_a ?_ | refine POrd_b_a ?_) | (first | refine POrd_gn_a ?_ | refine POrd_s_b ?_ | refine POrd_b_b ?_))
            refine ⟨k + 1, h', by omega, ?_, ?_⟩
            · repeat (first | exact sub_nil _ | refine sub_cons (by simp [PF.get]; rfl) (by first | rfl | (simp [HE.out, hin]; done) | fail) ?_)
            · repeat (first | exact List.Sublist.refl _ | exact List.nil_sublist _ | refine List.Sublist.cons_cons _ ?_ | refine List.Sublist.cons _ ?_)
          · have hb' : ¬ (192 : Int) ≤ (L[k].toNat : Int) := by omega
            have HE := Lib.hid (show plc (L.take (k + 1)) = plc (L.take k) by rw [HT.out, if_neg h10, if_neg (by omega)])
            repeat (first | (with_reducible first | refine PW_seq ?_ | refine PW_block ?_ | refine PW_region_lit ?_ | refine PW_skip ?_ | refine PW_exit ?_ | refine PW_ret ?_ | refine PW_label ?_ | refine POps_nil ?_ | refine POrd_nil ?_ | refine thenP_n ?_ | refine thenP_x ?_ | refine thenP_r ?_ | refine blockP_n ?_ | refine blockP_r ?_ | refine blockP_hit ?_ | refine blockP_miss rfl ?_) | (first | refine POps_s_a ?_ | refine POps_b_a ?_) | (first | refine POps_gn_a ?_ | refine POps_gs_a ?_ | refine POps_gb_a ?_) | (first | refine PW_cond_t_a ?_ | refine PW_cond_f_a ?_) | (first | refine POrd_s_a ?_ | refine POrd_b_a ?_) | (first | refine POrd_gn_a ?_ | refine POrd_s_b ?_ | refine POrd_b_b ?_))
            refine ⟨k + 1, h', by omega, ?_, ?_⟩
            · repeat (first | exact sub_nil _ | refine sub_cons (by simp [PF.get]; rfl) (by first | rfl | (simp [HE.out, hin]; done) | fail) ?_)
            · repeat (first | exact List.Sublist.refl _ | exact List.nil_sublist _ | refine List.Sublist.cons_cons _ ?_ | refine List.Sublist.cons _ ?_)
    · obtain rfl : k = L.length := by omega
      have hc : ¬ ((L.length : Int) < (L.length : Int)) := by omega
      repeat (first | (with_reducible first | refine PW_seq ?_ | refine PW_block ?_ | refine PW_region_lit ?_ | refine PW_skip ?_ | refine PW_exit ?_ | refine PW_ret ?_ | refine PW_label ?_ | refine POps_nil ?_ | refine POrd_nil ?_ | refine thenP_n ?_ | refine thenP_x ?_ | refine thenP_r ?_ | refine blockP_n ?_ | refine blockP_r ?_ | refine blockP_hit ?_ | refine blockP_miss rfl ?_) | (first | refine POps_s_a ?_ | refine POps_b_a ?_) | (first | refine POps_gn_a ?_ | refine POps_gs_a ?_ | refine POps_gb_a ?_) | (first | refine PW_cond_t_a ?_ | refine PW_cond_f_a ?_) | (first | refine POrd_s_a ?_ | refine POrd_b_a ?_) | (first | refine POrd_gn_a ?_ | refine POrd_s_b ?_ | refine POrd_b_b ?_))
      refine retP_ok (by simp) (by simp only [Try.results11]; rfl) (by simp [resP, St.box?, PF.get, loadB, TyK.agg, *]; rfl) (List.nil_sublist _) ?_
      refine ⟨?_, rfl⟩
      rw [HP.out, List.take_of_length_le (by omega)]
      rfl
set_option maxHeartbeats 4000000 in
theorem rplace_p (s : ByteArray) (at_ : Int) (hs : s.size ≤ 100000) (h1 : -9223372036854775808 ≤ at_) (h2 : at_ ≤ 9223372036854775807) : PCalls Try.prog 12 [.d (.v (.string s)), .d (.v (.int .i64 at_))] [] fun p st => p = .tup [.d (.v (.int .i64 (plcAt s at_).1)), .d (.v (.int .i64 (plcAt s at_).2))] ∧ st = [] := by
  refine PCalls.enter Try.func12 rfl Try.ntmps12 (by simp) ?_
  simp only [argsF]
  repeat (first | (with_reducible first | refine PW_seq ?_ | refine PW_block ?_ | refine PW_region_lit ?_ | refine PW_skip ?_ | refine PW_exit ?_ | refine PW_ret ?_ | refine PW_label ?_ | refine POps_nil ?_ | refine POrd_nil ?_ | refine thenP_n ?_ | refine thenP_x ?_ | refine thenP_r ?_ | refine blockP_n ?_ | refine blockP_r ?_ | refine blockP_hit ?_ | refine blockP_miss rfl ?_) | (first | refine POps_s_a ?_ | refine POps_b_a ?_) | (first | refine POps_gn_a ?_ | refine POps_gs_a ?_ | refine POps_gb_a ?_) | (first | refine PW_cond_t_a ?_ | refine PW_cond_f_a ?_) | (first | refine POrd_s_a ?_ | refine POrd_b_a ?_) | (first | refine POrd_gn_a ?_ | refine POrd_s_b ?_ | refine POrd_b_b ?_))
  refine PW_loop (ι := Nat) (fun k => k ≤ s.toList.length ∧ ((k : Int) ≤ at_ ∨ k = 0)) (fun k => [(0, .d (.v (.string s))), (1, .d (.v (.int .i64 at_))), (6, .d (.v (.int .i64 (plc (s.toList.take k)).1))), (7, .d (.v (.int .i64 (plc (s.toList.take k)).2))), (8, .d (.v (.int .i64 k)))]) (fun _ => []) (fun k => s.toList.length - k) 0 ⟨Nat.zero_le _, .inr rfl⟩ ?_ ?_ ?_
  · repeat (first | exact sub_nil _ | refine sub_cons (by simp [PF.get]; rfl) (by first | rfl | (simp [*]; done) | fail) ?_)
  · repeat (first | exact List.Sublist.refl _ | exact List.nil_sublist _ | refine List.Sublist.cons_cons _ ?_ | refine List.Sublist.cons _ ?_)
  · rintro k ⟨hk, ha⟩
    have hz := size_toList s
    have HZ := Lib.hid hz
    have HB := Lib.hid (plc_bd s.toList k hk)
    by_cases h : (k : Int) < at_
    · by_cases h' : k < s.toList.length
      · have hc : (k : Int) < (s.size : Int) := by omega
        have hn : (0 : Int) ≤ (k : Int) := by omega
        have hx : s[k]? = some s.toList[k] := by
          have h3 : k < s.size := by omega
          rw [← get_toList s k h' h3]
          exact getElem?_pos s k h3
        have hin := wrap_next h' (by omega)
        have hT := plc_take h'
        have hw1 : IntKind.i64.wrap ((plc (s.toList.take k)).1 + 1) = (plc (s.toList.take k)).1 + 1 := IntWalk.i64_in _ (by have := HB.out; omega)
        have hw2 : IntKind.i64.wrap ((plc (s.toList.take k)).2 + 1) = (plc (s.toList.take k)).2 + 1 := IntWalk.i64_in _ (by have := HB.out; omega)
        have HT := Lib.hid hT
        clear hT hz
        generalize hcc : s.toList[k] = c at *
        clear hcc
        by_cases h10 : c.toNat = 10
        · have h10' : (c.toNat : Int) = 10 := by omega
          have HE := Lib.hid (show plc (s.toList.take (k + 1)) = ((plc (s.toList.take k)).1 + 1, 1) by rw [HT.out, if_pos h10])
          repeat (first | (with_reducible first | refine PW_seq ?_ | refine PW_block ?_ | refine PW_region_lit ?_ | refine PW_skip ?_ | refine PW_exit ?_ | refine PW_ret ?_ | refine PW_label ?_ | refine POps_nil ?_ | refine POrd_nil ?_ | refine thenP_n ?_ | refine thenP_x ?_ | refine thenP_r ?_ | refine blockP_n ?_ | refine blockP_r ?_ | refine blockP_hit ?_ | refine blockP_miss rfl ?_) | (first | refine POps_s_a ?_ | refine POps_b_a ?_) | (first | refine POps_gn_a ?_ | refine POps_gs_a ?_ | refine POps_gb_a ?_) | (first | refine PW_cond_t_a ?_ | refine PW_cond_f_a ?_) | (first | refine POrd_s_a ?_ | refine POrd_b_a ?_) | (first | refine POrd_gn_a ?_ | refine POrd_s_b ?_ | refine POrd_b_b ?_))
          refine ⟨k + 1, ⟨h', .inl (by omega)⟩, by omega, ?_, ?_⟩
          · repeat (first | exact sub_nil _ | refine sub_cons (by simp [PF.get]; rfl) (by first | rfl | (simp [HE.out, hin]; done) | fail) ?_)
          · repeat (first | exact List.Sublist.refl _ | exact List.nil_sublist _ | refine List.Sublist.cons_cons _ ?_ | refine List.Sublist.cons _ ?_)
        · have h10' : ¬ (c.toNat : Int) = 10 := by omega
          by_cases ha : c.toNat < 128
          · have ha' : (c.toNat : Int) < 128 := by omega
            have HE := Lib.hid (show plc (s.toList.take (k + 1)) = ((plc (s.toList.take k)).1, (plc (s.toList.take k)).2 + 1) by rw [HT.out, if_neg h10, if_pos (.inl ha)])
            repeat (first | (with_reducible first | refine PW_seq ?_ | refine PW_block ?_ | refine PW_region_lit ?_ | refine PW_skip ?_ | refine PW_exit ?_ | refine PW_ret ?_ | refine PW_label ?_ | refine POps_nil ?_ | refine POrd_nil ?_ | refine thenP_n ?_ | refine thenP_x ?_ | refine thenP_r ?_ | refine blockP_n ?_ | refine blockP_r ?_ | refine blockP_hit ?_ | refine blockP_miss rfl ?_) | (first | refine POps_s_a ?_ | refine POps_b_a ?_) | (first | refine POps_gn_a ?_ | refine POps_gs_a ?_ | refine POps_gb_a ?_) | (first | refine PW_cond_t_a ?_ | refine PW_cond_f_a ?_) | (first | refine POrd_s_a ?_ | refine POrd_b_a ?_) | (first | refine POrd_gn_a ?_ | refine POrd_s_b ?_ | refine POrd_b_b ?_))
            refine ⟨k + 1, ⟨h', .inl (by omega)⟩, by omega, ?_, ?_⟩
            · repeat (first | exact sub_nil _ | refine sub_cons (by simp [PF.get]; rfl) (by first | rfl | (simp [HE.out, hin]; done) | fail) ?_)
            · repeat (first | exact List.Sublist.refl _ | exact List.nil_sublist _ | refine List.Sublist.cons_cons _ ?_ | refine List.Sublist.cons _ ?_)
          · have ha' : ¬ (c.toNat : Int) < 128 := by omega
            by_cases hb : 192 ≤ c.toNat
            · have hb' : (191 : Int) < (c.toNat : Int) := by omega
              have HE := Lib.hid (show plc (s.toList.take (k + 1)) = ((plc (s.toList.take k)).1, (plc (s.toList.take k)).2 + 1) by rw [HT.out, if_neg h10, if_pos (.inr hb)])
              repeat (first | (with_reducible first | refine PW_seq ?_ | refine PW_block ?_ | refine PW_region_lit ?_ | refine PW_skip ?_ | refine PW_exit ?_ | refine PW_ret ?_ | refine PW_label ?_ | refine POps_nil ?_ | refine POrd_nil ?_ | refine thenP_n ?_ | refine thenP_x ?_ | refine thenP_r ?_ | refine blockP_n ?_ | refine blockP_r ?_ | refine blockP_hit ?_ | refine blockP_miss rfl ?_) | (first | refine POps_s_a ?_ | refine POps_b_a ?_) | (first | refine POps_gn_a ?_ | refine POps_gs_a ?_ | refine POps_gb_a ?_) | (first | refine PW_cond_t_a ?_ | refine PW_cond_f_a ?_) | (first | refine POrd_s_a ?_ | refine POrd_b_a ?_) | (first | refine POrd_gn_a ?_ | refine POrd_s_b ?_ | refine POrd_b_b ?_))
              refine ⟨k + 1, ⟨h', .inl (by omega)⟩, by omega, ?_, ?_⟩
              · repeat (first | exact sub_nil _ | refine sub_cons (by simp [PF.get]; rfl) (by first | rfl | (simp [HE.out, hin]; done) | fail) ?_)
              · repeat (first | exact List.Sublist.refl _ | exact List.nil_sublist _ | refine List.Sublist.cons_cons _ ?_ | refine List.Sublist.cons _ ?_)
            · have hb' : ¬ (191 : Int) < (c.toNat : Int) := by omega
              have HE := Lib.hid (show plc (s.toList.take (k + 1)) = plc (s.toList.take k) by rw [HT.out, if_neg h10, if_neg (by omega)])
              repeat (first | (with_reducible first | refine PW_seq ?_ | refine PW_block ?_ | refine PW_region_lit ?_ | refine PW_skip ?_ | refine PW_exit ?_ | refine PW_ret ?_ | refine PW_label ?_ | refine POps_nil ?_ | refine POrd_nil ?_ | refine thenP_n ?_ | refine thenP_x ?_ | refine thenP_r ?_ | refine blockP_n ?_ | refine blockP_r ?_ | refine blockP_hit ?_ | refine blockP_miss rfl ?_) | (first | refine POps_s_a ?_ | refine POps_b_a ?_) | (first | refine POps_gn_a ?_ | refine POps_gs_a ?_ | refine POps_gb_a ?_) | (first | refine PW_cond_t_a ?_ | refine PW_cond_f_a ?_) | (first | refine POrd_s_a ?_ | refine POrd_b_a ?_) | (first | refine POrd_gn_a ?_ | refine POrd_s_b ?_ | refine POrd_b_b ?_))
              refine ⟨k + 1, ⟨h', .inl (by omega)⟩, by omega, ?_, ?_⟩
              · repeat (first | exact sub_nil _ | refine sub_cons (by simp [PF.get]; rfl) (by first | rfl | (simp [HE.out, hin]; done) | fail) ?_)
              · repeat (first | exact List.Sublist.refl _ | exact List.nil_sublist _ | refine List.Sublist.cons_cons _ ?_ | refine List.Sublist.cons _ ?_)
      · have hc : ¬ ((k : Int) < (s.size : Int)) := by omega
        have HE := Lib.hid (show plcAt s at_ = plc (s.toList.take k) by
          unfold plcAt
          rw [List.take_of_length_le (by omega), List.take_of_length_le (by omega)])
        clear hz
        repeat (first | (with_reducible first | refine PW_seq ?_ | refine PW_block ?_ | refine PW_region_lit ?_ | refine PW_skip ?_ | refine PW_exit ?_ | refine PW_ret ?_ | refine PW_label ?_ | refine POps_nil ?_ | refine POrd_nil ?_ | refine thenP_n ?_ | refine thenP_x ?_ | refine thenP_r ?_ | refine blockP_n ?_ | refine blockP_r ?_ | refine blockP_hit ?_ | refine blockP_miss rfl ?_) | (first | refine POps_s_a ?_ | refine POps_b_a ?_) | (first | refine POps_gn_a ?_ | refine POps_gs_a ?_ | refine POps_gb_a ?_) | (first | refine PW_cond_t_a ?_ | refine PW_cond_f_a ?_) | (first | refine POrd_s_a ?_ | refine POrd_b_a ?_) | (first | refine POrd_gn_a ?_ | refine POrd_s_b ?_ | refine POrd_b_b ?_))
        refine retP_ok (by simp) (by simp only [Try.results12]; rfl) (by simp [resP, St.box?, PF.get, loadB, TyK.agg, *]; rfl) (List.nil_sublist _) ?_
        exact ⟨by rw [HE.out]; rfl, rfl⟩
    · have HE := Lib.hid (show plcAt s at_ = plc (s.toList.take k) by
        unfold plcAt
        rw [show at_.toNat = k by omega])
      clear hz
      repeat (first | (with_reducible first | refine PW_seq ?_ | refine PW_block ?_ | refine PW_region_lit ?_ | refine PW_skip ?_ | refine PW_exit ?_ | refine PW_ret ?_ | refine PW_label ?_ | refine POps_nil ?_ | refine POrd_nil ?_ | refine thenP_n ?_ | refine thenP_x ?_ | refine thenP_r ?_ | refine blockP_n ?_ | refine blockP_r ?_ | refine blockP_hit ?_ | refine blockP_miss rfl ?_) | (first | refine POps_s_a ?_ | refine POps_b_a ?_) | (first | refine POps_gn_a ?_ | refine POps_gs_a ?_ | refine POps_gb_a ?_) | (first | refine PW_cond_t_a ?_ | refine PW_cond_f_a ?_) | (first | refine POrd_s_a ?_ | refine POrd_b_a ?_) | (first | refine POrd_gn_a ?_ | refine POrd_s_b ?_ | refine POrd_b_b ?_))
      refine retP_ok (by simp) (by simp only [Try.results12]; rfl) (by simp [resP, St.box?, PF.get, loadB, TyK.agg, *]; rfl) (List.nil_sublist _) ?_
      exact ⟨by rw [HE.out]; rfl, rfl⟩
end Go.Proofs.Ytahhgpafjiljfaa

namespace Go.Proofs.Ytahhgpafjiljfaa
open Go.RowKit
set_option maxRecDepth 100000
def awT : ByteArray := ⟨#[206, 187, 32, 40, 120, 32, 58, 32, 65, 41, 32, 45, 62, 32, 120]⟩
theorem awT_toks : (tokA awT).2.2 = 0 ∧ (tokA awT).1.map (fun t => (t.kind, t.text)) = [(4, ⟨#[92]⟩), (4, ⟨#[40]⟩), (1, ⟨#[120]⟩), (4, ⟨#[58]⟩), (1, ⟨#[65]⟩), (4, ⟨#[41]⟩), (4, ⟨#[45, 62]⟩), (1, ⟨#[120]⟩), (5, ⟨#[]⟩)] := by
  constructor
  · decide +kernel
  · decide +kernel
theorem aw_list {l : List Tk} {f : List (Int × ByteArray)} (h : l.map (fun t => (t.kind, t.text)) = f) : ∃ a : List Int, a.length = f.length ∧ l.map encD = (f.zip a).map fun x => [D.v (.int .i64 x.1.1), .v (.string x.1.2), .v (.int .i64 x.2)] := by
  subst h
  refine ⟨l.map Tk.at_, by simp, ?_⟩
  induction l with
  | nil => rfl
  | cons t l ih => simp only [List.map_cons, List.zip_cons_cons, ← ih]; rfl
theorem awake3_p : PCalls Try.prog 10 [] [] fun p st => p = .d (.v (.bool true)) ∧ st = [] := by
  obtain ⟨h1, h2⟩ := awT_toks
  obtain ⟨a, ha, hl⟩ := aw_list h2
  obtain ⟨a0, a1, a2, a3, a4, a5, a6, a7, a8, rfl⟩ : ∃ a0 a1 a2 a3 a4 a5 a6 a7 a8, a = [a0, a1, a2, a3, a4, a5, a6, a7, a8] := by
    match a, ha with
    | [a0, a1, a2, a3, a4, a5, a6, a7, a8], _ => exact ⟨a0, a1, a2, a3, a4, a5, a6, a7, a8, rfl⟩
  simp only [List.zip_cons_cons, List.zip_nil_right, List.map_cons, List.map_nil] at hl
  have HT := tall_p awT
  unfold tokP at HT
  rw [hl, h1] at HT
  have H0 := Lib.hid HT
  clear HT hl h1 h2 ha
  unfold awT at H0
  refine PCalls.enter Try.func10 rfl Try.ntmps10 (by simp) ?_
  simp only [argsF]
  repeat (first | (with_reducible first | refine PW_seq ?_ | refine PW_block ?_ | refine PW_region_lit ?_ | refine PW_skip ?_ | refine PW_exit ?_ | refine PW_ret ?_ | refine PW_label ?_ | refine POps_nil ?_ | refine POrd_nil ?_ | refine thenP_n ?_ | refine thenP_x ?_ | refine thenP_r ?_ | refine blockP_n ?_ | refine blockP_r ?_ | refine blockP_hit ?_ | refine blockP_miss rfl ?_) | (first | refine POps_s_a ?_ | refine POps_b_a ?_) | (first | refine POps_gn_a ?_ | refine POps_gs_a ?_ | refine POps_gb_a ?_) | (first | refine PW_cond_t_a ?_ | refine PW_cond_f_a ?_) | (first | refine POrd_s_a ?_ | refine POrd_b_a ?_) | (first | refine POrd_gn_a ?_ | refine POrd_s_b ?_ | refine POrd_b_b ?_))
  refine POps_call_a (H0.out) ?_
  repeat (first | (with_reducible first | refine PW_seq ?_ | refine PW_block ?_ | refine PW_region_lit ?_ | refine PW_skip ?_ | refine PW_exit ?_ | refine PW_ret ?_ | refine PW_label ?_ | refine POps_nil ?_ | refine POrd_nil ?_ | refine thenP_n ?_ | refine thenP_x ?_ | refine thenP_r ?_ | refine blockP_n ?_ | refine blockP_r ?_ | refine blockP_hit ?_ | refine blockP_miss rfl ?_) | (first | refine POps_s_a ?_ | refine POps_b_a ?_) | (first | refine POps_gn_a ?_ | refine POps_gs_a ?_ | refine POps_gb_a ?_) | (first | refine PW_cond_t_a ?_ | refine PW_cond_f_a ?_) | (first | refine POrd_s_a ?_ | refine POrd_b_a ?_) | (first | refine POrd_gn_a ?_ | refine POrd_s_b ?_ | refine POrd_b_b ?_))
  refine retP_ok (by simp) (by simp only [Try.results10]; rfl) (by simp [resP, St.box?, PF.get, loadB, TyK.agg, *]; rfl) (List.nil_sublist _) ?_
  exact ⟨rfl, rfl⟩
theorem tokenNumbers_p (s : ByteArray) : PCalls Try.prog 3 [.d (.v (.string s))] [] fun p st => p = .d (.v (.bool true)) ∧ st = [] := by
  refine PCalls.enter Try.func3 rfl Try.ntmps3 (by simp) ?_
  simp only [argsF]
  repeat (first | (with_reducible first | refine PW_seq ?_ | refine PW_block ?_ | refine PW_region_lit ?_ | refine PW_skip ?_ | refine PW_exit ?_ | refine PW_ret ?_ | refine PW_label ?_ | refine POps_nil ?_ | refine POrd_nil ?_ | refine thenP_n ?_ | refine thenP_x ?_ | refine thenP_r ?_ | refine blockP_n ?_ | refine blockP_r ?_ | refine blockP_hit ?_ | refine blockP_miss rfl ?_) | (first | refine POps_s_a ?_ | refine POps_b_a ?_) | (first | refine POps_gn_a ?_ | refine POps_gs_a ?_ | refine POps_gb_a ?_) | (first | refine PW_cond_t_a ?_ | refine PW_cond_f_a ?_) | (first | refine POrd_s_a ?_ | refine POrd_b_a ?_) | (first | refine POrd_gn_a ?_ | refine POrd_s_b ?_ | refine POrd_b_b ?_))
  refine POps_call_a (number_p s) ?_
  repeat (first | (with_reducible first | refine PW_seq ?_ | refine PW_block ?_ | refine PW_region_lit ?_ | refine PW_skip ?_ | refine PW_exit ?_ | refine PW_ret ?_ | refine PW_label ?_ | refine POps_nil ?_ | refine POrd_nil ?_ | refine thenP_n ?_ | refine thenP_x ?_ | refine thenP_r ?_ | refine blockP_n ?_ | refine blockP_r ?_ | refine blockP_hit ?_ | refine blockP_miss rfl ?_) | (first | refine POps_s_a ?_ | refine POps_b_a ?_) | (first | refine POps_gn_a ?_ | refine POps_gs_a ?_ | refine POps_gb_a ?_) | (first | refine PW_cond_t_a ?_ | refine PW_cond_f_a ?_) | (first | refine POrd_s_a ?_ | refine POrd_b_a ?_) | (first | refine POrd_gn_a ?_ | refine POrd_s_b ?_ | refine POrd_b_b ?_))
  refine POps_call_a (rnumber_p s) ?_
  repeat (first | (with_reducible first | refine PW_seq ?_ | refine PW_block ?_ | refine PW_region_lit ?_ | refine PW_skip ?_ | refine PW_exit ?_ | refine PW_ret ?_ | refine PW_label ?_ | refine POps_nil ?_ | refine POrd_nil ?_ | refine thenP_n ?_ | refine thenP_x ?_ | refine thenP_r ?_ | refine blockP_n ?_ | refine blockP_r ?_ | refine blockP_hit ?_ | refine blockP_miss rfl ?_) | (first | refine POps_s_a ?_ | refine POps_b_a ?_) | (first | refine POps_gn_a ?_ | refine POps_gs_a ?_ | refine POps_gb_a ?_) | (first | refine PW_cond_t_a ?_ | refine PW_cond_f_a ?_) | (first | refine POrd_s_a ?_ | refine POrd_b_a ?_) | (first | refine POrd_gn_a ?_ | refine POrd_s_b ?_ | refine POrd_b_b ?_))
  refine POps_call_b (awake3_p) ?_
  repeat (first | (with_reducible first | refine PW_seq ?_ | refine PW_block ?_ | refine PW_region_lit ?_ | refine PW_skip ?_ | refine PW_exit ?_ | refine PW_ret ?_ | refine PW_label ?_ | refine POps_nil ?_ | refine POrd_nil ?_ | refine thenP_n ?_ | refine thenP_x ?_ | refine thenP_r ?_ | refine blockP_n ?_ | refine blockP_r ?_ | refine blockP_hit ?_ | refine blockP_miss rfl ?_) | (first | refine POps_s_a ?_ | refine POps_b_a ?_) | (first | refine POps_gn_a ?_ | refine POps_gs_a ?_ | refine POps_gb_a ?_) | (first | refine PW_cond_t_a ?_ | refine PW_cond_f_a ?_) | (first | refine POrd_s_a ?_ | refine POrd_b_a ?_) | (first | refine POrd_gn_a ?_ | refine POrd_s_b ?_ | refine POrd_b_b ?_))
  refine retP_ok (by simp) (by simp only [Try.results3]; rfl) (by simp [resP, St.box?, PF.get, loadB, TyK.agg, *]; rfl) (List.nil_sublist _) ?_
  exact ⟨rfl, rfl⟩
theorem tokenPlaces_p (s : ByteArray) (at_ : Int) (h1 : -9223372036854775808 ≤ at_) (h2 : at_ ≤ 9223372036854775807) : PCalls Try.prog 4 [.d (.v (.string s)), .d (.v (.int .i64 at_))] [] fun p st => p = .d (.v (.bool true)) ∧ st = [] := by
  refine PCalls.enter Try.func4 rfl Try.ntmps4 (by simp) ?_
  simp only [argsF]
  repeat (first | (with_reducible first | refine PW_seq ?_ | refine PW_block ?_ | refine PW_region_lit ?_ | refine PW_skip ?_ | refine PW_exit ?_ | refine PW_ret ?_ | refine PW_label ?_ | refine POps_nil ?_ | refine POrd_nil ?_ | refine thenP_n ?_ | refine thenP_x ?_ | refine thenP_r ?_ | refine blockP_n ?_ | refine blockP_r ?_ | refine blockP_hit ?_ | refine blockP_miss rfl ?_) | (first | refine POps_s_a ?_ | refine POps_b_a ?_) | (first | refine POps_gn_a ?_ | refine POps_gs_a ?_ | refine POps_gb_a ?_) | (first | refine PW_cond_t_a ?_ | refine PW_cond_f_a ?_) | (first | refine POrd_s_a ?_ | refine POrd_b_a ?_) | (first | refine POrd_gn_a ?_ | refine POrd_s_b ?_ | refine POrd_b_b ?_))
  by_cases h : (70000 : Int) < (s.size : Int)
  · repeat (first | (with_reducible first | refine PW_seq ?_ | refine PW_block ?_ | refine PW_region_lit ?_ | refine PW_skip ?_ | refine PW_exit ?_ | refine PW_ret ?_ | refine PW_label ?_ | refine POps_nil ?_ | refine POrd_nil ?_ | refine thenP_n ?_ | refine thenP_x ?_ | refine thenP_r ?_ | refine blockP_n ?_ | refine blockP_r ?_ | refine blockP_hit ?_ | refine blockP_miss rfl ?_) | (first | refine POps_s_a ?_ | refine POps_b_a ?_) | (first | refine POps_gn_a ?_ | refine POps_gs_a ?_ | refine POps_gb_a ?_) | (first | refine PW_cond_t_a ?_ | refine PW_cond_f_a ?_) | (first | refine POrd_s_a ?_ | refine POrd_b_a ?_) | (first | refine POrd_gn_a ?_ | refine POrd_s_b ?_ | refine POrd_b_b ?_))
    refine POps_call_a (awake3_p) ?_
    repeat (first | (with_reducible first | refine PW_seq ?_ | refine PW_block ?_ | refine PW_region_lit ?_ | refine PW_skip ?_ | refine PW_exit ?_ | refine PW_ret ?_ | refine PW_label ?_ | refine POps_nil ?_ | refine POrd_nil ?_ | refine thenP_n ?_ | refine thenP_x ?_ | refine thenP_r ?_ | refine blockP_n ?_ | refine blockP_r ?_ | refine blockP_hit ?_ | refine blockP_miss rfl ?_) | (first | refine POps_s_a ?_ | refine POps_b_a ?_) | (first | refine POps_gn_a ?_ | refine POps_gs_a ?_ | refine POps_gb_a ?_) | (first | refine PW_cond_t_a ?_ | refine PW_cond_f_a ?_) | (first | refine POrd_s_a ?_ | refine POrd_b_a ?_) | (first | refine POrd_gn_a ?_ | refine POrd_s_b ?_ | refine POrd_b_b ?_))
    refine retP_ok (by simp) (by simp only [Try.results4]; rfl) (by simp [resP, St.box?, PF.get, loadB, TyK.agg, *]; rfl) (List.nil_sublist _) ?_
    exact ⟨rfl, rfl⟩
  · have H1 := Lib.hid (place_p s at_ (by omega) h1 h2)
    have H2 := Lib.hid (rplace_p s at_ (by omega) h1 h2)
    repeat (first | (with_reducible first | refine PW_seq ?_ | refine PW_block ?_ | refine PW_region_lit ?_ | refine PW_skip ?_ | refine PW_exit ?_ | refine PW_ret ?_ | refine PW_label ?_ | refine POps_nil ?_ | refine POrd_nil ?_ | refine thenP_n ?_ | refine thenP_x ?_ | refine thenP_r ?_ | refine blockP_n ?_ | refine blockP_r ?_ | refine blockP_hit ?_ | refine blockP_miss rfl ?_) | (first | refine POps_s_a ?_ | refine POps_b_a ?_) | (first | refine POps_gn_a ?_ | refine POps_gs_a ?_ | refine POps_gb_a ?_) | (first | refine PW_cond_t_a ?_ | refine PW_cond_f_a ?_) | (first | refine POrd_s_a ?_ | refine POrd_b_a ?_) | (first | refine POrd_gn_a ?_ | refine POrd_s_b ?_ | refine POrd_b_b ?_))
    refine POps_call_a (H1.out) ?_
    repeat (first | (with_reducible first | refine PW_seq ?_ | refine PW_block ?_ | refine PW_region_lit ?_ | refine PW_skip ?_ | refine PW_exit ?_ | refine PW_ret ?_ | refine PW_label ?_ | refine POps_nil ?_ | refine POrd_nil ?_ | refine thenP_n ?_ | refine thenP_x ?_ | refine thenP_r ?_ | refine blockP_n ?_ | refine blockP_r ?_ | refine blockP_hit ?_ | refine blockP_miss rfl ?_) | (first | refine POps_s_a ?_ | refine POps_b_a ?_) | (first | refine POps_gn_a ?_ | refine POps_gs_a ?_ | refine POps_gb_a ?_) | (first | refine PW_cond_t_a ?_ | refine PW_cond_f_a ?_) | (first | refine POrd_s_a ?_ | refine POrd_b_a ?_) | (first | refine POrd_gn_a ?_ | refine POrd_s_b ?_ | refine POrd_b_b ?_))
    refine POps_call_a (H2.out) ?_
    repeat (first | (with_reducible first | refine PW_seq ?_ | refine PW_block ?_ | refine PW_region_lit ?_ | refine PW_skip ?_ | refine PW_exit ?_ | refine PW_ret ?_ | refine PW_label ?_ | refine POps_nil ?_ | refine POrd_nil ?_ | refine thenP_n ?_ | refine thenP_x ?_ | refine thenP_r ?_ | refine blockP_n ?_ | refine blockP_r ?_ | refine blockP_hit ?_ | refine blockP_miss rfl ?_) | (first | refine POps_s_a ?_ | refine POps_b_a ?_) | (first | refine POps_gn_a ?_ | refine POps_gs_a ?_ | refine POps_gb_a ?_) | (first | refine PW_cond_t_a ?_ | refine PW_cond_f_a ?_) | (first | refine POrd_s_a ?_ | refine POrd_b_a ?_) | (first | refine POrd_gn_a ?_ | refine POrd_s_b ?_ | refine POrd_b_b ?_))
    refine POps_call_b (awake3_p) ?_
    repeat (first | (with_reducible first | refine PW_seq ?_ | refine PW_block ?_ | refine PW_region_lit ?_ | refine PW_skip ?_ | refine PW_exit ?_ | refine PW_ret ?_ | refine PW_label ?_ | refine POps_nil ?_ | refine POrd_nil ?_ | refine thenP_n ?_ | refine thenP_x ?_ | refine thenP_r ?_ | refine blockP_n ?_ | refine blockP_r ?_ | refine blockP_hit ?_ | refine blockP_miss rfl ?_) | (first | refine POps_s_a ?_ | refine POps_b_a ?_) | (first | refine POps_gn_a ?_ | refine POps_gs_a ?_ | refine POps_gb_a ?_) | (first | refine PW_cond_t_a ?_ | refine PW_cond_f_a ?_) | (first | refine POrd_s_a ?_ | refine POrd_b_a ?_) | (first | refine POrd_gn_a ?_ | refine POrd_s_b ?_ | refine POrd_b_b ?_))
    refine retP_ok (by simp) (by simp only [Try.results4]; rfl) (by simp [resP, St.box?, PF.get, loadB, TyK.agg, *]; rfl) (List.nil_sublist _) ?_
    exact ⟨rfl, rfl⟩
theorem tokenNumbers_walk (s : ByteArray) (hs : s.size ≤ maxLen) (w : World) : Calls Try.prog 3 #[.string s] w fun e w' => e = .returned (.bool true) ∧ Below w.heap.size w w' :=
  ((tokenNumbers_p s).mono fun _ _ h => h.1).top (relVs_cons (.d (.v hs)) (relVs_nil _ _))
theorem tokenPlaces_walk (s : ByteArray) (at_ : Int) (hs : s.size ≤ maxLen) (wa : (Lit.int .i64 at_).wf = true) (w : World) : Calls Try.prog 4 #[.string s, .int .i64 at_] w fun e w' => e = .returned (.bool true) ∧ Below w.heap.size w w' := by
  have hb : -9223372036854775808 ≤ at_ ∧ at_ ≤ 9223372036854775807 := by simp [Lit.wf, IntKind.min, IntKind.max, IntKind.signed, IntKind.bits] at wa; omega
  exact ((tokenPlaces_p s at_ hb.1 hb.2).mono fun _ _ h => h.1).top (relVs_cons (.d (.v hs)) (relVs_cons (.d (.v trivial)) (relVs_nil _ _)))
end Go.Proofs.Ytahhgpafjiljfaa
