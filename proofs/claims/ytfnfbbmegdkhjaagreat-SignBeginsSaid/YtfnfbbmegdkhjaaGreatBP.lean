import Derived.Test.YtfnfbbmegdkhjaaGreatBE1
import Derived.Test.YtfnfbbmegdkhjaaGreatBS
set_option linter.unusedSimpArgs false
set_option linter.unusedVariables false
namespace Go.Proofs.YtfnfbbmegdkhjaaGreat
open Go.RowKit
set_option maxRecDepth 100000
mutual
/-- does an entry stand in a term -/
def stT : Tm → Int → Bool
  | .mk k n sub, d => ((k == 6 || k == 7) && n == d) || stL sub d
def stL : List Tm → Int → Bool
  | [], _ => false
  | t :: ts, d => stT t d || stL ts d
end
theorem nm_stands (d : Int) : ∀ t : Tm, (d ∈ nmT 6 7 t ↔ stT t d = true) := by
  refine Tm.ind ?_
  intro k n sub ih
  have : ∀ (l : List Tm), (∀ s ∈ l, (d ∈ nmT 6 7 s ↔ stT s d = true)) → ∀ out, (d ∈ nmS 6 7 l out ↔ d ∈ out ∨ stL l d = true) := by
    intro l
    induction l with
    | nil => intro _ out; simp [nmS, stL]
    | cons t ts iht =>
      intro hl out
      simp only [nmS, stL, Bool.or_eq_true]
      rw [iht (fun s hs => hl s (by simp [hs])), fold_mem, hl t (by simp)]
      exact or_assoc
  simp only [nmT, stT]
  rw [this sub ih, Bool.or_eq_true]
  apply or_congr_left
  by_cases h : k = 6 ∨ k = 7
  · rw [if_pos h]
    simp
    constructor
    · intro e; exact ⟨h, e.symm⟩
    · intro e; exact e.2.symm
  · rw [if_neg h]
    simp
    intro h2; exact absurd h2 h
end Go.Proofs.YtfnfbbmegdkhjaaGreat

namespace Go.Proofs.YtfnfbbmegdkhjaaGreat
open Go.RowKit
set_option maxRecDepth 100000
set_option maxHeartbeats 8000000 in
theorem pstands_p : ∀ (t : Tm) (d : Int), PCalls Tryz.prog 40 [aggD t, .d (.v (.int .i64 d))] [] fun p s => p = .d (.v (.bool (stT t d))) ∧ s = [] := by
  refine Tm.ind ?_
  intro k n sub ih d
  obtain ⟨R, hR0⟩ : ∃ R, R = stT (.mk k n sub) d := ⟨_, rfl⟩
  rw [← hR0]
  simp only [aggD, encD_tm, List.map_cons, List.map_nil, Tm.kind_mk, Tm.num_mk, Tm.sub_mk]
  simp only [stT] at hR0
  have IH := Lib.hid ih
  simp only [aggD, encD_tm, List.map_cons, List.map_nil, Tm.kind_mk, Tm.num_mk, Tm.sub_mk] at IH
  have HR0 := Lib.hid hR0
  clear ih hR0
  cases h6 : (k == 6)
  · cases h7 : (k == 7)
    · skip
      have HS : Hid (R = stL (sub.drop 0) d) := by show _ = _; rw [show R = _ from HR0.out]; simp [*]
      clear HR0
      refine PCalls.enter Tryz.func40 rfl Tryz.ntmps40 (by simp) ?_
      simp only [argsF]
      refine go_ ?_
      refine POps_box_a ?_
      intro i0 hi0
      refine go_ ?_
      refine PW_slen (t := 22) (rows := sub.map encD) (by simp [PF.get] <;> rfl) rfl fun hml => ?_
      rw [List.length_map] at hml
      unfold maxLen at hml
      refine PW_loop (ι := Nat) (fun y => y ≤ sub.length ∧ Hid (R = stL (sub.drop y) d)) (fun y => [(1, .d (.v (.int .i64 d))), (22, .d (.sl (sub.map encD))), (23, .d (.v (.int .i64 sub.length))), (24, .d (.v (.int .i64 (y : Int))))]) (fun _ => []) (fun y => sub.length - y) 0 ⟨Nat.zero_le _, HS.out⟩ ?_ ?_ ?_
      · repeat (first | exact sub_nil _ | refine sub_cons (by simp [PF.get]; rfl) (by first | rfl | (simp [*]; done) | fail) ?_)
      · repeat (first | exact List.Sublist.refl _ | exact List.nil_sublist _ | refine List.Sublist.cons_cons _ ?_ | refine List.Sublist.cons _ ?_)
      · rintro j ⟨hj, hR⟩
        clear HS
        by_cases hlt : j < sub.length
        · have hx := get_enc hlt
          have hc : (j : Int) < sub.length := by omega
          have hn : (0 : Int) ≤ j := by omega
          have hin := wr64 (n := (j : Int) + 1) (by omega) (by omega)
          have hR2 : Hid (R = (stT sub[j] d || stL (sub.drop (j + 1)) d)) := by
            rw [show R = _ from hR.out, List.drop_eq_getElem_cons hlt]
            show _ = _
            simp only [stL]
          have hc1 := Lib.hid (IH.out _ (List.getElem_mem hlt) d)
          clear hR
          generalize stT sub[j] d = x' at *
          refine go_ ?_
          refine POps_alloc_a ?_
          intro i2 hi2
          try simp only [St.freshB_box, St.freshB_nil, St.freshB_tok, St.freshB_obj] at hi2
          refine go_ ?_
          refine Rd ?_
          refine go_ ?_
          refine POps_call_a (hc1.out) ?_
          refine go_ ?_
          rcases Bool.eq_false_or_eq_true (x') with hq | hq
          rotate_left
          · have hR3 : Hid (R = stL (sub.drop (j + 1)) d) := by show _ = _; rw [show R = _ from hR2.out, hq]; rfl
            clear hR2
            refine go_ ?_
            exact ⟨j + 1, ⟨hlt, hR3⟩, by omega, by repeat (first | exact sub_nil _ | refine sub_cons (by simp [PF.get]; rfl) (by first | rfl | (simp [*]; done) | fail) ?_), by repeat (first | exact List.Sublist.refl _ | exact List.nil_sublist _ | refine List.Sublist.cons_cons _ ?_ | refine List.Sublist.cons _ ?_)⟩
          · have hf : Hid (R = true) := by show _ = _; rw [show R = _ from hR2.out, hq]; rfl
            clear hR2
            refine go_ ?_
            refine retP_ok (by simp) (by simp only [Tryz.results40]; rfl) (by simp [resP, St.box?, PF.get, loadB, TyK.agg, *]; rfl) (List.nil_sublist _) ?_
            exact ⟨by rw [hf.out]; rfl, rfl⟩
        · have hc : ¬ (j : Int) < sub.length := by omega
          have hf : Hid (R = false) := by rw [show R = _ from hR.out, List.drop_of_length_le (by omega)]; rfl
          refine go_ ?_
          refine retP_ok (by simp) (by simp only [Tryz.results40]; rfl) (by simp [resP, St.box?, PF.get, loadB, TyK.agg, *]; rfl) (List.nil_sublist _) ?_
          exact ⟨by rw [hf.out]; rfl, rfl⟩
    · cases hn : (n == d)
      · skip
        have HS : Hid (R = stL (sub.drop 0) d) := by show _ = _; rw [show R = _ from HR0.out]; simp [*]
        clear HR0
        refine PCalls.enter Tryz.func40 rfl Tryz.ntmps40 (by simp) ?_
        simp only [argsF]
        refine go_ ?_
        refine POps_box_a ?_
        intro i0 hi0
        refine go_ ?_
        refine PW_slen (t := 22) (rows := sub.map encD) (by simp [PF.get] <;> rfl) rfl fun hml => ?_
        rw [List.length_map] at hml
        unfold maxLen at hml
        refine PW_loop (ι := Nat) (fun y => y ≤ sub.length ∧ Hid (R = stL (sub.drop y) d)) (fun y => [(1, .d (.v (.int .i64 d))), (22, .d (.sl (sub.map encD))), (23, .d (.v (.int .i64 sub.length))), (24, .d (.v (.int .i64 (y : Int))))]) (fun _ => []) (fun y => sub.length - y) 0 ⟨Nat.zero_le _, HS.out⟩ ?_ ?_ ?_
        · repeat (first | exact sub_nil _ | refine sub_cons (by simp [PF.get]; rfl) (by first | rfl | (simp [*]; done) | fail) ?_)
        · repeat (first | exact List.Sublist.refl _ | exact List.nil_sublist _ | refine List.Sublist.cons_cons _ ?_ | refine List.Sublist.cons _ ?_)
        · rintro j ⟨hj, hR⟩
          clear HS
          by_cases hlt : j < sub.length
          · have hx := get_enc hlt
            have hc : (j : Int) < sub.length := by omega
            have hn : (0 : Int) ≤ j := by omega
            have hin := wr64 (n := (j : Int) + 1) (by omega) (by omega)
            have hR2 : Hid (R = (stT sub[j] d || stL (sub.drop (j + 1)) d)) := by
              rw [show R = _ from hR.out, List.drop_eq_getElem_cons hlt]
              show _ = _
              simp only [stL]
            have hc1 := Lib.hid (IH.out _ (List.getElem_mem hlt) d)
            clear hR
            generalize stT sub[j] d = x' at *
            refine go_ ?_
            refine POps_alloc_a ?_
            intro i2 hi2
            try simp only [St.freshB_box, St.freshB_nil, St.freshB_tok, St.freshB_obj] at hi2
            refine go_ ?_
            refine Rd ?_
            refine go_ ?_
            refine POps_call_a (hc1.out) ?_
            refine go_ ?_
            rcases Bool.eq_false_or_eq_true (x') with hq | hq
            rotate_left
            · have hR3 : Hid (R = stL (sub.drop (j + 1)) d) := by show _ = _; rw [show R = _ from hR2.out, hq]; rfl
              clear hR2
              refine go_ ?_
              exact ⟨j + 1, ⟨hlt, hR3⟩, by omega, by repeat (first | exact sub_nil _ | refine sub_cons (by simp [PF.get]; rfl) (by first | rfl | (simp [*]; done) | fail) ?_), by repeat (first | exact List.Sublist.refl _ | exact List.nil_sublist _ | refine List.Sublist.cons_cons _ ?_ | refine List.Sublist.cons _ ?_)⟩
            · have hf : Hid (R = true) := by show _ = _; rw [show R = _ from hR2.out, hq]; rfl
              clear hR2
              refine go_ ?_
              refine retP_ok (by simp) (by simp only [Tryz.results40]; rfl) (by simp [resP, St.box?, PF.get, loadB, TyK.agg, *]; rfl) (List.nil_sublist _) ?_
              exact ⟨by rw [hf.out]; rfl, rfl⟩
          · have hc : ¬ (j : Int) < sub.length := by omega
            have hf : Hid (R = false) := by rw [show R = _ from hR.out, List.drop_of_length_le (by omega)]; rfl
            refine go_ ?_
            refine retP_ok (by simp) (by simp only [Tryz.results40]; rfl) (by simp [resP, St.box?, PF.get, loadB, TyK.agg, *]; rfl) (List.nil_sublist _) ?_
            exact ⟨by rw [hf.out]; rfl, rfl⟩
      · skip
        have hf : Hid (R = true) := by show _ = _; rw [show R = _ from HR0.out]; simp [*]
        clear HR0
        refine PCalls.enter Tryz.func40 rfl Tryz.ntmps40 (by simp) ?_
        simp only [argsF]
        refine go_ ?_
        refine POps_box_a ?_
        intro i0 hi0
        refine go_ ?_
        refine retP_ok (by simp) (by simp only [Tryz.results40]; rfl) (by simp [resP, St.box?, PF.get, loadB, TyK.agg, *]; rfl) (List.nil_sublist _) ?_
        exact ⟨by rw [hf.out]; rfl, rfl⟩
  · cases hn : (n == d)
    · skip
      have HS : Hid (R = stL (sub.drop 0) d) := by show _ = _; rw [show R = _ from HR0.out]; simp [*]
      clear HR0
      refine PCalls.enter Tryz.func40 rfl Tryz.ntmps40 (by simp) ?_
      simp only [argsF]
      refine go_ ?_
      refine POps_box_a ?_
      intro i0 hi0
      refine go_ ?_
      refine PW_slen (t := 22) (rows := sub.map encD) (by simp [PF.get] <;> rfl) rfl fun hml => ?_
      rw [List.length_map] at hml
      unfold maxLen at hml
      refine PW_loop (ι := Nat) (fun y => y ≤ sub.length ∧ Hid (R = stL (sub.drop y) d)) (fun y => [(1, .d (.v (.int .i64 d))), (22, .d (.sl (sub.map encD))), (23, .d (.v (.int .i64 sub.length))), (24, .d (.v (.int .i64 (y : Int))))]) (fun _ => []) (fun y => sub.length - y) 0 ⟨Nat.zero_le _, HS.out⟩ ?_ ?_ ?_
      · repeat (first | exact sub_nil _ | refine sub_cons (by simp [PF.get]; rfl) (by first | rfl | (simp [*]; done) | fail) ?_)
      · repeat (first | exact List.Sublist.refl _ | exact List.nil_sublist _ | refine List.Sublist.cons_cons _ ?_ | refine List.Sublist.cons _ ?_)
      · rintro j ⟨hj, hR⟩
        clear HS
        by_cases hlt : j < sub.length
        · have hx := get_enc hlt
          have hc : (j : Int) < sub.length := by omega
          have hn : (0 : Int) ≤ j := by omega
          have hin := wr64 (n := (j : Int) + 1) (by omega) (by omega)
          have hR2 : Hid (R = (stT sub[j] d || stL (sub.drop (j + 1)) d)) := by
            rw [show R = _ from hR.out, List.drop_eq_getElem_cons hlt]
            show _ = _
            simp only [stL]
          have hc1 := Lib.hid (IH.out _ (List.getElem_mem hlt) d)
          clear hR
          generalize stT sub[j] d = x' at *
          refine go_ ?_
          refine POps_alloc_a ?_
          intro i2 hi2
          try simp only [St.freshB_box, St.freshB_nil, St.freshB_tok, St.freshB_obj] at hi2
          refine go_ ?_
          refine Rd ?_
          refine go_ ?_
          refine POps_call_a (hc1.out) ?_
          refine go_ ?_
          rcases Bool.eq_false_or_eq_true (x') with hq | hq
          rotate_left
          · have hR3 : Hid (R = stL (sub.drop (j + 1)) d) := by show _ = _; rw [show R = _ from hR2.out, hq]; rfl
            clear hR2
            refine go_ ?_
            exact ⟨j + 1, ⟨hlt, hR3⟩, by omega, by repeat (first | exact sub_nil _ | refine sub_cons (by simp [PF.get]; rfl) (by first | rfl | (simp [*]; done) | fail) ?_), by repeat (first | exact List.Sublist.refl _ | exact List.nil_sublist _ | refine List.Sublist.cons_cons _ ?_ | refine List.Sublist.cons _ ?_)⟩
          · have hf : Hid (R = true) := by show _ = _; rw [show R = _ from hR2.out, hq]; rfl
            clear hR2
            refine go_ ?_
            refine retP_ok (by simp) (by simp only [Tryz.results40]; rfl) (by simp [resP, St.box?, PF.get, loadB, TyK.agg, *]; rfl) (List.nil_sublist _) ?_
            exact ⟨by rw [hf.out]; rfl, rfl⟩
        · have hc : ¬ (j : Int) < sub.length := by omega
          have hf : Hid (R = false) := by rw [show R = _ from hR.out, List.drop_of_length_le (by omega)]; rfl
          refine go_ ?_
          refine retP_ok (by simp) (by simp only [Tryz.results40]; rfl) (by simp [resP, St.box?, PF.get, loadB, TyK.agg, *]; rfl) (List.nil_sublist _) ?_
          exact ⟨by rw [hf.out]; rfl, rfl⟩
    · skip
      have hf : Hid (R = true) := by show _ = _; rw [show R = _ from HR0.out]; simp [*]
      clear HR0
      refine PCalls.enter Tryz.func40 rfl Tryz.ntmps40 (by simp) ?_
      simp only [argsF]
      refine go_ ?_
      refine POps_box_a ?_
      intro i0 hi0
      refine go_ ?_
      refine retP_ok (by simp) (by simp only [Tryz.results40]; rfl) (by simp [resP, St.box?, PF.get, loadB, TyK.agg, *]; rfl) (List.nil_sublist _) ?_
      exact ⟨by rw [hf.out]; rfl, rfl⟩
set_option maxHeartbeats 4000000 in
theorem pStands_p (t : Tm) (d : Int) : PCalls Tryz.prog 17 [aggD t, .d (.v (.int .i64 d))] [] fun p s => p = .d (.v (.bool (shapedB t && stT t d))) ∧ s = [] := by
  have hS := Lib.hid (tshaped_p t)
  have hH := Lib.hid (pstands_p t d)
  generalize stT t d = A at *
  generalize shapedB t = B at *
  simp only [aggD, encD_tm, List.map_cons, List.map_nil] at hS hH ⊢
  refine PCalls.enter Tryz.func17 rfl Tryz.ntmps17 (by simp) ?_
  simp only [argsF]
  refine go_ ?_
  refine POps_box_a ?_
  intro i0 hi0
  refine go_ ?_
  refine POps_call_a (hS.out) ?_
  refine go_ ?_
  rcases Bool.eq_false_or_eq_true (B) with hb | hb
  rotate_left
  · refine go_ ?_
    refine retP_ok (by simp) (by simp only [Tryz.results17]; rfl) (by simp [resP, St.box?, PF.get, loadB, TyK.agg, *]; rfl) (List.nil_sublist _) ?_
    exact ⟨by simp [tupP, PV.norm2, PV.norm1, PV.norm0, *], rfl⟩
  refine go_ ?_
  refine POps_call_b (hH.out) ?_
  refine go_ ?_
  refine retP_ok (by simp) (by simp only [Tryz.results17]; rfl) (by simp [resP, St.box?, PF.get, loadB, TyK.agg, *]; rfl) (List.nil_sublist _) ?_
  exact ⟨by simp [tupP, PV.norm2, PV.norm1, PV.norm0, *], rfl⟩
/-- may a number be? -/
def fitB (n : Int) : Bool := decide (0 ≤ n) && decide (n ≤ 24)
set_option maxHeartbeats 4000000 in
theorem pfits_p (l : List Int) : PCalls Tryz.prog 38 [.d (.sl (l.map encD))] [] fun p s => p = .d (.v (.bool (l.all fitB))) ∧ s = [] := by
  obtain ⟨R, hR⟩ : ∃ R, R = l.all fitB := ⟨_, rfl⟩
  rw [← hR]
  have HR : Hid (R = (l.drop 0).all fitB) := hR
  clear hR
  refine PCalls.enter Tryz.func38 rfl Tryz.ntmps38 (by simp) ?_
  simp only [argsF]
  refine PW_slen (t := 0) (rows := l.map encD) (by simp [PF.get] <;> rfl) rfl fun hml => ?_
  rw [List.length_map] at hml
  unfold maxLen at hml
  refine go_ ?_
  refine PW_loop (ι := Nat) (fun y => y ≤ l.length ∧ Hid (R = (l.drop y).all fitB)) (fun y => [(5, .d (.sl (l.map encD))), (6, .d (.v (.int .i64 l.length))), (7, .d (.v (.int .i64 (y : Int))))]) (fun _ => []) (fun y => l.length - y) 0 ⟨Nat.zero_le _, HR.out⟩ ?_ ?_ ?_
  · repeat (first | exact sub_nil _ | refine sub_cons (by simp [PF.get]; rfl) (by first | rfl | (simp [*]; done) | fail) ?_)
  · repeat (first | exact List.Sublist.refl _ | exact List.nil_sublist _ | refine List.Sublist.cons_cons _ ?_ | refine List.Sublist.cons _ ?_)
  · rintro j ⟨hj, hR⟩
    clear HR
    by_cases hlt : j < l.length
    · have hx := get_enc hlt
      have hc : (j : Int) < l.length := by omega
      have hn : (0 : Int) ≤ j := by omega
      have hin := wr64 (n := (j : Int) + 1) (by omega) (by omega)
      have hR2 : Hid (R = (fitB l[j] && (l.drop (j + 1)).all fitB)) := by
        rw [show R = _ from hR.out, List.drop_eq_getElem_cons hlt]; rfl
      clear hR
      by_cases h0 : l[j] < 0
      · have hf : Hid (R = false) := by show _ = _; rw [show R = _ from hR2.out]; unfold fitB; rw [decide_eq_false (show ¬ 0 ≤ l[j] by omega)]; rfl
        clear hR2
        refine go_ ?_
        refine retP_ok (by simp) (by simp only [Tryz.results38]; rfl) (by simp [resP, St.box?, PF.get, loadB, TyK.agg, *]; rfl) (List.nil_sublist _) ?_
        exact ⟨by rw [hf.out]; rfl, rfl⟩
      by_cases h1 : 24 < l[j]
      · have hf : Hid (R = false) := by show _ = _; rw [show R = _ from hR2.out]; unfold fitB; rw [decide_eq_false (show ¬ l[j] ≤ 24 by omega), Bool.and_false]; rfl
        clear hR2
        refine go_ ?_
        refine retP_ok (by simp) (by simp only [Tryz.results38]; rfl) (by simp [resP, St.box?, PF.get, loadB, TyK.agg, *]; rfl) (List.nil_sublist _) ?_
        exact ⟨by rw [hf.out]; rfl, rfl⟩
      have hR3 : Hid (R = (l.drop (j + 1)).all fitB) := by show _ = _; rw [show R = _ from hR2.out]; unfold fitB; rw [decide_eq_true (show 0 ≤ l[j] by omega), decide_eq_true (show l[j] ≤ 24 by omega)]; rfl
      clear hR2
      refine go_ ?_
      exact ⟨j + 1, ⟨hlt, hR3⟩, by omega, by repeat (first | exact sub_nil _ | refine sub_cons (by simp [PF.get]; rfl) (by first | rfl | (simp [*]; done) | fail) ?_), by repeat (first | exact List.Sublist.refl _ | exact List.nil_sublist _ | refine List.Sublist.cons_cons _ ?_ | refine List.Sublist.cons _ ?_)⟩
    · have hc : ¬ (j : Int) < l.length := by omega
      have hf : Hid (R = true) := by show _ = _; rw [show R = _ from hR.out, List.drop_of_length_le (by omega)]; rfl
      refine go_ ?_
      refine retP_ok (by simp) (by simp only [Tryz.results38]; rfl) (by simp [resP, St.box?, PF.get, loadB, TyK.agg, *]; rfl) (List.nil_sublist _) ?_
      exact ⟨by rw [hf.out]; rfl, rfl⟩
end Go.Proofs.YtfnfbbmegdkhjaaGreat

namespace Go.Proofs.YtfnfbbmegdkhjaaGreat
open Go.RowKit
set_option maxRecDepth 100000
/-- the arguments of a family that stands rightly: it stands in none, the first ones are the telescope's variables -/
def ownL (d p first : Int) : List Tm → Nat → Bool
  | [], _ => true
  | a :: r, k => !(stT a d || (decide ((k : Int) < p) && (a.kind != 1 || a.num != first - (k : Int)))) && ownL d p first r (k + 1)
def ownB (t : Tm) (d p i first : Int) : Bool := (headT t).kind == 6 && ((headT t).num == d && ((((argsT t).length : Int) == p + i) && ownL d p first (argsT t) 0))
theorem own_iff (d p first : Int) : ∀ (l : List Tm) (k : Nat), ownL d p first l k = true ↔ ∀ (j : Nat) (a : Tm), l[j]? = some a → stT a d = false ∧ (((k + j : Nat) : Int) < p → a.kind = 1 ∧ a.num = first - ((k + j : Nat) : Int)) := by
  intro l
  induction l with
  | nil => intro k; simp [ownL]
  | cons a r ih =>
    intro k
    simp only [ownL, Bool.and_eq_true, ih]
    have h0 : ((!(stT a d || (decide ((k : Int) < p) && (a.kind != 1 || a.num != first - (k : Int))))) = true) ↔ (stT a d = false ∧ ((k : Int) < p → a.kind = 1 ∧ a.num = first - (k : Int))) := by
      cases stT a d with
      | true => simp
      | false =>
        by_cases hp : (k : Int) < p
        · have hp2 : ¬ p ≤ (k : Int) := by omega
          simp [hp, hp2]
        · have hp2 : p ≤ (k : Int) := by omega
          simp [hp, hp2]
    rw [h0]
    constructor
    · rintro ⟨h1, h2⟩ j b hb
      cases j with
      | zero => cases hb; exact h1
      | succ j => rw [show k + (j + 1) = k + 1 + j by omega]; exact h2 j b (by simpa using hb)
    · intro h
      exact ⟨h 0 a rfl, fun j b hb => by rw [show k + 1 + j = k + (j + 1) by omega]; exact h (j + 1) b (by simpa using hb)⟩
theorem vars_iff (args : List Tm) (b : Int) : ∀ (n i : Nat), varsA args b n i = true ↔ ∀ j, j < n → ∃ a, args[i + j]? = some a ∧ a.kind = 1 ∧ a.num = b - 1 - ((i + j : Nat) : Int) := by
  intro n
  induction n with
  | zero => intro i; simp [varsA]
  | succ n ih =>
    intro i
    simp only [varsA, Bool.and_eq_true, ih]
    constructor
    · rintro ⟨h1, h2⟩ j hj
      cases j with
      | zero =>
        cases ha : args[i]? with
        | none => rw [ha] at h1; cases h1
        | some a =>
          rw [ha] at h1
          simp only [Bool.and_eq_true, beq_iff_eq] at h1
          exact ⟨a, rfl, h1.1, h1.2⟩
      | succ j => rw [show i + (j + 1) = i + 1 + j by omega]; exact h2 j (by omega)
    · intro h
      refine ⟨?_, fun j hj => by rw [show i + 1 + j = i + (j + 1) by omega]; exact h (j + 1) (by omega)⟩
      obtain ⟨a, h1, h2, h3⟩ := h 0 (by omega)
      rw [show i + 0 = i from rfl] at h1 h3
      rw [h1]
      simp only [Bool.and_eq_true, beq_iff_eq]
      exact ⟨h2, h3⟩
/-- the family with its parameters, and it stands in no argument: told the document's way -/
theorem own_applied (t : Tm) (d p i first : Int) (hp : 0 ≤ p) (hi : 0 ≤ i) : ownB t d p i first = (appliedT t d p i (first + 1) && !((argsT t).any fun a => stT a d)) := by
  unfold ownB appliedT
  by_cases hl : ((argsT t).length : Int) = p + i
  · rw [beq_iff_eq.2 hl, Bool.true_and, Bool.true_and]
    rw [show ownL d p first (argsT t) 0 = (varsA (argsT t) (first + 1) p.toNat 0 && !((argsT t).any fun a => stT a d)) by
      rw [Bool.eq_iff_iff, own_iff, Bool.and_eq_true, vars_iff, Bool.not_eq_true', List.any_eq_false]
      constructor
      · intro h
        refine ⟨fun j hj => ?_, fun a ha => ?_⟩
        · have hjl : j < (argsT t).length := by omega
          obtain ⟨-, h2⟩ := h j _ (List.getElem?_eq_getElem hjl)
          obtain ⟨h3, h4⟩ := h2 (by omega)
          exact ⟨(argsT t)[j], by rw [Nat.zero_add]; exact List.getElem?_eq_getElem hjl, h3, by omega⟩
        · obtain ⟨j, hj, rfl⟩ := List.getElem_of_mem ha
          have := (h j _ (List.getElem?_eq_getElem hj)).1
          rw [this]; decide
      · rintro ⟨h1, h2⟩ j a ha
        refine ⟨by have := h2 a (List.mem_of_getElem? ha); simpa using this, fun hj => ?_⟩
        obtain ⟨b, h3, h4, h5⟩ := h1 j (by omega)
        rw [Nat.zero_add] at h3
        rw [ha] at h3
        cases h3
        exact ⟨h4, by omega⟩]
    cases (headT t).kind == 6 <;> cases (headT t).num == d <;> simp
  · rw [beq_eq_false_iff_ne.2 hl]
    cases (headT t).kind == 6 <;> cases (headT t).num == d <;> simp
/-- the first of the types in which an entry stands -/
def firstS (d : Int) : List Tm → Nat → Option Nat
  | [], _ => none
  | a :: r, k => if stT a d then some k else firstS d r (k + 1)
/-- how a type, beneath so many types of its telescope, is not strictly positive -/
def chkR (d p i first : Int) (x : Tm) (k : Nat) : Int :=
  match firstS d (teleT x) k with
  | some q => (q : Int)
  | none => if (decide (((k + (teleT x).length : Nat) : Int) ≤ 24) && ownB (benT x) d p i (first + ((k + (teleT x).length : Nat) : Int))) = true then -2 else -1
/-- how a type is not strictly positive; -2: it is -/
def chkT (t : Tm) (d p i first : Int) : Int := if stT t d then chkR d p i first t 0 else -2
theorem chkR_pi (d p i first : Int) (a b : Tm) (k : Nat) : chkR d p i first (.mk 3 0 [a, b]) k = if stT a d then (k : Int) else chkR d p i first b (k + 1) := by
  unfold chkR
  rw [(tele_pi 0 a b).1, (tele_pi 0 a b).2]
  simp only [firstS, List.length_cons]
  by_cases h : stT a d = true
  · rw [if_pos h, if_pos h]
  · have e : k + ((teleT b).length + 1) = k + 1 + (teleT b).length := by omega
    rw [if_neg h, if_neg h]
    simp only [e]
theorem chkR_no (d p i first : Int) {x : Tm} (h : x.kind ≠ 3) (k : Nat) : chkR d p i first x k = if (decide ((k : Int) ≤ 24) && ownB x d p i (first + (k : Int))) = true then -2 else -1 := by
  unfold chkR
  rw [(tele_no h).1, (tele_no h).2]
  simp only [firstS, List.length_nil, Nat.add_zero]
/-- has one of the later ones the variable? -/
def latF : List Tm → Int → Bool
  | [], _ => false
  | t :: r, n => hasT t n || latF r (n + 1)
def badA (l : List Tm) (d p i : Int) (k : Nat) (t : Tm) : Bool := decide (-2 < chkT t d p i (p - 1 + (k : Int))) || (stT t d && latF (l.drop (k + 1)) 0)
/-- which argument is not strictly positive; -1: none -/
def pargF (l : List Tm) (d p i : Int) : List Tm → Nat → Int
  | [], _ => -1
  | t :: r, k => if badA l d p i k t = true then (k : Int) else pargF l d p i r (k + 1)
end Go.Proofs.YtfnfbbmegdkhjaaGreat

namespace Go.Proofs.YtfnfbbmegdkhjaaGreat
open Go.RowKit
set_option maxRecDepth 100000
set_option maxHeartbeats 8000000 in
theorem pown_p (t : Tm) (d p i first : Int) (hs : shapedB t = true) (hp0 : 0 ≤ p) (hp1 : p ≤ 24) (hi0 : 0 ≤ i) (hi1 : i ≤ 24) (hf0 : -1 ≤ first) (hf1 : first ≤ 2000000) :
    PCalls Tryz.prog 72 [aggD t, .d (.v (.int .i64 d)), .d (.v (.int .i64 p)), .d (.v (.int .i64 i)), .d (.v (.int .i64 first))] [] fun q s => q = .d (.v (.bool (ownB t d p i first))) ∧ s = [] := by
  have hS := Lib.hid (tSpine_p t hs)
  obtain ⟨R, hR⟩ : ∃ R, R = ownB t d p i first := ⟨_, rfl⟩
  rw [← hR]
  unfold ownB at hR
  have hal := args_len t
  have hnd := (shaped_hg hs).2.2
  have hL := Lib.hid (show (argsT t).length ≤ 8192 by omega)
  generalize headT t = h at *
  generalize argsT t = a at *
  have HR := Lib.hid hR
  have hw1 := wr64 (n := p + i) (by omega) (by omega)
  clear hR hs hal hnd
  simp only [aggD, encD_tm, List.map_cons, List.map_nil] at hS ⊢
  refine PCalls.enter Tryz.func72 rfl Tryz.ntmps72 (by simp) ?_
  simp only [argsF]
  refine go_ ?_
  refine POps_box_a ?_
  intro i0 hi0
  refine go_ ?_
  refine POps_call_a (hS.out) ?_
  refine go_ ?_
  refine POps_alloc_a ?_
  intro i1 hi1
  try simp only [St.freshB_box, St.freshB_nil, St.freshB_tok, St.freshB_obj] at hi1
  refine go_ ?_
  refine Rd ?_
  refine go_ ?_
  by_cases h1 : h.kind = 6
  rotate_left
  · have h1b : (h.kind != 6) = true := bne_iff_ne.2 h1
    have hf : Hid (R = false) := by show _ = _; rw [show R = _ from HR.out, beq_eq_false_iff_ne.2 h1]; rfl
    clear h1 HR
    refine go_ ?_
    refine retP_ok (by simp) (by simp only [Tryz.results72]; rfl) (by simp [resP, St.box?, PF.get, loadB, TyK.agg, *]; rfl) (List.nil_sublist _) ?_
    exact ⟨by rw [hf.out]; rfl, rfl⟩
  have h1b : (h.kind != 6) = false := by rw [h1]; rfl
  have h1c : (h.kind == 6) = true := beq_iff_eq.2 h1
  clear h1
  refine go_ ?_
  by_cases h2 : h.num = d
  rotate_left
  · have h2b : (h.num != d) = true := bne_iff_ne.2 h2
    have hf : Hid (R = false) := by show _ = _; rw [show R = _ from HR.out, h1c, beq_eq_false_iff_ne.2 h2]; rfl
    clear h2 HR
    refine go_ ?_
    refine retP_ok (by simp) (by simp only [Tryz.results72]; rfl) (by simp [resP, St.box?, PF.get, loadB, TyK.agg, *]; rfl) (List.nil_sublist _) ?_
    exact ⟨by rw [hf.out]; rfl, rfl⟩
  have h2b : (h.num != d) = false := by rw [h2]; simp
  have h2c : (h.num == d) = true := beq_iff_eq.2 h2
  clear h2
  refine go_ ?_
  by_cases h3 : (a.length : Int) = p + i
  rotate_left
  · have h3b : ((a.length : Int) != p + i) = true := bne_iff_ne.2 h3
    have hf : Hid (R = false) := by show _ = _; rw [show R = _ from HR.out, h1c, h2c, beq_eq_false_iff_ne.2 h3]; rfl
    clear h3 HR
    refine go_ ?_
    refine retP_ok (by simp) (by simp only [Tryz.results72]; rfl) (by simp [resP, St.box?, PF.get, loadB, TyK.agg, *]; rfl) (List.nil_sublist _) ?_
    exact ⟨by rw [hf.out]; rfl, rfl⟩
  have h3b : ((a.length : Int) != p + i) = false := by rw [h3]; simp
  have HR0 : Hid (R = ownL d p first (a.drop 0) 0) := by show _ = _; rw [show R = _ from HR.out, h1c, h2c, beq_iff_eq.2 h3]; rfl
  have hll : a.length ≤ 48 := by omega
  clear HR h3 hL
  refine go_ ?_
  refine PW_loop (ι := Nat) (fun y => y ≤ a.length ∧ Hid (R = ownL d p first (a.drop y) y)) (fun y => [(1, .d (.v (.int .i64 d))), (2, .d (.v (.int .i64 p))), (4, .d (.v (.int .i64 first))), (12, .d (.sl (a.map encD))), (37, .d (.v (.int .i64 a.length))), (38, .d (.v (.int .i64 (y : Int))))]) (fun _ => []) (fun y => a.length - y) 0 ⟨Nat.zero_le _, HR0.out⟩ ?_ ?_ ?_
  · repeat (first | exact sub_nil _ | refine sub_cons (by simp [PF.get]; rfl) (by first | rfl | (simp [*]; done) | fail) ?_)
  · repeat (first | exact List.Sublist.refl _ | exact List.nil_sublist _ | refine List.Sublist.cons_cons _ ?_ | refine List.Sublist.cons _ ?_)
  · rintro j ⟨hj, hR⟩
    clear HR0
    by_cases hlt : j < a.length
    · have hx := get_enc hlt
      have hc : (j : Int) < a.length := by omega
      have hn : (0 : Int) ≤ j := by omega
      have hin := wr64 (n := (j : Int) + 1) (by omega) (by omega)
      have hw3 := wr64 (n := first - j) (by omega) (by omega)
      have hR2 : Hid (R = (!(stT a[j] d || (decide ((j : Int) < p) && (a[j].kind != 1 || a[j].num != first - (j : Int)))) && ownL d p first (a.drop (j + 1)) (j + 1))) := by
        show _ = _
        rw [show R = _ from hR.out, List.drop_eq_getElem_cons hlt]
        simp only [ownL]
      have hc1 := Lib.hid (pstands_p a[j] d)
      simp only [aggD, encD_tm, List.map_cons, List.map_nil] at hc1
      clear hR
      generalize stT a[j] d = x' at *
      refine go_ ?_
      refine POps_call_a (hc1.out) ?_
      refine go_ ?_
      clear hc1
      rcases Bool.eq_false_or_eq_true (x') with hq | hq
      · have hf : Hid (R = false) := by show _ = _; rw [show R = _ from hR2.out, hq]; rfl
        clear hR2
        refine go_ ?_
        refine retP_ok (by simp) (by simp only [Tryz.results72]; rfl) (by simp [resP, St.box?, PF.get, loadB, TyK.agg, *]; rfl) (List.nil_sublist _) ?_
        exact ⟨by rw [hf.out]; rfl, rfl⟩
      by_cases hjp : (j : Int) < p
      rotate_left
      · have hR3 : Hid (R = ownL d p first (a.drop (j + 1)) (j + 1)) := by show _ = _; rw [show R = _ from hR2.out, hq, decide_eq_false hjp]; rfl
        clear hR2
        refine go_ ?_
        exact ⟨j + 1, ⟨hlt, hR3⟩, by omega, by repeat (first | exact sub_nil _ | refine sub_cons (by simp [PF.get]; rfl) (by first | rfl | (simp [*]; done) | fail) ?_), by repeat (first | exact List.Sublist.refl _ | exact List.nil_sublist _ | refine List.Sublist.cons_cons _ ?_ | refine List.Sublist.cons _ ?_)⟩
      by_cases k1 : a[j].kind = 1
      rotate_left
      · have k1b : (a[j].kind != 1) = true := bne_iff_ne.2 k1
        have hf : Hid (R = false) := by show _ = _; rw [show R = _ from hR2.out, hq, k1b, decide_eq_true hjp]; rfl
        clear k1 hR2
        refine go_ ?_
        refine retP_ok (by simp) (by simp only [Tryz.results72]; rfl) (by simp [resP, St.box?, PF.get, loadB, TyK.agg, *]; rfl) (List.nil_sublist _) ?_
        exact ⟨by rw [hf.out]; rfl, rfl⟩
      have k1b : (a[j].kind != 1) = false := by rw [k1]; rfl
      clear k1
      by_cases k2 : a[j].num = first - (j : Int)
      rotate_left
      · have k2b : (a[j].num != first - (j : Int)) = true := bne_iff_ne.2 k2
        have hf : Hid (R = false) := by show _ = _; rw [show R = _ from hR2.out, hq, k1b, k2b, decide_eq_true hjp]; rfl
        clear k2 hR2
        refine go_ ?_
        refine retP_ok (by simp) (by simp only [Tryz.results72]; rfl) (by simp [resP, St.box?, PF.get, loadB, TyK.agg, *]; rfl) (List.nil_sublist _) ?_
        exact ⟨by rw [hf.out]; rfl, rfl⟩
      have k2b : (a[j].num != first - (j : Int)) = false := by rw [k2]; simp
      have hR3 : Hid (R = ownL d p first (a.drop (j + 1)) (j + 1)) := by show _ = _; rw [show R = _ from hR2.out, hq, k1b, k2b, decide_eq_true hjp]; rfl
      clear k2 hR2
      refine go_ ?_
      exact ⟨j + 1, ⟨hlt, hR3⟩, by omega, by repeat (first | exact sub_nil _ | refine sub_cons (by simp [PF.get]; rfl) (by first | rfl | (simp [*]; done) | fail) ?_), by repeat (first | exact List.Sublist.refl _ | exact List.nil_sublist _ | refine List.Sublist.cons_cons _ ?_ | refine List.Sublist.cons _ ?_)⟩
    · have hc : ¬ (j : Int) < a.length := by omega
      have hf : Hid (R = true) := by show _ = _; rw [show R = _ from hR.out, List.drop_of_length_le (by omega)]; rfl
      refine go_ ?_
      refine retP_ok (by simp) (by simp only [Tryz.results72]; rfl) (by simp [resP, St.box?, PF.get, loadB, TyK.agg, *]; rfl) (List.nil_sublist _) ?_
      exact ⟨by rw [hf.out]; rfl, rfl⟩
set_option maxHeartbeats 8000000 in
theorem pcheck_p (t : Tm) (d p i first : Int) (hs : shapedB t = true) (hp0 : 0 ≤ p) (hp1 : p ≤ 24) (hi0 : 0 ≤ i) (hi1 : i ≤ 24) (hf0 : -1 ≤ first) (hf1 : first ≤ 1100000) :
    PCalls Tryz.prog 39 [aggD t, .d (.v (.int .i64 d)), .d (.v (.int .i64 p)), .d (.v (.int .i64 i)), .d (.v (.int .i64 first))] [] fun q s => q = .d (.v (.int .i64 (chkT t d p i first))) ∧ s = [] := by
  have hS := Lib.hid (pstands_p t d)
  obtain ⟨R, hR⟩ : ∃ R, R = chkT t d p i first := ⟨_, rfl⟩
  rw [← hR]
  unfold chkT at hR
  have HR := Lib.hid hR
  have hlen : (teleT t).length ≤ 8192 := by have := tele_len t; have := (shaped_hg hs).2.2; omega
  have HS := Lib.hid hs
  clear hR hs
  generalize stT t d = b at *
  simp only [aggD, encD_tm, List.map_cons, List.map_nil] at hS ⊢
  refine PCalls.enter Tryz.func39 rfl Tryz.ntmps39 (by simp) ?_
  simp only [argsF]
  refine go_ ?_
  refine POps_box_a ?_
  intro q0 hq0
  refine go_ ?_
  refine POps_call_a (hS.out) ?_
  refine go_ ?_
  clear hS
  rcases Bool.eq_false_or_eq_true (b) with hb | hb
  rotate_left
  · have hf : Hid (R = -2) := by show _ = _; rw [show R = _ from HR.out, hb]; rfl
    clear HR
    refine go_ ?_
    refine retP_ok (by simp) (by simp only [Tryz.results39]; rfl) (by simp [resP, St.box?, PF.get, loadB, TyK.agg, *]; rfl) (List.nil_sublist _) ?_
    exact ⟨by rw [hf.out]; rfl, rfl⟩
  have HR0 : Hid (R = chkR d p i first t 0) := by show _ = _; rw [show R = _ from HR.out, hb]; rfl
  clear HR
  refine go_ ?_
  refine PW_loop (ι := Tm × Nat) (fun y => Hid (shapedB y.1 = true) ∧ y.2 + (teleT y.1).length ≤ 8192 ∧ Hid (R = chkR d p i first y.1 y.2)) (fun y => [(1, .d (.v (.int .i64 d))), (2, .d (.v (.int .i64 p))), (3, .d (.v (.int .i64 i))), (4, .d (.v (.int .i64 first))), (5, .ptr q0 0), (11, .d (.v (.int .i64 (y.2 : Int))))]) (fun y => [.box q0 27 [.d (.v (.int .i64 y.1.kind)), .d (.v (.int .i64 y.1.num)), .d (.sl (y.1.sub.map encD))]]) (fun y => cndT y.1) (t, 0) ⟨HS.out, by simp only; omega, HR0.out⟩ ?_ ?_ ?_
  · repeat (first | exact sub_nil _ | refine sub_cons (by simp [PF.get]; rfl) (by first | rfl | (simp [*]; done) | fail) ?_)
  · repeat (first | exact List.Sublist.refl _ | exact List.nil_sublist _ | refine List.Sublist.cons_cons _ ?_ | refine List.Sublist.cons _ ?_)
  · rintro ⟨x, j⟩ ⟨hsx, hjl, hR⟩
    simp only at hsx hjl hR ⊢
    clear HR0 HS hlen
    have hin := wr64 (n := (j : Int) + 1) (by omega) (by omega)
    by_cases h3 : x.kind = 3
    · obtain ⟨a, c, rfl, ha, hb2⟩ := good_pi (shaped_hg hsx.out).1 h3
      have hsp := Lib.hid (shaped_pi hsx.out)
      have hR2 : Hid (R = if stT a d then (j : Int) else chkR d p i first c (j + 1)) := by show _ = _; rw [show R = _ from hR.out, chkR_pi]
      have hnd := cnd_two 3 0 a c
      have hjl2 : j + 1 + (teleT c).length ≤ 8192 := by rw [(tele_pi 0 a c).1, List.length_cons] at hjl; omega
      have hc1 := Lib.hid (pstands_p a d)
      clear hR h3 hsx hjl ha hb2
      simp only [Tm.kind_mk, Tm.num_mk, Tm.sub_mk, List.map_cons, List.map_nil]
      simp only [aggD, encD_tm, List.map_cons, List.map_nil] at hc1
      generalize stT a d = x' at *
      refine go_ ?_
      refine POps_call_a (hc1.out) ?_
      refine go_ ?_
      clear hc1
      rcases Bool.eq_false_or_eq_true (x') with hq | hq
      · have hf : Hid (R = j) := by show _ = _; rw [show R = _ from hR2.out, hq]; rfl
        clear hR2
        refine go_ ?_
        refine retP_ok (by simp) (by simp only [Tryz.results39]; rfl) (by simp [resP, St.box?, PF.get, loadB, TyK.agg, *]; rfl) (List.nil_sublist _) ?_
        exact ⟨by rw [hf.out]; rfl, rfl⟩
      have hR3 : Hid (R = chkR d p i first c (j + 1)) := by show _ = _; rw [show R = _ from hR2.out, hq]; rfl
      clear hR2
      refine go_ ?_
      refine Rd ?_
      refine go_ ?_
      refine ⟨(c, j + 1), ⟨hsp.out.2, hjl2, hR3⟩, by simp only; omega, ?_, ?_⟩
      · repeat (first | exact sub_nil _ | refine sub_cons (by simp [PF.get]; rfl) (by first | rfl | (simp [*]; done) | fail) ?_)
      · repeat (first | exact List.Sublist.refl _ | exact List.nil_sublist _ | refine List.Sublist.cons_cons _ ?_ | refine List.Sublist.cons _ ?_)
    · have hf : Hid (R = if (decide ((j : Int) ≤ 24) && ownB x d p i (first + (j : Int))) = true then -2 else -1) := by show _ = _; rw [show R = _ from hR.out, chkR_no _ _ _ _ h3]
      have h3b : (x.kind == 3) = false := beq_eq_false_iff_ne.2 h3
      have hw := wr64 (n := first + (j : Int)) (by omega) (by omega)
      have hO := Lib.hid (pown_p x d p i (first + (j : Int)) hsx.out hp0 hp1 hi0 hi1 (by omega) (by omega))
      simp only [aggD, encD_tm, List.map_cons, List.map_nil] at hO
      clear hR h3 hsx hjl
      generalize ownB x d p i (first + (j : Int)) = o at *
      refine go_ ?_
      by_cases h24 : (j : Int) ≤ 24
      rotate_left
      · have hf2 : Hid (R = -1) := by show _ = _; rw [show R = _ from hf.out, decide_eq_false h24]; rfl
        clear hf hO
        refine go_ ?_
        refine retP_ok (by simp) (by simp only [Tryz.results39]; rfl) (by simp [resP, St.box?, PF.get, loadB, TyK.agg, *]; rfl) (List.nil_sublist _) ?_
        exact ⟨by rw [hf2.out]; rfl, rfl⟩
      refine go_ ?_
      refine POps_call_b (hO.out) ?_
      refine go_ ?_
      clear hO
      rcases Bool.eq_false_or_eq_true (o) with ho | ho
      rotate_left
      · have hf2 : Hid (R = -1) := by show _ = _; rw [show R = _ from hf.out, ho]; simp
        clear hf
        refine go_ ?_
        refine retP_ok (by simp) (by simp only [Tryz.results39]; rfl) (by simp [resP, St.box?, PF.get, loadB, TyK.agg, *]; rfl) (List.nil_sublist _) ?_
        exact ⟨by rw [hf2.out]; rfl, rfl⟩
      have hf2 : Hid (R = -2) := by show _ = _; rw [show R = _ from hf.out, ho, decide_eq_true h24]; rfl
      clear hf
      refine go_ ?_
      refine retP_ok (by simp) (by simp only [Tryz.results39]; rfl) (by simp [resP, St.box?, PF.get, loadB, TyK.agg, *]; rfl) (List.nil_sublist _) ?_
      exact ⟨by rw [hf2.out]; rfl, rfl⟩
end Go.Proofs.YtfnfbbmegdkhjaaGreat

namespace Go.Proofs.YtfnfbbmegdkhjaaGreat
open Go.RowKit
set_option maxRecDepth 100000
set_option maxHeartbeats 8000000 in
theorem plater_p (l : List Tm) (a : Nat) (ha : a ≤ 100000) (hl : l.length ≤ 100000) : PCalls Tryz.prog 106 [.d (.sl (l.map encD)), .d (.v (.int .i64 a))] [] fun q s => q = .d (.v (.bool (latF (l.drop (a + 1)) 0))) ∧ s = [] := by
  obtain ⟨R, hR⟩ : ∃ R, R = latF (l.drop (a + 1)) 0 := ⟨_, rfl⟩
  rw [← hR]
  have HR : Hid (R = latF (l.drop (a + 1 + 0)) ((0 : Nat) : Int)) := hR
  have hw := wr64 (n := (a : Int) + 1) (by omega) (by omega)
  clear hR
  refine PCalls.enter Tryz.func106 rfl Tryz.ntmps106 (by simp) ?_
  simp only [argsF]
  refine go_ ?_
  refine PW_loop (ι := Nat) (fun y => y ≤ l.length ∧ Hid (R = latF (l.drop (a + 1 + y)) (y : Int))) (fun y => [(0, .d (.sl (l.map encD))), (1, .d (.v (.int .i64 (a : Int)))), (5, .d (.v (.int .i64 ((a : Int) + 1 + (y : Int)))))]) (fun _ => []) (fun y => l.length - y) 0 ⟨Nat.zero_le _, HR.out⟩ ?_ ?_ ?_
  · repeat (first | exact sub_nil _ | refine sub_cons (by simp [PF.get]; rfl) (by first | rfl | (simp [Int.add_zero, hw]; done) | fail) ?_)
  · repeat (first | exact List.Sublist.refl _ | exact List.nil_sublist _ | refine List.Sublist.cons_cons _ ?_ | refine List.Sublist.cons _ ?_)
  · rintro j ⟨hj, hR⟩
    clear HR
    have hin := wr64 (n := (a : Int) + 1 + (j : Int) + 1) (by omega) (by omega)
    have hin2 := wr64 (n := (a : Int) + 1 + ((j : Int) + 1)) (by omega) (by omega)
    by_cases hlt : a + 1 + j < l.length
    · have hx := get_enc hlt
      have hc : (a : Int) + 1 + (j : Int) < l.length := by omega
      have hn : (0 : Int) ≤ (a : Int) + 1 + (j : Int) := by omega
      have htn : ((a : Int) + 1 + (j : Int)).toNat = a + 1 + j := by omega
      have e1 : (a : Int) + 1 + (j : Int) - a = (j : Int) + 1 := by omega
      have e2 : (j : Int) + 1 - 1 = (j : Int) := by omega
      have hw1 := wr64 (n := (j : Int) + 1) (by omega) (by omega)
      have hw2 := wr64 (n := (j : Int)) (by omega) (by omega)
      have e3 : (a : Int) + 1 + (j : Int) + 1 = (a : Int) + 1 + ((j + 1 : Nat) : Int) := by omega
      have hR2 : Hid (R = (hasT l[a + 1 + j] j || latF (l.drop (a + 1 + (j + 1))) ((j + 1 : Nat) : Int))) := by
        rw [show R = _ from hR.out, List.drop_eq_getElem_cons hlt]
        show _ = _
        simp only [latF]; rfl
      have hc1 := Lib.hid (tHas_p l[a + 1 + j] (j : Int))
      simp only [aggD, encD_tm, List.map_cons, List.map_nil] at hc1
      clear hR
      generalize hasT l[a + 1 + j] j = x' at *
      refine go_ ?_
      refine POps_call_a (hc1.out) ?_
      refine go_ ?_
      clear hc1
      rcases Bool.eq_false_or_eq_true (x') with hq | hq
      · have hf : Hid (R = true) := by show _ = _; rw [show R = _ from hR2.out, hq]; rfl
        clear hR2
        refine go_ ?_
        refine retP_ok (by simp) (by simp only [Tryz.results106]; rfl) (by simp [resP, St.box?, PF.get, loadB, TyK.agg, *]; rfl) (List.nil_sublist _) ?_
        exact ⟨by rw [hf.out]; rfl, rfl⟩
      have hR3 : Hid (R = latF (l.drop (a + 1 + (j + 1))) ((j + 1 : Nat) : Int)) := by show _ = _; rw [show R = _ from hR2.out, hq]; rfl
      clear hR2
      refine go_ ?_
      exact ⟨j + 1, ⟨by omega, hR3⟩, by omega, by repeat (first | exact sub_nil _ | refine sub_cons (by simp [PF.get]; rfl) (by first | rfl | (simp [*]; done) | fail) ?_), by repeat (first | exact List.Sublist.refl _ | exact List.nil_sublist _ | refine List.Sublist.cons_cons _ ?_ | refine List.Sublist.cons _ ?_)⟩
    · have hc : ¬ (a : Int) + 1 + (j : Int) < l.length := by omega
      have hf : Hid (R = false) := by rw [show R = _ from hR.out, List.drop_of_length_le (by omega)]; rfl
      refine go_ ?_
      refine retP_ok (by simp) (by simp only [Tryz.results106]; rfl) (by simp [resP, St.box?, PF.get, loadB, TyK.agg, *]; rfl) (List.nil_sublist _) ?_
      exact ⟨by rw [hf.out]; rfl, rfl⟩
set_option maxHeartbeats 8000000 in
theorem pargs_p (l : List Tm) (d p i : Int) (hp0 : 0 ≤ p) (hp1 : p ≤ 24) (hi0 : 0 ≤ i) (hi1 : i ≤ 24) (hl : l.length ≤ 24) (hd : 0 ≤ d) (hs : ∀ t ∈ l, shapedB t = true) :
    PCalls Tryz.prog 74 [.d (.sl (l.map encD)), .d (.v (.int .i64 d)), .d (.v (.int .i64 p)), .d (.v (.int .i64 i))] [] fun q s => q = .tup [.d (.v (.int .i64 (pargF l d p i l 0))), .d (.v (.int .i64 (if 0 ≤ pargF l d p i l 0 then 9 else 0)))] ∧ s = [] := by
  have hfit : ([p, i, (l.length : Int)].all fitB) = true := by
    simp [fitB]
    omega
  have hF := Lib.hid (pfits_p [p, i, (l.length : Int)])
  rw [hfit] at hF
  simp only [List.map_cons, List.map_nil, encD_int] at hF
  obtain ⟨R, hR⟩ : ∃ R, R = pargF l d p i l 0 := ⟨_, rfl⟩
  rw [← hR]
  have HR : Hid (R = pargF l d p i (l.drop 0) 0) := hR
  have HS := Lib.hid hs
  clear hR hs hfit
  refine PCalls.enter Tryz.func74 rfl Tryz.ntmps74 (by simp) ?_
  simp only [argsF]
  refine go_ ?_
  refine POps_bs_a ?_
  refine go_ ?_
  refine POps_call_a (hF.out) ?_
  refine go_ ?_
  clear hF
  refine PW_loop (ι := Nat) (fun y => y ≤ l.length) (fun y => [(0, .d (.sl (l.map encD))), (1, .d (.v (.int .i64 d))), (2, .d (.v (.int .i64 p))), (3, .d (.v (.int .i64 i))), (25, .d (.sl (l.map encD))), (26, .d (.v (.int .i64 l.length))), (27, .d (.v (.int .i64 (y : Int))))]) (fun _ => []) (fun y => l.length - y) 0 (Nat.zero_le _) ?_ ?_ ?_
  · repeat (first | exact sub_nil _ | refine sub_cons (by simp [PF.get]; rfl) (by first | rfl | (simp [*]; done) | fail) ?_)
  · repeat (first | exact List.Sublist.refl _ | exact List.nil_sublist _ | refine List.Sublist.cons_cons _ ?_ | refine List.Sublist.cons _ ?_)
  · rintro j hj
    by_cases hlt : j < l.length
    · have hx := get_enc hlt
      have hc : (j : Int) < l.length := by omega
      have hn : (0 : Int) ≤ j := by omega
      have hin := wr64 (n := (j : Int) + 1) (by omega) (by omega)
      have hS := Lib.hid (tshaped_p l[j])
      rw [HS.out _ (List.getElem_mem hlt)] at hS
      simp only [aggD, encD_tm, List.map_cons, List.map_nil] at hS
      refine go_ ?_
      refine POps_alloc_a ?_
      intro i2 hi2
      try simp only [St.freshB_box, St.freshB_nil, St.freshB_tok, St.freshB_obj] at hi2
      refine go_ ?_
      refine Rd ?_
      refine go_ ?_
      refine POps_call_a (hS.out) ?_
      refine go_ ?_
      exact ⟨j + 1, hlt, by omega, by repeat (first | exact sub_nil _ | refine sub_cons (by simp [PF.get]; rfl) (by first | rfl | (simp [*]; done) | fail) ?_), by repeat (first | exact List.Sublist.refl _ | exact List.nil_sublist _ | refine List.Sublist.cons_cons _ ?_ | refine List.Sublist.cons _ ?_)⟩
    · have hc : ¬ (j : Int) < l.length := by omega
      clear hj hlt
      refine go_ ?_
      refine PW_loop (ι := Nat) (fun y => y ≤ l.length ∧ Hid (R = pargF l d p i (l.drop y) y)) (fun y => [(0, .d (.sl (l.map encD))), (1, .d (.v (.int .i64 d))), (2, .d (.v (.int .i64 p))), (3, .d (.v (.int .i64 i))), (35, .d (.sl (l.map encD))), (36, .d (.v (.int .i64 l.length))), (37, .d (.v (.int .i64 (y : Int))))]) (fun _ => []) (fun y => l.length - y) 0 ⟨Nat.zero_le _, HR.out⟩ ?_ ?_ ?_
      · repeat (first | exact sub_nil _ | refine sub_cons (by simp [PF.get]; rfl) (by first | rfl | (simp [*]; done) | fail) ?_)
      · repeat (first | exact List.Sublist.refl _ | exact List.nil_sublist _ | refine List.Sublist.cons_cons _ ?_ | refine List.Sublist.cons _ ?_)
      · rintro m ⟨hm, hR⟩
        clear HR hc
        by_cases hlt : m < l.length
        · have hx := get_enc hlt
          have hc : (m : Int) < l.length := by omega
          have hn : (0 : Int) ≤ m := by omega
          have hin := wr64 (n := (m : Int) + 1) (by omega) (by omega)
          have hw1 := wr64 (n := p - 1) (by omega) (by omega)
          have hw2 := wr64 (n := p - 1 + (m : Int)) (by omega) (by omega)
          have hR2 : Hid (R = if (decide (-2 < chkT l[m] d p i (p - 1 + (m : Int))) || (stT l[m] d && latF (l.drop (m + 1)) 0)) = true then (m : Int) else pargF l d p i (l.drop (m + 1)) (m + 1)) := by
            rw [show R = _ from hR.out, List.drop_eq_getElem_cons hlt]
            show _ = _
            simp only [pargF, badA]; rfl
          have hC := Lib.hid (pcheck_p l[m] d p i (p - 1 + (m : Int)) (HS.out _ (List.getElem_mem hlt)) hp0 hp1 hi0 hi1 (by omega) (by omega))
          have hT := Lib.hid (pstands_p l[m] d)
          have hL := Lib.hid (plater_p l m (by omega) (by omega))
          simp only [aggD, encD_tm, List.map_cons, List.map_nil] at hC hT
          clear hR
          generalize chkT l[m] d p i (p - 1 + (m : Int)) = cv at *
          generalize stT l[m] d = sv at *
          generalize latF (l.drop (m + 1)) 0 = lv at *
          refine go_ ?_
          refine POps_alloc_a ?_
          intro i2 hi2
          try simp only [St.freshB_box, St.freshB_nil, St.freshB_tok, St.freshB_obj] at hi2
          refine go_ ?_
          refine Rd ?_
          refine go_ ?_
          refine POps_call_a (hC.out) ?_
          refine go_ ?_
          clear hC
          by_cases hcv : -2 < cv
          · have hf : Hid (R = m) := by show _ = _; rw [show R = _ from hR2.out, decide_eq_true hcv]; rfl
            clear hR2
            refine go_ ?_
            refine retP_ok (by simp) (by simp only [Tryz.results74]; rfl) (by simp [resP, St.box?, PF.get, loadB, TyK.agg, *]; rfl) (List.nil_sublist _) ?_
            refine ⟨?_, rfl⟩
            rw [show R = _ from hf.out, if_pos (by omega)]; rfl
          refine go_ ?_
          refine POps_call_b (hT.out) ?_
          refine go_ ?_
          clear hT
          rcases Bool.eq_false_or_eq_true (sv) with hsv | hsv
          rotate_left
          · have hR3 : Hid (R = pargF l d p i (l.drop (m + 1)) (m + 1)) := by show _ = _; rw [show R = _ from hR2.out, decide_eq_false hcv, hsv]; simp
            clear hR2
            refine go_ ?_
            exact ⟨m + 1, ⟨hlt, hR3⟩, by omega, by repeat (first | exact sub_nil _ | refine sub_cons (by simp [PF.get]; rfl) (by first | rfl | (simp [*]; done) | fail) ?_), by repeat (first | exact List.Sublist.refl _ | exact List.nil_sublist _ | refine List.Sublist.cons_cons _ ?_ | refine List.Sublist.cons _ ?_)⟩
          refine go_ ?_
          refine POps_call_b (hL.out) ?_
          refine go_ ?_
          clear hL
          rcases Bool.eq_false_or_eq_true (lv) with hlv | hlv
          · have hf : Hid (R = m) := by show _ = _; rw [show R = _ from hR2.out, hsv, hlv]; simp
            clear hR2
            refine go_ ?_
            refine retP_ok (by simp) (by simp only [Tryz.results74]; rfl) (by simp [resP, St.box?, PF.get, loadB, TyK.agg, *]; rfl) (List.nil_sublist _) ?_
            refine ⟨?_, rfl⟩
            rw [show R = _ from hf.out, if_pos (by omega)]; rfl
          have hR3 : Hid (R = pargF l d p i (l.drop (m + 1)) (m + 1)) := by show _ = _; rw [show R = _ from hR2.out, decide_eq_false hcv, hsv, hlv]; simp
          clear hR2
          refine go_ ?_
          exact ⟨m + 1, ⟨hlt, hR3⟩, by omega, by repeat (first | exact sub_nil _ | refine sub_cons (by simp [PF.get]; rfl) (by first | rfl | (simp [*]; done) | fail) ?_), by repeat (first | exact List.Sublist.refl _ | exact List.nil_sublist _ | refine List.Sublist.cons_cons _ ?_ | refine List.Sublist.cons _ ?_)⟩
        · have hc : ¬ (m : Int) < l.length := by omega
          have hf : Hid (R = -1) := by rw [show R = _ from hR.out, List.drop_of_length_le (by omega)]; rfl
          refine go_ ?_
          refine retP_ok (by simp) (by simp only [Tryz.results74]; rfl) (by simp [resP, St.box?, PF.get, loadB, TyK.agg, *]; rfl) (List.nil_sublist _) ?_
          refine ⟨?_, rfl⟩
          rw [show R = _ from hf.out]; rfl
end Go.Proofs.YtfnfbbmegdkhjaaGreat

namespace Go.Proofs.YtfnfbbmegdkhjaaGreat
open Go.RowKit
set_option maxRecDepth 100000
theorem st_any (t : Tm) (d : Int) : stT t d = (nmT 6 7 t).any fun n => n == d := by
  rw [Bool.eq_iff_iff, ← nm_stands, List.any_eq_true]
  constructor
  · intro h; exact ⟨d, h, by simp⟩
  · rintro ⟨n, h1, h2⟩
    obtain rfl := beq_iff_eq.1 h2
    exact h1
set_option maxHeartbeats 8000000 in
theorem rstands_p (t : Tm) (d : Int) (hn : cndT t ≤ 50000) : PCalls Tryz.prog 18 [aggD t, .d (.v (.int .i64 d))] [] fun q s => q = .d (.v (.bool (stT t d))) ∧ s = [] := by
  rw [st_any]
  have hN := Lib.hid (rnumbers_p t 6 7 hn)
  have hlen : (nmT 6 7 t).length ≤ 50000 := Nat.le_trans (nm_len 6 7 t) hn
  generalize nmT 6 7 t = l at *
  obtain ⟨R, hR⟩ : ∃ R, R = l.any fun n => n == d := ⟨_, rfl⟩
  rw [← hR]
  have HR : Hid (R = (l.drop 0).any fun n => n == d) := hR
  clear hR
  simp only [aggD, encD_tm, List.map_cons, List.map_nil] at hN ⊢
  refine PCalls.enter Tryz.func18 rfl Tryz.ntmps18 (by simp) ?_
  simp only [argsF]
  refine go_ ?_
  refine POps_box_a ?_
  intro i0 hi0
  refine go_ ?_
  refine POps_call_a (hN.out) ?_
  refine go_ ?_
  clear hN
  refine PW_loop (ι := Nat) (fun y => y ≤ l.length ∧ Hid (R = (l.drop y).any fun n => n == d)) (fun y => [(1, .d (.v (.int .i64 d))), (5, .d (.sl (l.map encD))), (6, .d (.v (.int .i64 (y : Int))))]) (fun _ => []) (fun y => l.length - y) 0 ⟨Nat.zero_le _, HR.out⟩ ?_ ?_ ?_
  · repeat (first | exact sub_nil _ | refine sub_cons (by simp [PF.get]; rfl) (by first | rfl | (simp [*]; done) | fail) ?_)
  · repeat (first | exact List.Sublist.refl _ | exact List.nil_sublist _ | refine List.Sublist.cons_cons _ ?_ | refine List.Sublist.cons _ ?_)
  · rintro j ⟨hj, hR⟩
    clear HR
    by_cases hlt : j < l.length
    · have hx := get_enc hlt
      have hc : (j : Int) < l.length := by omega
      have hn : (0 : Int) ≤ j := by omega
      have hin := wr64 (n := (j : Int) + 1) (by omega) (by omega)
      have hR2 : Hid (R = ((l[j] == d) || (l.drop (j + 1)).any fun n => n == d)) := by
        rw [show R = _ from hR.out, List.drop_eq_getElem_cons hlt]; rfl
      clear hR
      cases hq : (l[j] == d) with
      | true =>
        have hf : Hid (R = true) := by show _ = _; rw [show R = _ from hR2.out, hq]; rfl
        clear hR2
        refine go_ ?_
        refine retP_ok (by simp) (by simp only [Tryz.results18]; rfl) (by simp [resP, St.box?, PF.get, loadB, TyK.agg, *]; rfl) (List.nil_sublist _) ?_
        exact ⟨by rw [hf.out]; rfl, rfl⟩
      | false =>
        have hR3 : Hid (R = (l.drop (j + 1)).any fun n => n == d) := by show _ = _; rw [show R = _ from hR2.out, hq]; rfl
        clear hR2
        refine go_ ?_
        exact ⟨j + 1, ⟨hlt, hR3⟩, by omega, by repeat (first | exact sub_nil _ | refine sub_cons (by simp [PF.get]; rfl) (by first | rfl | (simp [*]; done) | fail) ?_), by repeat (first | exact List.Sublist.refl _ | exact List.nil_sublist _ | refine List.Sublist.cons_cons _ ?_ | refine List.Sublist.cons _ ?_)⟩
    · have hc : ¬ (j : Int) < l.length := by omega
      have hf : Hid (R = false) := by rw [show R = _ from hR.out, List.drop_of_length_le (by omega)]; rfl
      refine go_ ?_
      refine retP_ok (by simp) (by simp only [Tryz.results18]; rfl) (by simp [resP, St.box?, PF.get, loadB, TyK.agg, *]; rfl) (List.nil_sublist _) ?_
      exact ⟨by rw [hf.out]; rfl, rfl⟩
theorem firstS_none {d : Int} : ∀ {l : List Tm} {k : Nat}, firstS d l k = none ↔ ∀ a ∈ l, stT a d = false := by
  intro l
  induction l with
  | nil => intro k; simp [firstS]
  | cons a r ih =>
    intro k
    simp only [firstS]
    by_cases h : stT a d = true
    · rw [if_pos h]
      simp [h]
    · rw [if_neg h, ih]
      simp [h]
theorem small_nd {t : Tm} (h : shapedB t = true) : cndT t ≤ 50000 := by have := (shaped_hg h).2.2; omega
theorem args_shaped : ∀ (m : Nat) (t : Tm), cndT t ≤ m → shapedB t = true → ∀ a ∈ argsT t, shapedB a = true := by
  intro m
  induction m with
  | zero => intro t h; have := cndT_pos t; omega
  | succ m ih =>
    intro t h hs
    by_cases hk : t.kind = 5
    · obtain ⟨hg, h1, h2⟩ := shaped_hg hs
      cases t with
      | mk k n sub =>
        obtain rfl : k = 5 := hk
        have hn := head_num (good_parts hg).1
        have hl : (sub.length : Int) = subsOf 5 := hn.2.2.2.2
        have hl1 : (sub.length : Int) = 2 := by rw [hl]; rfl
        have hl2 : sub.length = 2 := by omega
        match sub, hl2 with
        | [f, a], _ =>
          rw [(spine_mk n f a).2]
          have hp := (good_parts hg).2
          have e1 := cnd_two 5 n f a
          have hc1 : chgT f ≤ 128 ∧ chgT a ≤ 128 := by simp only [chgT, chgL] at h1; omega
          have sf := shaped_of (hp f (by simp)) hc1.1 (by omega)
          have sa := shaped_of (hp a (by simp)) hc1.2 (by omega)
          intro b hb
          rcases List.mem_append.1 hb with hb | hb
          · exact ih f (by have := cndT_pos a; omega) sf b hb
          · rw [List.mem_singleton.1 hb]; exact sa
    · rw [(spine_mk0 hk).2]
      intro a ha; cases ha
set_option maxHeartbeats 8000000 in
theorem rtype_p (t : Tm) (d p i first : Int) (hs : shapedB t = true) (hp0 : 0 ≤ p) (hp1 : p ≤ 24) (hi0 : 0 ≤ i) (hi1 : i ≤ 24) (hf0 : -1 ≤ first) (hf1 : first ≤ 50000) :
    PCalls Tryz.prog 76 [aggD t, .d (.v (.int .i64 d)), .d (.v (.int .i64 p)), .d (.v (.int .i64 i)), .d (.v (.int .i64 first))] [] fun q s => q = .d (.v (.int .i64 (chkT t d p i first))) ∧ s = [] := by
  have hS := Lib.hid (rstands_p t d (small_nd hs))
  have hT := Lib.hid (rTele_p t (shaped_hg hs).1 (by have := small_nd hs; omega))
  have hB := Lib.hid (rBeneath_p t (shaped_hg hs).1)
  obtain ⟨hw1, hw2, -, -, hsb, hst⟩ := tele_whole _ t (Nat.le_refl _) hs
  have hA := Lib.hid (rArgs_p (benT t) (shaped_hg hsb).1 (by have := small_nd hsb; omega))
  obtain ⟨R, hR⟩ : ∃ R, R = chkT t d p i first := ⟨_, rfl⟩
  rw [← hR]
  unfold chkT chkR at hR
  simp only [Nat.zero_add] at hR
  rw [own_applied _ _ _ _ _ hp0 hi0] at hR
  have HR := Lib.hid hR
  have hlen : (teleT t).length ≤ 8192 := by have := tele_len t; have := (shaped_hg hs).2.2; omega
  have hlen2 : (argsT (benT t)).length ≤ 8192 := by have := args_len (benT t); have := (shaped_hg hsb).2.2; omega
  have HSB := Lib.hid hsb
  have HST := Lib.hid hst
  have HAS := Lib.hid (args_shaped _ _ (Nat.le_refl _) hsb)
  clear hR hw1 hw2 hsb hst hs
  simp only [aggD, encD_tm, List.map_cons, List.map_nil] at hS hT hB hA ⊢
  have hP : Hid ((teleT t).length ≤ 24 → PCalls Tryz.prog 51 [aggD (benT t), .d (.v (.int .i64 d)), .d (.v (.int .i64 p)), .d (.v (.int .i64 i)), .d (.v (.int .i64 (first + 1 + ((teleT t).length : Int))))] [] fun q s => q = .d (.v (.bool (appliedT (benT t) d p i (first + 1 + ((teleT t).length : Int))))) ∧ s = []) := fun h => rapplied_p (benT t) d p i _ HSB.out hp0 hp1 hi0 hi1 (by omega) (by omega)
  simp only [aggD, encD_tm, List.map_cons, List.map_nil] at hP
  rw [show first + ((teleT t).length : Int) + 1 = first + 1 + ((teleT t).length : Int) by omega] at HR
  generalize appliedT (benT t) d p i (first + 1 + ((teleT t).length : Int)) = ap at *
  generalize argsT (benT t) = ar at *
  generalize benT t = bx at *
  generalize teleT t = l at *
  generalize stT t d = b at *
  refine PCalls.enter Tryz.func76 rfl Tryz.ntmps76 (by simp) ?_
  simp only [argsF]
  refine go_ ?_
  refine POps_box_a ?_
  intro i0 hi0
  refine go_ ?_
  refine POps_call_a (hS.out) ?_
  refine go_ ?_
  clear hS
  rcases Bool.eq_false_or_eq_true (b) with hb | hb
  rotate_left
  · have hf : Hid (R = -2) := by show _ = _; rw [show R = _ from HR.out, hb]; rfl
    clear HR
    refine go_ ?_
    refine retP_ok (by simp) (by simp only [Tryz.results76]; rfl) (by simp [resP, St.box?, PF.get, loadB, TyK.agg, *]; rfl) (List.nil_sublist _) ?_
    exact ⟨by rw [hf.out]; rfl, rfl⟩
  have HR0 : Hid (R = match firstS d (l.drop 0) 0 with
    | some q => (q : Int)
    | none => if (decide ((l.length : Int) ≤ 24) && (ap && !(ar.any fun a => stT a d))) = true then -2 else -1) := by show _ = _; rw [show R = _ from HR.out, hb]; rfl
  clear HR
  refine go_ ?_
  refine POps_call_a (hT.out) ?_
  refine go_ ?_
  clear hT
  refine PW_loop (ι := Nat) (fun y => y ≤ l.length ∧ Hid (R = match firstS d (l.drop y) y with
    | some q => (q : Int)
    | none => if (decide ((l.length : Int) ≤ 24) && (ap && !(ar.any fun a => stT a d))) = true then -2 else -1)) (fun y => [(1, .d (.v (.int .i64 d))), (2, .d (.v (.int .i64 p))), (3, .d (.v (.int .i64 i))), (4, .d (.v (.int .i64 first))), (5, .ptr i0 0), (11, .d (.sl (l.map encD))), (12, .d (.v (.int .i64 (y : Int))))]) (fun _ => [.box i0 27 [.d (.v (.int .i64 t.kind)), .d (.v (.int .i64 t.num)), .d (.sl (t.sub.map encD))]]) (fun y => l.length - y) 0 ⟨Nat.zero_le _, HR0.out⟩ ?_ ?_ ?_
  · repeat (first | exact sub_nil _ | refine sub_cons (by simp [PF.get]; rfl) (by first | rfl | (simp [*]; done) | fail) ?_)
  · repeat (first | exact List.Sublist.refl _ | exact List.nil_sublist _ | refine List.Sublist.cons_cons _ ?_ | refine List.Sublist.cons _ ?_)
  · rintro j ⟨hj, hR⟩
    clear HR0
    by_cases hlt : j < l.length
    · have hx := get_enc hlt
      have hc : (j : Int) < l.length := by omega
      have hn : (0 : Int) ≤ j := by omega
      have hin := wr64 (n := (j : Int) + 1) (by omega) (by omega)
      have hR2 := hR.out
      rw [List.drop_eq_getElem_cons hlt] at hR2
      simp only [firstS] at hR2
      have HR2 := Lib.hid hR2
      have hc1 := Lib.hid (rstands_p l[j] d (small_nd (HST.out _ (List.getElem_mem hlt))))
      simp only [aggD, encD_tm, List.map_cons, List.map_nil] at hc1
      clear hR hR2
      generalize stT l[j] d = x' at *
      refine go_ ?_
      refine POps_call_a (hc1.out) ?_
      refine go_ ?_
      clear hc1
      rcases Bool.eq_false_or_eq_true (x') with hq | hq
      · have hf : Hid (R = j) := by show _ = _; rw [show R = _ from HR2.out, hq]; rfl
        clear HR2
        refine go_ ?_
        refine retP_ok (by simp) (by simp only [Tryz.results76]; rfl) (by simp [resP, St.box?, PF.get, loadB, TyK.agg, *]; rfl) (List.nil_sublist _) ?_
        exact ⟨by rw [hf.out]; rfl, rfl⟩
      have hR3 := HR2.out
      rw [hq] at hR3
      simp only [Bool.false_eq_true, if_false] at hR3
      have HR3 := Lib.hid hR3
      clear HR2 hR3
      refine go_ ?_
      exact ⟨j + 1, ⟨hlt, HR3⟩, by omega, by repeat (first | exact sub_nil _ | refine sub_cons (by simp [PF.get]; rfl) (by first | rfl | (simp [*]; done) | fail) ?_), by repeat (first | exact List.Sublist.refl _ | exact List.nil_sublist _ | refine List.Sublist.cons_cons _ ?_ | refine List.Sublist.cons _ ?_)⟩
    · have hc : ¬ (j : Int) < l.length := by omega
      have HR : Hid (R = if (decide ((l.length : Int) ≤ 24) && (ap && !(ar.any fun a => stT a d))) = true then -2 else -1) := by rw [show R = _ from hR.out, List.drop_of_length_le (by omega)]; rfl
      clear hR
      refine go_ ?_
      refine POps_call_a (hB.out) ?_
      refine go_ ?_
      clear hB
      refine POps_alloc_a ?_
      intro i1 hi1
      try simp only [St.freshB_box, St.freshB_nil, St.freshB_tok, St.freshB_obj] at hi1
      refine go_ ?_
      refine Rd ?_
      refine go_ ?_
      by_cases h24 : (l.length : Int) ≤ 24
      rotate_left
      · have hf : Hid (R = -1) := by show _ = _; rw [show R = _ from HR.out, decide_eq_false h24]; rfl
        have h24b : (24 : Int) < l.length := by omega
        clear HR hP
        refine go_ ?_
        refine retP_ok (by simp) (by simp only [Tryz.results76]; rfl) (by simp [resP, St.box?, PF.get, loadB, TyK.agg, *]; rfl) (List.nil_sublist _) ?_
        exact ⟨by rw [hf.out]; rfl, rfl⟩
      have h24c : ¬ (24 : Int) < l.length := by omega
      have hw1 := wr64 (n := first + 1) (by omega) (by omega)
      have hw2 := wr64 (n := first + 1 + (l.length : Int)) (by omega) (by omega)
      have hPP := Lib.hid (hP.out (by omega))
      clear hP
      refine go_ ?_
      refine POps_call_b (hPP.out) ?_
      refine go_ ?_
      clear hPP
      rcases Bool.eq_false_or_eq_true (ap) with hap | hap
      rotate_left
      · have hf : Hid (R = -1) := by show _ = _; rw [show R = _ from HR.out, hap]; simp
        clear HR
        refine go_ ?_
        refine retP_ok (by simp) (by simp only [Tryz.results76]; rfl) (by simp [resP, St.box?, PF.get, loadB, TyK.agg, *]; rfl) (List.nil_sublist _) ?_
        exact ⟨by rw [hf.out]; rfl, rfl⟩
      have HR0 : Hid (R = if ((ar.drop 0).any fun a => stT a d) = true then -1 else -2) := by
        show _ = _
        rw [show R = _ from HR.out, hap, decide_eq_true h24, List.drop_zero]
        cases ar.any fun a => stT a d <;> rfl
      clear HR
      refine go_ ?_
      refine POps_call_a (hA.out) ?_
      refine go_ ?_
      clear hA
      refine PW_loop (ι := Nat) (fun y => y ≤ ar.length ∧ Hid (R = if ((ar.drop y).any fun a => stT a d) = true then -1 else -2)) (fun y => [(1, .d (.v (.int .i64 d))), (14, .d (.sl (ar.map encD))), (15, .d (.v (.int .i64 (y : Int))))]) (fun _ => []) (fun y => ar.length - y) 0 ⟨Nat.zero_le _, HR0.out⟩ ?_ ?_ ?_
      · repeat (first | exact sub_nil _ | refine sub_cons (by simp [PF.get]; rfl) (by first | rfl | (simp [*]; done) | fail) ?_)
      · repeat (first | exact List.Sublist.refl _ | exact List.nil_sublist _ | refine List.Sublist.cons_cons _ ?_ | refine List.Sublist.cons _ ?_)
      · rintro m ⟨hm, hR⟩
        clear HR0 hc hlt hj
        by_cases hlt : m < ar.length
        · have hx := get_enc hlt
          have hc : (m : Int) < ar.length := by omega
          have hn : (0 : Int) ≤ m := by omega
          have hin := wr64 (n := (m : Int) + 1) (by omega) (by omega)
          have hR2 : Hid (R = if (stT ar[m] d || (ar.drop (m + 1)).any fun a => stT a d) = true then -1 else -2) := by
            rw [show R = _ from hR.out, List.drop_eq_getElem_cons hlt]
            show _ = _
            simp only [List.any_cons]; rfl
          have hc1 := Lib.hid (rstands_p ar[m] d (small_nd (HAS.out _ (List.getElem_mem hlt))))
          simp only [aggD, encD_tm, List.map_cons, List.map_nil] at hc1
          clear hR
          generalize stT ar[m] d = x' at *
          refine go_ ?_
          refine POps_call_a (hc1.out) ?_
          refine go_ ?_
          clear hc1
          rcases Bool.eq_false_or_eq_true (x') with hq | hq
          · have hf : Hid (R = -1) := by show _ = _; rw [show R = _ from hR2.out, hq]; rfl
            clear hR2
            refine go_ ?_
            refine retP_ok (by simp) (by simp only [Tryz.results76]; rfl) (by simp [resP, St.box?, PF.get, loadB, TyK.agg, *]; rfl) (List.nil_sublist _) ?_
            exact ⟨by rw [hf.out]; rfl, rfl⟩
          have hR3 : Hid (R = if ((ar.drop (m + 1)).any fun a => stT a d) = true then -1 else -2) := by show _ = _; rw [show R = _ from hR2.out, hq]; rfl
          clear hR2
          refine go_ ?_
          exact ⟨m + 1, ⟨hlt, hR3⟩, by omega, by repeat (first | exact sub_nil _ | refine sub_cons (by simp [PF.get]; rfl) (by first | rfl | (simp [*]; done) | fail) ?_), by repeat (first | exact List.Sublist.refl _ | exact List.nil_sublist _ | refine List.Sublist.cons_cons _ ?_ | refine List.Sublist.cons _ ?_)⟩
        · have hc : ¬ (m : Int) < ar.length := by omega
          have hf : Hid (R = -2) := by rw [show R = _ from hR.out, List.drop_of_length_le (by omega)]; rfl
          refine go_ ?_
          refine retP_ok (by simp) (by simp only [Tryz.results76]; rfl) (by simp [resP, St.box?, PF.get, loadB, TyK.agg, *]; rfl) (List.nil_sublist _) ?_
          exact ⟨by rw [hf.out]; rfl, rfl⟩
theorem has_hs {t : Tm} {n : Int} (hs : shapedB t = true) (h0 : 0 ≤ n) (h1 : n ≤ 1048576) : hasT t n = hsT t n := by
  unfold hasT
  rw [hs, decide_eq_true h0, decide_eq_true h1]; rfl
set_option maxHeartbeats 8000000 in
theorem rpargs_p (l : List Tm) (d p i : Int) (hp0 : 0 ≤ p) (hp1 : p ≤ 24) (hi0 : 0 ≤ i) (hi1 : i ≤ 24) (hl : l.length ≤ 24) (hs : ∀ t ∈ l, shapedB t = true) :
    PCalls Tryz.prog 44 [.d (.sl (l.map encD)), .d (.v (.int .i64 d)), .d (.v (.int .i64 p)), .d (.v (.int .i64 i))] [] fun q s => q = .d (.v (.int .i64 (pargF l d p i l 0))) ∧ s = [] := by
  obtain ⟨R, hR⟩ : ∃ R, R = pargF l d p i l 0 := ⟨_, rfl⟩
  rw [← hR]
  have HR : Hid (R = pargF l d p i (l.drop 0) 0) := hR
  have HS := Lib.hid hs
  clear hR hs
  refine PCalls.enter Tryz.func44 rfl Tryz.ntmps44 (by simp) ?_
  simp only [argsF]
  refine go_ ?_
  refine PW_loop (ι := Nat) (fun y => y ≤ l.length ∧ Hid (R = pargF l d p i (l.drop y) y)) (fun y => [(0, .d (.sl (l.map encD))), (1, .d (.v (.int .i64 d))), (2, .d (.v (.int .i64 p))), (3, .d (.v (.int .i64 i))), (9, .d (.v (.int .i64 (y : Int))))]) (fun _ => []) (fun y => l.length - y) 0 ⟨Nat.zero_le _, HR.out⟩ ?_ ?_ ?_
  · repeat (first | exact sub_nil _ | refine sub_cons (by simp [PF.get]; rfl) (by first | rfl | (simp [*]; done) | fail) ?_)
  · repeat (first | exact List.Sublist.refl _ | exact List.nil_sublist _ | refine List.Sublist.cons_cons _ ?_ | refine List.Sublist.cons _ ?_)
  · rintro m ⟨hm, hR⟩
    clear HR
    by_cases hlt : m < l.length
    · have hx := get_enc hlt
      have hc : (m : Int) < l.length := by omega
      have hn : (0 : Int) ≤ m := by omega
      have hin := wr64 (n := (m : Int) + 1) (by omega) (by omega)
      have hw1 := wr64 (n := p - 1) (by omega) (by omega)
      have hw2 := wr64 (n := p - 1 + (m : Int)) (by omega) (by omega)
      have hR2 : Hid (R = if (decide (-2 < chkT l[m] d p i (p - 1 + (m : Int))) || (stT l[m] d && latF (l.drop (m + 1 + 0)) ((0 : Nat) : Int))) = true then (m : Int) else pargF l d p i (l.drop (m + 1)) (m + 1)) := by
        rw [show R = _ from hR.out, List.drop_eq_getElem_cons hlt]
        show _ = _
        simp only [pargF, badA]; rfl
      have hC := Lib.hid (rtype_p l[m] d p i (p - 1 + (m : Int)) (HS.out _ (List.getElem_mem hlt)) hp0 hp1 hi0 hi1 (by omega) (by omega))
      have hT := Lib.hid (rstands_p l[m] d (small_nd (HS.out _ (List.getElem_mem hlt))))
      simp only [aggD, encD_tm, List.map_cons, List.map_nil] at hC hT
      clear hR
      generalize chkT l[m] d p i (p - 1 + (m : Int)) = cv at *
      generalize stT l[m] d = sv at *
      refine go_ ?_
      refine POps_call_a (hC.out) ?_
      refine go_ ?_
      clear hC
      by_cases hcv : -2 < cv
      · have hf : Hid (R = m) := by show _ = _; rw [show R = _ from hR2.out, decide_eq_true hcv]; rfl
        clear hR2
        refine go_ ?_
        refine retP_ok (by simp) (by simp only [Tryz.results44]; rfl) (by simp [resP, St.box?, PF.get, loadB, TyK.agg, *]; rfl) (List.nil_sublist _) ?_
        exact ⟨by rw [hf.out]; rfl, rfl⟩
      have HR2 : Hid (R = if (sv && latF (l.drop (m + 1 + 0)) ((0 : Nat) : Int)) = true then (m : Int) else pargF l d p i (l.drop (m + 1)) (m + 1)) := by show _ = _; rw [show R = _ from hR2.out, decide_eq_false hcv]; rfl
      clear hR2
      refine go_ ?_
      refine PW_loop (ι := Nat) (fun y => y ≤ l.length ∧ Hid (R = if (sv && latF (l.drop (m + 1 + y)) (y : Int)) = true then (m : Int) else pargF l d p i (l.drop (m + 1)) (m + 1))) (fun y => [(0, .d (.sl (l.map encD))), (1, .d (.v (.int .i64 d))), (2, .d (.v (.int .i64 p))), (3, .d (.v (.int .i64 i))), (9, .d (.v (.int .i64 (m : Int)))), (10, .d (.v (.int .i64 ((m : Int) + 1 + (y : Int)))))]) (fun _ => []) (fun y => l.length - y) 0 ⟨Nat.zero_le _, HR2.out⟩ ?_ ?_ ?_
      · repeat (first | exact sub_nil _ | refine sub_cons (by simp [PF.get]; rfl) (by first | rfl | (simp [Int.add_zero, hin]; done) | fail) ?_)
      · repeat (first | exact List.Sublist.refl _ | exact List.nil_sublist _ | refine List.Sublist.cons_cons _ ?_ | refine List.Sublist.cons _ ?_)
      · rintro j ⟨hj, hR⟩
        clear HR2 hcv
        have hin2 := wr64 (n := (m : Int) + 1 + (j : Int) + 1) (by omega) (by omega)
        have hin3 := wr64 (n := (m : Int) + 1 + ((j : Int) + 1)) (by omega) (by omega)
        by_cases hlt2 : m + 1 + j < l.length
        · have hx2 := get_enc hlt2
          have hc2 : (m : Int) + 1 + (j : Int) < l.length := by omega
          have hn2 : (0 : Int) ≤ (m : Int) + 1 + (j : Int) := by omega
          have htn : ((m : Int) + 1 + (j : Int)).toNat = m + 1 + j := by omega
          have e1 : (m : Int) + 1 + (j : Int) - m = (j : Int) + 1 := by omega
          have e2 : (j : Int) + 1 - 1 = (j : Int) := by omega
          have hw3 := wr64 (n := (j : Int) + 1) (by omega) (by omega)
          have hw4 := wr64 (n := (j : Int)) (by omega) (by omega)
          have e3 : (m : Int) + 1 + (j : Int) + 1 = (m : Int) + 1 + ((j + 1 : Nat) : Int) := by omega
          have hsh := HS.out _ (List.getElem_mem hlt2)
          have hR2 : Hid (R = if (sv && (hsT l[m + 1 + j] j || latF (l.drop (m + 1 + (j + 1))) ((j + 1 : Nat) : Int))) = true then (m : Int) else pargF l d p i (l.drop (m + 1)) (m + 1)) := by
            rw [show R = _ from hR.out, List.drop_eq_getElem_cons hlt2]
            show _ = _
            have e9 : hasT l[m + 1 + j] (j : Int) = hsT l[m + 1 + j] (j : Int) := has_hs hsh (by omega) (by omega)
            simp only [latF, e9]; rfl
          have hc1 := Lib.hid (rhas_p l[m + 1 + j] (j : Int) (shaped_hg hsh).1 (by omega) (by have := (shaped_hg hsh).2.1; omega))
          simp only [aggD, encD_tm, List.map_cons, List.map_nil] at hc1
          clear hR hsh
          generalize hsT l[m + 1 + j] j = x' at *
          refine go_ ?_
          refine POps_call_a (hT.out) ?_
          refine go_ ?_
          rcases Bool.eq_false_or_eq_true (sv) with hsv | hsv
          rotate_left
          · have hR3 : Hid (R = if (sv && latF (l.drop (m + 1 + (j + 1))) ((j + 1 : Nat) : Int)) = true then (m : Int) else pargF l d p i (l.drop (m + 1)) (m + 1)) := by show _ = _; rw [show R = _ from hR2.out, hsv]; rfl
            clear hR2
            refine go_ ?_
            exact ⟨j + 1, ⟨by omega, hR3⟩, by omega, by repeat (first | exact sub_nil _ | refine sub_cons (by simp [PF.get]; rfl) (by first | rfl | (simp [*]; done) | fail) ?_), by repeat (first | exact List.Sublist.refl _ | exact List.nil_sublist _ | refine List.Sublist.cons_cons _ ?_ | refine List.Sublist.cons _ ?_)⟩
          refine go_ ?_
          refine POps_call_b (hc1.out) ?_
          refine go_ ?_
          clear hc1
          rcases Bool.eq_false_or_eq_true (x') with hq | hq
          · have hf : Hid (R = m) := by show _ = _; rw [show R = _ from hR2.out, hq, hsv]; rfl
            clear hR2
            refine go_ ?_
            refine retP_ok (by simp) (by simp only [Tryz.results44]; rfl) (by simp [resP, St.box?, PF.get, loadB, TyK.agg, *]; rfl) (List.nil_sublist _) ?_
            exact ⟨by rw [hf.out]; rfl, rfl⟩
          have hR3 : Hid (R = if (sv && latF (l.drop (m + 1 + (j + 1))) ((j + 1 : Nat) : Int)) = true then (m : Int) else pargF l d p i (l.drop (m + 1)) (m + 1)) := by show _ = _; rw [show R = _ from hR2.out, hq]; rfl
          clear hR2
          refine go_ ?_
          exact ⟨j + 1, ⟨by omega, hR3⟩, by omega, by repeat (first | exact sub_nil _ | refine sub_cons (by simp [PF.get]; rfl) (by first | rfl | (simp [*]; done) | fail) ?_), by repeat (first | exact List.Sublist.refl _ | exact List.nil_sublist _ | refine List.Sublist.cons_cons _ ?_ | refine List.Sublist.cons _ ?_)⟩
        · have hc2 : ¬ (m : Int) + 1 + (j : Int) < l.length := by omega
          have hR3 : Hid (R = pargF l d p i (l.drop (m + 1)) (m + 1)) := by
            show _ = _
            rw [show R = _ from hR.out, List.drop_of_length_le (show l.length ≤ m + 1 + j by omega)]
            simp only [latF, Bool.and_false]; rfl
          clear hR
          refine go_ ?_
          exact ⟨m + 1, ⟨hlt, hR3⟩, by omega, by repeat (first | exact sub_nil _ | refine sub_cons (by simp [PF.get]; rfl) (by first | rfl | (simp [*]; done) | fail) ?_), by repeat (first | exact List.Sublist.refl _ | exact List.nil_sublist _ | refine List.Sublist.cons_cons _ ?_ | refine List.Sublist.cons _ ?_)⟩
    · have hc : ¬ (m : Int) < l.length := by omega
      have hf : Hid (R = -1) := by rw [show R = _ from hR.out, List.drop_of_length_le (by omega)]; rfl
      refine go_ ?_
      refine retP_ok (by simp) (by simp only [Tryz.results44]; rfl) (by simp [resP, St.box?, PF.get, loadB, TyK.agg, *]; rfl) (List.nil_sublist _) ?_
      exact ⟨by rw [hf.out]; rfl, rfl⟩
end Go.Proofs.YtfnfbbmegdkhjaaGreat
