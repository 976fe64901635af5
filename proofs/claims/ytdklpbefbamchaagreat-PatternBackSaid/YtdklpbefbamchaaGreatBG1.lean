import Derived.Test.YtdklpbefbamchaaGreatBG
import Derived.Test.YtdklpbefbamchaaGreatBE4
set_option linter.unusedSimpArgs false
set_option linter.unusedVariables false
set_option maxHeartbeats 16000000
set_option maxRecDepth 100000
namespace Go.Proofs.YtdklpbefbamchaaGreat
open Go.RowKit
theorem pnd_take {l : List Pt} {m : Nat} : min (m : Int) (pndL l) ≤ pndL (l.take m) := by
 by_cases h : l.length ≤ m
 ·rw [List.take_of_length_le h]; omega
 ·have := Qgm (l.take m)
  rw [List.length_take] at this
  omega
def plvl (ts : List Pt) : List Pt := ts.flatMap Pt.sub
theorem plvl_nd (ts : List Pt) : pndL (plvl ts) ≤ pndL ts := by
  induction ts with
  | nil => simp [plvl, pndL]
  | cons t ts ih =>
    have h : plvl (t :: ts) = t.sub ++ plvl ts := by simp [plvl]
    rw [h, Qfe]; simp only [pndL]; rw [pnd_sub t]; omega
theorem plvl_hg (ts : List Pt) (h : ts ≠ []) : phgL ts = phgL (plvl ts) + 1 := by
  induction ts with
  | nil => exact absurd rfl h
  | cons t ts ih =>
    have e : plvl (t :: ts) = t.sub ++ plvl ts := by simp [plvl]
    rw [e, phgL_append]
    simp only [phgL]
    rw [phg_sub t]
    by_cases hn : ts = []
    · subst hn; simp [plvl, phgL]
    · rw [ih hn]; omega
theorem plvl_take (ts : List Pt) (k : Nat) (h : k < ts.length) : plvl (ts.take (k + 1)) = plvl (ts.take k) ++ ts[k].sub := by
 unfold plvl; rw [List.take_succ_eq_append_getElem h, List.flatMap_append]; simp
theorem pndL_take (ts : List Pt) (k : Nat) : pndL (ts.take k) ≤ pndL ts := by
 have := Qfe (ts.take k) (ts.drop k)
 rw [List.take_append_drop] at this
 omega
theorem rpSize_p (t : Pt) : PCalls Tryz.prog 39 [aggD t] [] fun p s => p = .d (.v (.int .i64 (min (pndT t : Int) 8193))) ∧ s = [] := by
 obtain ⟨R, hR⟩ : ∃ R : Int, R = min (pndT t : Int) 8193 := ⟨_, rfl⟩
 rw [← hR]
 have HR : Hid (R = min (0 + (pndL [t] : Int)) 8193) := by show _ = _; rw [hR]; simp only [pndL]; omega
 clear hR
 simp only [aggD, Qap, List.map_cons, List.map_nil]
 refine PCalls.enter Tryz.func39 rfl Tryz.ntmps39 (by simp) ?_
 simp only [Qab]
 refine go_ ?_
 refine Jd ?_
 intro i0 hi0
 refine go_ ?_
 refine Qao ?_
 refine go_ ?_
 refine Qak (ι := List Pt × Nat) (fun y => y.2 ≤ 8193 ∧ y.1.length ≤ y.2 * 8193 + 1 ∧ Hid (R = min ((y.2 : Int) + pndL y.1) 8193)) (fun y => [(3, .d (.sl (y.1.map encD))), (4, .d (.v (.int .i64 (y.2 : Int))))]) (fun _ => []) (fun y => 8193 - y.2) ([t], 0) ⟨Nat.zero_le _, by simp, HR.out⟩ ?_ ?_ ?_
 ·repeat (first | exact Jt _ | refine Js (by simp [PF.get]; rfl) (by first | rfl | (simp [*]; done) | fail) ?_)
 ·repeat (first | exact List.Sublist.refl _ | exact List.nil_sublist _ | refine List.Sublist.cons_cons _ ?_ | refine List.Sublist.cons _ ?_)
 ·rintro ⟨l, m⟩ ⟨hm, hll, hR⟩
  simp only at hm hll hR ⊢
  clear HR
  by_cases hl : l = []
  ·subst hl
   have hf : Hid (R = m) := by rw [show R = _ from hR.out]; simp only [pndL]; show _ = _; omega
   refine go_ ?_
   refine Jm (by simp) (by simp only [Tryz.results39]; rfl) (by simp [resP, St.box?, PF.get, Jn, TyK.agg, *]; rfl) Nl ?_
   exact ⟨by rw [hf.out]; rfl, rfl⟩
  ·obtain ⟨a, x, rfl⟩ : ∃ a x, l = a ++ [x] := by
    rcases List.eq_nil_or_concat l with h | ⟨a, x, h⟩
    ·exact absurd h hl
    ·exact ⟨a, x, by rw [h, List.concat_eq_append]⟩
   clear hl
   have hx := get_last a x
   have hal1 : a.length + 1 ≤ m * 8193 + 1 := by rw [List.length_append, List.length_singleton] at hll; exact hll
   have hal : a.length ≤ 100000000 := by omega
   have hw1 := wr64 (n := (a.length : Int)) (by omega) (by omega)
   have hw2 := wr64 (n := (m : Int) + 1) (by omega) (by omega)
   have hn2 : (0 : Int) ≤ (a.length : Int) := by omega
   by_cases hb : (m : Int) ≤ 8192
   ·have hR2 : Hid (R = min (((m + 1 : Nat) : Int) + pndL (a ++ x.sub.take 8193)) 8193) := by
     rw [show R = _ from hR.out]
     have h1 := pnd_take (l := x.sub) (m := 8193)
     have h2 : pndL (x.sub.take 8193) ≤ pndL x.sub := by
      have := Qfe (x.sub.take 8193) (x.sub.drop 8193)
      rw [List.take_append_drop] at this; omega
     rw [Qfe, Qfe]
     simp only [pndL, pnd_sub x]
     show _ = _
     omega
    have e1 : ∀ r, List.drop 0 (List.take a.length (List.map encD a ++ r)) = List.map encD a := fun r => by rw [List.drop_zero, List.take_left' (by simp)]
    have e2 : List.drop 0 (List.take (min x.sub.length 8193) (List.map encD x.sub)) = List.map encD (x.sub.take 8193) := by
     rw [List.drop_zero]
     rcases Nat.le_total x.sub.length 8193 with h | h
     ·rw [Nat.min_eq_left h, List.take_of_length_le h, List.take_of_length_le (by simp)]
     ·rw [Nat.min_eq_right h, List.map_take]
    have em : (if (8193 : Int) < (x.sub.length : Int) then (8193 : Int) else x.sub.length) = ((min x.sub.length 8193 : Nat) : Int) := by split <;> omega
    have htl : (x.sub.take 8193).length ≤ 8193 := by rw [List.length_take]; omega
    refine go_ ?_
    refine Je ?_
    intro i1 hi1
    try simp only [Ja, Rh, Rg, Jb] at hi1
    refine go_ ?_
    refine Rd ?_
    refine go_ ?_
    refine Qgo (J := Qcw [(i1, _)]) [(1, .a), (2, .a), (3, .a), (4, .a), (5, .a), (7, .a), (8, .a), (9, .a), (10, .a), (11, .a), (12, .a), (13, .a), (0, .e), (6, .e), (14, .e), (15, .a)] (by kernel_rfl) (by rfl) (by kernel_rfl) (by (repeat (first | exact Qam _ | refine Ju (by simp [St.box?, *] <;> rfl) ?_))) ?_
    repeat (first | with_reducible refine Qby ?_ | refine Qcb ?_ | refine Qcj ?_ | refine Qcr ?_)
    refine Qhg 0 a.length ?_ ?_ (e1 _)
    rotate_left
    ·simpa using rows7 (a ++ [x])
    repeat (first | with_reducible refine Qby ?_ | refine Qcb ?_ | refine Qcj ?_ | refine Qcr ?_)
    refine PJ_min (((min x.sub.length 8193 : Nat) : Int)) em ?_
    repeat (first | with_reducible refine Qby ?_ | refine Qcb ?_ | refine Qcj ?_ | refine Qcr ?_)
    refine Qhg 0 (min x.sub.length 8193) ?_ ?_ e2
    rotate_left
    ·exact rows7 _
    repeat (first | with_reducible refine Qby ?_ | refine Qcb ?_ | refine Qcj ?_ | refine Qcr ?_)
    refine PJ_bs0 (fun g hg => by (repeat (first | exact Qam _ | refine Ju (by simp [St.box?, *] <;> rfl) ?_))) ?_
    intro g hg
    repeat (first | with_reducible refine Qby ?_ | refine Qcb ?_ | refine Qcj ?_ | refine Qcr ?_)
    refine PJ_app a.length ?_ ?_ ?_ ?_ ?_
    ·simp
    ·simp
    ·exact rows7 a
    ·(repeat (first | exact Qam _ | refine Ju (by simp [St.box?, *] <;> rfl) ?_))
    repeat (first | with_reducible refine Qby ?_ | refine Qcb ?_ | refine Qcj ?_ | refine Qcr ?_)
    refine PJ_app (a.length + (x.sub.take 8193).length) ?_ ?_ ?_ ?_ ?_
    ·simp
    ·simp
    ·exact fun row h => rows7 x.sub row (List.mem_of_mem_take h)
    ·(repeat (first | exact Qam _ | refine Ju (by simp [St.box?, *] <;> rfl) ?_))
    refine Qcj ?_
    refine Qby ?_
    refine Qj ?_
    refine Qgb 3 (by simp [PF.get] <;> rfl) ?_
    refine go_ ?_
    refine ⟨(a ++ x.sub.take 8193, m + 1), ⟨by simp only; omega, by simp only; rw [List.length_append]; omega, hR2⟩, by simp only; omega, ?_, by repeat (first | exact List.Sublist.refl _ | exact List.nil_sublist _ | refine List.Sublist.cons_cons _ ?_ | refine List.Sublist.cons _ ?_)⟩
    simp only [PV.norm0]
    repeat (first | exact Jt _ | refine Js (by simp [PF.get]; rfl) (by first | rfl | (simp [hw2]; done) | fail) ?_)
   ·have hf : Hid (R = m) := by rw [show R = _ from hR.out]; show _ = _; omega
    refine go_ ?_
    refine Jm (by simp) (by simp only [Tryz.results39]; rfl) (by simp [resP, St.box?, PF.get, Jn, TyK.agg, *]; rfl) Nl ?_
    exact ⟨by rw [hf.out]; rfl, rfl⟩
theorem rpsmall_p (t : Pt) (hz : pndT t ≤ 8000) : PCalls Tryz.prog 66 [aggD t] [] fun p s => p = .d (.v (.bool (decide (phgT t ≤ 128)))) ∧ s = [] := by
 have hS := rpSize_p t
 rw [show min (pndT t : Int) 8193 = pndT t by omega] at hS
 have hS := Lib.hid hS
 have hnd : pndL [t] ≤ 8192 := by simp only [pndL]; omega
 have hz2 : ¬ 8192 < (pndT t : Int) := by omega
 obtain ⟨R, hR⟩ : ∃ R : Bool, R = decide (phgT t ≤ 128) := ⟨_, rfl⟩
 rw [← hR]
 have HR : Hid (R = decide (0 + phgL [t] ≤ 128)) := by show _ = _; rw [hR, decide_eq_decide]; simp only [phgL]; omega
 clear hR
 generalize (pndT t : Int) = z at *
 simp only [aggD, Qap, List.map_cons, List.map_nil]
 simp only [aggD, Qap, List.map_cons, List.map_nil] at hS
 refine PCalls.enter Tryz.func66 rfl Tryz.ntmps66 (by simp) ?_
 simp only [Qab]
 refine go_ ?_
 refine Jd ?_
 intro i0 hi0
 refine go_ ?_
 refine Jc (hS.out) ?_
 refine go_ ?_
 refine Qao ?_
 refine go_ ?_
 refine Qak (ι := List Pt × Nat) (fun y => y.2 ≤ 129 ∧ pndL y.1 ≤ 8192 ∧ Hid (R = decide (y.2 + phgL y.1 ≤ 128))) (fun y => [(3, .d (.sl (y.1.map encD))), (4, .d (.v (.int .i64 (y.2 : Int))))]) (fun _ => []) (fun y => 129 - y.2) ([t], 0) ⟨Nat.zero_le _, hnd, HR.out⟩ ?_ ?_ ?_
 ·repeat (first | exact Jt _ | refine Js (by simp [PF.get]; rfl) (by first | rfl | (simp [*]; done) | fail) ?_)
 ·repeat (first | exact List.Sublist.refl _ | exact List.nil_sublist _ | refine List.Sublist.cons_cons _ ?_ | refine List.Sublist.cons _ ?_)
 ·rintro ⟨l, m⟩ ⟨hm, hnd, hR⟩
  simp only at hm hnd hR ⊢
  clear HR
  by_cases hb : (m : Int) < 129
  ·by_cases hl : l = []
   ·subst hl
    have hf : Hid (R = true) := by show _ = _; rw [show R = _ from hR.out]; simp only [phgL]; exact decide_eq_true (by omega)
    refine go_ ?_
    refine Jm (by simp) (by simp only [Tryz.results66]; rfl) (by simp [resP, St.box?, PF.get, Jn, TyK.agg, *]; rfl) Nl ?_
    exact ⟨by rw [hf.out]; rfl, rfl⟩
   ·have hpos : 0 < l.length := List.length_pos_iff.2 hl
    have hle : ((l.length : Int) == 0) = false := beq_eq_false_iff_ne.2 (by omega)
    have hw2 := wr64 (n := (m : Int) + 1) (by omega) (by omega)
    have hll : l.length ≤ 8192 := Nat.le_trans (Qgm l) hnd
    have hR2 : Hid (R = decide ((m + 1) + phgL (plvl l) ≤ 128)) := by
     rw [show R = _ from hR.out, plvl_hg l hl]
     show _ = _
     rw [decide_eq_decide]; omega
    have hnd2 : pndL (plvl l) ≤ 8192 := Nat.le_trans (plvl_nd l) hnd
    clear hR
    have hl' := hl
    refine go_ ?_
    refine Qdo ?_ (by decide) (by first | (simp [nev, nevA, nevB, Jp, PF.eval, PF.get, PF.wants, cPV, Qae, PV.rows, Qaf, evUn, Jq, Qah, Qag, Jn, TyK.agg, Qad, St.box?, St.tok?, St.setBox, St.setTok, Qac, spl, PV.ps, PV.one, Jo, aggD, slD, Jh, Jk, Ji, Jj, Jg, Jf, *]; done) | fail) (by simp; rfl) (by rfl) (by simp; rfl) (by rfl) (by decide)
    intro g hg
    refine go_ ?_
    refine Qak (ι := Nat) (fun y => y ≤ l.length) (fun y => [(3, .d (.sl (l.map encD))), (4, .d (.v (.int .i64 (m : Int)))), (5, .own g ((plvl (l.take y)).map encD)), (6, .d (.v (.int .i64 (y : Int))))]) (fun y => [.tok g 44 7 (plvl (l.take y)).length]) (fun y => l.length - y) 0 (Nat.zero_le _) ?_ ?_ ?_
    ·repeat (first | exact Jt _ | refine Js (by simp [PF.get]; rfl) (by first | rfl | (simp [*]; done) | fail) ?_)
    ·repeat (first | exact List.Sublist.refl _ | exact List.nil_sublist _ | refine List.Sublist.cons_cons _ ?_ | refine List.Sublist.cons _ ?_)
    ·rintro k hk
     by_cases hlt : k < l.length
     ·have hx := Qal hlt
      have hc : (k : Int) < l.length := by omega
      have hn : (0 : Int) ≤ k := by omega
      have hin := wr64 (n := (k : Int) + 1) (by omega) (by omega)
      have ht := plvl_take l k hlt
      have hlen : (plvl (l.take (k + 1))).length ≤ 8192 := Nat.le_trans (Qgm _) (Nat.le_trans (plvl_nd _) (Nat.le_trans (pndL_take l (k + 1)) hnd))
      have HT := Lib.hid ht
      rw [ht, List.length_append] at hlen
      clear ht
      refine go_ ?_
      refine Qbe ((plvl (l.take k)).length + l[k].sub.length) ?_ ?_ ?_ ?_
      ·simp
      ·exact rows7 _
      ·exact rows7 _
      refine go_ ?_
      refine ⟨k + 1, hlt, by omega, ?_, ?_⟩
      ·rw [HT.out]
       repeat (first | exact Jt _ | refine Js (by simp [PF.get]; rfl) (by first | rfl | (simp [*]; done) | fail) ?_)
      ·rw [HT.out, List.length_append]
       repeat (first | exact List.Sublist.refl _ | exact List.nil_sublist _ | refine List.Sublist.cons_cons _ ?_ | refine List.Sublist.cons _ ?_)
     ·have hc : ¬ (k : Int) < l.length := by omega
      have htk : l.take k = l := List.take_of_length_le (by omega)
      rw [htk]
      refine gs_ ?_
      refine Qc ?_
      refine gs_ ?_
      refine Qgb 5 (by simp [PF.get] <;> rfl) ?_
      refine go_ ?_
      refine ⟨(plvl l, m + 1), ⟨by simp only; omega, hnd2, hR2⟩, by simp only; omega, ?_, by repeat (first | exact List.Sublist.refl _ | exact List.nil_sublist _ | refine List.Sublist.cons_cons _ ?_ | refine List.Sublist.cons _ ?_)⟩
      simp only [PV.norm0]
      repeat (first | exact Jt _ | refine Js (by simp [PF.get]; rfl) (by first | rfl | (simp [hw2]; done) | fail) ?_)
  ·have hf : Hid (R = false) := by show _ = _; rw [show R = _ from hR.out]; exact decide_eq_false (by omega)
   refine go_ ?_
   refine Jm (by simp) (by simp only [Tryz.results66]; rfl) (by simp [resP, St.box?, PF.get, Jn, TyK.agg, *]; rfl) Nl ?_
   exact ⟨by rw [hf.out]; rfl, rfl⟩
theorem rpgood_p (l : List En) (hF : formedB l = true) : ∀ p : Pt, PCalls Tryz.prog 67 [.d (.sl (l.map encD)), aggD p] [] fun r s => r = .d (.v (.bool (pgT l p))) ∧ s = [] := by
  refine Pt.ind ?_
  intro k n a sub t ih
  obtain ⟨R, hR⟩ : ∃ R, R = pgT l (.mk k n a sub t) := ⟨_, rfl⟩
  rw [← hR]
  simp only [pgT] at hR
  have HR0 := Lib.hid hR
  have hN := Lib.hid (rpzero_p t)
  have hS := Lib.hid (Qgx t)
  have hA := Lib.hid (rarity_p l n hF)
  have IH := Lib.hid ih
  simp only [aggD, Qap, Jl, List.map_cons, List.map_nil, Pt.kind_mk, Pt.num_mk, Pt.at_mk, Pt.sub_mk, Pt.t_mk] at hN hS ⊢
  clear hR ih
  by_cases k2 : k = 2
  · have HR : Hid (R = ((arN l n == (sub.length : Int)) && (Qbp t && pgL l sub))) := by show _ = _; rw [show R = _ from HR0.out]; subst k2; rfl
    subst k2
    clear HR0 hS
    generalize Qbp t = q at *
    generalize arN l n = m at *
    refine PCalls.enter Tryz.func67 rfl Tryz.ntmps67 (by simp) ?_
    simp only [Qab]
    refine Qhh (t := 1) (i := 3) (rows := sub.map encD) (by simp [PF.get] <;> rfl) rfl fun hml => ?_
    rw [List.length_map] at hml
    unfold maxLen at hml
    refine go_ ?_
    refine Jd ?_
    intro i1 hi1
    try simp only [Ja, Rh, Rg, Jb] at hi1
    refine go_ ?_
    refine Qan [(0, .a), (1, .a), (2, .b), (3, .a), (4, .a), (5, .b), (6, .a), (7, .a), (8, .a), (9, .a), (10, .b), (11, .a), (12, .a), (13, .a)] (by kernel_rfl) (by rfl) (by kernel_rfl) ?_
    refine go_ ?_
    refine Qaa (hA.out) ?_
    refine go_ ?_
    obtain ⟨Q, hQ⟩ : ∃ Q, Q = ((m == (sub.length : Int)) && q) := ⟨_, rfl⟩
    have HQ : Hid (R = (Q && pgL l (sub.drop 0))) := by show _ = _; rw [show R = _ from HR.out, hQ, Bool.and_assoc]; rfl
    have main : ∀ fr : PF, fr = [(0, .d (.sl (l.map encD))), (3, .ptr i1 0), (4, .d (.v (.bool false))), (5, .d (.v (.bool Q)))] → True := fun _ _ => trivial
    clear main
    by_cases h1 : m = (sub.length : Int)
    rotate_left
    · have h1b : (m == (sub.length : Int)) = false := beq_eq_false_iff_ne.2 h1
      have hf : Hid (R = false) := by show _ = _; rw [show R = _ from HR.out, h1b]; rfl
      clear h1 HQ hQ
      refine go_ ?_
      refine Qak (ι := Unit) (fun _ => True) (fun _ => [(0, .d (.sl (l.map encD))), (3, .ptr i1 0), (5, .d (.v (.bool false))), (6, .d (.v (.int .i64 0)))]) (fun _ => [.box i1 44 [.d (.v (.int .i64 2)), .d (.v (.int .i64 n)), .d (.v (.int .i64 a)), .d (.sl (sub.map encD)), .d (.v (.int .i64 t.kind)), .d (.v (.int .i64 t.num)), .d (.sl (t.sub.map encD))]]) (fun _ => 0) () trivial ?_ ?_ ?_
      · repeat (first | exact Jt _ | refine Js (by simp [PF.get]; rfl) (by first | rfl | (simp [*]; done) | fail) ?_)
      · repeat (first | exact List.Sublist.refl _ | exact List.nil_sublist _ | refine List.Sublist.cons_cons _ ?_ | refine List.Sublist.cons _ ?_)
      · rintro _ _
        cases sub with
        | nil =>
          refine go_ ?_
          refine Jm (by simp) (by simp only [Tryz.results67]; rfl) (by simp [resP, St.box?, PF.get, Jn, TyK.agg, *]; rfl) Nl ?_
          exact ⟨by rw [hf.out]; rfl, rfl⟩
        | cons x xs =>
          refine go_ ?_
          refine Jm (by simp) (by simp only [Tryz.results67]; rfl) (by simp [resP, St.box?, PF.get, Jn, TyK.agg, *]; rfl) Nl ?_
          exact ⟨by rw [hf.out]; rfl, rfl⟩
    have h1b : (m == (sub.length : Int)) = true := beq_iff_eq.2 h1
    rw [h1b, Bool.true_and] at hQ
    subst hQ
    clear h1
    refine go_ ?_
    refine Qas (hN.out) ?_
    refine go_ ?_
    refine Qak (ι := Nat × Bool) (fun y => y.1 ≤ sub.length ∧ Hid (R = (y.2 && pgL l (sub.drop y.1)))) (fun y => [(0, .d (.sl (l.map encD))), (3, .ptr i1 0), (5, .d (.v (.bool y.2))), (6, .d (.v (.int .i64 (y.1 : Int))))]) (fun _ => [.box i1 44 [.d (.v (.int .i64 2)), .d (.v (.int .i64 n)), .d (.v (.int .i64 a)), .d (.sl (sub.map encD)), .d (.v (.int .i64 t.kind)), .d (.v (.int .i64 t.num)), .d (.sl (t.sub.map encD))]]) (fun y => sub.length - y.1) (0, Q) ⟨Nat.zero_le _, HQ.out⟩ ?_ ?_ ?_
    · repeat (first | exact Jt _ | refine Js (by simp [PF.get]; rfl) (by first | rfl | (simp [*]; done) | fail) ?_)
    · repeat (first | exact List.Sublist.refl _ | exact List.nil_sublist _ | refine List.Sublist.cons_cons _ ?_ | refine List.Sublist.cons _ ?_)
    · rintro ⟨j, b⟩ ⟨hj, hR⟩
      simp only at hj hR ⊢
      clear HQ HR
      by_cases hlt : j < sub.length
      · have hx := Qal hlt
        have hc : (j : Int) < sub.length := by omega
        have hn : (0 : Int) ≤ j := by omega
        have hin := wr64 (n := (j : Int) + 1) (by omega) (by omega)
        cases b with
        | false =>
          have hf : Hid (R = false) := by show _ = _; rw [show R = _ from hR.out]; rfl
          clear hR
          refine go_ ?_
          refine Jm (by simp) (by simp only [Tryz.results67]; rfl) (by simp [resP, St.box?, PF.get, Jn, TyK.agg, *]; rfl) Nl ?_
          exact ⟨by rw [hf.out]; rfl, rfl⟩
        | true =>
          have hR2 : Hid (R = (pgT l sub[j] && pgL l (sub.drop (j + 1)))) := by
            show _ = _; rw [show R = _ from hR.out, List.drop_eq_getElem_cons hlt]; simp only [pgL, Bool.true_and]
          have hc1 := Lib.hid (IH.out _ (List.getElem_mem hlt))
          clear hR
          generalize pgT l sub[j] = b at *
          refine go_ ?_
          refine Jc (hc1.out) ?_
          refine go_ ?_
          exact ⟨(j + 1, b), ⟨hlt, hR2⟩, by simp only; omega, by repeat (first | exact Jt _ | refine Js (by simp [PF.get]; rfl) (by first | rfl | (simp [*]; done) | fail) ?_), by repeat (first | exact List.Sublist.refl _ | exact List.nil_sublist _ | refine List.Sublist.cons_cons _ ?_ | refine List.Sublist.cons _ ?_)⟩
      · have hc : ¬ (j : Int) < sub.length := by omega
        have hf : Hid (R = b) := by show _ = _; rw [show R = _ from hR.out, List.drop_of_length_le (by omega)]; simp [pgL]
        clear hR
        refine go_ ?_
        refine Jm (by simp) (by simp only [Tryz.results67]; rfl) (by simp [resP, St.box?, PF.get, Jn, TyK.agg, *]; rfl) Nl ?_
        exact ⟨by rw [hf.out]; rfl, rfl⟩
  have HR : Hid (R = if k = 1 then decide (0 ≤ n) && (decide (n ≤ 1048576) && (((sub.length : Int) == 0) && Qbp t)) else if k = 3 then (n == 0) && (((sub.length : Int) == 0) && Qai t) else if k = 4 then (n == 0) && (((sub.length : Int) == 0) && Qbp t) else false) := by
    show _ = _; rw [show R = _ from HR0.out, if_neg k2]
  clear HR0 hA IH
  generalize Qbp t = q at *
  generalize Qai t = q2 at *
  cases sub with
  | cons x xs =>
    have hf : Hid (R = false) := by
      show _ = _; rw [show R = _ from HR.out]
      have : (((x :: xs).length : Int) == 0) = false := by rw [beq_eq_false_iff_ne]; simp; omega
      rw [this]
      simp
    clear HR hN hS
    refine PCalls.enter Tryz.func67 rfl Tryz.ntmps67 (by simp) ?_
    simp only [Qab]
    refine go_ ?_
    refine Jd ?_
    intro i1 hi1
    try simp only [Ja, Rh, Rg, Jb] at hi1
    refine go_ ?_
    refine Jm (by simp) (by simp only [Tryz.results67]; rfl) (by simp [resP, St.box?, PF.get, Jn, TyK.agg, *]; rfl) Nl ?_
    exact ⟨by rw [hf.out]; rfl, rfl⟩
  | nil =>
  by_cases kk : 1 ≤ k ∧ k ≤ 4
  rotate_left
  · have hf : Hid (R = false) := by
      show _ = _; rw [show R = _ from HR.out, if_neg (by omega), if_neg (by omega), if_neg (by omega)]
    clear HR hN hS
    rcases (show k < 1 ∨ (¬ k < 1 ∧ 4 < k) by omega) with h | ⟨h, h4⟩
    · refine PCalls.enter Tryz.func67 rfl Tryz.ntmps67 (by simp) ?_
      simp only [Qab]
      refine go_ ?_
      refine Jd ?_
      intro i1 hi1
      try simp only [Ja, Rh, Rg, Jb] at hi1
      refine go_ ?_
      refine Jm (by simp) (by simp only [Tryz.results67]; rfl) (by simp [resP, St.box?, PF.get, Jn, TyK.agg, *]; rfl) Nl ?_
      exact ⟨by rw [hf.out]; rfl, rfl⟩
    · refine PCalls.enter Tryz.func67 rfl Tryz.ntmps67 (by simp) ?_
      simp only [Qab]
      refine go_ ?_
      refine Jd ?_
      intro i1 hi1
      try simp only [Ja, Rh, Rg, Jb] at hi1
      refine go_ ?_
      refine Jm (by simp) (by simp only [Tryz.results67]; rfl) (by simp [resP, St.box?, PF.get, Jn, TyK.agg, *]; rfl) Nl ?_
      exact ⟨by rw [hf.out]; rfl, rfl⟩
  rcases (show k = 1 ∨ k = 3 ∨ k = 4 by omega) with rfl | rfl | rfl
  · rw [if_pos rfl] at HR
    clear hS kk k2
    by_cases h1 : n < 0
    · have h1b : ¬ 0 ≤ n := by omega
      have hf : Hid (R = false) := by show _ = _; rw [show R = _ from HR.out, decide_eq_false h1b]; rfl
      clear HR hN h1b
      refine PCalls.enter Tryz.func67 rfl Tryz.ntmps67 (by simp) ?_
      simp only [Qab]
      refine go_ ?_
      refine Jd ?_
      intro i1 hi1
      try simp only [Ja, Rh, Rg, Jb] at hi1
      refine go_ ?_
      refine Jm (by simp) (by simp only [Tryz.results67]; rfl) (by simp [resP, St.box?, PF.get, Jn, TyK.agg, *]; rfl) Nl ?_
      exact ⟨by rw [hf.out]; rfl, rfl⟩
    by_cases h2 : 1048576 < n
    · have hf : Hid (R = false) := by show _ = _; rw [show R = _ from HR.out, decide_eq_false (show ¬ n ≤ 1048576 by omega)]; simp
      clear HR hN
      refine PCalls.enter Tryz.func67 rfl Tryz.ntmps67 (by simp) ?_
      simp only [Qab]
      refine go_ ?_
      refine Jd ?_
      intro i1 hi1
      try simp only [Ja, Rh, Rg, Jb] at hi1
      refine go_ ?_
      refine Jm (by simp) (by simp only [Tryz.results67]; rfl) (by simp [resP, St.box?, PF.get, Jn, TyK.agg, *]; rfl) Nl ?_
      exact ⟨by rw [hf.out]; rfl, rfl⟩
    have hf : Hid (R = q) := by show _ = _; rw [show R = _ from HR.out, decide_eq_true (show n ≤ 1048576 by omega), decide_eq_true (show 0 ≤ n by omega)]; rfl
    clear HR
    refine PCalls.enter Tryz.func67 rfl Tryz.ntmps67 (by simp) ?_
    simp only [Qab]
    refine go_ ?_
    refine Jd ?_
    intro i1 hi1
    try simp only [Ja, Rh, Rg, Jb] at hi1
    refine go_ ?_
    refine Jc (hN.out) ?_
    refine go_ ?_
    refine Jm (by simp) (by simp only [Tryz.results67]; rfl) (by simp [resP, St.box?, PF.get, Jn, TyK.agg, *]; rfl) Nl ?_
    exact ⟨by rw [hf.out]; rfl, rfl⟩
  · rw [if_neg (by decide), if_pos rfl] at HR
    clear hN kk k2
    by_cases h0 : n = 0
    · have hf : Hid (R = q2) := by show _ = _; rw [show R = _ from HR.out, h0]; rfl
      subst h0
      clear HR
      refine PCalls.enter Tryz.func67 rfl Tryz.ntmps67 (by simp) ?_
      simp only [Qab]
      refine go_ ?_
      refine Jd ?_
      intro i1 hi1
      try simp only [Ja, Rh, Rg, Jb] at hi1
      refine go_ ?_
      refine Jc (hS.out) ?_
      refine go_ ?_
      refine Jm (by simp) (by simp only [Tryz.results67]; rfl) (by simp [resP, St.box?, PF.get, Jn, TyK.agg, *]; rfl) Nl ?_
      exact ⟨by rw [hf.out]; rfl, rfl⟩
    · have hf : Hid (R = false) := by show _ = _; rw [show R = _ from HR.out, beq_eq_false_iff_ne.2 h0]; rfl
      have h0b : (n != 0) = true := bne_iff_ne.2 h0
      clear HR hS
      refine PCalls.enter Tryz.func67 rfl Tryz.ntmps67 (by simp) ?_
      simp only [Qab]
      refine go_ ?_
      refine Jd ?_
      intro i1 hi1
      try simp only [Ja, Rh, Rg, Jb] at hi1
      refine go_ ?_
      refine Jm (by simp) (by simp only [Tryz.results67]; rfl) (by simp [resP, St.box?, PF.get, Jn, TyK.agg, *]; rfl) Nl ?_
      exact ⟨by rw [hf.out]; rfl, rfl⟩
  · rw [if_neg (by decide), if_neg (by decide), if_pos rfl] at HR
    clear hS kk k2
    by_cases h0 : n = 0
    · have hf : Hid (R = q) := by show _ = _; rw [show R = _ from HR.out, h0]; rfl
      subst h0
      clear HR
      refine PCalls.enter Tryz.func67 rfl Tryz.ntmps67 (by simp) ?_
      simp only [Qab]
      refine go_ ?_
      refine Jd ?_
      intro i1 hi1
      try simp only [Ja, Rh, Rg, Jb] at hi1
      refine go_ ?_
      refine Jc (hN.out) ?_
      refine go_ ?_
      refine Jm (by simp) (by simp only [Tryz.results67]; rfl) (by simp [resP, St.box?, PF.get, Jn, TyK.agg, *]; rfl) Nl ?_
      exact ⟨by rw [hf.out]; rfl, rfl⟩
    · have hf : Hid (R = false) := by show _ = _; rw [show R = _ from HR.out, beq_eq_false_iff_ne.2 h0]; rfl
      have h0b : (n != 0) = true := bne_iff_ne.2 h0
      clear HR hN
      refine PCalls.enter Tryz.func67 rfl Tryz.ntmps67 (by simp) ?_
      simp only [Qab]
      refine go_ ?_
      refine Jd ?_
      intro i1 hi1
      try simp only [Ja, Rh, Rg, Jb] at hi1
      refine go_ ?_
      refine Jm (by simp) (by simp only [Tryz.results67]; rfl) (by simp [resP, St.box?, PF.get, Jn, TyK.agg, *]; rfl) Nl ?_
      exact ⟨by rw [hf.out]; rfl, rfl⟩
theorem rpRight_p (l : List En) (p : Pt) (ho : ∀ e ∈ l, EnOk e) (h : pndT p ≤ 8000) : PCalls Tryz.prog 19 [.d (.sl (l.map encD)), aggD p] [] fun r s => r = .d (.v (.bool (pRight l p))) ∧ s = [] := by
  have hF := rformed_p l ho
  rw [← formed_eq] at hF
  have hF := Lib.hid hF
  have hS := Lib.hid (rpsmall_p p h)
  have HR := Lib.hid (show pRight l p = (formedB l && (decide (phgT p ≤ 128) && pgT l p)) from rfl)
  have HG := Lib.hid (fun hf : formedB l = true => rpgood_p l hf p)
  generalize pRight l p = R at *
  generalize decide (phgT p ≤ 128) = sm at *
  generalize pgT l p = g at *
  clear h ho
  simp only [aggD, Qap, List.map_cons, List.map_nil] at hS HG ⊢
  cases hf : formedB l with
  | false =>
    rw [hf] at hF HR
    refine PCalls.enter Tryz.func19 rfl Tryz.ntmps19 (by simp) ?_
    simp only [Qab]
    refine go_ ?_
    refine Jd ?_
    intro i0 hi0
    refine go_ ?_
    refine Jc (hF.out) ?_
    refine go_ ?_
    refine Jm (by simp) (by simp only [Tryz.results19]; rfl) (by simp [resP, St.box?, PF.get, Jn, TyK.agg, *]; rfl) Nl ?_
    exact ⟨by rw [HR.out]; rfl, rfl⟩
  | true =>
    rw [hf] at hF HR
    have hG := Lib.hid (HG.out hf)
    clear HG
    refine PCalls.enter Tryz.func19 rfl Tryz.ntmps19 (by simp) ?_
    simp only [Qab]
    refine go_ ?_
    refine Jd ?_
    intro i0 hi0
    refine go_ ?_
    refine Jc (hF.out) ?_
    refine go_ ?_
    refine Jr (hS.out) ?_
    cases sm with
    | false =>
      refine go_ ?_
      refine Jm (by simp) (by simp only [Tryz.results19]; rfl) (by simp [resP, St.box?, PF.get, Jn, TyK.agg, *]; rfl) Nl ?_
      exact ⟨by rw [HR.out]; rfl, rfl⟩
    | true =>
      refine go_ ?_
      refine Jr (hG.out) ?_
      refine go_ ?_
      refine Jm (by simp) (by simp only [Tryz.results19]; rfl) (by simp [resP, St.box?, PF.get, Jn, TyK.agg, *]; rfl) Nl ?_
      exact ⟨by rw [HR.out]; simp [tupP, PV.norm2, PV.norm1, PV.norm0], rfl⟩
section
variable {H : Type} {enc : TypeId × Value → H} {w : World} {base : Nat} {spare : Nat → Bool} {held : Bool}
theorem opn_pt : ∀ (n : Nat), OpnAt Pt enc w base spare held 28 n := by
  intro n
  induction n using Nat.strongRecOn with
  | ind n ih =>
    intro cs x h
    obtain ⟨xs, m, rfl, hm, hlen, hxs, hf⟩ := DataW.trod_struct Tryz.underlying28 h
    have c0 : Tryz.prog.cellsOf 28 = 7 := by kernel_rfl
    have c1 : Tryz.prog.cellsOf 3 = 1 := by kernel_rfl
    have c2 : Tryz.prog.cellsOf 23 = 1 := by kernel_rfl
    have c3 : Tryz.prog.cellsOf 26 = 3 := by kernel_rfl
    rw [c0] at hlen
    match xs, hxs with
    | [x0, x1, x2, x3, x4], _ =>
      have h0 : DataW.trod enc Tryz.prog w base spare held m 3 ((cs.drop 0).take (Tryz.prog.cellsOf 3)) = some x0 := hf 0 _ rfl
      have h1 : DataW.trod enc Tryz.prog w base spare held m 3 ((cs.drop 1).take (Tryz.prog.cellsOf 3)) = some x1 := hf 1 _ rfl
      have h2 : DataW.trod enc Tryz.prog w base spare held m 3 ((cs.drop 2).take (Tryz.prog.cellsOf 3)) = some x2 := hf 2 _ rfl
      have h3 : DataW.trod enc Tryz.prog w base spare held m 23 ((cs.drop 3).take (Tryz.prog.cellsOf 23)) = some x3 := hf 3 _ rfl
      have h4 : DataW.trod enc Tryz.prog w base spare held m 26 ((cs.drop 4).take (Tryz.prog.cellsOf 26)) = some x4 := hf 4 _ rfl
      rw [c1] at h0 h1 h2
      rw [c2] at h3
      rw [c3] at h4
      obtain ⟨k, hk⟩ := Qic (by kernel_rfl) m _ _ h0
      obtain ⟨a, ha⟩ := Qic (by kernel_rfl) m _ _ h1
      obtain ⟨b, hb⟩ := Qic (by kernel_rfl) m _ _ h2
      obtain ⟨v, l, hv, hl⟩ := opn_slice (α := Pt) Tryz.underlying23 c0 (by decide) (fun m' hm' => ih m' (by omega)) h3
      obtain ⟨t, ht⟩ := opn_tm m _ _ h4
      have q3 : RepF (fun _ => True) w [.s 7 (l.map Enc.enc)] ((cs.drop 3).take 1) := by rw [hv]; exact repF_slice hl
      refine ⟨.mk k a b l t, ?_⟩
      have hall := repF_at (o := 0) (n := 1) (m := 1) (ds := [.v (.int .i64 k)]) rfl hk (repF_at (o := 1) (n := 1) (m := 2) (ds := [.v (.int .i64 a)]) rfl ha (repF_at (o := 2) (n := 1) (m := 3) (ds := [.v (.int .i64 b)]) rfl hb (repF_at (o := 3) (n := 1) (m := 4) (ds := [.s 7 (l.map Enc.enc)]) rfl q3 (repF_tail (ds := tmD t) ht (by omega)))))
      unfold Rep
      simp only [Enc.enc, ptD, Qix]
      exact hall
def PtC (w : World) (t : Pt) (cs : List Value) : Prop := Rep (fun _ => True) w t cs
theorem open_pt (n : Nat) (cs : List Value) (x : DataW H × List MemPlace) (h : DataW.trod enc Tryz.prog w base spare held n 28 cs = some x) : ∃ t, PtC w t cs := opn_pt n cs x h
def TwS (w : World) (v : Value) (l : List Tm) : Prop := RepS (fun _ => True) w v l
theorem open_tws {n : Nat} {cs : List Value} {x : DataW H × List MemPlace} (h : DataW.trod enc Tryz.prog w base spare held n 24 cs = some x) (hw : Wl Tryz.prog 24 x.1) : ∃ (a : Option Addr) (len cap : Nat) (ts : List Tm), cs = [.slice a len cap] ∧ TwS w (.slice a len cap) ts := by
 obtain ⟨v, l, rfl, hl, hok, _⟩ := opnB_slice (α := Tm) Tryz.underlying24 (by kernel_rfl) (by decide) (fun m' _ => (opn_tm m').toB) h hw
 obtain ⟨a, c, rfl, _⟩ := hl.shape
 exact ⟨a, _, c, l, rfl, hl⟩
end
end Go.Proofs.YtdklpbefbamchaaGreat
