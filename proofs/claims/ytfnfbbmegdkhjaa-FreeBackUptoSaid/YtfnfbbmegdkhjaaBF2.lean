import Derived.Test.YtfnfbbmegdkhjaaBF1
import Derived.Test.YtfnfbbmegdkhjaaBF
import Derived.Test.YtfnfbbmegdkhjaaBE
import Derived.Test.YtfnfbbmegdkhjaaBA1
import Derived.Test.YtfnfbbmegdkhjaaRows
set_option linter.unusedSimpArgs false
set_option linter.unusedVariables false
namespace Go.Proofs.Ytfnfbbmegdkhjaa
open Go.RowKit
set_option maxRecDepth 100000
instance : Enc (Tm × Bool) := ⟨4, fun e => tmD e.1 ++ [.v (.bool e.2)], fun e => by simp [tmD_len]⟩
instance : EncOk (Tm × Bool) := ⟨fun e d hd => by
  simp only [Enc.enc, List.mem_append, List.mem_singleton] at hd
  rcases hd with hd | rfl
  · exact tmD_ok _ d hd
  · exact .v trivial⟩
@[simp] theorem encD_gt (e : Tm × Bool) : encD e = [.v (.int .i64 e.1.kind), .v (.int .i64 e.1.num), .sl (e.1.sub.map encD), .v (.bool e.2)] := by
  have h1 := Jk e.1
  unfold encD at h1 ⊢
  simp only [Enc.enc] at h1 ⊢
  rw [dtL_append, h1]
  simp only [dtL, dtD]
  rfl
theorem gtL_step {lf : Tm → Int → Lf} {k : Int} {sub : List Tm} {j : Nat} {b : Int} (h : j < sub.length) : gtL lf k (sub.drop j) j b = gtT lf sub[j] (b + benB k j) :: gtL lf k (sub.drop (j + 1)) (j + 1) b := by
  rw [List.drop_eq_getElem_cons h]; simp only [gtL]
set_option maxHeartbeats 16000000 in
theorem rsubs9_p (t : Tm) (l : List (Tm × Bool)) (hl : l.length ≤ 1000) : PCalls Try.prog 147 [aggD t, .d (.sl (l.map encD))] [] fun p s => p = gotP (subsS t.kind t.num l).1 (subsS t.kind t.num l).2 ∧ s = [] := by
  have HR := Lib.hid (show subsS t.kind t.num l = if (l.any (fun x => x.2) || decide (8192 < csizeT (.mk t.kind t.num (l.map fun x => x.1)))) = true then (.mk 2 0 [], true) else (.mk t.kind t.num (l.map fun x => x.1), false) from rfl)
  have hLf := Lib.hid (rleaf_p 2 0)
  obtain ⟨S, hS⟩ : ∃ S, S = l.map fun x => x.1 := ⟨_, rfl⟩
  obtain ⟨A, hA⟩ : ∃ A, A = l.any fun x => x.2 := ⟨_, rfl⟩
  rw [← hS, ← hA] at HR
  have HS : Hid (S = [] ++ (l.drop 0).map fun x => x.1) := hS
  have HA : Hid (A = (false || (l.drop 0).any fun x => x.2)) := hA
  clear hS hA
  obtain ⟨k, n, sub⟩ := t
  simp only [Ju, Jv] at HR ⊢
  generalize subsS k n l = r at *
  simp only [aggD, gotP, Jk, List.map_cons, List.map_nil, Ju, Jv, Jw] at hLf ⊢
  refine PCalls.enter Try.func147 rfl Try.ntmps147 (by simp) ?_
  simp only [argsF]
  refine go_ ?_
  refine Jc ?_
  intro i2 hi2
  try simp only [Rh, Rg, Rf, Ja] at hi2
  refine go_ ?_
  refine Jd ?_
  intro i4 hi4
  try simp only [Rh, Rg, Rf, Ja] at hi4
  refine go_ ?_
  refine Jd ?_
  intro i5 hi5
  try simp only [Rh, Rg, Rf, Ja] at hi5
  refine go_ ?_
  refine Rc ?_
  refine go_ ?_
  refine PW_ownB i5 2 28 3    (by simp [nev, nevA, nevB, Jo, PF.eval, PF.get, PF.wants, cPV, cCell, PV.rows, evBin, evUn, Jp, evLen, loadA, Jm, TyK.agg, partA, St.box?, St.tok?, St.setBox, St.setTok, fillO, spl, PV.ps, PV.one, Jn, aggD, slD, Jg, Jj, Jh, Ji, Jf, Je, *]; rfl) (by rfl) (by rfl) (by intro g; simp [St.setBox, *]; rfl) (by decide) ?_
  intro g hg
  refine go_ ?_
  refine PW_loop (ι := Nat × List Tm × Bool) (fun y => y.1 ≤ l.length ∧ y.2.1.length = y.1 ∧ Hid (S = y.2.1 ++ (l.drop y.1).map fun x => x.1) ∧ Hid (A = (y.2.2 || (l.drop y.1).any fun x => x.2))) (fun y => [(1, .d (.sl (l.map encD))), (2, .ptr i2 0), (4, .ptr i4 0), (5, .ptr i5 0), (6, .d (.v (.int .i64 (y.1 : Int))))]) (fun y => [.tok g 28 3 y.2.1.length, .box i5 134 [.d (.v (.int .i64 k)), .d (.v (.int .i64 n)), .own g (y.2.1.map encD), .d (.v (.bool y.2.2))], .box i4 134 [.d (.v (.int .i64 0)), .d (.v (.int .i64 0)), .nils, .d (.v (.bool false))], .box i2 28 [.d (.v (.int .i64 k)), .d (.v (.int .i64 n)), .d (.sl (sub.map encD))]]) (fun y => l.length - y.1) (0, [], false) ⟨Nat.zero_le _, rfl, HS.out, HA.out⟩ ?_ ?_ ?_
  · repeat (first | exact Js _ | refine Jr (by simp [PF.get]; rfl) (by first | rfl | (simp [*]; done) | fail) ?_)
  · repeat (first | exact List.Sublist.refl _ | exact List.nil_sublist _ | refine List.Sublist.cons_cons _ ?_ | refine List.Sublist.cons _ ?_)
  rintro ⟨j, o, q⟩ ⟨hj, ho, hS, hA⟩
  simp only at hj ho hS hA ⊢
  clear HS HA
  by_cases hlt : j < l.length
  · have hx := get_enc hlt
    have hc : (j : Int) < l.length := by omega
    have hn0 : (0 : Int) ≤ j := by omega
    have hin := wr64 (n := (j : Int) + 1) (by omega) (by omega)
    have hS2 : Hid (S = (o ++ [l[j].1]) ++ (l.drop (j + 1)).map fun x => x.1) := by show _ = _; rw [show S = _ from hS.out, List.drop_eq_getElem_cons hlt, List.append_assoc]; rfl
    have hA2 : Hid (A = ((q || l[j].2) || (l.drop (j + 1)).any fun x => x.2)) := by show _ = _; rw [show A = _ from hA.out, List.drop_eq_getElem_cons hlt, List.any_cons, Bool.or_assoc]
    have HO := Lib.hid ho
    have hol : o.length ≤ 1000 := by omega
    clear hS hA ho
    refine go_ ?_
    refine PW_drawn [(0, .a), (1, .a), (2, .b), (3, .a), (4, .a), (5, .a), (6, .a), (7, .a), (8, .a), (9, .e), (10, .a), (11, .a), (12, .e)] (by kernel_rfl) (by rfl) (by kernel_rfl) ?_
    refine go_ ?_
    refine POrd_bs_a ?_
    refine go_ ?_
    refine POrd_app_a (o.length + 1) ?_ ?_ ?_ ?_
    · simp
    · exact rows3 _
    · exact rows_one rfl
    refine go_ ?_
    refine POrd_store_a ?_
    refine go_ ?_
    cases q with
    | true =>
      refine go_ ?_
      refine Rc ?_
      refine go_ ?_
      refine ⟨(j + 1, o ++ [l[j].1], true), ⟨hlt, by have := HO.out; simp only [List.length_append, List.length_singleton]; omega, hS2, hA2⟩, by simp only; omega, by repeat (first | exact Js _ | refine Jr (by simp [PF.get]; rfl) (by first | rfl | (simp [*]; done) | fail) ?_), ?_⟩
      simp only [List.length_append, List.length_singleton, List.map_append, List.map_cons, List.map_nil, Jk l[j].1]
      repeat (first | exact List.Sublist.refl _ | exact List.nil_sublist _ | refine List.Sublist.cons_cons _ ?_ | refine List.Sublist.cons _ ?_)
    | false =>
      rw [Bool.false_or] at hA2
      refine go_ ?_
      refine Rc ?_
      refine go_ ?_
      refine ⟨(j + 1, o ++ [l[j].1], l[j].2), ⟨hlt, by have := HO.out; simp only [List.length_append, List.length_singleton]; omega, hS2, hA2⟩, by simp only; omega, by repeat (first | exact Js _ | refine Jr (by simp [PF.get]; rfl) (by first | rfl | (simp [*]; done) | fail) ?_), ?_⟩
      simp only [List.length_append, List.length_singleton, List.map_append, List.map_cons, List.map_nil, Jk l[j].1]
      repeat (first | exact List.Sublist.refl _ | exact List.nil_sublist _ | refine List.Sublist.cons_cons _ ?_ | refine List.Sublist.cons _ ?_)
  · have hc : ¬ (j : Int) < l.length := by omega
    have hfS : S = o := by rw [show S = _ from hS.out, List.drop_of_length_le (by omega)]; simp
    have hfA : A = q := by rw [show A = _ from hA.out, List.drop_of_length_le (by omega)]; simp
    rw [hfS, hfA] at HR
    have hZ := Lib.hid (rSize_p (.mk k n o))
    simp only [aggD, Jk, List.map_cons, List.map_nil, Ju, Jv, Jw] at hZ
    clear hS hA hfS hfA ho
    cases q with
    | true =>
      rw [show r = _ from HR.out]
      simp only [Bool.true_or, if_true, Ju, Jv, Jw, List.map_nil]
      clear HR
      refine go_ ?_
      refine Rc ?_
      refine go_ ?_
      refine Jb (hLf.out) ?_
      refine go_ ?_
      refine Rc ?_
      refine go_ ?_
      refine Jl (by simp) (by simp only [Try.results147]; rfl) (by simp [resP, St.box?, PF.get, Jm, TyK.agg, *]; rfl) (List.nil_sublist _) ?_
      exact ⟨by simp [tupP, PV.norm2, PV.norm1, PV.norm0], rfl⟩
    | false =>
      by_cases hz : 8192 < csizeT (.mk k n o)
      · rw [show r = (.mk 2 0 [], true) from (show r = _ from HR.out).trans (if_pos (by rw [Bool.false_or]; exact decide_eq_true hz))]
        simp only [Ju, Jv, Jw, List.map_nil]
        clear HR
        refine go_ ?_
        refine Jq (hZ.out) ?_
        refine go_ ?_
        refine Rc ?_
        refine go_ ?_
        refine Jb (hLf.out) ?_
        refine go_ ?_
        refine Rc ?_
        refine go_ ?_
        refine Jl (by simp) (by simp only [Try.results147]; rfl) (by simp [resP, St.box?, PF.get, Jm, TyK.agg, *]; rfl) (List.nil_sublist _) ?_
        exact ⟨by simp [tupP, PV.norm2, PV.norm1, PV.norm0], rfl⟩
      · rw [show r = (.mk k n o, false) from (show r = _ from HR.out).trans (if_neg (by rw [Bool.false_or]; intro h; exact hz (of_decide_eq_true h)))]
        simp only [Ju, Jv, Jw]
        clear HR
        refine go_ ?_
        refine Jq (hZ.out) ?_
        refine go_ ?_
        refine Rc ?_
        refine go_ ?_
        refine Rc ?_
        refine go_ ?_
        refine Jl (by simp) (by simp only [Try.results147]; rfl) (by simp [resP, St.box?, PF.get, Jm, TyK.agg, *]; rfl) (List.nil_sublist _) ?_
        exact ⟨by simp [tupP, PV.norm2, PV.norm1, PV.norm0], rfl⟩
end Go.Proofs.Ytfnfbbmegdkhjaa

namespace Go.Proofs.Ytfnfbbmegdkhjaa
open Go.RowKit
set_option maxRecDepth 100000
theorem gt_go {lf : Tm → Int → Lf} {k m : Int} {sub : List Tm} {b : Int} (h : lf (.mk k m sub) b = .go) : gtT lf (.mk k m sub) b = subsS k m (gtL lf k sub 0 b) := by rw [gtT, h]
theorem gt_up {lf : Tm → Int → Lf} {k m : Int} {sub : List Tm} {b c : Int} {a : Tm} (h : lf (.mk k m sub) b = .up a c) : gtT lf (.mk k m sub) b = (moveT a c 0, !shapedB (moveT a c 0)) := by rw [gtT, h]
set_option maxHeartbeats 16000000 in
theorem rnamed9_p (a : Tm) (n : Int) (ha : goodB a = true) (hha : chgT a ≤ 1000) : ∀ (t : Tm) (b : Int), goodB t = true → 0 ≤ b → b + chgT t ≤ 1000 → PCalls Try.prog 122 [aggD t, aggD a, .d (.v (.int .i64 n)), .d (.v (.int .i64 b))] [] fun p s => p = gotP (gtT (namedLf a n) t b).1 (gtT (namedLf a n) t b).2 ∧ s = [] := by
  refine Tm.ind ?_
  intro k m sub ih b hg hb hbh
  have IH := Lib.hid ih
  have HG := Lib.hid (good_parts hg).2
  have hsl := good_len hg
  have HH := Lib.hid (fun (s : Tm) (hs : s ∈ sub) => chg_mem (k := k) (n := m) hs)
  clear ih
  by_cases h8 : k = 8 ∧ m = n
  · have hlf : namedLf a n (.mk k m sub) b = .up a b := named_up (by exact h8)
    rw [gt_up hlf]
    obtain ⟨rfl, rfl⟩ := h8
    have hc := Lib.hid (rraised9_p a b ha hb (by omega) hha)
    simp only [aggD, gotP, Jk, List.map_cons, List.map_nil, Ju, Jv, Jw] at hc ⊢
    clear hlf IH HG HH hg hbh ha hha
    generalize (!shapedB (moveT a b 0)) = q at *
    generalize moveT a b 0 = x at *
    refine PCalls.enter Try.func122 rfl Try.ntmps122 (by simp) ?_
    simp only [argsF]
    refine go_ ?_
    refine Jc ?_
    intro i4 hi4
    try simp only [Rh, Rg, Rf, Ja] at hi4
    refine go_ ?_
    refine Jc ?_
    intro i5 hi5
    try simp only [Rh, Rg, Rf, Ja] at hi5
    refine go_ ?_
    refine Jd ?_
    intro i8 hi8
    try simp only [Rh, Rg, Rf, Ja] at hi8
    refine go_ ?_
    refine Jb (hc.out) ?_
    refine go_ ?_
    refine Rc ?_
    refine go_ ?_
    refine Jl (by simp) (by simp only [Try.results122]; rfl) (by simp [resP, St.box?, PF.get, Jm, TyK.agg, *]; rfl) (List.nil_sublist _) ?_
    exact ⟨by simp [tupP, PV.norm2, PV.norm1, PV.norm0], rfl⟩
  have hlf : namedLf a n (.mk k m sub) b = .go := named_go (by exact h8)
  rw [gt_go hlf]
  obtain ⟨R, hR⟩ : ∃ R, R = gtL (namedLf a n) k sub 0 b := ⟨_, rfl⟩
  have HR : Hid (R = [] ++ gtL (namedLf a n) k (sub.drop 0) 0 b) := hR
  rw [← hR]
  simp only [aggD, Jk, List.map_cons, List.map_nil, Ju, Jv, Jw]
  clear hlf hR hg ha hha
  by_cases hk8 : k = 8
  · have hmn : (m == n) = false := by rw [beq_eq_false_iff_ne]; exact fun h => h8 ⟨hk8, h⟩
    have hk8b : (k == 8) = true := by rw [hk8]; rfl
    clear h8 hk8
    refine PCalls.enter Try.func122 rfl Try.ntmps122 (by simp) ?_
    simp only [argsF]
    refine go_ ?_
    refine Jc ?_
    intro i4 hi4
    try simp only [Rh, Rg, Rf, Ja] at hi4
    refine go_ ?_
    refine Jc ?_
    intro i5 hi5
    try simp only [Rh, Rg, Rf, Ja] at hi5
    refine go_ ?_
    refine Jd ?_
    intro i8 hi8
    try simp only [Rh, Rg, Rf, Ja] at hi8
    refine go_ ?_
    refine POps_bs0 ?_ (by decide) (by first | (simp [nev, nevA, nevB, Jo, PF.eval, PF.get, PF.wants, cPV, cCell, PV.rows, evBin, evUn, Jp, evLen, loadA, Jm, TyK.agg, partA, St.box?, St.tok?, St.setBox, St.setTok, fillO, spl, PV.ps, PV.one, Jn, aggD, slD, Jg, Jj, Jh, Ji, Jf, Je, *]; done) | fail) (by simp; rfl) (by rfl) (by simp; rfl) (by rfl) (by decide)
    intro g hg
    refine go_ ?_
    refine PW_loop (ι := Nat × List (Tm × Bool)) (fun y => y.1 ≤ sub.length ∧ y.2.length ≤ y.1 ∧ Hid (R = y.2 ++ gtL (namedLf a n) k (sub.drop y.1) y.1 b)) (fun y => [(2, .d (.v (.int .i64 n))), (3, .d (.v (.int .i64 b))), (4, .ptr i4 0), (5, .ptr i5 0), (8, .ptr i8 0), (9, .own g (y.2.map encD)), (10, .d (.v (.int .i64 (y.1 : Int))))]) (fun y => [.tok g 134 4 y.2.length, .box i8 134 [.d (.v (.int .i64 0)), .d (.v (.int .i64 0)), .nils, .d (.v (.bool false))], .box i5 28 [.d (.v (.int .i64 a.kind)), .d (.v (.int .i64 a.num)), .d (.sl (a.sub.map encD))], .box i4 28 [.d (.v (.int .i64 k)), .d (.v (.int .i64 m)), .d (.sl (sub.map encD))]]) (fun y => sub.length - y.1) (0, []) ⟨Nat.zero_le _, Nat.le_refl _, HR.out⟩ ?_ ?_ ?_
    · repeat (first | exact Js _ | refine Jr (by simp [PF.get]; rfl) (by first | rfl | (simp [*]; done) | fail) ?_)
    · repeat (first | exact List.Sublist.refl _ | exact List.nil_sublist _ | refine List.Sublist.cons_cons _ ?_ | refine List.Sublist.cons _ ?_)
    rintro ⟨j, o⟩ ⟨hj, ho, hR⟩
    simp only at hj ho hR ⊢
    clear HR
    by_cases hlt : j < sub.length
    · have hx := get_enc hlt
      have hc : (j : Int) < sub.length := by omega
      have hn0 : (0 : Int) ≤ j := by omega
      have hin := wr64 (n := (j : Int) + 1) (by omega) (by omega)
      have hR2 := hR.out
      rw [gtL_step hlt] at hR2
      have hmem := List.getElem_mem hlt
      have hol : o.length ≤ 100 := by omega
      have HO := Lib.hid ho
      have hbe := ben_rng k j
      have hc0 := Lib.hid (rbeneath_p (.mk k m sub) j)
      have hc1 := IH.out _ hmem (b + benB k j) (HG.out _ hmem) (by omega) (by have := HH.out _ hmem; omega)
      have hwb := wr64 (n := b + benB k j) (by omega) (by have := HH.out _ hmem; omega)
      simp only [aggD, gotP, Jk, List.map_cons, List.map_nil, Ju, Jv, Jw] at hc0 hc1
      have HC1 := Lib.hid hc1
      have hR3 : Hid (R = (o ++ [gtT (namedLf a n) sub[j] (b + benB k j)]) ++ gtL (namedLf a n) k (sub.drop (j + 1)) (j + 1) b) := by show _ = _; rw [hR2, List.append_assoc]; rfl
      clear hR hR2 hc1 hmem ho hbe
      generalize gtT (namedLf a n) sub[j] (b + benB k j) = y at *
      generalize benB k j = bj at *
      refine go_ ?_
      refine PW_drawnL (J := keepJ [(i4, _), (i5, _)]) [(0, .a), (1, .a), (2, .a), (3, .a), (4, .a), (5, .a), (6, .a), (7, .a), (8, .a), (9, .a), (10, .a), (11, .a), (12, .a), (13, .a), (14, .a), (15, .e), (16, .a)] (by kernel_rfl) (by rfl) (by kernel_rfl) (by (repeat (first | exact keepJ_nil _ | refine Jt (by simp [St.box?, *] <;> rfl) ?_))) ?_
      repeat (first | with_reducible refine PL_nil ?_ | refine PL_gn2 ?_ | refine PL_s2 ?_ | refine PL_b2 ?_)
      refine PL_call2 (hc0.out) ?_
      repeat (first | with_reducible refine PL_nil ?_ | refine PL_gn2 ?_ | refine PL_s2 ?_ | refine PL_b2 ?_)
      refine PL_call2 (HC1.out) ?_
      repeat (first | with_reducible refine PL_nil ?_ | refine PL_gn2 ?_ | refine PL_s2 ?_ | refine PL_b2 ?_)
      refine PL_bs ?_ rfl (by decide) rfl (by simp; rfl) (by rfl) (by simp; rfl) (by rfl) (by decide) (by decide) (by simp [nev, nevA, nevB, Jo, PF.eval, PF.get, PF.wants, cPV, cCell, PV.rows, evBin, evUn, Jp, evLen, loadA, Jm, TyK.agg, partA, St.box?, St.tok?, St.setBox, St.setTok, fillO, spl, PV.ps, PV.one, Jn, aggD, slD, Jg, Jj, Jh, Ji, Jf, Je, *]; rfl) (by simp [rowsOf, toDs, PV.toD]; rfl)
      refine PL_app (o.length + 1) ?_ ?_ ?_ ?_ ?_
      rotate_left
      · exact rows_of (α := Tm × Bool) rfl
      · exact rows_one rfl
      · simp
      · exact .inr (by (repeat (first | exact keepJ_nil _ | refine Jt (by simp [St.box?, *] <;> rfl) ?_)))
      repeat (first | with_reducible refine PL_nil ?_ | refine PL_gn2 ?_ | refine PL_s2 ?_ | refine PL_b2 ?_)
      refine go_ ?_
      refine ⟨(j + 1, o ++ [y]), ⟨hlt, by have := HO.out; simp only [List.length_append, List.length_singleton]; omega, hR3⟩, by simp only; omega, ?_, ?_⟩
      · repeat (first | exact Js _ | refine Jr (by simp [PF.get]; rfl) (by first | rfl | (simp [(encD_gt y)]; done) | fail) ?_)
      · simp only [List.length_append, List.length_singleton]
        repeat (first | exact List.Sublist.refl _ | exact List.nil_sublist _ | refine List.Sublist.cons_cons _ ?_ | refine List.Sublist.cons _ ?_)
    · have hc : ¬ (j : Int) < sub.length := by omega
      have hf : R = o := by rw [show R = _ from hR.out, List.drop_of_length_le (by omega)]; simp only [gtL, List.append_nil]
      have hS := Lib.hid (rsubs9_p (.mk k m sub) o (by omega))
      rw [hf]
      simp only [aggD, gotP, Jk, List.map_cons, List.map_nil, Ju, Jv, Jw] at hS ⊢
      clear hR hf ho
      generalize subsS k m o = r at *
      refine go_ ?_
      refine Jb (hS.out) ?_
      refine go_ ?_
      refine Rc ?_
      refine go_ ?_
      refine Jl (by simp) (by simp only [Try.results122]; rfl) (by simp [resP, St.box?, PF.get, Jm, TyK.agg, *]; rfl) (List.nil_sublist _) ?_
      exact ⟨by simp [tupP, PV.norm2, PV.norm1, PV.norm0], rfl⟩
  · have hk8b : (k == 8) = false := by rw [beq_eq_false_iff_ne]; exact hk8
    clear h8 hk8
    refine PCalls.enter Try.func122 rfl Try.ntmps122 (by simp) ?_
    simp only [argsF]
    refine go_ ?_
    refine Jc ?_
    intro i4 hi4
    try simp only [Rh, Rg, Rf, Ja] at hi4
    refine go_ ?_
    refine Jc ?_
    intro i5 hi5
    try simp only [Rh, Rg, Rf, Ja] at hi5
    refine go_ ?_
    refine Jd ?_
    intro i8 hi8
    try simp only [Rh, Rg, Rf, Ja] at hi8
    refine go_ ?_
    refine POps_bs0 ?_ (by decide) (by first | (simp [nev, nevA, nevB, Jo, PF.eval, PF.get, PF.wants, cPV, cCell, PV.rows, evBin, evUn, Jp, evLen, loadA, Jm, TyK.agg, partA, St.box?, St.tok?, St.setBox, St.setTok, fillO, spl, PV.ps, PV.one, Jn, aggD, slD, Jg, Jj, Jh, Ji, Jf, Je, *]; done) | fail) (by simp; rfl) (by rfl) (by simp; rfl) (by rfl) (by decide)
    intro g hg
    refine go_ ?_
    refine PW_loop (ι := Nat × List (Tm × Bool)) (fun y => y.1 ≤ sub.length ∧ y.2.length ≤ y.1 ∧ Hid (R = y.2 ++ gtL (namedLf a n) k (sub.drop y.1) y.1 b)) (fun y => [(2, .d (.v (.int .i64 n))), (3, .d (.v (.int .i64 b))), (4, .ptr i4 0), (5, .ptr i5 0), (8, .ptr i8 0), (9, .own g (y.2.map encD)), (10, .d (.v (.int .i64 (y.1 : Int))))]) (fun y => [.tok g 134 4 y.2.length, .box i8 134 [.d (.v (.int .i64 0)), .d (.v (.int .i64 0)), .nils, .d (.v (.bool false))], .box i5 28 [.d (.v (.int .i64 a.kind)), .d (.v (.int .i64 a.num)), .d (.sl (a.sub.map encD))], .box i4 28 [.d (.v (.int .i64 k)), .d (.v (.int .i64 m)), .d (.sl (sub.map encD))]]) (fun y => sub.length - y.1) (0, []) ⟨Nat.zero_le _, Nat.le_refl _, HR.out⟩ ?_ ?_ ?_
    · repeat (first | exact Js _ | refine Jr (by simp [PF.get]; rfl) (by first | rfl | (simp [*]; done) | fail) ?_)
    · repeat (first | exact List.Sublist.refl _ | exact List.nil_sublist _ | refine List.Sublist.cons_cons _ ?_ | refine List.Sublist.cons _ ?_)
    rintro ⟨j, o⟩ ⟨hj, ho, hR⟩
    simp only at hj ho hR ⊢
    clear HR
    by_cases hlt : j < sub.length
    · have hx := get_enc hlt
      have hc : (j : Int) < sub.length := by omega
      have hn0 : (0 : Int) ≤ j := by omega
      have hin := wr64 (n := (j : Int) + 1) (by omega) (by omega)
      have hR2 := hR.out
      rw [gtL_step hlt] at hR2
      have hmem := List.getElem_mem hlt
      have hol : o.length ≤ 100 := by omega
      have HO := Lib.hid ho
      have hbe := ben_rng k j
      have hc0 := Lib.hid (rbeneath_p (.mk k m sub) j)
      have hc1 := IH.out _ hmem (b + benB k j) (HG.out _ hmem) (by omega) (by have := HH.out _ hmem; omega)
      have hwb := wr64 (n := b + benB k j) (by omega) (by have := HH.out _ hmem; omega)
      simp only [aggD, gotP, Jk, List.map_cons, List.map_nil, Ju, Jv, Jw] at hc0 hc1
      have HC1 := Lib.hid hc1
      have hR3 : Hid (R = (o ++ [gtT (namedLf a n) sub[j] (b + benB k j)]) ++ gtL (namedLf a n) k (sub.drop (j + 1)) (j + 1) b) := by show _ = _; rw [hR2, List.append_assoc]; rfl
      clear hR hR2 hc1 hmem ho hbe
      generalize gtT (namedLf a n) sub[j] (b + benB k j) = y at *
      generalize benB k j = bj at *
      refine go_ ?_
      refine PW_drawnL (J := keepJ [(i4, _), (i5, _)]) [(0, .a), (1, .a), (2, .a), (3, .a), (4, .a), (5, .a), (6, .a), (7, .a), (8, .a), (9, .a), (10, .a), (11, .a), (12, .a), (13, .a), (14, .a), (15, .e), (16, .a)] (by kernel_rfl) (by rfl) (by kernel_rfl) (by (repeat (first | exact keepJ_nil _ | refine Jt (by simp [St.box?, *] <;> rfl) ?_))) ?_
      repeat (first | with_reducible refine PL_nil ?_ | refine PL_gn2 ?_ | refine PL_s2 ?_ | refine PL_b2 ?_)
      refine PL_call2 (hc0.out) ?_
      repeat (first | with_reducible refine PL_nil ?_ | refine PL_gn2 ?_ | refine PL_s2 ?_ | refine PL_b2 ?_)
      refine PL_call2 (HC1.out) ?_
      repeat (first | with_reducible refine PL_nil ?_ | refine PL_gn2 ?_ | refine PL_s2 ?_ | refine PL_b2 ?_)
      refine PL_bs ?_ rfl (by decide) rfl (by simp; rfl) (by rfl) (by simp; rfl) (by rfl) (by decide) (by decide) (by simp [nev, nevA, nevB, Jo, PF.eval, PF.get, PF.wants, cPV, cCell, PV.rows, evBin, evUn, Jp, evLen, loadA, Jm, TyK.agg, partA, St.box?, St.tok?, St.setBox, St.setTok, fillO, spl, PV.ps, PV.one, Jn, aggD, slD, Jg, Jj, Jh, Ji, Jf, Je, *]; rfl) (by simp [rowsOf, toDs, PV.toD]; rfl)
      refine PL_app (o.length + 1) ?_ ?_ ?_ ?_ ?_
      rotate_left
      · exact rows_of (α := Tm × Bool) rfl
      · exact rows_one rfl
      · simp
      · exact .inr (by (repeat (first | exact keepJ_nil _ | refine Jt (by simp [St.box?, *] <;> rfl) ?_)))
      repeat (first | with_reducible refine PL_nil ?_ | refine PL_gn2 ?_ | refine PL_s2 ?_ | refine PL_b2 ?_)
      refine go_ ?_
      refine ⟨(j + 1, o ++ [y]), ⟨hlt, by have := HO.out; simp only [List.length_append, List.length_singleton]; omega, hR3⟩, by simp only; omega, ?_, ?_⟩
      · repeat (first | exact Js _ | refine Jr (by simp [PF.get]; rfl) (by first | rfl | (simp [(encD_gt y)]; done) | fail) ?_)
      · simp only [List.length_append, List.length_singleton]
        repeat (first | exact List.Sublist.refl _ | exact List.nil_sublist _ | refine List.Sublist.cons_cons _ ?_ | refine List.Sublist.cons _ ?_)
    · have hc : ¬ (j : Int) < sub.length := by omega
      have hf : R = o := by rw [show R = _ from hR.out, List.drop_of_length_le (by omega)]; simp only [gtL, List.append_nil]
      have hS := Lib.hid (rsubs9_p (.mk k m sub) o (by omega))
      rw [hf]
      simp only [aggD, gotP, Jk, List.map_cons, List.map_nil, Ju, Jv, Jw] at hS ⊢
      clear hR hf ho
      generalize subsS k m o = r at *
      refine go_ ?_
      refine Jb (hS.out) ?_
      refine go_ ?_
      refine Rc ?_
      refine go_ ?_
      refine Jl (by simp) (by simp only [Try.results122]; rfl) (by simp [resP, St.box?, PF.get, Jm, TyK.agg, *]; rfl) (List.nil_sublist _) ?_
      exact ⟨by simp [tupP, PV.norm2, PV.norm1, PV.norm0], rfl⟩
set_option maxHeartbeats 16000000 in
theorem rnamedR_p (t a : Tm) (n : Int) : PCalls Try.prog 84 [aggD t, aggD a, .d (.v (.int .i64 n))] [] fun p s => p = trP (namedR t a n) ∧ s = [] := by
  have hS := Lib.hid (rshaped_p t)
  have hS2 := Lib.hid (rshaped_p a)
  have hF := Lib.hid (rfits08_p n)
  have HR := Lib.hid (show namedR t a n = if (shapedB t && shapedB a && fitsB n) = true then doneS (subT (namedLf a n) t 0) else (.mk 0 0 [], 5) from rfl)
  cases h1 : shapedB t with
  | false =>
    rw [h1] at hS
    rw [HR.out, h1]
    simp only [Bool.true_and, Bool.false_and, Bool.and_false, Bool.and_self, Bool.false_eq_true, if_false, trP, aggD, Jk, List.map_cons, List.map_nil, Ju, Jv, Jw] at hS hS2 ⊢
    clear HR h1
    refine PCalls.enter Try.func84 rfl Try.ntmps84 (by simp) ?_
    simp only [argsF]
    refine go_ ?_
    refine Jc ?_
    intro i3 hi3
    try simp only [Rh, Rg, Rf, Ja] at hi3
    refine go_ ?_
    refine Jc ?_
    intro i4 hi4
    try simp only [Rh, Rg, Rf, Ja] at hi4
    refine go_ ?_
    refine Jd ?_
    intro i6 hi6
    try simp only [Rh, Rg, Rf, Ja] at hi6
    refine go_ ?_
    refine Jb (hS.out) ?_
    refine go_ ?_
    refine Rc ?_
    refine go_ ?_
    refine Jl (by simp) (by simp only [Try.results84]; rfl) (by simp [resP, St.box?, PF.get, Jm, TyK.agg, *]; rfl) (List.nil_sublist _) ?_
    exact ⟨by simp [tupP, PV.norm2, PV.norm1, PV.norm0], rfl⟩
  | true =>
  rw [h1] at hS
  cases h2 : shapedB a with
  | false =>
    rw [h2] at hS2
    rw [HR.out, h1, h2]
    simp only [Bool.true_and, Bool.false_and, Bool.and_false, Bool.and_self, Bool.false_eq_true, if_false, trP, aggD, Jk, List.map_cons, List.map_nil, Ju, Jv, Jw] at hS hS2 ⊢
    clear HR h1 h2
    refine PCalls.enter Try.func84 rfl Try.ntmps84 (by simp) ?_
    simp only [argsF]
    refine go_ ?_
    refine Jc ?_
    intro i3 hi3
    try simp only [Rh, Rg, Rf, Ja] at hi3
    refine go_ ?_
    refine Jc ?_
    intro i4 hi4
    try simp only [Rh, Rg, Rf, Ja] at hi4
    refine go_ ?_
    refine Jd ?_
    intro i6 hi6
    try simp only [Rh, Rg, Rf, Ja] at hi6
    refine go_ ?_
    refine Jb (hS.out) ?_
    refine go_ ?_
    refine Jq (hS2.out) ?_
    refine go_ ?_
    refine Rc ?_
    refine go_ ?_
    refine Jl (by simp) (by simp only [Try.results84]; rfl) (by simp [resP, St.box?, PF.get, Jm, TyK.agg, *]; rfl) (List.nil_sublist _) ?_
    exact ⟨by simp [tupP, PV.norm2, PV.norm1, PV.norm0], rfl⟩
  | true =>
  rw [h2] at hS2
  cases h3 : fitsB n with
  | false =>
    rw [h3] at hF
    rw [HR.out, h1, h2, h3]
    simp only [Bool.true_and, Bool.false_and, Bool.and_false, Bool.and_self, Bool.false_eq_true, if_false, trP, aggD, Jk, List.map_cons, List.map_nil, Ju, Jv, Jw] at hS hS2 ⊢
    clear HR h1 h2 h3
    refine PCalls.enter Try.func84 rfl Try.ntmps84 (by simp) ?_
    simp only [argsF]
    refine go_ ?_
    refine Jc ?_
    intro i3 hi3
    try simp only [Rh, Rg, Rf, Ja] at hi3
    refine go_ ?_
    refine Jc ?_
    intro i4 hi4
    try simp only [Rh, Rg, Rf, Ja] at hi4
    refine go_ ?_
    refine Jd ?_
    intro i6 hi6
    try simp only [Rh, Rg, Rf, Ja] at hi6
    refine go_ ?_
    refine Jb (hS.out) ?_
    refine go_ ?_
    refine Jq (hS2.out) ?_
    refine go_ ?_
    refine Jq (hF.out) ?_
    refine go_ ?_
    refine Rc ?_
    refine go_ ?_
    refine Jl (by simp) (by simp only [Try.results84]; rfl) (by simp [resP, St.box?, PF.get, Jm, TyK.agg, *]; rfl) (List.nil_sublist _) ?_
    exact ⟨by simp [tupP, PV.norm2, PV.norm1, PV.norm0], rfl⟩
  | true =>
  rw [h3] at hF
  rw [HR.out, h1, h2, h3]
  simp only [Bool.and_self, if_true]
  have hB := Lib.hid (rnamed9_p a n (shaped_hg h2).1 (by have := (shaped_hg h2).2.1; omega) t 0 (shaped_hg h1).1 (by decide) (by have := (shaped_hg h1).2.1; omega))
  have hD := Lib.hid (rdone9_p (gtT (namedLf a n) t 0).1 (gtT (namedLf a n) t 0).2)
  rw [show gotR (gtT (namedLf a n) t 0).1 (gtT (namedLf a n) t 0).2 = doneS (subT (namedLf a n) t 0) from gt_done t] at hD
  clear HR h1 h2 h3
  generalize doneS (subT (namedLf a n) t 0) = r at *
  generalize gtT (namedLf a n) t 0 = x at *
  simp only [gotP, trP, aggD, Jk, List.map_cons, List.map_nil] at hS hS2 hB hD ⊢
  refine PCalls.enter Try.func84 rfl Try.ntmps84 (by simp) ?_
  simp only [argsF]
  refine go_ ?_
  refine Jc ?_
  intro i3 hi3
  try simp only [Rh, Rg, Rf, Ja] at hi3
  refine go_ ?_
  refine Jc ?_
  intro i4 hi4
  try simp only [Rh, Rg, Rf, Ja] at hi4
  refine go_ ?_
  refine Jd ?_
  intro i6 hi6
  try simp only [Rh, Rg, Rf, Ja] at hi6
  refine go_ ?_
  refine Jb (hS.out) ?_
  refine go_ ?_
  refine Jq (hS2.out) ?_
  refine go_ ?_
  refine Jq (hF.out) ?_
  refine go_ ?_
  refine Jb (hB.out) ?_
  refine go_ ?_
  refine Jb (hD.out) ?_
  refine go_ ?_
  refine Rc ?_
  refine go_ ?_
  refine Jl (by simp) (by simp only [Try.results84]; rfl) (by simp [resP, St.box?, PF.get, Jm, TyK.agg, *]; rfl) (List.nil_sublist _) ?_
  exact ⟨by simp [tupP, PV.norm2, PV.norm1, PV.norm0], rfl⟩
end Go.Proofs.Ytfnfbbmegdkhjaa

namespace Go.Proofs.Ytfnfbbmegdkhjaa
open Go.RowKit
set_option maxRecDepth 100000
/-- the variables, with a term put in, in order -/
def putF (n : Int) (t : Tm) : List Va → List Va → List Va × Int
  | o, [] => orderR o
  | o, v :: r => if v.n = n then putF n t o r else if (namedR v.ty t n).2 = 0 then putF n t (o ++ [⟨v.n, (namedR v.ty t n).1⟩]) r else ([], (namedR v.ty t n).2)
def putR (c : List Va) (n : Int) (t : Tm) : List Va × Int :=
  if (rightV c && shapedB t && decide (lsT t 0 ≤ 0)) = false then ([], 5) else if decide (n ∈ c.map Va.n) = false then ([], 16) else if sdT t n = true then ([], 3) else putF n t [] c
theorem put_bad {c : List Va} {n : Int} {t : Tm} (h : (rightV c && shapedB t && decide (lsT t 0 ≤ 0)) = false) : putR c n t = ([], 5) := by unfold putR; rw [if_pos h]
theorem put_good {c : List Va} {n : Int} {t : Tm} (h1 : rightV c = true) (h2 : shapedB t = true) (h3 : lsT t 0 ≤ 0) : putR c n t = if decide (n ∈ c.map Va.n) = false then ([], 16) else if sdT t n = true then ([], 3) else putF n t [] c := by
  unfold putR; rw [h1, h2, decide_eq_true h3]; rfl
set_option maxHeartbeats 16000000 in
theorem fput_p (c : List Va) (hl : c.length ≤ 100000) (n : Int) (t : Tm) : PCalls Try.prog 40 [.d (.sl (c.map encD)), .d (.v (.int .i64 n)), aggD t] [] fun p s => p = ordP (putR c n t) ∧ s = [] := by
  have hR := Lib.hid (fright_p c hl)
  have hS := Lib.hid (tshaped_p t)
  cases h1 : rightV c with
  | false =>
    rw [h1] at hR
    have HR := Lib.hid (put_bad (c := c) (n := n) (t := t) (by rw [h1]; rfl))
    rw [HR.out]
    simp only [aggD, Jk, List.map_cons, List.map_nil] at hS ⊢
    clear HR h1
    refine PCalls.enter Try.func40 rfl Try.ntmps40 (by simp) ?_
    simp only [argsF]
    refine go_ ?_
    refine Jc ?_
    intro i5 hi5
    try simp only [Rh, Rg, Rf, Ja] at hi5
    refine go_ ?_
    refine Jb (hR.out) ?_
    refine go_ ?_
    refine Jl (by simp) (by simp only [Try.results40]; rfl) (by simp [resP, St.box?, PF.get, Jm, TyK.agg, *]; rfl) (List.nil_sublist _) ?_
    exact ⟨rfl, rfl⟩
  | true =>
  rw [h1] at hR
  cases h2 : shapedB t with
  | false =>
    rw [h2] at hS
    have HR := Lib.hid (put_bad (c := c) (n := n) (t := t) (by rw [h1, h2]; rfl))
    rw [HR.out]
    simp only [aggD, Jk, List.map_cons, List.map_nil] at hS ⊢
    clear HR h1 h2
    refine PCalls.enter Try.func40 rfl Try.ntmps40 (by simp) ?_
    simp only [argsF]
    refine go_ ?_
    refine Jc ?_
    intro i5 hi5
    try simp only [Rh, Rg, Rf, Ja] at hi5
    refine go_ ?_
    refine Jb (hR.out) ?_
    refine go_ ?_
    refine Jq (hS.out) ?_
    refine go_ ?_
    refine Jl (by simp) (by simp only [Try.results40]; rfl) (by simp [resP, St.box?, PF.get, Jm, TyK.agg, *]; rfl) (List.nil_sublist _) ?_
    exact ⟨rfl, rfl⟩
  | true =>
  rw [h2] at hS
  have hL := Lib.hid (tLoose_p t)
  rw [show looseT t = lsT t 0 from by unfold looseT; rw [if_pos h2]] at hL
  by_cases h3 : lsT t 0 ≤ 0
  rotate_left
  · have HR := Lib.hid (put_bad (c := c) (n := n) (t := t) (by rw [h1, h2, decide_eq_false h3]; rfl))
    rw [HR.out]
    have hz : 0 < lsT t 0 := by omega
    generalize lsT t 0 = L at *
    simp only [aggD, Jk, List.map_cons, List.map_nil] at hS hL ⊢
    clear HR h1 h2 h3
    refine PCalls.enter Try.func40 rfl Try.ntmps40 (by simp) ?_
    simp only [argsF]
    refine go_ ?_
    refine Jc ?_
    intro i5 hi5
    try simp only [Rh, Rg, Rf, Ja] at hi5
    refine go_ ?_
    refine Jb (hR.out) ?_
    refine go_ ?_
    refine Jq (hS.out) ?_
    refine go_ ?_
    refine Jq (hL.out) ?_
    refine go_ ?_
    refine Jl (by simp) (by simp only [Try.results40]; rfl) (by simp [resP, St.box?, PF.get, Jm, TyK.agg, *]; rfl) (List.nil_sublist _) ?_
    exact ⟨rfl, rfl⟩
  have HR := Lib.hid (put_good (n := n) h1 h2 h3)
  have hz : ¬ 0 < lsT t 0 := by omega
  have hN := Lib.hid (fnumbers_p c hl)
  have hC := Lib.hid (scontains_p (c.map Va.n) n)
  have hT := Lib.hid (tfrees_p t)
  have hC2 := Lib.hid (scontains_p (enT 8 8 t) n)
  rw [show decide (n ∈ enT 8 8 t) = sdT t n from by rw [Bool.eq_iff_iff, decide_eq_true_eq]; exact frees_sd h2 n] at hC2
  clear h1 h2 h3
  generalize lsT t 0 = L at *
  generalize (c.map Va.n).map encD = U at *
  generalize (enT 8 8 t).map encD = E at *
  cases h4 : decide (n ∈ c.map Va.n) with
  | false =>
    rw [h4] at hC HR
    rw [HR.out]
    simp only [aggD, Jk, List.map_cons, List.map_nil] at hS hL hT ⊢
    clear HR h4
    refine PCalls.enter Try.func40 rfl Try.ntmps40 (by simp) ?_
    simp only [argsF]
    refine go_ ?_
    refine Jc ?_
    intro i5 hi5
    try simp only [Rh, Rg, Rf, Ja] at hi5
    refine go_ ?_
    refine Jb (hR.out) ?_
    refine go_ ?_
    refine Jq (hS.out) ?_
    refine go_ ?_
    refine Jq (hL.out) ?_
    refine go_ ?_
    refine Jb (hN.out) ?_
    refine go_ ?_
    refine Jb (hC.out) ?_
    refine go_ ?_
    refine Jl (by simp) (by simp only [Try.results40]; rfl) (by simp [resP, St.box?, PF.get, Jm, TyK.agg, *]; rfl) (List.nil_sublist _) ?_
    exact ⟨rfl, rfl⟩
  | true =>
  rw [h4] at hC HR
  clear h4
  simp only [Bool.true_eq_false, if_false] at HR
  cases h5 : sdT t n with
  | true =>
    rw [h5] at hC2 HR
    rw [HR.out]
    simp only [if_true]
    simp only [aggD, Jk, List.map_cons, List.map_nil] at hS hL hT ⊢
    clear HR h5
    refine PCalls.enter Try.func40 rfl Try.ntmps40 (by simp) ?_
    simp only [argsF]
    refine go_ ?_
    refine Jc ?_
    intro i5 hi5
    try simp only [Rh, Rg, Rf, Ja] at hi5
    refine go_ ?_
    refine Jb (hR.out) ?_
    refine go_ ?_
    refine Jq (hS.out) ?_
    refine go_ ?_
    refine Jq (hL.out) ?_
    refine go_ ?_
    refine Jb (hN.out) ?_
    refine go_ ?_
    refine Jb (hC.out) ?_
    refine go_ ?_
    refine Jb (hT.out) ?_
    refine go_ ?_
    refine Jb (hC2.out) ?_
    refine go_ ?_
    refine Jl (by simp) (by simp only [Try.results40]; rfl) (by simp [resP, St.box?, PF.get, Jm, TyK.agg, *]; rfl) (List.nil_sublist _) ?_
    exact ⟨rfl, rfl⟩
  | false =>
  rw [h5] at hC2 HR
  simp only [Bool.false_eq_true, if_false] at HR
  clear h5
  obtain ⟨R, hRd⟩ : ∃ R, R = putR c n t := ⟨_, rfl⟩
  rw [← hRd] at HR ⊢
  have HRR : Hid (R = putF n t [] (c.drop 0)) := HR.out
  clear HR hRd
  simp only [aggD, Jk, List.map_cons, List.map_nil] at hS hL hT ⊢
  refine PCalls.enter Try.func40 rfl Try.ntmps40 (by simp) ?_
  simp only [argsF]
  refine go_ ?_
  refine Jc ?_
  intro i5 hi5
  try simp only [Rh, Rg, Rf, Ja] at hi5
  refine go_ ?_
  refine Jb (hR.out) ?_
  refine go_ ?_
  refine Jq (hS.out) ?_
  refine go_ ?_
  refine Jq (hL.out) ?_
  refine go_ ?_
  refine Jb (hN.out) ?_
  refine go_ ?_
  refine Jb (hC.out) ?_
  refine go_ ?_
  refine Jb (hT.out) ?_
  refine go_ ?_
  refine Jb (hC2.out) ?_
  refine go_ ?_
  refine PW_own 8 44 4 (by decide) (by simp [PF.get] <;> rfl) fun g hg => ?_
  refine go_ ?_
  refine PW_loop (ι := Nat × List Va) (fun y => y.1 ≤ c.length ∧ y.2.length ≤ y.1 ∧ Hid (R = putF n t y.2 (c.drop y.1))) (fun y => [(0, .d (.sl (c.map encD))), (1, .d (.v (.int .i64 n))), (5, .ptr i5 0), (8, .own g (y.2.map encD)), (35, .d (.sl (c.map encD))), (36, .d (.v (.int .i64 c.length))), (37, .d (.v (.int .i64 (y.1 : Int))))]) (fun y => [.tok g 44 4 y.2.length, .box i5 28 [.d (.v (.int .i64 t.kind)), .d (.v (.int .i64 t.num)), .d (.sl (t.sub.map encD))]]) (fun y => c.length - y.1) (0, []) ⟨Nat.zero_le _, Nat.le_refl _, HRR.out⟩ ?_ ?_ ?_
  · repeat (first | exact Js _ | refine Jr (by simp [PF.get]; rfl) (by first | rfl | (simp [*]; done) | fail) ?_)
  · repeat (first | exact List.Sublist.refl _ | exact List.nil_sublist _ | refine List.Sublist.cons_cons _ ?_ | refine List.Sublist.cons _ ?_)
  rintro ⟨j, o⟩ ⟨hj, ho, hR2⟩
  simp only at hj ho hR2 ⊢
  clear HRR
  by_cases hlt : j < c.length
  · have hx := get_enc hlt
    have hc : (j : Int) < c.length := by omega
    have hn0 : (0 : Int) ≤ j := by omega
    have hin := wr64 (n := (j : Int) + 1) (by omega) (by omega)
    have hR3 := hR2.out
    rw [List.drop_eq_getElem_cons hlt, putF] at hR3
    have hol : o.length ≤ 100000 := by omega
    have HO := Lib.hid ho
    clear hR2 ho
    by_cases hv : c[j].n = n
    · rw [if_pos hv] at hR3
      have hvb : (c[j].n == n) = true := by rw [beq_iff_eq]; exact hv
      have HR3 := Lib.hid hR3
      clear hR3 hv
      refine go_ ?_
      refine Jd ?_
      intro i10 hi10
      try simp only [Rh, Rg, Rf, Ja] at hi10
      refine go_ ?_
      refine Rc ?_
      refine go_ ?_
      exact ⟨(j + 1, o), ⟨hlt, by have := HO.out; simp only; omega, HR3⟩, by simp only; omega, by repeat (first | exact Js _ | refine Jr (by simp [PF.get]; rfl) (by first | rfl | (simp [*]; done) | fail) ?_), by repeat (first | exact List.Sublist.refl _ | exact List.nil_sublist _ | refine List.Sublist.cons_cons _ ?_ | refine List.Sublist.cons _ ?_)⟩
    · rw [if_neg hv] at hR3
      have hvb : (c[j].n == n) = false := by rw [beq_eq_false_iff_ne]; exact hv
      have hNm := Lib.hid (snamed_p c[j].ty t n)
      obtain ⟨x, hxd⟩ : ∃ x, x = namedR c[j].ty t n := ⟨_, rfl⟩
      rw [← hxd] at hNm hR3
      have HR3 := Lib.hid hR3
      clear hR3 hv hxd
      obtain ⟨x, e⟩ := x
      simp only [trP, aggD, Jk, List.map_cons, List.map_nil] at hNm HR3
      by_cases he : e = 0
      · subst he
        simp only [if_true] at HR3
        refine go_ ?_
        refine Jd ?_
        intro i10 hi10
        try simp only [Rh, Rg, Rf, Ja] at hi10
        refine go_ ?_
        refine Rc ?_
        refine go_ ?_
        refine Jb (hNm.out) ?_
        refine go_ ?_
        refine Jd ?_
        intro i11 hi11
        try simp only [Rh, Rg, Rf, Ja] at hi11
        refine go_ ?_
        refine Rc ?_
        refine go_ ?_
        refine POps_bs_a ?_
        refine go_ ?_
        refine POps_app_a (o.length + 1) ?_ ?_ ?_ ?_
        · simp
        · exact rows_of (α := Va) rfl
        · exact rows_one rfl
        refine go_ ?_
        refine ⟨(j + 1, o ++ [⟨c[j].n, x⟩]), ⟨hlt, by have := HO.out; simp only [List.length_append, List.length_singleton]; omega, HR3⟩, by simp only; omega, ?_, ?_⟩
        · repeat (first | exact Js _ | refine Jr (by simp [PF.get]; rfl) (by first | rfl | (simp [encD_va]; done) | fail) ?_)
        · simp only [List.length_append, List.length_singleton]
          repeat (first | exact List.Sublist.refl _ | exact List.nil_sublist _ | refine List.Sublist.cons_cons _ ?_ | refine List.Sublist.cons _ ?_)
      · have hR4 : R = ([], e) := by rw [show R = _ from HR3.out, if_neg he]
        have heb : (e != 0) = true := by rw [bne_iff_ne]; exact he
        rw [hR4]
        clear HR3 hR4
        refine go_ ?_
        refine Jd ?_
        intro i10 hi10
        try simp only [Rh, Rg, Rf, Ja] at hi10
        refine go_ ?_
        refine Rc ?_
        refine go_ ?_
        refine Jb (hNm.out) ?_
        refine go_ ?_
        refine Jd ?_
        intro i11 hi11
        try simp only [Rh, Rg, Rf, Ja] at hi11
        refine go_ ?_
        refine Rc ?_
        refine go_ ?_
        refine Jl (by simp) (by simp only [Try.results40]; rfl) (by simp [resP, St.box?, PF.get, Jm, TyK.agg, *]; rfl) (List.nil_sublist _) ?_
        exact ⟨rfl, rfl⟩
  · have hc : ¬ (j : Int) < c.length := by omega
    have hR3 : R = orderR o := by rw [show R = _ from hR2.out, List.drop_of_length_le (by omega)]; rfl
    have hOr := Lib.hid (forder_p o (by omega))
    rw [hR3]
    clear hR2 hR3 ho
    generalize orderR o = r at *
    simp only [ordP] at hOr ⊢
    refine go_ ?_
    refine Jb (hOr.out) ?_
    refine go_ ?_
    refine Jl (by simp) (by simp only [Try.results40]; rfl) (by simp [resP, St.box?, PF.get, Jm, TyK.agg, *]; rfl) (List.nil_sublist _) ?_
    exact ⟨by simp [tupP, PV.norm2, PV.norm1, PV.norm0], rfl⟩
end Go.Proofs.Ytfnfbbmegdkhjaa

namespace Go.Proofs.Ytfnfbbmegdkhjaa
open Go.RowKit
set_option maxRecDepth 100000
set_option maxHeartbeats 16000000 in
theorem rput22_p (c : List Va) (hl : c.length ≤ 100000) (n : Int) (t : Tm) : PCalls Try.prog 41 [.d (.sl (c.map encD)), .d (.v (.int .i64 n)), aggD t] [] fun p s => p = ordP (putR c n t) ∧ s = [] := by
  have hR := Lib.hid (rright22_p c)
  have hS := Lib.hid (rshaped_p t)
  cases h1 : rightV c with
  | false =>
    rw [h1] at hR
    have HR := Lib.hid (put_bad (c := c) (n := n) (t := t) (by rw [h1]; rfl))
    rw [HR.out]
    simp only [aggD, Jk, List.map_cons, List.map_nil] at hS ⊢
    clear HR h1
    refine PCalls.enter Try.func41 rfl Try.ntmps41 (by simp) ?_
    simp only [argsF]
    refine go_ ?_
    refine Jc ?_
    intro i5 hi5
    try simp only [Rh, Rg, Rf, Ja] at hi5
    refine go_ ?_
    refine Jb (hR.out) ?_
    refine go_ ?_
    refine Jl (by simp) (by simp only [Try.results41]; rfl) (by simp [resP, St.box?, PF.get, Jm, TyK.agg, *]; rfl) (List.nil_sublist _) ?_
    exact ⟨rfl, rfl⟩
  | true =>
  rw [h1] at hR
  cases h2 : shapedB t with
  | false =>
    rw [h2] at hS
    have HR := Lib.hid (put_bad (c := c) (n := n) (t := t) (by rw [h1, h2]; rfl))
    rw [HR.out]
    simp only [aggD, Jk, List.map_cons, List.map_nil] at hS ⊢
    clear HR h1 h2
    refine PCalls.enter Try.func41 rfl Try.ntmps41 (by simp) ?_
    simp only [argsF]
    refine go_ ?_
    refine Jc ?_
    intro i5 hi5
    try simp only [Rh, Rg, Rf, Ja] at hi5
    refine go_ ?_
    refine Jb (hR.out) ?_
    refine go_ ?_
    refine Jq (hS.out) ?_
    refine go_ ?_
    refine Jl (by simp) (by simp only [Try.results41]; rfl) (by simp [resP, St.box?, PF.get, Jm, TyK.agg, *]; rfl) (List.nil_sublist _) ?_
    exact ⟨rfl, rfl⟩
  | true =>
  rw [h2] at hS
  have hL := Lib.hid (rloose_p t 0 (shaped_hg h2).1 (by decide) (by have := (shaped_hg h2).2.1; omega))
  by_cases h3 : lsT t 0 ≤ 0
  rotate_left
  · have HR := Lib.hid (put_bad (c := c) (n := n) (t := t) (by rw [h1, h2, decide_eq_false h3]; rfl))
    rw [HR.out]
    have hz : 0 < lsT t 0 := by omega
    generalize lsT t 0 = L at *
    simp only [aggD, Jk, List.map_cons, List.map_nil] at hS hL ⊢
    clear HR h1 h2 h3
    refine PCalls.enter Try.func41 rfl Try.ntmps41 (by simp) ?_
    simp only [argsF]
    refine go_ ?_
    refine Jc ?_
    intro i5 hi5
    try simp only [Rh, Rg, Rf, Ja] at hi5
    refine go_ ?_
    refine Jb (hR.out) ?_
    refine go_ ?_
    refine Jq (hS.out) ?_
    refine go_ ?_
    refine Jq (hL.out) ?_
    refine go_ ?_
    refine Jl (by simp) (by simp only [Try.results41]; rfl) (by simp [resP, St.box?, PF.get, Jm, TyK.agg, *]; rfl) (List.nil_sublist _) ?_
    exact ⟨rfl, rfl⟩
  have HR := Lib.hid (put_good (n := n) h1 h2 h3)
  have hz : ¬ 0 < lsT t 0 := by omega
  have hN := Lib.hid (rplace22_p c n)
  have hT := Lib.hid (rstands_p t n)
  clear h1 h2 h3
  generalize lsT t 0 = L at *
  cases h4 : decide (n ∈ c.map Va.n) with
  | false =>
    have hp : plI (plF n c 0) = -1 := by rw [plF_none.2 (of_decide_eq_false h4)]; rfl
    rw [hp] at hN
    rw [h4] at HR
    rw [HR.out]
    simp only [aggD, Jk, List.map_cons, List.map_nil] at hS hL ⊢
    clear HR h4 hT hp
    refine PCalls.enter Try.func41 rfl Try.ntmps41 (by simp) ?_
    simp only [argsF]
    refine go_ ?_
    refine Jc ?_
    intro i5 hi5
    try simp only [Rh, Rg, Rf, Ja] at hi5
    refine go_ ?_
    refine Jb (hR.out) ?_
    refine go_ ?_
    refine Jq (hS.out) ?_
    refine go_ ?_
    refine Jq (hL.out) ?_
    refine go_ ?_
    refine Jb (hN.out) ?_
    refine go_ ?_
    refine Jl (by simp) (by simp only [Try.results41]; rfl) (by simp [resP, St.box?, PF.get, Jm, TyK.agg, *]; rfl) (List.nil_sublist _) ?_
    exact ⟨rfl, rfl⟩
  | true =>
  obtain ⟨m, hp⟩ : ∃ m : Nat, plI (plF n c 0) = m := by
    cases hq : plF n c 0 with
    | none => exact absurd (of_decide_eq_true h4) (plF_none.1 hq)
    | some m => exact ⟨m, rfl⟩
  have hp0 : ¬ (m : Int) < 0 := by omega
  rw [hp] at hN
  rw [h4] at HR
  clear h4 hp
  simp only [Bool.true_eq_false, if_false] at HR
  cases h5 : sdT t n with
  | true =>
    rw [h5] at hT HR
    rw [HR.out]
    simp only [if_true]
    simp only [aggD, Jk, List.map_cons, List.map_nil] at hS hL hT ⊢
    clear HR h5
    refine PCalls.enter Try.func41 rfl Try.ntmps41 (by simp) ?_
    simp only [argsF]
    refine go_ ?_
    refine Jc ?_
    intro i5 hi5
    try simp only [Rh, Rg, Rf, Ja] at hi5
    refine go_ ?_
    refine Jb (hR.out) ?_
    refine go_ ?_
    refine Jq (hS.out) ?_
    refine go_ ?_
    refine Jq (hL.out) ?_
    refine go_ ?_
    refine Jb (hN.out) ?_
    refine go_ ?_
    refine Jb (hT.out) ?_
    refine go_ ?_
    refine Jl (by simp) (by simp only [Try.results41]; rfl) (by simp [resP, St.box?, PF.get, Jm, TyK.agg, *]; rfl) (List.nil_sublist _) ?_
    exact ⟨rfl, rfl⟩
  | false =>
  rw [h5] at hT HR
  simp only [Bool.false_eq_true, if_false] at HR
  clear h5
  obtain ⟨R, hRd⟩ : ∃ R, R = putR c n t := ⟨_, rfl⟩
  rw [← hRd] at HR ⊢
  have HRR : Hid (R = putF n t [] (c.drop 0)) := HR.out
  clear HR hRd
  simp only [aggD, Jk, List.map_cons, List.map_nil] at hS hL hT ⊢
  refine PCalls.enter Try.func41 rfl Try.ntmps41 (by simp) ?_
  simp only [argsF]
  refine go_ ?_
  refine Jc ?_
  intro i5 hi5
  try simp only [Rh, Rg, Rf, Ja] at hi5
  refine go_ ?_
  refine Jb (hR.out) ?_
  refine go_ ?_
  refine Jq (hS.out) ?_
  refine go_ ?_
  refine Jq (hL.out) ?_
  refine go_ ?_
  refine Jb (hN.out) ?_
  refine go_ ?_
  refine Jb (hT.out) ?_
  refine go_ ?_
  refine POps_bs0 ?_ (by decide) (by first | (simp [nev, nevA, nevB, Jo, PF.eval, PF.get, PF.wants, cPV, cCell, PV.rows, evBin, evUn, Jp, evLen, loadA, Jm, TyK.agg, partA, St.box?, St.tok?, St.setBox, St.setTok, fillO, spl, PV.ps, PV.one, Jn, aggD, slD, Jg, Jj, Jh, Ji, Jf, Je, *]; done) | fail) (by simp; rfl) (by rfl) (by simp; rfl) (by rfl) (by decide)
  intro g hg
  refine go_ ?_
  refine PW_loop (ι := Nat × List Va) (fun y => y.1 ≤ c.length ∧ y.2.length ≤ y.1 ∧ Hid (R = putF n t y.2 (c.drop y.1))) (fun y => [(0, .d (.sl (c.map encD))), (1, .d (.v (.int .i64 n))), (5, .ptr i5 0), (8, .own g (y.2.map encD)), (9, .d (.v (.int .i64 (y.1 : Int))))]) (fun y => [.tok g 89 4 y.2.length, .box i5 28 [.d (.v (.int .i64 t.kind)), .d (.v (.int .i64 t.num)), .d (.sl (t.sub.map encD))]]) (fun y => c.length - y.1) (0, []) ⟨Nat.zero_le _, Nat.le_refl _, HRR.out⟩ ?_ ?_ ?_
  · repeat (first | exact Js _ | refine Jr (by simp [PF.get]; rfl) (by first | rfl | (simp [*]; done) | fail) ?_)
  · repeat (first | exact List.Sublist.refl _ | exact List.nil_sublist _ | refine List.Sublist.cons_cons _ ?_ | refine List.Sublist.cons _ ?_)
  rintro ⟨j, o⟩ ⟨hj, ho, hR2⟩
  simp only at hj ho hR2 ⊢
  clear HRR
  by_cases hlt : j < c.length
  · have hx := get_enc hlt
    have hc : (j : Int) < c.length := by omega
    have hn0 : (0 : Int) ≤ j := by omega
    have hin := wr64 (n := (j : Int) + 1) (by omega) (by omega)
    have hR3 := hR2.out
    rw [List.drop_eq_getElem_cons hlt, putF] at hR3
    have hol : o.length ≤ 100000 := by omega
    have HO := Lib.hid ho
    clear hR2 ho
    by_cases hv : c[j].n = n
    · rw [if_pos hv] at hR3
      have hvb : (c[j].n == n) = true := by rw [beq_iff_eq]; exact hv
      have HR3 := Lib.hid hR3
      clear hR3 hv
      refine go_ ?_
      exact ⟨(j + 1, o), ⟨hlt, by have := HO.out; simp only; omega, HR3⟩, by simp only; omega, by repeat (first | exact Js _ | refine Jr (by simp [PF.get]; rfl) (by first | rfl | (simp [*]; done) | fail) ?_), by repeat (first | exact List.Sublist.refl _ | exact List.nil_sublist _ | refine List.Sublist.cons_cons _ ?_ | refine List.Sublist.cons _ ?_)⟩
    · rw [if_neg hv] at hR3
      have hvb : (c[j].n == n) = false := by rw [beq_eq_false_iff_ne]; exact hv
      have hNm := Lib.hid (rnamedR_p c[j].ty t n)
      obtain ⟨x, hxd⟩ : ∃ x, x = namedR c[j].ty t n := ⟨_, rfl⟩
      rw [← hxd] at hNm hR3
      have HR3 := Lib.hid hR3
      clear hR3 hv hxd
      obtain ⟨x, e⟩ := x
      simp only [trP, aggD, Jk, List.map_cons, List.map_nil] at hNm HR3
      by_cases he : e = 0
      · subst he
        simp only [if_true] at HR3
        refine go_ ?_
        refine PW_drawnL (J := keepJ [(i5, _)]) [(0, .a), (1, .a), (2, .a), (3, .a), (4, .a), (5, .a), (6, .a), (7, .a), (8, .a), (9, .a), (10, .a), (11, .e), (12, .e), (13, .a)] (by kernel_rfl) (by rfl) (by kernel_rfl) (by (repeat (first | exact keepJ_nil _ | refine Jt (by simp [St.box?, *] <;> rfl) ?_))) ?_
        repeat (first | with_reducible refine PL_nil ?_ | refine PL_gn2 ?_ | refine PL_s2 ?_ | refine PL_b2 ?_)
        refine PL_call2 (hNm.out) ?_
        repeat (first | with_reducible refine PL_nil ?_ | refine PL_gn2 ?_ | refine PL_s2 ?_ | refine PL_b2 ?_)
        refine PL_alloc rfl (by decide) rfl (by simp; rfl) (fun i hi => by simp only [Rh, Rg, Rf] at hi; (repeat (first | exact keepJ_nil _ | refine Jt (by simp [St.box?, *] <;> rfl) ?_))) ?_
        intro i10 hi10
        try simp only [Rh, Rg, Rf, Ja] at hi10
        repeat (first | with_reducible refine PL_nil ?_ | refine PL_gn2 ?_ | refine PL_s2 ?_ | refine PL_b2 ?_)
        refine PL_store rfl rfl (by simp [nev, nevA, nevB, Jo, PF.eval, PF.get, PF.wants, cPV, cCell, PV.rows, evBin, evUn, Jp, evLen, loadA, Jm, TyK.agg, partA, St.box?, St.tok?, St.setBox, St.setTok, fillO, spl, PV.ps, PV.one, Jn, aggD, slD, Jg, Jj, Jh, Ji, Jf, Je, *]; rfl) (by rfl) (by simp [nev, nevA, nevB, Jo, PF.eval, PF.get, PF.wants, cPV, cCell, PV.rows, evBin, evUn, Jp, evLen, loadA, Jm, TyK.agg, partA, St.box?, St.tok?, St.setBox, St.setTok, fillO, spl, PV.ps, PV.one, Jn, aggD, slD, Jg, Jj, Jh, Ji, Jf, Je, *]; rfl) (by simp [PV.ps, aggD, slD, Jg, Jj, Jh, Ji, Jf, Je]; rfl) (by first | rfl | (simp [*]; done) | (simp [PV.one, *]; done) | fail) (by simp; rfl) (by first | (simp; done) | fail) (by simp [nev, nevA, nevB, Jo, PF.eval, PF.get, PF.wants, cPV, cCell, PV.rows, evBin, evUn, Jp, evLen, loadA, Jm, TyK.agg, partA, St.box?, St.tok?, St.setBox, St.setTok, fillO, spl, PV.ps, PV.one, Jn, aggD, slD, Jg, Jj, Jh, Ji, Jf, Je, *]; rfl) (by rfl) (by first | (simp; done) | fail) (by simp [St.setBox, spl, *]; rfl) (by first | exact .inl (by decide +kernel) | exact .inr (by (repeat (first | exact keepJ_nil _ | refine Jt (by simp [St.box?, *] <;> rfl) ?_)))) ?_
        repeat (first | with_reducible refine PL_nil ?_ | refine PL_gn2 ?_ | refine PL_s2 ?_ | refine PL_b2 ?_)
        refine go_ ?_
        refine PW_drawnL (J := keepJ [(i10, _)]) [(0, .a), (1, .a), (2, .a), (3, .a), (4, .a), (5, .a), (6, .a), (7, .a), (8, .a), (9, .e), (10, .a)] (by kernel_rfl) (by rfl) (by kernel_rfl) (by (repeat (first | exact keepJ_nil _ | refine Jt (by simp [St.box?, *] <;> rfl) ?_))) ?_
        repeat (first | with_reducible refine PL_nil ?_ | refine PL_gn2 ?_ | refine PL_s2 ?_ | refine PL_b2 ?_)
        refine PL_bs ?_ rfl (by decide) rfl (by simp; rfl) (by rfl) (by simp; rfl) (by rfl) (by decide) (by decide) (by simp [nev, nevA, nevB, Jo, PF.eval, PF.get, PF.wants, cPV, cCell, PV.rows, evBin, evUn, Jp, evLen, loadA, Jm, TyK.agg, partA, St.box?, St.tok?, St.setBox, St.setTok, fillO, spl, PV.ps, PV.one, Jn, aggD, slD, Jg, Jj, Jh, Ji, Jf, Je, *]; rfl) (by simp [rowsOf, toDs, PV.toD]; rfl)
        refine PL_app (o.length + 1) ?_ ?_ ?_ ?_ ?_
        rotate_left
        · exact rows_of (α := Va) rfl
        · exact rows_one rfl
        · simp
        · exact .inr (by (repeat (first | exact keepJ_nil _ | refine Jt (by simp [St.box?, *] <;> rfl) ?_)))
        repeat (first | with_reducible refine PL_nil ?_ | refine PL_gn2 ?_ | refine PL_s2 ?_ | refine PL_b2 ?_)
        refine go_ ?_
        refine ⟨(j + 1, o ++ [⟨c[j].n, x⟩]), ⟨hlt, by have := HO.out; simp only [List.length_append, List.length_singleton]; omega, HR3⟩, by simp only; omega, ?_, ?_⟩
        · repeat (first | exact Js _ | refine Jr (by simp [PF.get]; rfl) (by first | rfl | (simp [encD_va]; done) | fail) ?_)
        · simp only [List.length_append, List.length_singleton]
          repeat (first | exact List.Sublist.refl _ | exact List.nil_sublist _ | refine List.Sublist.cons_cons _ ?_ | refine List.Sublist.cons _ ?_)
      · have hR4 : R = ([], e) := by rw [show R = _ from HR3.out, if_neg he]
        have heb : (e != 0) = true := by rw [bne_iff_ne]; exact he
        rw [hR4]
        clear HR3 hR4
        refine go_ ?_
        refine PW_drawnL (J := keepJ [(i5, _)]) [(0, .a), (1, .a), (2, .a), (3, .a), (4, .a), (5, .a), (6, .a), (7, .a), (8, .a), (9, .a), (10, .a), (11, .e), (12, .e), (13, .a)] (by kernel_rfl) (by rfl) (by kernel_rfl) (by (repeat (first | exact keepJ_nil _ | refine Jt (by simp [St.box?, *] <;> rfl) ?_))) ?_
        repeat (first | with_reducible refine PL_nil ?_ | refine PL_gn2 ?_ | refine PL_s2 ?_ | refine PL_b2 ?_)
        refine PL_call2 (hNm.out) ?_
        repeat (first | with_reducible refine PL_nil ?_ | refine PL_gn2 ?_ | refine PL_s2 ?_ | refine PL_b2 ?_)
        refine PL_alloc rfl (by decide) rfl (by simp; rfl) (fun i hi => by simp only [Rh, Rg, Rf] at hi; (repeat (first | exact keepJ_nil _ | refine Jt (by simp [St.box?, *] <;> rfl) ?_))) ?_
        intro i10 hi10
        try simp only [Rh, Rg, Rf, Ja] at hi10
        repeat (first | with_reducible refine PL_nil ?_ | refine PL_gn2 ?_ | refine PL_s2 ?_ | refine PL_b2 ?_)
        refine PL_store rfl rfl (by simp [nev, nevA, nevB, Jo, PF.eval, PF.get, PF.wants, cPV, cCell, PV.rows, evBin, evUn, Jp, evLen, loadA, Jm, TyK.agg, partA, St.box?, St.tok?, St.setBox, St.setTok, fillO, spl, PV.ps, PV.one, Jn, aggD, slD, Jg, Jj, Jh, Ji, Jf, Je, *]; rfl) (by rfl) (by simp [nev, nevA, nevB, Jo, PF.eval, PF.get, PF.wants, cPV, cCell, PV.rows, evBin, evUn, Jp, evLen, loadA, Jm, TyK.agg, partA, St.box?, St.tok?, St.setBox, St.setTok, fillO, spl, PV.ps, PV.one, Jn, aggD, slD, Jg, Jj, Jh, Ji, Jf, Je, *]; rfl) (by simp [PV.ps, aggD, slD, Jg, Jj, Jh, Ji, Jf, Je]; rfl) (by first | rfl | (simp [*]; done) | (simp [PV.one, *]; done) | fail) (by simp; rfl) (by first | (simp; done) | fail) (by simp [nev, nevA, nevB, Jo, PF.eval, PF.get, PF.wants, cPV, cCell, PV.rows, evBin, evUn, Jp, evLen, loadA, Jm, TyK.agg, partA, St.box?, St.tok?, St.setBox, St.setTok, fillO, spl, PV.ps, PV.one, Jn, aggD, slD, Jg, Jj, Jh, Ji, Jf, Je, *]; rfl) (by rfl) (by first | (simp; done) | fail) (by simp [St.setBox, spl, *]; rfl) (by first | exact .inl (by decide +kernel) | exact .inr (by (repeat (first | exact keepJ_nil _ | refine Jt (by simp [St.box?, *] <;> rfl) ?_)))) ?_
        repeat (first | with_reducible refine PL_nil ?_ | refine PL_gn2 ?_ | refine PL_s2 ?_ | refine PL_b2 ?_)
        refine go_ ?_
        refine Jl (by simp) (by simp only [Try.results41]; rfl) (by simp [resP, St.box?, PF.get, Jm, TyK.agg, *]; rfl) (List.nil_sublist _) ?_
        exact ⟨rfl, rfl⟩
  · have hc : ¬ (j : Int) < c.length := by omega
    have hR3 : R = orderR o := by rw [show R = _ from hR2.out, List.drop_of_length_le (by omega)]; rfl
    have hOr := Lib.hid (rorder22_p o (by omega))
    rw [hR3]
    clear hR2 hR3 ho
    generalize orderR o = r at *
    simp only [ordP] at hOr ⊢
    refine go_ ?_
    refine Jb (hOr.out) ?_
    refine go_ ?_
    refine Jl (by simp) (by simp only [Try.results41]; rfl) (by simp [resP, St.box?, PF.get, Jm, TyK.agg, *]; rfl) (List.nil_sublist _) ?_
    exact ⟨by simp [tupP, PV.norm2, PV.norm1, PV.norm0], rfl⟩
end Go.Proofs.Ytfnfbbmegdkhjaa

namespace Go.Proofs.Ytfnfbbmegdkhjaa
open Go.RowKit Go.WideMaps
set_option maxRecDepth 100000
theorem order_mem {o : List Va} : (orderR o).1.length ≤ o.length ∧ ∀ v ∈ (orderR o).1, v ∈ o := by
  unfold orderR
  split
  · exact ⟨Nat.zero_le _, fun v h => by cases h⟩
  · split
    · exact ⟨Nat.zero_le _, fun v h => by cases h⟩
    · split
      · exact ⟨Nat.zero_le _, fun v h => by cases h⟩
      · rename_i l h
        obtain ⟨hp, -⟩ := orderG_ok _ _ _ rfl h
        exact ⟨by rw [hp.length_eq]; exact Nat.le_refl _, fun v hv => hp.mem_iff.1 hv⟩
theorem named_free {u t : Tm} {n : Int} (ht : shapedB t = true) (hn : sdT t n = false) (h : (namedR u t n).2 = 0) : sdT (namedR u t n).1 n = false := by
  unfold namedR at h ⊢
  split
  · rename_i hs
    rw [if_pos hs] at h
    simp only [Bool.and_eq_true] at hs
    rw [(done_ok h).2]
    exact sd_named (shaped_hg ht).1 hn u 0 (shaped_hg hs.1.1).1
  · rename_i hs
    rw [if_neg hs] at h
    cases h
theorem putF_ok {n : Int} {t : Tm} (ht : shapedB t = true) (hn : sdT t n = false) : ∀ (c o : List Va), (∀ v ∈ o, v.n ≠ n ∧ sdT v.ty n = false) → (putF n t o c).1.length ≤ o.length + c.length ∧ ∀ v ∈ (putF n t o c).1, v.n ≠ n ∧ sdT v.ty n = false := by
  intro c
  induction c with
  | nil =>
    intro o ho
    exact ⟨order_mem.1, fun v hv => ho v (order_mem.2 v hv)⟩
  | cons v r ih =>
    intro o ho
    rw [putF]
    split
    · obtain ⟨h1, h2⟩ := ih o ho
      exact ⟨by rw [List.length_cons]; omega, h2⟩
    · rename_i hv
      split
      · rename_i h0
        obtain ⟨h1, h2⟩ := ih (o ++ [⟨v.n, (namedR v.ty t n).1⟩]) (by
          intro x hx
          rcases List.mem_append.1 hx with h | h
          · exact ho x h
          · rw [List.mem_singleton] at h
            subst h
            exact ⟨hv, named_free ht hn h0⟩)
        refine ⟨?_, h2⟩
        rw [List.length_append, List.length_singleton] at h1
        rw [List.length_cons]; omega
      · exact ⟨Nat.zero_le _, fun x hx => by cases hx⟩
theorem putR_ok (c : List Va) (n : Int) (t : Tm) : (putR c n t).1.length ≤ c.length ∧ ∀ v ∈ (putR c n t).1, v.n ≠ n ∧ sdT v.ty n = false := by
  unfold putR
  split
  · exact ⟨Nat.zero_le _, fun v h => by cases h⟩
  · rename_i h1
    split
    · exact ⟨Nat.zero_le _, fun v h => by cases h⟩
    · split
      · exact ⟨Nat.zero_le _, fun v h => by cases h⟩
      · rename_i h3
        simp only [Bool.not_eq_false, Bool.and_eq_true] at h1
        obtain ⟨h4, h5⟩ := putF_ok h1.1.2 (by simpa using h3) c [] (fun v h => by cases h)
        exact ⟨by simpa using h4, h5⟩
theorem sameV_rfl : ∀ (a : List Va), sameV ceqT a a = true := by
  intro a
  induction a with
  | nil => rfl
  | cons x a ih =>
    rw [sameV, ih, (eqT_iff x.ty x.ty).2 rfl]; simp
set_option maxHeartbeats 16000000 in
theorem puts_p (c : List Va) (n : Int) (t : Tm) : PCalls Try.prog 7 [.d (.sl (c.map encD)), .d (.v (.int .i64 n)), aggD t] [] fun p s => p = .d (.v (.bool true)) ∧ s = [] := by
  have hA := Lib.hid awake22_p
  have hL := Lib.hid (law22light_p c)
  have hZ := Lib.hid (rSize_p t)
  cases h1 : lightB c with
  | false =>
    rw [h1] at hL
    simp only [aggD, Jk, List.map_cons, List.map_nil] at hZ ⊢
    refine PCalls.enter Try.func7 rfl Try.ntmps7 (by simp) ?_
    simp only [argsF]
    refine go_ ?_
    refine Jc ?_
    intro i5 hi5
    try simp only [Rh, Rg, Rf, Ja] at hi5
    refine go_ ?_
    refine Jb (hL.out) ?_
    refine go_ ?_
    refine Jb (hA.out) ?_
    refine go_ ?_
    refine Jl (by simp) (by simp only [Try.results7]; rfl) (by simp [resP, St.box?, PF.get, Jm, TyK.agg, *]; rfl) (List.nil_sublist _) ?_
    exact ⟨rfl, rfl⟩
  | true =>
  rw [h1] at hL
  have hcl := light_iw h1
  have hO := Lib.hid (law22of_p c hcl)
  have hP := Lib.hid (fput_p c hcl n t)
  have hQ := Lib.hid (rput22_p c hcl n t)
  obtain ⟨hxl, hxm⟩ := putR_ok c n t
  have HXM := Lib.hid hxm
  clear h1 hxm
  generalize putR c n t = x at *
  obtain ⟨x, e⟩ := x
  simp only at hxl HXM
  have hxl2 : x.length ≤ 100000 := by omega
  have hSm := Lib.hid (law22same_p x x e e hxl2)
  rw [show ((e == e) && sameV ceqT x x) = true from by rw [sameV_rfl, Bool.and_true, beq_self_eq_true]] at hSm
  simp only [ordP, aggD, Jk, List.map_cons, List.map_nil] at hZ hP hQ ⊢
  clear hxl hcl
  by_cases hz : 100 < csizeT t
  · refine PCalls.enter Try.func7 rfl Try.ntmps7 (by simp) ?_
    simp only [argsF]
    refine go_ ?_
    refine Jc ?_
    intro i5 hi5
    try simp only [Rh, Rg, Rf, Ja] at hi5
    refine go_ ?_
    refine Jb (hL.out) ?_
    refine go_ ?_
    refine Jq (hZ.out) ?_
    refine go_ ?_
    refine Jb (hA.out) ?_
    refine go_ ?_
    refine Jl (by simp) (by simp only [Try.results7]; rfl) (by simp [resP, St.box?, PF.get, Jm, TyK.agg, *]; rfl) (List.nil_sublist _) ?_
    exact ⟨rfl, rfl⟩
  refine PCalls.enter Try.func7 rfl Try.ntmps7 (by simp) ?_
  simp only [argsF]
  refine go_ ?_
  refine Jc ?_
  intro i5 hi5
  try simp only [Rh, Rg, Rf, Ja] at hi5
  refine go_ ?_
  refine Jb (hL.out) ?_
  refine go_ ?_
  refine Jq (hZ.out) ?_
  refine go_ ?_
  refine Jb (hP.out) ?_
  refine go_ ?_
  refine PW_drawnL (J := keepJ [(i5, _)]) [(0, .a), (1, .a), (2, .a), (3, .a), (4, .a), (5, .a), (6, .a), (7, .a), (8, .a), (9, .a)] (by kernel_rfl) (by rfl) (by kernel_rfl) (by (repeat (first | exact keepJ_nil _ | refine Jt (by simp [St.box?, *] <;> rfl) ?_))) ?_
  repeat (first | with_reducible refine PL_nil ?_ | refine PL_gn2 ?_ | refine PL_s2 ?_ | refine PL_b2 ?_)
  refine PL_call2 (hO.out) ?_
  repeat (first | with_reducible refine PL_nil ?_ | refine PL_gn2 ?_ | refine PL_s2 ?_ | refine PL_b2 ?_)
  refine PL_call2 (hQ.out) ?_
  repeat (first | with_reducible refine PL_nil ?_ | refine PL_gn2 ?_ | refine PL_s2 ?_ | refine PL_b2 ?_)
  refine go_ ?_
  refine Jb (hSm.out) ?_
  refine go_ ?_
  refine PW_loop (ι := Nat) (fun y => y ≤ x.length) (fun y => [(1, .d (.v (.int .i64 n))), (7, .d (.sl (x.map encD))), (11, .d (.v (.int .i64 (y : Int))))]) (fun _ => [.box i5 28 [.d (.v (.int .i64 t.kind)), .d (.v (.int .i64 t.num)), .d (.sl (t.sub.map encD))]]) (fun y => x.length - y) 0 (Nat.zero_le _) ?_ ?_ ?_
  · repeat (first | exact Js _ | refine Jr (by simp [PF.get]; rfl) (by first | rfl | (simp [*]; done) | fail) ?_)
  · repeat (first | exact List.Sublist.refl _ | exact List.nil_sublist _ | refine List.Sublist.cons_cons _ ?_ | refine List.Sublist.cons _ ?_)
  rintro j hj
  by_cases hlt : j < x.length
  · have hx := get_enc hlt
    have hc : (j : Int) < x.length := by omega
    have hn0 : (0 : Int) ≤ j := by omega
    have hin := wr64 (n := (j : Int) + 1) (by omega) (by omega)
    obtain ⟨hv, hs⟩ := HXM.out _ (List.getElem_mem hlt)
    have hvb : (x[j].n == n) = false := by rw [beq_eq_false_iff_ne]; exact hv
    have hc1 := Lib.hid (rstands_p x[j].ty n)
    rw [hs] at hc1
    simp only [aggD, Jk, List.map_cons, List.map_nil] at hc1
    clear hv hs
    refine go_ ?_
    refine Jq (hc1.out) ?_
    refine go_ ?_
    exact ⟨j + 1, hlt, by omega, by repeat (first | exact Js _ | refine Jr (by simp [PF.get]; rfl) (by first | rfl | (simp [*]; done) | fail) ?_), by repeat (first | exact List.Sublist.refl _ | exact List.nil_sublist _ | refine List.Sublist.cons_cons _ ?_ | refine List.Sublist.cons _ ?_)⟩
  · have hc : ¬ (j : Int) < x.length := by omega
    refine go_ ?_
    refine Jb (hA.out) ?_
    refine go_ ?_
    refine Jl (by simp) (by simp only [Try.results7]; rfl) (by simp [resP, St.box?, PF.get, Jm, TyK.agg, *]; rfl) (List.nil_sublist _) ?_
    exact ⟨rfl, rfl⟩
end Go.Proofs.Ytfnfbbmegdkhjaa

namespace Go.Proofs.Ytfnfbbmegdkhjaa
open Go.RowKit
set_option maxRecDepth 100000
set_option maxHeartbeats 4000000 in
theorem rputU_p (l : List Int) (n : Int) (hl : l.length ≤ 3000000) : PCalls Try.prog 85 [.d (.sl (l.map encD)), .d (.v (.int .i64 n))] [] fun p s => p = .d (.sl ((putL l n).map encD)) ∧ s = [] := by
  obtain ⟨R, hR0⟩ : ∃ R, R = putG l n false := ⟨_, rfl⟩
  rw [← putG_eq, ← hR0]
  have HR0 := Lib.hid hR0
  clear hR0
  refine PCalls.enter Try.func85 rfl Try.ntmps85 (by simp) ?_
  simp only [argsF]
  refine go_ ?_
  refine POps_bs0 ?_ (by decide) (by first | (simp [nev, nevA, nevB, Jo, PF.eval, PF.get, PF.wants, cPV, cCell, PV.rows, evBin, evUn, Jp, evLen, loadA, Jm, TyK.agg, partA, St.box?, St.tok?, St.setBox, St.setTok, fillO, spl, PV.ps, PV.one, Jn, aggD, slD, Jg, Jj, Jh, Ji, Jf, Je, *]; done) | fail) (by simp; rfl) (by rfl) (by simp; rfl) (by rfl) (by decide)
  intro g hg
  refine go_ ?_
  refine PW_loop (ι := Nat × List Int × Bool) (fun y => y.1 ≤ l.length ∧ y.2.1.length ≤ 2 * y.1 ∧ Hid (R = y.2.1 ++ putG (l.drop y.1) n y.2.2)) (fun y => [(0, .d (.sl (l.map encD))), (1, .d (.v (.int .i64 n))), (5, .own g (y.2.1.map encD)), (6, .d (.v (.bool y.2.2))), (7, .d (.v (.int .i64 (y.1 : Int))))]) (fun y => [.tok g 3 1 y.2.1.length]) (fun y => l.length - y.1) (0, [], false) ⟨Nat.zero_le _, Nat.le_refl _, HR0.out⟩ ?_ ?_ ?_
  · repeat (first | exact Js _ | refine Jr (by simp [PF.get]; rfl) (by first | rfl | (simp [*]; done) | fail) ?_)
  · repeat (first | exact List.Sublist.refl _ | exact List.nil_sublist _ | refine List.Sublist.cons_cons _ ?_ | refine List.Sublist.cons _ ?_)
  · rintro ⟨j, o, d⟩ ⟨hj, ho, hR⟩
    simp only at hj ho hR ⊢
    clear HR0
    by_cases hlt : j < l.length
    · have hx := get_enc hlt
      have hc : (j : Int) < l.length := by omega
      have hn : (0 : Int) ≤ j := by omega
      have hin := wr64 (n := (j : Int) + 1) (by omega) (by omega)
      have hR2 := hR.out
      rw [List.drop_eq_getElem_cons hlt] at hR2
      simp only [putG] at hR2
      cases d with
      | true =>
        simp only [if_true] at hR2
        have HR2 := Lib.hid hR2
        clear hR2 hR
        refine go_ ?_
        refine POps_bs_a ?_
        refine go_ ?_
        refine POps_app_a (o.length + 1) ?_ ?_ ?_ ?_
        · simp
        · exact rows1 _
        · exact rows_one rfl
        refine go_ ?_
        refine ⟨(j + 1, o ++ [l[j]], true), ⟨hlt, by simp; omega, by rw [show R = _ from HR2.out, List.append_assoc]; rfl⟩, by simp only; omega, ?_, ?_⟩
        · repeat (first | exact Js _ | refine Jr (by simp [PF.get]; rfl) (by first | rfl | (simp [Je, hin]; done) | fail) ?_)
        · simp only [List.length_append, List.length_singleton]
          repeat (first | exact List.Sublist.refl _ | exact List.nil_sublist _ | refine List.Sublist.cons_cons _ ?_ | refine List.Sublist.cons _ ?_)
      | false =>
        simp only [Bool.false_eq_true, if_false] at hR2
        by_cases h1 : n ≤ l[j]
        · rw [if_pos h1] at hR2
          by_cases h2 : n < l[j]
          · rw [if_pos h2] at hR2
            have HR2 := Lib.hid hR2
            clear hR2 hR
            refine go_ ?_
            refine POps_bs_a ?_
            refine go_ ?_
            refine POps_app_a (o.length + 1) ?_ ?_ ?_ ?_
            · simp
            · exact rows1 _
            · exact rows_one rfl
            refine go_ ?_
            refine POps_bs_a ?_
            refine go_ ?_
            refine POps_app_a (o.length + 2) ?_ ?_ ?_ ?_
            · simp
            · simpa [Je] using rows1a o [n]
            · exact rows_one rfl
            refine go_ ?_
            refine ⟨(j + 1, o ++ [n, l[j]], true), ⟨hlt, by simp; omega, by rw [show R = _ from HR2.out, List.append_assoc]; rfl⟩, by simp only; omega, ?_, ?_⟩
            · repeat (first | exact Js _ | refine Jr (by simp [PF.get]; rfl) (by first | rfl | (simp [Je, hin]; done) | fail) ?_)
            · simp only [List.length_append, List.length_cons, List.length_nil]
              repeat (first | exact List.Sublist.refl _ | exact List.nil_sublist _ | refine List.Sublist.cons_cons _ ?_ | refine List.Sublist.cons _ ?_)
          · rw [if_neg h2] at hR2
            have HR2 := Lib.hid hR2
            clear hR2 hR
            refine go_ ?_
            refine POps_bs_a ?_
            refine go_ ?_
            refine POps_app_a (o.length + 1) ?_ ?_ ?_ ?_
            · simp
            · exact rows1 _
            · exact rows_one rfl
            refine go_ ?_
            refine ⟨(j + 1, o ++ [l[j]], true), ⟨hlt, by simp; omega, by rw [show R = _ from HR2.out, List.append_assoc]; rfl⟩, by simp only; omega, ?_, ?_⟩
            · repeat (first | exact Js _ | refine Jr (by simp [PF.get]; rfl) (by first | rfl | (simp [Je, hin]; done) | fail) ?_)
            · simp only [List.length_append, List.length_singleton]
              repeat (first | exact List.Sublist.refl _ | exact List.nil_sublist _ | refine List.Sublist.cons_cons _ ?_ | refine List.Sublist.cons _ ?_)
        · rw [if_neg h1] at hR2
          have HR2 := Lib.hid hR2
          clear hR2 hR
          refine go_ ?_
          refine POps_bs_a ?_
          refine go_ ?_
          refine POps_app_a (o.length + 1) ?_ ?_ ?_ ?_
          · simp
          · exact rows1 _
          · exact rows_one rfl
          refine go_ ?_
          refine ⟨(j + 1, o ++ [l[j]], false), ⟨hlt, by simp; omega, by rw [show R = _ from HR2.out, List.append_assoc]; rfl⟩, by simp only; omega, ?_, ?_⟩
          · repeat (first | exact Js _ | refine Jr (by simp [PF.get]; rfl) (by first | rfl | (simp [Je, hin]; done) | fail) ?_)
          · simp only [List.length_append, List.length_singleton]
            repeat (first | exact List.Sublist.refl _ | exact List.nil_sublist _ | refine List.Sublist.cons_cons _ ?_ | refine List.Sublist.cons _ ?_)
    · have hc : ¬ (j : Int) < l.length := by omega
      have hR2 := hR.out
      rw [List.drop_of_length_le (by omega)] at hR2
      cases d with
      | true =>
        have hf : Hid (R = o) := by show _ = _; rw [show R = _ from hR2]; simp [putG]
        clear hR2 hR
        refine go_ ?_
        refine Jl (by simp) (by simp only [Try.results85]; rfl) (by simp [resP, St.box?, PF.get, Jm, TyK.agg, *]; rfl) (List.nil_sublist _) ?_
        exact ⟨by rw [hf.out]; rfl, rfl⟩
      | false =>
        have hf : Hid (R = o ++ [n]) := by show _ = _; rw [show R = _ from hR2]; simp [putG]
        clear hR2 hR
        refine go_ ?_
        refine POps_bs_a ?_
        refine go_ ?_
        refine POps_app_a (o.length + 1) ?_ ?_ ?_ ?_
        · simp
        · exact rows1 _
        · exact rows_one rfl
        refine go_ ?_
        refine Jl (by simp) (by simp only [Try.results85]; rfl) (by simp [resP, St.box?, PF.get, Jm, TyK.agg, *]; rfl) (List.nil_sublist _) ?_
        exact ⟨by rw [hf.out]; simp [tupP, PV.norm2, PV.norm1, PV.norm0, Je], rfl⟩
set_option maxHeartbeats 8000000 in
theorem rnumbersU_p : ∀ (t : Tm) (a b : Int), cndT t ≤ 1100000 → PCalls Try.prog 44 [aggD t, .d (.v (.int .i64 a)), .d (.v (.int .i64 b))] [] fun p s => p = .d (.sl ((nmT a b t).map encD)) ∧ s = [] := by
  refine Tm.ind ?_
  intro k n sub ih a b hnd
  have hc0 : nmT a b (.mk k n sub) = nmS a b sub (if k = a ∨ k = b then [n] else []) := by simp only [nmT]
  have hns : cndL sub + 1 ≤ 1100000 := by simp only [cndT] at hnd; omega
  have hsl : sub.length ≤ 1100000 := Nat.le_trans (cndL_len sub) (by omega)
  have IH : Hid (∀ s ∈ sub, PCalls Try.prog 44 [aggD s, .d (.v (.int .i64 a)), .d (.v (.int .i64 b))] [] fun p st => p = .d (.sl ((nmT a b s).map encD)) ∧ st = []) := fun s hs => ih s hs a b (by have := cnd_mem s hs; omega)
  simp only [aggD, Jk, List.map_cons, List.map_nil, Ju, Jv, Jw]
  clear ih hnd
  rw [hc0]
  clear hc0
  have hl0 : (if k = a ∨ k = b then [n] else []).length ≤ 1 := by split <;> simp
  obtain ⟨r0, hr0⟩ : ∃ r0, (if k = a ∨ k = b then [n] else []) = r0 := ⟨_, rfl⟩
  rw [hr0] at hl0 ⊢
  obtain ⟨R, hR0⟩ : ∃ R, R = nmS a b sub r0 := ⟨_, rfl⟩
  rw [← hR0]
  have HR0 := Lib.hid hR0
  clear hR0
  refine PCalls.enter Try.func44 rfl Try.ntmps44 (by simp) ?_
  simp only [argsF]
  refine go_ ?_
  refine Jc ?_
  intro i0 hi0
  refine go_ ?_
  refine POps_bs0 ?_ (by decide) (by first | (simp [nev, nevA, nevB, Jo, PF.eval, PF.get, PF.wants, cPV, cCell, PV.rows, evBin, evUn, Jp, evLen, loadA, Jm, TyK.agg, partA, St.box?, St.tok?, St.setBox, St.setTok, fillO, spl, PV.ps, PV.one, Jn, aggD, slD, Jg, Jj, Jh, Ji, Jf, Je, *]; done) | fail) (by simp; rfl) (by rfl) (by simp; rfl) (by rfl) (by decide)
  intro g hg
  by_cases hk : k = a ∨ k = b
  · rw [if_pos hk] at hr0
    by_cases h1 : k = a
    · clear hk
      have h1c : (k == a) = true := beq_iff_eq.2 h1
      clear h1
      refine gs_ ?_
      refine Qc ?_
      refine gs_ ?_
      refine Qc ?_
      refine go_ ?_
      refine POps_bs_a ?_
      refine go_ ?_
      refine POps_app_a 1 ?_ ?_ ?_ ?_
      · rfl
      · simp
      · simp
      refine gs_ ?_
      refine PW_norm 7 (by simp [PF.get] <;> rfl) ?_
      refine go_ ?_
      clear h1c
      refine PW_loop (ι := Nat × List Int) (fun y => y.1 ≤ sub.length ∧ y.2.length ≤ 1 + cndL (sub.take y.1) ∧ Hid (R = nmS a b (sub.drop y.1) y.2)) (fun y => [(1, .d (.v (.int .i64 a))), (2, .d (.v (.int .i64 b))), (3, .ptr i0 0), (7, .d (.sl (y.2.map encD))), (8, .d (.v (.int .i64 (y.1 : Int))))]) (fun _ => [.box i0 28 [.d (.v (.int .i64 k)), .d (.v (.int .i64 n)), .d (.sl (sub.map encD))]]) (fun y => sub.length - y.1) (0, r0) ⟨Nat.zero_le _, by simp only; omega, HR0.out⟩ ?_ ?_ ?_
      · subst hr0
        repeat (first | exact Js _ | refine Jr (by simp [PF.get]; rfl) (by first | rfl | (simp [Je]; done) | fail) ?_)
      · repeat (first | exact List.Sublist.refl _ | exact List.nil_sublist _ | refine List.Sublist.cons_cons _ ?_ | refine List.Sublist.cons _ ?_)
      · rintro ⟨j, o⟩ ⟨hj, ho, hR⟩
        simp only at hj ho hR ⊢
        clear HR0 hr0
        by_cases hlt : j < sub.length
        · have hx := get_enc hlt
          have hc : (j : Int) < sub.length := by omega
          have hn : (0 : Int) ≤ j := by omega
          have hin := wr64 (n := (j : Int) + 1) (by omega) (by omega)
          have hR2 : Hid (R = nmS a b (sub.drop (j + 1)) ((nmT a b sub[j]).foldl putL o)) := by
            rw [show R = _ from hR.out, List.drop_eq_getElem_cons hlt]
            show _ = _
            simp only [nmS]
          have hc1 := Lib.hid (IH.out _ (List.getElem_mem hlt))
          have hT1 := cndL_take1 hlt
          have hT2 := cndL_take sub (j + 1)
          have hnl := nm_len a b sub[j]
          have hfl := fold_len (nmT a b sub[j]) o
          clear hR
          generalize nmT a b sub[j] = l at *
          generalize hF : l.foldl putL o = F at *
          have HF := Lib.hid hF
          clear hF
          refine go_ ?_
          refine Jb (hc1.out) ?_
          refine go_ ?_
          refine PW_loop (ι := Nat × List Int) (fun y => y.1 ≤ l.length ∧ y.2.length ≤ o.length + y.1 ∧ Hid ((l.drop y.1).foldl putL y.2 = F)) (fun y => [(1, .d (.v (.int .i64 a))), (2, .d (.v (.int .i64 b))), (3, .ptr i0 0), (7, .d (.sl (y.2.map encD))), (8, .d (.v (.int .i64 (j : Int)))), (9, .d (.sl (l.map encD))), (10, .d (.v (.int .i64 (y.1 : Int))))]) (fun _ => [.box i0 28 [.d (.v (.int .i64 k)), .d (.v (.int .i64 n)), .d (.sl (sub.map encD))]]) (fun y => l.length - y.1) (0, o) ⟨Nat.zero_le _, Nat.le_refl _, HF.out⟩ ?_ ?_ ?_
          · repeat (first | exact Js _ | refine Jr (by simp [PF.get]; rfl) (by first | rfl | (simp [*]; done) | fail) ?_)
          · repeat (first | exact List.Sublist.refl _ | exact List.nil_sublist _ | refine List.Sublist.cons_cons _ ?_ | refine List.Sublist.cons _ ?_)
          · rintro ⟨m, q⟩ ⟨hm, hq, hG⟩
            simp only at hm hq hG ⊢
            clear HF
            by_cases hlm : m < l.length
            · have hxm := get_enc hlm
              have hcm : (m : Int) < l.length := by omega
              have hnm : (0 : Int) ≤ m := by omega
              have him := wr64 (n := (m : Int) + 1) (by omega) (by omega)
              have hG2 : Hid ((l.drop (m + 1)).foldl putL (putL q l[m]) = F) := by
                have := hG.out
                rw [List.drop_eq_getElem_cons hlm] at this
                exact this
              have hp := Lib.hid (rputU_p q l[m] (by omega))
              have hpl := putL_len l[m] q
              clear hG
              generalize putL q l[m] = q' at *
              refine go_ ?_
              refine Jb (hp.out) ?_
              refine go_ ?_
              exact ⟨(m + 1, q'), ⟨hlm, by simp only; omega, hG2⟩, by simp only; omega, by repeat (first | exact Js _ | refine Jr (by simp [PF.get]; rfl) (by first | rfl | (simp [*]; done) | fail) ?_), by repeat (first | exact List.Sublist.refl _ | exact List.nil_sublist _ | refine List.Sublist.cons_cons _ ?_ | refine List.Sublist.cons _ ?_)⟩
            · have hcm : ¬ (m : Int) < l.length := by omega
              have hf : Hid (q = F) := by have := hG.out; rw [List.drop_of_length_le (by omega)] at this; exact this
              rw [← hf.out] at hR2 hfl
              refine go_ ?_
              exact ⟨(j + 1, q), ⟨hlt, by simp only; omega, hR2⟩, by simp only; omega, by repeat (first | exact Js _ | refine Jr (by simp [PF.get]; rfl) (by first | rfl | (simp [*]; done) | fail) ?_), by repeat (first | exact List.Sublist.refl _ | exact List.nil_sublist _ | refine List.Sublist.cons_cons _ ?_ | refine List.Sublist.cons _ ?_)⟩
        · have hc : ¬ (j : Int) < sub.length := by omega
          have hf : Hid (R = o) := by show _ = _; rw [show R = _ from hR.out, List.drop_of_length_le (by omega)]; simp only [nmS]
          refine go_ ?_
          refine Jl (by simp) (by simp only [Try.results44]; rfl) (by simp [resP, St.box?, PF.get, Jm, TyK.agg, *]; rfl) (List.nil_sublist _) ?_
          exact ⟨by rw [hf.out]; rfl, rfl⟩
    · have h2 : k = b := hk.resolve_left h1
      clear hk
      have h1b : (k == a) = false := beq_eq_false_iff_ne.2 h1
      have h2b : (k == b) = true := beq_iff_eq.2 h2
      clear h1 h2
      refine gs_ ?_
      refine Qc ?_
      refine gs_ ?_
      refine Qc ?_
      refine go_ ?_
      refine POps_bs_a ?_
      refine go_ ?_
      refine POps_app_a 1 ?_ ?_ ?_ ?_
      · rfl
      · simp
      · simp
      refine gs_ ?_
      refine PW_norm 7 (by simp [PF.get] <;> rfl) ?_
      refine go_ ?_
      clear h1b h2b
      refine PW_loop (ι := Nat × List Int) (fun y => y.1 ≤ sub.length ∧ y.2.length ≤ 1 + cndL (sub.take y.1) ∧ Hid (R = nmS a b (sub.drop y.1) y.2)) (fun y => [(1, .d (.v (.int .i64 a))), (2, .d (.v (.int .i64 b))), (3, .ptr i0 0), (7, .d (.sl (y.2.map encD))), (8, .d (.v (.int .i64 (y.1 : Int))))]) (fun _ => [.box i0 28 [.d (.v (.int .i64 k)), .d (.v (.int .i64 n)), .d (.sl (sub.map encD))]]) (fun y => sub.length - y.1) (0, r0) ⟨Nat.zero_le _, by simp only; omega, HR0.out⟩ ?_ ?_ ?_
      · subst hr0
        repeat (first | exact Js _ | refine Jr (by simp [PF.get]; rfl) (by first | rfl | (simp [Je]; done) | fail) ?_)
      · repeat (first | exact List.Sublist.refl _ | exact List.nil_sublist _ | refine List.Sublist.cons_cons _ ?_ | refine List.Sublist.cons _ ?_)
      · rintro ⟨j, o⟩ ⟨hj, ho, hR⟩
        simp only at hj ho hR ⊢
        clear HR0 hr0
        by_cases hlt : j < sub.length
        · have hx := get_enc hlt
          have hc : (j : Int) < sub.length := by omega
          have hn : (0 : Int) ≤ j := by omega
          have hin := wr64 (n := (j : Int) + 1) (by omega) (by omega)
          have hR2 : Hid (R = nmS a b (sub.drop (j + 1)) ((nmT a b sub[j]).foldl putL o)) := by
            rw [show R = _ from hR.out, List.drop_eq_getElem_cons hlt]
            show _ = _
            simp only [nmS]
          have hc1 := Lib.hid (IH.out _ (List.getElem_mem hlt))
          have hT1 := cndL_take1 hlt
          have hT2 := cndL_take sub (j + 1)
          have hnl := nm_len a b sub[j]
          have hfl := fold_len (nmT a b sub[j]) o
          clear hR
          generalize nmT a b sub[j] = l at *
          generalize hF : l.foldl putL o = F at *
          have HF := Lib.hid hF
          clear hF
          refine go_ ?_
          refine Jb (hc1.out) ?_
          refine go_ ?_
          refine PW_loop (ι := Nat × List Int) (fun y => y.1 ≤ l.length ∧ y.2.length ≤ o.length + y.1 ∧ Hid ((l.drop y.1).foldl putL y.2 = F)) (fun y => [(1, .d (.v (.int .i64 a))), (2, .d (.v (.int .i64 b))), (3, .ptr i0 0), (7, .d (.sl (y.2.map encD))), (8, .d (.v (.int .i64 (j : Int)))), (9, .d (.sl (l.map encD))), (10, .d (.v (.int .i64 (y.1 : Int))))]) (fun _ => [.box i0 28 [.d (.v (.int .i64 k)), .d (.v (.int .i64 n)), .d (.sl (sub.map encD))]]) (fun y => l.length - y.1) (0, o) ⟨Nat.zero_le _, Nat.le_refl _, HF.out⟩ ?_ ?_ ?_
          · repeat (first | exact Js _ | refine Jr (by simp [PF.get]; rfl) (by first | rfl | (simp [*]; done) | fail) ?_)
          · repeat (first | exact List.Sublist.refl _ | exact List.nil_sublist _ | refine List.Sublist.cons_cons _ ?_ | refine List.Sublist.cons _ ?_)
          · rintro ⟨m, q⟩ ⟨hm, hq, hG⟩
            simp only at hm hq hG ⊢
            clear HF
            by_cases hlm : m < l.length
            · have hxm := get_enc hlm
              have hcm : (m : Int) < l.length := by omega
              have hnm : (0 : Int) ≤ m := by omega
              have him := wr64 (n := (m : Int) + 1) (by omega) (by omega)
              have hG2 : Hid ((l.drop (m + 1)).foldl putL (putL q l[m]) = F) := by
                have := hG.out
                rw [List.drop_eq_getElem_cons hlm] at this
                exact this
              have hp := Lib.hid (rputU_p q l[m] (by omega))
              have hpl := putL_len l[m] q
              clear hG
              generalize putL q l[m] = q' at *
              refine go_ ?_
              refine Jb (hp.out) ?_
              refine go_ ?_
              exact ⟨(m + 1, q'), ⟨hlm, by simp only; omega, hG2⟩, by simp only; omega, by repeat (first | exact Js _ | refine Jr (by simp [PF.get]; rfl) (by first | rfl | (simp [*]; done) | fail) ?_), by repeat (first | exact List.Sublist.refl _ | exact List.nil_sublist _ | refine List.Sublist.cons_cons _ ?_ | refine List.Sublist.cons _ ?_)⟩
            · have hcm : ¬ (m : Int) < l.length := by omega
              have hf : Hid (q = F) := by have := hG.out; rw [List.drop_of_length_le (by omega)] at this; exact this
              rw [← hf.out] at hR2 hfl
              refine go_ ?_
              exact ⟨(j + 1, q), ⟨hlt, by simp only; omega, hR2⟩, by simp only; omega, by repeat (first | exact Js _ | refine Jr (by simp [PF.get]; rfl) (by first | rfl | (simp [*]; done) | fail) ?_), by repeat (first | exact List.Sublist.refl _ | exact List.nil_sublist _ | refine List.Sublist.cons_cons _ ?_ | refine List.Sublist.cons _ ?_)⟩
        · have hc : ¬ (j : Int) < sub.length := by omega
          have hf : Hid (R = o) := by show _ = _; rw [show R = _ from hR.out, List.drop_of_length_le (by omega)]; simp only [nmS]
          refine go_ ?_
          refine Jl (by simp) (by simp only [Try.results44]; rfl) (by simp [resP, St.box?, PF.get, Jm, TyK.agg, *]; rfl) (List.nil_sublist _) ?_
          exact ⟨by rw [hf.out]; rfl, rfl⟩
  · rw [if_neg hk] at hr0
    have h1 : ¬ k = a := fun h => hk (.inl h)
    have h2 : ¬ k = b := fun h => hk (.inr h)
    clear hk
    refine gs_ ?_
    refine PW_norm 7 (by simp [PF.get] <;> rfl) ?_
    refine go_ ?_
    clear h1 h2
    refine PW_loop (ι := Nat × List Int) (fun y => y.1 ≤ sub.length ∧ y.2.length ≤ 1 + cndL (sub.take y.1) ∧ Hid (R = nmS a b (sub.drop y.1) y.2)) (fun y => [(1, .d (.v (.int .i64 a))), (2, .d (.v (.int .i64 b))), (3, .ptr i0 0), (7, .d (.sl (y.2.map encD))), (8, .d (.v (.int .i64 (y.1 : Int))))]) (fun _ => [.box i0 28 [.d (.v (.int .i64 k)), .d (.v (.int .i64 n)), .d (.sl (sub.map encD))]]) (fun y => sub.length - y.1) (0, r0) ⟨Nat.zero_le _, by simp only; omega, HR0.out⟩ ?_ ?_ ?_
    · subst hr0
      repeat (first | exact Js _ | refine Jr (by simp [PF.get]; rfl) (by first | rfl | (simp [Je]; done) | fail) ?_)
    · repeat (first | exact List.Sublist.refl _ | exact List.nil_sublist _ | refine List.Sublist.cons_cons _ ?_ | refine List.Sublist.cons _ ?_)
    · rintro ⟨j, o⟩ ⟨hj, ho, hR⟩
      simp only at hj ho hR ⊢
      clear HR0 hr0
      by_cases hlt : j < sub.length
      · have hx := get_enc hlt
        have hc : (j : Int) < sub.length := by omega
        have hn : (0 : Int) ≤ j := by omega
        have hin := wr64 (n := (j : Int) + 1) (by omega) (by omega)
        have hR2 : Hid (R = nmS a b (sub.drop (j + 1)) ((nmT a b sub[j]).foldl putL o)) := by
          rw [show R = _ from hR.out, List.drop_eq_getElem_cons hlt]
          show _ = _
          simp only [nmS]
        have hc1 := Lib.hid (IH.out _ (List.getElem_mem hlt))
        have hT1 := cndL_take1 hlt
        have hT2 := cndL_take sub (j + 1)
        have hnl := nm_len a b sub[j]
        have hfl := fold_len (nmT a b sub[j]) o
        clear hR
        generalize nmT a b sub[j] = l at *
        generalize hF : l.foldl putL o = F at *
        have HF := Lib.hid hF
        clear hF
        refine go_ ?_
        refine Jb (hc1.out) ?_
        refine go_ ?_
        refine PW_loop (ι := Nat × List Int) (fun y => y.1 ≤ l.length ∧ y.2.length ≤ o.length + y.1 ∧ Hid ((l.drop y.1).foldl putL y.2 = F)) (fun y => [(1, .d (.v (.int .i64 a))), (2, .d (.v (.int .i64 b))), (3, .ptr i0 0), (7, .d (.sl (y.2.map encD))), (8, .d (.v (.int .i64 (j : Int)))), (9, .d (.sl (l.map encD))), (10, .d (.v (.int .i64 (y.1 : Int))))]) (fun _ => [.box i0 28 [.d (.v (.int .i64 k)), .d (.v (.int .i64 n)), .d (.sl (sub.map encD))]]) (fun y => l.length - y.1) (0, o) ⟨Nat.zero_le _, Nat.le_refl _, HF.out⟩ ?_ ?_ ?_
        · repeat (first | exact Js _ | refine Jr (by simp [PF.get]; rfl) (by first | rfl | (simp [*]; done) | fail) ?_)
        · repeat (first | exact List.Sublist.refl _ | exact List.nil_sublist _ | refine List.Sublist.cons_cons _ ?_ | refine List.Sublist.cons _ ?_)
        · rintro ⟨m, q⟩ ⟨hm, hq, hG⟩
          simp only at hm hq hG ⊢
          clear HF
          by_cases hlm : m < l.length
          · have hxm := get_enc hlm
            have hcm : (m : Int) < l.length := by omega
            have hnm : (0 : Int) ≤ m := by omega
            have him := wr64 (n := (m : Int) + 1) (by omega) (by omega)
            have hG2 : Hid ((l.drop (m + 1)).foldl putL (putL q l[m]) = F) := by
              have := hG.out
              rw [List.drop_eq_getElem_cons hlm] at this
              exact this
            have hp := Lib.hid (rputU_p q l[m] (by omega))
            have hpl := putL_len l[m] q
            clear hG
            generalize putL q l[m] = q' at *
            refine go_ ?_
            refine Jb (hp.out) ?_
            refine go_ ?_
            exact ⟨(m + 1, q'), ⟨hlm, by simp only; omega, hG2⟩, by simp only; omega, by repeat (first | exact Js _ | refine Jr (by simp [PF.get]; rfl) (by first | rfl | (simp [*]; done) | fail) ?_), by repeat (first | exact List.Sublist.refl _ | exact List.nil_sublist _ | refine List.Sublist.cons_cons _ ?_ | refine List.Sublist.cons _ ?_)⟩
          · have hcm : ¬ (m : Int) < l.length := by omega
            have hf : Hid (q = F) := by have := hG.out; rw [List.drop_of_length_le (by omega)] at this; exact this
            rw [← hf.out] at hR2 hfl
            refine go_ ?_
            exact ⟨(j + 1, q), ⟨hlt, by simp only; omega, hR2⟩, by simp only; omega, by repeat (first | exact Js _ | refine Jr (by simp [PF.get]; rfl) (by first | rfl | (simp [*]; done) | fail) ?_), by repeat (first | exact List.Sublist.refl _ | exact List.nil_sublist _ | refine List.Sublist.cons_cons _ ?_ | refine List.Sublist.cons _ ?_)⟩
      · have hc : ¬ (j : Int) < sub.length := by omega
        have hf : Hid (R = o) := by show _ = _; rw [show R = _ from hR.out, List.drop_of_length_le (by omega)]; simp only [nmS]
        refine go_ ?_
        refine Jl (by simp) (by simp only [Try.results44]; rfl) (by simp [resP, St.box?, PF.get, Jm, TyK.agg, *]; rfl) (List.nil_sublist _) ?_
        exact ⟨by rw [hf.out]; rfl, rfl⟩
end Go.Proofs.Ytfnfbbmegdkhjaa

namespace Go.Proofs.Ytfnfbbmegdkhjaa
open Go.RowKit
set_option maxRecDepth 100000
theorem clone_rows_o (rows : List (List D)) (hl : ∀ row ∈ rows, row.length = 3) (hn : rows.length ≤ 100000) : PCalls Try.prog 56 [.d (.sl rows)] [] fun p s => ∃ g, p = .own g rows ∧ s = [.tok g 28 3 rows.length] := by
  have HL := Lib.hid hl
  clear hl
  refine PCalls.nilOwn (R := fun p s => (∃ g, p = .own g rows ∧ s = [.tok g 28 3 rows.length]) ∨ (p = .nils ∧ s = [] ∧ rows = [])) 28 3 ?_ ?_
  · refine PCalls.enter Try.func56 rfl Try.ntmps56 (by simp) ?_
    simp only [argsF]
    refine go_ ?_
    refine POps_eqlNil (fun h0 => ?_) ?_
    · have hnil := Lib.hid h0
      refine go_ ?_
      refine retP_keep (st' := []) (by simp) (by simp only [Try.results56]; rfl) (by simp [resP]; rfl) (by repeat (first | exact List.Sublist.refl _ | exact List.nil_sublist _ | refine List.Sublist.cons_cons _ ?_ | refine List.Sublist.cons _ ?_)) ?_
      exact .inr ⟨rfl, rfl, hnil.out⟩
    · refine go_ ?_
      refine POps_bs0 ?_ (by decide) (by first | (simp [nev, nevA, nevB, Jo, PF.eval, PF.get, PF.wants, cPV, cCell, PV.rows, evBin, evUn, Jp, evLen, loadA, Jm, TyK.agg, partA, St.box?, St.tok?, St.setBox, St.setTok, fillO, spl, PV.ps, PV.one, Jn, aggD, slD, Jg, Jj, Jh, Ji, Jf, Je, *]; done) | fail) (by simp; rfl) (by rfl) (by simp; rfl) (by rfl) (by decide)
      intro g hg
      refine go_ ?_
      refine POps_app_a rows.length ?_ ?_ ?_ ?_
      · simp
      · simp
      · exact HL.out
      refine go_ ?_
      refine retP_keep (by simp) (by simp only [Try.results56]; rfl) (by simp [resP]; rfl) (by repeat (first | exact List.Sublist.refl _ | exact List.nil_sublist _ | refine List.Sublist.cons_cons _ ?_ | refine List.Sublist.cons _ ?_)) ?_
      exact .inl ⟨g, rfl, rfl⟩
  · rintro p s (h | ⟨rfl, rfl, rfl⟩)
    · exact .inl h
    · exact .inr ⟨rfl, rfl, fun g => ⟨g, rfl, rfl⟩⟩
theorem cells_cs3 {K : Nat → Nat → Prop} {w : World} {l : List Tm} {css : List (List Value)} (hlc : css.length = (l.map (encD (α := Tm))).length) (hl3 : ∀ c ∈ css, c.length = 3) (h : RV K w 3 (l.map encD) css.flatten) : ∀ c ∈ css, Cs3 c := by
  intro c hc
  obtain ⟨i, hi, rfl⟩ := List.getElem_of_mem hc
  have hil : i < l.length := by rw [List.length_map] at hlc; omega
  have hrow : (l.map encD)[i]? = some [.v (.int .i64 l[i].kind), .v (.int .i64 l[i].num), .sl (l[i].sub.map encD)] := by rw [get_enc hil, Jk]
  have h3 := hl3 _ hc
  have get : ∀ j d, ([.v (.int .i64 l[i].kind), .v (.int .i64 l[i].num), .sl (l[i].sub.map encD)] : List D)[j]? = some d → j < 3 → ∃ x, css[i][j]? = some x ∧ RelD K w d x := by
    intro j d hd hj
    obtain ⟨x, h1, h2⟩ := h.2.2 i j _ d hrow hd
    have h4 : j < css[i].length := by omega
    rw [flat_row css i j _ _ hl3 (List.getElem?_eq_getElem hi) (List.getElem?_eq_getElem h4)] at h1
    exact ⟨x, by rw [List.getElem?_eq_getElem h4]; exact h1, h2⟩
  obtain ⟨x0, g0, r0⟩ := get 0 _ rfl (by decide)
  obtain ⟨x1, g1, r1⟩ := get 1 _ rfl (by decide)
  obtain ⟨x2, g2, r2⟩ := get 2 _ rfl (by decide)
  have hx2 : ∃ a len cap, x2 = .slice a len cap := by
    generalize l[i].sub.map encD = rs at r2
    cases r2 with
    | nil _ => exact ⟨_, _, _, rfl⟩
    | sl _ _ _ _ _ _ => exact ⟨_, _, _, rfl⟩
  obtain ⟨a, len, cap, rfl⟩ := hx2
  cases r0
  cases r1
  refine ⟨l[i].kind, l[i].num, a, len, cap, List.ext_getElem? fun j => ?_⟩
  match j with
  | 0 => rw [g0]; rfl
  | 1 => rw [g1]; rfl
  | 2 => rw [g2]; rfl
  | j + 3 => rw [List.getElem?_eq_none (by omega)]; rfl
set_option maxHeartbeats 4000000 in
theorem tbackwards_p (l : List Tm) (hl : l.length ≤ 100000) : PCalls Try.prog 88 [.d (.sl (l.map encD))] [] fun p s => p = .d (.sl (l.reverse.map encD)) ∧ s = [] := by
  refine PCalls.data2 fun K w vs hlt ha => ?_
  obtain ⟨v, rfl, hv⟩ := ha.one
  cases hv with
  | d hv =>
  obtain ⟨css, hlc, hl3, hrv, hcall⟩ := PCalls.copied (sz := 3) (E := 28) (by decide) (rows3 l) (fun rows' h1 h2 => clone_rows_o rows' h1 (by rw [h2, List.length_map]; exact hl)) hv
  have C := Lib.hid hcall
  have HC3 := Lib.hid (cells_cs3 hlc hl3 hrv)
  have HRV := Lib.hid (hrv.rev (by decide) hlc hl3)
  have HLC := Lib.hid hlc
  have HLT := Lib.hid hlt
  clear hcall hrv hl3 hv ha hlt hlc
  go_enter Try.func88, Try.ntmps88
  go_wp2_with fail
  refine C.out.mono ?_
  rintro e w1 ⟨u, c, rfl, ho, hb1⟩
  rw [← HLC.out] at ho
  have R := Lib.hid (reverse_any w.heap.size _ css w1 ho HC3.out)
  rw [HLC.out, List.length_map] at R
  rw [List.length_map]
  have HB1 := Lib.hid hb1
  clear hb1 ho C
  go_wp2_with fail
  refine R.out.mono ?_
  rintro e w2 ⟨rfl, ho2, hb2⟩
  have HB := Lib.hid (HB1.out.trans hb2)
  have HO := Lib.hid ho2
  clear hb2 ho2 R
  go_wp2_with fail
  go_ret
  refine ⟨_, rfl, HB.out, fun K' hk hK => .d ?_⟩
  rw [List.map_reverse]
  have h0 := HO.out
  refine (HRV.out.mono fun b o hbo => ⟨hk b o hbo, HB.out.cell (HLT.out b o hbo)⟩).rel (E := 28) (n := l.length) ⟨h0.1, ?_⟩ (by rw [List.length_reverse, List.length_map]) fun b hb o hbo => ?_
  · rcases h0.2 with h | ⟨g, cap, cur, e1, e2, e3⟩
    · exact .inl h
    · exact .inr ⟨g, cap, cur, e1, Nat.zero_le _, e3⟩
  · rcases h0.2 with ⟨e1, -⟩ | ⟨g, cap, cur, e1, e2, e3, e4, e5, e6, e7⟩
    · rw [e1] at hb; cases hb
    · rw [e1] at hb
      obtain rfl : g = b := Option.some.inj hb
      have hle : l.length * 3 ≤ cap * 3 := Nat.mul_le_mul_right _ e4
      obtain ⟨u, hu⟩ : ∃ u, cur[o]? = some u := ⟨_, Array.getElem?_eq_getElem (by omega)⟩
      exact hK g o u e2 (by rw [cell_at e3]; exact hu)
end Go.Proofs.Ytfnfbbmegdkhjaa

namespace Go.Proofs.Ytfnfbbmegdkhjaa
open Go.RowKit
set_option maxRecDepth 100000
set_option maxHeartbeats 4000000 in
theorem tfill_p (t : Tm) (l : List Tm) (hl : l.length ≤ 100000) : PCalls Try.prog 46 [aggD t, .d (.sl (l.map encD))] [] fun p s => p = trP (manyR t l.reverse) ∧ s = [] := by
  have hB := Lib.hid (tbackwards_p l hl)
  have hM := Lib.hid (smany_p t l.reverse (by rw [List.length_reverse]; exact hl))
  generalize manyR t l.reverse = r at *
  generalize l.reverse.map encD = B at *
  simp only [trP, aggD, Jk, List.map_cons, List.map_nil] at hM ⊢
  refine PCalls.enter Try.func46 rfl Try.ntmps46 (by simp) ?_
  simp only [argsF]
  refine go_ ?_
  refine Jc ?_
  intro i2 hi2
  try simp only [Rh, Rg, Rf, Ja] at hi2
  refine go_ ?_
  refine Jd ?_
  intro i4 hi4
  try simp only [Rh, Rg, Rf, Ja] at hi4
  refine go_ ?_
  refine PW_drawnL (J := keepJ [(i2, _)]) [(0, .a), (1, .a), (2, .a), (3, .a), (4, .a), (5, .a), (6, .e), (7, .a)] (by kernel_rfl) (by rfl) (by kernel_rfl) (by (repeat (first | exact keepJ_nil _ | refine Jt (by simp [St.box?, *] <;> rfl) ?_))) ?_
  repeat (first | with_reducible refine PL_nil ?_ | refine PL_gn2 ?_ | refine PL_s2 ?_ | refine PL_b2 ?_)
  refine PL_call2 (hB.out) ?_
  repeat (first | with_reducible refine PL_nil ?_ | refine PL_gn2 ?_ | refine PL_s2 ?_ | refine PL_b2 ?_)
  refine PL_call2 (hM.out) ?_
  repeat (first | with_reducible refine PL_nil ?_ | refine PL_gn2 ?_ | refine PL_s2 ?_ | refine PL_b2 ?_)
  refine PL_store rfl rfl (by simp [nev, nevA, nevB, Jo, PF.eval, PF.get, PF.wants, cPV, cCell, PV.rows, evBin, evUn, Jp, evLen, loadA, Jm, TyK.agg, partA, St.box?, St.tok?, St.setBox, St.setTok, fillO, spl, PV.ps, PV.one, Jn, aggD, slD, Jg, Jj, Jh, Ji, Jf, Je, *]; rfl) (by rfl) (by simp [nev, nevA, nevB, Jo, PF.eval, PF.get, PF.wants, cPV, cCell, PV.rows, evBin, evUn, Jp, evLen, loadA, Jm, TyK.agg, partA, St.box?, St.tok?, St.setBox, St.setTok, fillO, spl, PV.ps, PV.one, Jn, aggD, slD, Jg, Jj, Jh, Ji, Jf, Je, *]; rfl) (by simp [PV.ps, aggD, slD, Jg, Jj, Jh, Ji, Jf, Je]; rfl) (by first | rfl | (simp [*]; done) | (simp [PV.one, *]; done) | fail) (by simp; rfl) (by first | (simp; done) | fail) (by simp [nev, nevA, nevB, Jo, PF.eval, PF.get, PF.wants, cPV, cCell, PV.rows, evBin, evUn, Jp, evLen, loadA, Jm, TyK.agg, partA, St.box?, St.tok?, St.setBox, St.setTok, fillO, spl, PV.ps, PV.one, Jn, aggD, slD, Jg, Jj, Jh, Ji, Jf, Je, *]; rfl) (by rfl) (by first | (simp; done) | fail) (by simp [St.setBox, spl, *]; rfl) (by first | exact .inl (by decide +kernel) | exact .inr (by (repeat (first | exact keepJ_nil _ | refine Jt (by simp [St.box?, *] <;> rfl) ?_)))) ?_
  repeat (first | with_reducible refine PL_nil ?_ | refine PL_gn2 ?_ | refine PL_s2 ?_ | refine PL_b2 ?_)
  refine go_ ?_
  refine Jl (by simp) (by simp only [Try.results46]; rfl) (by simp [resP, St.box?, PF.get, Jm, TyK.agg, *]; rfl) (List.nil_sublist _) ?_
  exact ⟨by simp [tupP, PV.norm2, PV.norm1, PV.norm0], rfl⟩
/-- a telescope's types: shaped, and their loose variables stand ahead -/
def lvsB : List Tm → Int → Bool
  | [], _ => true
  | a :: r, i => (shapedB a && decide (lsT a 0 ≤ i)) && lvsB r (i + 1)
set_option maxHeartbeats 8000000 in
theorem floose_p (l : List Tm) (hl : l.length ≤ 1000) : PCalls Try.prog 86 [.d (.sl (l.map encD))] [] fun p s => p = .d (.v (.bool (lvsB l 0))) ∧ s = [] := by
  obtain ⟨R, hR⟩ : ∃ R, R = lvsB l 0 := ⟨_, rfl⟩
  rw [← hR]
  have HR : Hid (R = lvsB (l.drop 0) ((0 : Nat) : Int)) := hR
  clear hR
  refine PCalls.enter Try.func86 rfl Try.ntmps86 (by simp) ?_
  simp only [argsF]
  refine go_ ?_
  refine PW_loop (ι := Nat) (fun y => y ≤ l.length ∧ Hid (R = lvsB (l.drop y) y)) (fun y => [(5, .d (.sl (l.map encD))), (6, .d (.v (.int .i64 l.length))), (7, .d (.v (.int .i64 (y : Int))))]) (fun _ => []) (fun y => l.length - y) 0 ⟨Nat.zero_le _, HR.out⟩ ?_ ?_ ?_
  · repeat (first | exact Js _ | refine Jr (by simp [PF.get]; rfl) (by first | rfl | (simp [*]; done) | fail) ?_)
  · repeat (first | exact List.Sublist.refl _ | exact List.nil_sublist _ | refine List.Sublist.cons_cons _ ?_ | refine List.Sublist.cons _ ?_)
  rintro j ⟨hj, hR⟩
  clear HR
  by_cases hlt : j < l.length
  · have hx := get_enc hlt
    have hc : (j : Int) < l.length := by omega
    have hn0 : (0 : Int) ≤ j := by omega
    have hin := wr64 (n := (j : Int) + 1) (by omega) (by omega)
    have hR2 : Hid (R = ((shapedB l[j] && decide (lsT l[j] 0 ≤ j)) && lvsB (l.drop (j + 1)) ((j + 1 : Nat) : Int))) := by
      show _ = _; rw [show R = _ from hR.out, List.drop_eq_getElem_cons hlt]; rfl
    have hc1 := Lib.hid (tshaped_p l[j])
    have hc2 := Lib.hid (tLoose_p l[j])
    simp only [aggD, Jk, List.map_cons, List.map_nil] at hc1 hc2
    clear hR
    cases hq : shapedB l[j] with
    | false =>
      rw [hq] at hc1 hR2
      have hf : R = false := by rw [show R = _ from hR2.out]; rfl
      rw [hf]
      clear hR2 hq hf
      refine go_ ?_
      refine Jd ?_
      intro i4 hi4
      try simp only [Rh, Rg, Rf, Ja] at hi4
      refine go_ ?_
      refine Rc ?_
      refine go_ ?_
      refine Jb (hc1.out) ?_
      refine go_ ?_
      refine Jl (by simp) (by simp only [Try.results86]; rfl) (by simp [resP, St.box?, PF.get, Jm, TyK.agg, *]; rfl) (List.nil_sublist _) ?_
      exact ⟨rfl, rfl⟩
    | true =>
      rw [hq] at hc1 hR2
      rw [show looseT l[j] = lsT l[j] 0 from by unfold looseT; rw [if_pos hq]] at hc2
      by_cases hz : lsT l[j] 0 ≤ j
      · have hR3 : Hid (R = lvsB (l.drop (j + 1)) ((j + 1 : Nat) : Int)) := by show _ = _; rw [show R = _ from hR2.out, decide_eq_true hz]; rfl
        have hz2 : ¬ (j : Int) < lsT l[j] 0 := by omega
        clear hR2 hq hz
        refine go_ ?_
        refine Jd ?_
        intro i4 hi4
        try simp only [Rh, Rg, Rf, Ja] at hi4
        refine go_ ?_
        refine Rc ?_
        refine go_ ?_
        refine Jb (hc1.out) ?_
        refine go_ ?_
        refine Jq (hc2.out) ?_
        refine go_ ?_
        exact ⟨j + 1, ⟨hlt, hR3⟩, by omega, by repeat (first | exact Js _ | refine Jr (by simp [PF.get]; rfl) (by first | rfl | (simp [*]; done) | fail) ?_), by repeat (first | exact List.Sublist.refl _ | exact List.nil_sublist _ | refine List.Sublist.cons_cons _ ?_ | refine List.Sublist.cons _ ?_)⟩
      · have hf : R = false := by rw [show R = _ from hR2.out, decide_eq_false hz]; rfl
        have hz2 : (j : Int) < lsT l[j] 0 := by omega
        rw [hf]
        clear hR2 hq hz hf
        refine go_ ?_
        refine Jd ?_
        intro i4 hi4
        try simp only [Rh, Rg, Rf, Ja] at hi4
        refine go_ ?_
        refine Rc ?_
        refine go_ ?_
        refine Jb (hc1.out) ?_
        refine go_ ?_
        refine Jq (hc2.out) ?_
        refine go_ ?_
        refine Jl (by simp) (by simp only [Try.results86]; rfl) (by simp [resP, St.box?, PF.get, Jm, TyK.agg, *]; rfl) (List.nil_sublist _) ?_
        exact ⟨rfl, rfl⟩
  · have hc : ¬ (j : Int) < l.length := by omega
    have hf : R = true := by rw [show R = _ from hR.out, List.drop_of_length_le (by omega)]; rfl
    rw [hf]
    clear hR hf
    refine go_ ?_
    refine Jl (by simp) (by simp only [Try.results86]; rfl) (by simp [resP, St.box?, PF.get, Jm, TyK.agg, *]; rfl) (List.nil_sublist _) ?_
    exact ⟨rfl, rfl⟩
/-- a telescope, opened -/
def openF (base : Int) : List Va → List Tm → List Va × Int
  | o, [] => (o, 0)
  | o, x :: r => if (manyR x (o.map fun v => frN v.n).reverse).2 = 0 then openF base (o ++ [⟨base + o.length, (manyR x (o.map fun v => frN v.n).reverse).1⟩]) r else ([], (manyR x (o.map fun v => frN v.n).reverse).2)
def openR (l : List Tm) (base : Int) : List Va × Int := if lvsB l 0 = false then ([], 5) else openF base [] l
set_option maxHeartbeats 8000000 in
theorem fopen_p (l : List Tm) (hl : l.length ≤ 24) : PCalls Try.prog 45 [.d (.sl (l.map encD)), .d (.v (.int .i64 1000))] [] fun p s => p = ordP (openR l 1000) ∧ s = [] := by
  have hL := Lib.hid (floose_p l (by omega))
  have hw0 := wr64 (n := 1047576) (by omega) (by omega)
  have hc1 : ¬ (1047576 : Int) < l.length := by omega
  have hc2 : ¬ (24 : Int) < l.length := by omega
  obtain ⟨R, hR⟩ : ∃ R, R = openR l 1000 := ⟨_, rfl⟩
  rw [← hR]
  unfold openR at hR
  cases hq : lvsB l 0 with
  | false =>
    rw [hq] at hL hR
    simp only [if_true] at hR
    subst hR
    clear hq
    refine PCalls.enter Try.func45 rfl Try.ntmps45 (by simp) ?_
    simp only [argsF]
    refine go_ ?_
    refine Jq (hL.out) ?_
    refine go_ ?_
    refine Jl (by simp) (by simp only [Try.results45]; rfl) (by simp [resP, St.box?, PF.get, Jm, TyK.agg, *]; rfl) (List.nil_sublist _) ?_
    exact ⟨rfl, rfl⟩
  | true =>
  rw [hq] at hL hR
  simp only [Bool.true_eq_false, if_false] at hR
  have HR : Hid (R = openF 1000 [] (l.drop 0)) := hR
  clear hR hq
  refine PCalls.enter Try.func45 rfl Try.ntmps45 (by simp) ?_
  simp only [argsF]
  refine go_ ?_
  refine Jq (hL.out) ?_
  refine go_ ?_
  refine PW_own 6 44 4 (by decide) (by simp [PF.get] <;> rfl) fun g hg => ?_
  refine go_ ?_
  refine PW_loop (ι := Nat × List Va) (fun y => y.1 ≤ l.length ∧ Hid (y.2.length = y.1) ∧ Hid (R = openF 1000 y.2 (l.drop y.1))) (fun y => [(1, .d (.v (.int .i64 1000))), (6, .own g (y.2.map encD)), (32, .d (.sl (l.map encD))), (33, .d (.v (.int .i64 l.length))), (34, .d (.v (.int .i64 (y.1 : Int))))]) (fun y => [.tok g 44 4 y.2.length]) (fun y => l.length - y.1) (0, []) ⟨Nat.zero_le _, rfl, HR.out⟩ ?_ ?_ ?_
  · repeat (first | exact Js _ | refine Jr (by simp [PF.get]; rfl) (by first | rfl | (simp [*]; done) | fail) ?_)
  · repeat (first | exact List.Sublist.refl _ | exact List.nil_sublist _ | refine List.Sublist.cons_cons _ ?_ | refine List.Sublist.cons _ ?_)
  rintro ⟨j, o⟩ ⟨hj, ho, hR⟩
  simp only at hj ho hR ⊢
  clear HR hc1 hc2
  by_cases hlt : j < l.length
  · have hx := get_enc hlt
    have hc : (j : Int) < l.length := by omega
    have hn0 : (0 : Int) ≤ j := by omega
    have hin := wr64 (n := (j : Int) + 1) (by omega) (by omega)
    have hin2 := wr64 (n := 1000 + (j : Int)) (by omega) (by omega)
    have hol : o.length ≤ 1000 := by have := ho.out; omega
    have hT := Lib.hid (fterms_p o (by omega))
    have hF := Lib.hid (tfill_p l[j] (o.map fun v => frN v.n) (by rw [List.length_map]; omega))
    have hR2 := hR.out
    rw [List.drop_eq_getElem_cons hlt, openF, show (o.length : Int) = (j : Int) from by rw [show o.length = j from ho.out]] at hR2
    obtain ⟨x, hxd⟩ : ∃ x, x = manyR l[j] (o.map fun v => frN v.n).reverse := ⟨_, rfl⟩
    rw [← hxd] at hF hR2
    have HR2 := Lib.hid hR2
    clear hR hR2 hxd
    obtain ⟨x, e⟩ := x
    generalize (o.map fun v => frN v.n).map encD = B at *
    simp only [trP, aggD, Jk, List.map_cons, List.map_nil] at hF HR2
    by_cases he : e = 0
    · subst he
      simp only [if_true] at HR2
      refine go_ ?_
      refine Jd ?_
      intro i8 hi8
      try simp only [Rh, Rg, Rf, Ja] at hi8
      refine go_ ?_
      refine Rc ?_
      refine go_ ?_
      refine PW_drawnL (J := keepJ [(i8, _)]) [(0, .a), (1, .a), (2, .a), (3, .a), (4, .a), (5, .a), (6, .a), (7, .e), (8, .e), (9, .a)] (by kernel_rfl) (by rfl) (by kernel_rfl) (by (repeat (first | exact keepJ_nil _ | refine Jt (by simp [St.box?, *] <;> rfl) ?_))) ?_
      repeat (first | with_reducible refine PL_nil ?_ | refine PL_gn2 ?_ | refine PL_s2 ?_ | refine PL_b2 ?_)
      refine PL_call2 (hT.out) ?_
      repeat (first | with_reducible refine PL_nil ?_ | refine PL_gn2 ?_ | refine PL_s2 ?_ | refine PL_b2 ?_)
      refine PL_call2 (hF.out) ?_
      repeat (first | with_reducible refine PL_nil ?_ | refine PL_gn2 ?_ | refine PL_s2 ?_ | refine PL_b2 ?_)
      refine PL_alloc rfl (by decide) rfl (by simp; rfl) (fun i hi => by simp only [Rh, Rg, Rf] at hi; (repeat (first | exact keepJ_nil _ | refine Jt (by simp [St.box?, *] <;> rfl) ?_))) ?_
      intro i9 hi9
      try simp only [Rh, Rg, Rf, Ja] at hi9
      repeat (first | with_reducible refine PL_nil ?_ | refine PL_gn2 ?_ | refine PL_s2 ?_ | refine PL_b2 ?_)
      refine PL_store rfl rfl (by simp [nev, nevA, nevB, Jo, PF.eval, PF.get, PF.wants, cPV, cCell, PV.rows, evBin, evUn, Jp, evLen, loadA, Jm, TyK.agg, partA, St.box?, St.tok?, St.setBox, St.setTok, fillO, spl, PV.ps, PV.one, Jn, aggD, slD, Jg, Jj, Jh, Ji, Jf, Je, *]; rfl) (by rfl) (by simp [nev, nevA, nevB, Jo, PF.eval, PF.get, PF.wants, cPV, cCell, PV.rows, evBin, evUn, Jp, evLen, loadA, Jm, TyK.agg, partA, St.box?, St.tok?, St.setBox, St.setTok, fillO, spl, PV.ps, PV.one, Jn, aggD, slD, Jg, Jj, Jh, Ji, Jf, Je, *]; rfl) (by simp [PV.ps, aggD, slD, Jg, Jj, Jh, Ji, Jf, Je]; rfl) (by first | rfl | (simp [*]; done) | (simp [PV.one, *]; done) | fail) (by simp; rfl) (by first | (simp; done) | fail) (by simp [nev, nevA, nevB, Jo, PF.eval, PF.get, PF.wants, cPV, cCell, PV.rows, evBin, evUn, Jp, evLen, loadA, Jm, TyK.agg, partA, St.box?, St.tok?, St.setBox, St.setTok, fillO, spl, PV.ps, PV.one, Jn, aggD, slD, Jg, Jj, Jh, Ji, Jf, Je, *]; rfl) (by rfl) (by first | (simp; done) | fail) (by simp [St.setBox, spl, *]; rfl) (by first | exact .inl (by decide +kernel) | exact .inr (by (repeat (first | exact keepJ_nil _ | refine Jt (by simp [St.box?, *] <;> rfl) ?_)))) ?_
      repeat (first | with_reducible refine PL_nil ?_ | refine PL_gn2 ?_ | refine PL_s2 ?_ | refine PL_b2 ?_)
      refine go_ ?_
      refine POps_bs_a ?_
      refine go_ ?_
      refine POps_app_a (o.length + 1) ?_ ?_ ?_ ?_
      · simp
      · exact rows_of (α := Va) rfl
      · exact rows_one rfl
      refine go_ ?_
      refine ⟨(j + 1, o ++ [⟨1000 + (j : Int), x⟩]), ⟨hlt, by show _ = _; rw [List.length_append, List.length_singleton, show o.length = j from ho.out], HR2⟩, by simp only; omega, ?_, ?_⟩
      · repeat (first | exact Js _ | refine Jr (by simp [PF.get]; rfl) (by first | rfl | (simp [encD_va]; done) | fail) ?_)
      · simp only [List.length_append, List.length_singleton]
        repeat (first | exact List.Sublist.refl _ | exact List.nil_sublist _ | refine List.Sublist.cons_cons _ ?_ | refine List.Sublist.cons _ ?_)
    · have hR4 : R = ([], e) := by rw [show R = _ from HR2.out, if_neg he]
      have heb : (e != 0) = true := by rw [bne_iff_ne]; exact he
      rw [hR4]
      clear HR2 hR4
      refine go_ ?_
      refine Jd ?_
      intro i8 hi8
      try simp only [Rh, Rg, Rf, Ja] at hi8
      refine go_ ?_
      refine Rc ?_
      refine go_ ?_
      refine PW_drawnL (J := keepJ [(i8, _)]) [(0, .a), (1, .a), (2, .a), (3, .a), (4, .a), (5, .a), (6, .a), (7, .e), (8, .e), (9, .a)] (by kernel_rfl) (by rfl) (by kernel_rfl) (by (repeat (first | exact keepJ_nil _ | refine Jt (by simp [St.box?, *] <;> rfl) ?_))) ?_
      repeat (first | with_reducible refine PL_nil ?_ | refine PL_gn2 ?_ | refine PL_s2 ?_ | refine PL_b2 ?_)
      refine PL_call2 (hT.out) ?_
      repeat (first | with_reducible refine PL_nil ?_ | refine PL_gn2 ?_ | refine PL_s2 ?_ | refine PL_b2 ?_)
      refine PL_call2 (hF.out) ?_
      repeat (first | with_reducible refine PL_nil ?_ | refine PL_gn2 ?_ | refine PL_s2 ?_ | refine PL_b2 ?_)
      refine PL_alloc rfl (by decide) rfl (by simp; rfl) (fun i hi => by simp only [Rh, Rg, Rf] at hi; (repeat (first | exact keepJ_nil _ | refine Jt (by simp [St.box?, *] <;> rfl) ?_))) ?_
      intro i9 hi9
      try simp only [Rh, Rg, Rf, Ja] at hi9
      repeat (first | with_reducible refine PL_nil ?_ | refine PL_gn2 ?_ | refine PL_s2 ?_ | refine PL_b2 ?_)
      refine PL_store rfl rfl (by simp [nev, nevA, nevB, Jo, PF.eval, PF.get, PF.wants, cPV, cCell, PV.rows, evBin, evUn, Jp, evLen, loadA, Jm, TyK.agg, partA, St.box?, St.tok?, St.setBox, St.setTok, fillO, spl, PV.ps, PV.one, Jn, aggD, slD, Jg, Jj, Jh, Ji, Jf, Je, *]; rfl) (by rfl) (by simp [nev, nevA, nevB, Jo, PF.eval, PF.get, PF.wants, cPV, cCell, PV.rows, evBin, evUn, Jp, evLen, loadA, Jm, TyK.agg, partA, St.box?, St.tok?, St.setBox, St.setTok, fillO, spl, PV.ps, PV.one, Jn, aggD, slD, Jg, Jj, Jh, Ji, Jf, Je, *]; rfl) (by simp [PV.ps, aggD, slD, Jg, Jj, Jh, Ji, Jf, Je]; rfl) (by first | rfl | (simp [*]; done) | (simp [PV.one, *]; done) | fail) (by simp; rfl) (by first | (simp; done) | fail) (by simp [nev, nevA, nevB, Jo, PF.eval, PF.get, PF.wants, cPV, cCell, PV.rows, evBin, evUn, Jp, evLen, loadA, Jm, TyK.agg, partA, St.box?, St.tok?, St.setBox, St.setTok, fillO, spl, PV.ps, PV.one, Jn, aggD, slD, Jg, Jj, Jh, Ji, Jf, Je, *]; rfl) (by rfl) (by first | (simp; done) | fail) (by simp [St.setBox, spl, *]; rfl) (by first | exact .inl (by decide +kernel) | exact .inr (by (repeat (first | exact keepJ_nil _ | refine Jt (by simp [St.box?, *] <;> rfl) ?_)))) ?_
      repeat (first | with_reducible refine PL_nil ?_ | refine PL_gn2 ?_ | refine PL_s2 ?_ | refine PL_b2 ?_)
      refine go_ ?_
      refine Jl (by simp) (by simp only [Try.results45]; rfl) (by simp [resP, St.box?, PF.get, Jm, TyK.agg, *]; rfl) (List.nil_sublist _) ?_
      exact ⟨rfl, rfl⟩
  · have hc : ¬ (j : Int) < l.length := by omega
    have hR3 : R = (o, 0) := by rw [show R = _ from hR.out, List.drop_of_length_le (by omega)]; rfl
    rw [hR3]
    clear hR hR3
    refine go_ ?_
    refine Jl (by simp) (by simp only [Try.results45]; rfl) (by simp [resP, St.box?, PF.get, Jm, TyK.agg, *]; rfl) (List.nil_sublist _) ?_
    exact ⟨by simp [ordP, tupP, PV.norm2, PV.norm1, PV.norm0], rfl⟩
end Go.Proofs.Ytfnfbbmegdkhjaa

namespace Go.Proofs.Ytfnfbbmegdkhjaa
open Go.RowKit
set_option maxRecDepth 100000
def tisT (kd : Int) (l : List Tm) (t : Tm) : Tm := l.foldr (fun a x => .mk kd 0 [a, x]) t
theorem tis_step {kd : Int} {l : List Tm} {t : Tm} {j : Nat} (h : j < l.length) : tisT kd (l.drop j) t = .mk kd 0 [l[j], tisT kd (l.drop (j + 1)) t] := by
  rw [List.drop_eq_getElem_cons h]; rfl
set_option maxHeartbeats 16000000 in
theorem taround_p (kd : Int) (f : Nat) (hca : callable Try.prog f = true) (hF : ∀ a b, PCalls Try.prog f [aggD a, aggD b] [] fun p s => p = aggD (Tm.mk kd 0 [a, b]) ∧ s = []) (l : List Tm) (hl : l.length ≤ 24) (t : Tm) (hs : ∀ a ∈ l, shapedB a = true) (ht : shapedB t = true) :
    PCalls Try.prog 89 [.d (.sl (l.map encD)), aggD t, .fn (.func f) [] []] [] fun p s => p = trP (doneS (tisT kd l t)) ∧ s = [] := by
  have hS := Lib.hid (tshaped_p t)
  rw [ht] at hS
  have HS := Lib.hid hs
  have HF := Lib.hid hF
  have hc : ¬ (24 : Int) < l.length := by omega
  obtain ⟨R, hR⟩ : ∃ R, R = tisT kd l t := ⟨_, rfl⟩
  rw [← hR]
  have HR := Lib.hid hR
  have hw1 := wr64 (n := (l.length : Int) - 1) (by omega) (by omega)
  clear hs hF ht hR
  simp only [aggD, Jk, List.map_cons, List.map_nil] at hS ⊢
  refine PCalls.enter Try.func89 rfl Try.ntmps89 (by simp) ?_
  simp only [argsF]
  refine go_ ?_
  refine Jc ?_
  intro i4 hi4
  try simp only [Rh, Rg, Rf, Ja] at hi4
  refine go_ ?_
  refine Jd ?_
  intro i6 hi6
  try simp only [Rh, Rg, Rf, Ja] at hi6
  refine go_ ?_
  refine PW_loop (ι := Nat) (fun y => y ≤ l.length) (fun y => [(0, .d (.sl (l.map encD))), (2, .fn (.func f) [] []), (4, .ptr i4 0), (6, .ptr i6 0), (15, .d (.sl (l.map encD))), (16, .d (.v (.int .i64 l.length))), (17, .d (.v (.int .i64 (y : Int))))]) (fun _ => [.box i6 28 [.d (.v (.int .i64 0)), .d (.v (.int .i64 0)), .nils], .box i4 28 [.d (.v (.int .i64 t.kind)), .d (.v (.int .i64 t.num)), .d (.sl (t.sub.map encD))]]) (fun y => l.length - y) 0 (Nat.zero_le _) ?_ ?_ ?_
  · repeat (first | exact Js _ | refine Jr (by simp [PF.get]; rfl) (by first | rfl | (simp [*]; done) | fail) ?_)
  · repeat (first | exact List.Sublist.refl _ | exact List.nil_sublist _ | refine List.Sublist.cons_cons _ ?_ | refine List.Sublist.cons _ ?_)
  rintro j hj
  by_cases hlt : j < l.length
  · have hx := get_enc hlt
    have hcj : (j : Int) < l.length := by omega
    have hn0 : (0 : Int) ≤ j := by omega
    have hin := wr64 (n := (j : Int) + 1) (by omega) (by omega)
    have hc1 := Lib.hid (tshaped_p l[j])
    rw [HS.out _ (List.getElem_mem hlt)] at hc1
    simp only [aggD, Jk, List.map_cons, List.map_nil] at hc1
    refine go_ ?_
    refine Jd ?_
    intro i9 hi9
    try simp only [Rh, Rg, Rf, Ja] at hi9
    refine go_ ?_
    refine Rc ?_
    refine go_ ?_
    refine Jb (hc1.out) ?_
    refine go_ ?_
    exact ⟨j + 1, hlt, by omega, by repeat (first | exact Js _ | refine Jr (by simp [PF.get]; rfl) (by first | rfl | (simp [*]; done) | fail) ?_), by repeat (first | exact List.Sublist.refl _ | exact List.nil_sublist _ | refine List.Sublist.cons_cons _ ?_ | refine List.Sublist.cons _ ?_)⟩
  have hcj : ¬ (j : Int) < l.length := by omega
  clear hlt hj
  refine go_ ?_
  refine Jb (hS.out) ?_
  refine go_ ?_
  refine PW_loop (ι := Nat × Tm) (fun y => y.1 ≤ l.length ∧ Hid (y.2 = tisT kd (l.drop (l.length - y.1)) t)) (fun y => [(0, .d (.sl (l.map encD))), (2, .fn (.func f) [] []), (4, .ptr i4 0), (6, .ptr i6 0), (31, .d (.v (.int .i64 l.length))), (32, .d (.v (.int .i64 (y.1 : Int))))]) (fun y => [.box i6 28 [.d (.v (.int .i64 0)), .d (.v (.int .i64 0)), .nils], .box i4 28 [.d (.v (.int .i64 y.2.kind)), .d (.v (.int .i64 y.2.num)), .d (.sl (y.2.sub.map encD))]]) (fun y => l.length - y.1) (0, t) ⟨Nat.zero_le _, by show t = _; rw [List.drop_of_length_le (by omega)]; rfl⟩ ?_ ?_ ?_
  · repeat (first | exact Js _ | refine Jr (by simp [PF.get]; rfl) (by first | rfl | (simp [*]; done) | fail) ?_)
  · repeat (first | exact List.Sublist.refl _ | exact List.nil_sublist _ | refine List.Sublist.cons_cons _ ?_ | refine List.Sublist.cons _ ?_)
  rintro ⟨m, u⟩ ⟨hm, hu⟩
  simp only at hm hu ⊢
  clear hcj
  by_cases hlt : m < l.length
  · have hk : l.length - 1 - m < l.length := by omega
    obtain ⟨k, hkd⟩ : ∃ k, k = l.length - 1 - m := ⟨_, rfl⟩
    have hkl : k < l.length := by omega
    have hx := get_enc hkl
    have hcm : (m : Int) < l.length := by omega
    have hn0 : (0 : Int) ≤ m := by omega
    have hn1 : (0 : Int) ≤ k := by omega
    have hck : (k : Int) < l.length := by omega
    have hin := wr64 (n := (m : Int) + 1) (by omega) (by omega)
    have hin2 : IntKind.i64.wrap ((l.length : Int) - 1 - m) = k := by rw [wr64 (by omega) (by omega)]; omega
    have hc2 := Lib.hid (HF.out l[k] u)
    have hu2 : Hid (Tm.mk kd 0 [l[k], u] = tisT kd (l.drop (l.length - (m + 1))) t) := by
      show _ = _
      rw [show l.length - (m + 1) = k by omega, tis_step hkl, show k + 1 = l.length - m by omega, ← show u = _ from hu.out]
    simp only [aggD, Jk, List.map_cons, List.map_nil, Ju, Jv, Jw] at hc2
    clear hu hk hkd
    refine go_ ?_
    refine PW_drawnL (J := keepJ [(i4, _)]) [(0, .a), (1, .a), (2, .a), (3, .a), (4, .a), (5, .a), (6, .a), (7, .a), (8, .a), (9, .a), (10, .e), (11, .e)] (by kernel_rfl) (by rfl) (by kernel_rfl) (by (repeat (first | exact keepJ_nil _ | refine Jt (by simp [St.box?, *] <;> rfl) ?_))) ?_
    repeat (first | with_reducible refine PL_nil ?_ | refine PL_gn2 ?_ | refine PL_s2 ?_ | refine PL_b2 ?_)
    refine PL_callC 0 0 hc2.out ?_ hca
    rintro p s ⟨rfl, rfl⟩
    simp only [List.cons_append, List.nil_append, List.append_nil, Rh, Rg, Rf]
    refine ⟨.inr (by (repeat (first | exact keepJ_nil _ | refine Jt (by simp [St.box?, *] <;> rfl) ?_))), ?_⟩
    repeat (first | with_reducible refine PL_nil ?_ | refine PL_gn2 ?_ | refine PL_s2 ?_ | refine PL_b2 ?_)
    refine PL_store rfl rfl (by simp [nev, nevA, nevB, Jo, PF.eval, PF.get, PF.wants, cPV, cCell, PV.rows, evBin, evUn, Jp, evLen, loadA, Jm, TyK.agg, partA, St.box?, St.tok?, St.setBox, St.setTok, fillO, spl, PV.ps, PV.one, Jn, aggD, slD, Jg, Jj, Jh, Ji, Jf, Je, *]; rfl) (by rfl) (by simp [nev, nevA, nevB, Jo, PF.eval, PF.get, PF.wants, cPV, cCell, PV.rows, evBin, evUn, Jp, evLen, loadA, Jm, TyK.agg, partA, St.box?, St.tok?, St.setBox, St.setTok, fillO, spl, PV.ps, PV.one, Jn, aggD, slD, Jg, Jj, Jh, Ji, Jf, Je, *]; rfl) (by simp [PV.ps, aggD, slD, Jg, Jj, Jh, Ji, Jf, Je]; rfl) (by first | rfl | (simp [*]; done) | (simp [PV.one, *]; done) | fail) (by simp; rfl) (by first | (simp; done) | fail) (by simp [nev, nevA, nevB, Jo, PF.eval, PF.get, PF.wants, cPV, cCell, PV.rows, evBin, evUn, Jp, evLen, loadA, Jm, TyK.agg, partA, St.box?, St.tok?, St.setBox, St.setTok, fillO, spl, PV.ps, PV.one, Jn, aggD, slD, Jg, Jj, Jh, Ji, Jf, Je, *]; rfl) (by rfl) (by first | (simp; done) | fail) (by simp [St.setBox, spl, *]; rfl) (by first | exact .inl (by decide +kernel) | exact .inr (by (repeat (first | exact keepJ_nil _ | refine Jt (by simp [St.box?, *] <;> rfl) ?_)))) ?_
    repeat (first | with_reducible refine PL_nil ?_ | refine PL_gn2 ?_ | refine PL_s2 ?_ | refine PL_b2 ?_)
    refine go_ ?_
    refine ⟨(m + 1, .mk kd 0 [l[k], u]), ⟨hlt, hu2⟩, by simp only; omega, by repeat (first | exact Js _ | refine Jr (by simp [PF.get]; rfl) (by first | rfl | (simp [*]; done) | fail) ?_), ?_⟩
    simp only [Ju, Jv, Jw, List.map_cons, List.map_nil, Jk]
    repeat (first | exact List.Sublist.refl _ | exact List.nil_sublist _ | refine List.Sublist.cons_cons _ ?_ | refine List.Sublist.cons _ ?_)
  · have hcm : ¬ (m : Int) < l.length := by omega
    have huR : u = R := by
      rw [show u = _ from hu.out, show R = _ from HR.out, show l.length - m = 0 by omega]; rfl
    subst huR
    have hc1 := Lib.hid (tshaped_p u)
    have hc2 := Lib.hid (tCopy_p u)
    have HD := Lib.hid (show doneS u = if shapedB u = true then (u, 0) else (.mk 0 0 [], 2) from rfl)
    rw [HD.out]
    clear hu HR HD
    cases hq : shapedB u with
    | false =>
      rw [hq] at hc1
      simp only [Bool.false_eq_true, if_false, trP, aggD, Jk, List.map_cons, List.map_nil, Ju, Jv, Jw] at hc1 ⊢
      clear hq
      refine go_ ?_
      refine Jb (hc1.out) ?_
      refine go_ ?_
      refine Rc ?_
      refine go_ ?_
      refine Jl (by simp) (by simp only [Try.results89]; rfl) (by simp [resP, St.box?, PF.get, Jm, TyK.agg, *]; rfl) (List.nil_sublist _) ?_
      exact ⟨by simp [tupP, PV.norm2, PV.norm1, PV.norm0], rfl⟩
    | true =>
      rw [hq] at hc1
      rw [copy_shaped hq] at hc2
      simp only [if_true, trP, aggD, Jk, List.map_cons, List.map_nil, Ju, Jv, Jw] at hc1 hc2 ⊢
      clear hq
      refine go_ ?_
      refine Jb (hc1.out) ?_
      refine go_ ?_
      refine Jb (hc2.out) ?_
      refine go_ ?_
      refine Rc ?_
      refine go_ ?_
      refine Jl (by simp) (by simp only [Try.results89]; rfl) (by simp [resP, St.box?, PF.get, Jm, TyK.agg, *]; rfl) (List.nil_sublist _) ?_
      exact ⟨by simp [tupP, PV.norm2, PV.norm1, PV.norm0], rfl⟩
set_option maxHeartbeats 4000000 in
theorem tpis_p (l : List Tm) (hl : l.length ≤ 24) (t : Tm) (hs : ∀ a ∈ l, shapedB a = true) (ht : shapedB t = true) : PCalls Try.prog 47 [.d (.sl (l.map encD)), aggD t] [] fun p s => p = trP (doneS (pisT l t)) ∧ s = [] := by
  have hc := Lib.hid (taround_p 3 78 rfl tpi_p l hl t hs ht)
  rw [show tisT 3 l t = pisT l t from rfl] at hc
  generalize doneS (pisT l t) = r at *
  clear hs ht
  simp only [trP, aggD, Jk, List.map_cons, List.map_nil] at hc ⊢
  refine PCalls.enter Try.func47 rfl Try.ntmps47 (by simp) ?_
  simp only [argsF]
  refine go_ ?_
  refine Jc ?_
  intro i3 hi3
  try simp only [Rh, Rg, Rf, Ja] at hi3
  refine go_ ?_
  refine Jd ?_
  intro i4 hi4
  try simp only [Rh, Rg, Rf, Ja] at hi4
  refine go_ ?_
  refine Jb (hc.out) ?_
  refine go_ ?_
  refine Rc ?_
  refine go_ ?_
  refine Jl (by simp) (by simp only [Try.results47]; rfl) (by simp [resP, St.box?, PF.get, Jm, TyK.agg, *]; rfl) (List.nil_sublist _) ?_
  exact ⟨by simp [tupP, PV.norm2, PV.norm1, PV.norm0], rfl⟩
end Go.Proofs.Ytfnfbbmegdkhjaa

namespace Go.Proofs.Ytfnfbbmegdkhjaa
open Go.RowKit
theorem sub_nil_8 {n : Int} {sub : List Tm} (hg : goodB (.mk 8 n sub) = true) : sub = [] :=
  List.length_eq_zero_iff.1 (by have := (head_num (good_parts hg).1).2.2.2.2; simp [subsOf] at this; simpa using this)
theorem many_lv (base : Int) (i : Nat) : ∀ (t : Tm) (b : Int), goodB t = true → lvT t (b + (i : Int)) = true → lvT (subT (manyLf (frs base i).reverse) t b) b = true := by
  refine Tm.ind ?_
  intro k n sub ih b hg hl
  by_cases h1 : k = 1
  · subst h1
    obtain rfl := good_1 hg
    simp only [lvT, if_true, decide_eq_true_eq] at hl
    by_cases hb : b ≤ n
    · have e1 : manyLf (frs base i).reverse (.mk 1 n []) b = .up (.mk 8 (base + ((i - 1 - (n - b).toNat : Nat) : Int)) []) b := many_up rfl hb (frs_rev (by simp only [Jv]; omega))
      rw [sub_up e1, move_free]
      simp only [lvT, lvL]
      rw [if_neg (by decide)]
    · rw [sub_go (many_go (by simp [hb])), subL]
      simp only [lvT, if_true, decide_eq_true_eq]
      omega
  · rw [sub_go (many_go (by simp [h1]))]
    simp only [lvT] at hl ⊢
    rw [if_neg h1] at hl ⊢
    have hgs := (good_parts hg).2
    have key : ∀ (l : List Tm) (j : Nat), (∀ s ∈ l, s ∈ sub) → lvL k l j (b + (i : Int)) = true → lvL k (subL (manyLf (frs base i).reverse) k l j b) j b = true := by
      intro l
      induction l with
      | nil => intro j _ _; rfl
      | cons t ts iht =>
        intro j hm hv
        simp only [lvL, Bool.and_eq_true] at hv
        simp only [subL, lvL, Bool.and_eq_true]
        exact ⟨ih t (hm t (by simp)) (b + benB k j) (hgs t (hm t (by simp))) (by rw [show b + benB k (j : Int) + (i : Int) = b + (i : Int) + benB k j by omega]; exact hv.1), iht (j + 1) (fun s h => hm s (by simp [h])) hv.2⟩
    exact key sub 0 (fun _ h => h) hl
theorem many_sd (base : Int) (i : Nat) (x : Int) (hx : ∀ j : Nat, j < i → base + (j : Int) ≠ x) : ∀ (t : Tm) (b : Int), goodB t = true → lvT t (b + (i : Int)) = true → sdT t x = false → sdT (subT (manyLf (frs base i).reverse) t b) x = false := by
  refine Tm.ind ?_
  intro k n sub ih b hg hl hs
  by_cases h1 : k = 1
  · subst h1
    obtain rfl := good_1 hg
    simp only [lvT, if_true, decide_eq_true_eq] at hl
    by_cases hb : b ≤ n
    · have e1 : manyLf (frs base i).reverse (.mk 1 n []) b = .up (.mk 8 (base + ((i - 1 - (n - b).toNat : Nat) : Int)) []) b := many_up rfl hb (frs_rev (by simp only [Jv]; omega))
      rw [sub_up e1, move_free]
      simp only [sdT]
      rw [if_pos (by decide), beq_eq_false_iff_ne]
      exact hx _ (by omega)
    · rw [sub_go (many_go (by simp [hb])), subL]
      exact hs
  · rw [sub_go (many_go (by simp [h1]))]
    by_cases h8 : k = 8
    · subst h8
      obtain rfl := sub_nil_8 hg
      rw [subL]
      exact hs
    simp only [sdT] at hs ⊢
    rw [if_neg (by simpa using h8)] at hs ⊢
    simp only [lvT] at hl
    rw [if_neg h1] at hl
    have hgs := (good_parts hg).2
    have key : ∀ (l : List Tm) (j : Nat), (∀ s ∈ l, s ∈ sub) → lvL k l j (b + (i : Int)) = true → sdL l x = false → sdL (subL (manyLf (frs base i).reverse) k l j b) x = false := by
      intro l
      induction l with
      | nil => intro j _ _ _; rfl
      | cons t ts iht =>
        intro j hm hv hd
        simp only [lvL, sdL, Bool.and_eq_true, Bool.or_eq_false_iff] at hv hd
        simp only [subL, sdL, Bool.or_eq_false_iff]
        exact ⟨ih t (hm t (by simp)) (b + benB k j) (hgs t (hm t (by simp))) (by rw [show b + benB k (j : Int) + (i : Int) = b + (i : Int) + benB k j by omega]; exact hv.1) hd.1, iht (j + 1) (fun s h => hm s (by simp [h])) hv.2 hd.2⟩
    exact key sub 0 (fun _ h => h) hl hs
theorem lvsB_get : ∀ (l : List Tm) (i : Int), lvsB l i = true → ∀ (j : Nat) (h : j < l.length), shapedB l[j] = true ∧ lsT l[j] 0 ≤ i + (j : Int) := by
  intro l
  induction l with
  | nil => intro i _ j h; exact absurd h (Nat.not_lt_zero _)
  | cons a r ih =>
    intro i hv j h
    simp only [lvsB, Bool.and_eq_true, decide_eq_true_eq] at hv
    cases j with
    | zero => exact ⟨hv.1.1, by simpa using hv.1.2⟩
    | succ j =>
      obtain ⟨h1, h2⟩ := ih (i + 1) hv.2 j (by simpa using h)
      exact ⟨by simpa using h1, by simp only [List.getElem_cons_succ]; omega⟩
theorem lvsB_lvs : ∀ (l : List Tm) (i : Int), 0 ≤ i → lvsB l i = true → lvs l i := by
  intro l
  induction l with
  | nil => intro i _ _; trivial
  | cons a r ih =>
    intro i hi hv
    simp only [lvsB, Bool.and_eq_true, decide_eq_true_eq] at hv
    have := (lv_ls a 0 i (shaped_hg hv.1.1).1 hi).1 hv.1.2
    rw [Int.zero_add] at this
    exact ⟨this, ih (i + 1) (by omega) hv.2⟩
theorem many_done {t : Tm} {l : List Tm} (h : (manyR t l).2 = 0) : (manyR t l).1 = subT (manyLf l) t 0 ∧ shapedB (subT (manyLf l) t 0) = true ∧ shapedB t = true := by
  unfold manyR at h ⊢
  split
  · rename_i hs
    rw [if_pos hs] at h
    obtain ⟨h1, h2⟩ := done_ok h
    simp only [Bool.and_eq_true] at hs
    exact ⟨h2, h1, hs.1⟩
  · rename_i hs
    rw [if_neg hs] at h
    cases h
theorem opn_frs (base : Int) (l : List Tm) (j : Nat) : (((List.range j).map (opnV base l)).map fun v => frN v.n) = frs base j := by
  unfold frs
  rw [List.map_map]
  rfl
theorem openF_ok (base : Int) (l : List Tm) (V : List Va) : ∀ (m j : Nat), j + m = l.length → openF base ((List.range j).map (opnV base l)) (l.drop j) = (V, 0) → V = (List.range l.length).map (opnV base l) ∧ ∀ i, j ≤ i → i < l.length → shapedB (opnV base l i).ty = true := by
  intro m
  induction m with
  | zero =>
    intro j hj h
    rw [List.drop_of_length_le (by omega), openF] at h
    obtain rfl : j = l.length := by omega
    exact ⟨(Prod.mk.inj h).1.symm, fun i h1 h2 => by omega⟩
  | succ m ih =>
    intro j hj h
    have hjl : j < l.length := by omega
    rw [List.drop_eq_getElem_cons hjl, openF, opn_frs] at h
    split at h
    · rename_i h0
      obtain ⟨e1, e2, -⟩ := many_done h0
      have hv : (⟨base + (((List.range j).map (opnV base l)).length : Int), (manyR l[j] (frs base j).reverse).1⟩ : Va) = opnV base l j := by
        unfold opnV
        rw [e1, List.getElem?_eq_getElem hjl]
        simp
      rw [hv] at h
      have hr : (List.range j).map (opnV base l) ++ [opnV base l j] = (List.range (j + 1)).map (opnV base l) := by
        rw [List.range_succ, List.map_append]; rfl
      rw [hr] at h
      obtain ⟨h1, h2⟩ := ih (j + 1) (by omega) h
      refine ⟨h1, fun i hi hil => ?_⟩
      rcases Nat.eq_or_lt_of_le hi with rfl | hlt
      · show shapedB (subT (manyLf (frs base j).reverse) ((l[j]?).getD (.mk 0 0 [])) 0) = true
        rw [List.getElem?_eq_getElem hjl]
        exact e2
      · exact h2 i hlt hil
    · rename_i h0
      exact absurd (Prod.mk.inj h).2 h0
theorem closed_rng (f : Nat → Va) : ∀ (m s : Nat), (∀ i, s ≤ i → i < s + m → lsT (f i).ty 0 ≤ 0 ∧ ∀ i', i ≤ i' → i' < s + m → sdT (f i).ty (f i').n = false) → closedG ((List.range' s m).map f) = true := by
  intro m
  induction m with
  | zero => intro s _; rfl
  | succ m ih =>
    intro s h
    rw [List.range'_succ, List.map_cons, closedG, ih (s + 1) fun i h1 h2 => ?_]
    · obtain ⟨h1, h2⟩ := h s (Nat.le_refl _) (by omega)
      rw [decide_eq_true h1, Bool.and_true, Bool.true_and, Bool.not_eq_true']
      unfold anyIn
      rw [List.any_eq_false]
      intro v hv
      rw [← List.map_cons, ← List.range'_succ] at hv
      obtain ⟨i, hi, rfl⟩ := List.mem_map.1 hv
      rw [List.mem_range'_1] at hi
      rw [h2 i hi.1 hi.2]; simp
    · obtain ⟨h3, h4⟩ := h i (by omega) (by omega)
      exact ⟨h3, fun i' h5 h6 => h4 i' h5 (by omega)⟩
theorem right_open {l : List Tm} (hl : l.length ≤ 24) (hv : lvsB l 0 = true) (hs : ∀ a ∈ l, ∀ j : Nat, j < 24 → sdT a (1000 + (j : Int)) = false) (hty : ∀ i, i < l.length → shapedB (opnV 1000 l i).ty = true) : rightV ((List.range l.length).map (opnV 1000 l)) = true := by
  unfold rightV shapedV onceV
  simp only [Bool.and_eq_true, decide_eq_true_eq, List.all_eq_true]
  refine ⟨⟨⟨fun v hv => ?_, by rw [List.length_map, List.length_range]; omega⟩, ?_⟩, ?_⟩
  · obtain ⟨i, hi, rfl⟩ := List.mem_map.1 hv
    rw [List.mem_range] at hi
    unfold fitV
    rw [hty i hi, Bool.and_true]
    unfold opnV fitsB
    simp only [Bool.and_eq_true, decide_eq_true_eq]
    omega
  · rw [List.map_map, List.Nodup, List.pairwise_map]
    exact (List.nodup_range (n := l.length)).imp fun h e => h (by simp only [Function.comp, opnV] at e; omega)
  · rw [List.range_eq_range']
    refine closed_rng _ _ _ fun i _ hi => ?_
    have hil : i < l.length := by omega
    obtain ⟨h1, h2⟩ := lvsB_get l 0 hv i hil
    have hg := (shaped_hg h1).1
    have hlv : lvT l[i] (0 + (i : Int)) = true := (lv_ls l[i] 0 i hg (by omega)).1 (by omega)
    have he : (opnV 1000 l i).ty = subT (manyLf (frs 1000 i).reverse) l[i] 0 := by
      show subT _ ((l[i]?).getD (.mk 0 0 [])) 0 = _
      rw [List.getElem?_eq_getElem hil]; rfl
    have hg2 := (shaped_hg (hty i hil)).1
    refine ⟨(lv_ls _ 0 0 hg2 (by decide)).2 ?_, fun i' h3 h4 => ?_⟩
    · rw [he]; exact many_lv 1000 i l[i] 0 hg hlv
    · rw [he]
      refine many_sd 1000 i _ (fun j hj => ?_) l[i] 0 hg hlv (hs _ (List.getElem_mem hil) i' (by omega))
      show (1000 : Int) + (j : Int) ≠ 1000 + (i' : Int)
      omega
theorem freeback_ok {l : List Tm} {t : Tm} {V : List Va} (hl : l.length ≤ 24) (ht : shapedB t = true) (htl : lsT t 0 ≤ l.length) (hs : ∀ a ∈ l ++ [t], ∀ j : Nat, j < 24 → sdT a (1000 + (j : Int)) = false)
    (hV : openR l 1000 = (V, 0)) (hB : (manyR t (V.map fun v => frN v.n).reverse).2 = 0) :
    (∀ a ∈ l, shapedB a = true) ∧ V.length ≤ 24 ∧ ((aroundR 3 V (manyR t (V.map fun v => frN v.n).reverse).1).2 = 0 ∨ (aroundR 3 V (manyR t (V.map fun v => frN v.n).reverse).1).2 = 2) ∧ ((aroundR 3 V (manyR t (V.map fun v => frN v.n).reverse).1).2 = 0 → (doneS (pisT l t)).2 = 0 → (aroundR 3 V (manyR t (V.map fun v => frN v.n).reverse).1).1 = (doneS (pisT l t)).1) := by
  unfold openR at hV
  have hv : lvsB l 0 = true := by
    cases h : lvsB l 0 with
    | true => rfl
    | false => rw [h] at hV; simp at hV
  rw [hv] at hV
  simp only [Bool.true_eq_false, if_false] at hV
  obtain ⟨hVe, hty⟩ := openF_ok 1000 l V l.length 0 (by omega) (by simpa using hV)
  have hty' : ∀ i, i < l.length → shapedB (opnV 1000 l i).ty = true := fun i hi => hty i (Nat.zero_le _) hi
  have hsl : ∀ a ∈ l, ∀ j : Nat, j < 24 → sdT a (1000 + (j : Int)) = false := fun a ha => hs a (by simp [ha])
  have hst := hs t (by simp)
  have hR := right_open hl hv hsl hty'
  have hsh : ∀ a ∈ l, shapedB a = true := by
    intro a ha
    obtain ⟨i, hi, rfl⟩ := List.getElem_of_mem ha
    exact (lvsB_get l 0 hv i hi).1
  subst hVe
  rw [opn_frs] at hB ⊢
  obtain ⟨e1, e2, -⟩ := many_done hB
  rw [e1]
  have hlen : ((List.range l.length).map (opnV 1000 l)).length = l.length := by rw [List.length_map, List.length_range]
  have hA : aroundR 3 ((List.range l.length).map (opnV 1000 l)) (subT (manyLf (frs 1000 l.length).reverse) t 0) = clR (closeG 3 ((List.range l.length).map (opnV 1000 l)).reverse (subT (manyLf (frs 1000 l.length).reverse) t 0)) := by
    unfold aroundR
    rw [hR, e2, if_neg (by decide), if_neg (by rw [hlen]; omega)]
    rfl
  rw [hA]
  refine ⟨hsh, by rw [hlen]; exact hl, ?_, ?_⟩
  · cases closeG 3 ((List.range l.length).map (opnV 1000 l)).reverse (subT (manyLf (frs 1000 l.length).reverse) t 0) with
    | none => exact .inr rfl
    | some a => exact .inl rfl
  · intro h0 h1
    obtain ⟨-, d2⟩ := done_ok h1
    rw [d2]
    have hg := (shaped_hg ht).1
    have hcb := close_back (base := 1000) (l := l) (t := t) (fun a ha => (shaped_hg (hsh a ha)).1) hg (lvsB_lvs l 0 (by decide) hv)
      (by have := (lv_ls t 0 l.length hg (by omega)).1 htl; rwa [Int.zero_add] at this)
      (fun a ha j hj => hsl a ha j (by omega)) (fun j hj => hst j (by omega)) (fun j hj => by unfold fitsB; simp only [Bool.and_eq_true, decide_eq_true_eq]; omega) l.length (Nat.le_refl _)
    have hdn : pisT (l.drop l.length) t = t := by rw [List.drop_of_length_le (Nat.le_refl _)]; rfl
    rw [hdn] at hcb
    cases hc : closeG 3 ((List.range l.length).map (opnV 1000 l)).reverse (subT (manyLf (frs 1000 l.length).reverse) t 0) with
    | none => rw [hc] at h0; cases h0
    | some a => exact hcb a e2 hc
end Go.Proofs.Ytfnfbbmegdkhjaa

namespace Go.Proofs.Ytfnfbbmegdkhjaa
open Go.RowKit Go.WideMaps
set_option maxRecDepth 100000
theorem open_len {l : List Tm} {V : List Va} (h : openR l 1000 = (V, 0)) : V.length = l.length ∧ lvsB l 0 = true := by
  unfold openR at h
  cases hq : lvsB l 0 with
  | false => rw [hq] at h; simp at h
  | true =>
    rw [hq] at h
    simp only [Bool.true_eq_false, if_false] at h
    obtain ⟨e, -⟩ := openF_ok 1000 l V l.length 0 (by omega) (by simpa using h)
    exact ⟨by rw [e, List.length_map, List.length_range], rfl⟩
theorem right_parts {t : Tm} {f e : Int} (h : rightT t f e = true) : shapedB t = true ∧ lsT t 0 ≤ f := by
  unfold rightT at h
  simp only [Bool.and_eq_true, decide_eq_true_eq] at h
  exact h.1
theorem nums_sd {a : Tm} (h : shapedB a = true) (hn : ∀ n ∈ nmT 8 8 a, ¬ (1000 ≤ n ∧ n < 1030)) (j : Nat) (hj : j < 24) : sdT a (1000 + (j : Int)) = false := by
  cases hq : sdT a (1000 + (j : Int)) with
  | false => rfl
  | true =>
    have h1 := (frees_sd h _).2 hq
    unfold enT at h1
    rw [if_pos h] at h1
    exact absurd ⟨by omega, by omega⟩ (hn _ h1)
theorem doneS_code (x : Tm) : (doneS x).2 = 0 ∨ (doneS x).2 = 2 := done_code x
set_option maxHeartbeats 16000000 in
theorem back_p (l : List Tm) (t : Tm) (hbig : ∀ a ∈ l ++ [t], cndT a ≤ 1100000) : PCalls Try.prog 8 [.d (.sl (l.map encD)), aggD t] [] fun p s => p = .d (.v (.bool true)) ∧ s = [] := by
  have hA := Lib.hid awake22_p
  have hRt := Lib.hid (rRight_p t l.length 1048577)
  by_cases h24 : 24 < l.length
  · have hc : (24 : Int) < l.length := by omega
    simp only [aggD, Jk, List.map_cons, List.map_nil] at hRt ⊢
    clear hbig
    refine PCalls.enter Try.func8 rfl Try.ntmps8 (by simp) ?_
    simp only [argsF]
    refine go_ ?_
    refine Jc ?_
    intro i3 hi3
    try simp only [Rh, Rg, Rf, Ja] at hi3
    refine go_ ?_
    refine Jb (hA.out) ?_
    refine go_ ?_
    refine Jl (by simp) (by simp only [Try.results8]; rfl) (by simp [resP, St.box?, PF.get, Jm, TyK.agg, *]; rfl) (List.nil_sublist _) ?_
    exact ⟨rfl, rfl⟩
  have hl : l.length ≤ 24 := by omega
  have hc : ¬ (24 : Int) < l.length := by omega
  cases hq : rightT t l.length 1048577 with
  | false =>
    rw [hq] at hRt
    simp only [aggD, Jk, List.map_cons, List.map_nil] at hRt ⊢
    clear hbig hq h24
    refine PCalls.enter Try.func8 rfl Try.ntmps8 (by simp) ?_
    simp only [argsF]
    refine go_ ?_
    refine Jc ?_
    intro i3 hi3
    try simp only [Rh, Rg, Rf, Ja] at hi3
    refine go_ ?_
    refine Jq (hRt.out) ?_
    refine go_ ?_
    refine Jb (hA.out) ?_
    refine go_ ?_
    refine Jl (by simp) (by simp only [Try.results8]; rfl) (by simp [resP, St.box?, PF.get, Jm, TyK.agg, *]; rfl) (List.nil_sublist _) ?_
    exact ⟨rfl, rfl⟩
  | true =>
  rw [hq] at hRt
  obtain ⟨ht, htl⟩ := right_parts hq
  have HT := Lib.hid ht
  have HTL := Lib.hid htl
  have HBIG := Lib.hid hbig
  have HLEN := Lib.hid (show (l ++ [t]).length = l.length + 1 by simp)
  have HR := Lib.hid (show l.map encD ++ [encD t] = (l ++ [t]).map encD by simp)
  obtain ⟨r, hr⟩ : ∃ r, r = l ++ [t] := ⟨_, rfl⟩
  have HRR := Lib.hid hr
  rw [← hr] at HBIG HLEN HR
  clear hbig hq h24 ht htl hr
  simp only [aggD, Jk, List.map_cons, List.map_nil] at hRt HR ⊢
  refine PCalls.enter Try.func8 rfl Try.ntmps8 (by simp) ?_
  simp only [argsF]
  refine go_ ?_
  refine Jc ?_
  intro i3 hi3
  try simp only [Rh, Rg, Rf, Ja] at hi3
  refine go_ ?_
  refine Jq (hRt.out) ?_
  refine go_ ?_
  refine PW_drawnJ (J := keepJ [(i3, _)]) [(1, .a), (3, .a), (4, .a), (0, .e), (2, .e), (5, .e), (6, .a)] (by kernel_rfl) (by rfl) (by kernel_rfl) (by (repeat (first | exact keepJ_nil _ | refine Jt (by simp [St.box?, *] <;> rfl) ?_))) ?_
  repeat (first | with_reducible refine PJ_nil ?_ | refine PJ_gn2 ?_ | refine PJ_s2 ?_ | refine PJ_b2 ?_)
  refine PJ_bs ?_ rfl (by decide) rfl (by simp; rfl) (by rfl) (by simp; rfl) (by rfl) (by decide) (by decide) (by simp [nev, nevA, nevB, Jo, PF.eval, PF.get, PF.wants, cPV, cCell, PV.rows, evBin, evUn, Jp, evLen, loadA, Jm, TyK.agg, partA, St.box?, St.tok?, St.setBox, St.setTok, fillO, spl, PV.ps, PV.one, Jn, aggD, slD, Jg, Jj, Jh, Ji, Jf, Je, *]; rfl) (by simp [rowsOf, toDs, PV.toD]; rfl)
  repeat (first | with_reducible refine PJ_nil ?_ | refine PJ_gn2 ?_ | refine PJ_s2 ?_ | refine PJ_b2 ?_)
  refine PJ_bs0 (fun g hg => by (repeat (first | exact keepJ_nil _ | refine Jt (by simp [St.box?, *] <;> rfl) ?_))) ?_
  intro g hg
  repeat (first | with_reducible refine PJ_nil ?_ | refine PJ_gn2 ?_ | refine PJ_s2 ?_ | refine PJ_b2 ?_)
  refine PJ_app l.length ?_ ?_ ?_ ?_ ?_
  · simp
  · simp
  · exact rows3 l
  · (repeat (first | exact keepJ_nil _ | refine Jt (by simp [St.box?, *] <;> rfl) ?_))
  repeat (first | with_reducible refine PJ_nil ?_ | refine PJ_gn2 ?_ | refine PJ_s2 ?_ | refine PJ_b2 ?_)
  refine PJ_app (l.length + 1) ?_ ?_ ?_ ?_ ?_
  · simp
  · exact rows3 l
  · exact rows_one rfl
  · (repeat (first | exact keepJ_nil _ | refine Jt (by simp [St.box?, *] <;> rfl) ?_))
  rw [HR.out]
  refine PJ_s2 ?_
  refine PJ_nil ?_
  refine Qj ?_
  refine PW_norm 5 (by simp [PF.get] <;> rfl) ?_
  simp only [PV.norm0]
  clear HR
  have hrl : r.length ≤ 25 := by rw [HLEN.out]; omega
  refine go_ ?_
  refine PW_loop (ι := Nat) (fun y => y ≤ r.length ∧ Hid (∀ a ∈ r.take y, ∀ x ∈ nmT 8 8 a, ¬ (1000 ≤ x ∧ x < 1030))) (fun y => [(0, .d (.sl (l.map encD))), (3, .ptr i3 0), (5, .d (.sl (r.map encD))), (6, .d (.v (.int .i64 (y : Int))))]) (fun _ => [.tok g 28 3 (l.length + 1), .box i3 28 [.d (.v (.int .i64 t.kind)), .d (.v (.int .i64 t.num)), .d (.sl (t.sub.map encD))]]) (fun y => r.length - y) 0 ⟨Nat.zero_le _, fun a ha => by simp at ha⟩ ?_ ?_ ?_
  · repeat (first | exact Js _ | refine Jr (by simp [PF.get]; rfl) (by first | rfl | (simp [*]; done) | fail) ?_)
  · repeat (first | exact List.Sublist.refl _ | exact List.nil_sublist _ | refine List.Sublist.cons_cons _ ?_ | refine List.Sublist.cons _ ?_)
  rintro j ⟨hj, hB⟩
  by_cases hlt : j < r.length
  · have hx := get_enc hlt
    have hcj : (j : Int) < r.length := by omega
    have hn0 : (0 : Int) ≤ j := by omega
    have hin := wr64 (n := (j : Int) + 1) (by omega) (by omega)
    have hcd := HBIG.out _ (List.getElem_mem hlt)
    have hc1 := Lib.hid (rnumbersU_p r[j] 8 8 hcd)
    have hnl := nm_len 8 8 r[j]
    obtain ⟨N, hN⟩ : ∃ N, N = nmT 8 8 r[j] := ⟨_, rfl⟩
    rw [← hN] at hc1 hnl
    have hNl : N.length ≤ 1100000 := by omega
    have hB2 : Hid ((∀ x ∈ N, ¬ (1000 ≤ x ∧ x < 1030)) → ∀ a ∈ r.take (j + 1), ∀ x ∈ nmT 8 8 a, ¬ (1000 ≤ x ∧ x < 1030)) := by
      intro h a ha
      rw [List.take_succ_eq_append_getElem hlt, List.mem_append, List.mem_singleton] at ha
      rcases ha with ha | rfl
      · exact hB.out a ha
      · rw [← hN]; exact h
    simp only [aggD, Jk, List.map_cons, List.map_nil] at hc1
    clear hB hcd hnl hN
    refine go_ ?_
    refine Jb (hc1.out) ?_
    refine go_ ?_
    refine PW_loop (ι := Nat) (fun y => y ≤ N.length ∧ Hid (∀ x ∈ N.take y, ¬ (1000 ≤ x ∧ x < 1030))) (fun y => [(0, .d (.sl (l.map encD))), (3, .ptr i3 0), (5, .d (.sl (r.map encD))), (6, .d (.v (.int .i64 (j : Int)))), (7, .d (.sl (N.map encD))), (8, .d (.v (.int .i64 (y : Int))))]) (fun _ => [.tok g 28 3 (l.length + 1), .box i3 28 [.d (.v (.int .i64 t.kind)), .d (.v (.int .i64 t.num)), .d (.sl (t.sub.map encD))]]) (fun y => N.length - y) 0 ⟨Nat.zero_le _, fun a ha => by simp at ha⟩ ?_ ?_ ?_
    · repeat (first | exact Js _ | refine Jr (by simp [PF.get]; rfl) (by first | rfl | (simp [*]; done) | fail) ?_)
    · repeat (first | exact List.Sublist.refl _ | exact List.nil_sublist _ | refine List.Sublist.cons_cons _ ?_ | refine List.Sublist.cons _ ?_)
    rintro k ⟨hk, hK⟩
    clear hx
    by_cases hkl : k < N.length
    · have hy := get_enc hkl
      have hck : (k : Int) < N.length := by omega
      have hk0 : (0 : Int) ≤ k := by omega
      have hik := wr64 (n := (k : Int) + 1) (by omega) (by omega)
      have hK2 : Hid (¬ (1000 ≤ N[k] ∧ N[k] < 1030) → ∀ x ∈ N.take (k + 1), ¬ (1000 ≤ x ∧ x < 1030)) := by
        intro h x hx
        rw [List.take_succ_eq_append_getElem hkl, List.mem_append, List.mem_singleton] at hx
        rcases hx with hx | rfl
        · exact hK.out x hx
        · exact h
      clear hK
      by_cases h1 : 1000 ≤ N[k]
      · by_cases h2 : N[k] < 1030
        · clear hK2 hB2
          refine go_ ?_
          refine Jb (hA.out) ?_
          refine go_ ?_
          refine Jl (by simp) (by simp only [Try.results8]; rfl) (by simp [resP, St.box?, PF.get, Jm, TyK.agg, *]; rfl) (List.nil_sublist _) ?_
          exact ⟨rfl, rfl⟩
        · have h3 := hK2.out (fun h => h2 h.2)
          have HK3 : Hid (∀ x ∈ N.take (k + 1), ¬ (1000 ≤ x ∧ x < 1030)) := h3
          clear hK2 h3
          refine go_ ?_
          exact ⟨k + 1, ⟨hkl, HK3⟩, by omega, by repeat (first | exact Js _ | refine Jr (by simp [PF.get]; rfl) (by first | rfl | (simp [*]; done) | fail) ?_), by repeat (first | exact List.Sublist.refl _ | exact List.nil_sublist _ | refine List.Sublist.cons_cons _ ?_ | refine List.Sublist.cons _ ?_)⟩
      · have h3 := hK2.out (fun h => h1 h.1)
        have HK3 : Hid (∀ x ∈ N.take (k + 1), ¬ (1000 ≤ x ∧ x < 1030)) := h3
        clear hK2 h3
        refine go_ ?_
        exact ⟨k + 1, ⟨hkl, HK3⟩, by omega, by repeat (first | exact Js _ | refine Jr (by simp [PF.get]; rfl) (by first | rfl | (simp [*]; done) | fail) ?_), by repeat (first | exact List.Sublist.refl _ | exact List.nil_sublist _ | refine List.Sublist.cons_cons _ ?_ | refine List.Sublist.cons _ ?_)⟩
    · have hck : ¬ (k : Int) < N.length := by omega
      have h3 : Hid (∀ a ∈ r.take (j + 1), ∀ x ∈ nmT 8 8 a, ¬ (1000 ≤ x ∧ x < 1030)) := hB2.out (by have := hK.out; rwa [List.take_of_length_le (by omega)] at this)
      clear hK hB2
      refine go_ ?_
      exact ⟨j + 1, ⟨hlt, h3⟩, by omega, by repeat (first | exact Js _ | refine Jr (by simp [PF.get]; rfl) (by first | rfl | (simp [*]; done) | fail) ?_), by repeat (first | exact List.Sublist.refl _ | exact List.nil_sublist _ | refine List.Sublist.cons_cons _ ?_ | refine List.Sublist.cons _ ?_)⟩
  have hcj : ¬ (j : Int) < r.length := by omega
  have HN : Hid (∀ a ∈ l ++ [t], ∀ x ∈ nmT 8 8 a, ¬ (1000 ≤ x ∧ x < 1030)) := by
    have := hB.out
    rw [List.take_of_length_le (by omega), show r = _ from HRR.out] at this
    exact this
  have hO := Lib.hid (fopen_p l hl)
  clear hB HBIG HLEN HRR
  obtain ⟨V, hVd⟩ : ∃ V, V = openR l 1000 := ⟨_, rfl⟩
  rw [← hVd] at hO
  obtain ⟨V, e⟩ := V
  simp only [ordP] at hO
  by_cases he : e = 0
  rotate_left
  · have heb : (e != 0) = true := by rw [bne_iff_ne]; exact he
    clear hVd
    refine go_ ?_
    refine Jb (hO.out) ?_
    refine go_ ?_
    refine Jb (hA.out) ?_
    refine go_ ?_
    refine Jl (by simp) (by simp only [Try.results8]; rfl) (by simp [resP, St.box?, PF.get, Jm, TyK.agg, *]; rfl) (List.nil_sublist _) ?_
    exact ⟨rfl, rfl⟩
  subst he
  obtain ⟨hVl, hlv⟩ := open_len hVd.symm
  have hTm := Lib.hid (fterms_p V (by omega))
  have hF := Lib.hid (tfill_p t (V.map fun v => frN v.n) (by rw [List.length_map]; omega))
  have HSD : Hid (∀ a ∈ l ++ [t], ∀ j : Nat, j < 24 → sdT a (1000 + (j : Int)) = false) := by
    intro a ha j hj
    refine nums_sd ?_ (HN.out a ha) j hj
    rcases List.mem_append.1 ha with h | h
    · obtain ⟨i, hi, rfl⟩ := List.getElem_of_mem h
      exact (lvsB_get l 0 hlv i hi).1
    · rw [List.mem_singleton] at h
      rw [h]; exact HT.out
  have HFB := Lib.hid (fun h => freeback_ok hl HT.out HTL.out HSD.out hVd.symm h)
  clear HN HSD hVd hlv
  generalize (V.map fun v => frN v.n).map encD = TB at *
  obtain ⟨B, hBd⟩ : ∃ B, B = manyR t (V.map fun v => frN v.n).reverse := ⟨_, rfl⟩
  rw [← hBd] at hF HFB
  clear hBd
  obtain ⟨B, e⟩ := B
  simp only [trP, aggD, Jk, List.map_cons, List.map_nil] at hF HFB
  by_cases he : e = 0
  rotate_left
  · have heb : (e != 0) = true := by rw [bne_iff_ne]; exact he
    clear HFB
    refine go_ ?_
    refine Jb (hO.out) ?_
    refine go_ ?_
    refine PW_drawnL (J := keepJ [(i3, _)]) [(0, .a), (1, .a), (2, .a), (3, .a), (4, .a), (5, .a), (6, .a), (7, .e), (8, .e), (9, .a)] (by kernel_rfl) (by rfl) (by kernel_rfl) (by (repeat (first | exact keepJ_nil _ | refine Jt (by simp [St.box?, *] <;> rfl) ?_))) ?_
    repeat (first | with_reducible refine PL_nil ?_ | refine PL_gn2 ?_ | refine PL_s2 ?_ | refine PL_b2 ?_)
    refine PL_call2 (hTm.out) ?_
    repeat (first | with_reducible refine PL_nil ?_ | refine PL_gn2 ?_ | refine PL_s2 ?_ | refine PL_b2 ?_)
    refine PL_call2 (hF.out) ?_
    repeat (first | with_reducible refine PL_nil ?_ | refine PL_gn2 ?_ | refine PL_s2 ?_ | refine PL_b2 ?_)
    refine PL_alloc rfl (by decide) rfl (by simp; rfl) (fun i hi => by simp only [Rh, Rg, Rf] at hi; (repeat (first | exact keepJ_nil _ | refine Jt (by simp [St.box?, *] <;> rfl) ?_))) ?_
    intro i11 hi11
    try simp only [Rh, Rg, Rf, Ja] at hi11
    repeat (first | with_reducible refine PL_nil ?_ | refine PL_gn2 ?_ | refine PL_s2 ?_ | refine PL_b2 ?_)
    refine PL_store rfl rfl (by simp [nev, nevA, nevB, Jo, PF.eval, PF.get, PF.wants, cPV, cCell, PV.rows, evBin, evUn, Jp, evLen, loadA, Jm, TyK.agg, partA, St.box?, St.tok?, St.setBox, St.setTok, fillO, spl, PV.ps, PV.one, Jn, aggD, slD, Jg, Jj, Jh, Ji, Jf, Je, *]; rfl) (by rfl) (by simp [nev, nevA, nevB, Jo, PF.eval, PF.get, PF.wants, cPV, cCell, PV.rows, evBin, evUn, Jp, evLen, loadA, Jm, TyK.agg, partA, St.box?, St.tok?, St.setBox, St.setTok, fillO, spl, PV.ps, PV.one, Jn, aggD, slD, Jg, Jj, Jh, Ji, Jf, Je, *]; rfl) (by simp [PV.ps, aggD, slD, Jg, Jj, Jh, Ji, Jf, Je]; rfl) (by first | rfl | (simp [*]; done) | (simp [PV.one, *]; done) | fail) (by simp; rfl) (by first | (simp; done) | fail) (by simp [nev, nevA, nevB, Jo, PF.eval, PF.get, PF.wants, cPV, cCell, PV.rows, evBin, evUn, Jp, evLen, loadA, Jm, TyK.agg, partA, St.box?, St.tok?, St.setBox, St.setTok, fillO, spl, PV.ps, PV.one, Jn, aggD, slD, Jg, Jj, Jh, Ji, Jf, Je, *]; rfl) (by rfl) (by first | (simp; done) | fail) (by simp [St.setBox, spl, *]; rfl) (by first | exact .inl (by decide +kernel) | exact .inr (by (repeat (first | exact keepJ_nil _ | refine Jt (by simp [St.box?, *] <;> rfl) ?_)))) ?_
    repeat (first | with_reducible refine PL_nil ?_ | refine PL_gn2 ?_ | refine PL_s2 ?_ | refine PL_b2 ?_)
    refine go_ ?_
    refine Jb (hA.out) ?_
    refine go_ ?_
    refine Jl (by simp) (by simp only [Try.results8]; rfl) (by simp [resP, St.box?, PF.get, Jm, TyK.agg, *]; rfl) (List.nil_sublist _) ?_
    exact ⟨rfl, rfl⟩
  subst he
  obtain ⟨hsh, hVl2, hA2, hEq⟩ := HFB.out rfl
  have hP1 := Lib.hid (fpis_p V (by omega) B)
  have hP2 := Lib.hid (tpis_p l hl t hsh HT.out)
  have hB2 := doneS_code (pisT l t)
  clear HFB hsh
  generalize aroundR 3 V B = A at *
  generalize doneS (pisT l t) = D at *
  obtain ⟨A, e1⟩ := A
  obtain ⟨D, e2⟩ := D
  simp only at hA2 hB2 hEq
  simp only [trP, aggD, Jk, List.map_cons, List.map_nil] at hP1 hP2
  rcases hA2 with rfl | rfl
  rotate_left
  · clear hEq hB2
    refine go_ ?_
    refine Jb (hO.out) ?_
    refine go_ ?_
    refine PW_drawnL (J := keepJ [(i3, _)]) [(0, .a), (1, .a), (2, .a), (3, .a), (4, .a), (5, .a), (6, .a), (7, .e), (8, .e), (9, .a)] (by kernel_rfl) (by rfl) (by kernel_rfl) (by (repeat (first | exact keepJ_nil _ | refine Jt (by simp [St.box?, *] <;> rfl) ?_))) ?_
    repeat (first | with_reducible refine PL_nil ?_ | refine PL_gn2 ?_ | refine PL_s2 ?_ | refine PL_b2 ?_)
    refine PL_call2 (hTm.out) ?_
    repeat (first | with_reducible refine PL_nil ?_ | refine PL_gn2 ?_ | refine PL_s2 ?_ | refine PL_b2 ?_)
    refine PL_call2 (hF.out) ?_
    repeat (first | with_reducible refine PL_nil ?_ | refine PL_gn2 ?_ | refine PL_s2 ?_ | refine PL_b2 ?_)
    refine PL_alloc rfl (by decide) rfl (by simp; rfl) (fun i hi => by simp only [Rh, Rg, Rf] at hi; (repeat (first | exact keepJ_nil _ | refine Jt (by simp [St.box?, *] <;> rfl) ?_))) ?_
    intro i11 hi11
    try simp only [Rh, Rg, Rf, Ja] at hi11
    repeat (first | with_reducible refine PL_nil ?_ | refine PL_gn2 ?_ | refine PL_s2 ?_ | refine PL_b2 ?_)
    refine PL_store rfl rfl (by simp [nev, nevA, nevB, Jo, PF.eval, PF.get, PF.wants, cPV, cCell, PV.rows, evBin, evUn, Jp, evLen, loadA, Jm, TyK.agg, partA, St.box?, St.tok?, St.setBox, St.setTok, fillO, spl, PV.ps, PV.one, Jn, aggD, slD, Jg, Jj, Jh, Ji, Jf, Je, *]; rfl) (by rfl) (by simp [nev, nevA, nevB, Jo, PF.eval, PF.get, PF.wants, cPV, cCell, PV.rows, evBin, evUn, Jp, evLen, loadA, Jm, TyK.agg, partA, St.box?, St.tok?, St.setBox, St.setTok, fillO, spl, PV.ps, PV.one, Jn, aggD, slD, Jg, Jj, Jh, Ji, Jf, Je, *]; rfl) (by simp [PV.ps, aggD, slD, Jg, Jj, Jh, Ji, Jf, Je]; rfl) (by first | rfl | (simp [*]; done) | (simp [PV.one, *]; done) | fail) (by simp; rfl) (by first | (simp; done) | fail) (by simp [nev, nevA, nevB, Jo, PF.eval, PF.get, PF.wants, cPV, cCell, PV.rows, evBin, evUn, Jp, evLen, loadA, Jm, TyK.agg, partA, St.box?, St.tok?, St.setBox, St.setTok, fillO, spl, PV.ps, PV.one, Jn, aggD, slD, Jg, Jj, Jh, Ji, Jf, Je, *]; rfl) (by rfl) (by first | (simp; done) | fail) (by simp [St.setBox, spl, *]; rfl) (by first | exact .inl (by decide +kernel) | exact .inr (by (repeat (first | exact keepJ_nil _ | refine Jt (by simp [St.box?, *] <;> rfl) ?_)))) ?_
    repeat (first | with_reducible refine PL_nil ?_ | refine PL_gn2 ?_ | refine PL_s2 ?_ | refine PL_b2 ?_)
    refine go_ ?_
    refine Jb (hP1.out) ?_
    refine go_ ?_
    refine Jd ?_
    intro i13 hi13
    try simp only [Rh, Rg, Rf, Ja] at hi13
    refine go_ ?_
    refine Rc ?_
    refine go_ ?_
    refine Jb (hP2.out) ?_
    refine go_ ?_
    refine Jd ?_
    intro i15 hi15
    try simp only [Rh, Rg, Rf, Ja] at hi15
    refine go_ ?_
    refine Rc ?_
    refine go_ ?_
    refine Jq (hA.out) ?_
    refine go_ ?_
    refine Jl (by simp) (by simp only [Try.results8]; rfl) (by simp [resP, St.box?, PF.get, Jm, TyK.agg, *]; rfl) (List.nil_sublist _) ?_
    exact ⟨rfl, rfl⟩
  rcases hB2 with rfl | rfl
  rotate_left
  · clear hEq
    refine go_ ?_
    refine Jb (hO.out) ?_
    refine go_ ?_
    refine PW_drawnL (J := keepJ [(i3, _)]) [(0, .a), (1, .a), (2, .a), (3, .a), (4, .a), (5, .a), (6, .a), (7, .e), (8, .e), (9, .a)] (by kernel_rfl) (by rfl) (by kernel_rfl) (by (repeat (first | exact keepJ_nil _ | refine Jt (by simp [St.box?, *] <;> rfl) ?_))) ?_
    repeat (first | with_reducible refine PL_nil ?_ | refine PL_gn2 ?_ | refine PL_s2 ?_ | refine PL_b2 ?_)
    refine PL_call2 (hTm.out) ?_
    repeat (first | with_reducible refine PL_nil ?_ | refine PL_gn2 ?_ | refine PL_s2 ?_ | refine PL_b2 ?_)
    refine PL_call2 (hF.out) ?_
    repeat (first | with_reducible refine PL_nil ?_ | refine PL_gn2 ?_ | refine PL_s2 ?_ | refine PL_b2 ?_)
    refine PL_alloc rfl (by decide) rfl (by simp; rfl) (fun i hi => by simp only [Rh, Rg, Rf] at hi; (repeat (first | exact keepJ_nil _ | refine Jt (by simp [St.box?, *] <;> rfl) ?_))) ?_
    intro i11 hi11
    try simp only [Rh, Rg, Rf, Ja] at hi11
    repeat (first | with_reducible refine PL_nil ?_ | refine PL_gn2 ?_ | refine PL_s2 ?_ | refine PL_b2 ?_)
    refine PL_store rfl rfl (by simp [nev, nevA, nevB, Jo, PF.eval, PF.get, PF.wants, cPV, cCell, PV.rows, evBin, evUn, Jp, evLen, loadA, Jm, TyK.agg, partA, St.box?, St.tok?, St.setBox, St.setTok, fillO, spl, PV.ps, PV.one, Jn, aggD, slD, Jg, Jj, Jh, Ji, Jf, Je, *]; rfl) (by rfl) (by simp [nev, nevA, nevB, Jo, PF.eval, PF.get, PF.wants, cPV, cCell, PV.rows, evBin, evUn, Jp, evLen, loadA, Jm, TyK.agg, partA, St.box?, St.tok?, St.setBox, St.setTok, fillO, spl, PV.ps, PV.one, Jn, aggD, slD, Jg, Jj, Jh, Ji, Jf, Je, *]; rfl) (by simp [PV.ps, aggD, slD, Jg, Jj, Jh, Ji, Jf, Je]; rfl) (by first | rfl | (simp [*]; done) | (simp [PV.one, *]; done) | fail) (by simp; rfl) (by first | (simp; done) | fail) (by simp [nev, nevA, nevB, Jo, PF.eval, PF.get, PF.wants, cPV, cCell, PV.rows, evBin, evUn, Jp, evLen, loadA, Jm, TyK.agg, partA, St.box?, St.tok?, St.setBox, St.setTok, fillO, spl, PV.ps, PV.one, Jn, aggD, slD, Jg, Jj, Jh, Ji, Jf, Je, *]; rfl) (by rfl) (by first | (simp; done) | fail) (by simp [St.setBox, spl, *]; rfl) (by first | exact .inl (by decide +kernel) | exact .inr (by (repeat (first | exact keepJ_nil _ | refine Jt (by simp [St.box?, *] <;> rfl) ?_)))) ?_
    repeat (first | with_reducible refine PL_nil ?_ | refine PL_gn2 ?_ | refine PL_s2 ?_ | refine PL_b2 ?_)
    refine go_ ?_
    refine Jb (hP1.out) ?_
    refine go_ ?_
    refine Jd ?_
    intro i13 hi13
    try simp only [Rh, Rg, Rf, Ja] at hi13
    refine go_ ?_
    refine Rc ?_
    refine go_ ?_
    refine Jb (hP2.out) ?_
    refine go_ ?_
    refine Jd ?_
    intro i15 hi15
    try simp only [Rh, Rg, Rf, Ja] at hi15
    refine go_ ?_
    refine Rc ?_
    refine go_ ?_
    refine Jq (hA.out) ?_
    refine go_ ?_
    refine Jl (by simp) (by simp only [Try.results8]; rfl) (by simp [resP, St.box?, PF.get, Jm, TyK.agg, *]; rfl) (List.nil_sublist _) ?_
    exact ⟨rfl, rfl⟩
  have hAD : A = D := hEq rfl rfl
  subst hAD
  have hE := Lib.hid (requal_p A A)
  rw [(eqT_iff A A).2 rfl] at hE
  simp only [aggD, Jk, List.map_cons, List.map_nil] at hE
  clear hEq
  refine go_ ?_
  refine Jb (hO.out) ?_
  refine go_ ?_
  refine PW_drawnL (J := keepJ [(i3, _)]) [(0, .a), (1, .a), (2, .a), (3, .a), (4, .a), (5, .a), (6, .a), (7, .e), (8, .e), (9, .a)] (by kernel_rfl) (by rfl) (by kernel_rfl) (by (repeat (first | exact keepJ_nil _ | refine Jt (by simp [St.box?, *] <;> rfl) ?_))) ?_
  repeat (first | with_reducible refine PL_nil ?_ | refine PL_gn2 ?_ | refine PL_s2 ?_ | refine PL_b2 ?_)
  refine PL_call2 (hTm.out) ?_
  repeat (first | with_reducible refine PL_nil ?_ | refine PL_gn2 ?_ | refine PL_s2 ?_ | refine PL_b2 ?_)
  refine PL_call2 (hF.out) ?_
  repeat (first | with_reducible refine PL_nil ?_ | refine PL_gn2 ?_ | refine PL_s2 ?_ | refine PL_b2 ?_)
  refine PL_alloc rfl (by decide) rfl (by simp; rfl) (fun i hi => by simp only [Rh, Rg, Rf] at hi; (repeat (first | exact keepJ_nil _ | refine Jt (by simp [St.box?, *] <;> rfl) ?_))) ?_
  intro i11 hi11
  try simp only [Rh, Rg, Rf, Ja] at hi11
  repeat (first | with_reducible refine PL_nil ?_ | refine PL_gn2 ?_ | refine PL_s2 ?_ | refine PL_b2 ?_)
  refine PL_store rfl rfl (by simp [nev, nevA, nevB, Jo, PF.eval, PF.get, PF.wants, cPV, cCell, PV.rows, evBin, evUn, Jp, evLen, loadA, Jm, TyK.agg, partA, St.box?, St.tok?, St.setBox, St.setTok, fillO, spl, PV.ps, PV.one, Jn, aggD, slD, Jg, Jj, Jh, Ji, Jf, Je, *]; rfl) (by rfl) (by simp [nev, nevA, nevB, Jo, PF.eval, PF.get, PF.wants, cPV, cCell, PV.rows, evBin, evUn, Jp, evLen, loadA, Jm, TyK.agg, partA, St.box?, St.tok?, St.setBox, St.setTok, fillO, spl, PV.ps, PV.one, Jn, aggD, slD, Jg, Jj, Jh, Ji, Jf, Je, *]; rfl) (by simp [PV.ps, aggD, slD, Jg, Jj, Jh, Ji, Jf, Je]; rfl) (by first | rfl | (simp [*]; done) | (simp [PV.one, *]; done) | fail) (by simp; rfl) (by first | (simp; done) | fail) (by simp [nev, nevA, nevB, Jo, PF.eval, PF.get, PF.wants, cPV, cCell, PV.rows, evBin, evUn, Jp, evLen, loadA, Jm, TyK.agg, partA, St.box?, St.tok?, St.setBox, St.setTok, fillO, spl, PV.ps, PV.one, Jn, aggD, slD, Jg, Jj, Jh, Ji, Jf, Je, *]; rfl) (by rfl) (by first | (simp; done) | fail) (by simp [St.setBox, spl, *]; rfl) (by first | exact .inl (by decide +kernel) | exact .inr (by (repeat (first | exact keepJ_nil _ | refine Jt (by simp [St.box?, *] <;> rfl) ?_)))) ?_
  repeat (first | with_reducible refine PL_nil ?_ | refine PL_gn2 ?_ | refine PL_s2 ?_ | refine PL_b2 ?_)
  refine go_ ?_
  refine Jb (hP1.out) ?_
  refine go_ ?_
  refine Jd ?_
  intro i13 hi13
  try simp only [Rh, Rg, Rf, Ja] at hi13
  refine go_ ?_
  refine Rc ?_
  refine go_ ?_
  refine Jb (hP2.out) ?_
  refine go_ ?_
  refine Jd ?_
  intro i15 hi15
  try simp only [Rh, Rg, Rf, Ja] at hi15
  refine go_ ?_
  refine Rc ?_
  refine go_ ?_
  refine Jb (hE.out) ?_
  refine go_ ?_
  refine Jq (hA.out) ?_
  refine go_ ?_
  refine Jl (by simp) (by simp only [Try.results8]; rfl) (by simp [resP, St.box?, PF.get, Jm, TyK.agg, *]; rfl) (List.nil_sublist _) ?_
  exact ⟨rfl, rfl⟩
end Go.Proofs.Ytfnfbbmegdkhjaa

namespace Go.Proofs.Ytfnfbbmegdkhjaa
open Go.RowKit
set_option maxRecDepth 100000
section
variable {H : Type} {enc : TypeId × Value → H} {w : World} {base : Nat} {spare : Nat → Bool} {held : Bool}
theorem cnd_bulk : ∀ (l : List Tm) (ds : List (DataW H)), l.length = ds.length → (∀ (i : Nat) (t : Tm) (d : DataW H), l[i]? = some t → ds[i]? = some d → cndT t ≤ Rows.uptoBulk d) → cndL l ≤ Rows.uptoBulkAll ds := by
  intro l
  induction l with
  | nil => intro ds _ _; exact Nat.zero_le _
  | cons t l ih =>
    intro ds hl h
    cases ds with
    | nil => cases hl
    | cons d ds =>
      have h1 := h 0 t d rfl rfl
      have h2 := ih ds (by simpa using hl) fun i x y hx hy => h (i + 1) x y (by simpa using hx) (by simpa using hy)
      simp only [cndL, Rows.uptoBulkAll]
      omega
/-- what reads as a term, and its bulk -/
def OpnU (enc : TypeId × Value → H) (w : World) (base : Nat) (spare : Nat → Bool) (held : Bool) (n : Nat) : Prop :=
  ∀ (cs : List Value) (x : DataW H × List MemPlace), DataW.trod enc Try.prog w base spare held n 28 cs = some x → ∃ t : Tm, Rep (fun _ => True) w t cs ∧ cndT t ≤ Rows.uptoBulk x.1
theorem opnU_slice {n : Nat} (ih : ∀ m, m < n → OpnU enc w base spare held m) {cs : List Value} {x : DataW H × List MemPlace} (h : DataW.trod enc Try.prog w base spare held n 23 cs = some x) : ∃ (v : Value) (l : List Tm), cs = [v] ∧ RepS (fun _ => True) w v l ∧ cndL l + 1 ≤ Rows.uptoBulk x.1 := by
  have hc : Try.prog.cellsOf 28 = Enc.sz Tm := by kernel_rfl
  have hpos : 0 < Enc.sz Tm := by decide
  rcases DataW.trod_slice Try.underlying23 h with ⟨rfl, hx⟩ | ⟨a, len, cap, elems, rest, m, rfl, rfl, rfl, _, hl, hm, hlen, hel, _, _⟩
  · refine ⟨_, [], rfl, RepS.nil, ?_⟩
    simp only [cndL, Nat.zero_add]
    generalize x.1 = d
    cases d with
    | lit l => cases l <;> simp [Rows.uptoBulk]
    | _ => simp [Rows.uptoBulk]
  · rw [hc] at hel
    have each : ∀ i, i < len → ∃ p : List Value × Tm, w.cells? base (a.add (i * Enc.sz Tm)) (Enc.sz Tm) = some p.1 ∧ (Rep (fun _ => True) w p.2 p.1 ∧ ∀ d, elems[i]? = some d → cndT p.2 ≤ Rows.uptoBulk d.1) := by
      intro i hi
      have h1 := hel i hi
      rw [List.getElem?_eq_getElem (by omega)] at h1
      obtain ⟨cs', h2, h3⟩ := Option.bind_eq_some_iff.1 h1
      obtain ⟨t, ht, hb⟩ := ih m (by omega) cs' _ h3
      refine ⟨(cs', t), h2, ht, fun d hd => ?_⟩
      rw [List.getElem?_eq_getElem (by omega)] at hd
      obtain rfl := Option.some.inj hd
      exact hb
    obtain ⟨ps, hpl, hp⟩ := choose_list (Q := fun i (p : List Value × Tm) => w.cells? base (a.add (i * Enc.sz Tm)) (Enc.sz Tm) = some p.1 ∧ (Rep (fun _ => True) w p.2 p.1 ∧ ∀ d, elems[i]? = some d → cndT p.2 ≤ Rows.uptoBulk d.1)) each
    refine ⟨_, ps.map (·.2), rfl, RepS.mk (css := ps.map (·.1)) ?_ ?_, ?_⟩
    · refine ⟨some a, cap, by simp [hpl], by simpa [hpl] using hl, hm, fun hne => ?_⟩
      have hl0 : 0 < ps.length := by
        cases ps with
        | nil => exact absurd rfl hne
        | cons _ _ => simp
      obtain ⟨_, hcl0, hcell0⟩ := World.cells?_some (hp 0 hl0).1
      have h0 := hcell0 0 hpos
      simp only [Nat.zero_mul, Addr.add, if_true] at h0
      rw [List.getElem?_eq_getElem (by omega)] at h0
      have hs : a.spot = none := spot_none h0
      refine ⟨a.block, a.off, by cases a; simp_all, trivial, World.block_lt_of_cell? w _ h0, fun i c hic => ?_⟩
      simp only [List.getElem?_map, Option.map_eq_some_iff] at hic
      obtain ⟨p, hpi, rfl⟩ := hic
      obtain ⟨hi, hpe⟩ := List.getElem?_eq_some_iff.1 hpi
      have hpp := (hp i hi).1
      rw [hpe] at hpp
      obtain ⟨_, hcl, hcell⟩ := World.cells?_some hpp
      refine ⟨hcl, fun j u hu => ?_⟩
      have hj : j < Enc.sz Tm := by
        have := (List.getElem?_eq_some_iff.1 hu).1; omega
      have := hcell j hj
      rw [hu, addr_add (x := a) hs, addr_add rfl] at this
      simpa [Nat.add_assoc] using this
    · refine RepL.mk (by simp) fun i hi => ?_
      have hi' : i < ps.length := by simpa using hi
      exact ⟨ps[i].1, by simp [hi'], by have h := (hp i hi').2.1; unfold Rep at h; simpa using h⟩
    · have hk := cnd_bulk (ps.map (·.2)) (elems.map (·.1)) (by rw [List.length_map, List.length_map]; omega) fun i t d ht hd => by
        rw [List.getElem?_map] at ht hd
        obtain ⟨p, hpi, rfl⟩ := Option.map_eq_some_iff.1 ht
        obtain ⟨e, hei, rfl⟩ := Option.map_eq_some_iff.1 hd
        obtain ⟨hi, hpe⟩ := List.getElem?_eq_some_iff.1 hpi
        have := (hp i hi).2.2 e hei
        rw [hpe] at this
        exact this
      simp only [Rows.uptoBulk]
      omega
theorem opn_tmU : ∀ (n : Nat), OpnU enc w base spare held n := by
  intro n
  induction n using Nat.strongRecOn with
  | ind n ih =>
    intro cs x h
    obtain ⟨xs, m, rfl, hxe, hlen, hxs, hf⟩ := DataW.trod_struct Try.underlying28 h
    have hc : Try.prog.cellsOf 28 = 3 := by kernel_rfl
    have hc3 : Try.prog.cellsOf 3 = 1 := by kernel_rfl
    have hcs : Try.prog.cellsOf 23 = 1 := by kernel_rfl
    rw [hc] at hlen
    obtain ⟨c0, c1, c2, rfl⟩ := lst3 hlen
    match xs, hxs, hxe with
    | [x0, x1, x2], _, hxe =>
      have h0 : DataW.trod enc Try.prog w base spare held m 3 (([c0, c1, c2].drop 0).take (Try.prog.cellsOf 3)) = some x0 := hf 0 _ rfl
      have h1 : DataW.trod enc Try.prog w base spare held m 3 (([c0, c1, c2].drop 1).take (Try.prog.cellsOf 3)) = some x1 := hf 1 _ rfl
      have h2 : DataW.trod enc Try.prog w base spare held m 23 (([c0, c1, c2].drop 2).take (Try.prog.cellsOf 23)) = some x2 := hf 2 _ rfl
      rw [hc3] at h0 h1
      rw [hcs] at h2
      obtain ⟨k, hk⟩ := opn_int (by kernel_rfl) m _ _ h0
      obtain ⟨a, ha⟩ := opn_int (by kernel_rfl) m _ _ h1
      obtain ⟨v, l, hv, hl, hb⟩ := opnU_slice (fun m' hm' => ih m' (by omega)) h2
      have e : [c0] = [.int .i64 k] := rep_int.1 hk
      have e1 : [c1] = [.int .i64 a] := rep_int.1 ha
      have e2 : [c2] = [v] := hv
      obtain rfl := (List.cons.inj e).1
      obtain rfl := (List.cons.inj e1).1
      obtain rfl := (List.cons.inj e2).1
      refine ⟨.mk k a l, rep_tm.2 ⟨c2, rfl, hl⟩, ?_⟩
      simp only [cndT]
      subst hxe
      simp only [Rows.uptoBulk, Rows.uptoBulkAll, List.map_cons, List.map_nil]
      omega
theorem open_tzsU {n : Nat} {cs : List Value} {x : DataW H × List MemPlace} (h : DataW.trod enc Try.prog w base spare held n 23 cs = some x) : ∃ (a : Option Addr) (len cap : Nat) (ts : List Tm), cs = [.slice a len cap] ∧ TzS w (.slice a len cap) ts ∧ cndL ts ≤ Rows.uptoBulk x.1 := by
  obtain ⟨v, l, rfl, hl, hb⟩ := opnU_slice (fun m' _ => opn_tmU m') h
  obtain ⟨a, c, rfl, _⟩ := hl.shape
  exact ⟨a, _, c, l, rfl, hl, by omega⟩
theorem open_tzU (n : Nat) (cs : List Value) (x : DataW H × List MemPlace) (h : DataW.trod enc Try.prog w base spare held n 28 cs = some x) : ∃ t, TzC w t cs ∧ cndT t ≤ Rows.uptoBulk x.1 := opn_tmU n cs x h
end
theorem back_walk (v : Value) (l : List Tm) (t : Tm) (cs : List Value) (hb : cndL l + cndT t ≤ 1048576) (w : World) (hl : TzS w v l) (ht : TzC w t cs) : Calls Try.prog 8 #[v, .agg cs.toArray] w fun e w' => e = .returned (.bool true) ∧ Below w.heap.size w w' := by
  refine PCalls.top ((back_p l t fun a ha => ?_).mono fun _ _ h => h.1) ?_
  · rcases List.mem_append.1 ha with h | h
    · have := cnd_mem a h; omega
    · rw [List.mem_singleton] at h; subst h; omega
  · exact relVs_cons (.d (relS_of (fun b o v _ hv => ⟨v, hv⟩) (by decide) hl)) (relVs_cons (rel_rep (K := K0 w) (fun b o v _ h => ⟨v, h⟩) ht) (relVs_nil _ _))
end Go.Proofs.Ytfnfbbmegdkhjaa
