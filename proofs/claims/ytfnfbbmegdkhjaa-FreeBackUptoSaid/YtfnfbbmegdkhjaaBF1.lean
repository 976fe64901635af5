import Derived.Test.YtfnfbbmegdkhjaaBF
import Derived.Test.YtfnfbbmegdkhjaaBA1
import Derived.Test.YtfnfbbmegdkhjaaBE
set_option linter.unusedSimpArgs false
set_option linter.unusedVariables false
namespace Go.Proofs.Ytfnfbbmegdkhjaa
open Go.RowKit Go.WideMaps
set_option maxRecDepth 100000
set_option maxHeartbeats 8000000 in
theorem rsameints_p (a b : List Int) : PCalls Try.prog 25 [.d (.sl (a.map encD)), .d (.sl (b.map encD))] [] fun p s => p = .d (.v (.bool (decide (a = b)))) ∧ s = [] := by
  by_cases hl : a.length = b.length
  · obtain ⟨R, hR⟩ : ∃ R, R = decide (a = b) := ⟨_, rfl⟩
    rw [← hR]
    have HR : Hid (R = decide (a.drop 0 = b.drop 0)) := hR
    have hne : ((a.length : Int) != b.length) = false := by rw [hl]; simp
    have HL := Lib.hid hl
    clear hR hl
    refine PCalls.enter Try.func25 rfl Try.ntmps25 (by simp) ?_
    simp only [argsF]
    refine PW_slen (t := 0) (rows := a.map encD) (by simp [PF.get] <;> rfl) rfl fun hml => ?_
    rw [List.length_map] at hml
    unfold maxLen at hml
    refine go_ ?_
    refine PW_loop (ι := Nat) (fun y => y ≤ a.length ∧ Hid (R = decide (a.drop y = b.drop y))) (fun y => [(0, .d (.sl (a.map encD))), (1, .d (.sl (b.map encD))), (5, .d (.v (.int .i64 (y : Int))))]) (fun _ => []) (fun y => a.length - y) 0 ⟨Nat.zero_le _, HR.out⟩ ?_ ?_ ?_
    · repeat (first | exact Js _ | refine Jr (by simp [PF.get]; rfl) (by first | rfl | (simp [*]; done) | fail) ?_)
    · repeat (first | exact List.Sublist.refl _ | exact List.nil_sublist _ | refine List.Sublist.cons_cons _ ?_ | refine List.Sublist.cons _ ?_)
    · rintro j ⟨hj, hR⟩
      clear HR
      by_cases hlt : j < a.length
      · have hlb : j < b.length := by have := HL.out; omega
        have hx := get_enc hlt
        have hy := get_enc hlb
        have hc : (j : Int) < a.length := by omega
        have hc2 : (j : Int) < b.length := by omega
        have hn : (0 : Int) ≤ j := by omega
        have hin := wr64 (n := (j : Int) + 1) (by omega) (by omega)
        have hR2 : Hid (R = ((a[j] == b[j]) && decide (a.drop (j + 1) = b.drop (j + 1)))) := by
          show _ = _
          rw [show R = _ from hR.out, List.drop_eq_getElem_cons hlt, List.drop_eq_getElem_cons hlb, Bool.eq_iff_iff]
          simp [-List.getElem_cons_drop]
        clear hR
        cases hq : (a[j] == b[j]) with
        | false =>
          have hqn : (a[j] != b[j]) = true := by rw [bne, hq]; rfl
          have hf : Hid (R = false) := by show _ = _; rw [show R = _ from hR2.out, hq]; rfl
          clear hR2
          refine go_ ?_
          refine PW_drawn [(0, .a), (1, .a), (2, .a), (3, .a), (4, .a), (5, .a), (6, .a), (7, .a), (8, .a)] (by kernel_rfl) (by rfl) (by kernel_rfl) ?_
          refine go_ ?_
          refine Jl (by simp) (by simp only [Try.results25]; rfl) (by simp [resP, St.box?, PF.get, Jm, TyK.agg, *]; rfl) (List.nil_sublist _) ?_
          exact ⟨by rw [hf.out]; rfl, rfl⟩
        | true =>
          have hqn : (a[j] != b[j]) = false := by rw [bne, hq]; rfl
          have hR3 : Hid (R = decide (a.drop (j + 1) = b.drop (j + 1))) := by show _ = _; rw [show R = _ from hR2.out, hq]; rfl
          clear hR2
          refine go_ ?_
          refine PW_drawn [(0, .a), (1, .a), (2, .a), (3, .a), (4, .a), (5, .a), (6, .a), (7, .a), (8, .a)] (by kernel_rfl) (by rfl) (by kernel_rfl) ?_
          refine go_ ?_
          exact ⟨j + 1, ⟨hlt, hR3⟩, by omega, by repeat (first | exact Js _ | refine Jr (by simp [PF.get]; rfl) (by first | rfl | (simp [*]; done) | fail) ?_), by repeat (first | exact List.Sublist.refl _ | exact List.nil_sublist _ | refine List.Sublist.cons_cons _ ?_ | refine List.Sublist.cons _ ?_)⟩
      · have hc : ¬ (j : Int) < a.length := by omega
        have hf : Hid (R = true) := by rw [show R = _ from hR.out, List.drop_of_length_le (by omega), List.drop_of_length_le (by have := HL.out; omega)]; rfl
        refine go_ ?_
        refine Jl (by simp) (by simp only [Try.results25]; rfl) (by simp [resP, St.box?, PF.get, Jm, TyK.agg, *]; rfl) (List.nil_sublist _) ?_
        exact ⟨by rw [hf.out]; rfl, rfl⟩
  · have hf : decide (a = b) = false := decide_eq_false fun e => hl (by rw [e])
    have hne : ((a.length : Int) != b.length) = true := by rw [bne_iff_ne]; omega
    rw [hf]
    clear hf hl
    refine PCalls.enter Try.func25 rfl Try.ntmps25 (by simp) ?_
    simp only [argsF]
    refine go_ ?_
    refine Jl (by simp) (by simp only [Try.results25]; rfl) (by simp [resP, St.box?, PF.get, Jm, TyK.agg, *]; rfl) (List.nil_sublist _) ?_
    exact ⟨rfl, rfl⟩
def fndV (n : Int) : List Va → Option Va
  | [] => none
  | v :: r => if (v.n == n) = true then some v else fndV n r
def fndP : Option Va → PV
  | some v => .tup [aggD (copyT v.ty), .d (.v (.int .i64 0))]
  | none => .tup [aggD (Tm.mk 0 0 []), .d (.v (.int .i64 16))]
set_option maxHeartbeats 8000000 in
theorem ffind_p (c : List Va) (n : Int) : PCalls Try.prog 31 [.d (.sl (c.map encD)), .d (.v (.int .i64 n))] [] fun p s => p = fndP (fndV n c) ∧ s = [] := by
  obtain ⟨R, hR⟩ : ∃ R, R = fndV n c := ⟨_, rfl⟩
  rw [← hR]
  have HR : Hid (R = fndV n (c.drop 0)) := hR
  clear hR
  refine PCalls.enter Try.func31 rfl Try.ntmps31 (by simp) ?_
  simp only [argsF]
  refine PW_slen (t := 0) (rows := c.map encD) (by simp [PF.get] <;> rfl) rfl fun hml => ?_
  rw [List.length_map] at hml
  unfold maxLen at hml
  refine go_ ?_
  refine Jd ?_
  intro i4 hi4
  try simp only [Rh, Rg, Rf, Ja] at hi4
  refine go_ ?_
  refine PW_loop (ι := Nat) (fun y => y ≤ c.length ∧ Hid (R = fndV n (c.drop y))) (fun y => [(1, .d (.v (.int .i64 n))), (4, .ptr i4 0), (8, .d (.sl (c.map encD))), (9, .d (.v (.int .i64 c.length))), (10, .d (.v (.int .i64 (y : Int))))]) (fun _ => [.box i4 28 [.d (.v (.int .i64 0)), .d (.v (.int .i64 0)), .nils]]) (fun y => c.length - y) 0 ⟨Nat.zero_le _, HR.out⟩ ?_ ?_ ?_
  · repeat (first | exact Js _ | refine Jr (by simp [PF.get]; rfl) (by first | rfl | (simp [*]; done) | fail) ?_)
  · repeat (first | exact List.Sublist.refl _ | exact List.nil_sublist _ | refine List.Sublist.cons_cons _ ?_ | refine List.Sublist.cons _ ?_)
  rintro j ⟨hj, hR⟩
  clear HR
  by_cases hlt : j < c.length
  · have hx := get_enc hlt
    have hc : (j : Int) < c.length := by omega
    have hn : (0 : Int) ≤ j := by omega
    have hin := wr64 (n := (j : Int) + 1) (by omega) (by omega)
    have hR2 : Hid (R = if (c[j].n == n) = true then some c[j] else fndV n (c.drop (j + 1))) := by
      rw [show R = _ from hR.out, List.drop_eq_getElem_cons hlt]; rfl
    have hc1 := Lib.hid (tCopy_p c[j].ty)
    simp only [aggD, Jk, List.map_cons, List.map_nil] at hc1
    clear hR
    cases hq : (c[j].n == n) with
    | true =>
      have hf : Hid (R = some c[j]) := by show _ = _; rw [show R = _ from hR2.out, hq]; rfl
      clear hR2
      rw [hf.out, fndP]
      simp only [aggD, Jk, List.map_cons, List.map_nil]
      refine go_ ?_
      refine Jd ?_
      intro i2 hi2
      try simp only [Rh, Rg, Rf, Ja] at hi2
      refine go_ ?_
      refine Rc ?_
      refine go_ ?_
      refine Jb (hc1.out) ?_
      refine go_ ?_
      refine Rc ?_
      refine go_ ?_
      refine Jl (by simp) (by simp only [Try.results31]; rfl) (by simp [resP, St.box?, PF.get, Jm, TyK.agg, *]; rfl) (List.nil_sublist _) ?_
      exact ⟨by simp [tupP, PV.norm2, PV.norm1, PV.norm0], rfl⟩
    | false =>
      have hR3 : Hid (R = fndV n (c.drop (j + 1))) := by show _ = _; rw [show R = _ from hR2.out, hq]; rfl
      clear hR2
      refine go_ ?_
      refine Jd ?_
      intro i2 hi2
      try simp only [Rh, Rg, Rf, Ja] at hi2
      refine go_ ?_
      refine Rc ?_
      refine go_ ?_
      exact ⟨j + 1, ⟨hlt, hR3⟩, by omega, by repeat (first | exact Js _ | refine Jr (by simp [PF.get]; rfl) (by first | rfl | (simp [*]; done) | fail) ?_), by repeat (first | exact List.Sublist.refl _ | exact List.nil_sublist _ | refine List.Sublist.cons_cons _ ?_ | refine List.Sublist.cons _ ?_)⟩
  · have hc : ¬ (j : Int) < c.length := by omega
    have hf : Hid (R = none) := by rw [show R = _ from hR.out, List.drop_of_length_le (by omega)]; rfl
    rw [hf.out, fndP]
    simp only [aggD, Jk, List.map_cons, List.map_nil, Ju, Jv, Jw]
    refine go_ ?_
    refine Rc ?_
    refine go_ ?_
    refine Jl (by simp) (by simp only [Try.results31]; rfl) (by simp [resP, St.box?, PF.get, Jm, TyK.agg, *]; rfl) (List.nil_sublist _) ?_
    exact ⟨by simp [tupP, PV.norm2, PV.norm1, PV.norm0], rfl⟩
/-- those that hang on what was told -/
def behG : List Int → List Va → List Int
  | _, [] => []
  | told, v :: r => if (enT 8 8 v.ty).any (fun k => decide (k ∈ told)) = true then v.n :: behG (v.n :: told) r else behG told r
set_option maxHeartbeats 16000000 in
theorem fbehind_p (c : List Va) (n : Int) (hn : iw n) (hcl : c.length ≤ 100000) (hw : ∀ e ∈ c, iw e.n) : PCalls Try.prog 34 [.d (.sl (c.map encD)), .d (.v (.int .i64 n))] [] fun p s => p = .d (.sl ((behG [n] c).map encD)) ∧ s = [] := by
  obtain ⟨R, hR⟩ : ∃ R, R = behG [n] c := ⟨_, rfl⟩
  rw [← hR]
  have HR : Hid (R = [] ++ behG [n] (c.drop 0)) := hR
  have HW := Lib.hid hw
  have hkey := Lib.hid (int_key hn.1 hn.2)
  have hwf1 : (Lit.int .i64 1).wf = true := by decide
  clear hR hw hn
  refine PCalls.enter Try.func34 rfl Try.ntmps34 (by simp) ?_
  simp only [argsF]
  refine go_ ?_
  refine POps_makeMap 3 3 fun i0 hi0 => ?_
  try simp only [Rh, Rg, Rf, Ja] at hi0
  refine go_ ?_
  refine POps_insert (N := 0) (v := 1) (D := .map []) Try.underlying3 Try.underlying3 (by decide) hkey.out hwf1 ?_
  have hbag : DataW.put (.map []) (.int .i64 n) (.lit (.int .i64 1)) = bagD [n] := rfl
  rw [hbag]
  refine go_ ?_
  refine PW_own 6 3 1 (by decide) (by simp [PF.get] <;> rfl) fun g hg => ?_
  refine PW_loop (ι := Nat × List Int × List Int) (fun y => y.1 ≤ c.length ∧ y.2.1.length ≤ y.1 + 1 ∧ y.2.2.length ≤ y.1 ∧ Hid (R = y.2.2 ++ behG y.2.1 (c.drop y.1))) (fun y => [(5, .mp i0), (6, .own g (y.2.2.map encD)), (14, .d (.sl (c.map encD))), (15, .d (.v (.int .i64 c.length))), (16, .d (.v (.int .i64 (y.1 : Int))))]) (fun y => [.tok g 3 1 y.2.2.length, .obj i0 (MapO Try.prog 3 3 y.2.1.length (bagD y.2.1))]) (fun y => c.length - y.1) (0, [n], []) ⟨Nat.zero_le _, Nat.le_refl _, Nat.le_refl _, HR.out⟩ ?_ ?_ ?_
  · repeat (first | exact Js _ | refine Jr (by simp [PF.get]; rfl) (by first | rfl | (simp [*]; done) | fail) ?_)
  · repeat (first | exact List.Sublist.refl _ | exact List.nil_sublist _ | refine List.Sublist.cons_cons _ ?_ | refine List.Sublist.cons _ ?_)
  rintro ⟨j, U, m⟩ ⟨hj, hU, hm, hR⟩
  simp only at hj hU hm hR ⊢
  clear HR hkey hbag
  by_cases hlt : j < c.length
  · have hx := get_enc hlt
    have hc : (j : Int) < c.length := by omega
    have hn0 : (0 : Int) ≤ j := by omega
    have hin := wr64 (n := (j : Int) + 1) (by omega) (by omega)
    have hR2 : Hid (R = m ++ (if (enT 8 8 c[j].ty).any (fun k => decide (k ∈ U)) = true then c[j].n :: behG (c[j].n :: U) (c.drop (j + 1)) else behG U (c.drop (j + 1)))) := by
      rw [show R = _ from hR.out, List.drop_eq_getElem_cons hlt]; rfl
    have hc1 := Lib.hid (tfrees_p c[j].ty)
    simp only [aggD, Jk, List.map_cons, List.map_nil] at hc1
    have HB := Lib.hid (fun (x : Int) (h : x ∈ enT 8 8 c[j].ty) => fr_bd h)
    have hT := Lib.hid (btell_p i0 U.length U c[j].n (HW.out _ (List.getElem_mem hlt)).1 (HW.out _ (List.getElem_mem hlt)).2 (by omega) (by omega))
    have hfl := frees_len c[j].ty
    have hml : m.length ≤ 100000 := by omega
    have HU := Lib.hid hU
    have HM := Lib.hid hm
    clear hR hU hm
    generalize enT 8 8 c[j].ty = F at *
    obtain ⟨Z, hZ⟩ : ∃ Z, Z = F.any (fun k => decide (k ∈ U)) := ⟨_, rfl⟩
    rw [← hZ] at hR2
    have HZ : Hid (Z = (F.drop 0).any (fun k => decide (k ∈ U))) := hZ
    clear hZ
    refine go_ ?_
    refine Jd ?_
    intro i2 hi2
    try simp only [Rh, Rg, Rf, Ja] at hi2
    refine go_ ?_
    refine Rc ?_
    refine go_ ?_
    refine Jb (hc1.out) ?_
    refine go_ ?_
    refine PW_loop (ι := Nat) (fun y => y ≤ F.length ∧ Hid (Z = (F.drop y).any (fun k => decide (k ∈ U)))) (fun y => [(5, .mp i0), (6, .own g (m.map encD)), (8, .ptr i2 0), (14, .d (.sl (c.map encD))), (15, .d (.v (.int .i64 c.length))), (16, .d (.v (.int .i64 (j : Int)))), (22, .d (.sl (F.map encD))), (23, .d (.v (.int .i64 F.length))), (24, .d (.v (.int .i64 (y : Int))))]) (fun _ => [.box i2 44 [.d (.v (.int .i64 c[j].n)), .d (.v (.int .i64 c[j].ty.kind)), .d (.v (.int .i64 c[j].ty.num)), .d (.sl (c[j].ty.sub.map encD))], .tok g 3 1 m.length, .obj i0 (MapO Try.prog 3 3 U.length (bagD U))]) (fun y => F.length - y) 0 ⟨Nat.zero_le _, HZ.out⟩ ?_ ?_ ?_
    · repeat (first | exact Js _ | refine Jr (by simp [PF.get]; rfl) (by first | rfl | (simp [*]; done) | fail) ?_)
    · repeat (first | exact List.Sublist.refl _ | exact List.nil_sublist _ | refine List.Sublist.cons_cons _ ?_ | refine List.Sublist.cons _ ?_)
    rintro k ⟨hk, hz⟩
    clear HZ hx
    by_cases hkl : k < F.length
    · have hx := get_enc hkl
      have hc5 : (k : Int) < F.length := by omega
      have hn5 : (0 : Int) ≤ k := by omega
      have hin5 := wr64 (n := (k : Int) + 1) (by omega) (by omega)
      have hT2 := Lib.hid (btold_p i0 U.length U F[k] (by have := HB.out _ (List.getElem_mem hkl); omega) (by have := HB.out _ (List.getElem_mem hkl); omega))
      have hz2 : Hid (Z = (decide (F[k] ∈ U) || (F.drop (k + 1)).any (fun k => decide (k ∈ U)))) := by show _ = _; rw [show Z = _ from hz.out, List.drop_eq_getElem_cons hkl]; rfl
      clear hz
      generalize decide (F[k] ∈ U) = q at *
      cases q with
      | true =>
        have hR3 : Hid (R = (m ++ [c[j].n]) ++ behG (c[j].n :: U) (c.drop (j + 1))) := by
          show _ = _
          rw [show R = _ from hR2.out, show Z = _ from hz2.out, Bool.true_or, if_pos rfl, List.append_assoc]; rfl
        clear hR2 hz2
        refine go_ ?_
        refine Rd 2 1 (hT2.out) ?_
        rintro p s ⟨rfl, rfl⟩
        simp only [List.cons_append, List.nil_append, List.append_nil, Rh, Rg, Rf]
        refine go_ ?_
        refine Rd 2 1 (hT.out) ?_
        rintro p s ⟨rfl, rfl⟩
        simp only [List.cons_append, List.nil_append, List.append_nil, Rh, Rg, Rf]
        refine go_ ?_
        refine POps_bs_a ?_
        refine go_ ?_
        refine POps_app_a (m.length + 1) ?_ ?_ ?_ ?_
        · simp
        · exact rows1 _
        · exact rows_one rfl
        refine go_ ?_
        refine ⟨(j + 1, c[j].n :: U, m ++ [c[j].n]), ⟨hlt, by have := HU.out; simp only [List.length_cons]; omega, by have := HM.out; simp only [List.length_append, List.length_singleton]; omega, hR3⟩, by simp only; omega, ?_, ?_⟩
        · repeat (first | exact Js _ | refine Jr (by simp [PF.get]; rfl) (by first | rfl | (simp [Je]; done) | fail) ?_)
        · simp only [List.length_append, List.length_singleton, List.length_cons]
          repeat (first | exact List.Sublist.refl _ | exact List.nil_sublist _ | refine List.Sublist.cons_cons _ ?_ | refine List.Sublist.cons _ ?_)
      | false =>
        have hz3 : Hid (Z = (F.drop (k + 1)).any (fun k => decide (k ∈ U))) := by show _ = _; rw [show Z = _ from hz2.out]; rfl
        clear hz2
        refine go_ ?_
        refine Rd 2 1 (hT2.out) ?_
        rintro p s ⟨rfl, rfl⟩
        simp only [List.cons_append, List.nil_append, List.append_nil, Rh, Rg, Rf]
        refine go_ ?_
        exact ⟨k + 1, ⟨hkl, hz3⟩, by omega, by repeat (first | exact Js _ | refine Jr (by simp [PF.get]; rfl) (by first | rfl | (simp [*]; done) | fail) ?_), by repeat (first | exact List.Sublist.refl _ | exact List.nil_sublist _ | refine List.Sublist.cons_cons _ ?_ | refine List.Sublist.cons _ ?_)⟩
    · have hc5 : ¬ (k : Int) < F.length := by omega
      have hz2 : Hid (Z = false) := by show _ = _; rw [show Z = _ from hz.out, List.drop_of_length_le (by omega)]; rfl
      have hR3 : Hid (R = m ++ behG U (c.drop (j + 1))) := by
        show _ = _
        rw [show R = _ from hR2.out, show Z = _ from hz2.out, if_neg (by decide)]
      clear hz hz2 hR2
      refine go_ ?_
      exact ⟨(j + 1, U, m), ⟨hlt, by have := HU.out; simp only; omega, by have := HM.out; simp only; omega, hR3⟩, by simp only; omega, by repeat (first | exact Js _ | refine Jr (by simp [PF.get]; rfl) (by first | rfl | (simp [*]; done) | fail) ?_), by repeat (first | exact List.Sublist.refl _ | exact List.nil_sublist _ | refine List.Sublist.cons_cons _ ?_ | refine List.Sublist.cons _ ?_)⟩
  · have hc : ¬ (j : Int) < c.length := by omega
    have hf : Hid (R = m) := by rw [show R = _ from hR.out, List.drop_of_length_le (by omega)]; show _ = _; rw [behG, List.append_nil]
    refine go_ ?_
    refine Jl (by simp) (by simp only [Try.results34]; rfl) (by simp [resP, St.box?, PF.get, Jm, TyK.agg, *]; rfl) (List.nil_sublist _) ?_
    exact ⟨by rw [hf.out]; rfl, rfl⟩
end Go.Proofs.Ytfnfbbmegdkhjaa

namespace Go.Proofs.Ytfnfbbmegdkhjaa
open Go.RowKit Go.WideMaps
set_option maxRecDepth 100000
def behR : List Int → List Va → List Int
  | T, [] => T
  | T, v :: r => if T.any (fun k => sdT v.ty k) = true then behR (T ++ [v.n]) r else behR T r
theorem beh_any {t : Tm} (ht : shapedB t = true) {T U : List Int} (h : ∀ x, x ∈ T ↔ x ∈ U) : T.any (fun k => sdT t k) = (enT 8 8 t).any (fun k => decide (k ∈ U)) := by
  rw [Bool.eq_iff_iff, List.any_eq_true, List.any_eq_true]
  constructor
  · rintro ⟨x, hx, hs⟩
    exact ⟨x, (frees_sd ht x).2 hs, decide_eq_true ((h x).1 hx)⟩
  · rintro ⟨x, hx, hs⟩
    exact ⟨x, (h x).2 (of_decide_eq_true hs), (frees_sd ht x).1 hx⟩
theorem beh_eq : ∀ (c : List Va) (T U : List Int), (∀ v ∈ c, shapedB v.ty = true) → (∀ x, x ∈ T ↔ x ∈ U) → behR T c = T ++ behG U c := by
  intro c
  induction c with
  | nil => intro T U _ _; simp [behR, behG]
  | cons v r ih =>
    intro T U hs h
    rw [behR, behG, beh_any (hs v (by simp)) h]
    split
    · rw [ih (T ++ [v.n]) (v.n :: U) (fun x hx => hs x (by simp [hx])) fun x => by rw [List.mem_append, List.mem_singleton, List.mem_cons, h x]; exact or_comm]
      simp
    · exact ih T U (fun x hx => hs x (by simp [hx])) h
set_option maxHeartbeats 16000000 in
theorem rbehind_p (c : List Va) (n : Int) (hcl : c.length ≤ 100000) : PCalls Try.prog 35 [.d (.sl (c.map encD)), .d (.v (.int .i64 n))] [] fun p s => p = .d (.sl (((behR [n] c).drop 1).map encD)) ∧ s = [] := by
  obtain ⟨R, hR⟩ : ∃ R, R = behR [n] c := ⟨_, rfl⟩
  rw [← hR]
  have HR : Hid (R = behR [n] (c.drop 0)) := hR
  clear hR
  refine PCalls.enter Try.func35 rfl Try.ntmps35 (by simp) ?_
  simp only [argsF]
  refine go_ ?_
  refine POps_bsO ?_
  intro g hg
  refine go_ ?_
  refine PW_loop (ι := Nat × List Int) (fun y => y.1 ≤ c.length ∧ y.2.length ≤ y.1 + 1 ∧ 1 ≤ y.2.length ∧ Hid (R = behR y.2 (c.drop y.1))) (fun y => [(0, .d (.sl (c.map encD))), (5, .own g (y.2.map encD)), (6, .d (.v (.int .i64 (y.1 : Int))))]) (fun y => [.tok g 3 1 y.2.length]) (fun y => c.length - y.1) (0, [n]) ⟨Nat.zero_le _, Nat.le_refl _, Nat.le_refl _, HR.out⟩ ?_ ?_ ?_
  · repeat (first | exact Js _ | refine Jr (by simp [PF.get]; rfl) (by first | rfl | (simp [*]; done) | fail) ?_)
  · repeat (first | exact List.Sublist.refl _ | exact List.nil_sublist _ | refine List.Sublist.cons_cons _ ?_ | refine List.Sublist.cons _ ?_)
  rintro ⟨j, T⟩ ⟨hj, hT, hT1, hR⟩
  simp only at hj hT hT1 hR ⊢
  clear HR
  by_cases hlt : j < c.length
  · have hx := get_enc hlt
    have hc : (j : Int) < c.length := by omega
    have hn0 : (0 : Int) ≤ j := by omega
    have hin := wr64 (n := (j : Int) + 1) (by omega) (by omega)
    have hR2 : Hid (R = if T.any (fun k => sdT c[j].ty k) = true then behR (T ++ [c[j].n]) (c.drop (j + 1)) else behR T (c.drop (j + 1))) := by
      rw [show R = _ from hR.out, List.drop_eq_getElem_cons hlt]; rfl
    obtain ⟨Z, hZ⟩ : ∃ Z, Z = T.any (fun k => sdT c[j].ty k) := ⟨_, rfl⟩
    rw [← hZ] at hR2
    have HZ : Hid (Z = (false || (T.drop 0).any (fun k => sdT c[j].ty k))) := hZ
    have hTl : T.length ≤ 100001 := by omega
    have HT := Lib.hid hT
    have HT1 := Lib.hid hT1
    clear hR hZ hT hT1
    refine go_ ?_
    refine PW_loop (ι := Nat × Bool) (fun y => y.1 ≤ T.length ∧ Hid (Z = (y.2 || (T.drop y.1).any (fun k => sdT c[j].ty k)))) (fun y => [(0, .d (.sl (c.map encD))), (5, .own g (T.map encD)), (6, .d (.v (.int .i64 (j : Int)))), (7, .d (.v (.bool y.2))), (8, .d (.v (.int .i64 (y.1 : Int))))]) (fun y => [.tok g 3 1 T.length]) (fun y => T.length - y.1) (0, false) ⟨Nat.zero_le _, HZ.out⟩ ?_ ?_ ?_
    · repeat (first | exact Js _ | refine Jr (by simp [PF.get]; rfl) (by first | rfl | (simp [*]; done) | fail) ?_)
    · repeat (first | exact List.Sublist.refl _ | exact List.nil_sublist _ | refine List.Sublist.cons_cons _ ?_ | refine List.Sublist.cons _ ?_)
    rintro ⟨k, b⟩ ⟨hk, hb⟩
    simp only at hk hb ⊢
    clear HZ
    by_cases hkl : k < T.length
    · have hy := get_enc hkl
      have hc2 : (k : Int) < T.length := by omega
      have hn2 : (0 : Int) ≤ k := by omega
      have hin2 := wr64 (n := (k : Int) + 1) (by omega) (by omega)
      have hb2 : Hid (Z = (b || (sdT c[j].ty T[k] || (T.drop (k + 1)).any (fun k => sdT c[j].ty k)))) := by show _ = _; rw [show Z = _ from hb.out, List.drop_eq_getElem_cons hkl]; rfl
      have hc1 := Lib.hid (rstands_p c[j].ty T[k])
      simp only [aggD, Jk, List.map_cons, List.map_nil] at hc1
      clear hb
      generalize sdT c[j].ty T[k] = q at *
      cases b with
      | true =>
        have hb3 : Hid (Z = (true || (T.drop (k + 1)).any (fun k => sdT c[j].ty k))) := by show _ = _; rw [show Z = _ from hb2.out]; rfl
        clear hb2
        refine go_ ?_
        refine PW_drawn [(0, .a), (1, .a), (2, .a), (3, .a), (4, .a), (5, .a), (6, .a), (7, .a), (8, .a), (9, .a), (10, .a), (11, .a), (12, .a), (13, .a)] (by kernel_rfl) (by rfl) (by kernel_rfl) ?_
        refine go_ ?_
        exact ⟨(k + 1, true), ⟨hkl, hb3⟩, by simp only; omega, by repeat (first | exact Js _ | refine Jr (by simp [PF.get]; rfl) (by first | rfl | (simp [*]; done) | fail) ?_), by repeat (first | exact List.Sublist.refl _ | exact List.nil_sublist _ | refine List.Sublist.cons_cons _ ?_ | refine List.Sublist.cons _ ?_)⟩
      | false =>
        have hb3 : Hid (Z = (q || (T.drop (k + 1)).any (fun k => sdT c[j].ty k))) := by show _ = _; rw [show Z = _ from hb2.out]; rfl
        clear hb2
        refine go_ ?_
        refine PW_drawn [(0, .a), (1, .a), (2, .a), (3, .a), (4, .a), (5, .a), (6, .a), (7, .a), (8, .a), (9, .a), (10, .a), (11, .a), (12, .a), (13, .a)] (by kernel_rfl) (by rfl) (by kernel_rfl) ?_
        refine go_ ?_
        refine POrd_call_b (hc1.out) ?_
        refine go_ ?_
        exact ⟨(k + 1, q), ⟨hkl, hb3⟩, by simp only; omega, by repeat (first | exact Js _ | refine Jr (by simp [PF.get]; rfl) (by first | rfl | (simp [*]; done) | fail) ?_), by repeat (first | exact List.Sublist.refl _ | exact List.nil_sublist _ | refine List.Sublist.cons_cons _ ?_ | refine List.Sublist.cons _ ?_)⟩
    · have hc2 : ¬ (k : Int) < T.length := by omega
      have hb2 : Hid (Z = b) := by show _ = _; rw [show Z = _ from hb.out, List.drop_of_length_le (by omega)]; simp
      rw [show Z = _ from hb2.out] at hR2
      clear hb hb2
      cases b with
      | true =>
        have hR3 : Hid (R = behR (T ++ [c[j].n]) (c.drop (j + 1))) := by show _ = _; rw [show R = _ from hR2.out]; rfl
        clear hR2
        refine go_ ?_
        refine POps_bs_a ?_
        refine go_ ?_
        refine POps_app_a (T.length + 1) ?_ ?_ ?_ ?_
        · simp
        · exact rows1 _
        · exact rows_one rfl
        refine go_ ?_
        refine ⟨(j + 1, T ++ [c[j].n]), ⟨hlt, by have := HT.out; simp only [List.length_append, List.length_singleton]; omega, by simp, hR3⟩, by simp only; omega, ?_, ?_⟩
        · repeat (first | exact Js _ | refine Jr (by simp [PF.get]; rfl) (by first | rfl | (simp [Je]; done) | fail) ?_)
        · simp only [List.length_append, List.length_singleton]
          repeat (first | exact List.Sublist.refl _ | exact List.nil_sublist _ | refine List.Sublist.cons_cons _ ?_ | refine List.Sublist.cons _ ?_)
      | false =>
        have hR3 : Hid (R = behR T (c.drop (j + 1))) := by show _ = _; rw [show R = _ from hR2.out, if_neg (by decide)]
        clear hR2
        refine go_ ?_
        exact ⟨(j + 1, T), ⟨hlt, by have := HT.out; simp only; omega, HT1.out, hR3⟩, by simp only; omega, by repeat (first | exact Js _ | refine Jr (by simp [PF.get]; rfl) (by first | rfl | (simp [*]; done) | fail) ?_), by repeat (first | exact List.Sublist.refl _ | exact List.nil_sublist _ | refine List.Sublist.cons_cons _ ?_ | refine List.Sublist.cons _ ?_)⟩
  · have hc : ¬ (j : Int) < c.length := by omega
    have hf : Hid (R = T) := by rw [show R = _ from hR.out, List.drop_of_length_le (by omega)]; rfl
    have HS : Hid (List.drop 1 (List.take T.length (T.map encD)) = (T.drop 1).map encD) := by
      show _ = _
      rw [List.take_of_length_le (by rw [List.length_map]; exact Nat.le_refl _), List.map_drop]
    clear hR
    refine go_ ?_
    refine POps_slice 1 T.length ?_ (by decide) (by first | (simp [nev, nevA, nevB, Jo, PF.eval, PF.get, PF.wants, cPV, cCell, PV.rows, evBin, evUn, Jp, evLen, loadA, Jm, TyK.agg, partA, St.box?, St.tok?, St.setBox, St.setTok, fillO, spl, PV.ps, PV.one, Jn, aggD, slD, Jg, Jj, Jh, Ji, Jf, Je, *]; done) | fail) (by simp; rfl) (by rfl) (by decide) (by simp [nev, nevA, nevB, Jo, PF.eval, PF.get, PF.wants, cPV, cCell, PV.rows, evBin, evUn, Jp, evLen, loadA, Jm, TyK.agg, partA, St.box?, St.tok?, St.setBox, St.setTok, fillO, spl, PV.ps, PV.one, Jn, aggD, slD, Jg, Jj, Jh, Ji, Jf, Je, *]; rfl) (by simp [PV.rows]; rfl) (by first | rfl | (simp [lowOf, PF.eval, PF.get, cPV, cCell, *]; done) | fail) (by first | rfl | (simp [highOf, PF.eval, PF.get, cPV, cCell, *]; done) | fail) (by first | omega | (simp; done) | (simp; omega)) (by first | omega | (simp; done) | (simp; omega)) ?_
    rotate_left
    · exact rows1 _
    rw [HS.out]
    refine go_ ?_
    refine Jl (by simp) (by simp only [Try.results35]; rfl) (by simp [resP, St.box?, PF.get, Jm, TyK.agg, *]; rfl) (List.nil_sublist _) ?_
    exact ⟨by rw [hf.out]; simp [tupP, PV.norm2, PV.norm1, PV.norm0], rfl⟩
theorem ceqL_refl : ∀ (a : List Tm), ceqL a a = true := by
  intro a
  induction a with
  | nil => rfl
  | cons x a ih => simp only [ceqL, ceq_refl, ih, Bool.and_self]
theorem fnd_pl (n : Int) : ∀ (c : List Va) (i : Nat), (plF n c i = none → fndV n c = none) ∧ (∀ k, plF n c i = some k → ∃ v, c[k - i]? = some v ∧ i ≤ k ∧ fndV n c = some v) := by
  intro c
  induction c with
  | nil => intro i; exact ⟨fun _ => rfl, fun k h => by cases h⟩
  | cons x r ih =>
    intro i
    rw [plF, fndV]
    split
    · exact ⟨fun h => by (cases h), fun k h => by
        obtain rfl := Option.some.inj h
        exact ⟨x, by rw [Nat.sub_self]; rfl, Nat.le_refl _, rfl⟩⟩
    · obtain ⟨h1, h2⟩ := ih (i + 1)
      refine ⟨h1, fun k h => ?_⟩
      obtain ⟨v, h3, h4, h5⟩ := h2 k h
      refine ⟨v, ?_, by omega, h5⟩
      rw [show k - i = (k - (i + 1)) + 1 by omega]
      exact h3
set_option maxHeartbeats 16000000 in
theorem rights_p (c : List Va) (n : Int) (hw : ∀ e ∈ c, iw e.n) (hn : iw n) : PCalls Try.prog 5 [.d (.sl (c.map encD)), .d (.v (.int .i64 n))] [] fun p s => p = .d (.v (.bool true)) ∧ s = [] := by
  have hA := Lib.hid awake22_p
  have hL1 := Lib.hid (law22light_p c)
  cases h1 : lightB c with
  | false =>
    rw [h1] at hL1
    refine PCalls.enter Try.func5 rfl Try.ntmps5 (by simp) ?_
    simp only [argsF]
    refine go_ ?_
    refine Jb (hL1.out) ?_
    refine go_ ?_
    refine Jb (hA.out) ?_
    refine go_ ?_
    refine Jl (by simp) (by simp only [Try.results5]; rfl) (by simp [resP, St.box?, PF.get, Jm, TyK.agg, *]; rfl) (List.nil_sublist _) ?_
    exact ⟨rfl, rfl⟩
  | true =>
  rw [h1] at hL1
  have hcl : c.length ≤ 100000 := by have := (light_ok h1).1; omega
  have hof := Lib.hid (law22of_p c hcl)
  have hR1 := Lib.hid (fright_p c hcl)
  have hR2 := Lib.hid (rright22_p c)
  generalize rightV c = q at *
  have hN1 := Lib.hid (fnumbers_p c hcl)
  have hN2 := Lib.hid (rfnumbers_p c hcl)
  have hSI := Lib.hid (rsameints_p (c.map Va.n) (c.map Va.n))
  rw [decide_eq_true rfl] at hSI
  have hT1 := Lib.hid (fterms_p c hcl)
  have hT2 := Lib.hid (rfrees13_p (c.map Va.n) (by rw [List.length_map]; exact hcl))
  have hfe : (c.map Va.n).map frN = c.map (fun v => frN v.n) := by rw [List.map_map]; rfl
  rw [hfe] at hT2
  have hSA := Lib.hid (rsameall_p (c.map (fun v => frN v.n)) (c.map (fun v => frN v.n)))
  rw [ceqL_refl] at hSA
  have hS := Lib.hid (law22shaped_p c)
  clear hfe
  generalize c.map Va.n = ns at *
  generalize c.map (fun v => frN v.n) = ts at *
  cases h2 : shV c with
  | false =>
    rw [h2] at hS
    have hqq : (q != q) = false := by cases q <;> rfl
    clear h1 hw hn hcl h2
    refine PCalls.enter Try.func5 rfl Try.ntmps5 (by simp) ?_
    simp only [argsF]
    refine go_ ?_
    refine Jb (hL1.out) ?_
    refine go_ ?_
    refine Jb (hof.out) ?_
    refine go_ ?_
    refine Jb (hR1.out) ?_
    refine go_ ?_
    refine Jb (hR2.out) ?_
    refine go_ ?_
    refine Jq (hN1.out) ?_
    refine go_ ?_
    refine Jq (hN2.out) ?_
    refine go_ ?_
    refine Jq (hSI.out) ?_
    refine go_ ?_
    refine Jq (hT1.out) ?_
    refine go_ ?_
    refine Jq (hN2.out) ?_
    refine go_ ?_
    refine Jq (hT2.out) ?_
    refine go_ ?_
    refine Jq (hSA.out) ?_
    refine go_ ?_
    refine Jb (hS.out) ?_
    refine go_ ?_
    refine Jb (hA.out) ?_
    refine go_ ?_
    refine Jl (by simp) (by simp only [Try.results5]; rfl) (by simp [resP, St.box?, PF.get, Jm, TyK.agg, *]; rfl) (List.nil_sublist _) ?_
    exact ⟨rfl, rfl⟩
  | true =>
  rw [h2] at hS
  have hqq : (q != q) = false := by cases q <;> rfl
  have hB1 := Lib.hid (fbehind_p c n hn hcl hw)
  have hB2 := Lib.hid (rbehind_p c n hcl)
  rw [beh_eq c [n] [n] (sh_mem h2) fun x => Iff.rfl, List.singleton_append, List.drop_succ_cons, List.drop_zero] at hB2
  have hSB := Lib.hid (rsameints_p (behG [n] c) (behG [n] c))
  rw [decide_eq_true rfl] at hSB
  generalize behG [n] c = bh at *
  have hF := Lib.hid (ffind_p c n)
  have hP := Lib.hid (rplace22_p c n)
  obtain ⟨hp1, hp2⟩ := fnd_pl n c 0
  cases hpl : plF n c 0 with
  | none =>
    rw [hp1 hpl] at hF
    rw [hpl] at hP
    unfold fndP at hF
    simp only [aggD, Jk, List.map_cons, List.map_nil, Ju, Jv, Jw, plI] at hF hP
    clear h1 hw hn hcl h2 hp1 hp2 hpl
    refine PCalls.enter Try.func5 rfl Try.ntmps5 (by simp) ?_
    simp only [argsF]
    refine go_ ?_
    refine Jb (hL1.out) ?_
    refine go_ ?_
    refine Jb (hof.out) ?_
    refine go_ ?_
    refine Jb (hR1.out) ?_
    refine go_ ?_
    refine Jb (hR2.out) ?_
    refine go_ ?_
    refine Jq (hN1.out) ?_
    refine go_ ?_
    refine Jq (hN2.out) ?_
    refine go_ ?_
    refine Jq (hSI.out) ?_
    refine go_ ?_
    refine Jq (hT1.out) ?_
    refine go_ ?_
    refine Jq (hN2.out) ?_
    refine go_ ?_
    refine Jq (hT2.out) ?_
    refine go_ ?_
    refine Jq (hSA.out) ?_
    refine go_ ?_
    refine Jb (hS.out) ?_
    refine go_ ?_
    refine Jb (hF.out) ?_
    refine go_ ?_
    refine Jd ?_
    intro i6 hi6
    try simp only [Rh, Rg, Rf, Ja] at hi6
    refine go_ ?_
    refine Rc ?_
    refine go_ ?_
    refine Jb (hP.out) ?_
    refine go_ ?_
    refine PW_drawn [(0, .a), (1, .a), (2, .a), (3, .a), (4, .a), (5, .a), (6, .a), (7, .a), (8, .a), (9, .a), (10, .a), (11, .a), (12, .a), (13, .b), (14, .a), (15, .a), (16, .a), (17, .a), (18, .a), (19, .a), (20, .a), (21, .a), (22, .a), (23, .a)] (by kernel_rfl) (by rfl) (by kernel_rfl) ?_
    refine go_ ?_
    refine Jb (hB1.out) ?_
    refine go_ ?_
    refine Jb (hB2.out) ?_
    refine go_ ?_
    refine Jb (hSB.out) ?_
    refine go_ ?_
    refine Jq (hA.out) ?_
    refine go_ ?_
    refine Jl (by simp) (by simp only [Try.results5]; rfl) (by simp [resP, St.box?, PF.get, Jm, TyK.agg, *]; rfl) (List.nil_sublist _) ?_
    exact ⟨rfl, rfl⟩
  | some k =>
    obtain ⟨v, hv, -, hfv⟩ := hp2 k hpl
    rw [Nat.sub_zero] at hv
    rw [hfv] at hF
    rw [hpl] at hP
    simp only [fndP] at hF
    have hvs := sh_mem h2 v (List.mem_of_getElem? hv)
    rw [copy_shaped hvs] at hF
    have hE := Lib.hid (requal_p v.ty v.ty)
    rw [ceq_refl] at hE
    simp only [aggD, Jk, List.map_cons, List.map_nil, plI] at hF hP hE
    have hx : (c.map encD)[k]? = some (encD v) := by rw [List.getElem?_map, hv]; rfl
    have hk1 : (0 : Int) ≤ (k : Int) := by omega
    have hk0 : ¬ ((k : Int) < 0) := by omega
    have hk2 : (k : Int) < (c.length : Int) := by have := (List.getElem?_eq_some_iff.1 hv).1; omega
    clear h1 hw hn hcl h2 hp1 hp2 hpl hfv hvs hv
    refine PCalls.enter Try.func5 rfl Try.ntmps5 (by simp) ?_
    simp only [argsF]
    refine go_ ?_
    refine Jb (hL1.out) ?_
    refine go_ ?_
    refine Jb (hof.out) ?_
    refine go_ ?_
    refine Jb (hR1.out) ?_
    refine go_ ?_
    refine Jb (hR2.out) ?_
    refine go_ ?_
    refine Jq (hN1.out) ?_
    refine go_ ?_
    refine Jq (hN2.out) ?_
    refine go_ ?_
    refine Jq (hSI.out) ?_
    refine go_ ?_
    refine Jq (hT1.out) ?_
    refine go_ ?_
    refine Jq (hN2.out) ?_
    refine go_ ?_
    refine Jq (hT2.out) ?_
    refine go_ ?_
    refine Jq (hSA.out) ?_
    refine go_ ?_
    refine Jb (hS.out) ?_
    refine go_ ?_
    refine Jb (hF.out) ?_
    refine go_ ?_
    refine Jd ?_
    intro i6 hi6
    try simp only [Rh, Rg, Rf, Ja] at hi6
    refine go_ ?_
    refine Rc ?_
    refine go_ ?_
    refine Jb (hP.out) ?_
    refine go_ ?_
    refine PW_drawn [(0, .a), (1, .a), (2, .a), (3, .a), (4, .a), (5, .a), (6, .a), (7, .a), (8, .a), (9, .a), (10, .a), (11, .a), (12, .a), (13, .b), (14, .a), (15, .a), (16, .a), (17, .a), (18, .a), (19, .a), (20, .a), (21, .a), (22, .a), (23, .a)] (by kernel_rfl) (by rfl) (by kernel_rfl) ?_
    refine go_ ?_
    refine POrd_call_b (hE.out) ?_
    refine go_ ?_
    refine Jb (hB1.out) ?_
    refine go_ ?_
    refine Jb (hB2.out) ?_
    refine go_ ?_
    refine Jb (hSB.out) ?_
    refine go_ ?_
    refine Jq (hA.out) ?_
    refine go_ ?_
    refine Jl (by simp) (by simp only [Try.results5]; rfl) (by simp [resP, St.box?, PF.get, Jm, TyK.agg, *]; rfl) (List.nil_sublist _) ?_
    exact ⟨rfl, rfl⟩
end Go.Proofs.Ytfnfbbmegdkhjaa

namespace Go.Proofs.Ytfnfbbmegdkhjaa
open Go.RowKit
set_option maxRecDepth 100000
theorem tvar_p (n : Int) : PCalls Try.prog 126 [.d (.v (.int .i64 n))] [] fun p s => p = aggD (Tm.mk 1 n []) ∧ s = [] := by
  have hc := Lib.hid (tnode_p 1 n [])
  simp only [aggD, Jk, List.map_cons, List.map_nil, Ju, Jv, Jw] at hc ⊢
  refine PCalls.enter Try.func126 rfl Try.ntmps126 (by simp) ?_
  simp only [argsF]
  refine go_ ?_
  refine Jd ?_
  intro i0 hi0
  refine go_ ?_
  refine Jb (hc.out) ?_
  refine go_ ?_
  refine Rc ?_
  refine go_ ?_
  refine Jl (by simp) (by simp only [Try.results126]; rfl) (by simp [resP, St.box?, PF.get, Jm, TyK.agg, *]; rfl) (List.nil_sublist _) ?_
  exact ⟨by simp [tupP, PV.norm2, PV.norm1, PV.norm0], rfl⟩
theorem lfits_p (n : Int) : PCalls Try.prog 184 [.d (.v (.int .i64 n))] [] fun p s => p = .d (.v (.bool (fitsB n))) ∧ s = [] := by
  unfold fitsB
  by_cases h0 : 0 ≤ n
  · by_cases h1 : n ≤ 1048576
    · rw [decide_eq_true h0, decide_eq_true h1]
      refine PCalls.enter Try.func184 rfl Try.ntmps184 (by simp) ?_
      simp only [argsF]
      refine go_ ?_
      refine Jl (by simp) (by simp only [Try.results184]; rfl) (by simp [resP, St.box?, PF.get, Jm, TyK.agg, *]; rfl) (List.nil_sublist _) ?_
      exact ⟨rfl, rfl⟩
    · rw [decide_eq_true h0, decide_eq_false h1]
      refine PCalls.enter Try.func184 rfl Try.ntmps184 (by simp) ?_
      simp only [argsF]
      refine go_ ?_
      refine Jl (by simp) (by simp only [Try.results184]; rfl) (by simp [resP, St.box?, PF.get, Jm, TyK.agg, *]; rfl) (List.nil_sublist _) ?_
      exact ⟨rfl, rfl⟩
  · rw [decide_eq_false h0, Bool.false_and]
    refine PCalls.enter Try.func184 rfl Try.ntmps184 (by simp) ?_
    simp only [argsF]
    refine go_ ?_
    refine Jl (by simp) (by simp only [Try.results184]; rfl) (by simp [resP, St.box?, PF.get, Jm, TyK.agg, *]; rfl) (List.nil_sublist _) ?_
    exact ⟨rfl, rfl⟩
theorem good_len {k n : Int} {sub : List Tm} (h : goodB (.mk k n sub) = true) : sub.length ≤ 2 := by
  have h1 := (head_num (good_parts h).1).2.2.2.2
  unfold subsOf at h1
  (repeat' split at h1) <;> omega
theorem chg_mem {k n : Int} {sub : List Tm} {s : Tm} (h : s ∈ sub) : chgT s + 1 ≤ chgT (.mk k n sub) := by
  have := hgL_mem s h
  simp only [chgT]; omega
theorem moveL_step {k : Int} {sub : List Tm} {j : Nat} {d m : Int} (h : j < sub.length) : moveL k (sub.drop j) j d m = moveT sub[j] d (m + benB k j) :: moveL k (sub.drop (j + 1)) (j + 1) d m := by
  rw [List.drop_eq_getElem_cons h]; simp only [moveL]
theorem ben_no {k : Int} {j : Nat} (h : ¬ ((j : Int) = 1 ∧ k ≠ 5)) : benB k j = 0 := by unfold benB; rw [if_neg h]
theorem ben_yes {k : Int} {j : Nat} (h : (j : Int) = 1 ∧ k ≠ 5) : benB k j = 1 := by unfold benB; rw [if_pos h]
set_option maxHeartbeats 16000000 in
theorem lwalk_p (f : FuncId) (cap : List PV) (X : St) (n0 d : Int) (hca : callable Try.prog f = true) (hcap : cap.map PV.norm1 = cap) (h0 : 0 ≤ n0) (h1 : n0 ≤ 1048576) (hd0 : 0 ≤ d) (hd1 : d ≤ 1048576)
    (hof : ∀ m : Int, 0 ≤ m → m ≤ 2000000 → PCalls Try.prog f (.d (.v (.int .i64 m)) :: cap) X fun p s => p = .d (.v (.int .i64 (if m < n0 then m else m + d))) ∧ s = X) :
    ∀ (t : Tm) (b : Int), goodB t = true → 0 ≤ b → b + chgT t ≤ 1000 → PCalls Try.prog 185 [aggD t, .d (.v (.int .i64 b)), .fn (.func f) [] cap] X fun p s => p = aggD (moveT t d (n0 + b)) ∧ s = X := by
  have HCA := Lib.hid hca
  have HCP := Lib.hid hcap
  have HOF := Lib.hid hof
  clear hca hcap hof
  refine Tm.ind ?_
  intro k n sub ih b hg hb hbh
  have IH := Lib.hid ih
  have hnm := head_num (good_parts hg).1
  have HG := Lib.hid (good_parts hg).2
  have hsl := good_len hg
  clear ih
  by_cases hk1 : k = 1
  · subst hk1
    obtain rfl := good_1 hg
    simp only [moveT, if_true]
    by_cases hnb : b ≤ n
    · have hc1 := Lib.hid (HOF.out (n - b) (by omega) (by omega))
      have hw1 := wr64 (n := n - b) (by omega) (by omega)
      have hw2 : IntKind.i64.wrap ((if n - b < n0 then n - b else n - b + d) + b) = (if n < n0 + b then n else n + d) := by
        split <;> split <;> (try omega) <;> rw [wr64 (by omega) (by omega)] <;> omega
      have e1 : (if n < n0 + b then Tm.mk 1 n [] else Tm.mk 1 (n + d) []) = Tm.mk 1 (if n < n0 + b then n else n + d) [] := by split <;> rfl
      rw [e1]
      have hc2 := Lib.hid (tvar_p (if n < n0 + b then n else n + d))
      simp only [aggD, Jk, List.map_cons, List.map_nil, Ju, Jv, Jw] at hc2 ⊢
      clear e1 HG IH hg hbh
      generalize (if n - b < n0 then n - b else n - b + d) = z at *
      generalize (if n < n0 + b then n else n + d) = y at *
      refine PCalls.enter Try.func185 rfl Try.ntmps185 (by simp) ?_
      simp only [argsF]
      refine go_ ?_
      refine Jc ?_
      intro i3 hi3
      try simp only [Rh, Rg, Rf, Ja] at hi3
      refine go_ ?_
      refine Jd ?_
      intro i6 hi6
      try simp only [Rh, Rg, Rf, Ja] at hi6
      refine go_ ?_
      refine POps_callC 2 X.length hc1.out (L := [.box i6 28 [.d (.v (.int .i64 0)), .d (.v (.int .i64 0)), .nils], .box i3 28 [.d (.v (.int .i64 1)), .d (.v (.int .i64 n)), .d (.sl [])]]) (M := []) ?_ HCA.out (hL := rfl) (h0 := by simp) (hM := by simp) (hn := by simp [PV.norm1, PV.norm0, HCP.out])
      rintro p s ⟨rfl, rfl⟩
      simp only [List.cons_append, List.nil_append, List.append_nil]
      refine go_ ?_
      refine Jb (hc2.out) ?_
      refine go_ ?_
      refine Rc ?_
      refine go_ ?_
      refine Jl (st' := s) (by simp) (by simp only [Try.results185]; rfl) (by simp [resP, St.box?, PF.get, Jm, TyK.agg, *]; rfl) (by repeat (first | exact List.Sublist.refl _ | exact List.nil_sublist _ | refine List.Sublist.cons_cons _ ?_ | refine List.Sublist.cons _ ?_)) ?_
      exact ⟨by simp [tupP, PV.norm2, PV.norm1, PV.norm0], rfl⟩
    · have hc2 := Lib.hid (tvar_p n)
      have hlt : n < n0 + b := by omega
      rw [if_pos hlt]
      simp only [aggD, Jk, List.map_cons, List.map_nil, Ju, Jv, Jw] at hc2 ⊢
      clear HG IH hg hbh hlt
      refine PCalls.enter Try.func185 rfl Try.ntmps185 (by simp) ?_
      simp only [argsF]
      refine go_ ?_
      refine Jc ?_
      intro i3 hi3
      try simp only [Rh, Rg, Rf, Ja] at hi3
      refine go_ ?_
      refine Jd ?_
      intro i6 hi6
      try simp only [Rh, Rg, Rf, Ja] at hi6
      refine go_ ?_
      refine Jb (hc2.out) ?_
      refine go_ ?_
      refine Rc ?_
      refine go_ ?_
      refine Jl (st' := X) (by simp) (by simp only [Try.results185]; rfl) (by simp [resP, St.box?, PF.get, Jm, TyK.agg, *]; rfl) (by repeat (first | exact List.Sublist.refl _ | exact List.nil_sublist _ | refine List.Sublist.cons_cons _ ?_ | refine List.Sublist.cons _ ?_)) ?_
      exact ⟨by simp [tupP, PV.norm2, PV.norm1, PV.norm0], rfl⟩
  · obtain ⟨R, hR⟩ : ∃ R, R = moveL k sub 0 d (n0 + b) := ⟨_, rfl⟩
    have hmv : moveT (.mk k n sub) d (n0 + b) = .mk k n R := by simp only [moveT]; rw [if_neg hk1, hR]
    rw [hmv]
    have HR : Hid (R = [] ++ moveL k (sub.drop 0) 0 d (n0 + b)) := hR
    have hkb : (k == 1) = false := by rw [beq_eq_false_iff_ne]; exact hk1
    have HH := Lib.hid (fun (s : Tm) (hs : s ∈ sub) => chg_mem (k := k) (n := n) hs)
    have HBH := Lib.hid hbh
    simp only [aggD, Jk, List.map_cons, List.map_nil, Ju, Jv, Jw]
    clear hR hmv hg hbh hnm hk1
    refine PCalls.enter Try.func185 rfl Try.ntmps185 (by simp) ?_
    simp only [argsF]
    refine go_ ?_
    refine Jc ?_
    intro i3 hi3
    try simp only [Rh, Rg, Rf, Ja] at hi3
    refine go_ ?_
    refine Jd ?_
    intro i6 hi6
    try simp only [Rh, Rg, Rf, Ja] at hi6
    refine go_ ?_
    refine Jd ?_
    intro i7 hi7
    try simp only [Rh, Rg, Rf, Ja] at hi7
    refine go_ ?_
    refine Rc ?_
    refine go_ ?_
    refine PW_ownB i7 2 28 3    (by simp [nev, nevA, nevB, Jo, PF.eval, PF.get, PF.wants, cPV, cCell, PV.rows, evBin, evUn, Jp, evLen, loadA, Jm, TyK.agg, partA, St.box?, St.tok?, St.setBox, St.setTok, fillO, spl, PV.ps, PV.one, Jn, aggD, slD, Jg, Jj, Jh, Ji, Jf, Je, *]; rfl) (by rfl) (by rfl) (by intro g; simp [St.setBox, *]; rfl) (by decide) ?_
    intro g hg
    refine PW_loop (ι := Nat × List Tm) (fun y => y.1 ≤ sub.length ∧ y.2.length ≤ y.1 ∧ Hid (R = y.2 ++ moveL k (sub.drop y.1) y.1 d (n0 + b))) (fun y => [(1, .d (.v (.int .i64 b))), (2, .fn (.func f) [] cap), (3, .ptr i3 0), (6, .ptr i6 0), (7, .ptr i7 0), (36, .d (.sl (sub.map encD))), (37, .d (.v (.int .i64 sub.length))), (38, .d (.v (.int .i64 (y.1 : Int))))]) (fun y => .tok g 28 3 y.2.length :: .box i7 28 [.d (.v (.int .i64 k)), .d (.v (.int .i64 n)), .own g (y.2.map encD)] :: .box i6 28 [.d (.v (.int .i64 0)), .d (.v (.int .i64 0)), .nils] :: .box i3 28 [.d (.v (.int .i64 k)), .d (.v (.int .i64 n)), .d (.sl (sub.map encD))] :: X) (fun y => sub.length - y.1) (0, []) ⟨Nat.zero_le _, Nat.le_refl _, HR.out⟩ ?_ ?_ ?_
    · repeat (first | exact Js _ | refine Jr (by simp [PF.get]; rfl) (by first | rfl | (simp [*]; done) | fail) ?_)
    · repeat (first | exact List.Sublist.refl _ | exact List.nil_sublist _ | refine List.Sublist.cons_cons _ ?_ | refine List.Sublist.cons _ ?_)
    rintro ⟨j, o⟩ ⟨hj, ho, hR⟩
    simp only at hj ho hR ⊢
    clear HR
    by_cases hlt : j < sub.length
    · have hx := get_enc hlt
      have hc : (j : Int) < sub.length := by omega
      have hn0 : (0 : Int) ≤ j := by omega
      have hin := wr64 (n := (j : Int) + 1) (by omega) (by omega)
      have hR2 := hR.out
      rw [moveL_step hlt] at hR2
      have hmem := List.getElem_mem hlt
      have hol : o.length ≤ 100 := by omega
      have HO := Lib.hid ho
      clear hR ho
      by_cases hj1 : (j : Int) = 1
      · have hjb : ((j : Int) == 1) = true := by rw [beq_iff_eq]; exact hj1
        by_cases hk5 : k = 5
        · have hk5b : (k != 5) = false := by rw [hk5]; rfl
          have hbe := ben_no (k := k) (j := j) (fun h => h.2 hk5)
          have hc1 := IH.out _ hmem (b) (HG.out _ hmem) (by omega) (by have := HH.out _ hmem; have := HBH.out; omega)
          have hM : n0 + b + benB k j = n0 + (b) := by rw [hbe]; omega
          rw [hM] at hR2
          simp only [aggD, Jk, List.map_cons, List.map_nil] at hc1
          have HC1 := Lib.hid hc1
          have hR3 : Hid (R = (o ++ [moveT sub[j] d (n0 + (b))]) ++ moveL k (sub.drop (j + 1)) (j + 1) d (n0 + b)) := by show _ = _; rw [hR2, List.append_assoc]; rfl
          clear hR2 hc1 hM hbe hmem hj1 hk5
          generalize moveT sub[j] d (n0 + (b)) = y at *
          refine go_ ?_
          refine Jd ?_
          intro i9 hi9
          try simp only [Rh, Rg, Rf, Ja] at hi9
          refine go_ ?_
          refine Rc ?_
          refine go_ ?_
          refine PW_drawnL (J := keepJ [(i7, _), (i9, _)]) [(0, .a), (1, .a), (2, .a), (3, .a), (4, .a), (5, .e), (6, .a), (7, .e), (8, .a), (9, .e)] (by kernel_rfl) (by rfl) (by kernel_rfl) (by (repeat (first | exact keepJ_nil _ | refine Jt (by simp [St.box?, *] <;> rfl) ?_))) ?_
          repeat (first | with_reducible refine PL_nil ?_ | refine PL_gn2 ?_ | refine PL_s2 ?_ | refine PL_b2 ?_)
          refine PL_callX 5 X.length HC1.out (L := [.box i9 28 [.d (.v (.int .i64 sub[j].kind)), .d (.v (.int .i64 sub[j].num)), .d (.sl (sub[j].sub.map encD))], .tok g 28 3 o.length, .box i7 28 [.d (.v (.int .i64 k)), .d (.v (.int .i64 n)), .own g (o.map encD)], .box i6 28 [.d (.v (.int .i64 0)), .d (.v (.int .i64 0)), .nils], .box i3 28 [.d (.v (.int .i64 k)), .d (.v (.int .i64 n)), .d (.sl (sub.map encD))]]) (M := []) ?_ (hL := rfl) (h0 := by simp) (hM := by simp)
          rintro p s ⟨rfl, rfl⟩
          simp only [List.cons_append, List.nil_append, List.append_nil]
          refine ⟨.inr (by (repeat (first | exact keepJ_nil _ | refine Jt (by simp [St.box?, *] <;> rfl) ?_))), ?_⟩
          repeat (first | with_reducible refine PL_nil ?_ | refine PL_gn2 ?_ | refine PL_s2 ?_ | refine PL_b2 ?_)
          refine PL_bs ?_ rfl (by decide) rfl (by simp; rfl) (by rfl) (by simp; rfl) (by rfl) (by decide) (by decide) (by simp [nev, nevA, nevB, Jo, PF.eval, PF.get, PF.wants, cPV, cCell, PV.rows, evBin, evUn, Jp, evLen, loadA, Jm, TyK.agg, partA, St.box?, St.tok?, St.setBox, St.setTok, fillO, spl, PV.ps, PV.one, Jn, aggD, slD, Jg, Jj, Jh, Ji, Jf, Je, *]; rfl) (by simp [rowsOf, toDs, PV.toD]; rfl)
          refine PL_app (o.length + 1) ?_ ?_ ?_ ?_ ?_
          rotate_left
          · exact rows3 _
          · exact rows_one rfl
          · simp
          · exact .inr (by (repeat (first | exact keepJ_nil _ | refine Jt (by simp [St.box?, *] <;> rfl) ?_)))
          repeat (first | with_reducible refine PL_nil ?_ | refine PL_gn2 ?_ | refine PL_s2 ?_ | refine PL_b2 ?_)
          refine PL_store rfl rfl (by simp [nev, nevA, nevB, Jo, PF.eval, PF.get, PF.wants, cPV, cCell, PV.rows, evBin, evUn, Jp, evLen, loadA, Jm, TyK.agg, partA, St.box?, St.tok?, St.setBox, St.setTok, fillO, spl, PV.ps, PV.one, Jn, aggD, slD, Jg, Jj, Jh, Ji, Jf, Je, *]; rfl) (by rfl) (by simp [nev, nevA, nevB, Jo, PF.eval, PF.get, PF.wants, cPV, cCell, PV.rows, evBin, evUn, Jp, evLen, loadA, Jm, TyK.agg, partA, St.box?, St.tok?, St.setBox, St.setTok, fillO, spl, PV.ps, PV.one, Jn, aggD, slD, Jg, Jj, Jh, Ji, Jf, Je, *]; rfl) (by simp [PV.ps, aggD, slD, Jg, Jj, Jh, Ji, Jf, Je]; rfl) (by first | rfl | (simp [*]; done) | (simp [PV.one, *]; done) | fail) (by simp; rfl) (by first | (simp; done) | fail) (by simp [nev, nevA, nevB, Jo, PF.eval, PF.get, PF.wants, cPV, cCell, PV.rows, evBin, evUn, Jp, evLen, loadA, Jm, TyK.agg, partA, St.box?, St.tok?, St.setBox, St.setTok, fillO, spl, PV.ps, PV.one, Jn, aggD, slD, Jg, Jj, Jh, Ji, Jf, Je, *]; rfl) (by rfl) (by first | (simp; done) | fail) (by simp [St.setBox, spl, *]; rfl) (by first | exact .inl (by decide +kernel) | exact .inr (by (repeat (first | exact keepJ_nil _ | refine Jt (by simp [St.box?, *] <;> rfl) ?_)))) ?_
          repeat (first | with_reducible refine PL_nil ?_ | refine PL_gn2 ?_ | refine PL_s2 ?_ | refine PL_b2 ?_)
          refine go_ ?_
          refine ⟨(j + 1, o ++ [y]), ⟨hlt, by have := HO.out; simp only [List.length_append, List.length_singleton]; omega, hR3⟩, by simp only; omega, by repeat (first | exact Js _ | refine Jr (by simp [PF.get]; rfl) (by first | rfl | (simp [*]; done) | fail) ?_), ?_⟩
          simp only [List.length_append, List.length_singleton, List.map_append, List.map_cons, List.map_nil, Jk y]
          repeat (first | exact List.Sublist.refl _ | exact List.nil_sublist _ | refine List.Sublist.cons_cons _ ?_ | refine List.Sublist.cons _ ?_)
        · have hk5b : (k != 5) = true := by rw [bne_iff_ne]; exact hk5
          have hbe := ben_yes (k := k) (j := j) ⟨hj1, hk5⟩
          have hc1 := IH.out _ hmem (b + 1) (HG.out _ hmem) (by omega) (by have := HH.out _ hmem; have := HBH.out; omega)
          have hM : n0 + b + benB k j = n0 + (b + 1) := by rw [hbe]; omega
          rw [hM] at hR2
          simp only [aggD, Jk, List.map_cons, List.map_nil] at hc1
          have HC1 := Lib.hid hc1
          have hwb := wr64 (n := b + 1) (by omega) (by have := HBH.out; omega)
          have hR3 : Hid (R = (o ++ [moveT sub[j] d (n0 + (b + 1))]) ++ moveL k (sub.drop (j + 1)) (j + 1) d (n0 + b)) := by show _ = _; rw [hR2, List.append_assoc]; rfl
          clear hR2 hc1 hM hbe hmem hj1 hk5
          generalize moveT sub[j] d (n0 + (b + 1)) = y at *
          refine go_ ?_
          refine Jd ?_
          intro i9 hi9
          try simp only [Rh, Rg, Rf, Ja] at hi9
          refine go_ ?_
          refine Rc ?_
          refine go_ ?_
          refine PW_drawnL (J := keepJ [(i7, _), (i9, _)]) [(0, .a), (1, .a), (2, .a), (3, .a), (4, .a), (5, .e), (6, .a), (7, .e), (8, .a), (9, .e)] (by kernel_rfl) (by rfl) (by kernel_rfl) (by (repeat (first | exact keepJ_nil _ | refine Jt (by simp [St.box?, *] <;> rfl) ?_))) ?_
          repeat (first | with_reducible refine PL_nil ?_ | refine PL_gn2 ?_ | refine PL_s2 ?_ | refine PL_b2 ?_)
          refine PL_callX 5 X.length HC1.out (L := [.box i9 28 [.d (.v (.int .i64 sub[j].kind)), .d (.v (.int .i64 sub[j].num)), .d (.sl (sub[j].sub.map encD))], .tok g 28 3 o.length, .box i7 28 [.d (.v (.int .i64 k)), .d (.v (.int .i64 n)), .own g (o.map encD)], .box i6 28 [.d (.v (.int .i64 0)), .d (.v (.int .i64 0)), .nils], .box i3 28 [.d (.v (.int .i64 k)), .d (.v (.int .i64 n)), .d (.sl (sub.map encD))]]) (M := []) ?_ (hL := rfl) (h0 := by simp) (hM := by simp)
          rintro p s ⟨rfl, rfl⟩
          simp only [List.cons_append, List.nil_append, List.append_nil]
          refine ⟨.inr (by (repeat (first | exact keepJ_nil _ | refine Jt (by simp [St.box?, *] <;> rfl) ?_))), ?_⟩
          repeat (first | with_reducible refine PL_nil ?_ | refine PL_gn2 ?_ | refine PL_s2 ?_ | refine PL_b2 ?_)
          refine PL_bs ?_ rfl (by decide) rfl (by simp; rfl) (by rfl) (by simp; rfl) (by rfl) (by decide) (by decide) (by simp [nev, nevA, nevB, Jo, PF.eval, PF.get, PF.wants, cPV, cCell, PV.rows, evBin, evUn, Jp, evLen, loadA, Jm, TyK.agg, partA, St.box?, St.tok?, St.setBox, St.setTok, fillO, spl, PV.ps, PV.one, Jn, aggD, slD, Jg, Jj, Jh, Ji, Jf, Je, *]; rfl) (by simp [rowsOf, toDs, PV.toD]; rfl)
          refine PL_app (o.length + 1) ?_ ?_ ?_ ?_ ?_
          rotate_left
          · exact rows3 _
          · exact rows_one rfl
          · simp
          · exact .inr (by (repeat (first | exact keepJ_nil _ | refine Jt (by simp [St.box?, *] <;> rfl) ?_)))
          repeat (first | with_reducible refine PL_nil ?_ | refine PL_gn2 ?_ | refine PL_s2 ?_ | refine PL_b2 ?_)
          refine PL_store rfl rfl (by simp [nev, nevA, nevB, Jo, PF.eval, PF.get, PF.wants, cPV, cCell, PV.rows, evBin, evUn, Jp, evLen, loadA, Jm, TyK.agg, partA, St.box?, St.tok?, St.setBox, St.setTok, fillO, spl, PV.ps, PV.one, Jn, aggD, slD, Jg, Jj, Jh, Ji, Jf, Je, *]; rfl) (by rfl) (by simp [nev, nevA, nevB, Jo, PF.eval, PF.get, PF.wants, cPV, cCell, PV.rows, evBin, evUn, Jp, evLen, loadA, Jm, TyK.agg, partA, St.box?, St.tok?, St.setBox, St.setTok, fillO, spl, PV.ps, PV.one, Jn, aggD, slD, Jg, Jj, Jh, Ji, Jf, Je, *]; rfl) (by simp [PV.ps, aggD, slD, Jg, Jj, Jh, Ji, Jf, Je]; rfl) (by first | rfl | (simp [*]; done) | (simp [PV.one, *]; done) | fail) (by simp; rfl) (by first | (simp; done) | fail) (by simp [nev, nevA, nevB, Jo, PF.eval, PF.get, PF.wants, cPV, cCell, PV.rows, evBin, evUn, Jp, evLen, loadA, Jm, TyK.agg, partA, St.box?, St.tok?, St.setBox, St.setTok, fillO, spl, PV.ps, PV.one, Jn, aggD, slD, Jg, Jj, Jh, Ji, Jf, Je, *]; rfl) (by rfl) (by first | (simp; done) | fail) (by simp [St.setBox, spl, *]; rfl) (by first | exact .inl (by decide +kernel) | exact .inr (by (repeat (first | exact keepJ_nil _ | refine Jt (by simp [St.box?, *] <;> rfl) ?_)))) ?_
          repeat (first | with_reducible refine PL_nil ?_ | refine PL_gn2 ?_ | refine PL_s2 ?_ | refine PL_b2 ?_)
          refine go_ ?_
          refine ⟨(j + 1, o ++ [y]), ⟨hlt, by have := HO.out; simp only [List.length_append, List.length_singleton]; omega, hR3⟩, by simp only; omega, by repeat (first | exact Js _ | refine Jr (by simp [PF.get]; rfl) (by first | rfl | (simp [*]; done) | fail) ?_), ?_⟩
          simp only [List.length_append, List.length_singleton, List.map_append, List.map_cons, List.map_nil, Jk y]
          repeat (first | exact List.Sublist.refl _ | exact List.nil_sublist _ | refine List.Sublist.cons_cons _ ?_ | refine List.Sublist.cons _ ?_)
      · have hjb : ((j : Int) == 1) = false := by rw [beq_eq_false_iff_ne]; exact hj1
        have hbe := ben_no (k := k) (j := j) (fun h => hj1 h.1)
        have hc1 := IH.out _ hmem (b) (HG.out _ hmem) (by omega) (by have := HH.out _ hmem; have := HBH.out; omega)
        have hM : n0 + b + benB k j = n0 + (b) := by rw [hbe]; omega
        rw [hM] at hR2
        simp only [aggD, Jk, List.map_cons, List.map_nil] at hc1
        have HC1 := Lib.hid hc1
        have hR3 : Hid (R = (o ++ [moveT sub[j] d (n0 + (b))]) ++ moveL k (sub.drop (j + 1)) (j + 1) d (n0 + b)) := by show _ = _; rw [hR2, List.append_assoc]; rfl
        clear hR2 hc1 hM hbe hmem hj1
        generalize moveT sub[j] d (n0 + (b)) = y at *
        refine go_ ?_
        refine Jd ?_
        intro i9 hi9
        try simp only [Rh, Rg, Rf, Ja] at hi9
        refine go_ ?_
        refine Rc ?_
        refine go_ ?_
        refine PW_drawnL (J := keepJ [(i7, _), (i9, _)]) [(0, .a), (1, .a), (2, .a), (3, .a), (4, .a), (5, .e), (6, .a), (7, .e), (8, .a), (9, .e)] (by kernel_rfl) (by rfl) (by kernel_rfl) (by (repeat (first | exact keepJ_nil _ | refine Jt (by simp [St.box?, *] <;> rfl) ?_))) ?_
        repeat (first | with_reducible refine PL_nil ?_ | refine PL_gn2 ?_ | refine PL_s2 ?_ | refine PL_b2 ?_)
        refine PL_callX 5 X.length HC1.out (L := [.box i9 28 [.d (.v (.int .i64 sub[j].kind)), .d (.v (.int .i64 sub[j].num)), .d (.sl (sub[j].sub.map encD))], .tok g 28 3 o.length, .box i7 28 [.d (.v (.int .i64 k)), .d (.v (.int .i64 n)), .own g (o.map encD)], .box i6 28 [.d (.v (.int .i64 0)), .d (.v (.int .i64 0)), .nils], .box i3 28 [.d (.v (.int .i64 k)), .d (.v (.int .i64 n)), .d (.sl (sub.map encD))]]) (M := []) ?_ (hL := rfl) (h0 := by simp) (hM := by simp)
        rintro p s ⟨rfl, rfl⟩
        simp only [List.cons_append, List.nil_append, List.append_nil]
        refine ⟨.inr (by (repeat (first | exact keepJ_nil _ | refine Jt (by simp [St.box?, *] <;> rfl) ?_))), ?_⟩
        repeat (first | with_reducible refine PL_nil ?_ | refine PL_gn2 ?_ | refine PL_s2 ?_ | refine PL_b2 ?_)
        refine PL_bs ?_ rfl (by decide) rfl (by simp; rfl) (by rfl) (by simp; rfl) (by rfl) (by decide) (by decide) (by simp [nev, nevA, nevB, Jo, PF.eval, PF.get, PF.wants, cPV, cCell, PV.rows, evBin, evUn, Jp, evLen, loadA, Jm, TyK.agg, partA, St.box?, St.tok?, St.setBox, St.setTok, fillO, spl, PV.ps, PV.one, Jn, aggD, slD, Jg, Jj, Jh, Ji, Jf, Je, *]; rfl) (by simp [rowsOf, toDs, PV.toD]; rfl)
        refine PL_app (o.length + 1) ?_ ?_ ?_ ?_ ?_
        rotate_left
        · exact rows3 _
        · exact rows_one rfl
        · simp
        · exact .inr (by (repeat (first | exact keepJ_nil _ | refine Jt (by simp [St.box?, *] <;> rfl) ?_)))
        repeat (first | with_reducible refine PL_nil ?_ | refine PL_gn2 ?_ | refine PL_s2 ?_ | refine PL_b2 ?_)
        refine PL_store rfl rfl (by simp [nev, nevA, nevB, Jo, PF.eval, PF.get, PF.wants, cPV, cCell, PV.rows, evBin, evUn, Jp, evLen, loadA, Jm, TyK.agg, partA, St.box?, St.tok?, St.setBox, St.setTok, fillO, spl, PV.ps, PV.one, Jn, aggD, slD, Jg, Jj, Jh, Ji, Jf, Je, *]; rfl) (by rfl) (by simp [nev, nevA, nevB, Jo, PF.eval, PF.get, PF.wants, cPV, cCell, PV.rows, evBin, evUn, Jp, evLen, loadA, Jm, TyK.agg, partA, St.box?, St.tok?, St.setBox, St.setTok, fillO, spl, PV.ps, PV.one, Jn, aggD, slD, Jg, Jj, Jh, Ji, Jf, Je, *]; rfl) (by simp [PV.ps, aggD, slD, Jg, Jj, Jh, Ji, Jf, Je]; rfl) (by first | rfl | (simp [*]; done) | (simp [PV.one, *]; done) | fail) (by simp; rfl) (by first | (simp; done) | fail) (by simp [nev, nevA, nevB, Jo, PF.eval, PF.get, PF.wants, cPV, cCell, PV.rows, evBin, evUn, Jp, evLen, loadA, Jm, TyK.agg, partA, St.box?, St.tok?, St.setBox, St.setTok, fillO, spl, PV.ps, PV.one, Jn, aggD, slD, Jg, Jj, Jh, Ji, Jf, Je, *]; rfl) (by rfl) (by first | (simp; done) | fail) (by simp [St.setBox, spl, *]; rfl) (by first | exact .inl (by decide +kernel) | exact .inr (by (repeat (first | exact keepJ_nil _ | refine Jt (by simp [St.box?, *] <;> rfl) ?_)))) ?_
        repeat (first | with_reducible refine PL_nil ?_ | refine PL_gn2 ?_ | refine PL_s2 ?_ | refine PL_b2 ?_)
        refine go_ ?_
        refine ⟨(j + 1, o ++ [y]), ⟨hlt, by have := HO.out; simp only [List.length_append, List.length_singleton]; omega, hR3⟩, by simp only; omega, by repeat (first | exact Js _ | refine Jr (by simp [PF.get]; rfl) (by first | rfl | (simp [*]; done) | fail) ?_), ?_⟩
        simp only [List.length_append, List.length_singleton, List.map_append, List.map_cons, List.map_nil, Jk y]
        repeat (first | exact List.Sublist.refl _ | exact List.nil_sublist _ | refine List.Sublist.cons_cons _ ?_ | refine List.Sublist.cons _ ?_)
    · have hc : ¬ (j : Int) < sub.length := by omega
      have hf : Hid (R = o) := by show _ = _; rw [show R = _ from hR.out, List.drop_of_length_le (by omega)]; simp only [moveL, List.append_nil]
      clear hR
      rw [hf.out]
      refine go_ ?_
      refine Rc ?_
      refine go_ ?_
      refine Jl (st' := X) (by simp) (by simp only [Try.results185]; rfl) (by simp [resP, St.box?, PF.get, Jm, TyK.agg, *]; rfl) (by repeat (first | exact List.Sublist.refl _ | exact List.nil_sublist _ | refine List.Sublist.cons_cons _ ?_ | refine List.Sublist.cons _ ?_)) ?_
      exact ⟨by simp [tupP, PV.norm2, PV.norm1, PV.norm0], rfl⟩
end Go.Proofs.Ytfnfbbmegdkhjaa

namespace Go.Proofs.Ytfnfbbmegdkhjaa
open Go.RowKit
set_option maxRecDepth 100000
theorem lift1_p (m n0 d : Int) (b5 b4 : Nat) (hne : b5 ≠ b4) (hm0 : 0 ≤ m) (hm1 : m ≤ 2000000) (hd0 : 0 ≤ d) (hd1 : d ≤ 1048576) : PCalls Try.prog 186 [.d (.v (.int .i64 m)), .ptr b5 0, .ptr b4 0] [.box b5 3 [.d (.v (.int .i64 n0))], .box b4 3 [.d (.v (.int .i64 d))]]
    fun p s => p = .d (.v (.int .i64 (if m < n0 then m else m + d))) ∧ s = [.box b5 3 [.d (.v (.int .i64 n0))], .box b4 3 [.d (.v (.int .i64 d))]] := by
  have hw := wr64 (n := m + d) (by omega) (by omega)
  by_cases h : m < n0
  · rw [if_pos h]
    refine PCalls.enter Try.func186 rfl Try.ntmps186 (by simp) ?_
    simp only [argsF]
    refine go_ ?_
    refine Jl (st' := [.box b5 3 [.d (.v (.int .i64 n0))], .box b4 3 [.d (.v (.int .i64 d))]]) (by simp) (by simp only [Try.results186]; rfl) (by simp [resP, St.box?, PF.get, Jm, TyK.agg, *]; rfl) (by repeat (first | exact List.Sublist.refl _ | exact List.nil_sublist _ | refine List.Sublist.cons_cons _ ?_ | refine List.Sublist.cons _ ?_)) ?_
    exact ⟨rfl, rfl⟩
  · rw [if_neg h]
    refine PCalls.enter Try.func186 rfl Try.ntmps186 (by simp) ?_
    simp only [argsF]
    refine go_ ?_
    refine Jl (st' := [.box b5 3 [.d (.v (.int .i64 n0))], .box b4 3 [.d (.v (.int .i64 d))]]) (by simp) (by simp only [Try.results186]; rfl) (by simp [resP, St.box?, PF.get, Jm, TyK.agg, *]; rfl) (by repeat (first | exact List.Sublist.refl _ | exact List.nil_sublist _ | refine List.Sublist.cons_cons _ ?_ | refine List.Sublist.cons _ ?_)) ?_
    exact ⟨rfl, rfl⟩
def trP (r : Tm × Int) : PV := .tup [aggD r.1, .d (.v (.int .i64 r.2))]
set_option maxHeartbeats 16000000 in
theorem tLift_p (t : Tm) (k n : Int) : PCalls Try.prog 160 [aggD t, .d (.v (.int .i64 k)), .d (.v (.int .i64 n))] [] fun p s => p = trP (liftR t k n) ∧ s = [] := by
  have hS := Lib.hid (tshaped_p t)
  have hF1 := Lib.hid (lfits_p k)
  have hF2 := Lib.hid (lfits_p n)
  have HR := Lib.hid (show liftR t k n = if (shapedB t && fitsB k && fitsB n) = true then (if shapedB (moveT t k n) = true then (moveT t k n, 0) else (.mk 0 0 [], 2)) else (.mk 0 0 [], 5) from rfl)
  cases h1 : shapedB t with
  | false =>
    rw [h1] at hS
    rw [HR.out, h1]
    simp only [Bool.false_and, Bool.false_eq_true, if_false, trP, aggD, Jk, List.map_cons, List.map_nil, Ju, Jv, Jw] at hS ⊢
    clear HR h1
    refine PCalls.enter Try.func160 rfl Try.ntmps160 (by simp) ?_
    simp only [argsF]
    refine go_ ?_
    refine Jc ?_
    intro i3 hi3
    try simp only [Rh, Rg, Rf, Ja] at hi3
    refine go_ ?_
    refine Jc ?_
    intro i4 hi4
    try simp only [Rh, Rg, Rf, Ja] at hi4
    refine go_ ?_
    refine Jc ?_
    intro i5 hi5
    try simp only [Rh, Rg, Rf, Ja] at hi5
    refine go_ ?_
    refine Jd ?_
    intro i6 hi6
    try simp only [Rh, Rg, Rf, Ja] at hi6
    refine go_ ?_
    refine Jb (hS.out) ?_
    refine go_ ?_
    refine Rc ?_
    refine go_ ?_
    refine Jl (by simp) (by simp only [Try.results160]; rfl) (by simp [resP, St.box?, PF.get, Jm, TyK.agg, *]; rfl) (List.nil_sublist _) ?_
    exact ⟨by simp [tupP, PV.norm2, PV.norm1, PV.norm0], rfl⟩
  | true =>
  rw [h1] at hS
  cases h2 : fitsB k with
  | false =>
    rw [h2] at hF1
    rw [HR.out, h1, h2]
    simp only [Bool.true_and, Bool.false_and, Bool.false_eq_true, if_false, trP, aggD, Jk, List.map_cons, List.map_nil, Ju, Jv, Jw] at hS ⊢
    clear HR h1 h2
    refine PCalls.enter Try.func160 rfl Try.ntmps160 (by simp) ?_
    simp only [argsF]
    refine go_ ?_
    refine Jc ?_
    intro i3 hi3
    try simp only [Rh, Rg, Rf, Ja] at hi3
    refine go_ ?_
    refine Jc ?_
    intro i4 hi4
    try simp only [Rh, Rg, Rf, Ja] at hi4
    refine go_ ?_
    refine Jc ?_
    intro i5 hi5
    try simp only [Rh, Rg, Rf, Ja] at hi5
    refine go_ ?_
    refine Jd ?_
    intro i6 hi6
    try simp only [Rh, Rg, Rf, Ja] at hi6
    refine go_ ?_
    refine Jb (hS.out) ?_
    refine go_ ?_
    refine Jq (hF1.out) ?_
    refine go_ ?_
    refine Rc ?_
    refine go_ ?_
    refine Jl (by simp) (by simp only [Try.results160]; rfl) (by simp [resP, St.box?, PF.get, Jm, TyK.agg, *]; rfl) (List.nil_sublist _) ?_
    exact ⟨by simp [tupP, PV.norm2, PV.norm1, PV.norm0], rfl⟩
  | true =>
  rw [h2] at hF1
  cases h3 : fitsB n with
  | false =>
    rw [h3] at hF2
    rw [HR.out, h1, h2, h3]
    simp only [Bool.true_and, Bool.and_false, Bool.false_eq_true, if_false, trP, aggD, Jk, List.map_cons, List.map_nil, Ju, Jv, Jw] at hS ⊢
    clear HR h1 h2 h3
    refine PCalls.enter Try.func160 rfl Try.ntmps160 (by simp) ?_
    simp only [argsF]
    refine go_ ?_
    refine Jc ?_
    intro i3 hi3
    try simp only [Rh, Rg, Rf, Ja] at hi3
    refine go_ ?_
    refine Jc ?_
    intro i4 hi4
    try simp only [Rh, Rg, Rf, Ja] at hi4
    refine go_ ?_
    refine Jc ?_
    intro i5 hi5
    try simp only [Rh, Rg, Rf, Ja] at hi5
    refine go_ ?_
    refine Jd ?_
    intro i6 hi6
    try simp only [Rh, Rg, Rf, Ja] at hi6
    refine go_ ?_
    refine Jb (hS.out) ?_
    refine go_ ?_
    refine Jq (hF1.out) ?_
    refine go_ ?_
    refine Jq (hF2.out) ?_
    refine go_ ?_
    refine Rc ?_
    refine go_ ?_
    refine Jl (by simp) (by simp only [Try.results160]; rfl) (by simp [resP, St.box?, PF.get, Jm, TyK.agg, *]; rfl) (List.nil_sublist _) ?_
    exact ⟨by simp [tupP, PV.norm2, PV.norm1, PV.norm0], rfl⟩
  | true =>
  rw [h3] at hF2
  obtain ⟨k0, k1⟩ := fits_bd h2
  obtain ⟨n0, n1⟩ := fits_bd h3
  have HW := Lib.hid (fun (b5 b4 : Nat) (hne : b5 ≠ b4) => lwalk_p 186 [.ptr b5 0, .ptr b4 0] [.box b5 3 [.d (.v (.int .i64 n))], .box b4 3 [.d (.v (.int .i64 k))]] n k rfl rfl n0 n1 k0 k1 (fun m hm0 hm1 => lift1_p m n k b5 b4 hne hm0 hm1 k0 k1) t 0 (shaped_hg h1).1 (by decide) (by have := (shaped_hg h1).2.1; omega))
  have hM := Lib.hid (tshaped_p (moveT t k n))
  rw [HR.out, h1, h2, h3]
  simp only [Bool.and_self, if_true]
  clear HR h1 h2 h3 k0 k1 n0 n1
  simp only [Int.add_zero] at HW
  generalize moveT t k n = u at *
  cases h4 : shapedB u with
  | false =>
    rw [h4] at hM
    simp only [Bool.false_eq_true, if_false, trP, aggD, Jk, List.map_cons, List.map_nil, Ju, Jv, Jw] at hS hM HW ⊢
    clear h4
    refine PCalls.enter Try.func160 rfl Try.ntmps160 (by simp) ?_
    simp only [argsF]
    refine go_ ?_
    refine Jc ?_
    intro i3 hi3
    try simp only [Rh, Rg, Rf, Ja] at hi3
    refine go_ ?_
    refine Jc ?_
    intro i4 hi4
    try simp only [Rh, Rg, Rf, Ja] at hi4
    refine go_ ?_
    refine Jc ?_
    intro i5 hi5
    try simp only [Rh, Rg, Rf, Ja] at hi5
    refine go_ ?_
    refine Jd ?_
    intro i6 hi6
    try simp only [Rh, Rg, Rf, Ja] at hi6
    refine go_ ?_
    refine Jb (hS.out) ?_
    refine go_ ?_
    refine Jq (hF1.out) ?_
    refine go_ ?_
    refine Jq (hF2.out) ?_
    refine go_ ?_
    refine POps_makeFunc2 ?_
    refine go_ ?_
    refine Rd 1 2 (HW.out i5 i4 (by simp_all)) ?_
    rintro p s ⟨rfl, rfl⟩
    simp only [List.cons_append, List.nil_append, List.append_nil, Rh, Rg, Rf]
    refine go_ ?_
    refine Jd ?_
    intro i8 hi8
    try simp only [Rh, Rg, Rf, Ja] at hi8
    refine go_ ?_
    refine Rc ?_
    refine go_ ?_
    refine Jb (hM.out) ?_
    refine go_ ?_
    refine Rc ?_
    refine go_ ?_
    refine Jl (by simp) (by simp only [Try.results160]; rfl) (by simp [resP, St.box?, PF.get, Jm, TyK.agg, *]; rfl) (List.nil_sublist _) ?_
    exact ⟨by simp [tupP, PV.norm2, PV.norm1, PV.norm0], rfl⟩
  | true =>
    rw [h4] at hM
    simp only [if_true, trP, aggD, Jk, List.map_cons, List.map_nil, Ju, Jv, Jw] at hS hM HW ⊢
    clear h4
    refine PCalls.enter Try.func160 rfl Try.ntmps160 (by simp) ?_
    simp only [argsF]
    refine go_ ?_
    refine Jc ?_
    intro i3 hi3
    try simp only [Rh, Rg, Rf, Ja] at hi3
    refine go_ ?_
    refine Jc ?_
    intro i4 hi4
    try simp only [Rh, Rg, Rf, Ja] at hi4
    refine go_ ?_
    refine Jc ?_
    intro i5 hi5
    try simp only [Rh, Rg, Rf, Ja] at hi5
    refine go_ ?_
    refine Jd ?_
    intro i6 hi6
    try simp only [Rh, Rg, Rf, Ja] at hi6
    refine go_ ?_
    refine Jb (hS.out) ?_
    refine go_ ?_
    refine Jq (hF1.out) ?_
    refine go_ ?_
    refine Jq (hF2.out) ?_
    refine go_ ?_
    refine POps_makeFunc2 ?_
    refine go_ ?_
    refine Rd 1 2 (HW.out i5 i4 (by simp_all)) ?_
    rintro p s ⟨rfl, rfl⟩
    simp only [List.cons_append, List.nil_append, List.append_nil, Rh, Rg, Rf]
    refine go_ ?_
    refine Jd ?_
    intro i8 hi8
    try simp only [Rh, Rg, Rf, Ja] at hi8
    refine go_ ?_
    refine Rc ?_
    refine go_ ?_
    refine Jb (hM.out) ?_
    refine go_ ?_
    refine Rc ?_
    refine go_ ?_
    refine Jl (by simp) (by simp only [Try.results160]; rfl) (by simp [resP, St.box?, PF.get, Jm, TyK.agg, *]; rfl) (List.nil_sublist _) ?_
    exact ⟨by simp [tupP, PV.norm2, PV.norm1, PV.norm0], rfl⟩
theorem tUp_p (t : Tm) (k : Int) : PCalls Try.prog 145 [aggD t, .d (.v (.int .i64 k))] [] fun p s => p = trP (liftR t k 0) ∧ s = [] := by
  have hc := Lib.hid (tLift_p t k 0)
  generalize liftR t k 0 = r at *
  simp only [trP, aggD, Jk, List.map_cons, List.map_nil] at hc ⊢
  refine PCalls.enter Try.func145 rfl Try.ntmps145 (by simp) ?_
  simp only [argsF]
  refine go_ ?_
  refine Jc ?_
  intro i2 hi2
  try simp only [Rh, Rg, Rf, Ja] at hi2
  refine go_ ?_
  refine Jd ?_
  intro i4 hi4
  try simp only [Rh, Rg, Rf, Ja] at hi4
  refine go_ ?_
  refine Jb (hc.out) ?_
  refine go_ ?_
  refine Rc ?_
  refine go_ ?_
  refine Jl (by simp) (by simp only [Try.results145]; rfl) (by simp [resP, St.box?, PF.get, Jm, TyK.agg, *]; rfl) (List.nil_sublist _) ?_
  exact ⟨by simp [tupP, PV.norm2, PV.norm1, PV.norm0], rfl⟩
set_option maxHeartbeats 16000000 in
theorem raised_p (iW : Nat) (fv : PV) (a : Tm) (m L : Int) (hL0 : 0 ≤ L) (hL1 : L ≤ 8192) : PCalls Try.prog 120 [.ptr iW 0, aggD a, .d (.v (.int .i64 m))] [.box iW 147 [.d (.v (.int .i64 L)), .d (.v (.bool false)), fv]]
    fun p s => p = aggD (upS a m L).1 ∧ s = [.box iW 147 [.d (.v (.int .i64 (upS a m L).2.1)), .d (.v (.bool (upS a m L).2.2)), fv]] := by
  have hZ := Lib.hid (tSize_p a)
  have hU := Lib.hid (tUp_p a m)
  have hO := Lib.hid (tsort_p 0)
  have hb := csize_bd a
  have HR := Lib.hid (show upS a m L = if L - csizeT a < 0 then (.mk 2 0 [], L - csizeT a, true) else if (liftR a m 0).2 = 0 then ((liftR a m 0).1, L - csizeT a, false) else (.mk 2 0 [], L - csizeT a, true) from rfl)
  generalize csizeT a = z at *
  generalize liftR a m 0 = r at *
  have hw := wr64 (n := L - z) (by omega) (by omega)
  simp only [trP, aggD, Jk, List.map_cons, List.map_nil, Ju, Jv, Jw] at hZ hU hO
  by_cases h1 : L - z < 0
  · rw [HR.out, if_pos h1]
    simp only [aggD, Jk, List.map_cons, List.map_nil, Ju, Jv, Jw]
    have h1' : L < z := by omega
    clear HR
    refine PCalls.enter Try.func120 rfl Try.ntmps120 (by simp) ?_
    simp only [argsF]
    refine go_ ?_
    refine Jc ?_
    intro i4 hi4
    try simp only [Rh, Rg, Rf, Ja] at hi4
    refine go_ ?_
    refine Jd ?_
    intro i6 hi6
    try simp only [Rh, Rg, Rf, Ja] at hi6
    refine go_ ?_
    refine PW_drawn [(0, .a), (1, .a), (2, .a), (3, .b), (4, .b), (5, .a), (6, .a), (7, .a), (8, .a), (9, .e)] (by kernel_rfl) (by rfl) (by kernel_rfl) ?_
    refine go_ ?_
    refine POrd_call_a (hZ.out) ?_
    refine go_ ?_
    refine POrd_store_a ?_
    refine go_ ?_
    refine Rc ?_
    refine go_ ?_
    refine Jb (hO.out) ?_
    refine go_ ?_
    refine Rc ?_
    refine go_ ?_
    refine Jl (st' := [.box iW 147 [.d (.v (.int .i64 (L - z))), .d (.v (.bool true)), fv]]) (by simp) (by simp only [Try.results120]; rfl) (by simp [resP, St.box?, PF.get, Jm, TyK.agg, *]; rfl) (by repeat (first | exact List.Sublist.refl _ | exact List.nil_sublist _ | refine List.Sublist.cons_cons _ ?_ | refine List.Sublist.cons _ ?_)) ?_
    exact ⟨by simp [tupP, PV.norm2, PV.norm1, PV.norm0], rfl⟩
  · rw [HR.out, if_neg h1]
    by_cases h2 : r.2 = 0
    · rw [if_pos h2]
      simp only [aggD, Jk, List.map_cons, List.map_nil, Ju, Jv, Jw]
      rw [h2] at hU
      have h1' : ¬ L < z := by omega
      clear HR h2
      refine PCalls.enter Try.func120 rfl Try.ntmps120 (by simp) ?_
      simp only [argsF]
      refine go_ ?_
      refine Jc ?_
      intro i4 hi4
      try simp only [Rh, Rg, Rf, Ja] at hi4
      refine go_ ?_
      refine Jd ?_
      intro i6 hi6
      try simp only [Rh, Rg, Rf, Ja] at hi6
      refine go_ ?_
      refine PW_drawn [(0, .a), (1, .a), (2, .a), (3, .b), (4, .b), (5, .a), (6, .a), (7, .a), (8, .a), (9, .e)] (by kernel_rfl) (by rfl) (by kernel_rfl) ?_
      refine go_ ?_
      refine POrd_call_a (hZ.out) ?_
      refine go_ ?_
      refine POrd_store_a ?_
      refine go_ ?_
      refine Jb (hU.out) ?_
      refine go_ ?_
      refine Jd ?_
      intro i7 hi7
      try simp only [Rh, Rg, Rf, Ja] at hi7
      refine go_ ?_
      refine Rc ?_
      refine go_ ?_
      refine Rc ?_
      refine go_ ?_
      refine Jl (st' := [.box iW 147 [.d (.v (.int .i64 (L - z))), .d (.v (.bool false)), fv]]) (by simp) (by simp only [Try.results120]; rfl) (by simp [resP, St.box?, PF.get, Jm, TyK.agg, *]; rfl) (by repeat (first | exact List.Sublist.refl _ | exact List.nil_sublist _ | refine List.Sublist.cons_cons _ ?_ | refine List.Sublist.cons _ ?_)) ?_
      exact ⟨by simp [tupP, PV.norm2, PV.norm1, PV.norm0], rfl⟩
    · rw [if_neg h2]
      simp only [aggD, Jk, List.map_cons, List.map_nil, Ju, Jv, Jw]
      have h2b : (r.2 != 0) = true := by rw [bne_iff_ne]; exact h2
      have h1' : ¬ L < z := by omega
      clear HR h2
      generalize r.2 = e at *
      refine PCalls.enter Try.func120 rfl Try.ntmps120 (by simp) ?_
      simp only [argsF]
      refine go_ ?_
      refine Jc ?_
      intro i4 hi4
      try simp only [Rh, Rg, Rf, Ja] at hi4
      refine go_ ?_
      refine Jd ?_
      intro i6 hi6
      try simp only [Rh, Rg, Rf, Ja] at hi6
      refine go_ ?_
      refine PW_drawn [(0, .a), (1, .a), (2, .a), (3, .b), (4, .b), (5, .a), (6, .a), (7, .a), (8, .a), (9, .e)] (by kernel_rfl) (by rfl) (by kernel_rfl) ?_
      refine go_ ?_
      refine POrd_call_a (hZ.out) ?_
      refine go_ ?_
      refine POrd_store_a ?_
      refine go_ ?_
      refine Jb (hU.out) ?_
      refine go_ ?_
      refine Jd ?_
      intro i7 hi7
      try simp only [Rh, Rg, Rf, Ja] at hi7
      refine go_ ?_
      refine Rc ?_
      refine go_ ?_
      refine Rc ?_
      refine go_ ?_
      refine Jb (hO.out) ?_
      refine go_ ?_
      refine Rc ?_
      refine go_ ?_
      refine Jl (st' := [.box iW 147 [.d (.v (.int .i64 (L - z))), .d (.v (.bool true)), fv]]) (by simp) (by simp only [Try.results120]; rfl) (by simp [resP, St.box?, PF.get, Jm, TyK.agg, *]; rfl) (by repeat (first | exact List.Sublist.refl _ | exact List.nil_sublist _ | refine List.Sublist.cons_cons _ ?_ | refine List.Sublist.cons _ ?_)) ?_
      exact ⟨by simp [tupP, PV.norm2, PV.norm1, PV.norm0], rfl⟩
end Go.Proofs.Ytfnfbbmegdkhjaa

namespace Go.Proofs.Ytfnfbbmegdkhjaa
open Go.RowKit
set_option maxRecDepth 100000
theorem PW_cutE {P : Program} {n : Nat} {fr : PF} {st : St} {ι : Type} (I : ι → Prop) (fi : ι → PF) (si : ι → St) {c rest : Code} {Q1 QR : Exit → PF → St → Prop} (k : ∀ x, I x → PW P n rest QR (fi x) (si x))
    (h : PW P n c (thenP (fun fr' st' => ∃ x, I x ∧ (∀ t p, (fi x).get t = some p → fr'.get t = some p) ∧ (si x).Sublist st') Q1) fr st) : PW P n c (thenP (PW P n rest QR) Q1) fr st := by
  refine h.mono fun e fr1 st1 h1 => ?_
  cases e with
  | normal =>
    obtain ⟨x, hx, h2, h3⟩ := h1
    exact (k x hx).weak h2 h3
  | _ => exact h1
/-- what a leaf's question comes to -/
def leafR (lf : Tm → Int → Lf) (t : Tm) (b L : Int) : Tm × Bool × Int × Bool := match lf t b with
  | .go => (.mk 0 0 [], false, L, false)
  | .put x => (x, true, L, false)
  | .up a m => ((upS a m L).1, true, (upS a m L).2)
theorem wk_leaf (lf : Tm → Int → Lf) (k n : Int) (sub : List Tm) (b L : Int) : wkT lf (.mk k n sub) b L false = if (leafR lf (.mk k n sub) b L).2.1 = true then ((leafR lf (.mk k n sub) b L).1, (leafR lf (.mk k n sub) b L).2.2) else (.mk k n (wkL lf k sub 0 b (L - 1) (decide (L - 1 < 0))).1, (wkL lf k sub 0 b (L - 1) (decide (L - 1 < 0))).2) := by
  simp only [wkT]
  unfold leafR
  cases lf (.mk k n sub) b with
  | go => simp
  | put x => simp
  | up a m => simp
theorem leaf_go {lf : Tm → Int → Lf} {t : Tm} {b L : Int} (h : (leafR lf t b L).2.1 = false) : leafR lf t b L = (.mk 0 0 [], false, L, false) := by
  revert h
  unfold leafR
  cases lf t b with
  | go => intro _; rfl
  | put x => intro h; cases h
  | up a m => intro h; cases h
def LInv (L : Int) (G : Bool) : Prop := -8193 ≤ L ∧ L ≤ 8192 ∧ (G = false → 0 ≤ L)
theorem up_inv {a : Tm} {m L : Int} (h0 : 0 ≤ L) (h1 : L ≤ 8192) : LInv (upS a m L).2.1 (upS a m L).2.2 := by
  have := csize_bd a
  unfold upS LInv
  split
  · exact ⟨by simp only; omega, by simp only; omega, fun h => by cases h⟩
  · split
    · exact ⟨by simp only; omega, by simp only; omega, fun _ => by simp only; omega⟩
    · exact ⟨by simp only; omega, by simp only; omega, fun h => by cases h⟩
theorem wk_inv (lf : Tm → Int → Lf) : ∀ (t : Tm) (b L : Int) (G : Bool), LInv L G → LInv (wkT lf t b L G).2.1 (wkT lf t b L G).2.2 := by
  refine Tm.ind ?_
  intro k n sub ih b L G h
  cases G with
  | true => rw [wk_true]; exact h
  | false =>
    have h0 := h.2.2 rfl
    simp only [wkT, Bool.false_eq_true, if_false]
    cases lf (.mk k n sub) b with
    | put x => exact h
    | up a m => exact up_inv h0 h.2.1
    | go =>
      simp only
      have key : ∀ (l : List Tm) (i : Nat) (L : Int) (G : Bool), (∀ s ∈ l, s ∈ sub) → LInv L G → LInv (wkL lf k l i b L G).2.1 (wkL lf k l i b L G).2.2 := by
        intro l
        induction l with
        | nil => intro i L G _ h; exact h
        | cons t ts iht =>
          intro i L G hs hL
          simp only [wkL]
          exact iht (i + 1) _ _ (fun s h => hs s (by simp [h])) (ih t (hs t (by simp)) _ _ _ hL)
      refine key sub 0 _ _ (fun _ h => h) ⟨by omega, by have := h.2.1; omega, fun hd => by have := of_decide_eq_false hd; omega⟩
theorem wkL_step {lf : Tm → Int → Lf} {k : Int} {sub : List Tm} {j : Nat} {b L : Int} {G : Bool} (h : j < sub.length) : wkL lf k (sub.drop j) j b L G = ((wkT lf sub[j] (b + benB k j) L G).1 :: (wkL lf k (sub.drop (j + 1)) (j + 1) b (wkT lf sub[j] (b + benB k j) L G).2.1 (wkT lf sub[j] (b + benB k j) L G).2.2).1, (wkL lf k (sub.drop (j + 1)) (j + 1) b (wkT lf sub[j] (b + benB k j) L G).2.1 (wkT lf sub[j] (b + benB k j) L G).2.2).2) := by
  rw [List.drop_eq_getElem_cons h]; simp only [wkL]
set_option maxHeartbeats 32000000 in
theorem swalk_p (f : FuncId) (cap : List PV) (X : St) (iW : Nat) (lf : Tm → Int → Lf) (hca : callable Try.prog f = true) (hcap : cap.map PV.norm1 = cap)
    (hleaf : ∀ (t : Tm) (b L : Int), goodB t = true → 0 ≤ b → b + chgT t ≤ 1000 → 0 ≤ L → L ≤ 8192 → PCalls Try.prog f (aggD t :: .d (.v (.int .i64 b)) :: cap) (.box iW 147 [.d (.v (.int .i64 L)), .d (.v (.bool false)), .fn (.func f) [] cap] :: X)
      fun p s => p = .tup [aggD (leafR lf t b L).1, .d (.v (.bool (leafR lf t b L).2.1))] ∧ s = .box iW 147 [.d (.v (.int .i64 (leafR lf t b L).2.2.1)), .d (.v (.bool (leafR lf t b L).2.2.2)), .fn (.func f) [] cap] :: X) :
    ∀ (t : Tm) (b L : Int) (G : Bool), goodB t = true → 0 ≤ b → b + chgT t ≤ 1000 → LInv L G → PCalls Try.prog 143 [.ptr iW 0, aggD t, .d (.v (.int .i64 b))] (.box iW 147 [.d (.v (.int .i64 L)), .d (.v (.bool G)), .fn (.func f) [] cap] :: X)
      fun p s => p = aggD (wkT lf t b L G).1 ∧ s = .box iW 147 [.d (.v (.int .i64 (wkT lf t b L G).2.1)), .d (.v (.bool (wkT lf t b L G).2.2)), .fn (.func f) [] cap] :: X := by
  have HCA := Lib.hid hca
  have HCP := Lib.hid hcap
  have HLF := Lib.hid hleaf
  clear hca hcap hleaf
  refine Tm.ind ?_
  intro k n sub ih b L G hg hb hbh hL
  have hO := Lib.hid (tsort_p 0)
  cases G with
  | true =>
    rw [wk_true]
    simp only [aggD, Jk, List.map_cons, List.map_nil, Ju, Jv, Jw] at hO ⊢
    clear ih HLF hg hbh hL
    refine PCalls.enter Try.func143 rfl Try.ntmps143 (by simp) ?_
    simp only [argsF]
    refine go_ ?_
    refine Jc ?_
    intro i4 hi4
    try simp only [Rh, Rg, Rf, Ja] at hi4
    refine go_ ?_
    refine Jd ?_
    intro i6 hi6
    try simp only [Rh, Rg, Rf, Ja] at hi6
    refine go_ ?_
    refine Jb (hO.out) ?_
    refine go_ ?_
    refine Rc ?_
    refine go_ ?_
    refine Jl (st' := (.box iW 147 [.d (.v (.int .i64 L)), .d (.v (.bool true)), .fn (.func f) [] cap] :: X)) (by simp) (by simp only [Try.results143]; rfl) (by simp [resP, St.box?, PF.get, Jm, TyK.agg, *]; rfl) (by repeat (first | exact List.Sublist.refl _ | exact List.nil_sublist _ | refine List.Sublist.cons_cons _ ?_ | refine List.Sublist.cons _ ?_)) ?_
    exact ⟨by simp [tupP, PV.norm2, PV.norm1, PV.norm0], rfl⟩
  | false =>
  have hL0 := hL.2.2 rfl
  have hL1 := hL.2.1
  have IH := Lib.hid ih
  have hnm := head_num (good_parts hg).1
  have HG := Lib.hid (good_parts hg).2
  have hsl := good_len hg
  have hlc := Lib.hid (HLF.out (.mk k n sub) b L hg hb hbh hL0 hL1)
  have HWK := Lib.hid (wk_leaf lf k n sub b L)
  have HGO := Lib.hid (fun h => leaf_go (lf := lf) (t := .mk k n sub) (b := b) (L := L) h)
  have HH := Lib.hid (fun (s : Tm) (hs : s ∈ sub) => chg_mem (k := k) (n := n) hs)
  have HBH := Lib.hid hbh
  generalize leafR lf (.mk k n sub) b L = r at *
  generalize wkT lf (.mk k n sub) b L false = res at *
  obtain ⟨r1, r2, r3, r4⟩ := r
  simp only at hlc HWK HGO
  simp only [aggD, Jk, List.map_cons, List.map_nil, Ju, Jv, Jw] at hlc ⊢
  clear ih hg hbh hL hnm
  refine PCalls.enter Try.func143 rfl Try.ntmps143 (by simp) ?_
  simp only [argsF]
  refine go_ ?_
  refine Jc ?_
  intro i4 hi4
  try simp only [Rh, Rg, Rf, Ja] at hi4
  refine go_ ?_
  refine Jd ?_
  intro i6 hi6
  try simp only [Rh, Rg, Rf, Ja] at hi6
  refine gs_ ?_
  refine Qc ?_
  refine gs_ ?_
  refine PW_cutE (ι := Nat) (fun i7 => i7 ≠ i6 ∧ i6 ≠ i7 ∧ i7 ≠ i4 ∧ i4 ≠ i7 ∧ i7 ≠ iW ∧ iW ≠ i7) (fun i7 => [(0, .ptr iW 0), (2, .d (.v (.int .i64 b))), (4, .ptr i4 0), (6, .ptr i6 0), (7, .ptr i7 0), (8, .d (.v (.bool r2)))]) (fun i7 => .box i7 28 [.d (.v (.int .i64 r1.kind)), .d (.v (.int .i64 r1.num)), .d (.sl (r1.sub.map encD))] :: .box i6 28 [.d (.v (.int .i64 0)), .d (.v (.int .i64 0)), .nils] :: .box i4 28 [.d (.v (.int .i64 k)), .d (.v (.int .i64 n)), .d (.sl (sub.map encD))] :: .box iW 147 [.d (.v (.int .i64 r3)), .d (.v (.bool r4)), .fn (.func f) [] cap] :: X) ?_ ?_
  rotate_left
  · refine PW_drawnL2 (J := keepW iW 147 (.fn (.func f) [] cap) [(i4, _)]) [(0, .a), (1, .a), (2, .a), (3, .a), (4, .a), (5, .a)] 6 10 [(7, .a), (8, .a), (9, .a), (10, .e), (11, .e), (12, .a)] [(6, .e), (7, .a), (8, .a), (9, .a), (11, .e), (12, .a)] (by kernel_rfl) (by decide) (by kernel_rfl) ⟨⟨_, _, by simp [St.box?, *] <;> exact ⟨rfl, rfl⟩⟩, by (repeat (first | exact keepJ_nil _ | refine Jt (by simp [St.box?, *] <;> rfl) ?_))⟩ ?_
    repeat (first | with_reducible refine PL_nil ?_ | refine PL_gn2 ?_ | refine PL_s2 ?_ | refine PL_b2 ?_)
    refine PL_bw ?_
    repeat (first | with_reducible refine PL_nil ?_ | refine PL_gn2 ?_ | refine PL_s2 ?_ | refine PL_b2 ?_)
    refine PL_b3 ?_
    repeat (first | with_reducible refine PL_nil ?_ | refine PL_gn2 ?_ | refine PL_s2 ?_ | refine PL_b2 ?_)
    refine ⟨?_, ?_⟩
    · refine PL_callC 2 (X.length + 1) hlc.out (L := [.box i6 28 [.d (.v (.int .i64 0)), .d (.v (.int .i64 0)), .nils], .box i4 28 [.d (.v (.int .i64 k)), .d (.v (.int .i64 n)), .d (.sl (sub.map encD))]]) (M := []) ?_ HCA.out (hL := rfl) (h0 := by simp) (hM := by simp) (hn := by simp [PV.norm1, PV.norm0, HCP.out])
      rintro p s ⟨rfl, rfl⟩
      simp only [List.cons_append, List.nil_append, List.append_nil]
      refine ⟨.inr ⟨⟨_, _, by simp [St.box?, *] <;> exact ⟨rfl, rfl⟩⟩, by (repeat (first | exact keepJ_nil _ | refine Jt (by simp [St.box?, *] <;> rfl) ?_))⟩, ?_⟩
      repeat (first | with_reducible refine PL_nil ?_ | refine PL_gn2 ?_ | refine PL_s2 ?_ | refine PL_b2 ?_)
      refine PL_alloc rfl (by decide) rfl (by simp; rfl) (fun i hi => by simp only [Rh, Rg, Rf] at hi; exact ⟨⟨_, _, by simp [St.box?, *] <;> exact ⟨rfl, rfl⟩⟩, by (repeat (first | exact keepJ_nil _ | refine Jt (by simp [St.box?, *] <;> rfl) ?_))⟩) fun i7 hi7 => ?_
      try simp only [Rh, Rg, Rf, Ja] at hi7
      repeat (first | with_reducible refine PL_nil ?_ | refine PL_gn2 ?_ | refine PL_s2 ?_ | refine PL_b2 ?_)
      refine PL_store rfl rfl (by simp [nev, nevA, nevB, Jo, PF.eval, PF.get, PF.wants, cPV, cCell, PV.rows, evBin, evUn, Jp, evLen, loadA, Jm, TyK.agg, partA, St.box?, St.tok?, St.setBox, St.setTok, fillO, spl, PV.ps, PV.one, Jn, aggD, slD, Jg, Jj, Jh, Ji, Jf, Je, *]; rfl) (by rfl) (by simp [nev, nevA, nevB, Jo, PF.eval, PF.get, PF.wants, cPV, cCell, PV.rows, evBin, evUn, Jp, evLen, loadA, Jm, TyK.agg, partA, St.box?, St.tok?, St.setBox, St.setTok, fillO, spl, PV.ps, PV.one, Jn, aggD, slD, Jg, Jj, Jh, Ji, Jf, Je, *]; rfl) (by simp [PV.ps, aggD, slD, Jg, Jj, Jh, Ji, Jf, Je]; rfl) (by first | rfl | (simp [*]; done) | (simp [PV.one, *]; done) | fail) (by simp; rfl) (by first | (simp; done) | fail) (by simp [nev, nevA, nevB, Jo, PF.eval, PF.get, PF.wants, cPV, cCell, PV.rows, evBin, evUn, Jp, evLen, loadA, Jm, TyK.agg, partA, St.box?, St.tok?, St.setBox, St.setTok, fillO, spl, PV.ps, PV.one, Jn, aggD, slD, Jg, Jj, Jh, Ji, Jf, Je, *]; rfl) (by rfl) (by first | (simp; done) | fail) (by simp [St.setBox, spl, *]; rfl) (.inr ⟨⟨_, _, by simp [St.box?, *] <;> exact ⟨rfl, rfl⟩⟩, by (repeat (first | exact keepJ_nil _ | refine Jt (by simp [St.box?, *] <;> rfl) ?_))⟩) ?_
      repeat (first | with_reducible refine PL_nil ?_ | refine PL_gn2 ?_ | refine PL_s2 ?_ | refine PL_b2 ?_)
      refine ⟨i7, by simp_all, by repeat (first | exact Js _ | refine Jr (by simp [PF.get]; rfl) (by first | rfl | (simp [*]; done) | fail) ?_), by repeat (first | exact List.Sublist.refl _ | exact List.nil_sublist _ | refine List.Sublist.cons_cons _ ?_ | refine List.Sublist.cons _ ?_)⟩
    · refine PL_alloc rfl (by decide) rfl (by simp; rfl) (fun i hi => by simp only [Rh, Rg, Rf] at hi; exact ⟨⟨_, _, by simp [St.box?, *] <;> exact ⟨rfl, rfl⟩⟩, by (repeat (first | exact keepJ_nil _ | refine Jt (by simp [St.box?, *] <;> rfl) ?_))⟩) fun i7 hi7 => ?_
      try simp only [Rh, Rg, Rf, Ja] at hi7
      repeat (first | with_reducible refine PL_nil ?_ | refine PL_gn2 ?_ | refine PL_s2 ?_ | refine PL_b2 ?_)
      refine PL_callC 3 (X.length + 1) hlc.out (L := [.box i7 28 [.d (.v (.int .i64 0)), .d (.v (.int .i64 0)), .nils], .box i6 28 [.d (.v (.int .i64 0)), .d (.v (.int .i64 0)), .nils], .box i4 28 [.d (.v (.int .i64 k)), .d (.v (.int .i64 n)), .d (.sl (sub.map encD))]]) (M := []) ?_ HCA.out (hL := rfl) (h0 := by simp) (hM := by simp) (hn := by simp [PV.norm1, PV.norm0, HCP.out])
      rintro p s ⟨rfl, rfl⟩
      simp only [List.cons_append, List.nil_append, List.append_nil]
      refine ⟨.inr ⟨⟨_, _, by simp [St.box?, *] <;> exact ⟨rfl, rfl⟩⟩, by (repeat (first | exact keepJ_nil _ | refine Jt (by simp [St.box?, *] <;> rfl) ?_))⟩, ?_⟩
      repeat (first | with_reducible refine PL_nil ?_ | refine PL_gn2 ?_ | refine PL_s2 ?_ | refine PL_b2 ?_)
      refine PL_store rfl rfl (by simp [nev, nevA, nevB, Jo, PF.eval, PF.get, PF.wants, cPV, cCell, PV.rows, evBin, evUn, Jp, evLen, loadA, Jm, TyK.agg, partA, St.box?, St.tok?, St.setBox, St.setTok, fillO, spl, PV.ps, PV.one, Jn, aggD, slD, Jg, Jj, Jh, Ji, Jf, Je, *]; rfl) (by rfl) (by simp [nev, nevA, nevB, Jo, PF.eval, PF.get, PF.wants, cPV, cCell, PV.rows, evBin, evUn, Jp, evLen, loadA, Jm, TyK.agg, partA, St.box?, St.tok?, St.setBox, St.setTok, fillO, spl, PV.ps, PV.one, Jn, aggD, slD, Jg, Jj, Jh, Ji, Jf, Je, *]; rfl) (by simp [PV.ps, aggD, slD, Jg, Jj, Jh, Ji, Jf, Je]; rfl) (by first | rfl | (simp [*]; done) | (simp [PV.one, *]; done) | fail) (by simp; rfl) (by first | (simp; done) | fail) (by simp [nev, nevA, nevB, Jo, PF.eval, PF.get, PF.wants, cPV, cCell, PV.rows, evBin, evUn, Jp, evLen, loadA, Jm, TyK.agg, partA, St.box?, St.tok?, St.setBox, St.setTok, fillO, spl, PV.ps, PV.one, Jn, aggD, slD, Jg, Jj, Jh, Ji, Jf, Je, *]; rfl) (by rfl) (by first | (simp; done) | fail) (by simp [St.setBox, spl, *]; rfl) (.inr ⟨⟨_, _, by simp [St.box?, *] <;> exact ⟨rfl, rfl⟩⟩, by (repeat (first | exact keepJ_nil _ | refine Jt (by simp [St.box?, *] <;> rfl) ?_))⟩) ?_
      repeat (first | with_reducible refine PL_nil ?_ | refine PL_gn2 ?_ | refine PL_s2 ?_ | refine PL_b2 ?_)
      refine ⟨i7, by simp_all, by repeat (first | exact Js _ | refine Jr (by simp [PF.get]; rfl) (by first | rfl | (simp [*]; done) | fail) ?_), by repeat (first | exact List.Sublist.refl _ | exact List.nil_sublist _ | refine List.Sublist.cons_cons _ ?_ | refine List.Sublist.cons _ ?_)⟩
  rintro i7 ⟨q1, q2, q3, q4, q5, q6⟩
  clear hlc
  cases r2 with
  | true =>
    have HF := Lib.hid (HWK.out.trans (if_pos rfl))
    rw [HF.out]
    simp only [aggD, Jk, List.map_cons, List.map_nil]
    clear HWK HF HGO
    refine go_ ?_
    refine Rc ?_
    refine go_ ?_
    refine Jl (st' := (.box iW 147 [.d (.v (.int .i64 r3)), .d (.v (.bool r4)), .fn (.func f) [] cap] :: X)) (by simp) (by simp only [Try.results143]; rfl) (by simp [resP, St.box?, PF.get, Jm, TyK.agg, *]; rfl) (by repeat (first | exact List.Sublist.refl _ | exact List.nil_sublist _ | refine List.Sublist.cons_cons _ ?_ | refine List.Sublist.cons _ ?_)) ?_
    exact ⟨by simp [tupP, PV.norm2, PV.norm1, PV.norm0], rfl⟩
  | false =>
  have hz := HGO.out rfl
  simp only [Prod.mk.injEq] at hz
  obtain ⟨rfl, -, rfl, rfl⟩ := hz
  have HF := Lib.hid (HWK.out.trans (if_neg (by decide)))
  rw [HF.out]
  clear HWK HF HGO res
  obtain ⟨R, hR⟩ : ∃ R, R = wkL lf k sub 0 b (r3 - 1) (decide (r3 - 1 < 0)) := ⟨_, rfl⟩
  rw [← hR]
  have hw := wr64 (n := r3 - 1) (by omega) (by omega)
  obtain ⟨G0, hG0⟩ : ∃ G0, G0 = decide (r3 - 1 < 0) := ⟨_, rfl⟩
  rw [← hG0] at hR
  have HI := Lib.hid (show LInv (r3 - 1) G0 from ⟨by omega, by omega, fun hd => by rw [hG0] at hd; have := of_decide_eq_false hd; omega⟩)
  have HR : Hid (R = ([] ++ (wkL lf k (sub.drop 0) 0 b (r3 - 1) G0).1, (wkL lf k (sub.drop 0) 0 b (r3 - 1) G0).2)) := hR
  clear hR
  simp only [aggD, Jk, List.map_cons, List.map_nil, Ju, Jv, Jw]
  refine gs_ ?_
  refine Qc ?_
  refine gs_ ?_
  refine Qc ?_
  refine go_ ?_
  refine Rc ?_
  refine gs_ ?_
  have HG0 := Lib.hid hG0
  generalize r3 - 1 = L1 at *
  refine PW_cut2 [(0, .ptr iW 0), (2, .d (.v (.int .i64 b))), (4, .ptr i4 0), (6, .ptr i6 0)] (.box i6 28 [.d (.v (.int .i64 0)), .d (.v (.int .i64 0)), .nils] :: .box i4 28 [.d (.v (.int .i64 k)), .d (.v (.int .i64 n)), .d (.sl (sub.map encD))] :: .box iW 147 [.d (.v (.int .i64 L1)), .d (.v (.bool G0)), .fn (.func f) [] cap] :: X) ?_ ?_
  rotate_left
  · by_cases hlt0 : L1 < 0
    · rw [decide_eq_true hlt0] at hG0
      subst hG0
      refine Qc ?_
      refine go_ ?_
      refine Rc ?_
      refine gs_ ?_
      exact ⟨by repeat (first | exact Js _ | refine Jr (by simp [PF.get]; rfl) (by first | rfl | (simp [*]; done) | fail) ?_), by repeat (first | exact List.Sublist.refl _ | exact List.nil_sublist _ | refine List.Sublist.cons_cons _ ?_ | refine List.Sublist.cons _ ?_)⟩
    · rw [decide_eq_false hlt0] at hG0
      subst hG0
      refine Qc ?_
      refine gs_ ?_
      exact ⟨by repeat (first | exact Js _ | refine Jr (by simp [PF.get]; rfl) (by first | rfl | (simp [*]; done) | fail) ?_), by repeat (first | exact List.Sublist.refl _ | exact List.nil_sublist _ | refine List.Sublist.cons_cons _ ?_ | refine List.Sublist.cons _ ?_)⟩
  clear hG0 HG0
  refine go_ ?_
  refine Jd ?_
  intro i9 hi9
  try simp only [Rh, Rg, Rf, Ja] at hi9
  refine go_ ?_
  refine Rc ?_
  refine go_ ?_
  refine PW_ownB i9 2 28 3    (by simp [nev, nevA, nevB, Jo, PF.eval, PF.get, PF.wants, cPV, cCell, PV.rows, evBin, evUn, Jp, evLen, loadA, Jm, TyK.agg, partA, St.box?, St.tok?, St.setBox, St.setTok, fillO, spl, PV.ps, PV.one, Jn, aggD, slD, Jg, Jj, Jh, Ji, Jf, Je, *]; rfl) (by rfl) (by rfl) (by intro g; simp [St.setBox, *]; rfl) (by decide) ?_
  intro g hg
  refine PW_loop (ι := Nat × List Tm × Int × Bool) (fun y => y.1 ≤ sub.length ∧ y.2.1.length ≤ y.1 ∧ Hid (LInv y.2.2.1 y.2.2.2) ∧ Hid (R = (y.2.1 ++ (wkL lf k (sub.drop y.1) y.1 b y.2.2.1 y.2.2.2).1, (wkL lf k (sub.drop y.1) y.1 b y.2.2.1 y.2.2.2).2))) (fun y => [(0, .ptr iW 0), (2, .d (.v (.int .i64 b))), (4, .ptr i4 0), (6, .ptr i6 0), (9, .ptr i9 0), (51, .d (.sl (sub.map encD))), (52, .d (.v (.int .i64 sub.length))), (53, .d (.v (.int .i64 (y.1 : Int))))]) (fun y => .tok g 28 3 y.2.1.length :: .box i9 28 [.d (.v (.int .i64 k)), .d (.v (.int .i64 n)), .own g (y.2.1.map encD)] :: .box i6 28 [.d (.v (.int .i64 0)), .d (.v (.int .i64 0)), .nils] :: .box i4 28 [.d (.v (.int .i64 k)), .d (.v (.int .i64 n)), .d (.sl (sub.map encD))] :: .box iW 147 [.d (.v (.int .i64 y.2.2.1)), .d (.v (.bool y.2.2.2)), .fn (.func f) [] cap] :: X) (fun y => sub.length - y.1) (0, [], L1, G0) ⟨Nat.zero_le _, Nat.le_refl _, HI.out, HR.out⟩ ?_ ?_ ?_
  · repeat (first | exact Js _ | refine Jr (by simp [PF.get]; rfl) (by first | rfl | (simp [*]; done) | fail) ?_)
  · repeat (first | exact List.Sublist.refl _ | exact List.nil_sublist _ | refine List.Sublist.cons_cons _ ?_ | refine List.Sublist.cons _ ?_)
  rintro ⟨j, o, L2, G2⟩ ⟨hj, ho, hI, hR⟩
  simp only at hj ho hI hR ⊢
  clear HR HI
  by_cases hlt : j < sub.length
  · have hx := get_enc hlt
    have hc : (j : Int) < sub.length := by omega
    have hn0 : (0 : Int) ≤ j := by omega
    have hin := wr64 (n := (j : Int) + 1) (by omega) (by omega)
    have hR2 := hR.out
    rw [wkL_step hlt] at hR2
    have hmem := List.getElem_mem hlt
    have hol : o.length ≤ 100 := by omega
    have HO := Lib.hid ho
    clear hR ho
    by_cases hj1 : (j : Int) = 1
    · have hjb : ((j : Int) == 1) = true := by rw [beq_iff_eq]; exact hj1
      by_cases hk5 : k = 5
      · have hk5b : (k != 5) = false := by rw [hk5]; rfl
        have hbe := ben_no (k := k) (j := j) (fun h => h.2 hk5)
        have hc1 := IH.out _ hmem (b) L2 G2 (HG.out _ hmem) (by omega) (by have := HH.out _ hmem; have := HBH.out; omega) hI.out
        have hI2 := Lib.hid (wk_inv lf sub[j] (b) L2 G2 hI.out)
        have hM : b + benB k j = b := by omega
        rw [hM] at hR2
        simp only [aggD, Jk, List.map_cons, List.map_nil] at hc1
        have HC1 := Lib.hid hc1
        generalize wkT lf sub[j] (b) L2 G2 = y at *
        obtain ⟨y, L3, G3⟩ := y
        simp only at hR2 HC1 hI2
        have hR3 : Hid (R = ((o ++ [y]) ++ (wkL lf k (sub.drop (j + 1)) (j + 1) b L3 G3).1, (wkL lf k (sub.drop (j + 1)) (j + 1) b L3 G3).2)) := by show _ = _; rw [hR2, List.append_assoc]; try rfl
        clear hR2 hc1 hM hbe hmem hj1 hk5 hI
        refine go_ ?_
        refine Jd ?_
        intro i11 hi11
        try simp only [Rh, Rg, Rf, Ja] at hi11
        refine go_ ?_
        refine Rc ?_
        refine go_ ?_
        refine PW_drawnL (J := keepJ [(i9, _), (i11, _)]) [(0, .a), (1, .a), (2, .a), (3, .a), (4, .a), (5, .e), (6, .a), (7, .e), (8, .a), (9, .e)] (by kernel_rfl) (by rfl) (by kernel_rfl) (by (repeat (first | exact keepJ_nil _ | refine Jt (by simp [St.box?, *] <;> rfl) ?_))) ?_
        repeat (first | with_reducible refine PL_nil ?_ | refine PL_gn2 ?_ | refine PL_s2 ?_ | refine PL_b2 ?_)
        refine PL_callX 5 (X.length + 1) HC1.out (L := [.box i11 28 [.d (.v (.int .i64 sub[j].kind)), .d (.v (.int .i64 sub[j].num)), .d (.sl (sub[j].sub.map encD))], .tok g 28 3 o.length, .box i9 28 [.d (.v (.int .i64 k)), .d (.v (.int .i64 n)), .own g (o.map encD)], .box i6 28 [.d (.v (.int .i64 0)), .d (.v (.int .i64 0)), .nils], .box i4 28 [.d (.v (.int .i64 k)), .d (.v (.int .i64 n)), .d (.sl (sub.map encD))]]) (M := []) ?_ (hL := rfl) (h0 := by simp) (hM := by simp)
        rintro p s ⟨rfl, rfl⟩
        simp only [List.cons_append, List.nil_append, List.append_nil]
        refine ⟨.inr (by (repeat (first | exact keepJ_nil _ | refine Jt (by simp [St.box?, *] <;> rfl) ?_))), ?_⟩
        repeat (first | with_reducible refine PL_nil ?_ | refine PL_gn2 ?_ | refine PL_s2 ?_ | refine PL_b2 ?_)
        refine PL_bs ?_ rfl (by decide) rfl (by simp; rfl) (by rfl) (by simp; rfl) (by rfl) (by decide) (by decide) (by simp [nev, nevA, nevB, Jo, PF.eval, PF.get, PF.wants, cPV, cCell, PV.rows, evBin, evUn, Jp, evLen, loadA, Jm, TyK.agg, partA, St.box?, St.tok?, St.setBox, St.setTok, fillO, spl, PV.ps, PV.one, Jn, aggD, slD, Jg, Jj, Jh, Ji, Jf, Je, *]; rfl) (by simp [rowsOf, toDs, PV.toD]; rfl)
        refine PL_app (o.length + 1) ?_ ?_ ?_ ?_ ?_
        rotate_left
        · exact rows3 _
        · exact rows_one rfl
        · simp
        · exact .inr (by (repeat (first | exact keepJ_nil _ | refine Jt (by simp [St.box?, *] <;> rfl) ?_)))
        repeat (first | with_reducible refine PL_nil ?_ | refine PL_gn2 ?_ | refine PL_s2 ?_ | refine PL_b2 ?_)
        refine PL_store rfl rfl (by simp [nev, nevA, nevB, Jo, PF.eval, PF.get, PF.wants, cPV, cCell, PV.rows, evBin, evUn, Jp, evLen, loadA, Jm, TyK.agg, partA, St.box?, St.tok?, St.setBox, St.setTok, fillO, spl, PV.ps, PV.one, Jn, aggD, slD, Jg, Jj, Jh, Ji, Jf, Je, *]; rfl) (by rfl) (by simp [nev, nevA, nevB, Jo, PF.eval, PF.get, PF.wants, cPV, cCell, PV.rows, evBin, evUn, Jp, evLen, loadA, Jm, TyK.agg, partA, St.box?, St.tok?, St.setBox, St.setTok, fillO, spl, PV.ps, PV.one, Jn, aggD, slD, Jg, Jj, Jh, Ji, Jf, Je, *]; rfl) (by simp [PV.ps, aggD, slD, Jg, Jj, Jh, Ji, Jf, Je]; rfl) (by first | rfl | (simp [*]; done) | (simp [PV.one, *]; done) | fail) (by simp; rfl) (by first | (simp; done) | fail) (by simp [nev, nevA, nevB, Jo, PF.eval, PF.get, PF.wants, cPV, cCell, PV.rows, evBin, evUn, Jp, evLen, loadA, Jm, TyK.agg, partA, St.box?, St.tok?, St.setBox, St.setTok, fillO, spl, PV.ps, PV.one, Jn, aggD, slD, Jg, Jj, Jh, Ji, Jf, Je, *]; rfl) (by rfl) (by first | (simp; done) | fail) (by simp [St.setBox, spl, *]; rfl) (by first | exact .inl (by decide +kernel) | exact .inr (by (repeat (first | exact keepJ_nil _ | refine Jt (by simp [St.box?, *] <;> rfl) ?_)))) ?_
        repeat (first | with_reducible refine PL_nil ?_ | refine PL_gn2 ?_ | refine PL_s2 ?_ | refine PL_b2 ?_)
        refine go_ ?_
        refine ⟨(j + 1, o ++ [y], L3, G3), ⟨hlt, by have := HO.out; simp only [List.length_append, List.length_singleton]; omega, hI2, hR3⟩, by simp only; omega, by repeat (first | exact Js _ | refine Jr (by simp [PF.get]; rfl) (by first | rfl | (simp [*]; done) | fail) ?_), ?_⟩
        simp only [List.length_append, List.length_singleton, List.map_append, List.map_cons, List.map_nil, Jk y]
        repeat (first | exact List.Sublist.refl _ | exact List.nil_sublist _ | refine List.Sublist.cons_cons _ ?_ | refine List.Sublist.cons _ ?_)
      · have hk5b : (k != 5) = true := by rw [bne_iff_ne]; exact hk5
        have hbe := ben_yes (k := k) (j := j) ⟨hj1, hk5⟩
        have hc1 := IH.out _ hmem (b + 1) L2 G2 (HG.out _ hmem) (by omega) (by have := HH.out _ hmem; have := HBH.out; omega) hI.out
        have hI2 := Lib.hid (wk_inv lf sub[j] (b + 1) L2 G2 hI.out)
        have hM : b + benB k j = b + 1 := by omega
        rw [hM] at hR2
        simp only [aggD, Jk, List.map_cons, List.map_nil] at hc1
        have HC1 := Lib.hid hc1
        have hwb := wr64 (n := b + 1) (by omega) (by have := HBH.out; omega)
        generalize wkT lf sub[j] (b + 1) L2 G2 = y at *
        obtain ⟨y, L3, G3⟩ := y
        simp only at hR2 HC1 hI2
        have hR3 : Hid (R = ((o ++ [y]) ++ (wkL lf k (sub.drop (j + 1)) (j + 1) b L3 G3).1, (wkL lf k (sub.drop (j + 1)) (j + 1) b L3 G3).2)) := by show _ = _; rw [hR2, List.append_assoc]; try rfl
        clear hR2 hc1 hM hbe hmem hj1 hk5 hI
        refine go_ ?_
        refine Jd ?_
        intro i11 hi11
        try simp only [Rh, Rg, Rf, Ja] at hi11
        refine go_ ?_
        refine Rc ?_
        refine go_ ?_
        refine PW_drawnL (J := keepJ [(i9, _), (i11, _)]) [(0, .a), (1, .a), (2, .a), (3, .a), (4, .a), (5, .e), (6, .a), (7, .e), (8, .a), (9, .e)] (by kernel_rfl) (by rfl) (by kernel_rfl) (by (repeat (first | exact keepJ_nil _ | refine Jt (by simp [St.box?, *] <;> rfl) ?_))) ?_
        repeat (first | with_reducible refine PL_nil ?_ | refine PL_gn2 ?_ | refine PL_s2 ?_ | refine PL_b2 ?_)
        refine PL_callX 5 (X.length + 1) HC1.out (L := [.box i11 28 [.d (.v (.int .i64 sub[j].kind)), .d (.v (.int .i64 sub[j].num)), .d (.sl (sub[j].sub.map encD))], .tok g 28 3 o.length, .box i9 28 [.d (.v (.int .i64 k)), .d (.v (.int .i64 n)), .own g (o.map encD)], .box i6 28 [.d (.v (.int .i64 0)), .d (.v (.int .i64 0)), .nils], .box i4 28 [.d (.v (.int .i64 k)), .d (.v (.int .i64 n)), .d (.sl (sub.map encD))]]) (M := []) ?_ (hL := rfl) (h0 := by simp) (hM := by simp)
        rintro p s ⟨rfl, rfl⟩
        simp only [List.cons_append, List.nil_append, List.append_nil]
        refine ⟨.inr (by (repeat (first | exact keepJ_nil _ | refine Jt (by simp [St.box?, *] <;> rfl) ?_))), ?_⟩
        repeat (first | with_reducible refine PL_nil ?_ | refine PL_gn2 ?_ | refine PL_s2 ?_ | refine PL_b2 ?_)
        refine PL_bs ?_ rfl (by decide) rfl (by simp; rfl) (by rfl) (by simp; rfl) (by rfl) (by decide) (by decide) (by simp [nev, nevA, nevB, Jo, PF.eval, PF.get, PF.wants, cPV, cCell, PV.rows, evBin, evUn, Jp, evLen, loadA, Jm, TyK.agg, partA, St.box?, St.tok?, St.setBox, St.setTok, fillO, spl, PV.ps, PV.one, Jn, aggD, slD, Jg, Jj, Jh, Ji, Jf, Je, *]; rfl) (by simp [rowsOf, toDs, PV.toD]; rfl)
        refine PL_app (o.length + 1) ?_ ?_ ?_ ?_ ?_
        rotate_left
        · exact rows3 _
        · exact rows_one rfl
        · simp
        · exact .inr (by (repeat (first | exact keepJ_nil _ | refine Jt (by simp [St.box?, *] <;> rfl) ?_)))
        repeat (first | with_reducible refine PL_nil ?_ | refine PL_gn2 ?_ | refine PL_s2 ?_ | refine PL_b2 ?_)
        refine PL_store rfl rfl (by simp [nev, nevA, nevB, Jo, PF.eval, PF.get, PF.wants, cPV, cCell, PV.rows, evBin, evUn, Jp, evLen, loadA, Jm, TyK.agg, partA, St.box?, St.tok?, St.setBox, St.setTok, fillO, spl, PV.ps, PV.one, Jn, aggD, slD, Jg, Jj, Jh, Ji, Jf, Je, *]; rfl) (by rfl) (by simp [nev, nevA, nevB, Jo, PF.eval, PF.get, PF.wants, cPV, cCell, PV.rows, evBin, evUn, Jp, evLen, loadA, Jm, TyK.agg, partA, St.box?, St.tok?, St.setBox, St.setTok, fillO, spl, PV.ps, PV.one, Jn, aggD, slD, Jg, Jj, Jh, Ji, Jf, Je, *]; rfl) (by simp [PV.ps, aggD, slD, Jg, Jj, Jh, Ji, Jf, Je]; rfl) (by first | rfl | (simp [*]; done) | (simp [PV.one, *]; done) | fail) (by simp; rfl) (by first | (simp; done) | fail) (by simp [nev, nevA, nevB, Jo, PF.eval, PF.get, PF.wants, cPV, cCell, PV.rows, evBin, evUn, Jp, evLen, loadA, Jm, TyK.agg, partA, St.box?, St.tok?, St.setBox, St.setTok, fillO, spl, PV.ps, PV.one, Jn, aggD, slD, Jg, Jj, Jh, Ji, Jf, Je, *]; rfl) (by rfl) (by first | (simp; done) | fail) (by simp [St.setBox, spl, *]; rfl) (by first | exact .inl (by decide +kernel) | exact .inr (by (repeat (first | exact keepJ_nil _ | refine Jt (by simp [St.box?, *] <;> rfl) ?_)))) ?_
        repeat (first | with_reducible refine PL_nil ?_ | refine PL_gn2 ?_ | refine PL_s2 ?_ | refine PL_b2 ?_)
        refine go_ ?_
        refine ⟨(j + 1, o ++ [y], L3, G3), ⟨hlt, by have := HO.out; simp only [List.length_append, List.length_singleton]; omega, hI2, hR3⟩, by simp only; omega, by repeat (first | exact Js _ | refine Jr (by simp [PF.get]; rfl) (by first | rfl | (simp [*]; done) | fail) ?_), ?_⟩
        simp only [List.length_append, List.length_singleton, List.map_append, List.map_cons, List.map_nil, Jk y]
        repeat (first | exact List.Sublist.refl _ | exact List.nil_sublist _ | refine List.Sublist.cons_cons _ ?_ | refine List.Sublist.cons _ ?_)
    · have hjb : ((j : Int) == 1) = false := by rw [beq_eq_false_iff_ne]; exact hj1
      have hbe := ben_no (k := k) (j := j) (fun h => hj1 h.1)
      have hc1 := IH.out _ hmem (b) L2 G2 (HG.out _ hmem) (by omega) (by have := HH.out _ hmem; have := HBH.out; omega) hI.out
      have hI2 := Lib.hid (wk_inv lf sub[j] (b) L2 G2 hI.out)
      have hM : b + benB k j = b := by omega
      rw [hM] at hR2
      simp only [aggD, Jk, List.map_cons, List.map_nil] at hc1
      have HC1 := Lib.hid hc1
      generalize wkT lf sub[j] (b) L2 G2 = y at *
      obtain ⟨y, L3, G3⟩ := y
      simp only at hR2 HC1 hI2
      have hR3 : Hid (R = ((o ++ [y]) ++ (wkL lf k (sub.drop (j + 1)) (j + 1) b L3 G3).1, (wkL lf k (sub.drop (j + 1)) (j + 1) b L3 G3).2)) := by show _ = _; rw [hR2, List.append_assoc]; try rfl
      clear hR2 hc1 hM hbe hmem hj1 hI
      refine go_ ?_
      refine Jd ?_
      intro i11 hi11
      try simp only [Rh, Rg, Rf, Ja] at hi11
      refine go_ ?_
      refine Rc ?_
      refine go_ ?_
      refine PW_drawnL (J := keepJ [(i9, _), (i11, _)]) [(0, .a), (1, .a), (2, .a), (3, .a), (4, .a), (5, .e), (6, .a), (7, .e), (8, .a), (9, .e)] (by kernel_rfl) (by rfl) (by kernel_rfl) (by (repeat (first | exact keepJ_nil _ | refine Jt (by simp [St.box?, *] <;> rfl) ?_))) ?_
      repeat (first | with_reducible refine PL_nil ?_ | refine PL_gn2 ?_ | refine PL_s2 ?_ | refine PL_b2 ?_)
      refine PL_callX 5 (X.length + 1) HC1.out (L := [.box i11 28 [.d (.v (.int .i64 sub[j].kind)), .d (.v (.int .i64 sub[j].num)), .d (.sl (sub[j].sub.map encD))], .tok g 28 3 o.length, .box i9 28 [.d (.v (.int .i64 k)), .d (.v (.int .i64 n)), .own g (o.map encD)], .box i6 28 [.d (.v (.int .i64 0)), .d (.v (.int .i64 0)), .nils], .box i4 28 [.d (.v (.int .i64 k)), .d (.v (.int .i64 n)), .d (.sl (sub.map encD))]]) (M := []) ?_ (hL := rfl) (h0 := by simp) (hM := by simp)
      rintro p s ⟨rfl, rfl⟩
      simp only [List.cons_append, List.nil_append, List.append_nil]
      refine ⟨.inr (by (repeat (first | exact keepJ_nil _ | refine Jt (by simp [St.box?, *] <;> rfl) ?_))), ?_⟩
      repeat (first | with_reducible refine PL_nil ?_ | refine PL_gn2 ?_ | refine PL_s2 ?_ | refine PL_b2 ?_)
      refine PL_bs ?_ rfl (by decide) rfl (by simp; rfl) (by rfl) (by simp; rfl) (by rfl) (by decide) (by decide) (by simp [nev, nevA, nevB, Jo, PF.eval, PF.get, PF.wants, cPV, cCell, PV.rows, evBin, evUn, Jp, evLen, loadA, Jm, TyK.agg, partA, St.box?, St.tok?, St.setBox, St.setTok, fillO, spl, PV.ps, PV.one, Jn, aggD, slD, Jg, Jj, Jh, Ji, Jf, Je, *]; rfl) (by simp [rowsOf, toDs, PV.toD]; rfl)
      refine PL_app (o.length + 1) ?_ ?_ ?_ ?_ ?_
      rotate_left
      · exact rows3 _
      · exact rows_one rfl
      · simp
      · exact .inr (by (repeat (first | exact keepJ_nil _ | refine Jt (by simp [St.box?, *] <;> rfl) ?_)))
      repeat (first | with_reducible refine PL_nil ?_ | refine PL_gn2 ?_ | refine PL_s2 ?_ | refine PL_b2 ?_)
      refine PL_store rfl rfl (by simp [nev, nevA, nevB, Jo, PF.eval, PF.get, PF.wants, cPV, cCell, PV.rows, evBin, evUn, Jp, evLen, loadA, Jm, TyK.agg, partA, St.box?, St.tok?, St.setBox, St.setTok, fillO, spl, PV.ps, PV.one, Jn, aggD, slD, Jg, Jj, Jh, Ji, Jf, Je, *]; rfl) (by rfl) (by simp [nev, nevA, nevB, Jo, PF.eval, PF.get, PF.wants, cPV, cCell, PV.rows, evBin, evUn, Jp, evLen, loadA, Jm, TyK.agg, partA, St.box?, St.tok?, St.setBox, St.setTok, fillO, spl, PV.ps, PV.one, Jn, aggD, slD, Jg, Jj, Jh, Ji, Jf, Je, *]; rfl) (by simp [PV.ps, aggD, slD, Jg, Jj, Jh, Ji, Jf, Je]; rfl) (by first | rfl | (simp [*]; done) | (simp [PV.one, *]; done) | fail) (by simp; rfl) (by first | (simp; done) | fail) (by simp [nev, nevA, nevB, Jo, PF.eval, PF.get, PF.wants, cPV, cCell, PV.rows, evBin, evUn, Jp, evLen, loadA, Jm, TyK.agg, partA, St.box?, St.tok?, St.setBox, St.setTok, fillO, spl, PV.ps, PV.one, Jn, aggD, slD, Jg, Jj, Jh, Ji, Jf, Je, *]; rfl) (by rfl) (by first | (simp; done) | fail) (by simp [St.setBox, spl, *]; rfl) (by first | exact .inl (by decide +kernel) | exact .inr (by (repeat (first | exact keepJ_nil _ | refine Jt (by simp [St.box?, *] <;> rfl) ?_)))) ?_
      repeat (first | with_reducible refine PL_nil ?_ | refine PL_gn2 ?_ | refine PL_s2 ?_ | refine PL_b2 ?_)
      refine go_ ?_
      refine ⟨(j + 1, o ++ [y], L3, G3), ⟨hlt, by have := HO.out; simp only [List.length_append, List.length_singleton]; omega, hI2, hR3⟩, by simp only; omega, by repeat (first | exact Js _ | refine Jr (by simp [PF.get]; rfl) (by first | rfl | (simp [*]; done) | fail) ?_), ?_⟩
      simp only [List.length_append, List.length_singleton, List.map_append, List.map_cons, List.map_nil, Jk y]
      repeat (first | exact List.Sublist.refl _ | exact List.nil_sublist _ | refine List.Sublist.cons_cons _ ?_ | refine List.Sublist.cons _ ?_)
  · have hc : ¬ (j : Int) < sub.length := by omega
    have hf : Hid (R = (o, L2, G2)) := by show _ = _; rw [show R = _ from hR.out, List.drop_of_length_le (by omega)]; simp only [wkL, List.append_nil]
    clear hR
    rw [hf.out]
    refine go_ ?_
    refine Rc ?_
    refine go_ ?_
    refine Jl (st' := (.box iW 147 [.d (.v (.int .i64 L2)), .d (.v (.bool G2)), .fn (.func f) [] cap] :: X)) (by simp) (by simp only [Try.results143]; rfl) (by simp [resP, St.box?, PF.get, Jm, TyK.agg, *]; rfl) (by repeat (first | exact List.Sublist.refl _ | exact List.nil_sublist _ | refine List.Sublist.cons_cons _ ?_ | refine List.Sublist.cons _ ?_)) ?_
    exact ⟨by simp [tupP, PV.norm2, PV.norm1, PV.norm0], rfl⟩
end Go.Proofs.Ytfnfbbmegdkhjaa

namespace Go.Proofs.Ytfnfbbmegdkhjaa
open Go.RowKit
set_option maxRecDepth 100000
/-- a leaf's question, answered by a function value beside a walker -/
def LeafOk (f : FuncId) (cap : List PV) (X : St) (iW : Nat) (lf : Tm → Int → Lf) : Prop :=
  cap.map PV.norm1 = cap ∧ ((iW :: X.filterMap Ent.bid).Nodup → ∀ (t : Tm) (b L : Int), goodB t = true → 0 ≤ b → b + chgT t ≤ 1000 → 0 ≤ L → L ≤ 8192 → PCalls Try.prog f (aggD t :: .d (.v (.int .i64 b)) :: cap) (.box iW 147 [.d (.v (.int .i64 L)), .d (.v (.bool false)), .fn (.func f) [] cap] :: X)
      fun p s => p = .tup [aggD (leafR lf t b L).1, .d (.v (.bool (leafR lf t b L).2.1))] ∧ s = .box iW 147 [.d (.v (.int .i64 (leafR lf t b L).2.2.1)), .d (.v (.bool (leafR lf t b L).2.2.2)), .fn (.func f) [] cap] :: X)
set_option maxHeartbeats 32000000 in
theorem srun_p (f1 f2 : FuncId) (cap : List PV) (C0 : St) (lf : Tm → Int → Lf) (hca1 : callable Try.prog f1 = true) (hca2 : callable Try.prog f2 = true) (hcap : cap.map PV.norm1 = cap) (hu : UpIn lf)
    (h1 : ∀ iW, PCalls Try.prog f1 (.ptr iW 0 :: cap) [] fun p s => ∃ cap2 M, p = .fn (.func f2) [] cap2 ∧ s = M ∧ LeafOk f2 cap2 (M ++ C0) iW lf) (t : Tm) (hg : goodB t = true) (hh : chgT t ≤ 128) :
    PCalls Try.prog 117 [aggD t, .fn (.func f1) [] cap] C0 fun p s => p = trP (doneS (subT lf t 0)) ∧ s = C0 := by
  have HCA := Lib.hid hca1
  have HCP := Lib.hid hcap
  have H1 := Lib.hid h1
  have HD := Lib.hid (wk_done hu t hh)
  have HWK := Lib.hid (fun (cap2 : List PV) (X : St) (iW : Nat) (hl : LeafOk f2 cap2 X iW lf) (hn : (iW :: X.filterMap Ent.bid).Nodup) => swalk_p f2 cap2 X iW lf hca2 hl.1 (hl.2 hn) t 0 8192 false hg (by decide) (by omega) ⟨by decide, by decide, fun _ => by decide⟩)
  clear hca1 hcap h1 hca2 hu hg hh
  rw [← HD.out]
  clear HD
  generalize wkT lf t 0 8192 false = r at *
  obtain ⟨r1, r2, r3⟩ := r
  have hS := Lib.hid (tshaped_p r1)
  simp only [aggD, Jk, List.map_cons, List.map_nil, trP] at HWK hS ⊢
  refine PCalls.enter Try.func117 rfl Try.ntmps117 (by simp) ?_
  simp only [argsF]
  refine go_ ?_
  refine Jc ?_
  intro i2 hi2
  try simp only [Rh, Rg, Rf, Ja] at hi2
  refine go_ ?_
  refine Jd ?_
  intro i4 hi4
  try simp only [Rh, Rg, Rf, Ja] at hi4
  refine go_ ?_
  refine Jc ?_
  intro i9 hi9
  try simp only [Rh, Rg, Rf, Ja] at hi9
  refine gs_ ?_
  have hne1 : i4 ≠ i9 ∧ i9 ≠ i4 := by simp_all
  have hne2 : i2 ≠ i9 ∧ i9 ≠ i2 := by simp_all
  have hne3 : i2 ≠ i4 ∧ i4 ≠ i2 := by simp_all
  clear hi2 hi4 hi9
  refine PW_perm (.box i4 28 [.d (.v (.int .i64 0)), .d (.v (.int .i64 0)), .nils] :: .box i2 28 [.d (.v (.int .i64 t.kind)), .d (.v (.int .i64 t.num)), .d (.sl (t.sub.map encD))] :: .box i9 147 [.d (.v (.int .i64 8192)), .d (.v (.bool false)), .d (.v .nilFunc)] :: C0) ((List.Perm.swap _ _ _).trans ((List.Perm.swap _ _ _).cons _)) ?_
  refine Qc ?_
  refine go_ ?_
  refine POps_callC 3 0 (H1.out i9) ?_ HCA.out (hn := by simp [PV.norm1, PV.norm0, HCP.out])
  rintro p s ⟨cap2, M, rfl, rfl, hlo⟩
  simp only [List.cons_append, List.nil_append, List.append_nil, Rh, Rg, Rf]
  refine gs_ ?_
  refine Rc ?_
  refine gs_ ?_
  refine PW_nodupV fun hnd => ?_
  rw [bidn_box, bidn_box, bidn_box] at hnd
  have hnd2 := Lib.hid (List.nodup_cons.1 (List.nodup_cons.1 hnd).2).2
  have HW2 := Lib.hid (HWK.out cap2 _ i9 hlo hnd2.out)
  clear hnd hnd2 hlo
  refine Qc ?_
  refine go_ ?_
  refine Rd 2 ((s ++ C0).length + 1) HW2.out ?_ (L := [.box i4 28 [.d (.v (.int .i64 0)), .d (.v (.int .i64 0)), .nils], .box i2 28 [.d (.v (.int .i64 t.kind)), .d (.v (.int .i64 t.num)), .d (.sl (t.sub.map encD))]]) (M := []) (hL := rfl) (h0 := by show List.take ((s ++ C0).length + 1) (_ :: (s ++ C0)) = _; rw [List.take_succ_cons, List.take_length]) (hM := by show List.drop ((s ++ C0).length + 1) (_ :: (s ++ C0)) = _; rw [List.drop_succ_cons, List.drop_length])
  rintro p s2 ⟨rfl, rfl⟩
  simp only [List.cons_append, List.nil_append, List.append_nil]
  refine go_ ?_
  refine Jd ?_
  intro i7 hi7
  try simp only [Rh, Rg, Rf, Ja] at hi7
  refine go_ ?_
  refine Rc ?_
  refine go_ ?_
  cases r3 with
  | true =>
    simp only [if_true, Ju, Jv, Jw, List.map_nil]
    refine go_ ?_
    refine Rc ?_
    refine go_ ?_
    refine Jl (st' := C0) (by simp) (by simp only [Try.results117]; rfl) (by simp [resP, St.box?, PF.get, Jm, TyK.agg, *]; rfl) ?_ ?_
    · exact ((List.sublist_append_right s C0).cons _).cons _ |>.cons _ |>.cons _
    · exact ⟨by simp [tupP, PV.norm2, PV.norm1, PV.norm0], rfl⟩
  | false =>
    cases hsh : shapedB r1 with
    | false =>
      rw [hsh] at hS
      simp only [Bool.false_eq_true, if_false, doneS, hsh, Ju, Jv, Jw, List.map_nil]
      clear hsh
      refine go_ ?_
      refine Jq (hS.out) ?_
      refine go_ ?_
      refine Rc ?_
      refine go_ ?_
      refine Jl (st' := C0) (by simp) (by simp only [Try.results117]; rfl) (by simp [resP, St.box?, PF.get, Jm, TyK.agg, *]; rfl) ?_ ?_
      · exact ((List.sublist_append_right s C0).cons _).cons _ |>.cons _ |>.cons _
      · exact ⟨by simp [tupP, PV.norm2, PV.norm1, PV.norm0], rfl⟩
    | true =>
      rw [hsh] at hS
      simp only [Bool.false_eq_true, if_false, if_true, doneS, hsh]
      clear hsh
      refine go_ ?_
      refine Jq (hS.out) ?_
      refine go_ ?_
      refine Rc ?_
      refine go_ ?_
      refine Jl (st' := C0) (by simp) (by simp only [Try.results117]; rfl) (by simp [resP, St.box?, PF.get, Jm, TyK.agg, *]; rfl) ?_ ?_
      · exact ((List.sublist_append_right s C0).cons _).cons _ |>.cons _ |>.cons _
      · exact ⟨by simp [tupP, PV.norm2, PV.norm1, PV.norm0], rfl⟩
theorem sfits_p (n : Int) : PCalls Try.prog 116 [.d (.v (.int .i64 n))] [] fun p s => p = .d (.v (.bool (fitsB n))) ∧ s = [] := by
  unfold fitsB
  by_cases h0 : 0 ≤ n
  · by_cases h1 : n ≤ 1048576
    · rw [decide_eq_true h0, decide_eq_true h1]
      refine PCalls.enter Try.func116 rfl Try.ntmps116 (by simp) ?_
      simp only [argsF]
      refine go_ ?_
      refine Jl (by simp) (by simp only [Try.results116]; rfl) (by simp [resP, St.box?, PF.get, Jm, TyK.agg, *]; rfl) (List.nil_sublist _) ?_
      exact ⟨rfl, rfl⟩
    · rw [decide_eq_true h0, decide_eq_false h1]
      refine PCalls.enter Try.func116 rfl Try.ntmps116 (by simp) ?_
      simp only [argsF]
      refine go_ ?_
      refine Jl (by simp) (by simp only [Try.results116]; rfl) (by simp [resP, St.box?, PF.get, Jm, TyK.agg, *]; rfl) (List.nil_sublist _) ?_
      exact ⟨rfl, rfl⟩
  · rw [decide_eq_false h0, Bool.false_and]
    refine PCalls.enter Try.func116 rfl Try.ntmps116 (by simp) ?_
    simp only [argsF]
    refine go_ ?_
    refine Jl (by simp) (by simp only [Try.results116]; rfl) (by simp [resP, St.box?, PF.get, Jm, TyK.agg, *]; rfl) (List.nil_sublist _) ?_
    exact ⟨rfl, rfl⟩
/-- which loose variable a node is -/
def lsV (t : Tm) (b : Int) : Int := if t.kind = 1 ∧ b ≤ t.num then t.num - b else -1
theorem sloose_p (t : Tm) (b : Int) (h0 : 0 ≤ t.num) (h1 : t.num ≤ 1048576) (hb0 : 0 ≤ b) (hb1 : b ≤ 1000) : PCalls Try.prog 125 [aggD t, .d (.v (.int .i64 b))] [] fun p s => p = .d (.v (.int .i64 (lsV t b))) ∧ s = [] := by
  have HR := Lib.hid (show lsV t b = if t.kind = 1 ∧ b ≤ t.num then t.num - b else -1 from rfl)
  have hw := wr64 (n := t.num - b) (by omega) (by omega)
  simp only [aggD, Jk, List.map_cons, List.map_nil]
  by_cases hk : t.kind = 1
  · have hkb : (t.kind != 1) = false := by rw [hk]; rfl
    by_cases hn : b ≤ t.num
    · rw [HR.out, if_pos ⟨hk, hn⟩]
      have hn' : ¬ t.num < b := by omega
      clear HR hk
      refine PCalls.enter Try.func125 rfl Try.ntmps125 (by simp) ?_
      simp only [argsF]
      refine go_ ?_
      refine Jc ?_
      intro i2 hi2
      try simp only [Rh, Rg, Rf, Ja] at hi2
      refine go_ ?_
      refine Jl (by simp) (by simp only [Try.results125]; rfl) (by simp [resP, St.box?, PF.get, Jm, TyK.agg, *]; rfl) (List.nil_sublist _) ?_
      exact ⟨rfl, rfl⟩
    · rw [HR.out, if_neg fun h => hn h.2]
      have hn' : t.num < b := by omega
      clear HR hk
      refine PCalls.enter Try.func125 rfl Try.ntmps125 (by simp) ?_
      simp only [argsF]
      refine go_ ?_
      refine Jc ?_
      intro i2 hi2
      try simp only [Rh, Rg, Rf, Ja] at hi2
      refine go_ ?_
      refine Jl (by simp) (by simp only [Try.results125]; rfl) (by simp [resP, St.box?, PF.get, Jm, TyK.agg, *]; rfl) (List.nil_sublist _) ?_
      exact ⟨rfl, rfl⟩
  · rw [HR.out, if_neg fun h => hk h.1]
    have hkb : (t.kind != 1) = true := by rw [bne_iff_ne]; exact hk
    clear HR hk
    refine PCalls.enter Try.func125 rfl Try.ntmps125 (by simp) ?_
    simp only [argsF]
    refine go_ ?_
    refine Jc ?_
    intro i2 hi2
    try simp only [Rh, Rg, Rf, Ja] at hi2
    refine go_ ?_
    refine Jl (by simp) (by simp only [Try.results125]; rfl) (by simp [resP, St.box?, PF.get, Jm, TyK.agg, *]; rfl) (List.nil_sublist _) ?_
    exact ⟨rfl, rfl⟩
theorem good_num {t : Tm} (h : goodB t = true) : 0 ≤ t.num ∧ t.num ≤ 1048576 := by
  obtain ⟨k, n, sub⟩ := t
  have := head_num (good_parts h).1
  exact ⟨this.2.2.1, this.2.2.2.1⟩
end Go.Proofs.Ytfnfbbmegdkhjaa

namespace Go.Proofs.Ytfnfbbmegdkhjaa
open Go.RowKit
set_option maxRecDepth 100000
theorem leafR_go {lf : Tm → Int → Lf} {t : Tm} {b L : Int} (h : lf t b = .go) : leafR lf t b L = (.mk 0 0 [], false, L, false) := by unfold leafR; rw [h]
theorem leafR_put {lf : Tm → Int → Lf} {t x : Tm} {b L : Int} (h : lf t b = .put x) : leafR lf t b L = (x, true, L, false) := by unfold leafR; rw [h]
theorem leafR_up {lf : Tm → Int → Lf} {t a : Tm} {b m L : Int} (h : lf t b = .up a m) : leafR lf t b L = ((upS a m L).1, true, (upS a m L).2) := by unfold leafR; rw [h]
theorem lsV_neg {t : Tm} {b : Int} (h : ¬ (t.kind = 1 ∧ b ≤ t.num)) : lsV t b = -1 := by unfold lsV; rw [if_neg h]
theorem lsV_pos {t : Tm} {b : Int} (h : t.kind = 1 ∧ b ≤ t.num) : lsV t b = t.num - b := by unfold lsV; rw [if_pos h]
set_option maxHeartbeats 16000000 in
theorem bleaf_p (n : Int) (iW i3 : Nat) (hnd : iW ≠ i3) (t : Tm) (b L : Int) (hg : goodB t = true) (hb : 0 ≤ b) (hbh : b + chgT t ≤ 1000) :
    PCalls Try.prog 138 (aggD t :: .d (.v (.int .i64 b)) :: [.ptr i3 0]) (.box iW 147 [.d (.v (.int .i64 L)), .d (.v (.bool false)), .fn (.func 138) [] [.ptr i3 0]] :: [.box i3 3 [.d (.v (.int .i64 n))]])
      fun p s => p = .tup [aggD (leafR (bindLf n) t b L).1, .d (.v (.bool (leafR (bindLf n) t b L).2.1))] ∧ s = .box iW 147 [.d (.v (.int .i64 (leafR (bindLf n) t b L).2.2.1)), .d (.v (.bool (leafR (bindLf n) t b L).2.2.2)), .fn (.func 138) [] [.ptr i3 0]] :: [.box i3 3 [.d (.v (.int .i64 n))]] := by
  obtain ⟨n0, n1⟩ := good_num hg
  have hLs := Lib.hid (sloose_p t b n0 n1 hb (by omega))
  have hnd' := hnd.symm
  by_cases h1 : t.kind = 1 ∧ b ≤ t.num
  · have hlf : bindLf n t b = .put (.mk 1 (t.num + 1) []) := by unfold bindLf; rw [if_pos h1]
    rw [leafR_put hlf]
    rw [lsV_pos h1] at hLs
    have hge : (0 : Int) ≤ t.num - b := by omega
    have hw := wr64 (n := t.num + 1) (by omega) (by omega)
    have hV := Lib.hid (tvar_p (t.num + 1))
    simp only [aggD, Jk, List.map_cons, List.map_nil, Ju, Jv, Jw] at hLs hV ⊢
    clear hlf h1 hg hbh n0 n1
    generalize t.num - b = z at *
    refine PCalls.enter Try.func138 rfl Try.ntmps138 (by simp) ?_
    simp only [argsF]
    refine go_ ?_
    refine Jc ?_
    intro j3 hj3
    try simp only [Rh, Rg, Rf, Ja] at hj3
    refine go_ ?_
    refine Jd ?_
    intro j5 hj5
    try simp only [Rh, Rg, Rf, Ja] at hj5
    refine go_ ?_
    refine Jb (hLs.out) ?_
    refine go_ ?_
    refine Jb (hV.out) ?_
    refine go_ ?_
    refine Rc ?_
    refine go_ ?_
    refine Jl (st' := (.box iW 147 [.d (.v (.int .i64 L)), .d (.v (.bool false)), .fn (.func 138) [] [.ptr i3 0]] :: [.box i3 3 [.d (.v (.int .i64 n))]])) (by simp) (by simp only [Try.results138]; rfl) (by simp [resP, St.box?, PF.get, Jm, TyK.agg, *]; rfl) (by repeat (first | exact List.Sublist.refl _ | exact List.nil_sublist _ | refine List.Sublist.cons_cons _ ?_ | refine List.Sublist.cons _ ?_)) ?_
    exact ⟨by simp [tupP, PV.norm2, PV.norm1, PV.norm0], rfl⟩
  · rw [lsV_neg h1] at hLs
    by_cases h8 : t.kind = 8 ∧ t.num = n
    · have hlf : bindLf n t b = .put (.mk 1 b []) := by unfold bindLf; rw [if_neg h1, if_pos h8]
      rw [leafR_put hlf]
      have hV := Lib.hid (tvar_p b)
      have h8a : (t.kind == 8) = true := by rw [beq_iff_eq]; exact h8.1
      have h8b : (t.num == n) = true := by rw [beq_iff_eq]; exact h8.2
      simp only [aggD, Jk, List.map_cons, List.map_nil, Ju, Jv, Jw] at hLs hV ⊢
      clear hlf h1 hg hbh n0 n1 h8
      refine PCalls.enter Try.func138 rfl Try.ntmps138 (by simp) ?_
      simp only [argsF]
      refine go_ ?_
      refine Jc ?_
      intro j3 hj3
      try simp only [Rh, Rg, Rf, Ja] at hj3
      refine go_ ?_
      refine Jd ?_
      intro j5 hj5
      try simp only [Rh, Rg, Rf, Ja] at hj5
      refine go_ ?_
      refine Jb (hLs.out) ?_
      refine go_ ?_
      refine Jb (hV.out) ?_
      refine go_ ?_
      refine Rc ?_
      refine go_ ?_
      refine Jl (st' := (.box iW 147 [.d (.v (.int .i64 L)), .d (.v (.bool false)), .fn (.func 138) [] [.ptr i3 0]] :: [.box i3 3 [.d (.v (.int .i64 n))]])) (by simp) (by simp only [Try.results138]; rfl) (by simp [resP, St.box?, PF.get, Jm, TyK.agg, *]; rfl) (by repeat (first | exact List.Sublist.refl _ | exact List.nil_sublist _ | refine List.Sublist.cons_cons _ ?_ | refine List.Sublist.cons _ ?_)) ?_
      exact ⟨by simp [tupP, PV.norm2, PV.norm1, PV.norm0], rfl⟩
    · have hlf : bindLf n t b = .go := bind_go h1 h8
      rw [leafR_go hlf]
      simp only [aggD, Jk, List.map_cons, List.map_nil, Ju, Jv, Jw] at hLs ⊢
      by_cases hk : t.kind = 8
      · have h8a : (t.kind == 8) = true := by rw [beq_iff_eq]; exact hk
        have h8b : (t.num == n) = false := by rw [beq_eq_false_iff_ne]; exact fun e => h8 ⟨hk, e⟩
        clear hlf h1 hg hbh n0 n1 h8 hk
        refine PCalls.enter Try.func138 rfl Try.ntmps138 (by simp) ?_
        simp only [argsF]
        refine go_ ?_
        refine Jc ?_
        intro j3 hj3
        try simp only [Rh, Rg, Rf, Ja] at hj3
        refine go_ ?_
        refine Jd ?_
        intro j5 hj5
        try simp only [Rh, Rg, Rf, Ja] at hj5
        refine go_ ?_
        refine Jb (hLs.out) ?_
        refine go_ ?_
        refine Rc ?_
        refine go_ ?_
        refine Jl (st' := (.box iW 147 [.d (.v (.int .i64 L)), .d (.v (.bool false)), .fn (.func 138) [] [.ptr i3 0]] :: [.box i3 3 [.d (.v (.int .i64 n))]])) (by simp) (by simp only [Try.results138]; rfl) (by simp [resP, St.box?, PF.get, Jm, TyK.agg, *]; rfl) (by repeat (first | exact List.Sublist.refl _ | exact List.nil_sublist _ | refine List.Sublist.cons_cons _ ?_ | refine List.Sublist.cons _ ?_)) ?_
        exact ⟨by simp [tupP, PV.norm2, PV.norm1, PV.norm0], rfl⟩
      · have h8a : (t.kind == 8) = false := by rw [beq_eq_false_iff_ne]; exact hk
        clear hlf h1 hg hbh n0 n1 h8 hk
        refine PCalls.enter Try.func138 rfl Try.ntmps138 (by simp) ?_
        simp only [argsF]
        refine go_ ?_
        refine Jc ?_
        intro j3 hj3
        try simp only [Rh, Rg, Rf, Ja] at hj3
        refine go_ ?_
        refine Jd ?_
        intro j5 hj5
        try simp only [Rh, Rg, Rf, Ja] at hj5
        refine go_ ?_
        refine Jb (hLs.out) ?_
        refine go_ ?_
        refine Rc ?_
        refine go_ ?_
        refine Jl (st' := (.box iW 147 [.d (.v (.int .i64 L)), .d (.v (.bool false)), .fn (.func 138) [] [.ptr i3 0]] :: [.box i3 3 [.d (.v (.int .i64 n))]])) (by simp) (by simp only [Try.results138]; rfl) (by simp [resP, St.box?, PF.get, Jm, TyK.agg, *]; rfl) (by repeat (first | exact List.Sublist.refl _ | exact List.nil_sublist _ | refine List.Sublist.cons_cons _ ?_ | refine List.Sublist.cons _ ?_)) ?_
        exact ⟨by simp [tupP, PV.norm2, PV.norm1, PV.norm0], rfl⟩
theorem bmk_p (n : Int) (i3 iW : Nat) : PCalls Try.prog 137 (.ptr iW 0 :: [.ptr i3 0]) [] fun p s => ∃ cap2 M, p = .fn (.func 138) [] cap2 ∧ s = M ∧ LeafOk 138 cap2 (M ++ [.box i3 3 [.d (.v (.int .i64 n))]]) iW (bindLf n) := by
  refine PCalls.enter Try.func137 rfl Try.ntmps137 (by simp) ?_
  simp only [argsF]
  refine go_ ?_
  refine POps_makeFunc2 ?_
  refine go_ ?_
  refine Jl (st' := []) (by simp) (by simp only [Try.results137]; rfl) (by simp [resP, St.box?, PF.get, Jm, TyK.agg, *]; rfl) (by repeat (first | exact List.Sublist.refl _ | exact List.nil_sublist _ | refine List.Sublist.cons_cons _ ?_ | refine List.Sublist.cons _ ?_)) ?_
  refine ⟨_, [], rfl, rfl, rfl, fun hnd t b L hg hb hbh _ _ => ?_⟩
  have hne : iW ≠ i3 := by
    intro e
    simp [Ent.bid, e] at hnd
  exact bleaf_p n iW i3 hne t b L hg hb hbh
set_option maxHeartbeats 16000000 in
theorem sbind_p (t : Tm) (n : Int) : PCalls Try.prog 110 [aggD t, .d (.v (.int .i64 n))] [] fun p s => p = trP (bindR t n) ∧ s = [] := by
  have hS := Lib.hid (tshaped_p t)
  have hF := Lib.hid (sfits_p n)
  have HR := Lib.hid (show bindR t n = if (shapedB t && fitsB n) = true then doneS (subT (bindLf n) t 0) else (.mk 0 0 [], 5) from rfl)
  cases h1 : shapedB t with
  | false =>
    rw [h1] at hS
    rw [HR.out, h1]
    simp only [Bool.false_and, Bool.false_eq_true, if_false, trP, aggD, Jk, List.map_cons, List.map_nil, Ju, Jv, Jw] at hS ⊢
    clear HR h1
    refine PCalls.enter Try.func110 rfl Try.ntmps110 (by simp) ?_
    simp only [argsF]
    refine go_ ?_
    refine Jc ?_
    intro i2 hi2
    try simp only [Rh, Rg, Rf, Ja] at hi2
    refine go_ ?_
    refine Jc ?_
    intro i3 hi3
    try simp only [Rh, Rg, Rf, Ja] at hi3
    refine go_ ?_
    refine Jd ?_
    intro i4 hi4
    try simp only [Rh, Rg, Rf, Ja] at hi4
    refine go_ ?_
    refine Jb (hS.out) ?_
    refine go_ ?_
    refine Rc ?_
    refine go_ ?_
    refine Jl (by simp) (by simp only [Try.results110]; rfl) (by simp [resP, St.box?, PF.get, Jm, TyK.agg, *]; rfl) (List.nil_sublist _) ?_
    exact ⟨by simp [tupP, PV.norm2, PV.norm1, PV.norm0], rfl⟩
  | true =>
  rw [h1] at hS
  cases h2 : fitsB n with
  | false =>
    rw [h2] at hF
    rw [HR.out, h1, h2]
    simp only [Bool.true_and, Bool.false_eq_true, if_false, trP, aggD, Jk, List.map_cons, List.map_nil, Ju, Jv, Jw] at hS ⊢
    clear HR h1 h2
    refine PCalls.enter Try.func110 rfl Try.ntmps110 (by simp) ?_
    simp only [argsF]
    refine go_ ?_
    refine Jc ?_
    intro i2 hi2
    try simp only [Rh, Rg, Rf, Ja] at hi2
    refine go_ ?_
    refine Jc ?_
    intro i3 hi3
    try simp only [Rh, Rg, Rf, Ja] at hi3
    refine go_ ?_
    refine Jd ?_
    intro i4 hi4
    try simp only [Rh, Rg, Rf, Ja] at hi4
    refine go_ ?_
    refine Jb (hS.out) ?_
    refine go_ ?_
    refine Jq (hF.out) ?_
    refine go_ ?_
    refine Rc ?_
    refine go_ ?_
    refine Jl (by simp) (by simp only [Try.results110]; rfl) (by simp [resP, St.box?, PF.get, Jm, TyK.agg, *]; rfl) (List.nil_sublist _) ?_
    exact ⟨by simp [tupP, PV.norm2, PV.norm1, PV.norm0], rfl⟩
  | true =>
  rw [h2] at hF
  rw [HR.out, h1, h2]
  simp only [Bool.and_self, if_true]
  have hRun := Lib.hid (fun i3 => srun_p 137 138 [.ptr i3 0] [.box i3 3 [.d (.v (.int .i64 n))]] (bindLf n) rfl rfl rfl (up_bind n) (fun iW => bmk_p n i3 iW) t (shaped_hg h1).1 (shaped_hg h1).2.1)
  clear HR h1 h2
  generalize doneS (subT (bindLf n) t 0) = r at *
  simp only [trP, aggD, Jk, List.map_cons, List.map_nil] at hS hRun ⊢
  refine PCalls.enter Try.func110 rfl Try.ntmps110 (by simp) ?_
  simp only [argsF]
  refine go_ ?_
  refine Jc ?_
  intro i2 hi2
  try simp only [Rh, Rg, Rf, Ja] at hi2
  refine go_ ?_
  refine Jc ?_
  intro i3 hi3
  try simp only [Rh, Rg, Rf, Ja] at hi3
  refine go_ ?_
  refine Jd ?_
  intro i4 hi4
  try simp only [Rh, Rg, Rf, Ja] at hi4
  refine go_ ?_
  refine Jb (hS.out) ?_
  refine go_ ?_
  refine Jq (hF.out) ?_
  refine go_ ?_
  refine POps_makeFunc2 ?_
  refine go_ ?_
  refine Rd 1 1 (hRun.out i3) ?_
  rintro p s ⟨rfl, rfl⟩
  simp only [List.cons_append, List.nil_append, List.append_nil, Rh, Rg, Rf]
  refine go_ ?_
  refine Rc ?_
  refine go_ ?_
  refine Jl (by simp) (by simp only [Try.results110]; rfl) (by simp [resP, St.box?, PF.get, Jm, TyK.agg, *]; rfl) (List.nil_sublist _) ?_
  exact ⟨by simp [tupP, PV.norm2, PV.norm1, PV.norm0], rfl⟩
end Go.Proofs.Ytfnfbbmegdkhjaa

namespace Go.Proofs.Ytfnfbbmegdkhjaa
open Go.RowKit
set_option maxRecDepth 100000
set_option maxHeartbeats 4000000 in
theorem tpi_p (a b : Tm) : PCalls Try.prog 78 [aggD a, aggD b] [] fun p s => p = aggD (Tm.mk 3 0 [a, b]) ∧ s = [] := by
  have hc := Lib.hid (tnode_p 3 0 [a, b])
  simp only [aggD, Jk, List.map_cons, List.map_nil, Ju, Jv, Jw] at hc ⊢
  refine PCalls.enter Try.func78 rfl Try.ntmps78 (by simp) ?_
  simp only [argsF]
  refine go_ ?_
  refine Jc ?_
  intro i2 hi2
  try simp only [Rh, Rg, Rf, Ja] at hi2
  refine go_ ?_
  refine Jc ?_
  intro i3 hi3
  try simp only [Rh, Rg, Rf, Ja] at hi3
  refine go_ ?_
  refine Jd ?_
  intro i4 hi4
  try simp only [Rh, Rg, Rf, Ja] at hi4
  refine go_ ?_
  refine POps_bs_a ?_
  refine go_ ?_
  refine Jb (hc.out) ?_
  refine go_ ?_
  refine Rc ?_
  refine go_ ?_
  refine Jl (by simp) (by simp only [Try.results78]; rfl) (by simp [resP, St.box?, PF.get, Jm, TyK.agg, *]; rfl) (List.nil_sublist _) ?_
  exact ⟨by simp [tupP, PV.norm2, PV.norm1, PV.norm0], rfl⟩
set_option maxHeartbeats 4000000 in
theorem tlam_p (a b : Tm) : PCalls Try.prog 80 [aggD a, aggD b] [] fun p s => p = aggD (Tm.mk 4 0 [a, b]) ∧ s = [] := by
  have hc := Lib.hid (tnode_p 4 0 [a, b])
  simp only [aggD, Jk, List.map_cons, List.map_nil, Ju, Jv, Jw] at hc ⊢
  refine PCalls.enter Try.func80 rfl Try.ntmps80 (by simp) ?_
  simp only [argsF]
  refine go_ ?_
  refine Jc ?_
  intro i2 hi2
  try simp only [Rh, Rg, Rf, Ja] at hi2
  refine go_ ?_
  refine Jc ?_
  intro i3 hi3
  try simp only [Rh, Rg, Rf, Ja] at hi3
  refine go_ ?_
  refine Jd ?_
  intro i4 hi4
  try simp only [Rh, Rg, Rf, Ja] at hi4
  refine go_ ?_
  refine POps_bs_a ?_
  refine go_ ?_
  refine Jb (hc.out) ?_
  refine go_ ?_
  refine Rc ?_
  refine go_ ?_
  refine Jl (by simp) (by simp only [Try.results80]; rfl) (by simp [resP, St.box?, PF.get, Jm, TyK.agg, *]; rfl) (List.nil_sublist _) ?_
  exact ⟨by simp [tupP, PV.norm2, PV.norm1, PV.norm0], rfl⟩
theorem take_rev {α : Type} {c : List α} {m : Nat} (h : m < c.length) : (c.take (m + 1)).reverse = c[m] :: (c.take m).reverse := by
  rw [List.take_succ_eq_append_getElem h, List.reverse_append]; rfl
theorem right_fits {c : List Va} (h : rightV c = true) : ∀ v ∈ c, fitsB v.n = true := by
  unfold rightV shapedV at h
  simp only [Bool.and_eq_true, List.all_eq_true] at h
  intro v hv
  have := h.1.1.1 v hv
  unfold fitV at this
  simp only [Bool.and_eq_true] at this
  simp_all
theorem bind_code {t : Tm} {n : Int} (h1 : shapedB t = true) (h2 : fitsB n = true) : (bindR t n).2 = 0 ∨ (bindR t n).2 = 2 := by
  rw [bindR_in h1 h2]; exact done_code _
def clR : Option Tm → Tm × Int
  | some x => (x, 0)
  | none => (.mk 0 0 [], 2)
set_option maxHeartbeats 16000000 in
theorem faround_p (kd : Int) (f : Nat) (hca : callable Try.prog f = true) (hF : ∀ a b, PCalls Try.prog f [aggD a, aggD b] [] fun p s => p = aggD (Tm.mk kd 0 [a, b]) ∧ s = []) (c : List Va) (hl : c.length ≤ 100000) (t : Tm) :
    PCalls Try.prog 77 [.d (.sl (c.map encD)), aggD t, .fn (.func f) [] []] [] fun p s => p = trP (aroundR kd c t) ∧ s = [] := by
  have hR := Lib.hid (fright_p c hl)
  have hS := Lib.hid (tshaped_p t)
  have HR := Lib.hid (show aroundR kd c t = if (rightV c && shapedB t) = false then (.mk 0 0 [], 5) else if 24 < c.length then (.mk 0 0 [], 2) else clR (closeG kd (c.take c.length).reverse t) from by
    unfold aroundR clR; rw [List.take_length]; rfl)
  cases h1 : rightV c with
  | false =>
    rw [h1] at hR
    rw [HR.out, h1]
    simp only [Bool.false_and, if_true, trP, aggD, Jk, List.map_cons, List.map_nil, Ju, Jv, Jw] at hS ⊢
    clear HR h1
    refine PCalls.enter Try.func77 rfl Try.ntmps77 (by simp) ?_
    simp only [argsF]
    refine go_ ?_
    refine Jc ?_
    intro i4 hi4
    try simp only [Rh, Rg, Rf, Ja] at hi4
    refine go_ ?_
    refine Jd ?_
    intro i6 hi6
    try simp only [Rh, Rg, Rf, Ja] at hi6
    refine go_ ?_
    refine Jb (hR.out) ?_
    refine go_ ?_
    refine Rc ?_
    refine go_ ?_
    refine Jl (by simp) (by simp only [Try.results77]; rfl) (by simp [resP, St.box?, PF.get, Jm, TyK.agg, *]; rfl) (List.nil_sublist _) ?_
    exact ⟨by simp [tupP, PV.norm2, PV.norm1, PV.norm0], rfl⟩
  | true =>
  rw [h1] at hR
  cases h2 : shapedB t with
  | false =>
    rw [h2] at hS
    rw [HR.out, h1, h2]
    simp only [Bool.and_false, if_true, trP, aggD, Jk, List.map_cons, List.map_nil, Ju, Jv, Jw] at hS ⊢
    clear HR h1 h2
    refine PCalls.enter Try.func77 rfl Try.ntmps77 (by simp) ?_
    simp only [argsF]
    refine go_ ?_
    refine Jc ?_
    intro i4 hi4
    try simp only [Rh, Rg, Rf, Ja] at hi4
    refine go_ ?_
    refine Jd ?_
    intro i6 hi6
    try simp only [Rh, Rg, Rf, Ja] at hi6
    refine go_ ?_
    refine Jb (hR.out) ?_
    refine go_ ?_
    refine Jq (hS.out) ?_
    refine go_ ?_
    refine Rc ?_
    refine go_ ?_
    refine Jl (by simp) (by simp only [Try.results77]; rfl) (by simp [resP, St.box?, PF.get, Jm, TyK.agg, *]; rfl) (List.nil_sublist _) ?_
    exact ⟨by simp [tupP, PV.norm2, PV.norm1, PV.norm0], rfl⟩
  | true =>
  rw [h2] at hS
  rw [HR.out, h1, h2]
  have H2 := Lib.hid h2
  have HFT := Lib.hid (right_fits h1)
  clear HR h1 h2
  simp only [Bool.and_self, Bool.true_eq_false, if_false]
  by_cases h3 : 24 < c.length
  · have hc : (24 : Int) < c.length := by omega
    rw [if_pos h3]
    simp only [trP, aggD, Jk, List.map_cons, List.map_nil, Ju, Jv, Jw] at hS ⊢
    refine PCalls.enter Try.func77 rfl Try.ntmps77 (by simp) ?_
    simp only [argsF]
    refine go_ ?_
    refine Jc ?_
    intro i4 hi4
    try simp only [Rh, Rg, Rf, Ja] at hi4
    refine go_ ?_
    refine Jd ?_
    intro i6 hi6
    try simp only [Rh, Rg, Rf, Ja] at hi6
    refine go_ ?_
    refine Jb (hR.out) ?_
    refine go_ ?_
    refine Jq (hS.out) ?_
    refine go_ ?_
    refine Rc ?_
    refine go_ ?_
    refine Jl (by simp) (by simp only [Try.results77]; rfl) (by simp [resP, St.box?, PF.get, Jm, TyK.agg, *]; rfl) (List.nil_sublist _) ?_
    exact ⟨by simp [tupP, PV.norm2, PV.norm1, PV.norm0], rfl⟩
  have hc : ¬ (24 : Int) < c.length := by omega
  rw [if_neg h3]
  obtain ⟨R, HR⟩ : ∃ R, R = closeG kd (c.take c.length).reverse t := ⟨_, rfl⟩
  rw [← HR]
  have HRh := Lib.hid HR
  have hwl := wr64 (n := (c.length : Int) - 1) (by omega) (by omega)
  clear HR
  have HF := Lib.hid hF
  clear hF
  simp only [trP, aggD, Jk, List.map_cons, List.map_nil] at hS ⊢
  refine PCalls.enter Try.func77 rfl Try.ntmps77 (by simp) ?_
  simp only [argsF]
  refine go_ ?_
  refine Jc ?_
  intro i4 hi4
  try simp only [Rh, Rg, Rf, Ja] at hi4
  refine go_ ?_
  refine Jd ?_
  intro i6 hi6
  try simp only [Rh, Rg, Rf, Ja] at hi6
  refine go_ ?_
  refine Jb (hR.out) ?_
  refine go_ ?_
  refine Jq (hS.out) ?_
  refine go_ ?_
  clear hS
  refine PW_loop (ι := Nat × Tm) (fun y => y.1 ≤ c.length ∧ Hid (R = closeG kd (c.take y.1).reverse y.2) ∧ Hid (shapedB y.2 = true)) (fun y => [(0, .d (.sl (c.map encD))), (2, .fn (.func f) [] []), (4, .ptr i4 0), (6, .ptr i6 0), (8, .d (.v (.int .i64 ((y.1 : Int) - 1))))]) (fun y => [.box i6 28 [.d (.v (.int .i64 0)), .d (.v (.int .i64 0)), .nils], .box i4 28 [.d (.v (.int .i64 y.2.kind)), .d (.v (.int .i64 y.2.num)), .d (.sl (y.2.sub.map encD))]]) (fun y => y.1) (c.length, t) ⟨Nat.le_refl _, HRh.out, H2.out⟩ ?_ ?_ ?_
  · repeat (first | exact Js _ | refine Jr (by simp [PF.get]; rfl) (by first | rfl | (simp [*]; done) | fail) ?_)
  · repeat (first | exact List.Sublist.refl _ | exact List.nil_sublist _ | refine List.Sublist.cons_cons _ ?_ | refine List.Sublist.cons _ ?_)
  rintro ⟨m, u⟩ ⟨hm, hR, hu⟩
  simp only at hm hR hu ⊢
  clear HRh H2 hc hwl
  cases m with
  | zero =>
    have hR2 : R = some u := by rw [show R = _ from hR.out]; rfl
    have hc1 := Lib.hid (tCopy_p u)
    rw [copy_shaped hu.out] at hc1
    rw [hR2]
    simp only [clR, aggD, Jk, List.map_cons, List.map_nil] at hc1 ⊢
    have hw0 : ((0 : Nat) : Int) - 1 = -1 := rfl
    simp only [hw0]
    clear hR hu hR2
    refine go_ ?_
    refine Jb (hc1.out) ?_
    refine go_ ?_
    refine Rc ?_
    refine go_ ?_
    refine Jl (by simp) (by simp only [Try.results77]; rfl) (by simp [resP, St.box?, PF.get, Jm, TyK.agg, *]; rfl) (List.nil_sublist _) ?_
    exact ⟨by simp [tupP, PV.norm2, PV.norm1, PV.norm0], rfl⟩
  | succ m =>
    have hml : m < c.length := hm
    have hx := get_enc hml
    have hw0 : ((m + 1 : Nat) : Int) - 1 = m := by omega
    have hge : (0 : Int) ≤ m := by omega
    have hw := wr64 (n := (m : Int) - 1) (by omega) (by omega)
    have hc1 := Lib.hid (sbind_p u c[m].n)
    have hR2 := hR.out
    rw [take_rev hml, closeG] at hR2
    have HR2 := Lib.hid hR2
    simp only [hw0]
    clear hR hR2
    obtain ⟨x, hxd⟩ : ∃ x, x = bindR u c[m].n := ⟨_, rfl⟩
    have hbc := bind_code hu.out (HFT.out _ (List.getElem_mem hml))
    rw [← hxd] at hc1 HR2 hbc
    clear hxd
    obtain ⟨x, e⟩ := x
    simp only [trP, aggD, Jk, List.map_cons, List.map_nil] at hc1 HR2 hbc
    by_cases he : e = 0
    · subst he
      have hc2 := Lib.hid (HF.out c[m].ty x)
      have hc3 := Lib.hid (tshaped_p (.mk kd 0 [c[m].ty, x]))
      simp only [if_true] at HR2
      have hsh : ∃ q, q = shapedB (.mk kd 0 [c[m].ty, x]) := ⟨_, rfl⟩
      obtain ⟨q, hq⟩ := hsh
      rw [← hq] at hc3 HR2
      have HQ := Lib.hid hq
      simp only [aggD, Jk, List.map_cons, List.map_nil, Ju, Jv, Jw] at hc2 hc3
      clear hq
      refine go_ ?_
      refine PW_drawnL (J := keepJ [(i4, _)]) [(0, .a), (1, .a), (2, .a), (3, .a), (4, .a), (5, .a), (6, .a), (7, .a), (8, .a), (9, .a), (10, .e), (11, .e), (12, .a)] (by kernel_rfl) (by rfl) (by kernel_rfl) (by (repeat (first | exact keepJ_nil _ | refine Jt (by simp [St.box?, *] <;> rfl) ?_))) ?_
      repeat (first | with_reducible refine PL_nil ?_ | refine PL_gn2 ?_ | refine PL_s2 ?_ | refine PL_b2 ?_)
      refine PL_call2 (hc1.out) ?_
      repeat (first | with_reducible refine PL_nil ?_ | refine PL_gn2 ?_ | refine PL_s2 ?_ | refine PL_b2 ?_)
      refine PL_alloc rfl (by decide) rfl (by simp; rfl) (fun i hi => by simp only [Rh, Rg, Rf] at hi; (repeat (first | exact keepJ_nil _ | refine Jt (by simp [St.box?, *] <;> rfl) ?_))) ?_
      intro i9 hi9
      try simp only [Rh, Rg, Rf, Ja] at hi9
      repeat (first | with_reducible refine PL_nil ?_ | refine PL_gn2 ?_ | refine PL_s2 ?_ | refine PL_b2 ?_)
      refine PL_store rfl rfl (by simp [nev, nevA, nevB, Jo, PF.eval, PF.get, PF.wants, cPV, cCell, PV.rows, evBin, evUn, Jp, evLen, loadA, Jm, TyK.agg, partA, St.box?, St.tok?, St.setBox, St.setTok, fillO, spl, PV.ps, PV.one, Jn, aggD, slD, Jg, Jj, Jh, Ji, Jf, Je, *]; rfl) (by rfl) (by simp [nev, nevA, nevB, Jo, PF.eval, PF.get, PF.wants, cPV, cCell, PV.rows, evBin, evUn, Jp, evLen, loadA, Jm, TyK.agg, partA, St.box?, St.tok?, St.setBox, St.setTok, fillO, spl, PV.ps, PV.one, Jn, aggD, slD, Jg, Jj, Jh, Ji, Jf, Je, *]; rfl) (by simp [PV.ps, aggD, slD, Jg, Jj, Jh, Ji, Jf, Je]; rfl) (by first | rfl | (simp [*]; done) | (simp [PV.one, *]; done) | fail) (by simp; rfl) (by first | (simp; done) | fail) (by simp [nev, nevA, nevB, Jo, PF.eval, PF.get, PF.wants, cPV, cCell, PV.rows, evBin, evUn, Jp, evLen, loadA, Jm, TyK.agg, partA, St.box?, St.tok?, St.setBox, St.setTok, fillO, spl, PV.ps, PV.one, Jn, aggD, slD, Jg, Jj, Jh, Ji, Jf, Je, *]; rfl) (by rfl) (by first | (simp; done) | fail) (by simp [St.setBox, spl, *]; rfl) (by first | exact .inl (by decide +kernel) | exact .inr (by (repeat (first | exact keepJ_nil _ | refine Jt (by simp [St.box?, *] <;> rfl) ?_)))) ?_
      repeat (first | with_reducible refine PL_nil ?_ | refine PL_gn2 ?_ | refine PL_s2 ?_ | refine PL_b2 ?_)
      refine go_ ?_
      refine PW_drawnL (J := keepJ [(i9, _)]) [(0, .a), (1, .a), (2, .a), (3, .a), (4, .a), (5, .a), (6, .a), (7, .e), (8, .e)] (by kernel_rfl) (by rfl) (by kernel_rfl) (by (repeat (first | exact keepJ_nil _ | refine Jt (by simp [St.box?, *] <;> rfl) ?_))) ?_
      repeat (first | with_reducible refine PL_nil ?_ | refine PL_gn2 ?_ | refine PL_s2 ?_ | refine PL_b2 ?_)
      refine PL_callC 0 0 hc2.out ?_ hca
      rintro p s ⟨rfl, rfl⟩
      simp only [List.cons_append, List.nil_append, List.append_nil, Rh, Rg, Rf]
      refine ⟨.inr (by (repeat (first | exact keepJ_nil _ | refine Jt (by simp [St.box?, *] <;> rfl) ?_))), ?_⟩
      repeat (first | with_reducible refine PL_nil ?_ | refine PL_gn2 ?_ | refine PL_s2 ?_ | refine PL_b2 ?_)
      refine PL_store rfl rfl (by simp [nev, nevA, nevB, Jo, PF.eval, PF.get, PF.wants, cPV, cCell, PV.rows, evBin, evUn, Jp, evLen, loadA, Jm, TyK.agg, partA, St.box?, St.tok?, St.setBox, St.setTok, fillO, spl, PV.ps, PV.one, Jn, aggD, slD, Jg, Jj, Jh, Ji, Jf, Je, *]; rfl) (by rfl) (by simp [nev, nevA, nevB, Jo, PF.eval, PF.get, PF.wants, cPV, cCell, PV.rows, evBin, evUn, Jp, evLen, loadA, Jm, TyK.agg, partA, St.box?, St.tok?, St.setBox, St.setTok, fillO, spl, PV.ps, PV.one, Jn, aggD, slD, Jg, Jj, Jh, Ji, Jf, Je, *]; rfl) (by simp [PV.ps, aggD, slD, Jg, Jj, Jh, Ji, Jf, Je]; rfl) (by first | rfl | (simp [*]; done) | (simp [PV.one, *]; done) | fail) (by simp; rfl) (by first | (simp; done) | fail) (by simp [nev, nevA, nevB, Jo, PF.eval, PF.get, PF.wants, cPV, cCell, PV.rows, evBin, evUn, Jp, evLen, loadA, Jm, TyK.agg, partA, St.box?, St.tok?, St.setBox, St.setTok, fillO, spl, PV.ps, PV.one, Jn, aggD, slD, Jg, Jj, Jh, Ji, Jf, Je, *]; rfl) (by rfl) (by first | (simp; done) | fail) (by simp [St.setBox, spl, *]; rfl) (by first | exact .inl (by decide +kernel) | exact .inr (by (repeat (first | exact keepJ_nil _ | refine Jt (by simp [St.box?, *] <;> rfl) ?_)))) ?_
      repeat (first | with_reducible refine PL_nil ?_ | refine PL_gn2 ?_ | refine PL_s2 ?_ | refine PL_b2 ?_)
      refine go_ ?_
      cases q with
      | false =>
        have hR3 : R = none := by rw [show R = _ from HR2.out]; rfl
        rw [hR3]
        simp only [clR]
        clear HR2 HQ hR3
        refine go_ ?_
        refine Jb (hc3.out) ?_
        refine go_ ?_
        refine Rc ?_
        refine go_ ?_
        refine Jl (by simp) (by simp only [Try.results77]; rfl) (by simp [resP, St.box?, PF.get, Jm, TyK.agg, *]; rfl) (List.nil_sublist _) ?_
        exact ⟨by simp [tupP, PV.norm2, PV.norm1, PV.norm0], rfl⟩
      | true =>
        have hR3 : Hid (R = closeG kd (c.take m).reverse (.mk kd 0 [c[m].ty, x])) := HR2.out
        have hs3 : Hid (shapedB (.mk kd 0 [c[m].ty, x]) = true) := HQ.out.symm
        clear HR2 HQ
        refine go_ ?_
        refine Jb (hc3.out) ?_
        refine go_ ?_
        refine ⟨(m, .mk kd 0 [c[m].ty, x]), ⟨by omega, hR3, hs3⟩, by simp only; omega, by repeat (first | exact Js _ | refine Jr (by simp [PF.get]; rfl) (by first | rfl | (simp [*]; done) | fail) ?_), ?_⟩
        simp only [Ju, Jv, Jw, List.map_cons, List.map_nil, Jk]
        repeat (first | exact List.Sublist.refl _ | exact List.nil_sublist _ | refine List.Sublist.cons_cons _ ?_ | refine List.Sublist.cons _ ?_)
    · have hR3 : R = none := by rw [show R = _ from HR2.out, if_neg he]
      obtain rfl : e = 2 := hbc.resolve_left he
      rw [hR3]
      simp only [clR]
      clear HR2 hR3 he
      refine go_ ?_
      refine PW_drawnL (J := keepJ [(i4, _)]) [(0, .a), (1, .a), (2, .a), (3, .a), (4, .a), (5, .a), (6, .a), (7, .a), (8, .a), (9, .a), (10, .e), (11, .e), (12, .a)] (by kernel_rfl) (by rfl) (by kernel_rfl) (by (repeat (first | exact keepJ_nil _ | refine Jt (by simp [St.box?, *] <;> rfl) ?_))) ?_
      repeat (first | with_reducible refine PL_nil ?_ | refine PL_gn2 ?_ | refine PL_s2 ?_ | refine PL_b2 ?_)
      refine PL_call2 (hc1.out) ?_
      repeat (first | with_reducible refine PL_nil ?_ | refine PL_gn2 ?_ | refine PL_s2 ?_ | refine PL_b2 ?_)
      refine PL_alloc rfl (by decide) rfl (by simp; rfl) (fun i hi => by simp only [Rh, Rg, Rf] at hi; (repeat (first | exact keepJ_nil _ | refine Jt (by simp [St.box?, *] <;> rfl) ?_))) ?_
      intro i9 hi9
      try simp only [Rh, Rg, Rf, Ja] at hi9
      repeat (first | with_reducible refine PL_nil ?_ | refine PL_gn2 ?_ | refine PL_s2 ?_ | refine PL_b2 ?_)
      refine PL_store rfl rfl (by simp [nev, nevA, nevB, Jo, PF.eval, PF.get, PF.wants, cPV, cCell, PV.rows, evBin, evUn, Jp, evLen, loadA, Jm, TyK.agg, partA, St.box?, St.tok?, St.setBox, St.setTok, fillO, spl, PV.ps, PV.one, Jn, aggD, slD, Jg, Jj, Jh, Ji, Jf, Je, *]; rfl) (by rfl) (by simp [nev, nevA, nevB, Jo, PF.eval, PF.get, PF.wants, cPV, cCell, PV.rows, evBin, evUn, Jp, evLen, loadA, Jm, TyK.agg, partA, St.box?, St.tok?, St.setBox, St.setTok, fillO, spl, PV.ps, PV.one, Jn, aggD, slD, Jg, Jj, Jh, Ji, Jf, Je, *]; rfl) (by simp [PV.ps, aggD, slD, Jg, Jj, Jh, Ji, Jf, Je]; rfl) (by first | rfl | (simp [*]; done) | (simp [PV.one, *]; done) | fail) (by simp; rfl) (by first | (simp; done) | fail) (by simp [nev, nevA, nevB, Jo, PF.eval, PF.get, PF.wants, cPV, cCell, PV.rows, evBin, evUn, Jp, evLen, loadA, Jm, TyK.agg, partA, St.box?, St.tok?, St.setBox, St.setTok, fillO, spl, PV.ps, PV.one, Jn, aggD, slD, Jg, Jj, Jh, Ji, Jf, Je, *]; rfl) (by rfl) (by first | (simp; done) | fail) (by simp [St.setBox, spl, *]; rfl) (by first | exact .inl (by decide +kernel) | exact .inr (by (repeat (first | exact keepJ_nil _ | refine Jt (by simp [St.box?, *] <;> rfl) ?_)))) ?_
      repeat (first | with_reducible refine PL_nil ?_ | refine PL_gn2 ?_ | refine PL_s2 ?_ | refine PL_b2 ?_)
      refine go_ ?_
      refine Rc ?_
      refine go_ ?_
      refine Jl (by simp) (by simp only [Try.results77]; rfl) (by simp [resP, St.box?, PF.get, Jm, TyK.agg, *]; rfl) (List.nil_sublist _) ?_
      exact ⟨by simp [tupP, PV.norm2, PV.norm1, PV.norm0], rfl⟩

set_option maxHeartbeats 4000000 in
theorem fpis_p (c : List Va) (hl : c.length ≤ 100000) (t : Tm) : PCalls Try.prog 37 [.d (.sl (c.map encD)), aggD t] [] fun p s => p = trP (aroundR 3 c t) ∧ s = [] := by
  have hc := Lib.hid (faround_p 3 78 rfl tpi_p c hl t)
  generalize aroundR 3 c t = r at *
  simp only [trP, aggD, Jk, List.map_cons, List.map_nil] at hc ⊢
  refine PCalls.enter Try.func37 rfl Try.ntmps37 (by simp) ?_
  simp only [argsF]
  refine go_ ?_
  refine Jc ?_
  intro i3 hi3
  try simp only [Rh, Rg, Rf, Ja] at hi3
  refine go_ ?_
  refine Jd ?_
  intro i4 hi4
  try simp only [Rh, Rg, Rf, Ja] at hi4
  refine go_ ?_
  refine Jb (hc.out) ?_
  refine go_ ?_
  refine Rc ?_
  refine go_ ?_
  refine Jl (by simp) (by simp only [Try.results37]; rfl) (by simp [resP, St.box?, PF.get, Jm, TyK.agg, *]; rfl) (List.nil_sublist _) ?_
  exact ⟨by simp [tupP, PV.norm2, PV.norm1, PV.norm0], rfl⟩
set_option maxHeartbeats 4000000 in
theorem flams_p (c : List Va) (hl : c.length ≤ 100000) (t : Tm) : PCalls Try.prog 39 [.d (.sl (c.map encD)), aggD t] [] fun p s => p = trP (aroundR 4 c t) ∧ s = [] := by
  have hc := Lib.hid (faround_p 4 80 rfl tlam_p c hl t)
  generalize aroundR 4 c t = r at *
  simp only [trP, aggD, Jk, List.map_cons, List.map_nil] at hc ⊢
  refine PCalls.enter Try.func39 rfl Try.ntmps39 (by simp) ?_
  simp only [argsF]
  refine go_ ?_
  refine Jc ?_
  intro i3 hi3
  try simp only [Rh, Rg, Rf, Ja] at hi3
  refine go_ ?_
  refine Jd ?_
  intro i4 hi4
  try simp only [Rh, Rg, Rf, Ja] at hi4
  refine go_ ?_
  refine Jb (hc.out) ?_
  refine go_ ?_
  refine Rc ?_
  refine go_ ?_
  refine Jl (by simp) (by simp only [Try.results39]; rfl) (by simp [resP, St.box?, PF.get, Jm, TyK.agg, *]; rfl) (List.nil_sublist _) ?_
  exact ⟨by simp [tupP, PV.norm2, PV.norm1, PV.norm0], rfl⟩
end Go.Proofs.Ytfnfbbmegdkhjaa

namespace Go.Proofs.Ytfnfbbmegdkhjaa
open Go.RowKit
set_option maxRecDepth 100000
theorem subL_step {lf : Tm → Int → Lf} {k : Int} {sub : List Tm} {j : Nat} {b : Int} (h : j < sub.length) : subL lf k (sub.drop j) j b = subT lf sub[j] (b + benB k j) :: subL lf k (sub.drop (j + 1)) (j + 1) b := by
  rw [List.drop_eq_getElem_cons h]; simp only [subL]
theorem ben_rng (k : Int) (j : Nat) : 0 ≤ benB k j ∧ benB k j ≤ 1 := by unfold benB; split <;> omega
set_option maxHeartbeats 16000000 in
theorem rbind9_p (n : Int) : ∀ (t : Tm) (b : Int), goodB t = true → 0 ≤ b → b + chgT t ≤ 1000 → PCalls Try.prog 139 [aggD t, .d (.v (.int .i64 n)), .d (.v (.int .i64 b))] [] fun p s => p = aggD (subT (bindLf n) t b) ∧ s = [] := by
  refine Tm.ind ?_
  intro k m sub ih b hg hb hbh
  have IH := Lib.hid ih
  have hnm := head_num (good_parts hg).1
  have HG := Lib.hid (good_parts hg).2
  have hsl := good_len hg
  have HH := Lib.hid (fun (s : Tm) (hs : s ∈ sub) => chg_mem (k := k) (n := m) hs)
  obtain ⟨n0, n1⟩ := good_num hg
  simp only [Jv] at n0 n1
  clear ih
  by_cases h1 : k = 1 ∧ b ≤ m
  · have hlf : bindLf n (.mk k m sub) b = .put (.mk 1 (m + 1) []) := by unfold bindLf; rw [if_pos (by exact h1)]; rfl
    rw [sub_put hlf]
    obtain ⟨rfl, hbm⟩ := h1
    have hw := wr64 (n := m + 1) (by omega) (by omega)
    have hc := Lib.hid (rleaf_p 1 (m + 1))
    simp only [aggD, Jk, List.map_cons, List.map_nil, Ju, Jv, Jw] at hc ⊢
    clear hlf IH HG HH hnm hg hbh
    refine PCalls.enter Try.func139 rfl Try.ntmps139 (by simp) ?_
    simp only [argsF]
    refine go_ ?_
    refine Jc ?_
    intro i3 hi3
    try simp only [Rh, Rg, Rf, Ja] at hi3
    refine go_ ?_
    refine Jd ?_
    intro i6 hi6
    try simp only [Rh, Rg, Rf, Ja] at hi6
    refine go_ ?_
    refine Jb (hc.out) ?_
    refine go_ ?_
    refine Rc ?_
    refine go_ ?_
    refine Jl (by simp) (by simp only [Try.results139]; rfl) (by simp [resP, St.box?, PF.get, Jm, TyK.agg, *]; rfl) (List.nil_sublist _) ?_
    exact ⟨by simp [tupP, PV.norm2, PV.norm1, PV.norm0], rfl⟩
  by_cases h8 : k = 8 ∧ m = n
  · have hlf : bindLf n (.mk k m sub) b = .put (.mk 1 b []) := by unfold bindLf; rw [if_neg (by exact h1), if_pos (by exact h8)]
    rw [sub_put hlf]
    obtain ⟨rfl, rfl⟩ := h8
    have hc := Lib.hid (rleaf_p 1 b)
    simp only [aggD, Jk, List.map_cons, List.map_nil, Ju, Jv, Jw] at hc ⊢
    clear hlf IH HG HH hnm hg hbh h1
    refine PCalls.enter Try.func139 rfl Try.ntmps139 (by simp) ?_
    simp only [argsF]
    refine go_ ?_
    refine Jc ?_
    intro i3 hi3
    try simp only [Rh, Rg, Rf, Ja] at hi3
    refine go_ ?_
    refine Jd ?_
    intro i6 hi6
    try simp only [Rh, Rg, Rf, Ja] at hi6
    refine go_ ?_
    refine Jb (hc.out) ?_
    refine go_ ?_
    refine Rc ?_
    refine go_ ?_
    refine Jl (by simp) (by simp only [Try.results139]; rfl) (by simp [resP, St.box?, PF.get, Jm, TyK.agg, *]; rfl) (List.nil_sublist _) ?_
    exact ⟨by simp [tupP, PV.norm2, PV.norm1, PV.norm0], rfl⟩
  have hlf : bindLf n (.mk k m sub) b = .go := bind_go (by exact h1) (by exact h8)
  rw [sub_go hlf]
  obtain ⟨R, hR⟩ : ∃ R, R = subL (bindLf n) k sub 0 b := ⟨_, rfl⟩
  have HR : Hid (R = [] ++ subL (bindLf n) k (sub.drop 0) 0 b) := hR
  rw [← hR]
  simp only [aggD, Jk, List.map_cons, List.map_nil, Ju, Jv, Jw]
  clear hlf hR hnm hg
  by_cases hk1 : k = 1
  · have hbm : ¬ b ≤ m := fun h => h1 ⟨hk1, h⟩
    have hk1b : (k == 1) = true := by rw [hk1]; rfl
    have hk8b : (k == 8) = false := by rw [hk1]; rfl
    clear h1 h8 hk1
    refine PCalls.enter Try.func139 rfl Try.ntmps139 (by simp) ?_
    simp only [argsF]
    refine go_ ?_
    refine Jc ?_
    intro i3 hi3
    try simp only [Rh, Rg, Rf, Ja] at hi3
    refine go_ ?_
    refine Jd ?_
    intro i6 hi6
    try simp only [Rh, Rg, Rf, Ja] at hi6
    refine go_ ?_
    refine Jd ?_
    intro i7 hi7
    try simp only [Rh, Rg, Rf, Ja] at hi7
    refine go_ ?_
    refine Rc ?_
    refine go_ ?_
    refine PW_ownB i7 2 28 3    (by simp [nev, nevA, nevB, Jo, PF.eval, PF.get, PF.wants, cPV, cCell, PV.rows, evBin, evUn, Jp, evLen, loadA, Jm, TyK.agg, partA, St.box?, St.tok?, St.setBox, St.setTok, fillO, spl, PV.ps, PV.one, Jn, aggD, slD, Jg, Jj, Jh, Ji, Jf, Je, *]; rfl) (by rfl) (by rfl) (by intro g; simp [St.setBox, *]; rfl) (by decide) ?_
    intro g hg
    refine go_ ?_
    refine PW_loop (ι := Nat × List Tm) (fun y => y.1 ≤ sub.length ∧ y.2.length ≤ y.1 ∧ Hid (R = y.2 ++ subL (bindLf n) k (sub.drop y.1) y.1 b)) (fun y => [(1, .d (.v (.int .i64 n))), (2, .d (.v (.int .i64 b))), (3, .ptr i3 0), (6, .ptr i6 0), (7, .ptr i7 0), (8, .d (.v (.int .i64 (y.1 : Int))))]) (fun y => [.tok g 28 3 y.2.length, .box i7 28 [.d (.v (.int .i64 k)), .d (.v (.int .i64 m)), .own g (y.2.map encD)], .box i6 28 [.d (.v (.int .i64 0)), .d (.v (.int .i64 0)), .nils], .box i3 28 [.d (.v (.int .i64 k)), .d (.v (.int .i64 m)), .d (.sl (sub.map encD))]]) (fun y => sub.length - y.1) (0, []) ⟨Nat.zero_le _, Nat.le_refl _, HR.out⟩ ?_ ?_ ?_
    · repeat (first | exact Js _ | refine Jr (by simp [PF.get]; rfl) (by first | rfl | (simp [*]; done) | fail) ?_)
    · repeat (first | exact List.Sublist.refl _ | exact List.nil_sublist _ | refine List.Sublist.cons_cons _ ?_ | refine List.Sublist.cons _ ?_)
    rintro ⟨j, o⟩ ⟨hj, ho, hR⟩
    simp only at hj ho hR ⊢
    clear HR
    by_cases hlt : j < sub.length
    · have hx := get_enc hlt
      have hc : (j : Int) < sub.length := by omega
      have hn0 : (0 : Int) ≤ j := by omega
      have hin := wr64 (n := (j : Int) + 1) (by omega) (by omega)
      have hR2 := hR.out
      rw [subL_step hlt] at hR2
      have hmem := List.getElem_mem hlt
      have hol : o.length ≤ 100 := by omega
      have HO := Lib.hid ho
      have hbe := ben_rng k j
      have hc0 := Lib.hid (rbeneath_p (.mk k m sub) j)
      have hc1 := IH.out _ hmem (b + benB k j) (HG.out _ hmem) (by omega) (by have := HH.out _ hmem; omega)
      have hwb := wr64 (n := b + benB k j) (by omega) (by have := HH.out _ hmem; omega)
      simp only [aggD, Jk, List.map_cons, List.map_nil, Ju, Jv, Jw] at hc0 hc1
      have HC1 := Lib.hid hc1
      have hR3 : Hid (R = (o ++ [subT (bindLf n) sub[j] (b + benB k j)]) ++ subL (bindLf n) k (sub.drop (j + 1)) (j + 1) b) := by show _ = _; rw [hR2, List.append_assoc]; rfl
      clear hR hR2 hc1 hmem ho hbe
      generalize subT (bindLf n) sub[j] (b + benB k j) = y at *
      generalize benB k j = bj at *
      refine go_ ?_
      refine PW_drawnL (J := keepJ [(i7, _), (i3, _)]) [(0, .a), (1, .a), (2, .a), (3, .a), (4, .a), (5, .a), (6, .a), (7, .a), (8, .a), (9, .a), (10, .a), (11, .a), (12, .a), (13, .a), (14, .a), (15, .e), (16, .a), (17, .e)] (by kernel_rfl) (by rfl) (by kernel_rfl) (by (repeat (first | exact keepJ_nil _ | refine Jt (by simp [St.box?, *] <;> rfl) ?_))) ?_
      repeat (first | with_reducible refine PL_nil ?_ | refine PL_gn2 ?_ | refine PL_s2 ?_ | refine PL_b2 ?_)
      refine PL_call2 (hc0.out) ?_
      repeat (first | with_reducible refine PL_nil ?_ | refine PL_gn2 ?_ | refine PL_s2 ?_ | refine PL_b2 ?_)
      refine PL_call2 (HC1.out) ?_
      repeat (first | with_reducible refine PL_nil ?_ | refine PL_gn2 ?_ | refine PL_s2 ?_ | refine PL_b2 ?_)
      refine PL_bs ?_ rfl (by decide) rfl (by simp; rfl) (by rfl) (by simp; rfl) (by rfl) (by decide) (by decide) (by simp [nev, nevA, nevB, Jo, PF.eval, PF.get, PF.wants, cPV, cCell, PV.rows, evBin, evUn, Jp, evLen, loadA, Jm, TyK.agg, partA, St.box?, St.tok?, St.setBox, St.setTok, fillO, spl, PV.ps, PV.one, Jn, aggD, slD, Jg, Jj, Jh, Ji, Jf, Je, *]; rfl) (by simp [rowsOf, toDs, PV.toD]; rfl)
      refine PL_app (o.length + 1) ?_ ?_ ?_ ?_ ?_
      rotate_left
      · exact rows3 _
      · exact rows_one rfl
      · simp
      · exact .inr (by (repeat (first | exact keepJ_nil _ | refine Jt (by simp [St.box?, *] <;> rfl) ?_)))
      repeat (first | with_reducible refine PL_nil ?_ | refine PL_gn2 ?_ | refine PL_s2 ?_ | refine PL_b2 ?_)
      refine PL_store rfl rfl (by simp [nev, nevA, nevB, Jo, PF.eval, PF.get, PF.wants, cPV, cCell, PV.rows, evBin, evUn, Jp, evLen, loadA, Jm, TyK.agg, partA, St.box?, St.tok?, St.setBox, St.setTok, fillO, spl, PV.ps, PV.one, Jn, aggD, slD, Jg, Jj, Jh, Ji, Jf, Je, *]; rfl) (by rfl) (by simp [nev, nevA, nevB, Jo, PF.eval, PF.get, PF.wants, cPV, cCell, PV.rows, evBin, evUn, Jp, evLen, loadA, Jm, TyK.agg, partA, St.box?, St.tok?, St.setBox, St.setTok, fillO, spl, PV.ps, PV.one, Jn, aggD, slD, Jg, Jj, Jh, Ji, Jf, Je, *]; rfl) (by simp [PV.ps, aggD, slD, Jg, Jj, Jh, Ji, Jf, Je]; rfl) (by first | rfl | (simp [*]; done) | (simp [PV.one, *]; done) | fail) (by simp; rfl) (by first | (simp; done) | fail) (by simp [nev, nevA, nevB, Jo, PF.eval, PF.get, PF.wants, cPV, cCell, PV.rows, evBin, evUn, Jp, evLen, loadA, Jm, TyK.agg, partA, St.box?, St.tok?, St.setBox, St.setTok, fillO, spl, PV.ps, PV.one, Jn, aggD, slD, Jg, Jj, Jh, Ji, Jf, Je, *]; rfl) (by rfl) (by first | (simp; done) | fail) (by simp [St.setBox, spl, *]; rfl) (by first | exact .inl (by decide +kernel) | exact .inr (by (repeat (first | exact keepJ_nil _ | refine Jt (by simp [St.box?, *] <;> rfl) ?_)))) ?_
      repeat (first | with_reducible refine PL_nil ?_ | refine PL_gn2 ?_ | refine PL_s2 ?_ | refine PL_b2 ?_)
      refine go_ ?_
      refine ⟨(j + 1, o ++ [y]), ⟨hlt, by have := HO.out; simp only [List.length_append, List.length_singleton]; omega, hR3⟩, by simp only; omega, by repeat (first | exact Js _ | refine Jr (by simp [PF.get]; rfl) (by first | rfl | (simp [*]; done) | fail) ?_), ?_⟩
      simp only [List.length_append, List.length_singleton, List.map_append, List.map_cons, List.map_nil, Jk y]
      repeat (first | exact List.Sublist.refl _ | exact List.nil_sublist _ | refine List.Sublist.cons_cons _ ?_ | refine List.Sublist.cons _ ?_)
    · have hc : ¬ (j : Int) < sub.length := by omega
      have hf : Hid (R = o) := by show _ = _; rw [show R = _ from hR.out, List.drop_of_length_le (by omega)]; simp only [subL, List.append_nil]
      rw [hf.out]
      clear hR hf ho
      refine go_ ?_
      refine Rc ?_
      refine go_ ?_
      refine Jl (by simp) (by simp only [Try.results139]; rfl) (by simp [resP, St.box?, PF.get, Jm, TyK.agg, *]; rfl) (List.nil_sublist _) ?_
      exact ⟨by simp [tupP, PV.norm2, PV.norm1, PV.norm0], rfl⟩
  have hk1b : (k == 1) = false := by rw [beq_eq_false_iff_ne]; exact hk1
  by_cases hk8 : k = 8
  · have hmn : (m == n) = false := by rw [beq_eq_false_iff_ne]; exact fun h => h8 ⟨hk8, h⟩
    have hk8b : (k == 8) = true := by rw [hk8]; rfl
    clear h1 h8 hk1 hk8
    refine PCalls.enter Try.func139 rfl Try.ntmps139 (by simp) ?_
    simp only [argsF]
    refine go_ ?_
    refine Jc ?_
    intro i3 hi3
    try simp only [Rh, Rg, Rf, Ja] at hi3
    refine go_ ?_
    refine Jd ?_
    intro i6 hi6
    try simp only [Rh, Rg, Rf, Ja] at hi6
    refine go_ ?_
    refine Jd ?_
    intro i7 hi7
    try simp only [Rh, Rg, Rf, Ja] at hi7
    refine go_ ?_
    refine Rc ?_
    refine go_ ?_
    refine PW_ownB i7 2 28 3    (by simp [nev, nevA, nevB, Jo, PF.eval, PF.get, PF.wants, cPV, cCell, PV.rows, evBin, evUn, Jp, evLen, loadA, Jm, TyK.agg, partA, St.box?, St.tok?, St.setBox, St.setTok, fillO, spl, PV.ps, PV.one, Jn, aggD, slD, Jg, Jj, Jh, Ji, Jf, Je, *]; rfl) (by rfl) (by rfl) (by intro g; simp [St.setBox, *]; rfl) (by decide) ?_
    intro g hg
    refine go_ ?_
    refine PW_loop (ι := Nat × List Tm) (fun y => y.1 ≤ sub.length ∧ y.2.length ≤ y.1 ∧ Hid (R = y.2 ++ subL (bindLf n) k (sub.drop y.1) y.1 b)) (fun y => [(1, .d (.v (.int .i64 n))), (2, .d (.v (.int .i64 b))), (3, .ptr i3 0), (6, .ptr i6 0), (7, .ptr i7 0), (8, .d (.v (.int .i64 (y.1 : Int))))]) (fun y => [.tok g 28 3 y.2.length, .box i7 28 [.d (.v (.int .i64 k)), .d (.v (.int .i64 m)), .own g (y.2.map encD)], .box i6 28 [.d (.v (.int .i64 0)), .d (.v (.int .i64 0)), .nils], .box i3 28 [.d (.v (.int .i64 k)), .d (.v (.int .i64 m)), .d (.sl (sub.map encD))]]) (fun y => sub.length - y.1) (0, []) ⟨Nat.zero_le _, Nat.le_refl _, HR.out⟩ ?_ ?_ ?_
    · repeat (first | exact Js _ | refine Jr (by simp [PF.get]; rfl) (by first | rfl | (simp [*]; done) | fail) ?_)
    · repeat (first | exact List.Sublist.refl _ | exact List.nil_sublist _ | refine List.Sublist.cons_cons _ ?_ | refine List.Sublist.cons _ ?_)
    rintro ⟨j, o⟩ ⟨hj, ho, hR⟩
    simp only at hj ho hR ⊢
    clear HR
    by_cases hlt : j < sub.length
    · have hx := get_enc hlt
      have hc : (j : Int) < sub.length := by omega
      have hn0 : (0 : Int) ≤ j := by omega
      have hin := wr64 (n := (j : Int) + 1) (by omega) (by omega)
      have hR2 := hR.out
      rw [subL_step hlt] at hR2
      have hmem := List.getElem_mem hlt
      have hol : o.length ≤ 100 := by omega
      have HO := Lib.hid ho
      have hbe := ben_rng k j
      have hc0 := Lib.hid (rbeneath_p (.mk k m sub) j)
      have hc1 := IH.out _ hmem (b + benB k j) (HG.out _ hmem) (by omega) (by have := HH.out _ hmem; omega)
      have hwb := wr64 (n := b + benB k j) (by omega) (by have := HH.out _ hmem; omega)
      simp only [aggD, Jk, List.map_cons, List.map_nil, Ju, Jv, Jw] at hc0 hc1
      have HC1 := Lib.hid hc1
      have hR3 : Hid (R = (o ++ [subT (bindLf n) sub[j] (b + benB k j)]) ++ subL (bindLf n) k (sub.drop (j + 1)) (j + 1) b) := by show _ = _; rw [hR2, List.append_assoc]; rfl
      clear hR hR2 hc1 hmem ho hbe
      generalize subT (bindLf n) sub[j] (b + benB k j) = y at *
      generalize benB k j = bj at *
      refine go_ ?_
      refine PW_drawnL (J := keepJ [(i7, _), (i3, _)]) [(0, .a), (1, .a), (2, .a), (3, .a), (4, .a), (5, .a), (6, .a), (7, .a), (8, .a), (9, .a), (10, .a), (11, .a), (12, .a), (13, .a), (14, .a), (15, .e), (16, .a), (17, .e)] (by kernel_rfl) (by rfl) (by kernel_rfl) (by (repeat (first | exact keepJ_nil _ | refine Jt (by simp [St.box?, *] <;> rfl) ?_))) ?_
      repeat (first | with_reducible refine PL_nil ?_ | refine PL_gn2 ?_ | refine PL_s2 ?_ | refine PL_b2 ?_)
      refine PL_call2 (hc0.out) ?_
      repeat (first | with_reducible refine PL_nil ?_ | refine PL_gn2 ?_ | refine PL_s2 ?_ | refine PL_b2 ?_)
      refine PL_call2 (HC1.out) ?_
      repeat (first | with_reducible refine PL_nil ?_ | refine PL_gn2 ?_ | refine PL_s2 ?_ | refine PL_b2 ?_)
      refine PL_bs ?_ rfl (by decide) rfl (by simp; rfl) (by rfl) (by simp; rfl) (by rfl) (by decide) (by decide) (by simp [nev, nevA, nevB, Jo, PF.eval, PF.get, PF.wants, cPV, cCell, PV.rows, evBin, evUn, Jp, evLen, loadA, Jm, TyK.agg, partA, St.box?, St.tok?, St.setBox, St.setTok, fillO, spl, PV.ps, PV.one, Jn, aggD, slD, Jg, Jj, Jh, Ji, Jf, Je, *]; rfl) (by simp [rowsOf, toDs, PV.toD]; rfl)
      refine PL_app (o.length + 1) ?_ ?_ ?_ ?_ ?_
      rotate_left
      · exact rows3 _
      · exact rows_one rfl
      · simp
      · exact .inr (by (repeat (first | exact keepJ_nil _ | refine Jt (by simp [St.box?, *] <;> rfl) ?_)))
      repeat (first | with_reducible refine PL_nil ?_ | refine PL_gn2 ?_ | refine PL_s2 ?_ | refine PL_b2 ?_)
      refine PL_store rfl rfl (by simp [nev, nevA, nevB, Jo, PF.eval, PF.get, PF.wants, cPV, cCell, PV.rows, evBin, evUn, Jp, evLen, loadA, Jm, TyK.agg, partA, St.box?, St.tok?, St.setBox, St.setTok, fillO, spl, PV.ps, PV.one, Jn, aggD, slD, Jg, Jj, Jh, Ji, Jf, Je, *]; rfl) (by rfl) (by simp [nev, nevA, nevB, Jo, PF.eval, PF.get, PF.wants, cPV, cCell, PV.rows, evBin, evUn, Jp, evLen, loadA, Jm, TyK.agg, partA, St.box?, St.tok?, St.setBox, St.setTok, fillO, spl, PV.ps, PV.one, Jn, aggD, slD, Jg, Jj, Jh, Ji, Jf, Je, *]; rfl) (by simp [PV.ps, aggD, slD, Jg, Jj, Jh, Ji, Jf, Je]; rfl) (by first | rfl | (simp [*]; done) | (simp [PV.one, *]; done) | fail) (by simp; rfl) (by first | (simp; done) | fail) (by simp [nev, nevA, nevB, Jo, PF.eval, PF.get, PF.wants, cPV, cCell, PV.rows, evBin, evUn, Jp, evLen, loadA, Jm, TyK.agg, partA, St.box?, St.tok?, St.setBox, St.setTok, fillO, spl, PV.ps, PV.one, Jn, aggD, slD, Jg, Jj, Jh, Ji, Jf, Je, *]; rfl) (by rfl) (by first | (simp; done) | fail) (by simp [St.setBox, spl, *]; rfl) (by first | exact .inl (by decide +kernel) | exact .inr (by (repeat (first | exact keepJ_nil _ | refine Jt (by simp [St.box?, *] <;> rfl) ?_)))) ?_
      repeat (first | with_reducible refine PL_nil ?_ | refine PL_gn2 ?_ | refine PL_s2 ?_ | refine PL_b2 ?_)
      refine go_ ?_
      refine ⟨(j + 1, o ++ [y]), ⟨hlt, by have := HO.out; simp only [List.length_append, List.length_singleton]; omega, hR3⟩, by simp only; omega, by repeat (first | exact Js _ | refine Jr (by simp [PF.get]; rfl) (by first | rfl | (simp [*]; done) | fail) ?_), ?_⟩
      simp only [List.length_append, List.length_singleton, List.map_append, List.map_cons, List.map_nil, Jk y]
      repeat (first | exact List.Sublist.refl _ | exact List.nil_sublist _ | refine List.Sublist.cons_cons _ ?_ | refine List.Sublist.cons _ ?_)
    · have hc : ¬ (j : Int) < sub.length := by omega
      have hf : Hid (R = o) := by show _ = _; rw [show R = _ from hR.out, List.drop_of_length_le (by omega)]; simp only [subL, List.append_nil]
      rw [hf.out]
      clear hR hf ho
      refine go_ ?_
      refine Rc ?_
      refine go_ ?_
      refine Jl (by simp) (by simp only [Try.results139]; rfl) (by simp [resP, St.box?, PF.get, Jm, TyK.agg, *]; rfl) (List.nil_sublist _) ?_
      exact ⟨by simp [tupP, PV.norm2, PV.norm1, PV.norm0], rfl⟩
  · have hk8b : (k == 8) = false := by rw [beq_eq_false_iff_ne]; exact hk8
    clear h1 h8 hk1 hk8
    refine PCalls.enter Try.func139 rfl Try.ntmps139 (by simp) ?_
    simp only [argsF]
    refine go_ ?_
    refine Jc ?_
    intro i3 hi3
    try simp only [Rh, Rg, Rf, Ja] at hi3
    refine go_ ?_
    refine Jd ?_
    intro i6 hi6
    try simp only [Rh, Rg, Rf, Ja] at hi6
    refine go_ ?_
    refine Jd ?_
    intro i7 hi7
    try simp only [Rh, Rg, Rf, Ja] at hi7
    refine go_ ?_
    refine Rc ?_
    refine go_ ?_
    refine PW_ownB i7 2 28 3    (by simp [nev, nevA, nevB, Jo, PF.eval, PF.get, PF.wants, cPV, cCell, PV.rows, evBin, evUn, Jp, evLen, loadA, Jm, TyK.agg, partA, St.box?, St.tok?, St.setBox, St.setTok, fillO, spl, PV.ps, PV.one, Jn, aggD, slD, Jg, Jj, Jh, Ji, Jf, Je, *]; rfl) (by rfl) (by rfl) (by intro g; simp [St.setBox, *]; rfl) (by decide) ?_
    intro g hg
    refine go_ ?_
    refine PW_loop (ι := Nat × List Tm) (fun y => y.1 ≤ sub.length ∧ y.2.length ≤ y.1 ∧ Hid (R = y.2 ++ subL (bindLf n) k (sub.drop y.1) y.1 b)) (fun y => [(1, .d (.v (.int .i64 n))), (2, .d (.v (.int .i64 b))), (3, .ptr i3 0), (6, .ptr i6 0), (7, .ptr i7 0), (8, .d (.v (.int .i64 (y.1 : Int))))]) (fun y => [.tok g 28 3 y.2.length, .box i7 28 [.d (.v (.int .i64 k)), .d (.v (.int .i64 m)), .own g (y.2.map encD)], .box i6 28 [.d (.v (.int .i64 0)), .d (.v (.int .i64 0)), .nils], .box i3 28 [.d (.v (.int .i64 k)), .d (.v (.int .i64 m)), .d (.sl (sub.map encD))]]) (fun y => sub.length - y.1) (0, []) ⟨Nat.zero_le _, Nat.le_refl _, HR.out⟩ ?_ ?_ ?_
    · repeat (first | exact Js _ | refine Jr (by simp [PF.get]; rfl) (by first | rfl | (simp [*]; done) | fail) ?_)
    · repeat (first | exact List.Sublist.refl _ | exact List.nil_sublist _ | refine List.Sublist.cons_cons _ ?_ | refine List.Sublist.cons _ ?_)
    rintro ⟨j, o⟩ ⟨hj, ho, hR⟩
    simp only at hj ho hR ⊢
    clear HR
    by_cases hlt : j < sub.length
    · have hx := get_enc hlt
      have hc : (j : Int) < sub.length := by omega
      have hn0 : (0 : Int) ≤ j := by omega
      have hin := wr64 (n := (j : Int) + 1) (by omega) (by omega)
      have hR2 := hR.out
      rw [subL_step hlt] at hR2
      have hmem := List.getElem_mem hlt
      have hol : o.length ≤ 100 := by omega
      have HO := Lib.hid ho
      have hbe := ben_rng k j
      have hc0 := Lib.hid (rbeneath_p (.mk k m sub) j)
      have hc1 := IH.out _ hmem (b + benB k j) (HG.out _ hmem) (by omega) (by have := HH.out _ hmem; omega)
      have hwb := wr64 (n := b + benB k j) (by omega) (by have := HH.out _ hmem; omega)
      simp only [aggD, Jk, List.map_cons, List.map_nil, Ju, Jv, Jw] at hc0 hc1
      have HC1 := Lib.hid hc1
      have hR3 : Hid (R = (o ++ [subT (bindLf n) sub[j] (b + benB k j)]) ++ subL (bindLf n) k (sub.drop (j + 1)) (j + 1) b) := by show _ = _; rw [hR2, List.append_assoc]; rfl
      clear hR hR2 hc1 hmem ho hbe
      generalize subT (bindLf n) sub[j] (b + benB k j) = y at *
      generalize benB k j = bj at *
      refine go_ ?_
      refine PW_drawnL (J := keepJ [(i7, _), (i3, _)]) [(0, .a), (1, .a), (2, .a), (3, .a), (4, .a), (5, .a), (6, .a), (7, .a), (8, .a), (9, .a), (10, .a), (11, .a), (12, .a), (13, .a), (14, .a), (15, .e), (16, .a), (17, .e)] (by kernel_rfl) (by rfl) (by kernel_rfl) (by (repeat (first | exact keepJ_nil _ | refine Jt (by simp [St.box?, *] <;> rfl) ?_))) ?_
      repeat (first | with_reducible refine PL_nil ?_ | refine PL_gn2 ?_ | refine PL_s2 ?_ | refine PL_b2 ?_)
      refine PL_call2 (hc0.out) ?_
      repeat (first | with_reducible refine PL_nil ?_ | refine PL_gn2 ?_ | refine PL_s2 ?_ | refine PL_b2 ?_)
      refine PL_call2 (HC1.out) ?_
      repeat (first | with_reducible refine PL_nil ?_ | refine PL_gn2 ?_ | refine PL_s2 ?_ | refine PL_b2 ?_)
      refine PL_bs ?_ rfl (by decide) rfl (by simp; rfl) (by rfl) (by simp; rfl) (by rfl) (by decide) (by decide) (by simp [nev, nevA, nevB, Jo, PF.eval, PF.get, PF.wants, cPV, cCell, PV.rows, evBin, evUn, Jp, evLen, loadA, Jm, TyK.agg, partA, St.box?, St.tok?, St.setBox, St.setTok, fillO, spl, PV.ps, PV.one, Jn, aggD, slD, Jg, Jj, Jh, Ji, Jf, Je, *]; rfl) (by simp [rowsOf, toDs, PV.toD]; rfl)
      refine PL_app (o.length + 1) ?_ ?_ ?_ ?_ ?_
      rotate_left
      · exact rows3 _
      · exact rows_one rfl
      · simp
      · exact .inr (by (repeat (first | exact keepJ_nil _ | refine Jt (by simp [St.box?, *] <;> rfl) ?_)))
      repeat (first | with_reducible refine PL_nil ?_ | refine PL_gn2 ?_ | refine PL_s2 ?_ | refine PL_b2 ?_)
      refine PL_store rfl rfl (by simp [nev, nevA, nevB, Jo, PF.eval, PF.get, PF.wants, cPV, cCell, PV.rows, evBin, evUn, Jp, evLen, loadA, Jm, TyK.agg, partA, St.box?, St.tok?, St.setBox, St.setTok, fillO, spl, PV.ps, PV.one, Jn, aggD, slD, Jg, Jj, Jh, Ji, Jf, Je, *]; rfl) (by rfl) (by simp [nev, nevA, nevB, Jo, PF.eval, PF.get, PF.wants, cPV, cCell, PV.rows, evBin, evUn, Jp, evLen, loadA, Jm, TyK.agg, partA, St.box?, St.tok?, St.setBox, St.setTok, fillO, spl, PV.ps, PV.one, Jn, aggD, slD, Jg, Jj, Jh, Ji, Jf, Je, *]; rfl) (by simp [PV.ps, aggD, slD, Jg, Jj, Jh, Ji, Jf, Je]; rfl) (by first | rfl | (simp [*]; done) | (simp [PV.one, *]; done) | fail) (by simp; rfl) (by first | (simp; done) | fail) (by simp [nev, nevA, nevB, Jo, PF.eval, PF.get, PF.wants, cPV, cCell, PV.rows, evBin, evUn, Jp, evLen, loadA, Jm, TyK.agg, partA, St.box?, St.tok?, St.setBox, St.setTok, fillO, spl, PV.ps, PV.one, Jn, aggD, slD, Jg, Jj, Jh, Ji, Jf, Je, *]; rfl) (by rfl) (by first | (simp; done) | fail) (by simp [St.setBox, spl, *]; rfl) (by first | exact .inl (by decide +kernel) | exact .inr (by (repeat (first | exact keepJ_nil _ | refine Jt (by simp [St.box?, *] <;> rfl) ?_)))) ?_
      repeat (first | with_reducible refine PL_nil ?_ | refine PL_gn2 ?_ | refine PL_s2 ?_ | refine PL_b2 ?_)
      refine go_ ?_
      refine ⟨(j + 1, o ++ [y]), ⟨hlt, by have := HO.out; simp only [List.length_append, List.length_singleton]; omega, hR3⟩, by simp only; omega, by repeat (first | exact Js _ | refine Jr (by simp [PF.get]; rfl) (by first | rfl | (simp [*]; done) | fail) ?_), ?_⟩
      simp only [List.length_append, List.length_singleton, List.map_append, List.map_cons, List.map_nil, Jk y]
      repeat (first | exact List.Sublist.refl _ | exact List.nil_sublist _ | refine List.Sublist.cons_cons _ ?_ | refine List.Sublist.cons _ ?_)
    · have hc : ¬ (j : Int) < sub.length := by omega
      have hf : Hid (R = o) := by show _ = _; rw [show R = _ from hR.out, List.drop_of_length_le (by omega)]; simp only [subL, List.append_nil]
      rw [hf.out]
      clear hR hf ho
      refine go_ ?_
      refine Rc ?_
      refine go_ ?_
      refine Jl (by simp) (by simp only [Try.results139]; rfl) (by simp [resP, St.box?, PF.get, Jm, TyK.agg, *]; rfl) (List.nil_sublist _) ?_
      exact ⟨by simp [tupP, PV.norm2, PV.norm1, PV.norm0], rfl⟩
end Go.Proofs.Ytfnfbbmegdkhjaa

namespace Go.Proofs.Ytfnfbbmegdkhjaa
open Go.RowKit
set_option maxRecDepth 100000
def gotP (x : Tm) (q : Bool) : PV := .agg [.d (.v (.int .i64 x.kind)), .d (.v (.int .i64 x.num)), .d (.sl (x.sub.map encD)), .d (.v (.bool q))]
def gotR (x : Tm) (q : Bool) : Tm × Int := if q = true then (.mk 0 0 [], 2) else doneS x
set_option maxHeartbeats 8000000 in
theorem rdone9_p (x : Tm) (q : Bool) : PCalls Try.prog 121 [gotP x q] [] fun p s => p = trP (gotR x q) ∧ s = [] := by
  have hS := Lib.hid (rshaped_p x)
  cases q with
  | true =>
    simp only [gotR, gotP, if_true, trP, aggD, Jk, List.map_cons, List.map_nil, Ju, Jv, Jw] at hS ⊢
    refine PCalls.enter Try.func121 rfl Try.ntmps121 (by simp) ?_
    simp only [argsF]
    refine go_ ?_
    refine Jc ?_
    intro i1 hi1
    try simp only [Rh, Rg, Rf, Ja] at hi1
    refine go_ ?_
    refine Jd ?_
    intro i2 hi2
    try simp only [Rh, Rg, Rf, Ja] at hi2
    refine go_ ?_
    refine Rc ?_
    refine go_ ?_
    refine Jl (by simp) (by simp only [Try.results121]; rfl) (by simp [resP, St.box?, PF.get, Jm, TyK.agg, *]; rfl) (List.nil_sublist _) ?_
    exact ⟨by simp [tupP, PV.norm2, PV.norm1, PV.norm0], rfl⟩
  | false =>
    have HR := Lib.hid (show gotR x false = if shapedB x = true then (x, 0) else (.mk 0 0 [], 2) from by unfold gotR doneS; simp)
    rw [HR.out]
    cases hq : shapedB x with
    | false =>
      rw [hq] at hS
      simp only [Bool.false_eq_true, if_false, gotP, trP, aggD, Jk, List.map_cons, List.map_nil, Ju, Jv, Jw] at hS ⊢
      clear HR hq
      refine PCalls.enter Try.func121 rfl Try.ntmps121 (by simp) ?_
      simp only [argsF]
      refine go_ ?_
      refine Jc ?_
      intro i1 hi1
      try simp only [Rh, Rg, Rf, Ja] at hi1
      refine go_ ?_
      refine Jd ?_
      intro i2 hi2
      try simp only [Rh, Rg, Rf, Ja] at hi2
      refine go_ ?_
      refine Jq (hS.out) ?_
      refine go_ ?_
      refine Rc ?_
      refine go_ ?_
      refine Jl (by simp) (by simp only [Try.results121]; rfl) (by simp [resP, St.box?, PF.get, Jm, TyK.agg, *]; rfl) (List.nil_sublist _) ?_
      exact ⟨by simp [tupP, PV.norm2, PV.norm1, PV.norm0], rfl⟩
    | true =>
      rw [hq] at hS
      simp only [if_true, gotP, trP, aggD, Jk, List.map_cons, List.map_nil, Ju, Jv, Jw] at hS ⊢
      clear HR hq
      refine PCalls.enter Try.func121 rfl Try.ntmps121 (by simp) ?_
      simp only [argsF]
      refine go_ ?_
      refine Jc ?_
      intro i1 hi1
      try simp only [Rh, Rg, Rf, Ja] at hi1
      refine go_ ?_
      refine Jd ?_
      intro i2 hi2
      try simp only [Rh, Rg, Rf, Ja] at hi2
      refine go_ ?_
      refine Jq (hS.out) ?_
      refine go_ ?_
      refine Rc ?_
      refine go_ ?_
      refine Jl (by simp) (by simp only [Try.results121]; rfl) (by simp [resP, St.box?, PF.get, Jm, TyK.agg, *]; rfl) (List.nil_sublist _) ?_
      exact ⟨by simp [tupP, PV.norm2, PV.norm1, PV.norm0], rfl⟩
set_option maxHeartbeats 8000000 in
theorem rbindR_p (t : Tm) (n : Int) : PCalls Try.prog 111 [aggD t, .d (.v (.int .i64 n))] [] fun p s => p = trP (bindR t n) ∧ s = [] := by
  have hS := Lib.hid (rshaped_p t)
  have hF := Lib.hid (rfits08_p n)
  have HR := Lib.hid (show bindR t n = if (shapedB t && fitsB n) = true then doneS (subT (bindLf n) t 0) else (.mk 0 0 [], 5) from rfl)
  cases h1 : shapedB t with
  | false =>
    rw [h1] at hS
    rw [HR.out, h1]
    simp only [Bool.false_and, Bool.false_eq_true, if_false, trP, aggD, Jk, List.map_cons, List.map_nil, Ju, Jv, Jw] at hS ⊢
    clear HR h1
    refine PCalls.enter Try.func111 rfl Try.ntmps111 (by simp) ?_
    simp only [argsF]
    refine go_ ?_
    refine Jc ?_
    intro i2 hi2
    try simp only [Rh, Rg, Rf, Ja] at hi2
    refine go_ ?_
    refine Jd ?_
    intro i4 hi4
    try simp only [Rh, Rg, Rf, Ja] at hi4
    refine go_ ?_
    refine Jb (hS.out) ?_
    refine go_ ?_
    refine Rc ?_
    refine go_ ?_
    refine Jl (by simp) (by simp only [Try.results111]; rfl) (by simp [resP, St.box?, PF.get, Jm, TyK.agg, *]; rfl) (List.nil_sublist _) ?_
    exact ⟨by simp [tupP, PV.norm2, PV.norm1, PV.norm0], rfl⟩
  | true =>
  rw [h1] at hS
  cases h2 : fitsB n with
  | false =>
    rw [h2] at hF
    rw [HR.out, h1, h2]
    simp only [Bool.true_and, Bool.false_eq_true, if_false, trP, aggD, Jk, List.map_cons, List.map_nil, Ju, Jv, Jw] at hS ⊢
    clear HR h1 h2
    refine PCalls.enter Try.func111 rfl Try.ntmps111 (by simp) ?_
    simp only [argsF]
    refine go_ ?_
    refine Jc ?_
    intro i2 hi2
    try simp only [Rh, Rg, Rf, Ja] at hi2
    refine go_ ?_
    refine Jd ?_
    intro i4 hi4
    try simp only [Rh, Rg, Rf, Ja] at hi4
    refine go_ ?_
    refine Jb (hS.out) ?_
    refine go_ ?_
    refine Jq (hF.out) ?_
    refine go_ ?_
    refine Rc ?_
    refine go_ ?_
    refine Jl (by simp) (by simp only [Try.results111]; rfl) (by simp [resP, St.box?, PF.get, Jm, TyK.agg, *]; rfl) (List.nil_sublist _) ?_
    exact ⟨by simp [tupP, PV.norm2, PV.norm1, PV.norm0], rfl⟩
  | true =>
  rw [h2] at hF
  rw [HR.out, h1, h2]
  simp only [Bool.and_self, if_true]
  have hB := Lib.hid (rbind9_p n t 0 (shaped_hg h1).1 (by decide) (by have := (shaped_hg h1).2.1; omega))
  have hD := Lib.hid (rdone9_p (subT (bindLf n) t 0) false)
  rw [show gotR (subT (bindLf n) t 0) false = doneS (subT (bindLf n) t 0) from rfl] at hD
  clear HR h1 h2
  generalize doneS (subT (bindLf n) t 0) = r at *
  generalize subT (bindLf n) t 0 = x at *
  simp only [gotP, trP, aggD, Jk, List.map_cons, List.map_nil] at hS hB hD ⊢
  refine PCalls.enter Try.func111 rfl Try.ntmps111 (by simp) ?_
  simp only [argsF]
  refine go_ ?_
  refine Jc ?_
  intro i2 hi2
  try simp only [Rh, Rg, Rf, Ja] at hi2
  refine go_ ?_
  refine Jd ?_
  intro i4 hi4
  try simp only [Rh, Rg, Rf, Ja] at hi4
  refine go_ ?_
  refine Jb (hS.out) ?_
  refine go_ ?_
  refine Jq (hF.out) ?_
  refine go_ ?_
  refine Jb (hB.out) ?_
  refine go_ ?_
  refine Jb (hD.out) ?_
  refine go_ ?_
  refine Rc ?_
  refine go_ ?_
  refine Jl (by simp) (by simp only [Try.results111]; rfl) (by simp [resP, St.box?, PF.get, Jm, TyK.agg, *]; rfl) (List.nil_sublist _) ?_
  exact ⟨by simp [tupP, PV.norm2, PV.norm1, PV.norm0], rfl⟩
/-- the document's closing -/
def closeD (kd : Int) : List Va → Tm → Tm × Bool
  | [], t => (t, true)
  | v :: r, t => if (bindR t v.n).2 = 0 then (if shapedB (.mk kd 0 [v.ty, (bindR t v.n).1]) = true then closeD kd r (.mk kd 0 [v.ty, (bindR t v.n).1]) else (.mk kd 0 [v.ty, (bindR t v.n).1], false)) else (t, false)
theorem closeD_G (kd : Int) : ∀ (c : List Va) (t : Tm), clR (closeG kd c t) = if (closeD kd c t).2 = true then ((closeD kd c t).1, 0) else (.mk 0 0 [], 2) := by
  intro c
  induction c with
  | nil => intro t; rfl
  | cons v r ih =>
    intro t
    rw [closeG, closeD]
    split
    · split
      · exact ih _
      · rfl
    · rfl
set_option maxHeartbeats 16000000 in
theorem rclose13_p (kd : Int) (c : List Va) (hl : c.length ≤ 24) (t : Tm) :
    PCalls Try.prog 79 [.d (.v (.int .i64 kd)), .d (.sl ((c.map Va.n).map encD)), .d (.sl ((c.map Va.ty).map encD)), aggD t] [] fun p s => p = .tup [aggD (closeD kd c.reverse t).1, .d (.v (.bool (closeD kd c.reverse t).2))] ∧ s = [] := by
  obtain ⟨R, hR⟩ : ∃ R, R = closeD kd c.reverse t := ⟨_, rfl⟩
  rw [← hR]
  rw [← List.take_length (l := c)] at hR
  have HRh := Lib.hid hR
  have hwl := wr64 (n := (c.length : Int) - 1) (by omega) (by omega)
  have hc : ¬ (24 : Int) < c.length := by omega
  have hln : (c.map Va.n).length = c.length := List.length_map ..
  have hlt : (c.map Va.ty).length = c.length := List.length_map ..
  clear hR
  simp only [aggD, Jk, List.map_cons, List.map_nil]
  refine PCalls.enter Try.func79 rfl Try.ntmps79 (by simp) ?_
  simp only [argsF]
  refine go_ ?_
  refine Jc ?_
  intro i7 hi7
  try simp only [Rh, Rg, Rf, Ja] at hi7
  refine go_ ?_
  refine Jd ?_
  intro i8 hi8
  try simp only [Rh, Rg, Rf, Ja] at hi8
  refine go_ ?_
  refine PW_loop (ι := Nat × Tm) (fun y => y.1 ≤ c.length ∧ Hid (R = closeD kd (c.take y.1).reverse y.2)) (fun y => [(0, .d (.v (.int .i64 kd))), (1, .d (.sl ((c.map Va.n).map encD))), (2, .d (.sl ((c.map Va.ty).map encD))), (7, .ptr i7 0), (8, .ptr i8 0), (10, .d (.v (.int .i64 ((y.1 : Int) - 1))))]) (fun y => [.box i8 28 [.d (.v (.int .i64 0)), .d (.v (.int .i64 0)), .nils], .box i7 28 [.d (.v (.int .i64 y.2.kind)), .d (.v (.int .i64 y.2.num)), .d (.sl (y.2.sub.map encD))]]) (fun y => y.1) (c.length, t) ⟨Nat.le_refl _, HRh.out⟩ ?_ ?_ ?_
  · repeat (first | exact Js _ | refine Jr (by simp [PF.get]; rfl) (by first | rfl | (simp [*]; done) | fail) ?_)
  · repeat (first | exact List.Sublist.refl _ | exact List.nil_sublist _ | refine List.Sublist.cons_cons _ ?_ | refine List.Sublist.cons _ ?_)
  rintro ⟨m, u⟩ ⟨hm, hR⟩
  simp only at hm hR ⊢
  clear HRh hc hwl
  cases m with
  | zero =>
    have hR2 : R = (u, true) := by rw [show R = _ from hR.out]; rfl
    rw [hR2]
    have hw0 : ((0 : Nat) : Int) - 1 = -1 := rfl
    simp only [hw0, aggD, Jk, List.map_cons, List.map_nil]
    clear hR hR2
    refine go_ ?_
    refine Rc ?_
    refine go_ ?_
    refine Jl (by simp) (by simp only [Try.results79]; rfl) (by simp [resP, St.box?, PF.get, Jm, TyK.agg, *]; rfl) (List.nil_sublist _) ?_
    exact ⟨by simp [tupP, PV.norm2, PV.norm1, PV.norm0], rfl⟩
  | succ m =>
    have hml : m < c.length := hm
    have hmn : m < (c.map Va.n).length := by rw [hln]; exact hml
    have hmt : m < (c.map Va.ty).length := by rw [hlt]; exact hml
    have hx : ((c.map Va.n).map encD)[m]? = some (encD c[m].n) := by have := get_enc hmn; rw [List.getElem_map] at this; exact this
    have hy : ((c.map Va.ty).map encD)[m]? = some (encD c[m].ty) := by have := get_enc hmt; rw [List.getElem_map] at this; exact this
    have hw0 : ((m + 1 : Nat) : Int) - 1 = m := by omega
    have hge : (0 : Int) ≤ m := by omega
    have hw := wr64 (n := (m : Int) - 1) (by omega) (by omega)
    have hc1 := Lib.hid (rbindR_p u c[m].n)
    have hR2 := hR.out
    rw [take_rev hml, closeD] at hR2
    have HR2 := Lib.hid hR2
    simp only [hw0]
    clear hR hR2 hmn hmt
    obtain ⟨x, hxd⟩ : ∃ x, x = bindR u c[m].n := ⟨_, rfl⟩
    rw [← hxd] at hc1 HR2
    clear hxd
    obtain ⟨x, e⟩ := x
    simp only [trP, aggD, Jk, List.map_cons, List.map_nil] at hc1 HR2
    by_cases he : e = 0
    · subst he
      have hc2 := Lib.hid (rtwo_p kd c[m].ty x)
      have hc3 := Lib.hid (rshaped_p (.mk kd 0 [c[m].ty, x]))
      simp only [if_true] at HR2
      have hsh : ∃ q, q = shapedB (.mk kd 0 [c[m].ty, x]) := ⟨_, rfl⟩
      obtain ⟨q, hq⟩ := hsh
      rw [← hq] at hc3 HR2
      simp only [aggD, Jk, List.map_cons, List.map_nil, Ju, Jv, Jw] at hc2 hc3
      clear hq
      refine go_ ?_
      refine PW_drawnL (J := keepJ [(i7, _)]) [(0, .a), (1, .a), (2, .a), (3, .a), (4, .a), (5, .a), (6, .a), (7, .a), (8, .a), (9, .e), (10, .e), (11, .a)] (by kernel_rfl) (by rfl) (by kernel_rfl) (by (repeat (first | exact keepJ_nil _ | refine Jt (by simp [St.box?, *] <;> rfl) ?_))) ?_
      repeat (first | with_reducible refine PL_nil ?_ | refine PL_gn2 ?_ | refine PL_s2 ?_ | refine PL_b2 ?_)
      refine PL_call2 (hc1.out) ?_
      repeat (first | with_reducible refine PL_nil ?_ | refine PL_gn2 ?_ | refine PL_s2 ?_ | refine PL_b2 ?_)
      refine PL_alloc rfl (by decide) rfl (by simp; rfl) (fun i hi => by simp only [Rh, Rg, Rf] at hi; (repeat (first | exact keepJ_nil _ | refine Jt (by simp [St.box?, *] <;> rfl) ?_))) ?_
      intro i9 hi9
      try simp only [Rh, Rg, Rf, Ja] at hi9
      repeat (first | with_reducible refine PL_nil ?_ | refine PL_gn2 ?_ | refine PL_s2 ?_ | refine PL_b2 ?_)
      refine PL_store rfl rfl (by simp [nev, nevA, nevB, Jo, PF.eval, PF.get, PF.wants, cPV, cCell, PV.rows, evBin, evUn, Jp, evLen, loadA, Jm, TyK.agg, partA, St.box?, St.tok?, St.setBox, St.setTok, fillO, spl, PV.ps, PV.one, Jn, aggD, slD, Jg, Jj, Jh, Ji, Jf, Je, *]; rfl) (by rfl) (by simp [nev, nevA, nevB, Jo, PF.eval, PF.get, PF.wants, cPV, cCell, PV.rows, evBin, evUn, Jp, evLen, loadA, Jm, TyK.agg, partA, St.box?, St.tok?, St.setBox, St.setTok, fillO, spl, PV.ps, PV.one, Jn, aggD, slD, Jg, Jj, Jh, Ji, Jf, Je, *]; rfl) (by simp [PV.ps, aggD, slD, Jg, Jj, Jh, Ji, Jf, Je]; rfl) (by first | rfl | (simp [*]; done) | (simp [PV.one, *]; done) | fail) (by simp; rfl) (by first | (simp; done) | fail) (by simp [nev, nevA, nevB, Jo, PF.eval, PF.get, PF.wants, cPV, cCell, PV.rows, evBin, evUn, Jp, evLen, loadA, Jm, TyK.agg, partA, St.box?, St.tok?, St.setBox, St.setTok, fillO, spl, PV.ps, PV.one, Jn, aggD, slD, Jg, Jj, Jh, Ji, Jf, Je, *]; rfl) (by rfl) (by first | (simp; done) | fail) (by simp [St.setBox, spl, *]; rfl) (by first | exact .inl (by decide +kernel) | exact .inr (by (repeat (first | exact keepJ_nil _ | refine Jt (by simp [St.box?, *] <;> rfl) ?_)))) ?_
      repeat (first | with_reducible refine PL_nil ?_ | refine PL_gn2 ?_ | refine PL_s2 ?_ | refine PL_b2 ?_)
      refine go_ ?_
      refine PW_drawnL (J := keepJ [(i9, _)]) [(0, .a), (1, .a), (2, .a), (3, .a), (4, .a), (5, .a), (6, .a), (7, .e)] (by kernel_rfl) (by rfl) (by kernel_rfl) (by (repeat (first | exact keepJ_nil _ | refine Jt (by simp [St.box?, *] <;> rfl) ?_))) ?_
      repeat (first | with_reducible refine PL_nil ?_ | refine PL_gn2 ?_ | refine PL_s2 ?_ | refine PL_b2 ?_)
      refine PL_call2 (hc2.out) ?_
      repeat (first | with_reducible refine PL_nil ?_ | refine PL_gn2 ?_ | refine PL_s2 ?_ | refine PL_b2 ?_)
      refine PL_store rfl rfl (by simp [nev, nevA, nevB, Jo, PF.eval, PF.get, PF.wants, cPV, cCell, PV.rows, evBin, evUn, Jp, evLen, loadA, Jm, TyK.agg, partA, St.box?, St.tok?, St.setBox, St.setTok, fillO, spl, PV.ps, PV.one, Jn, aggD, slD, Jg, Jj, Jh, Ji, Jf, Je, *]; rfl) (by rfl) (by simp [nev, nevA, nevB, Jo, PF.eval, PF.get, PF.wants, cPV, cCell, PV.rows, evBin, evUn, Jp, evLen, loadA, Jm, TyK.agg, partA, St.box?, St.tok?, St.setBox, St.setTok, fillO, spl, PV.ps, PV.one, Jn, aggD, slD, Jg, Jj, Jh, Ji, Jf, Je, *]; rfl) (by simp [PV.ps, aggD, slD, Jg, Jj, Jh, Ji, Jf, Je]; rfl) (by first | rfl | (simp [*]; done) | (simp [PV.one, *]; done) | fail) (by simp; rfl) (by first | (simp; done) | fail) (by simp [nev, nevA, nevB, Jo, PF.eval, PF.get, PF.wants, cPV, cCell, PV.rows, evBin, evUn, Jp, evLen, loadA, Jm, TyK.agg, partA, St.box?, St.tok?, St.setBox, St.setTok, fillO, spl, PV.ps, PV.one, Jn, aggD, slD, Jg, Jj, Jh, Ji, Jf, Je, *]; rfl) (by rfl) (by first | (simp; done) | fail) (by simp [St.setBox, spl, *]; rfl) (by first | exact .inl (by decide +kernel) | exact .inr (by (repeat (first | exact keepJ_nil _ | refine Jt (by simp [St.box?, *] <;> rfl) ?_)))) ?_
      repeat (first | with_reducible refine PL_nil ?_ | refine PL_gn2 ?_ | refine PL_s2 ?_ | refine PL_b2 ?_)
      refine go_ ?_
      cases q with
      | false =>
        have hR3 : R = (.mk kd 0 [c[m].ty, x], false) := by rw [show R = _ from HR2.out]; rfl
        rw [hR3]
        simp only [aggD, Jk, Ju, Jv, Jw, List.map_cons, List.map_nil]
        clear HR2 hR3
        refine go_ ?_
        refine Jb (hc3.out) ?_
        refine go_ ?_
        refine Rc ?_
        refine go_ ?_
        refine Jl (by simp) (by simp only [Try.results79]; rfl) (by simp [resP, St.box?, PF.get, Jm, TyK.agg, *]; rfl) (List.nil_sublist _) ?_
        exact ⟨by simp [tupP, PV.norm2, PV.norm1, PV.norm0], rfl⟩
      | true =>
        have hR3 : Hid (R = closeD kd (c.take m).reverse (.mk kd 0 [c[m].ty, x])) := HR2.out
        clear HR2
        refine go_ ?_
        refine Jb (hc3.out) ?_
        refine go_ ?_
        refine ⟨(m, .mk kd 0 [c[m].ty, x]), ⟨by omega, hR3⟩, by simp only; omega, by repeat (first | exact Js _ | refine Jr (by simp [PF.get]; rfl) (by first | rfl | (simp [*]; done) | fail) ?_), ?_⟩
        simp only [Ju, Jv, Jw, List.map_cons, List.map_nil, Jk]
        repeat (first | exact List.Sublist.refl _ | exact List.nil_sublist _ | refine List.Sublist.cons_cons _ ?_ | refine List.Sublist.cons _ ?_)
    · have hR3 : R = (u, false) := by rw [show R = _ from HR2.out, if_neg he]
      rw [hR3]
      have heb : (e == 0) = false := by rw [beq_eq_false_iff_ne]; exact he
      have heb2 : (e != 0) = true := by rw [bne_iff_ne]; exact he
      simp only [aggD, Jk, List.map_cons, List.map_nil]
      clear HR2 hR3
      refine go_ ?_
      refine PW_drawnL (J := keepJ [(i7, _)]) [(0, .a), (1, .a), (2, .a), (3, .a), (4, .a), (5, .a), (6, .a), (7, .a), (8, .a), (9, .e), (10, .e), (11, .a)] (by kernel_rfl) (by rfl) (by kernel_rfl) (by (repeat (first | exact keepJ_nil _ | refine Jt (by simp [St.box?, *] <;> rfl) ?_))) ?_
      repeat (first | with_reducible refine PL_nil ?_ | refine PL_gn2 ?_ | refine PL_s2 ?_ | refine PL_b2 ?_)
      refine PL_call2 (hc1.out) ?_
      repeat (first | with_reducible refine PL_nil ?_ | refine PL_gn2 ?_ | refine PL_s2 ?_ | refine PL_b2 ?_)
      refine PL_alloc rfl (by decide) rfl (by simp; rfl) (fun i hi => by simp only [Rh, Rg, Rf] at hi; (repeat (first | exact keepJ_nil _ | refine Jt (by simp [St.box?, *] <;> rfl) ?_))) ?_
      intro i9 hi9
      try simp only [Rh, Rg, Rf, Ja] at hi9
      repeat (first | with_reducible refine PL_nil ?_ | refine PL_gn2 ?_ | refine PL_s2 ?_ | refine PL_b2 ?_)
      refine PL_store rfl rfl (by simp [nev, nevA, nevB, Jo, PF.eval, PF.get, PF.wants, cPV, cCell, PV.rows, evBin, evUn, Jp, evLen, loadA, Jm, TyK.agg, partA, St.box?, St.tok?, St.setBox, St.setTok, fillO, spl, PV.ps, PV.one, Jn, aggD, slD, Jg, Jj, Jh, Ji, Jf, Je, *]; rfl) (by rfl) (by simp [nev, nevA, nevB, Jo, PF.eval, PF.get, PF.wants, cPV, cCell, PV.rows, evBin, evUn, Jp, evLen, loadA, Jm, TyK.agg, partA, St.box?, St.tok?, St.setBox, St.setTok, fillO, spl, PV.ps, PV.one, Jn, aggD, slD, Jg, Jj, Jh, Ji, Jf, Je, *]; rfl) (by simp [PV.ps, aggD, slD, Jg, Jj, Jh, Ji, Jf, Je]; rfl) (by first | rfl | (simp [*]; done) | (simp [PV.one, *]; done) | fail) (by simp; rfl) (by first | (simp; done) | fail) (by simp [nev, nevA, nevB, Jo, PF.eval, PF.get, PF.wants, cPV, cCell, PV.rows, evBin, evUn, Jp, evLen, loadA, Jm, TyK.agg, partA, St.box?, St.tok?, St.setBox, St.setTok, fillO, spl, PV.ps, PV.one, Jn, aggD, slD, Jg, Jj, Jh, Ji, Jf, Je, *]; rfl) (by rfl) (by first | (simp; done) | fail) (by simp [St.setBox, spl, *]; rfl) (by first | exact .inl (by decide +kernel) | exact .inr (by (repeat (first | exact keepJ_nil _ | refine Jt (by simp [St.box?, *] <;> rfl) ?_)))) ?_
      repeat (first | with_reducible refine PL_nil ?_ | refine PL_gn2 ?_ | refine PL_s2 ?_ | refine PL_b2 ?_)
      refine go_ ?_
      refine Rc ?_
      refine go_ ?_
      refine Jl (by simp) (by simp only [Try.results79]; rfl) (by simp [resP, St.box?, PF.get, Jm, TyK.agg, *]; rfl) (List.nil_sublist _) ?_
      exact ⟨by simp [tupP, PV.norm2, PV.norm1, PV.norm0], rfl⟩
end Go.Proofs.Ytfnfbbmegdkhjaa

namespace Go.Proofs.Ytfnfbbmegdkhjaa
open Go.RowKit Go.WideMaps
set_option maxRecDepth 100000
set_option maxHeartbeats 4000000 in
theorem rclose13_big (kd : Int) (c : List Va) (hl : 24 < c.length) (t : Tm) :
    PCalls Try.prog 79 [.d (.v (.int .i64 kd)), .d (.sl ((c.map Va.n).map encD)), .d (.sl ((c.map Va.ty).map encD)), aggD t] [] fun p s => p = .tup [aggD t, .d (.v (.bool false))] ∧ s = [] := by
  have hlt : (c.map Va.ty).length = c.length := List.length_map ..
  have hc : (24 : Int) < c.length := by omega
  simp only [aggD, Jk, List.map_cons, List.map_nil]
  refine PCalls.enter Try.func79 rfl Try.ntmps79 (by simp) ?_
  simp only [argsF]
  refine go_ ?_
  refine Jc ?_
  intro i7 hi7
  try simp only [Rh, Rg, Rf, Ja] at hi7
  refine go_ ?_
  refine Jd ?_
  intro i8 hi8
  try simp only [Rh, Rg, Rf, Ja] at hi8
  refine go_ ?_
  refine Rc ?_
  refine go_ ?_
  refine Jl (by simp) (by simp only [Try.results79]; rfl) (by simp [resP, St.box?, PF.get, Jm, TyK.agg, *]; rfl) (List.nil_sublist _) ?_
  exact ⟨by simp [tupP, PV.norm2, PV.norm1, PV.norm0], rfl⟩
def closeE (kd : Int) (c : List Va) (t : Tm) : Tm × Bool := if 24 < c.length then (t, false) else closeD kd c.reverse t
theorem rclose13E_p (kd : Int) (c : List Va) (t : Tm) :
    PCalls Try.prog 79 [.d (.v (.int .i64 kd)), .d (.sl ((c.map Va.n).map encD)), .d (.sl ((c.map Va.ty).map encD)), aggD t] [] fun p s => p = .tup [aggD (closeE kd c t).1, .d (.v (.bool (closeE kd c t).2))] ∧ s = [] := by
  unfold closeE
  by_cases h : 24 < c.length
  · rw [if_pos h]; exact rclose13_big kd c h t
  · rw [if_neg h]; exact rclose13_p kd c (by omega) t
theorem around_E (kd : Int) (c : List Va) (t : Tm) (h : rightV c = true ∧ shapedB t = true) : aroundR kd c t = if (closeE kd c t).2 = true then ((closeE kd c t).1, 0) else (.mk 0 0 [], 2) := by
  unfold aroundR closeE
  rw [h.1, h.2]
  simp only [Bool.and_self, Bool.true_eq_false, if_false]
  by_cases h24 : 24 < c.length
  · rw [if_pos h24, if_pos h24]; rfl
  · rw [if_neg h24, if_neg h24]; exact closeD_G kd c.reverse t
set_option maxHeartbeats 8000000 in
theorem raround22_p (kd : Int) (c : List Va) (hl : c.length ≤ 100000) (t : Tm) :
    PCalls Try.prog 38 [.d (.v (.int .i64 kd)), .d (.sl (c.map encD)), aggD t] [] fun p s => p = trP (aroundR kd c t) ∧ s = [] := by
  have hR := Lib.hid (rright22_p c)
  have hS := Lib.hid (rshaped_p t)
  cases h1 : rightV c with
  | false =>
    rw [h1] at hR
    have HR := Lib.hid (show aroundR kd c t = (.mk 0 0 [], 5) from by unfold aroundR; rw [h1]; rfl)
    rw [HR.out]
    simp only [trP, aggD, Jk, List.map_cons, List.map_nil, Ju, Jv, Jw] at hS ⊢
    clear HR h1
    refine PCalls.enter Try.func38 rfl Try.ntmps38 (by simp) ?_
    simp only [argsF]
    refine go_ ?_
    refine Jc ?_
    intro i5 hi5
    try simp only [Rh, Rg, Rf, Ja] at hi5
    refine go_ ?_
    refine Jd ?_
    intro i6 hi6
    try simp only [Rh, Rg, Rf, Ja] at hi6
    refine go_ ?_
    refine Jb (hR.out) ?_
    refine go_ ?_
    refine Rc ?_
    refine go_ ?_
    refine Jl (by simp) (by simp only [Try.results38]; rfl) (by simp [resP, St.box?, PF.get, Jm, TyK.agg, *]; rfl) (List.nil_sublist _) ?_
    exact ⟨by simp [tupP, PV.norm2, PV.norm1, PV.norm0], rfl⟩
  | true =>
  rw [h1] at hR
  cases h2 : shapedB t with
  | false =>
    rw [h2] at hS
    have HR := Lib.hid (show aroundR kd c t = (.mk 0 0 [], 5) from by unfold aroundR; rw [h1, h2]; rfl)
    rw [HR.out]
    simp only [trP, aggD, Jk, List.map_cons, List.map_nil, Ju, Jv, Jw] at hS ⊢
    clear HR h1 h2
    refine PCalls.enter Try.func38 rfl Try.ntmps38 (by simp) ?_
    simp only [argsF]
    refine go_ ?_
    refine Jc ?_
    intro i5 hi5
    try simp only [Rh, Rg, Rf, Ja] at hi5
    refine go_ ?_
    refine Jd ?_
    intro i6 hi6
    try simp only [Rh, Rg, Rf, Ja] at hi6
    refine go_ ?_
    refine Jb (hR.out) ?_
    refine go_ ?_
    refine Jq (hS.out) ?_
    refine go_ ?_
    refine Rc ?_
    refine go_ ?_
    refine Jl (by simp) (by simp only [Try.results38]; rfl) (by simp [resP, St.box?, PF.get, Jm, TyK.agg, *]; rfl) (List.nil_sublist _) ?_
    exact ⟨by simp [tupP, PV.norm2, PV.norm1, PV.norm0], rfl⟩
  | true =>
  rw [h2] at hS
  have HR := Lib.hid (around_E kd c t ⟨h1, h2⟩)
  have hN := Lib.hid (rfnumbers_p c hl)
  have hT := Lib.hid (rftypes_p c hl)
  have hC := Lib.hid (rclose13E_p kd c t)
  clear h1 h2
  generalize aroundR kd c t = r at *
  obtain ⟨x, hx⟩ : ∃ x, x = closeE kd c t := ⟨_, rfl⟩
  rw [← hx] at HR hC
  clear hx
  obtain ⟨x, q⟩ := x
  generalize (c.map Va.n).map encD = U at *
  generalize (c.map Va.ty).map encD = B at *
  cases q with
  | false =>
    rw [show r = _ from HR.out]
    simp only [Bool.false_eq_true, if_false, trP, aggD, Jk, List.map_cons, List.map_nil, Ju, Jv, Jw] at hS hC ⊢
    clear HR
    refine PCalls.enter Try.func38 rfl Try.ntmps38 (by simp) ?_
    simp only [argsF]
    refine go_ ?_
    refine Jc ?_
    intro i5 hi5
    try simp only [Rh, Rg, Rf, Ja] at hi5
    refine go_ ?_
    refine Jd ?_
    intro i6 hi6
    try simp only [Rh, Rg, Rf, Ja] at hi6
    refine go_ ?_
    refine Jb (hR.out) ?_
    refine go_ ?_
    refine Jq (hS.out) ?_
    refine go_ ?_
    refine PW_drawnL (J := keepJ [(i5, _)]) [(0, .a), (1, .a), (2, .a), (3, .a), (4, .a), (5, .a), (6, .a), (7, .a), (8, .a), (9, .a), (10, .e), (11, .e), (12, .a)] (by kernel_rfl) (by rfl) (by kernel_rfl) (by (repeat (first | exact keepJ_nil _ | refine Jt (by simp [St.box?, *] <;> rfl) ?_))) ?_
    repeat (first | with_reducible refine PL_nil ?_ | refine PL_gn2 ?_ | refine PL_s2 ?_ | refine PL_b2 ?_)
    refine PL_call2 (hN.out) ?_
    repeat (first | with_reducible refine PL_nil ?_ | refine PL_gn2 ?_ | refine PL_s2 ?_ | refine PL_b2 ?_)
    refine PL_call2 (hT.out) ?_
    repeat (first | with_reducible refine PL_nil ?_ | refine PL_gn2 ?_ | refine PL_s2 ?_ | refine PL_b2 ?_)
    refine PL_call2 (hC.out) ?_
    repeat (first | with_reducible refine PL_nil ?_ | refine PL_gn2 ?_ | refine PL_s2 ?_ | refine PL_b2 ?_)
    refine PL_alloc rfl (by decide) rfl (by simp; rfl) (fun i hi => by simp only [Rh, Rg, Rf] at hi; (repeat (first | exact keepJ_nil _ | refine Jt (by simp [St.box?, *] <;> rfl) ?_))) ?_
    intro i8 hi8
    try simp only [Rh, Rg, Rf, Ja] at hi8
    repeat (first | with_reducible refine PL_nil ?_ | refine PL_gn2 ?_ | refine PL_s2 ?_ | refine PL_b2 ?_)
    refine PL_store rfl rfl (by simp [nev, nevA, nevB, Jo, PF.eval, PF.get, PF.wants, cPV, cCell, PV.rows, evBin, evUn, Jp, evLen, loadA, Jm, TyK.agg, partA, St.box?, St.tok?, St.setBox, St.setTok, fillO, spl, PV.ps, PV.one, Jn, aggD, slD, Jg, Jj, Jh, Ji, Jf, Je, *]; rfl) (by rfl) (by simp [nev, nevA, nevB, Jo, PF.eval, PF.get, PF.wants, cPV, cCell, PV.rows, evBin, evUn, Jp, evLen, loadA, Jm, TyK.agg, partA, St.box?, St.tok?, St.setBox, St.setTok, fillO, spl, PV.ps, PV.one, Jn, aggD, slD, Jg, Jj, Jh, Ji, Jf, Je, *]; rfl) (by simp [PV.ps, aggD, slD, Jg, Jj, Jh, Ji, Jf, Je]; rfl) (by first | rfl | (simp [*]; done) | (simp [PV.one, *]; done) | fail) (by simp; rfl) (by first | (simp; done) | fail) (by simp [nev, nevA, nevB, Jo, PF.eval, PF.get, PF.wants, cPV, cCell, PV.rows, evBin, evUn, Jp, evLen, loadA, Jm, TyK.agg, partA, St.box?, St.tok?, St.setBox, St.setTok, fillO, spl, PV.ps, PV.one, Jn, aggD, slD, Jg, Jj, Jh, Ji, Jf, Je, *]; rfl) (by rfl) (by first | (simp; done) | fail) (by simp [St.setBox, spl, *]; rfl) (by first | exact .inl (by decide +kernel) | exact .inr (by (repeat (first | exact keepJ_nil _ | refine Jt (by simp [St.box?, *] <;> rfl) ?_)))) ?_
    repeat (first | with_reducible refine PL_nil ?_ | refine PL_gn2 ?_ | refine PL_s2 ?_ | refine PL_b2 ?_)
    refine go_ ?_
    refine Rc ?_
    refine go_ ?_
    refine Jl (by simp) (by simp only [Try.results38]; rfl) (by simp [resP, St.box?, PF.get, Jm, TyK.agg, *]; rfl) (List.nil_sublist _) ?_
    exact ⟨by simp [tupP, PV.norm2, PV.norm1, PV.norm0], rfl⟩
  | true =>
    rw [show r = _ from HR.out]
    simp only [if_true, trP, aggD, Jk, List.map_cons, List.map_nil, Ju, Jv, Jw] at hS hC ⊢
    clear HR
    refine PCalls.enter Try.func38 rfl Try.ntmps38 (by simp) ?_
    simp only [argsF]
    refine go_ ?_
    refine Jc ?_
    intro i5 hi5
    try simp only [Rh, Rg, Rf, Ja] at hi5
    refine go_ ?_
    refine Jd ?_
    intro i6 hi6
    try simp only [Rh, Rg, Rf, Ja] at hi6
    refine go_ ?_
    refine Jb (hR.out) ?_
    refine go_ ?_
    refine Jq (hS.out) ?_
    refine go_ ?_
    refine PW_drawnL (J := keepJ [(i5, _)]) [(0, .a), (1, .a), (2, .a), (3, .a), (4, .a), (5, .a), (6, .a), (7, .a), (8, .a), (9, .a), (10, .e), (11, .e), (12, .a)] (by kernel_rfl) (by rfl) (by kernel_rfl) (by (repeat (first | exact keepJ_nil _ | refine Jt (by simp [St.box?, *] <;> rfl) ?_))) ?_
    repeat (first | with_reducible refine PL_nil ?_ | refine PL_gn2 ?_ | refine PL_s2 ?_ | refine PL_b2 ?_)
    refine PL_call2 (hN.out) ?_
    repeat (first | with_reducible refine PL_nil ?_ | refine PL_gn2 ?_ | refine PL_s2 ?_ | refine PL_b2 ?_)
    refine PL_call2 (hT.out) ?_
    repeat (first | with_reducible refine PL_nil ?_ | refine PL_gn2 ?_ | refine PL_s2 ?_ | refine PL_b2 ?_)
    refine PL_call2 (hC.out) ?_
    repeat (first | with_reducible refine PL_nil ?_ | refine PL_gn2 ?_ | refine PL_s2 ?_ | refine PL_b2 ?_)
    refine PL_alloc rfl (by decide) rfl (by simp; rfl) (fun i hi => by simp only [Rh, Rg, Rf] at hi; (repeat (first | exact keepJ_nil _ | refine Jt (by simp [St.box?, *] <;> rfl) ?_))) ?_
    intro i8 hi8
    try simp only [Rh, Rg, Rf, Ja] at hi8
    repeat (first | with_reducible refine PL_nil ?_ | refine PL_gn2 ?_ | refine PL_s2 ?_ | refine PL_b2 ?_)
    refine PL_store rfl rfl (by simp [nev, nevA, nevB, Jo, PF.eval, PF.get, PF.wants, cPV, cCell, PV.rows, evBin, evUn, Jp, evLen, loadA, Jm, TyK.agg, partA, St.box?, St.tok?, St.setBox, St.setTok, fillO, spl, PV.ps, PV.one, Jn, aggD, slD, Jg, Jj, Jh, Ji, Jf, Je, *]; rfl) (by rfl) (by simp [nev, nevA, nevB, Jo, PF.eval, PF.get, PF.wants, cPV, cCell, PV.rows, evBin, evUn, Jp, evLen, loadA, Jm, TyK.agg, partA, St.box?, St.tok?, St.setBox, St.setTok, fillO, spl, PV.ps, PV.one, Jn, aggD, slD, Jg, Jj, Jh, Ji, Jf, Je, *]; rfl) (by simp [PV.ps, aggD, slD, Jg, Jj, Jh, Ji, Jf, Je]; rfl) (by first | rfl | (simp [*]; done) | (simp [PV.one, *]; done) | fail) (by simp; rfl) (by first | (simp; done) | fail) (by simp [nev, nevA, nevB, Jo, PF.eval, PF.get, PF.wants, cPV, cCell, PV.rows, evBin, evUn, Jp, evLen, loadA, Jm, TyK.agg, partA, St.box?, St.tok?, St.setBox, St.setTok, fillO, spl, PV.ps, PV.one, Jn, aggD, slD, Jg, Jj, Jh, Ji, Jf, Je, *]; rfl) (by rfl) (by first | (simp; done) | fail) (by simp [St.setBox, spl, *]; rfl) (by first | exact .inl (by decide +kernel) | exact .inr (by (repeat (first | exact keepJ_nil _ | refine Jt (by simp [St.box?, *] <;> rfl) ?_)))) ?_
    repeat (first | with_reducible refine PL_nil ?_ | refine PL_gn2 ?_ | refine PL_s2 ?_ | refine PL_b2 ?_)
    refine go_ ?_
    refine Rc ?_
    refine go_ ?_
    refine Jl (by simp) (by simp only [Try.results38]; rfl) (by simp [resP, St.box?, PF.get, Jm, TyK.agg, *]; rfl) (List.nil_sublist _) ?_
    exact ⟨by simp [tupP, PV.norm2, PV.norm1, PV.norm0], rfl⟩
theorem light_iw {c : List Va} (h : lightB c = true) : c.length ≤ 100000 := by have := (light_ok h).1; omega
set_option maxHeartbeats 16000000 in
theorem arounds_p (c : List Va) (t : Tm) : PCalls Try.prog 6 [.d (.sl (c.map encD)), aggD t] [] fun p s => p = .d (.v (.bool true)) ∧ s = [] := by
  have hA := Lib.hid awake22_p
  have hL := Lib.hid (law22light_p c)
  have hZ := Lib.hid (rSize_p t)
  cases h1 : lightB c with
  | false =>
    rw [h1] at hL
    simp only [aggD, Jk, List.map_cons, List.map_nil] at hZ ⊢
    refine PCalls.enter Try.func6 rfl Try.ntmps6 (by simp) ?_
    simp only [argsF]
    refine go_ ?_
    refine Jc ?_
    intro i3 hi3
    try simp only [Rh, Rg, Rf, Ja] at hi3
    refine go_ ?_
    refine Jb (hL.out) ?_
    refine go_ ?_
    refine Jb (hA.out) ?_
    refine go_ ?_
    refine Jl (by simp) (by simp only [Try.results6]; rfl) (by simp [resP, St.box?, PF.get, Jm, TyK.agg, *]; rfl) (List.nil_sublist _) ?_
    exact ⟨rfl, rfl⟩
  | true =>
  rw [h1] at hL
  have hcl := light_iw h1
  have hO := Lib.hid (law22of_p c hcl)
  have hP := Lib.hid (fpis_p c hcl t)
  have hM := Lib.hid (flams_p c hcl t)
  have hR3 := Lib.hid (raround22_p 3 c hcl t)
  have hR4 := Lib.hid (raround22_p 4 c hcl t)
  have HC := Lib.hid (around_code c t)
  clear h1 hcl
  generalize aroundR 3 c t = a at *
  generalize aroundR 4 c t = b at *
  obtain ⟨a, e⟩ := a
  obtain ⟨b, f⟩ := b
  have hE1 := Lib.hid (requal_p a a)
  have hE2 := Lib.hid (requal_p b b)
  rw [(eqT_iff a a).2 rfl] at hE1
  rw [(eqT_iff b b).2 rfl] at hE2
  obtain ⟨hef, hk⟩ := HC.out
  simp only at hef hk
  subst hef
  clear HC
  simp only [trP, aggD, Jk, List.map_cons, List.map_nil] at hZ hP hM hR3 hR4 hE1 hE2 ⊢
  by_cases hz : 500 < csizeT t
  · refine PCalls.enter Try.func6 rfl Try.ntmps6 (by simp) ?_
    simp only [argsF]
    refine go_ ?_
    refine Jc ?_
    intro i3 hi3
    try simp only [Rh, Rg, Rf, Ja] at hi3
    refine go_ ?_
    refine Jb (hL.out) ?_
    refine go_ ?_
    refine Jq (hZ.out) ?_
    refine go_ ?_
    refine Jb (hA.out) ?_
    refine go_ ?_
    refine Jl (by simp) (by simp only [Try.results6]; rfl) (by simp [resP, St.box?, PF.get, Jm, TyK.agg, *]; rfl) (List.nil_sublist _) ?_
    exact ⟨rfl, rfl⟩
  have hee : (e != e) = false := bne_self_eq_false e
  by_cases he : e = 0
  · subst he
    clear hk hee
    refine PCalls.enter Try.func6 rfl Try.ntmps6 (by simp) ?_
    simp only [argsF]
    refine go_ ?_
    refine Jc ?_
    intro i3 hi3
    try simp only [Rh, Rg, Rf, Ja] at hi3
    refine go_ ?_
    refine Jb (hL.out) ?_
    refine go_ ?_
    refine Jq (hZ.out) ?_
    refine go_ ?_
    refine Jb (hP.out) ?_
    refine go_ ?_
    refine Jd ?_
    intro i5 hi5
    try simp only [Rh, Rg, Rf, Ja] at hi5
    refine go_ ?_
    refine Rc ?_
    refine go_ ?_
    refine PW_drawnL (J := keepJ [(i3, _)]) [(0, .a), (1, .a), (2, .a), (3, .a), (4, .a), (5, .a), (6, .a), (7, .e), (8, .e), (9, .a)] (by kernel_rfl) (by rfl) (by kernel_rfl) (by (repeat (first | exact keepJ_nil _ | refine Jt (by simp [St.box?, *] <;> rfl) ?_))) ?_
    repeat (first | with_reducible refine PL_nil ?_ | refine PL_gn2 ?_ | refine PL_s2 ?_ | refine PL_b2 ?_)
    refine PL_call2 (hO.out) ?_
    repeat (first | with_reducible refine PL_nil ?_ | refine PL_gn2 ?_ | refine PL_s2 ?_ | refine PL_b2 ?_)
    refine PL_call2 (hR3.out) ?_
    repeat (first | with_reducible refine PL_nil ?_ | refine PL_gn2 ?_ | refine PL_s2 ?_ | refine PL_b2 ?_)
    refine PL_alloc rfl (by decide) rfl (by simp; rfl) (fun i hi => by simp only [Rh, Rg, Rf] at hi; (repeat (first | exact keepJ_nil _ | refine Jt (by simp [St.box?, *] <;> rfl) ?_))) ?_
    intro i7 hi7
    try simp only [Rh, Rg, Rf, Ja] at hi7
    repeat (first | with_reducible refine PL_nil ?_ | refine PL_gn2 ?_ | refine PL_s2 ?_ | refine PL_b2 ?_)
    refine PL_store rfl rfl (by simp [nev, nevA, nevB, Jo, PF.eval, PF.get, PF.wants, cPV, cCell, PV.rows, evBin, evUn, Jp, evLen, loadA, Jm, TyK.agg, partA, St.box?, St.tok?, St.setBox, St.setTok, fillO, spl, PV.ps, PV.one, Jn, aggD, slD, Jg, Jj, Jh, Ji, Jf, Je, *]; rfl) (by rfl) (by simp [nev, nevA, nevB, Jo, PF.eval, PF.get, PF.wants, cPV, cCell, PV.rows, evBin, evUn, Jp, evLen, loadA, Jm, TyK.agg, partA, St.box?, St.tok?, St.setBox, St.setTok, fillO, spl, PV.ps, PV.one, Jn, aggD, slD, Jg, Jj, Jh, Ji, Jf, Je, *]; rfl) (by simp [PV.ps, aggD, slD, Jg, Jj, Jh, Ji, Jf, Je]; rfl) (by first | rfl | (simp [*]; done) | (simp [PV.one, *]; done) | fail) (by simp; rfl) (by first | (simp; done) | fail) (by simp [nev, nevA, nevB, Jo, PF.eval, PF.get, PF.wants, cPV, cCell, PV.rows, evBin, evUn, Jp, evLen, loadA, Jm, TyK.agg, partA, St.box?, St.tok?, St.setBox, St.setTok, fillO, spl, PV.ps, PV.one, Jn, aggD, slD, Jg, Jj, Jh, Ji, Jf, Je, *]; rfl) (by rfl) (by first | (simp; done) | fail) (by simp [St.setBox, spl, *]; rfl) (by first | exact .inl (by decide +kernel) | exact .inr (by (repeat (first | exact keepJ_nil _ | refine Jt (by simp [St.box?, *] <;> rfl) ?_)))) ?_
    repeat (first | with_reducible refine PL_nil ?_ | refine PL_gn2 ?_ | refine PL_s2 ?_ | refine PL_b2 ?_)
    refine go_ ?_
    refine Jb (hM.out) ?_
    refine go_ ?_
    refine Jd ?_
    intro i9 hi9
    try simp only [Rh, Rg, Rf, Ja] at hi9
    refine go_ ?_
    refine Rc ?_
    refine go_ ?_
    refine PW_drawnL (J := keepJ [(i3, _)]) [(0, .a), (1, .a), (2, .a), (3, .a), (4, .a), (5, .a), (6, .a), (7, .e), (8, .e), (9, .a)] (by kernel_rfl) (by rfl) (by kernel_rfl) (by (repeat (first | exact keepJ_nil _ | refine Jt (by simp [St.box?, *] <;> rfl) ?_))) ?_
    repeat (first | with_reducible refine PL_nil ?_ | refine PL_gn2 ?_ | refine PL_s2 ?_ | refine PL_b2 ?_)
    refine PL_call2 (hO.out) ?_
    repeat (first | with_reducible refine PL_nil ?_ | refine PL_gn2 ?_ | refine PL_s2 ?_ | refine PL_b2 ?_)
    refine PL_call2 (hR4.out) ?_
    repeat (first | with_reducible refine PL_nil ?_ | refine PL_gn2 ?_ | refine PL_s2 ?_ | refine PL_b2 ?_)
    refine PL_alloc rfl (by decide) rfl (by simp; rfl) (fun i hi => by simp only [Rh, Rg, Rf] at hi; (repeat (first | exact keepJ_nil _ | refine Jt (by simp [St.box?, *] <;> rfl) ?_))) ?_
    intro i11 hi11
    try simp only [Rh, Rg, Rf, Ja] at hi11
    repeat (first | with_reducible refine PL_nil ?_ | refine PL_gn2 ?_ | refine PL_s2 ?_ | refine PL_b2 ?_)
    refine PL_store rfl rfl (by simp [nev, nevA, nevB, Jo, PF.eval, PF.get, PF.wants, cPV, cCell, PV.rows, evBin, evUn, Jp, evLen, loadA, Jm, TyK.agg, partA, St.box?, St.tok?, St.setBox, St.setTok, fillO, spl, PV.ps, PV.one, Jn, aggD, slD, Jg, Jj, Jh, Ji, Jf, Je, *]; rfl) (by rfl) (by simp [nev, nevA, nevB, Jo, PF.eval, PF.get, PF.wants, cPV, cCell, PV.rows, evBin, evUn, Jp, evLen, loadA, Jm, TyK.agg, partA, St.box?, St.tok?, St.setBox, St.setTok, fillO, spl, PV.ps, PV.one, Jn, aggD, slD, Jg, Jj, Jh, Ji, Jf, Je, *]; rfl) (by simp [PV.ps, aggD, slD, Jg, Jj, Jh, Ji, Jf, Je]; rfl) (by first | rfl | (simp [*]; done) | (simp [PV.one, *]; done) | fail) (by simp; rfl) (by first | (simp; done) | fail) (by simp [nev, nevA, nevB, Jo, PF.eval, PF.get, PF.wants, cPV, cCell, PV.rows, evBin, evUn, Jp, evLen, loadA, Jm, TyK.agg, partA, St.box?, St.tok?, St.setBox, St.setTok, fillO, spl, PV.ps, PV.one, Jn, aggD, slD, Jg, Jj, Jh, Ji, Jf, Je, *]; rfl) (by rfl) (by first | (simp; done) | fail) (by simp [St.setBox, spl, *]; rfl) (by first | exact .inl (by decide +kernel) | exact .inr (by (repeat (first | exact keepJ_nil _ | refine Jt (by simp [St.box?, *] <;> rfl) ?_)))) ?_
    repeat (first | with_reducible refine PL_nil ?_ | refine PL_gn2 ?_ | refine PL_s2 ?_ | refine PL_b2 ?_)
    refine go_ ?_
    refine Jq (hE1.out) ?_
    refine go_ ?_
    refine Jq (hE2.out) ?_
    refine go_ ?_
    refine Jq (hA.out) ?_
    refine go_ ?_
    refine Jl (by simp) (by simp only [Try.results6]; rfl) (by simp [resP, St.box?, PF.get, Jm, TyK.agg, *]; rfl) (List.nil_sublist _) ?_
    exact ⟨rfl, rfl⟩
  · obtain ⟨k1, k2⟩ := hk he
    rw [k1] at hP hR3
    rw [k2] at hM hR4
    have heb : (e != 0) = true := by rw [bne_iff_ne]; exact he
    clear hk hE1 hE2
    refine PCalls.enter Try.func6 rfl Try.ntmps6 (by simp) ?_
    simp only [argsF]
    refine go_ ?_
    refine Jc ?_
    intro i3 hi3
    try simp only [Rh, Rg, Rf, Ja] at hi3
    refine go_ ?_
    refine Jb (hL.out) ?_
    refine go_ ?_
    refine Jq (hZ.out) ?_
    refine go_ ?_
    refine Jb (hP.out) ?_
    refine go_ ?_
    refine Jd ?_
    intro i5 hi5
    try simp only [Rh, Rg, Rf, Ja] at hi5
    refine go_ ?_
    refine Rc ?_
    refine go_ ?_
    refine PW_drawnL (J := keepJ [(i3, _)]) [(0, .a), (1, .a), (2, .a), (3, .a), (4, .a), (5, .a), (6, .a), (7, .e), (8, .e), (9, .a)] (by kernel_rfl) (by rfl) (by kernel_rfl) (by (repeat (first | exact keepJ_nil _ | refine Jt (by simp [St.box?, *] <;> rfl) ?_))) ?_
    repeat (first | with_reducible refine PL_nil ?_ | refine PL_gn2 ?_ | refine PL_s2 ?_ | refine PL_b2 ?_)
    refine PL_call2 (hO.out) ?_
    repeat (first | with_reducible refine PL_nil ?_ | refine PL_gn2 ?_ | refine PL_s2 ?_ | refine PL_b2 ?_)
    refine PL_call2 (hR3.out) ?_
    repeat (first | with_reducible refine PL_nil ?_ | refine PL_gn2 ?_ | refine PL_s2 ?_ | refine PL_b2 ?_)
    refine PL_alloc rfl (by decide) rfl (by simp; rfl) (fun i hi => by simp only [Rh, Rg, Rf] at hi; (repeat (first | exact keepJ_nil _ | refine Jt (by simp [St.box?, *] <;> rfl) ?_))) ?_
    intro i7 hi7
    try simp only [Rh, Rg, Rf, Ja] at hi7
    repeat (first | with_reducible refine PL_nil ?_ | refine PL_gn2 ?_ | refine PL_s2 ?_ | refine PL_b2 ?_)
    refine PL_store rfl rfl (by simp [nev, nevA, nevB, Jo, PF.eval, PF.get, PF.wants, cPV, cCell, PV.rows, evBin, evUn, Jp, evLen, loadA, Jm, TyK.agg, partA, St.box?, St.tok?, St.setBox, St.setTok, fillO, spl, PV.ps, PV.one, Jn, aggD, slD, Jg, Jj, Jh, Ji, Jf, Je, *]; rfl) (by rfl) (by simp [nev, nevA, nevB, Jo, PF.eval, PF.get, PF.wants, cPV, cCell, PV.rows, evBin, evUn, Jp, evLen, loadA, Jm, TyK.agg, partA, St.box?, St.tok?, St.setBox, St.setTok, fillO, spl, PV.ps, PV.one, Jn, aggD, slD, Jg, Jj, Jh, Ji, Jf, Je, *]; rfl) (by simp [PV.ps, aggD, slD, Jg, Jj, Jh, Ji, Jf, Je]; rfl) (by first | rfl | (simp [*]; done) | (simp [PV.one, *]; done) | fail) (by simp; rfl) (by first | (simp; done) | fail) (by simp [nev, nevA, nevB, Jo, PF.eval, PF.get, PF.wants, cPV, cCell, PV.rows, evBin, evUn, Jp, evLen, loadA, Jm, TyK.agg, partA, St.box?, St.tok?, St.setBox, St.setTok, fillO, spl, PV.ps, PV.one, Jn, aggD, slD, Jg, Jj, Jh, Ji, Jf, Je, *]; rfl) (by rfl) (by first | (simp; done) | fail) (by simp [St.setBox, spl, *]; rfl) (by first | exact .inl (by decide +kernel) | exact .inr (by (repeat (first | exact keepJ_nil _ | refine Jt (by simp [St.box?, *] <;> rfl) ?_)))) ?_
    repeat (first | with_reducible refine PL_nil ?_ | refine PL_gn2 ?_ | refine PL_s2 ?_ | refine PL_b2 ?_)
    refine go_ ?_
    refine Jb (hM.out) ?_
    refine go_ ?_
    refine Jd ?_
    intro i9 hi9
    try simp only [Rh, Rg, Rf, Ja] at hi9
    refine go_ ?_
    refine Rc ?_
    refine go_ ?_
    refine PW_drawnL (J := keepJ [(i3, _)]) [(0, .a), (1, .a), (2, .a), (3, .a), (4, .a), (5, .a), (6, .a), (7, .e), (8, .e), (9, .a)] (by kernel_rfl) (by rfl) (by kernel_rfl) (by (repeat (first | exact keepJ_nil _ | refine Jt (by simp [St.box?, *] <;> rfl) ?_))) ?_
    repeat (first | with_reducible refine PL_nil ?_ | refine PL_gn2 ?_ | refine PL_s2 ?_ | refine PL_b2 ?_)
    refine PL_call2 (hO.out) ?_
    repeat (first | with_reducible refine PL_nil ?_ | refine PL_gn2 ?_ | refine PL_s2 ?_ | refine PL_b2 ?_)
    refine PL_call2 (hR4.out) ?_
    repeat (first | with_reducible refine PL_nil ?_ | refine PL_gn2 ?_ | refine PL_s2 ?_ | refine PL_b2 ?_)
    refine PL_alloc rfl (by decide) rfl (by simp; rfl) (fun i hi => by simp only [Rh, Rg, Rf] at hi; (repeat (first | exact keepJ_nil _ | refine Jt (by simp [St.box?, *] <;> rfl) ?_))) ?_
    intro i11 hi11
    try simp only [Rh, Rg, Rf, Ja] at hi11
    repeat (first | with_reducible refine PL_nil ?_ | refine PL_gn2 ?_ | refine PL_s2 ?_ | refine PL_b2 ?_)
    refine PL_store rfl rfl (by simp [nev, nevA, nevB, Jo, PF.eval, PF.get, PF.wants, cPV, cCell, PV.rows, evBin, evUn, Jp, evLen, loadA, Jm, TyK.agg, partA, St.box?, St.tok?, St.setBox, St.setTok, fillO, spl, PV.ps, PV.one, Jn, aggD, slD, Jg, Jj, Jh, Ji, Jf, Je, *]; rfl) (by rfl) (by simp [nev, nevA, nevB, Jo, PF.eval, PF.get, PF.wants, cPV, cCell, PV.rows, evBin, evUn, Jp, evLen, loadA, Jm, TyK.agg, partA, St.box?, St.tok?, St.setBox, St.setTok, fillO, spl, PV.ps, PV.one, Jn, aggD, slD, Jg, Jj, Jh, Ji, Jf, Je, *]; rfl) (by simp [PV.ps, aggD, slD, Jg, Jj, Jh, Ji, Jf, Je]; rfl) (by first | rfl | (simp [*]; done) | (simp [PV.one, *]; done) | fail) (by simp; rfl) (by first | (simp; done) | fail) (by simp [nev, nevA, nevB, Jo, PF.eval, PF.get, PF.wants, cPV, cCell, PV.rows, evBin, evUn, Jp, evLen, loadA, Jm, TyK.agg, partA, St.box?, St.tok?, St.setBox, St.setTok, fillO, spl, PV.ps, PV.one, Jn, aggD, slD, Jg, Jj, Jh, Ji, Jf, Je, *]; rfl) (by rfl) (by first | (simp; done) | fail) (by simp [St.setBox, spl, *]; rfl) (by first | exact .inl (by decide +kernel) | exact .inr (by (repeat (first | exact keepJ_nil _ | refine Jt (by simp [St.box?, *] <;> rfl) ?_)))) ?_
    repeat (first | with_reducible refine PL_nil ?_ | refine PL_gn2 ?_ | refine PL_s2 ?_ | refine PL_b2 ?_)
    refine go_ ?_
    refine Jq (hA.out) ?_
    refine go_ ?_
    refine Jl (by simp) (by simp only [Try.results6]; rfl) (by simp [resP, St.box?, PF.get, Jm, TyK.agg, *]; rfl) (List.nil_sublist _) ?_
    exact ⟨rfl, rfl⟩
end Go.Proofs.Ytfnfbbmegdkhjaa

namespace Go.Proofs.Ytfnfbbmegdkhjaa
open Go.RowKit
set_option maxRecDepth 100000
set_option maxHeartbeats 16000000 in
theorem nleaf_p (a : Tm) (n : Int) (iW bw i5 i4 : Nat) (hnd : iW ≠ bw ∧ iW ≠ i5 ∧ iW ≠ i4 ∧ bw ≠ i5 ∧ bw ≠ i4 ∧ i5 ≠ i4) (t : Tm) (b L : Int) (hL0 : 0 ≤ L) (hL1 : L ≤ 8192) :
    PCalls Try.prog 119 (aggD t :: .d (.v (.int .i64 b)) :: [.ptr i5 0, .ptr bw 0, .ptr i4 0]) (.box iW 147 [.d (.v (.int .i64 (L))), .d (.v (.bool false)), .fn (.func 119) [] [.ptr i5 0, .ptr bw 0, .ptr i4 0]] :: [.box bw 128 [.ptr iW 0], .box i5 3 [.d (.v (.int .i64 n))], .box i4 28 [.d (.v (.int .i64 a.kind)), .d (.v (.int .i64 a.num)), .d (.sl (a.sub.map encD))]])
      fun p s => p = .tup [aggD (leafR (namedLf a n) t b L).1, .d (.v (.bool (leafR (namedLf a n) t b L).2.1))] ∧ s = .box iW 147 [.d (.v (.int .i64 ((leafR (namedLf a n) t b L).2.2.1))), .d (.v (.bool (leafR (namedLf a n) t b L).2.2.2)), .fn (.func 119) [] [.ptr i5 0, .ptr bw 0, .ptr i4 0]] :: [.box bw 128 [.ptr iW 0], .box i5 3 [.d (.v (.int .i64 n))], .box i4 28 [.d (.v (.int .i64 a.kind)), .d (.v (.int .i64 a.num)), .d (.sl (a.sub.map encD))]] := by
  obtain ⟨h1, h2, h3, h4, h5, h6⟩ := hnd
  have h1' := h1.symm; have h2' := h2.symm; have h3' := h3.symm; have h4' := h4.symm; have h5' := h5.symm; have h6' := h6.symm
  by_cases hk : t.kind = 8
  · have hkb : (t.kind != 8) = false := by rw [hk]; rfl
    by_cases hn : t.num = n
    · have hnb : (t.num != n) = false := by rw [hn, bne_self_eq_false]
      have hlf : namedLf a n t b = .up a b := named_up ⟨hk, hn⟩
      rw [leafR_up hlf]
      have hR := Lib.hid (raised_p iW (.fn (.func 119) [] [.ptr i5 0, .ptr bw 0, .ptr i4 0]) a b L hL0 hL1)
      generalize upS a b L = r at *
      clear hlf hL0 hL1 hk hn
      simp only [aggD, Jk, List.map_cons, List.map_nil, Ju, Jv, Jw] at hR ⊢
      refine PCalls.enter Try.func119 rfl Try.ntmps119 (by simp) ?_
      simp only [argsF]
      refine go_ ?_
      refine Jc ?_
      intro j5 hj5
      try simp only [Rh, Rg, Rf, Ja] at hj5
      refine go_ ?_
      refine Jd ?_
      intro j7 hj7
      try simp only [Rh, Rg, Rf, Ja] at hj7
      refine go_ ?_
      refine Rd 2 1 (hR.out) ?_
      rintro p s ⟨rfl, rfl⟩
      simp only [List.cons_append, List.nil_append, List.append_nil, Rh, Rg, Rf]
      refine go_ ?_
      refine Rc ?_
      refine go_ ?_
      refine Jl (st' := (.box iW 147 [.d (.v (.int .i64 (r.2.1))), .d (.v (.bool r.2.2)), .fn (.func 119) [] [.ptr i5 0, .ptr bw 0, .ptr i4 0]] :: [.box bw 128 [.ptr iW 0], .box i5 3 [.d (.v (.int .i64 n))], .box i4 28 [.d (.v (.int .i64 a.kind)), .d (.v (.int .i64 a.num)), .d (.sl (a.sub.map encD))]])) (by simp) (by simp only [Try.results119]; rfl) (by simp [resP, St.box?, PF.get, Jm, TyK.agg, *]; rfl) (by repeat (first | exact List.Sublist.refl _ | exact List.nil_sublist _ | refine List.Sublist.cons_cons _ ?_ | refine List.Sublist.cons _ ?_)) ?_
      exact ⟨by simp [tupP, PV.norm2, PV.norm1, PV.norm0], rfl⟩
    · have hnb : (t.num != n) = true := by rw [bne_iff_ne]; exact hn
      have hlf : namedLf a n t b = .go := named_go fun h => hn h.2
      rw [leafR_go hlf]
      simp only [aggD, Jk, List.map_cons, List.map_nil, Ju, Jv, Jw] at ⊢
      clear hlf hL0 hL1
      refine PCalls.enter Try.func119 rfl Try.ntmps119 (by simp) ?_
      simp only [argsF]
      refine go_ ?_
      refine Jc ?_
      intro j5 hj5
      try simp only [Rh, Rg, Rf, Ja] at hj5
      refine go_ ?_
      refine Jd ?_
      intro j7 hj7
      try simp only [Rh, Rg, Rf, Ja] at hj7
      refine go_ ?_
      refine Rc ?_
      refine go_ ?_
      refine Jl (st' := (.box iW 147 [.d (.v (.int .i64 (L))), .d (.v (.bool false)), .fn (.func 119) [] [.ptr i5 0, .ptr bw 0, .ptr i4 0]] :: [.box bw 128 [.ptr iW 0], .box i5 3 [.d (.v (.int .i64 n))], .box i4 28 [.d (.v (.int .i64 a.kind)), .d (.v (.int .i64 a.num)), .d (.sl (a.sub.map encD))]])) (by simp) (by simp only [Try.results119]; rfl) (by simp [resP, St.box?, PF.get, Jm, TyK.agg, *]; rfl) (by repeat (first | exact List.Sublist.refl _ | exact List.nil_sublist _ | refine List.Sublist.cons_cons _ ?_ | refine List.Sublist.cons _ ?_)) ?_
      exact ⟨by simp [tupP, PV.norm2, PV.norm1, PV.norm0], rfl⟩
  · have hkb : (t.kind != 8) = true := by rw [bne_iff_ne]; exact hk
    have hlf : namedLf a n t b = .go := named_go fun h => hk h.1
    rw [leafR_go hlf]
    simp only [aggD, Jk, List.map_cons, List.map_nil, Ju, Jv, Jw] at ⊢
    clear hlf hL0 hL1
    refine PCalls.enter Try.func119 rfl Try.ntmps119 (by simp) ?_
    simp only [argsF]
    refine go_ ?_
    refine Jc ?_
    intro j5 hj5
    try simp only [Rh, Rg, Rf, Ja] at hj5
    refine go_ ?_
    refine Jd ?_
    intro j7 hj7
    try simp only [Rh, Rg, Rf, Ja] at hj7
    refine go_ ?_
    refine Rc ?_
    refine go_ ?_
    refine Jl (st' := (.box iW 147 [.d (.v (.int .i64 (L))), .d (.v (.bool false)), .fn (.func 119) [] [.ptr i5 0, .ptr bw 0, .ptr i4 0]] :: [.box bw 128 [.ptr iW 0], .box i5 3 [.d (.v (.int .i64 n))], .box i4 28 [.d (.v (.int .i64 a.kind)), .d (.v (.int .i64 a.num)), .d (.sl (a.sub.map encD))]])) (by simp) (by simp only [Try.results119]; rfl) (by simp [resP, St.box?, PF.get, Jm, TyK.agg, *]; rfl) (by repeat (first | exact List.Sublist.refl _ | exact List.nil_sublist _ | refine List.Sublist.cons_cons _ ?_ | refine List.Sublist.cons _ ?_)) ?_
    exact ⟨by simp [tupP, PV.norm2, PV.norm1, PV.norm0], rfl⟩
theorem nmk_p (a : Tm) (n : Int) (i5 i4 iW : Nat) : PCalls Try.prog 118 (.ptr iW 0 :: [.ptr i5 0, .ptr i4 0]) [] fun p s => ∃ cap2 M, p = .fn (.func 119) [] cap2 ∧ s = M ∧ LeafOk 119 cap2 (M ++ [.box i5 3 [.d (.v (.int .i64 n))], .box i4 28 [.d (.v (.int .i64 a.kind)), .d (.v (.int .i64 a.num)), .d (.sl (a.sub.map encD))]]) iW (namedLf a n) := by
  refine PCalls.enter Try.func118 rfl Try.ntmps118 (by simp) ?_
  simp only [argsF]
  refine go_ ?_
  refine Jc ?_
  intro bw hbw
  try simp only [Rh, Rg, Rf, Ja] at hbw
  refine go_ ?_
  refine POps_makeFunc2 ?_
  refine go_ ?_
  refine Jl (st' := [.box bw 128 [.ptr iW 0]]) (by simp) (by simp only [Try.results118]; rfl) (by simp [resP, St.box?, PF.get, Jm, TyK.agg, *]; rfl) (by repeat (first | exact List.Sublist.refl _ | exact List.nil_sublist _ | refine List.Sublist.cons_cons _ ?_ | refine List.Sublist.cons _ ?_)) ?_
  refine ⟨_, [.box bw 128 [.ptr iW 0]], rfl, rfl, rfl, fun hnd t b L _ _ _ hL0 hL1 => ?_⟩
  have hne : iW ≠ bw ∧ iW ≠ i5 ∧ iW ≠ i4 ∧ bw ≠ i5 ∧ bw ≠ i4 ∧ i5 ≠ i4 := by
    simp [Ent.bid] at hnd
    obtain ⟨⟨a1, a2, a3⟩, ⟨a4, a5⟩, a6⟩ := hnd
    exact ⟨a1, a2, a3, a4, a5, a6⟩
  exact nleaf_p a n iW bw i5 i4 hne t b L hL0 hL1
set_option maxHeartbeats 16000000 in
theorem snamed_p (t a : Tm) (n : Int) : PCalls Try.prog 83 [aggD t, aggD a, .d (.v (.int .i64 n))] [] fun p s => p = trP (namedR t a n) ∧ s = [] := by
  have hS := Lib.hid (tshaped_p t)
  have hS2 := Lib.hid (tshaped_p a)
  have hF := Lib.hid (sfits_p n)
  have HR := Lib.hid (show namedR t a n = if (shapedB t && shapedB a && fitsB n) = true then doneS (subT (namedLf a n) t 0) else (.mk 0 0 [], 5) from rfl)
  cases h1 : shapedB t with
  | false =>
    rw [h1] at hS
    rw [HR.out, h1]
    simp only [Bool.true_and, Bool.false_and, Bool.and_false, Bool.false_eq_true, if_false, trP, aggD, Jk, List.map_cons, List.map_nil, Ju, Jv, Jw] at hS hS2 ⊢
    clear HR h1
    refine PCalls.enter Try.func83 rfl Try.ntmps83 (by simp) ?_
    simp only [argsF]
    refine go_ ?_
    refine Jc ?_
    intro i3 hi3
    try simp only [Rh, Rg, Rf, Ja] at hi3
    refine go_ ?_
    refine Jc ?_
    intro i4 hi4
    try simp only [Rh, Rg, Rf, Ja] at hi4
    refine go_ ?_
    refine Jc ?_
    intro i5 hi5
    try simp only [Rh, Rg, Rf, Ja] at hi5
    refine go_ ?_
    refine Jd ?_
    intro i6 hi6
    try simp only [Rh, Rg, Rf, Ja] at hi6
    refine go_ ?_
    refine Jb (hS.out) ?_
    refine go_ ?_
    refine Rc ?_
    refine go_ ?_
    refine Jl (by simp) (by simp only [Try.results83]; rfl) (by simp [resP, St.box?, PF.get, Jm, TyK.agg, *]; rfl) (List.nil_sublist _) ?_
    exact ⟨by simp [tupP, PV.norm2, PV.norm1, PV.norm0], rfl⟩
  | true =>
  rw [h1] at hS
  cases h2 : shapedB a with
  | false =>
    rw [h2] at hS2
    rw [HR.out, h1, h2]
    simp only [Bool.true_and, Bool.false_and, Bool.and_false, Bool.false_eq_true, if_false, trP, aggD, Jk, List.map_cons, List.map_nil, Ju, Jv, Jw] at hS hS2 ⊢
    clear HR h1 h2
    refine PCalls.enter Try.func83 rfl Try.ntmps83 (by simp) ?_
    simp only [argsF]
    refine go_ ?_
    refine Jc ?_
    intro i3 hi3
    try simp only [Rh, Rg, Rf, Ja] at hi3
    refine go_ ?_
    refine Jc ?_
    intro i4 hi4
    try simp only [Rh, Rg, Rf, Ja] at hi4
    refine go_ ?_
    refine Jc ?_
    intro i5 hi5
    try simp only [Rh, Rg, Rf, Ja] at hi5
    refine go_ ?_
    refine Jd ?_
    intro i6 hi6
    try simp only [Rh, Rg, Rf, Ja] at hi6
    refine go_ ?_
    refine Jb (hS.out) ?_
    refine go_ ?_
    refine Jq (hS2.out) ?_
    refine go_ ?_
    refine Rc ?_
    refine go_ ?_
    refine Jl (by simp) (by simp only [Try.results83]; rfl) (by simp [resP, St.box?, PF.get, Jm, TyK.agg, *]; rfl) (List.nil_sublist _) ?_
    exact ⟨by simp [tupP, PV.norm2, PV.norm1, PV.norm0], rfl⟩
  | true =>
  rw [h2] at hS2
  cases h3 : fitsB n with
  | false =>
    rw [h3] at hF
    rw [HR.out, h1, h2, h3]
    simp only [Bool.true_and, Bool.false_and, Bool.and_false, Bool.false_eq_true, if_false, trP, aggD, Jk, List.map_cons, List.map_nil, Ju, Jv, Jw] at hS hS2 ⊢
    clear HR h1 h2 h3
    refine PCalls.enter Try.func83 rfl Try.ntmps83 (by simp) ?_
    simp only [argsF]
    refine go_ ?_
    refine Jc ?_
    intro i3 hi3
    try simp only [Rh, Rg, Rf, Ja] at hi3
    refine go_ ?_
    refine Jc ?_
    intro i4 hi4
    try simp only [Rh, Rg, Rf, Ja] at hi4
    refine go_ ?_
    refine Jc ?_
    intro i5 hi5
    try simp only [Rh, Rg, Rf, Ja] at hi5
    refine go_ ?_
    refine Jd ?_
    intro i6 hi6
    try simp only [Rh, Rg, Rf, Ja] at hi6
    refine go_ ?_
    refine Jb (hS.out) ?_
    refine go_ ?_
    refine Jq (hS2.out) ?_
    refine go_ ?_
    refine Jq (hF.out) ?_
    refine go_ ?_
    refine Rc ?_
    refine go_ ?_
    refine Jl (by simp) (by simp only [Try.results83]; rfl) (by simp [resP, St.box?, PF.get, Jm, TyK.agg, *]; rfl) (List.nil_sublist _) ?_
    exact ⟨by simp [tupP, PV.norm2, PV.norm1, PV.norm0], rfl⟩
  | true =>
  rw [h3] at hF
  rw [HR.out, h1, h2, h3]
  simp only [Bool.and_self, if_true]
  have hRun := Lib.hid (fun i5 i4 => srun_p 118 119 [.ptr i5 0, .ptr i4 0] [.box i5 3 [.d (.v (.int .i64 n))], .box i4 28 [.d (.v (.int .i64 a.kind)), .d (.v (.int .i64 a.num)), .d (.sl (a.sub.map encD))]] (namedLf a n) rfl rfl rfl (up_named h2) (fun iW => nmk_p a n i5 i4 iW) t (shaped_hg h1).1 (shaped_hg h1).2.1)
  clear HR h1 h2 h3
  generalize doneS (subT (namedLf a n) t 0) = r at *
  simp only [trP, aggD, Jk, List.map_cons, List.map_nil] at hS hS2 hRun ⊢
  refine PCalls.enter Try.func83 rfl Try.ntmps83 (by simp) ?_
  simp only [argsF]
  refine go_ ?_
  refine Jc ?_
  intro i3 hi3
  try simp only [Rh, Rg, Rf, Ja] at hi3
  refine go_ ?_
  refine Jc ?_
  intro i4 hi4
  try simp only [Rh, Rg, Rf, Ja] at hi4
  refine go_ ?_
  refine Jc ?_
  intro i5 hi5
  try simp only [Rh, Rg, Rf, Ja] at hi5
  refine go_ ?_
  refine Jd ?_
  intro i6 hi6
  try simp only [Rh, Rg, Rf, Ja] at hi6
  refine go_ ?_
  refine Jb (hS.out) ?_
  refine go_ ?_
  refine Jq (hS2.out) ?_
  refine go_ ?_
  refine Jq (hF.out) ?_
  refine go_ ?_
  refine POps_makeFunc2 ?_
  refine go_ ?_
  refine Rd 1 2 (hRun.out i5 i4) ?_
  rintro p s ⟨rfl, rfl⟩
  simp only [List.cons_append, List.nil_append, List.append_nil, Rh, Rg, Rf]
  refine go_ ?_
  refine Rc ?_
  refine go_ ?_
  refine Jl (by simp) (by simp only [Try.results83]; rfl) (by simp [resP, St.box?, PF.get, Jm, TyK.agg, *]; rfl) (List.nil_sublist _) ?_
  exact ⟨by simp [tupP, PV.norm2, PV.norm1, PV.norm0], rfl⟩
set_option maxHeartbeats 16000000 in
theorem mleaf_p (l : List Tm) (hl : l.length ≤ 100000) (iW bw b3 : Nat) (hnd : iW ≠ bw ∧ iW ≠ b3 ∧ bw ≠ b3) (t : Tm) (b L : Int) (hg : goodB t = true) (hb : 0 ≤ b) (hbh : b + chgT t ≤ 1000) (hL0 : 0 ≤ L) (hL1 : L ≤ 8192) :
    PCalls Try.prog 124 (aggD t :: .d (.v (.int .i64 b)) :: [.ptr b3 0, .ptr bw 0]) (.box iW 147 [.d (.v (.int .i64 (L))), .d (.v (.bool false)), .fn (.func 124) [] [.ptr b3 0, .ptr bw 0]] :: [.box bw 128 [.ptr iW 0], .box b3 23 [.d (.sl (l.map encD))]])
      fun p s => p = .tup [aggD (leafR (manyLf l) t b L).1, .d (.v (.bool (leafR (manyLf l) t b L).2.1))] ∧ s = .box iW 147 [.d (.v (.int .i64 ((leafR (manyLf l) t b L).2.2.1))), .d (.v (.bool (leafR (manyLf l) t b L).2.2.2)), .fn (.func 124) [] [.ptr b3 0, .ptr bw 0]] :: [.box bw 128 [.ptr iW 0], .box b3 23 [.d (.sl (l.map encD))]] := by
  obtain ⟨h1, h2, h3⟩ := hnd
  have h1' := h1.symm; have h2' := h2.symm; have h3' := h3.symm
  obtain ⟨n0, n1⟩ := good_num hg
  have hLs := Lib.hid (sloose_p t b n0 n1 hb (by omega))
  by_cases hk : t.kind = 1 ∧ b ≤ t.num
  rotate_left
  · have hlf : manyLf l t b = .go := many_go hk
    rw [leafR_go hlf]
    rw [lsV_neg hk] at hLs
    clear hlf hL0 hL1 hk hg hb hbh n0 n1
    simp only [aggD, Jk, List.map_cons, List.map_nil, Ju, Jv, Jw] at hLs ⊢
    refine PCalls.enter Try.func124 rfl Try.ntmps124 (by simp) ?_
    simp only [argsF]
    refine go_ ?_
    refine Jc ?_
    intro j4 hj4
    try simp only [Rh, Rg, Rf, Ja] at hj4
    refine go_ ?_
    refine Jd ?_
    intro j6 hj6
    try simp only [Rh, Rg, Rf, Ja] at hj6
    refine go_ ?_
    refine Jb (hLs.out) ?_
    refine go_ ?_
    refine Rc ?_
    refine go_ ?_
    refine Jl (st' := (.box iW 147 [.d (.v (.int .i64 (L))), .d (.v (.bool false)), .fn (.func 124) [] [.ptr b3 0, .ptr bw 0]] :: [.box bw 128 [.ptr iW 0], .box b3 23 [.d (.sl (l.map encD))]])) (by simp) (by simp only [Try.results124]; rfl) (by simp [resP, St.box?, PF.get, Jm, TyK.agg, *]; rfl) (by repeat (first | exact List.Sublist.refl _ | exact List.nil_sublist _ | refine List.Sublist.cons_cons _ ?_ | refine List.Sublist.cons _ ?_)) ?_
    exact ⟨by simp [tupP, PV.norm2, PV.norm1, PV.norm0], rfl⟩
  rw [lsV_pos hk] at hLs
  obtain ⟨m, hm⟩ : ∃ m : Nat, t.num - b = (m : Int) := ⟨(t.num - b).toNat, by have := hk.2; omega⟩
  rw [hm] at hLs
  have hm0 : ¬ ((m : Int) < 0) := by omega
  have hm1 : (0 : Int) ≤ (m : Int) := by omega
  have hmt : (t.num - b).toNat = m := by omega
  by_cases hml : m < l.length
  · have hx := get_enc hml
    have hmi : (m : Int) < l.length := by omega
    have hlf : manyLf l t b = .up l[m] b := many_up hk.1 hk.2 (by rw [hmt, List.getElem?_eq_getElem hml])
    rw [leafR_up hlf]
    have hR := Lib.hid (raised_p iW (.fn (.func 124) [] [.ptr b3 0, .ptr bw 0]) l[m] b L hL0 hL1)
    generalize upS l[m] b L = r at *
    clear hlf hL0 hL1 hk hm hmt hg hb hbh n0 n1
    simp only [aggD, Jk, List.map_cons, List.map_nil, Ju, Jv, Jw] at hLs hR ⊢
    refine PCalls.enter Try.func124 rfl Try.ntmps124 (by simp) ?_
    simp only [argsF]
    refine go_ ?_
    refine Jc ?_
    intro j4 hj4
    try simp only [Rh, Rg, Rf, Ja] at hj4
    refine go_ ?_
    refine Jd ?_
    intro j6 hj6
    try simp only [Rh, Rg, Rf, Ja] at hj6
    refine go_ ?_
    refine Jb (hLs.out) ?_
    refine go_ ?_
    refine PW_drawn [(0, .b), (1, .b), (2, .a), (3, .a), (4, .a), (5, .a), (6, .e), (7, .e), (8, .a)] (by kernel_rfl) (by rfl) (by kernel_rfl) ?_
    refine go_ ?_
    refine POrd_callX 2 1 (hR.out) ?_
    rintro p s ⟨rfl, rfl⟩
    simp only [List.cons_append, List.nil_append, List.append_nil, Rh, Rg, Rf]
    refine go_ ?_
    refine POrd_store_a ?_
    refine go_ ?_
    refine Jl (st' := (.box iW 147 [.d (.v (.int .i64 (r.2.1))), .d (.v (.bool r.2.2)), .fn (.func 124) [] [.ptr b3 0, .ptr bw 0]] :: [.box bw 128 [.ptr iW 0], .box b3 23 [.d (.sl (l.map encD))]])) (by simp) (by simp only [Try.results124]; rfl) (by simp [resP, St.box?, PF.get, Jm, TyK.agg, *]; rfl) (by repeat (first | exact List.Sublist.refl _ | exact List.nil_sublist _ | refine List.Sublist.cons_cons _ ?_ | refine List.Sublist.cons _ ?_)) ?_
    exact ⟨by simp [tupP, PV.norm2, PV.norm1, PV.norm0], rfl⟩
  · have hmi : ¬ (m : Int) < l.length := by omega
    have hlf : manyLf l t b = .put (.mk 1 (t.num - l.length) []) := by unfold manyLf; rw [if_pos hk, hmt, List.getElem?_eq_none (by omega)]
    rw [leafR_put hlf]
    have hw := wr64 (n := t.num - l.length) (by omega) (by omega)
    have hV := Lib.hid (tvar_p (t.num - l.length))
    clear hlf hL0 hL1 hk hm hmt hg hb hbh n0 n1
    simp only [aggD, Jk, List.map_cons, List.map_nil, Ju, Jv, Jw] at hLs hV ⊢
    refine PCalls.enter Try.func124 rfl Try.ntmps124 (by simp) ?_
    simp only [argsF]
    refine go_ ?_
    refine Jc ?_
    intro j4 hj4
    try simp only [Rh, Rg, Rf, Ja] at hj4
    refine go_ ?_
    refine Jd ?_
    intro j6 hj6
    try simp only [Rh, Rg, Rf, Ja] at hj6
    refine go_ ?_
    refine Jb (hLs.out) ?_
    refine go_ ?_
    refine Jb (hV.out) ?_
    refine go_ ?_
    refine Rc ?_
    refine go_ ?_
    refine Jl (st' := (.box iW 147 [.d (.v (.int .i64 (L))), .d (.v (.bool false)), .fn (.func 124) [] [.ptr b3 0, .ptr bw 0]] :: [.box bw 128 [.ptr iW 0], .box b3 23 [.d (.sl (l.map encD))]])) (by simp) (by simp only [Try.results124]; rfl) (by simp [resP, St.box?, PF.get, Jm, TyK.agg, *]; rfl) (by repeat (first | exact List.Sublist.refl _ | exact List.nil_sublist _ | refine List.Sublist.cons_cons _ ?_ | refine List.Sublist.cons _ ?_)) ?_
    exact ⟨by simp [tupP, PV.norm2, PV.norm1, PV.norm0], rfl⟩
theorem mmk_p (l : List Tm) (hl : l.length ≤ 100000) (b3 iW : Nat) : PCalls Try.prog 123 (.ptr iW 0 :: [.ptr b3 0]) [] fun p s => ∃ cap2 M, p = .fn (.func 124) [] cap2 ∧ s = M ∧ LeafOk 124 cap2 (M ++ [.box b3 23 [.d (.sl (l.map encD))]]) iW (manyLf l) := by
  refine PCalls.enter Try.func123 rfl Try.ntmps123 (by simp) ?_
  simp only [argsF]
  refine go_ ?_
  refine Jc ?_
  intro bw hbw
  try simp only [Rh, Rg, Rf, Ja] at hbw
  refine go_ ?_
  refine POps_makeFunc2 ?_
  refine go_ ?_
  refine Jl (st' := [.box bw 128 [.ptr iW 0]]) (by simp) (by simp only [Try.results123]; rfl) (by simp [resP, St.box?, PF.get, Jm, TyK.agg, *]; rfl) (by repeat (first | exact List.Sublist.refl _ | exact List.nil_sublist _ | refine List.Sublist.cons_cons _ ?_ | refine List.Sublist.cons _ ?_)) ?_
  refine ⟨_, [.box bw 128 [.ptr iW 0]], rfl, rfl, rfl, fun hnd t b L hg hb hbh hL0 hL1 => ?_⟩
  have hne : iW ≠ bw ∧ iW ≠ b3 ∧ bw ≠ b3 := by
    simp [Ent.bid] at hnd
    obtain ⟨⟨a1, a2⟩, a3⟩ := hnd
    exact ⟨a1, a2, a3⟩
  exact mleaf_p l hl iW bw b3 hne t b L hg hb hbh hL0 hL1
set_option maxHeartbeats 16000000 in
theorem smany_p (t : Tm) (l : List Tm) (hl : l.length ≤ 100000) : PCalls Try.prog 87 [aggD t, .d (.sl (l.map encD))] [] fun p s => p = trP (manyR t l) ∧ s = [] := by
  have hS := Lib.hid (tshaped_p t)
  have HR := Lib.hid (show manyR t l = if (shapedB t && l.all shapedB) = true then doneS (subT (manyLf l) t 0) else (.mk 0 0 [], 5) from rfl)
  cases h1 : shapedB t with
  | false =>
    rw [h1] at hS
    rw [HR.out, h1]
    simp only [Bool.false_and, Bool.false_eq_true, if_false, trP, aggD, Jk, List.map_cons, List.map_nil, Ju, Jv, Jw] at hS ⊢
    clear HR h1
    refine PCalls.enter Try.func87 rfl Try.ntmps87 (by simp) ?_
    simp only [argsF]
    refine go_ ?_
    refine Jc ?_
    intro i2 hi2
    try simp only [Rh, Rg, Rf, Ja] at hi2
    refine go_ ?_
    refine Jc ?_
    intro b3 hb3
    try simp only [Rh, Rg, Rf, Ja] at hb3
    refine go_ ?_
    refine Jd ?_
    intro i4 hi4
    try simp only [Rh, Rg, Rf, Ja] at hi4
    refine go_ ?_
    refine Jb (hS.out) ?_
    refine go_ ?_
    refine Rc ?_
    refine go_ ?_
    refine Jl (by simp) (by simp only [Try.results87]; rfl) (by simp [resP, St.box?, PF.get, Jm, TyK.agg, *]; rfl) (List.nil_sublist _) ?_
    exact ⟨by simp [tupP, PV.norm2, PV.norm1, PV.norm0], rfl⟩
  | true =>
  rw [h1] at hS
  have hRun := Lib.hid (fun (h2 : l.all shapedB = true) (b3 : Nat) => srun_p 123 124 [.ptr b3 0] [.box b3 23 [.d (.sl (l.map encD))]] (manyLf l) rfl rfl rfl (up_many h2) (fun iW => mmk_p l hl b3 iW) t (shaped_hg h1).1 (shaped_hg h1).2.1)
  rw [h1, Bool.true_and] at HR
  clear h1
  generalize doneS (subT (manyLf l) t 0) = r at *
  obtain ⟨A, hA⟩ : ∃ A, A = l.all shapedB := ⟨_, rfl⟩
  rw [← hA] at HR
  have HRun : Hid (A = true → ∀ b3, PCalls Try.prog 117 [aggD t, .fn (.func 123) [] [.ptr b3 0]] [.box b3 23 [.d (.sl (l.map encD))]] fun p s => p = trP r ∧ s = [.box b3 23 [.d (.sl (l.map encD))]]) := fun h => hRun.out (hA ▸ h)
  have HA : Hid (A = (l.drop 0).all shapedB) := hA
  clear hRun hA
  simp only [trP, aggD, Jk, List.map_cons, List.map_nil] at hS HRun ⊢
  refine PCalls.enter Try.func87 rfl Try.ntmps87 (by simp) ?_
  simp only [argsF]
  refine go_ ?_
  refine Jc ?_
  intro i2 hi2
  try simp only [Rh, Rg, Rf, Ja] at hi2
  refine go_ ?_
  refine Jc ?_
  intro b3 hb3
  try simp only [Rh, Rg, Rf, Ja] at hb3
  refine go_ ?_
  refine Jd ?_
  intro i4 hi4
  try simp only [Rh, Rg, Rf, Ja] at hi4
  refine go_ ?_
  refine Jb (hS.out) ?_
  refine go_ ?_
  refine PW_loop (ι := Nat) (fun y => y ≤ l.length ∧ Hid (A = (l.drop y).all shapedB)) (fun y => [(2, .ptr i2 0), (3, .ptr b3 0), (4, .ptr i4 0), (5, .d (.v (.int .i64 0))), (12, .d (.sl (l.map encD))), (13, .d (.v (.int .i64 l.length))), (14, .d (.v (.int .i64 (y : Int))))]) (fun _ => [.box i4 28 [.d (.v (.int .i64 0)), .d (.v (.int .i64 0)), .nils], .box b3 23 [.d (.sl (l.map encD))], .box i2 28 [.d (.v (.int .i64 t.kind)), .d (.v (.int .i64 t.num)), .d (.sl (t.sub.map encD))]]) (fun y => l.length - y) 0 ⟨Nat.zero_le _, HA.out⟩ ?_ ?_ ?_
  · repeat (first | exact Js _ | refine Jr (by simp [PF.get]; rfl) (by first | rfl | (simp [*]; done) | fail) ?_)
  · repeat (first | exact List.Sublist.refl _ | exact List.nil_sublist _ | refine List.Sublist.cons_cons _ ?_ | refine List.Sublist.cons _ ?_)
  rintro j ⟨hj, hA⟩
  clear HA
  by_cases hlt : j < l.length
  · have hx := get_enc hlt
    have hc : (j : Int) < l.length := by omega
    have hn : (0 : Int) ≤ j := by omega
    have hin := wr64 (n := (j : Int) + 1) (by omega) (by omega)
    have hA2 : Hid (A = (shapedB l[j] && (l.drop (j + 1)).all shapedB)) := by show _ = _; rw [show A = _ from hA.out, List.drop_eq_getElem_cons hlt]; rfl
    have hc1 := Lib.hid (tshaped_p l[j])
    simp only [aggD, Jk, List.map_cons, List.map_nil] at hc1
    clear hA
    generalize shapedB l[j] = q at *
    cases q with
    | false =>
      have hf : A = false := by rw [show A = _ from hA2.out]; rfl
      rw [HR.out, hf]
      simp only [Bool.false_eq_true, if_false, Ju, Jv, Jw, List.map_nil]
      clear hA2 HR HRun hf
      refine go_ ?_
      refine Jd ?_
      intro i7 hi7
      try simp only [Rh, Rg, Rf, Ja] at hi7
      refine go_ ?_
      refine Rc ?_
      refine go_ ?_
      refine Jb (hc1.out) ?_
      refine go_ ?_
      refine Rc ?_
      refine go_ ?_
      refine Jl (by simp) (by simp only [Try.results87]; rfl) (by simp [resP, St.box?, PF.get, Jm, TyK.agg, *]; rfl) (List.nil_sublist _) ?_
      exact ⟨by simp [tupP, PV.norm2, PV.norm1, PV.norm0], rfl⟩
    | true =>
      have hA3 : Hid (A = (l.drop (j + 1)).all shapedB) := by show _ = _; rw [show A = _ from hA2.out]; rfl
      clear hA2
      refine go_ ?_
      refine Jd ?_
      intro i7 hi7
      try simp only [Rh, Rg, Rf, Ja] at hi7
      refine go_ ?_
      refine Rc ?_
      refine go_ ?_
      refine Jb (hc1.out) ?_
      refine go_ ?_
      exact ⟨j + 1, ⟨hlt, hA3⟩, by omega, by repeat (first | exact Js _ | refine Jr (by simp [PF.get]; rfl) (by first | rfl | (simp [*]; done) | fail) ?_), by repeat (first | exact List.Sublist.refl _ | exact List.nil_sublist _ | refine List.Sublist.cons_cons _ ?_ | refine List.Sublist.cons _ ?_)⟩
  · have hc : ¬ (j : Int) < l.length := by omega
    have hf : A = true := by rw [show A = _ from hA.out, List.drop_of_length_le (by omega)]; rfl
    have hRn := Lib.hid (HRun.out hf)
    rw [HR.out, hf]
    simp only [if_true]
    clear hA HR HRun hf
    refine go_ ?_
    refine POps_makeFunc2 ?_
    refine go_ ?_
    refine Rd 1 1 (hRn.out b3) ?_
    rintro p s ⟨rfl, rfl⟩
    simp only [List.cons_append, List.nil_append, List.append_nil, Rh, Rg, Rf]
    refine go_ ?_
    refine Rc ?_
    refine go_ ?_
    refine Jl (by simp) (by simp only [Try.results87]; rfl) (by simp [resP, St.box?, PF.get, Jm, TyK.agg, *]; rfl) (List.nil_sublist _) ?_
    exact ⟨by simp [tupP, PV.norm2, PV.norm1, PV.norm0], rfl⟩
end Go.Proofs.Ytfnfbbmegdkhjaa

namespace Go.Proofs.Ytfnfbbmegdkhjaa
open Go.RowKit
set_option maxRecDepth 100000
set_option maxHeartbeats 16000000 in
theorem rmove8_p (d : Int) (hd0 : 0 ≤ d) (hd1 : d ≤ 100000) : ∀ (t : Tm) (b : Int), goodB t = true → 0 ≤ b → b + chgT t ≤ 100000 → PCalls Try.prog 161 [aggD t, .d (.v (.int .i64 d)), .d (.v (.int .i64 b))] [] fun p s => p = aggD (moveT t d b) ∧ s = [] := by
  refine Tm.ind ?_
  intro k m sub ih b hg hb hbh
  have IH := Lib.hid ih
  have HG := Lib.hid (good_parts hg).2
  have hsl := good_len hg
  have HH := Lib.hid (fun (s : Tm) (hs : s ∈ sub) => chg_mem (k := k) (n := m) hs)
  obtain ⟨n0, n1⟩ := good_num hg
  simp only [Jv] at n0 n1
  clear ih
  by_cases hk1 : k = 1
  · subst hk1
    obtain rfl := good_1 hg
    simp only [moveT, if_true]
    have hw := wr64 (n := m + d) (by omega) (by omega)
    have hc := Lib.hid (rleaf_p 1 (m + d))
    clear IH HG HH hg hbh
    by_cases hlt : m < b
    · rw [if_pos hlt]
      simp only [aggD, Jk, List.map_cons, List.map_nil, Ju, Jv, Jw] at hc ⊢
      refine PCalls.enter Try.func161 rfl Try.ntmps161 (by simp) ?_
      simp only [argsF]
      refine go_ ?_
      refine Jc ?_
      intro i3 hi3
      try simp only [Rh, Rg, Rf, Ja] at hi3
      refine go_ ?_
      refine Jd ?_
      intro i6 hi6
      try simp only [Rh, Rg, Rf, Ja] at hi6
      refine go_ ?_
      refine Rc ?_
      refine go_ ?_
      refine Jl (by simp) (by simp only [Try.results161]; rfl) (by simp [resP, St.box?, PF.get, Jm, TyK.agg, *]; rfl) (List.nil_sublist _) ?_
      exact ⟨by simp [tupP, PV.norm2, PV.norm1, PV.norm0], rfl⟩
    · rw [if_neg hlt]
      simp only [aggD, Jk, List.map_cons, List.map_nil, Ju, Jv, Jw] at hc ⊢
      refine PCalls.enter Try.func161 rfl Try.ntmps161 (by simp) ?_
      simp only [argsF]
      refine go_ ?_
      refine Jc ?_
      intro i3 hi3
      try simp only [Rh, Rg, Rf, Ja] at hi3
      refine go_ ?_
      refine Jd ?_
      intro i6 hi6
      try simp only [Rh, Rg, Rf, Ja] at hi6
      refine go_ ?_
      refine Jb (hc.out) ?_
      refine go_ ?_
      refine Rc ?_
      refine go_ ?_
      refine Jl (by simp) (by simp only [Try.results161]; rfl) (by simp [resP, St.box?, PF.get, Jm, TyK.agg, *]; rfl) (List.nil_sublist _) ?_
      exact ⟨by simp [tupP, PV.norm2, PV.norm1, PV.norm0], rfl⟩
  obtain ⟨R, hR⟩ : ∃ R, R = moveL k sub 0 d b := ⟨_, rfl⟩
  have HR : Hid (R = [] ++ moveL k (sub.drop 0) 0 d b) := hR
  have hmv : moveT (.mk k m sub) d b = .mk k m R := by simp only [moveT]; rw [if_neg hk1, hR]
  rw [hmv]
  simp only [aggD, Jk, List.map_cons, List.map_nil, Ju, Jv, Jw]
  have hk1b : (k == 1) = false := by rw [beq_eq_false_iff_ne]; exact hk1
  clear hmv hR hg hk1
  refine PCalls.enter Try.func161 rfl Try.ntmps161 (by simp) ?_
  simp only [argsF]
  refine go_ ?_
  refine Jc ?_
  intro i3 hi3
  try simp only [Rh, Rg, Rf, Ja] at hi3
  refine go_ ?_
  refine Jd ?_
  intro i6 hi6
  try simp only [Rh, Rg, Rf, Ja] at hi6
  refine go_ ?_
  refine Jd ?_
  intro i7 hi7
  try simp only [Rh, Rg, Rf, Ja] at hi7
  refine go_ ?_
  refine Rc ?_
  refine go_ ?_
  refine PW_ownB i7 2 28 3    (by simp [nev, nevA, nevB, Jo, PF.eval, PF.get, PF.wants, cPV, cCell, PV.rows, evBin, evUn, Jp, evLen, loadA, Jm, TyK.agg, partA, St.box?, St.tok?, St.setBox, St.setTok, fillO, spl, PV.ps, PV.one, Jn, aggD, slD, Jg, Jj, Jh, Ji, Jf, Je, *]; rfl) (by rfl) (by rfl) (by intro g; simp [St.setBox, *]; rfl) (by decide) ?_
  intro g hg
  refine go_ ?_
  refine PW_loop (ι := Nat × List Tm) (fun y => y.1 ≤ sub.length ∧ y.2.length ≤ y.1 ∧ Hid (R = y.2 ++ moveL k (sub.drop y.1) y.1 d b)) (fun y => [(1, .d (.v (.int .i64 d))), (2, .d (.v (.int .i64 b))), (3, .ptr i3 0), (6, .ptr i6 0), (7, .ptr i7 0), (8, .d (.v (.int .i64 (y.1 : Int))))]) (fun y => [.tok g 28 3 y.2.length, .box i7 28 [.d (.v (.int .i64 k)), .d (.v (.int .i64 m)), .own g (y.2.map encD)], .box i6 28 [.d (.v (.int .i64 0)), .d (.v (.int .i64 0)), .nils], .box i3 28 [.d (.v (.int .i64 k)), .d (.v (.int .i64 m)), .d (.sl (sub.map encD))]]) (fun y => sub.length - y.1) (0, []) ⟨Nat.zero_le _, Nat.le_refl _, HR.out⟩ ?_ ?_ ?_
  · repeat (first | exact Js _ | refine Jr (by simp [PF.get]; rfl) (by first | rfl | (simp [*]; done) | fail) ?_)
  · repeat (first | exact List.Sublist.refl _ | exact List.nil_sublist _ | refine List.Sublist.cons_cons _ ?_ | refine List.Sublist.cons _ ?_)
  rintro ⟨j, o⟩ ⟨hj, ho, hR⟩
  simp only at hj ho hR ⊢
  clear HR
  by_cases hlt : j < sub.length
  · have hx := get_enc hlt
    have hc : (j : Int) < sub.length := by omega
    have hn0 : (0 : Int) ≤ j := by omega
    have hin := wr64 (n := (j : Int) + 1) (by omega) (by omega)
    have hR2 := hR.out
    rw [moveL_step hlt] at hR2
    have hmem := List.getElem_mem hlt
    have hol : o.length ≤ 100 := by omega
    have HO := Lib.hid ho
    have hbe := ben_rng k j
    have hc0 := Lib.hid (rbeneath_p (.mk k m sub) j)
    have hc1 := IH.out _ hmem (b + benB k j) (HG.out _ hmem) (by omega) (by have := HH.out _ hmem; omega)
    have hwb := wr64 (n := b + benB k j) (by omega) (by have := HH.out _ hmem; omega)
    simp only [aggD, Jk, List.map_cons, List.map_nil, Ju, Jv, Jw] at hc0 hc1
    have HC1 := Lib.hid hc1
    have hR3 : Hid (R = (o ++ [moveT sub[j] d (b + benB k j)]) ++ moveL k (sub.drop (j + 1)) (j + 1) d b) := by show _ = _; rw [hR2, List.append_assoc]; rfl
    clear hR hR2 hc1 hmem ho hbe
    generalize moveT sub[j] d (b + benB k j) = y at *
    generalize benB k j = bj at *
    refine go_ ?_
    refine PW_drawnL (J := keepJ [(i7, _), (i3, _)]) [(0, .a), (1, .a), (2, .a), (3, .a), (4, .a), (5, .a), (6, .a), (7, .a), (8, .a), (9, .a), (10, .a), (11, .a), (12, .a), (13, .a), (14, .a), (15, .e), (16, .a), (17, .e)] (by kernel_rfl) (by rfl) (by kernel_rfl) (by (repeat (first | exact keepJ_nil _ | refine Jt (by simp [St.box?, *] <;> rfl) ?_))) ?_
    repeat (first | with_reducible refine PL_nil ?_ | refine PL_gn2 ?_ | refine PL_s2 ?_ | refine PL_b2 ?_)
    refine PL_call2 (hc0.out) ?_
    repeat (first | with_reducible refine PL_nil ?_ | refine PL_gn2 ?_ | refine PL_s2 ?_ | refine PL_b2 ?_)
    refine PL_call2 (HC1.out) ?_
    repeat (first | with_reducible refine PL_nil ?_ | refine PL_gn2 ?_ | refine PL_s2 ?_ | refine PL_b2 ?_)
    refine PL_bs ?_ rfl (by decide) rfl (by simp; rfl) (by rfl) (by simp; rfl) (by rfl) (by decide) (by decide) (by simp [nev, nevA, nevB, Jo, PF.eval, PF.get, PF.wants, cPV, cCell, PV.rows, evBin, evUn, Jp, evLen, loadA, Jm, TyK.agg, partA, St.box?, St.tok?, St.setBox, St.setTok, fillO, spl, PV.ps, PV.one, Jn, aggD, slD, Jg, Jj, Jh, Ji, Jf, Je, *]; rfl) (by simp [rowsOf, toDs, PV.toD]; rfl)
    refine PL_app (o.length + 1) ?_ ?_ ?_ ?_ ?_
    rotate_left
    · exact rows3 _
    · exact rows_one rfl
    · simp
    · exact .inr (by (repeat (first | exact keepJ_nil _ | refine Jt (by simp [St.box?, *] <;> rfl) ?_)))
    repeat (first | with_reducible refine PL_nil ?_ | refine PL_gn2 ?_ | refine PL_s2 ?_ | refine PL_b2 ?_)
    refine PL_store rfl rfl (by simp [nev, nevA, nevB, Jo, PF.eval, PF.get, PF.wants, cPV, cCell, PV.rows, evBin, evUn, Jp, evLen, loadA, Jm, TyK.agg, partA, St.box?, St.tok?, St.setBox, St.setTok, fillO, spl, PV.ps, PV.one, Jn, aggD, slD, Jg, Jj, Jh, Ji, Jf, Je, *]; rfl) (by rfl) (by simp [nev, nevA, nevB, Jo, PF.eval, PF.get, PF.wants, cPV, cCell, PV.rows, evBin, evUn, Jp, evLen, loadA, Jm, TyK.agg, partA, St.box?, St.tok?, St.setBox, St.setTok, fillO, spl, PV.ps, PV.one, Jn, aggD, slD, Jg, Jj, Jh, Ji, Jf, Je, *]; rfl) (by simp [PV.ps, aggD, slD, Jg, Jj, Jh, Ji, Jf, Je]; rfl) (by first | rfl | (simp [*]; done) | (simp [PV.one, *]; done) | fail) (by simp; rfl) (by first | (simp; done) | fail) (by simp [nev, nevA, nevB, Jo, PF.eval, PF.get, PF.wants, cPV, cCell, PV.rows, evBin, evUn, Jp, evLen, loadA, Jm, TyK.agg, partA, St.box?, St.tok?, St.setBox, St.setTok, fillO, spl, PV.ps, PV.one, Jn, aggD, slD, Jg, Jj, Jh, Ji, Jf, Je, *]; rfl) (by rfl) (by first | (simp; done) | fail) (by simp [St.setBox, spl, *]; rfl) (by first | exact .inl (by decide +kernel) | exact .inr (by (repeat (first | exact keepJ_nil _ | refine Jt (by simp [St.box?, *] <;> rfl) ?_)))) ?_
    repeat (first | with_reducible refine PL_nil ?_ | refine PL_gn2 ?_ | refine PL_s2 ?_ | refine PL_b2 ?_)
    refine go_ ?_
    refine ⟨(j + 1, o ++ [y]), ⟨hlt, by have := HO.out; simp only [List.length_append, List.length_singleton]; omega, hR3⟩, by simp only; omega, by repeat (first | exact Js _ | refine Jr (by simp [PF.get]; rfl) (by first | rfl | (simp [*]; done) | fail) ?_), ?_⟩
    simp only [List.length_append, List.length_singleton, List.map_append, List.map_cons, List.map_nil, Jk y]
    repeat (first | exact List.Sublist.refl _ | exact List.nil_sublist _ | refine List.Sublist.cons_cons _ ?_ | refine List.Sublist.cons _ ?_)
  · have hc : ¬ (j : Int) < sub.length := by omega
    have hf : Hid (R = o) := by show _ = _; rw [show R = _ from hR.out, List.drop_of_length_le (by omega)]; simp only [moveL, List.append_nil]
    rw [hf.out]
    clear hR hf ho
    refine go_ ?_
    refine Rc ?_
    refine go_ ?_
    refine Jl (by simp) (by simp only [Try.results161]; rfl) (by simp [resP, St.box?, PF.get, Jm, TyK.agg, *]; rfl) (List.nil_sublist _) ?_
    exact ⟨by simp [tupP, PV.norm2, PV.norm1, PV.norm0], rfl⟩
set_option maxHeartbeats 8000000 in
theorem rraised9_p (a : Tm) (b : Int) (hg : goodB a = true) (hb : 0 ≤ b) (hb2 : b ≤ 1000) (hh : chgT a ≤ 1000) : PCalls Try.prog 146 [aggD a, .d (.v (.int .i64 b))] [] fun p s => p = gotP (moveT a b 0) (!shapedB (moveT a b 0)) ∧ s = [] := by
  have hM := Lib.hid (rmove8_p b hb (by omega) a 0 hg (by decide) (by omega))
  have hS := Lib.hid (rshaped_p (moveT a b 0))
  clear hg hb hb2 hh
  generalize shapedB (moveT a b 0) = q at *
  generalize moveT a b 0 = x at *
  simp only [gotP, aggD, Jk, List.map_cons, List.map_nil] at hM hS ⊢
  refine PCalls.enter Try.func146 rfl Try.ntmps146 (by simp) ?_
  simp only [argsF]
  refine go_ ?_
  refine Jc ?_
  intro i2 hi2
  try simp only [Rh, Rg, Rf, Ja] at hi2
  refine go_ ?_
  refine Jd ?_
  intro i4 hi4
  try simp only [Rh, Rg, Rf, Ja] at hi4
  refine go_ ?_
  refine Jb (hM.out) ?_
  refine go_ ?_
  refine Jd ?_
  intro i5 hi5
  try simp only [Rh, Rg, Rf, Ja] at hi5
  refine go_ ?_
  refine Rc ?_
  refine go_ ?_
  refine PW_drawnL (J := keepJ [(i5, _)]) [(0, .a), (1, .a), (2, .a), (3, .a), (4, .a), (5, .e)] (by kernel_rfl) (by rfl) (by kernel_rfl) (by (repeat (first | exact keepJ_nil _ | refine Jt (by simp [St.box?, *] <;> rfl) ?_))) ?_
  repeat (first | with_reducible refine PL_nil ?_ | refine PL_gn2 ?_ | refine PL_s2 ?_ | refine PL_b2 ?_)
  refine PL_call2 (hS.out) ?_
  repeat (first | with_reducible refine PL_nil ?_ | refine PL_gn2 ?_ | refine PL_s2 ?_ | refine PL_b2 ?_)
  refine PL_store rfl rfl (by simp [nev, nevA, nevB, Jo, PF.eval, PF.get, PF.wants, cPV, cCell, PV.rows, evBin, evUn, Jp, evLen, loadA, Jm, TyK.agg, partA, St.box?, St.tok?, St.setBox, St.setTok, fillO, spl, PV.ps, PV.one, Jn, aggD, slD, Jg, Jj, Jh, Ji, Jf, Je, *]; rfl) (by rfl) (by simp [nev, nevA, nevB, Jo, PF.eval, PF.get, PF.wants, cPV, cCell, PV.rows, evBin, evUn, Jp, evLen, loadA, Jm, TyK.agg, partA, St.box?, St.tok?, St.setBox, St.setTok, fillO, spl, PV.ps, PV.one, Jn, aggD, slD, Jg, Jj, Jh, Ji, Jf, Je, *]; rfl) (by simp [PV.ps, aggD, slD, Jg, Jj, Jh, Ji, Jf, Je]; rfl) (by first | rfl | (simp [*]; done) | (simp [PV.one, *]; done) | fail) (by simp; rfl) (by first | (simp; done) | fail) (by simp [nev, nevA, nevB, Jo, PF.eval, PF.get, PF.wants, cPV, cCell, PV.rows, evBin, evUn, Jp, evLen, loadA, Jm, TyK.agg, partA, St.box?, St.tok?, St.setBox, St.setTok, fillO, spl, PV.ps, PV.one, Jn, aggD, slD, Jg, Jj, Jh, Ji, Jf, Je, *]; rfl) (by rfl) (by first | (simp; done) | fail) (by simp [St.setBox, spl, *]; rfl) (by first | exact .inl (by decide +kernel) | exact .inr (by (repeat (first | exact keepJ_nil _ | refine Jt (by simp [St.box?, *] <;> rfl) ?_)))) ?_
  repeat (first | with_reducible refine PL_nil ?_ | refine PL_gn2 ?_ | refine PL_s2 ?_ | refine PL_b2 ?_)
  refine go_ ?_
  refine Jl (by simp) (by simp only [Try.results146]; rfl) (by simp [resP, St.box?, PF.get, Jm, TyK.agg, *]; rfl) (List.nil_sublist _) ?_
  exact ⟨by simp [tupP, PV.norm2, PV.norm1, PV.norm0], rfl⟩
end Go.Proofs.Ytfnfbbmegdkhjaa
