import Derived.Test.YtfnfbbmegdkhjaaGreatBE
import Derived.Test.YtfnfbbmegdkhjaaGreatBE1
import Derived.Test.YtfnfbbmegdkhjaaGreatBN
import Derived.Test.YtfnfbbmegdkhjaaGreatBA1
import Derived.Test.YtfnfbbmegdkhjaaGreatSg
set_option linter.unusedSimpArgs false
set_option linter.unusedVariables false
namespace Go.Proofs.YtfnfbbmegdkhjaaGreat
open Go.RowKit
/-- an entry of a signature -/
structure En where
  kind : Int
  name : ByteArray
  ty : Tm
  body : Tm
  of_ : Int
  place : Int
  pars : Int
  inds : Int
  level : Int
  cons : List Int
  fields : List Int
instance : Enc En := ⟨15, fun e => [.v (.int .i64 e.kind), .str e.name] ++ tmD e.ty ++ tmD e.body ++ [.v (.int .i64 e.of_), .v (.int .i64 e.place), .v (.int .i64 e.pars), .v (.int .i64 e.inds), .v (.int .i64 e.level), .s 1 (e.cons.map Enc.enc), .s 1 (e.fields.map Enc.enc)], fun e => by simp [tmD_len]⟩
instance : EncOk En := ⟨fun e d hd => by
  simp only [Enc.enc, List.mem_append, List.mem_cons, List.not_mem_nil, or_false] at hd
  rcases hd with (((rfl | rfl) | hd) | hd) | rfl | rfl | rfl | rfl | rfl | rfl | rfl
  · exact .v trivial
  · exact .str
  · exact tmD_ok _ d hd
  · exact tmD_ok _ d hd
  · exact .v trivial
  · exact .v trivial
  · exact .v trivial
  · exact .v trivial
  · exact .v trivial
  · exact okList (α := Int) (by decide) e.cons
  · exact okList (α := Int) (by decide) e.fields⟩
@[simp] theorem encD_en (e : En) : encD e = [.v (.int .i64 e.kind), .v (.string e.name), .v (.int .i64 e.ty.kind), .v (.int .i64 e.ty.num), .sl (e.ty.sub.map encD), .v (.int .i64 e.body.kind), .v (.int .i64 e.body.num), .sl (e.body.sub.map encD), .v (.int .i64 e.of_), .v (.int .i64 e.place), .v (.int .i64 e.pars), .v (.int .i64 e.inds), .v (.int .i64 e.level), .sl (e.cons.map encD), .sl (e.fields.map encD)] := by
  have h1 := encD_tm e.ty
  have h2 := encD_tm e.body
  unfold encD at h1 h2 ⊢
  simp only [Enc.enc] at h1 h2 ⊢
  rw [dtL_append, dtL_append, dtL_append, h1, h2]
  simp only [dtL, dtD, dtLL_map, List.map_map]
  rfl
end Go.Proofs.YtfnfbbmegdkhjaaGreat

namespace Go.Proofs.YtfnfbbmegdkhjaaGreat
open Go.RowKit
set_option maxRecDepth 100000
/-- is a term the zero term? -/
def noneT (t : Tm) : Bool := t.kind == 0 && (t.num == 0 && ((t.sub.length : Int) == 0))
set_option maxHeartbeats 4000000 in
theorem snone_p (t : Tm) : PCalls Tryz.prog 93 [aggD t] [] fun p s => p = .d (.v (.bool (noneT t))) ∧ s = [] := by
  obtain ⟨R, hR⟩ : ∃ R, R = noneT t := ⟨_, rfl⟩
  rw [← hR]
  unfold noneT at hR
  have HR := Lib.hid hR
  clear hR
  simp only [aggD, encD_tm, List.map_cons, List.map_nil]
  refine PCalls.enter Tryz.func93 rfl Tryz.ntmps93 (by simp) ?_
  simp only [argsF]
  refine go_ ?_
  refine POps_box_a ?_
  intro i0 hi0
  refine go_ ?_
  rcases Bool.eq_false_or_eq_true (t.kind == 0) with h1 | h1
  rotate_left
  · refine go_ ?_
    refine retP_ok (by simp) (by simp only [Tryz.results93]; rfl) (by simp [resP, St.box?, PF.get, loadB, TyK.agg, *]; rfl) (List.nil_sublist _) ?_
    exact ⟨by rw [HR.out]; simp [tupP, PV.norm2, PV.norm1, PV.norm0, *], rfl⟩
  refine go_ ?_
  rcases Bool.eq_false_or_eq_true (t.num == 0) with h2 | h2
  rotate_left
  · refine go_ ?_
    refine retP_ok (by simp) (by simp only [Tryz.results93]; rfl) (by simp [resP, St.box?, PF.get, loadB, TyK.agg, *]; rfl) (List.nil_sublist _) ?_
    exact ⟨by rw [HR.out]; simp [tupP, PV.norm2, PV.norm1, PV.norm0, *], rfl⟩
  refine go_ ?_
  refine retP_ok (by simp) (by simp only [Tryz.results93]; rfl) (by simp [resP, St.box?, PF.get, loadB, TyK.agg, *]; rfl) (List.nil_sublist _) ?_
  exact ⟨by rw [HR.out]; simp [tupP, PV.norm2, PV.norm1, PV.norm0, *], rfl⟩
set_option maxHeartbeats 4000000 in
theorem rzero_p (t : Tm) : PCalls Tryz.prog 83 [aggD t] [] fun p s => p = .d (.v (.bool (noneT t))) ∧ s = [] := by
  obtain ⟨R, hR⟩ : ∃ R, R = noneT t := ⟨_, rfl⟩
  rw [← hR]
  unfold noneT at hR
  have HR := Lib.hid hR
  clear hR
  simp only [aggD, encD_tm, List.map_cons, List.map_nil]
  refine PCalls.enter Tryz.func83 rfl Tryz.ntmps83 (by simp) ?_
  simp only [argsF]
  refine go_ ?_
  refine POps_box_a ?_
  intro i0 hi0
  refine go_ ?_
  rcases Bool.eq_false_or_eq_true (t.kind == 0) with h1 | h1
  rotate_left
  · refine go_ ?_
    refine retP_ok (by simp) (by simp only [Tryz.results83]; rfl) (by simp [resP, St.box?, PF.get, loadB, TyK.agg, *]; rfl) (List.nil_sublist _) ?_
    exact ⟨by rw [HR.out]; simp [tupP, PV.norm2, PV.norm1, PV.norm0, *], rfl⟩
  refine go_ ?_
  rcases Bool.eq_false_or_eq_true (t.num == 0) with h2 | h2
  rotate_left
  · refine go_ ?_
    refine retP_ok (by simp) (by simp only [Tryz.results83]; rfl) (by simp [resP, St.box?, PF.get, loadB, TyK.agg, *]; rfl) (List.nil_sublist _) ?_
    exact ⟨by rw [HR.out]; simp [tupP, PV.norm2, PV.norm1, PV.norm0, *], rfl⟩
  refine go_ ?_
  refine retP_ok (by simp) (by simp only [Tryz.results83]; rfl) (by simp [resP, St.box?, PF.get, loadB, TyK.agg, *]; rfl) (List.nil_sublist _) ?_
  exact ⟨by rw [HR.out]; simp [tupP, PV.norm2, PV.norm1, PV.norm0, *], rfl⟩
/-- is there an entry of that kind? -/
def isE (l : List En) (n k : Int) : Bool := decide (0 ≤ n) && (decide (n < l.length) && (match l[n.toNat]? with | some e => e.kind == k | none => false))
set_option maxHeartbeats 4000000 in
theorem sis_p (l : List En) (n k : Int) : PCalls Tryz.prog 35 [.d (.sl (l.map encD)), .d (.v (.int .i64 n)), .d (.v (.int .i64 k))] [] fun p s => p = .d (.v (.bool (isE l n k))) ∧ s = [] := by
  obtain ⟨R, hR⟩ : ∃ R, R = isE l n k := ⟨_, rfl⟩
  rw [← hR]
  unfold isE at hR
  by_cases h0 : 0 ≤ n
  · by_cases h1 : n < l.length
    · obtain ⟨m, rfl⟩ : ∃ m : Nat, n = m := ⟨n.toNat, by omega⟩
      have hlt : m < l.length := by omega
      have hx := get_enc hlt
      rw [Int.toNat_natCast, List.getElem?_eq_getElem hlt] at hR
      have hf : Hid (R = (l[m].kind == k)) := by show _ = _; rw [hR]; simp [h0, h1]
      clear hR
      refine PCalls.enter Tryz.func35 rfl Tryz.ntmps35 (by simp) ?_
      simp only [argsF]
      refine go_ ?_
      refine retP_ok (by simp) (by simp only [Tryz.results35]; rfl) (by simp [resP, St.box?, PF.get, loadB, TyK.agg, *]; rfl) (List.nil_sublist _) ?_
      exact ⟨by rw [hf.out]; rfl, rfl⟩
    · have hf : Hid (R = false) := by show _ = _; rw [hR]; simp [h1]
      clear hR
      refine PCalls.enter Tryz.func35 rfl Tryz.ntmps35 (by simp) ?_
      simp only [argsF]
      refine go_ ?_
      refine retP_ok (by simp) (by simp only [Tryz.results35]; rfl) (by simp [resP, St.box?, PF.get, loadB, TyK.agg, *]; rfl) (List.nil_sublist _) ?_
      exact ⟨by rw [hf.out]; rfl, rfl⟩
  · have hf : Hid (R = false) := by show _ = _; rw [hR]; simp [h0]
    clear hR
    refine PCalls.enter Tryz.func35 rfl Tryz.ntmps35 (by simp) ?_
    simp only [argsF]
    refine go_ ?_
    refine retP_ok (by simp) (by simp only [Tryz.results35]; rfl) (by simp [resP, St.box?, PF.get, loadB, TyK.agg, *]; rfl) (List.nil_sublist _) ?_
    exact ⟨by rw [hf.out]; rfl, rfl⟩
set_option maxHeartbeats 4000000 in
theorem ris_p (l : List En) (n k : Int) : PCalls Tryz.prog 13 [.d (.sl (l.map encD)), .d (.v (.int .i64 n)), .d (.v (.int .i64 k))] [] fun p s => p = .d (.v (.bool (isE l n k))) ∧ s = [] := by
  obtain ⟨R, hR⟩ : ∃ R, R = isE l n k := ⟨_, rfl⟩
  rw [← hR]
  unfold isE at hR
  by_cases h0 : 0 ≤ n
  · by_cases h1 : n < l.length
    · obtain ⟨m, rfl⟩ : ∃ m : Nat, n = m := ⟨n.toNat, by omega⟩
      have hlt : m < l.length := by omega
      have hx := get_enc hlt
      rw [Int.toNat_natCast, List.getElem?_eq_getElem hlt] at hR
      have hf : Hid (R = (l[m].kind == k)) := by show _ = _; rw [hR]; simp [h0, h1]
      clear hR
      refine PCalls.enter Tryz.func13 rfl Tryz.ntmps13 (by simp) ?_
      simp only [argsF]
      refine go_ ?_
      refine retP_ok (by simp) (by simp only [Tryz.results13]; rfl) (by simp [resP, St.box?, PF.get, loadB, TyK.agg, *]; rfl) (List.nil_sublist _) ?_
      exact ⟨by rw [hf.out]; rfl, rfl⟩
    · have hf : Hid (R = false) := by show _ = _; rw [hR]; simp [h1]
      clear hR
      refine PCalls.enter Tryz.func13 rfl Tryz.ntmps13 (by simp) ?_
      simp only [argsF]
      refine go_ ?_
      refine retP_ok (by simp) (by simp only [Tryz.results13]; rfl) (by simp [resP, St.box?, PF.get, loadB, TyK.agg, *]; rfl) (List.nil_sublist _) ?_
      exact ⟨by rw [hf.out]; rfl, rfl⟩
  · have hf : Hid (R = false) := by show _ = _; rw [hR]; simp [h0]
    clear hR
    refine PCalls.enter Tryz.func13 rfl Tryz.ntmps13 (by simp) ?_
    simp only [argsF]
    refine go_ ?_
    refine retP_ok (by simp) (by simp only [Tryz.results13]; rfl) (by simp [resP, St.box?, PF.get, loadB, TyK.agg, *]; rfl) (List.nil_sublist _) ?_
    exact ⟨by rw [hf.out]; rfl, rfl⟩
/-- are numbers so many, one behind the other, from one on? (the machine's sum) -/
def runW : List Int → Int → Nat → Bool
  | [], _, _ => true
  | n :: l, f, i => (n == IntKind.i64.wrap (f + i)) && runW l f (i + 1)
set_option maxHeartbeats 4000000 in
theorem srun_p (l : List Int) (f : Int) : PCalls Tryz.prog 95 [.d (.sl (l.map encD)), .d (.v (.int .i64 f))] [] fun p s => p = .d (.v (.bool (runW l f 0))) ∧ s = [] := by
  obtain ⟨R, hR⟩ : ∃ R, R = runW l f 0 := ⟨_, rfl⟩
  rw [← hR]
  have HR : Hid (R = runW (l.drop 0) f 0) := hR
  clear hR
  refine PCalls.enter Tryz.func95 rfl Tryz.ntmps95 (by simp) ?_
  simp only [argsF]
  refine PW_slen (t := 0) (rows := l.map encD) (by simp [PF.get] <;> rfl) rfl fun hml => ?_
  rw [List.length_map] at hml
  unfold maxLen at hml
  refine go_ ?_
  refine PW_loop (ι := Nat) (fun y => y ≤ l.length ∧ Hid (R = runW (l.drop y) f y)) (fun y => [(1, .d (.v (.int .i64 f))), (7, .d (.sl (l.map encD))), (8, .d (.v (.int .i64 l.length))), (9, .d (.v (.int .i64 (y : Int))))]) (fun _ => []) (fun y => l.length - y) 0 ⟨Nat.zero_le _, HR.out⟩ ?_ ?_ ?_
  · repeat (first | exact sub_nil _ | refine sub_cons (by simp [PF.get]; rfl) (by first | rfl | (simp [*]; done) | fail) ?_)
  · repeat (first | exact List.Sublist.refl _ | exact List.nil_sublist _ | refine List.Sublist.cons_cons _ ?_ | refine List.Sublist.cons _ ?_)
  · rintro j ⟨hj, hR⟩
    clear HR
    by_cases hlt : j < l.length
    · have hx := get_enc hlt
      have hc : (j : Int) < l.length := by omega
      have hn : (0 : Int) ≤ j := by omega
      have hin := wr64 (n := (j : Int) + 1) (by omega) (by omega)
      have hR2 : Hid (R = ((l[j] == IntKind.i64.wrap (f + j)) && runW (l.drop (j + 1)) f (j + 1))) := by
        rw [show R = _ from hR.out, List.drop_eq_getElem_cons hlt]; rfl
      clear hR
      by_cases he : l[j] = IntKind.i64.wrap (f + j)
      · have hR3 : Hid (R = runW (l.drop (j + 1)) f (j + 1)) := by show _ = _; rw [show R = _ from hR2.out, beq_iff_eq.2 he]; rfl
        have he2 : (l[j] != IntKind.i64.wrap (f + j)) = false := by rw [he]; simp
        clear hR2 he
        refine go_ ?_
        exact ⟨j + 1, ⟨hlt, hR3⟩, by omega, by repeat (first | exact sub_nil _ | refine sub_cons (by simp [PF.get]; rfl) (by first | rfl | (simp [*]; done) | fail) ?_), by repeat (first | exact List.Sublist.refl _ | exact List.nil_sublist _ | refine List.Sublist.cons_cons _ ?_ | refine List.Sublist.cons _ ?_)⟩
      · have hf : Hid (R = false) := by show _ = _; rw [show R = _ from hR2.out, beq_eq_false_iff_ne.2 he]; rfl
        have he2 : (l[j] != IntKind.i64.wrap (f + j)) = true := bne_iff_ne.2 he
        clear hR2 he
        refine go_ ?_
        refine retP_ok (by simp) (by simp only [Tryz.results95]; rfl) (by simp [resP, St.box?, PF.get, loadB, TyK.agg, *]; rfl) (List.nil_sublist _) ?_
        exact ⟨by rw [hf.out]; rfl, rfl⟩
    · have hc : ¬ (j : Int) < l.length := by omega
      have hf : Hid (R = true) := by show _ = _; rw [show R = _ from hR.out, List.drop_of_length_le (by omega)]; rfl
      refine go_ ?_
      refine retP_ok (by simp) (by simp only [Tryz.results95]; rfl) (by simp [resP, St.box?, PF.get, loadB, TyK.agg, *]; rfl) (List.nil_sublist _) ?_
      exact ⟨by rw [hf.out]; rfl, rfl⟩
/-- an entry is of a kind, of a family, in its place -/
def memE (l : List En) (of_ n k : Int) (i : Nat) : Bool := isE l n k && (match l[n.toNat]? with | some e => e.of_ == of_ && e.place == (i : Int) | none => false)
def membersW (l : List En) (of_ : Int) : List Int → Int → Nat → Bool
  | [], _, _ => true
  | n :: r, k, i => memE l of_ n k i && membersW l of_ r k (i + 1)
theorem isE_get {l : List En} {n k : Int} (h : isE l n k = true) : ∃ m : Nat, n = m ∧ ∃ hlt : m < l.length, l[m].kind = k := by
  unfold isE at h
  simp only [Bool.and_eq_true, decide_eq_true_eq] at h
  obtain ⟨h0, h1, h2⟩ := h
  obtain ⟨m, rfl⟩ : ∃ m : Nat, n = m := ⟨n.toNat, by omega⟩
  have hlt : m < l.length := by omega
  rw [Int.toNat_natCast, List.getElem?_eq_getElem hlt] at h2
  exact ⟨m, rfl, hlt, beq_iff_eq.1 h2⟩
set_option maxHeartbeats 4000000 in
theorem smembers_p (l : List En) (of_ k : Int) (r : List Int) : PCalls Tryz.prog 96 [.d (.sl (l.map encD)), .d (.v (.int .i64 of_)), .d (.sl (r.map encD)), .d (.v (.int .i64 k))] [] fun p s => p = .d (.v (.bool (membersW l of_ r k 0))) ∧ s = [] := by
  obtain ⟨R, hR⟩ : ∃ R, R = membersW l of_ r k 0 := ⟨_, rfl⟩
  rw [← hR]
  have HR : Hid (R = membersW l of_ (r.drop 0) k 0) := hR
  clear hR
  refine PCalls.enter Tryz.func96 rfl Tryz.ntmps96 (by simp) ?_
  simp only [argsF]
  refine PW_slen (t := 0 + 1 + 1) (rows := r.map encD) (by simp [PF.get] <;> rfl) rfl fun hml => ?_
  rw [List.length_map] at hml
  unfold maxLen at hml
  refine go_ ?_
  refine PW_loop (ι := Nat) (fun y => y ≤ r.length ∧ Hid (R = membersW l of_ (r.drop y) k y)) (fun y => [(0, .d (.sl (l.map encD))), (1, .d (.v (.int .i64 of_))), (3, .d (.v (.int .i64 k))), (11, .d (.sl (r.map encD))), (12, .d (.v (.int .i64 r.length))), (13, .d (.v (.int .i64 (y : Int))))]) (fun _ => []) (fun y => r.length - y) 0 ⟨Nat.zero_le _, HR.out⟩ ?_ ?_ ?_
  · repeat (first | exact sub_nil _ | refine sub_cons (by simp [PF.get]; rfl) (by first | rfl | (simp [*]; done) | fail) ?_)
  · repeat (first | exact List.Sublist.refl _ | exact List.nil_sublist _ | refine List.Sublist.cons_cons _ ?_ | refine List.Sublist.cons _ ?_)
  · rintro j ⟨hj, hR⟩
    clear HR
    by_cases hlt : j < r.length
    · have hx := get_enc hlt
      have hc : (j : Int) < r.length := by omega
      have hn : (0 : Int) ≤ j := by omega
      have hin := wr64 (n := (j : Int) + 1) (by omega) (by omega)
      have hR2 : Hid (R = (memE l of_ r[j] k j && membersW l of_ (r.drop (j + 1)) k (j + 1))) := by
        rw [show R = _ from hR.out, List.drop_eq_getElem_cons hlt]; rfl
      have hS := Lib.hid (sis_p l r[j] k)
      clear hR
      cases hb : isE l r[j] k with
      | false =>
        have hf : Hid (R = false) := by show _ = _; rw [show R = _ from hR2.out]; unfold memE; rw [hb]; rfl
        rw [hb] at hS
        clear hR2 hb
        refine go_ ?_
        refine POps_call_a (hS.out) ?_
        refine go_ ?_
        refine retP_ok (by simp) (by simp only [Tryz.results96]; rfl) (by simp [resP, St.box?, PF.get, loadB, TyK.agg, *]; rfl) (List.nil_sublist _) ?_
        exact ⟨by rw [hf.out]; rfl, rfl⟩
      | true =>
        obtain ⟨q, hq, hql, hqk⟩ := isE_get hb
        have hxq := get_enc hql
        have hq0 : (0 : Int) ≤ q := by omega
        have hR3 : Hid (R = ((l[q].of_ == of_ && l[q].place == (j : Int)) && membersW l of_ (r.drop (j + 1)) k (j + 1))) := by
          show _ = _
          rw [show R = _ from hR2.out]
          unfold memE
          rw [hb, hq, Int.toNat_natCast, List.getElem?_eq_getElem hql]; rfl
        rw [hb, hq] at hS
        clear hR2 hb hqk
        refine go_ ?_
        refine POps_call_a (hS.out) ?_
        refine go_ ?_
        by_cases h1 : l[q].of_ = of_
        rotate_left
        · have h1b : (l[q].of_ != of_) = true := bne_iff_ne.2 h1
          have hf : Hid (R = false) := by show _ = _; rw [show R = _ from hR3.out, beq_eq_false_iff_ne.2 h1]; rfl
          clear h1 hR3
          refine go_ ?_
          refine retP_ok (by simp) (by simp only [Tryz.results96]; rfl) (by simp [resP, St.box?, PF.get, loadB, TyK.agg, *]; rfl) (List.nil_sublist _) ?_
          exact ⟨by rw [hf.out]; rfl, rfl⟩
        · have h1b : (l[q].of_ != of_) = false := by rw [h1]; simp
          have h1c : (l[q].of_ == of_) = true := beq_iff_eq.2 h1
          clear h1
          refine go_ ?_
          by_cases h2 : l[q].place = (j : Int)
          rotate_left
          · have h2b : (l[q].place != (j : Int)) = true := bne_iff_ne.2 h2
            have hf : Hid (R = false) := by show _ = _; rw [show R = _ from hR3.out, beq_eq_false_iff_ne.2 h2]; simp
            clear h2 hR3
            refine go_ ?_
            refine retP_ok (by simp) (by simp only [Tryz.results96]; rfl) (by simp [resP, St.box?, PF.get, loadB, TyK.agg, *]; rfl) (List.nil_sublist _) ?_
            exact ⟨by rw [hf.out]; rfl, rfl⟩
          · have h2b : (l[q].place != (j : Int)) = false := by rw [h2]; simp
            have hR4 : Hid (R = membersW l of_ (r.drop (j + 1)) k (j + 1)) := by show _ = _; rw [show R = _ from hR3.out, h1c, beq_iff_eq.2 h2]; rfl
            clear h2 hR3
            refine go_ ?_
            exact ⟨j + 1, ⟨hlt, hR4⟩, by omega, by repeat (first | exact sub_nil _ | refine sub_cons (by simp [PF.get]; rfl) (by first | rfl | (simp [*]; done) | fail) ?_), by repeat (first | exact List.Sublist.refl _ | exact List.nil_sublist _ | refine List.Sublist.cons_cons _ ?_ | refine List.Sublist.cons _ ?_)⟩
    · have hc : ¬ (j : Int) < r.length := by omega
      have hf : Hid (R = true) := by show _ = _; rw [show R = _ from hR.out, List.drop_of_length_le (by omega)]; rfl
      refine go_ ?_
      refine retP_ok (by simp) (by simp only [Tryz.results96]; rfl) (by simp [resP, St.box?, PF.get, loadB, TyK.agg, *]; rfl) (List.nil_sublist _) ?_
      exact ⟨by rw [hf.out]; rfl, rfl⟩
end Go.Proofs.YtfnfbbmegdkhjaaGreat

namespace Go.Proofs.YtfnfbbmegdkhjaaGreat
open Go.RowKit
set_option maxRecDepth 100000
def rowW (l : List En) (of_ : Int) : List Int → Int → Int → Nat → Bool
  | [], _, _, _ => true
  | n :: r, f, k, i => ((n == IntKind.i64.wrap (f + i)) && memE l of_ n k i) && rowW l of_ r f k (i + 1)
theorem row_eq (l : List En) (of_ f k : Int) : ∀ (r : List Int) (i : Nat), rowW l of_ r f k i = (runW r f i && membersW l of_ r k i) := by
  intro r
  induction r with
  | nil => intro i; rfl
  | cons n r ih =>
    intro i
    simp only [rowW, runW, membersW, ih]
    cases (n == IntKind.i64.wrap (f + i)) <;> cases memE l of_ n k i <;> simp
set_option maxHeartbeats 4000000 in
theorem rrow_p (l : List En) (r : List Int) (f of_ k : Int) : PCalls Tryz.prog 85 [.d (.sl (l.map encD)), .d (.sl (r.map encD)), .d (.v (.int .i64 f)), .d (.v (.int .i64 of_)), .d (.v (.int .i64 k))] [] fun p s => p = .d (.v (.bool (runW r f 0 && membersW l of_ r k 0))) ∧ s = [] := by
  rw [← row_eq]
  obtain ⟨R, hR⟩ : ∃ R, R = rowW l of_ r f k 0 := ⟨_, rfl⟩
  rw [← hR]
  have HR : Hid (R = rowW l of_ (r.drop 0) f k 0) := hR
  clear hR
  refine PCalls.enter Tryz.func85 rfl Tryz.ntmps85 (by simp) ?_
  simp only [argsF]
  refine PW_slen (t := 0 + 1) (rows := r.map encD) (by simp [PF.get] <;> rfl) rfl fun hml => ?_
  rw [List.length_map] at hml
  unfold maxLen at hml
  refine go_ ?_
  refine PW_loop (ι := Nat) (fun y => y ≤ r.length ∧ Hid (R = rowW l of_ (r.drop y) f k y)) (fun y => [(0, .d (.sl (l.map encD))), (1, .d (.sl (r.map encD))), (2, .d (.v (.int .i64 f))), (3, .d (.v (.int .i64 of_))), (4, .d (.v (.int .i64 k))), (11, .d (.v (.int .i64 (y : Int))))]) (fun _ => []) (fun y => r.length - y) 0 ⟨Nat.zero_le _, HR.out⟩ ?_ ?_ ?_
  · repeat (first | exact sub_nil _ | refine sub_cons (by simp [PF.get]; rfl) (by first | rfl | (simp [*]; done) | fail) ?_)
  · repeat (first | exact List.Sublist.refl _ | exact List.nil_sublist _ | refine List.Sublist.cons_cons _ ?_ | refine List.Sublist.cons _ ?_)
  · rintro j ⟨hj, hR⟩
    clear HR
    by_cases hlt : j < r.length
    · have hx := get_enc hlt
      have hc : (j : Int) < r.length := by omega
      have hn : (0 : Int) ≤ j := by omega
      have hin := wr64 (n := (j : Int) + 1) (by omega) (by omega)
      have hR2 : Hid (R = (((r[j] == IntKind.i64.wrap (f + j)) && memE l of_ r[j] k j) && rowW l of_ (r.drop (j + 1)) f k (j + 1))) := by
        rw [show R = _ from hR.out, List.drop_eq_getElem_cons hlt]; rfl
      have hS := Lib.hid (ris_p l r[j] k)
      clear hR
      by_cases he : r[j] = IntKind.i64.wrap (f + j)
      rotate_left
      · have hf : Hid (R = false) := by show _ = _; rw [show R = _ from hR2.out, beq_eq_false_iff_ne.2 he]; rfl
        have he2 : (r[j] != IntKind.i64.wrap (f + j)) = true := bne_iff_ne.2 he
        clear hR2 he
        refine go_ ?_
        refine retP_ok (by simp) (by simp only [Tryz.results85]; rfl) (by simp [resP, St.box?, PF.get, loadB, TyK.agg, *]; rfl) (List.nil_sublist _) ?_
        exact ⟨by rw [hf.out]; rfl, rfl⟩
      have he2 : (r[j] != IntKind.i64.wrap (f + j)) = false := by rw [he]; simp
      have hR3 : Hid (R = (memE l of_ r[j] k j && rowW l of_ (r.drop (j + 1)) f k (j + 1))) := by show _ = _; rw [show R = _ from hR2.out, beq_iff_eq.2 he]; rfl
      clear hR2 he
      cases hb : isE l r[j] k with
      | false =>
        have hf : Hid (R = false) := by show _ = _; rw [show R = _ from hR3.out]; unfold memE; rw [hb]; rfl
        rw [hb] at hS
        clear hR3 hb
        refine go_ ?_
        refine POps_call_a (hS.out) ?_
        refine go_ ?_
        refine retP_ok (by simp) (by simp only [Tryz.results85]; rfl) (by simp [resP, St.box?, PF.get, loadB, TyK.agg, *]; rfl) (List.nil_sublist _) ?_
        exact ⟨by rw [hf.out]; rfl, rfl⟩
      | true =>
        obtain ⟨q, hq, hql, hqk⟩ := isE_get hb
        have hxq := get_enc hql
        have hq0 : (0 : Int) ≤ q := by omega
        have hR4 : Hid (R = ((l[q].of_ == of_ && l[q].place == (j : Int)) && rowW l of_ (r.drop (j + 1)) f k (j + 1))) := by
          show _ = _
          rw [show R = _ from hR3.out]
          unfold memE
          rw [hb, hq, Int.toNat_natCast, List.getElem?_eq_getElem hql]; rfl
        rw [hb, hq] at hS
        rw [hq] at he2
        clear hR3 hb hqk
        refine go_ ?_
        refine POps_call_a (hS.out) ?_
        refine go_ ?_
        by_cases h1 : l[q].of_ = of_
        rotate_left
        · have h1b : (l[q].of_ != of_) = true := bne_iff_ne.2 h1
          have hf : Hid (R = false) := by show _ = _; rw [show R = _ from hR4.out, beq_eq_false_iff_ne.2 h1]; rfl
          clear h1 hR4
          refine go_ ?_
          refine retP_ok (by simp) (by simp only [Tryz.results85]; rfl) (by simp [resP, St.box?, PF.get, loadB, TyK.agg, *]; rfl) (List.nil_sublist _) ?_
          exact ⟨by rw [hf.out]; rfl, rfl⟩
        · have h1b : (l[q].of_ != of_) = false := by rw [h1]; simp
          have h1c : (l[q].of_ == of_) = true := beq_iff_eq.2 h1
          clear h1
          refine go_ ?_
          by_cases h2 : l[q].place = (j : Int)
          rotate_left
          · have h2b : (l[q].place != (j : Int)) = true := bne_iff_ne.2 h2
            have hf : Hid (R = false) := by show _ = _; rw [show R = _ from hR4.out, beq_eq_false_iff_ne.2 h2]; simp
            clear h2 hR4
            refine go_ ?_
            refine retP_ok (by simp) (by simp only [Tryz.results85]; rfl) (by simp [resP, St.box?, PF.get, loadB, TyK.agg, *]; rfl) (List.nil_sublist _) ?_
            exact ⟨by rw [hf.out]; rfl, rfl⟩
          · have h2b : (l[q].place != (j : Int)) = false := by rw [h2]; simp
            have hR5 : Hid (R = rowW l of_ (r.drop (j + 1)) f k (j + 1)) := by show _ = _; rw [show R = _ from hR4.out, h1c, beq_iff_eq.2 h2]; rfl
            clear h2 hR4
            refine go_ ?_
            exact ⟨j + 1, ⟨hlt, hR5⟩, by omega, by repeat (first | exact sub_nil _ | refine sub_cons (by simp [PF.get]; rfl) (by first | rfl | (simp [*]; done) | fail) ?_), by repeat (first | exact List.Sublist.refl _ | exact List.nil_sublist _ | refine List.Sublist.cons_cons _ ?_ | refine List.Sublist.cons _ ?_)⟩
    · have hc : ¬ (j : Int) < r.length := by omega
      have hf : Hid (R = true) := by show _ = _; rw [show R = _ from hR.out, List.drop_of_length_le (by omega)]; rfl
      refine go_ ?_
      refine retP_ok (by simp) (by simp only [Tryz.results85]; rfl) (by simp [resP, St.box?, PF.get, loadB, TyK.agg, *]; rfl) (List.nil_sublist _) ?_
      exact ⟨by rw [hf.out]; rfl, rfl⟩
/-- is a term one without variables, with so many entries? -/
def closedT (t : Tm) (e : Int) : Bool := rightT t 0 e && ((nmT 8 8 t).length : Int) == 0
set_option maxHeartbeats 4000000 in
theorem sclosed_p (t : Tm) (e : Int) : PCalls Tryz.prog 54 [aggD t, .d (.v (.int .i64 e))] [] fun p s => p = .d (.v (.bool (closedT t e))) ∧ s = [] := by
  have hR := Lib.hid (tRight_p t 0 e)
  have hF := Lib.hid (tfrees_p t)
  have HR := Lib.hid (show closedT t e = (rightT t 0 e && ((nmT 8 8 t).length : Int) == 0) from rfl)
  generalize closedT t e = R at *
  cases hb : rightT t 0 e with
  | false =>
    rw [hb] at hR HR
    simp only [aggD, encD_tm, List.map_cons, List.map_nil] at hR ⊢
    clear hb
    refine PCalls.enter Tryz.func54 rfl Tryz.ntmps54 (by simp) ?_
    simp only [argsF]
    refine go_ ?_
    refine POps_box_a ?_
    intro i0 hi0
    refine go_ ?_
    refine POps_call_a (hR.out) ?_
    refine go_ ?_
    refine retP_ok (by simp) (by simp only [Tryz.results54]; rfl) (by simp [resP, St.box?, PF.get, loadB, TyK.agg, *]; rfl) (List.nil_sublist _) ?_
    exact ⟨by rw [HR.out]; rfl, rfl⟩
  | true =>
    have hs : shapedB t = true := by unfold rightT at hb; simp only [Bool.and_eq_true] at hb; exact hb.1.1
    have hen : enT 8 8 t = nmT 8 8 t := if_pos hs
    rw [hb] at hR HR
    rw [hen] at hF
    simp only [aggD, encD_tm, List.map_cons, List.map_nil] at hR hF ⊢
    clear hb hs hen
    refine PCalls.enter Tryz.func54 rfl Tryz.ntmps54 (by simp) ?_
    simp only [argsF]
    refine go_ ?_
    refine POps_box_a ?_
    intro i0 hi0
    refine go_ ?_
    refine POps_call_a (hR.out) ?_
    refine go_ ?_
    refine POps_call_a (hF.out) ?_
    refine go_ ?_
    refine retP_ok (by simp) (by simp only [Tryz.results54]; rfl) (by simp [resP, St.box?, PF.get, loadB, TyK.agg, *]; rfl) (List.nil_sublist _) ?_
    exact ⟨by rw [HR.out]; simp [tupP, PV.norm2, PV.norm1, PV.norm0], rfl⟩
set_option maxHeartbeats 4000000 in
theorem rclosed_p (t : Tm) (e : Int) : PCalls Tryz.prog 47 [aggD t, .d (.v (.int .i64 e))] [] fun p s => p = .d (.v (.bool (closedT t e))) ∧ s = [] := by
  have hR := Lib.hid (rRight_p t 0 e)
  have HR := Lib.hid (show closedT t e = (rightT t 0 e && ((nmT 8 8 t).length : Int) == 0) from rfl)
  generalize closedT t e = R at *
  cases hb : rightT t 0 e with
  | false =>
    rw [hb] at hR HR
    simp only [aggD, encD_tm, List.map_cons, List.map_nil] at hR ⊢
    clear hb
    refine PCalls.enter Tryz.func47 rfl Tryz.ntmps47 (by simp) ?_
    simp only [argsF]
    refine go_ ?_
    refine POps_box_a ?_
    intro i0 hi0
    refine go_ ?_
    refine POps_call_a (hR.out) ?_
    refine go_ ?_
    refine retP_ok (by simp) (by simp only [Tryz.results47]; rfl) (by simp [resP, St.box?, PF.get, loadB, TyK.agg, *]; rfl) (List.nil_sublist _) ?_
    exact ⟨by rw [HR.out]; rfl, rfl⟩
  | true =>
    have hs : shapedB t = true := by unfold rightT at hb; simp only [Bool.and_eq_true] at hb; exact hb.1.1
    have hF := Lib.hid (rnumbers_p t 8 8 (by have := (shaped_hg hs).2.2; omega))
    rw [hb] at hR HR
    simp only [aggD, encD_tm, List.map_cons, List.map_nil] at hR hF ⊢
    clear hb hs
    refine PCalls.enter Tryz.func47 rfl Tryz.ntmps47 (by simp) ?_
    simp only [argsF]
    refine go_ ?_
    refine POps_box_a ?_
    intro i0 hi0
    refine go_ ?_
    refine POps_call_a (hR.out) ?_
    refine go_ ?_
    refine POps_call_a (hF.out) ?_
    refine go_ ?_
    refine retP_ok (by simp) (by simp only [Tryz.results47]; rfl) (by simp [resP, St.box?, PF.get, loadB, TyK.agg, *]; rfl) (List.nil_sublist _) ?_
    exact ⟨by rw [HR.out]; simp [tupP, PV.norm2, PV.norm1, PV.norm0], rfl⟩
end Go.Proofs.YtfnfbbmegdkhjaaGreat

namespace Go.Proofs.YtfnfbbmegdkhjaaGreat
open Go.RowKit
set_option maxRecDepth 100000
/-- the first so many are the telescope's variables -/
def varsA (args : List Tm) (binders : Int) : Nat → Nat → Bool
  | 0, _ => true
  | n + 1, i => (match args[i]? with | some a => a.kind == 1 && a.num == binders - 1 - (i : Int) | none => false) && varsA args binders n (i + 1)
/-- is a term the family with its parameters and so many arguments more? -/
def appliedT (t : Tm) (of_ pars more binders : Int) : Bool := (headT t).kind == 6 && ((headT t).num == of_ && ((((argsT t).length : Int) == pars + more) && varsA (argsT t) binders pars.toNat 0))
set_option maxHeartbeats 8000000 in
theorem sapplied_p (t : Tm) (of_ pars more binders : Int) (hs : shapedB t = true) (hp0 : 0 ≤ pars) (hp1 : pars ≤ 24) (hm0 : 0 ≤ more) (hm1 : more ≤ 24) (hb0 : 0 ≤ binders) (hb1 : binders ≤ 100000) :
    PCalls Tryz.prog 98 [aggD t, .d (.v (.int .i64 of_)), .d (.v (.int .i64 pars)), .d (.v (.int .i64 more)), .d (.v (.int .i64 binders))] [] fun p s => p = .d (.v (.bool (appliedT t of_ pars more binders))) ∧ s = [] := by
  have hS := Lib.hid (tSpine_p t hs)
  obtain ⟨R, hR⟩ : ∃ R, R = appliedT t of_ pars more binders := ⟨_, rfl⟩
  rw [← hR]
  unfold appliedT at hR
  generalize headT t = h at *
  generalize argsT t = a at *
  have HR := Lib.hid hR
  obtain ⟨m, rfl⟩ : ∃ m : Nat, pars = m := ⟨pars.toNat, by omega⟩
  have hw1 := wr64 (n := (m : Int) + more) (by omega) (by omega)
  have hw2 := wr64 (n := binders - 1) (by omega) (by omega)
  clear hR hs
  simp only [aggD, encD_tm, List.map_cons, List.map_nil] at hS ⊢
  refine PCalls.enter Tryz.func98 rfl Tryz.ntmps98 (by simp) ?_
  simp only [argsF]
  refine go_ ?_
  refine POps_box_a ?_
  intro i0 hi0
  refine go_ ?_
  refine POps_call_a (hS.out) ?_
  refine go_ ?_
  refine POps_alloc_a ?_
  intro i1 hi1
  try simp only [St.freshB_box, St.freshB_nil, St.freshB_tok, St.freshB_obj] at hi1
  refine go_ ?_
  refine Rd ?_
  refine go_ ?_
  by_cases h1 : h.kind = 6
  rotate_left
  · have h1b : (h.kind != 6) = true := bne_iff_ne.2 h1
    have hf : Hid (R = false) := by show _ = _; rw [show R = _ from HR.out, beq_eq_false_iff_ne.2 h1]; rfl
    clear h1 HR
    refine go_ ?_
    refine retP_ok (by simp) (by simp only [Tryz.results98]; rfl) (by simp [resP, St.box?, PF.get, loadB, TyK.agg, *]; rfl) (List.nil_sublist _) ?_
    exact ⟨by rw [hf.out]; rfl, rfl⟩
  have h1b : (h.kind != 6) = false := by rw [h1]; rfl
  have h1c : (h.kind == 6) = true := beq_iff_eq.2 h1
  clear h1
  refine go_ ?_
  by_cases h2 : h.num = of_
  rotate_left
  · have h2b : (h.num != of_) = true := bne_iff_ne.2 h2
    have hf : Hid (R = false) := by show _ = _; rw [show R = _ from HR.out, h1c, beq_eq_false_iff_ne.2 h2]; rfl
    clear h2 HR
    refine go_ ?_
    refine retP_ok (by simp) (by simp only [Tryz.results98]; rfl) (by simp [resP, St.box?, PF.get, loadB, TyK.agg, *]; rfl) (List.nil_sublist _) ?_
    exact ⟨by rw [hf.out]; rfl, rfl⟩
  have h2b : (h.num != of_) = false := by rw [h2]; simp
  have h2c : (h.num == of_) = true := beq_iff_eq.2 h2
  clear h2
  refine go_ ?_
  by_cases h3 : (a.length : Int) = m + more
  rotate_left
  · have h3b : ((a.length : Int) != m + more) = true := bne_iff_ne.2 h3
    have hf : Hid (R = false) := by show _ = _; rw [show R = _ from HR.out, h1c, h2c, beq_eq_false_iff_ne.2 h3]; rfl
    clear h3 HR
    refine go_ ?_
    refine retP_ok (by simp) (by simp only [Tryz.results98]; rfl) (by simp [resP, St.box?, PF.get, loadB, TyK.agg, *]; rfl) (List.nil_sublist _) ?_
    exact ⟨by rw [hf.out]; rfl, rfl⟩
  have h3b : ((a.length : Int) != m + more) = false := by rw [h3]; simp
  have HR0 : Hid (R = varsA a binders (m - 0) 0) := by show _ = _; rw [show R = _ from HR.out, h1c, h2c, beq_iff_eq.2 h3, Int.toNat_natCast]; rfl
  have hal : m ≤ a.length := by omega
  clear HR h3
  refine go_ ?_
  refine PW_loop (ι := Nat) (fun y => y ≤ m ∧ Hid (R = varsA a binders (m - y) y)) (fun y => [(4, .d (.v (.int .i64 binders))), (12, .d (.sl (a.map encD))), (36, .d (.v (.int .i64 m))), (37, .d (.v (.int .i64 (y : Int))))]) (fun _ => []) (fun y => m - y) 0 ⟨Nat.zero_le _, HR0.out⟩ ?_ ?_ ?_
  · repeat (first | exact sub_nil _ | refine sub_cons (by simp [PF.get]; rfl) (by first | rfl | (simp [*]; done) | fail) ?_)
  · repeat (first | exact List.Sublist.refl _ | exact List.nil_sublist _ | refine List.Sublist.cons_cons _ ?_ | refine List.Sublist.cons _ ?_)
  · rintro j ⟨hj, hR⟩
    clear HR0
    by_cases hlt : j < m
    · have hla : j < a.length := by omega
      have hx := get_enc hla
      have hc : (j : Int) < m := by omega
      have hn : (0 : Int) ≤ j := by omega
      have hin := wr64 (n := (j : Int) + 1) (by omega) (by omega)
      have hw3 := wr64 (n := binders - 1 - j) (by omega) (by omega)
      have hR2 : Hid (R = ((a[j].kind == 1 && a[j].num == binders - 1 - (j : Int)) && varsA a binders (m - (j + 1)) (j + 1))) := by
        show _ = _
        rw [show R = _ from hR.out, show m - j = (m - (j + 1)) + 1 by omega]
        simp only [varsA, List.getElem?_eq_getElem hla]
      clear hR
      by_cases k1 : a[j].kind = 1
      rotate_left
      · have k1b : (a[j].kind != 1) = true := bne_iff_ne.2 k1
        have hf : Hid (R = false) := by show _ = _; rw [show R = _ from hR2.out, beq_eq_false_iff_ne.2 k1]; rfl
        clear k1 hR2
        refine go_ ?_
        refine retP_ok (by simp) (by simp only [Tryz.results98]; rfl) (by simp [resP, St.box?, PF.get, loadB, TyK.agg, *]; rfl) (List.nil_sublist _) ?_
        exact ⟨by rw [hf.out]; rfl, rfl⟩
      have k1b : (a[j].kind != 1) = false := by rw [k1]; rfl
      have k1c : (a[j].kind == 1) = true := beq_iff_eq.2 k1
      clear k1
      refine go_ ?_
      by_cases k2 : a[j].num = binders - 1 - (j : Int)
      rotate_left
      · have k2b : (a[j].num != binders - 1 - (j : Int)) = true := bne_iff_ne.2 k2
        have hf : Hid (R = false) := by show _ = _; rw [show R = _ from hR2.out, beq_eq_false_iff_ne.2 k2]; simp
        clear k2 hR2
        refine go_ ?_
        refine retP_ok (by simp) (by simp only [Tryz.results98]; rfl) (by simp [resP, St.box?, PF.get, loadB, TyK.agg, *]; rfl) (List.nil_sublist _) ?_
        exact ⟨by rw [hf.out]; rfl, rfl⟩
      have k2b : (a[j].num != binders - 1 - (j : Int)) = false := by rw [k2]; simp
      have hR3 : Hid (R = varsA a binders (m - (j + 1)) (j + 1)) := by show _ = _; rw [show R = _ from hR2.out, k1c, beq_iff_eq.2 k2]; rfl
      clear k2 hR2
      refine go_ ?_
      exact ⟨j + 1, ⟨hlt, hR3⟩, by omega, by repeat (first | exact sub_nil _ | refine sub_cons (by simp [PF.get]; rfl) (by first | rfl | (simp [*]; done) | fail) ?_), by repeat (first | exact List.Sublist.refl _ | exact List.nil_sublist _ | refine List.Sublist.cons_cons _ ?_ | refine List.Sublist.cons _ ?_)⟩
    · have hc : ¬ (j : Int) < m := by omega
      have hf : Hid (R = true) := by show _ = _; rw [show R = _ from hR.out, show m - j = 0 by omega]; rfl
      refine go_ ?_
      refine retP_ok (by simp) (by simp only [Tryz.results98]; rfl) (by simp [resP, St.box?, PF.get, loadB, TyK.agg, *]; rfl) (List.nil_sublist _) ?_
      exact ⟨by rw [hf.out]; rfl, rfl⟩
set_option maxHeartbeats 8000000 in
theorem rapplied_p (t : Tm) (of_ pars more binders : Int) (hs : shapedB t = true) (hp0 : 0 ≤ pars) (hp1 : pars ≤ 24) (hm0 : 0 ≤ more) (hm1 : more ≤ 24) (hb0 : 0 ≤ binders) (hb1 : binders ≤ 100000) :
    PCalls Tryz.prog 51 [aggD t, .d (.v (.int .i64 of_)), .d (.v (.int .i64 pars)), .d (.v (.int .i64 more)), .d (.v (.int .i64 binders))] [] fun p s => p = .d (.v (.bool (appliedT t of_ pars more binders))) ∧ s = [] := by
  have hA := Lib.hid (rArgs_p t (shaped_hg hs).1 (by have := (shaped_hg hs).2.2; omega))
  have hH := Lib.hid (rHead_p t (shaped_hg hs).1)
  obtain ⟨R, hR⟩ : ∃ R, R = appliedT t of_ pars more binders := ⟨_, rfl⟩
  rw [← hR]
  unfold appliedT at hR
  generalize headT t = h at *
  generalize argsT t = a at *
  have HR := Lib.hid hR
  obtain ⟨m, rfl⟩ : ∃ m : Nat, pars = m := ⟨pars.toNat, by omega⟩
  have hw1 := wr64 (n := (m : Int) + more) (by omega) (by omega)
  have hw2 := wr64 (n := binders - 1) (by omega) (by omega)
  clear hR hs
  simp only [aggD, encD_tm, List.map_cons, List.map_nil] at hA hH ⊢
  refine PCalls.enter Tryz.func51 rfl Tryz.ntmps51 (by simp) ?_
  simp only [argsF]
  refine go_ ?_
  refine POps_box_a ?_
  intro i0 hi0
  refine go_ ?_
  refine POps_call_a (hA.out) ?_
  refine go_ ?_
  refine POps_call_a (hH.out) ?_
  refine go_ ?_
  refine POps_alloc_a ?_
  intro i1 hi1
  try simp only [St.freshB_box, St.freshB_nil, St.freshB_tok, St.freshB_obj] at hi1
  refine go_ ?_
  refine Rd ?_
  refine go_ ?_
  by_cases h1 : h.kind = 6
  rotate_left
  · have h1b : (h.kind != 6) = true := bne_iff_ne.2 h1
    have hf : Hid (R = false) := by show _ = _; rw [show R = _ from HR.out, beq_eq_false_iff_ne.2 h1]; rfl
    clear h1 HR
    refine go_ ?_
    refine retP_ok (by simp) (by simp only [Tryz.results51]; rfl) (by simp [resP, St.box?, PF.get, loadB, TyK.agg, *]; rfl) (List.nil_sublist _) ?_
    exact ⟨by rw [hf.out]; rfl, rfl⟩
  have h1b : (h.kind != 6) = false := by rw [h1]; rfl
  have h1c : (h.kind == 6) = true := beq_iff_eq.2 h1
  clear h1
  refine go_ ?_
  by_cases h2 : h.num = of_
  rotate_left
  · have h2b : (h.num != of_) = true := bne_iff_ne.2 h2
    have hf : Hid (R = false) := by show _ = _; rw [show R = _ from HR.out, h1c, beq_eq_false_iff_ne.2 h2]; rfl
    clear h2 HR
    refine go_ ?_
    refine retP_ok (by simp) (by simp only [Tryz.results51]; rfl) (by simp [resP, St.box?, PF.get, loadB, TyK.agg, *]; rfl) (List.nil_sublist _) ?_
    exact ⟨by rw [hf.out]; rfl, rfl⟩
  have h2b : (h.num != of_) = false := by rw [h2]; simp
  have h2c : (h.num == of_) = true := beq_iff_eq.2 h2
  clear h2
  refine go_ ?_
  by_cases h3 : (a.length : Int) = m + more
  rotate_left
  · have h3b : ((a.length : Int) != m + more) = true := bne_iff_ne.2 h3
    have hf : Hid (R = false) := by show _ = _; rw [show R = _ from HR.out, h1c, h2c, beq_eq_false_iff_ne.2 h3]; rfl
    clear h3 HR
    refine go_ ?_
    refine retP_ok (by simp) (by simp only [Tryz.results51]; rfl) (by simp [resP, St.box?, PF.get, loadB, TyK.agg, *]; rfl) (List.nil_sublist _) ?_
    exact ⟨by rw [hf.out]; rfl, rfl⟩
  have h3b : ((a.length : Int) != m + more) = false := by rw [h3]; simp
  have HR0 : Hid (R = varsA a binders (m - 0) 0) := by show _ = _; rw [show R = _ from HR.out, h1c, h2c, beq_iff_eq.2 h3, Int.toNat_natCast]; rfl
  have hal : m ≤ a.length := by omega
  clear HR h3
  refine go_ ?_
  refine PW_loop (ι := Nat) (fun y => y ≤ m ∧ Hid (R = varsA a binders (m - y) y)) (fun y => [(2, .d (.v (.int .i64 m))), (4, .d (.v (.int .i64 binders))), (11, .d (.sl (a.map encD))), (13, .d (.v (.int .i64 (y : Int))))]) (fun _ => []) (fun y => m - y) 0 ⟨Nat.zero_le _, HR0.out⟩ ?_ ?_ ?_
  · repeat (first | exact sub_nil _ | refine sub_cons (by simp [PF.get]; rfl) (by first | rfl | (simp [*]; done) | fail) ?_)
  · repeat (first | exact List.Sublist.refl _ | exact List.nil_sublist _ | refine List.Sublist.cons_cons _ ?_ | refine List.Sublist.cons _ ?_)
  · rintro j ⟨hj, hR⟩
    clear HR0
    by_cases hlt : j < m
    · have hla : j < a.length := by omega
      have hx := get_enc hla
      have hc : (j : Int) < m := by omega
      have hn : (0 : Int) ≤ j := by omega
      have hin := wr64 (n := (j : Int) + 1) (by omega) (by omega)
      have hw3 := wr64 (n := binders - 1 - j) (by omega) (by omega)
      have hR2 : Hid (R = ((a[j].kind == 1 && a[j].num == binders - 1 - (j : Int)) && varsA a binders (m - (j + 1)) (j + 1))) := by
        show _ = _
        rw [show R = _ from hR.out, show m - j = (m - (j + 1)) + 1 by omega]
        simp only [varsA, List.getElem?_eq_getElem hla]
      clear hR
      by_cases k1 : a[j].kind = 1
      rotate_left
      · have k1b : (a[j].kind != 1) = true := bne_iff_ne.2 k1
        have hf : Hid (R = false) := by show _ = _; rw [show R = _ from hR2.out, beq_eq_false_iff_ne.2 k1]; rfl
        clear k1 hR2
        refine go_ ?_
        refine retP_ok (by simp) (by simp only [Tryz.results51]; rfl) (by simp [resP, St.box?, PF.get, loadB, TyK.agg, *]; rfl) (List.nil_sublist _) ?_
        exact ⟨by rw [hf.out]; rfl, rfl⟩
      have k1b : (a[j].kind != 1) = false := by rw [k1]; rfl
      have k1c : (a[j].kind == 1) = true := beq_iff_eq.2 k1
      clear k1
      refine go_ ?_
      by_cases k2 : a[j].num = binders - 1 - (j : Int)
      rotate_left
      · have k2b : (a[j].num != binders - 1 - (j : Int)) = true := bne_iff_ne.2 k2
        have hf : Hid (R = false) := by show _ = _; rw [show R = _ from hR2.out, beq_eq_false_iff_ne.2 k2]; simp
        clear k2 hR2
        refine go_ ?_
        refine retP_ok (by simp) (by simp only [Tryz.results51]; rfl) (by simp [resP, St.box?, PF.get, loadB, TyK.agg, *]; rfl) (List.nil_sublist _) ?_
        exact ⟨by rw [hf.out]; rfl, rfl⟩
      have k2b : (a[j].num != binders - 1 - (j : Int)) = false := by rw [k2]; simp
      have hR3 : Hid (R = varsA a binders (m - (j + 1)) (j + 1)) := by show _ = _; rw [show R = _ from hR2.out, k1c, beq_iff_eq.2 k2]; rfl
      clear k2 hR2
      refine go_ ?_
      exact ⟨j + 1, ⟨hlt, hR3⟩, by omega, by repeat (first | exact sub_nil _ | refine sub_cons (by simp [PF.get]; rfl) (by first | rfl | (simp [*]; done) | fail) ?_), by repeat (first | exact List.Sublist.refl _ | exact List.nil_sublist _ | refine List.Sublist.cons_cons _ ?_ | refine List.Sublist.cons _ ?_)⟩
    · have hc : ¬ (j : Int) < m := by omega
      have hf : Hid (R = true) := by show _ = _; rw [show R = _ from hR.out, show m - j = 0 by omega]; rfl
      refine go_ ?_
      refine retP_ok (by simp) (by simp only [Tryz.results51]; rfl) (by simp [resP, St.box?, PF.get, loadB, TyK.agg, *]; rfl) (List.nil_sublist _) ?_
      exact ⟨by rw [hf.out]; rfl, rfl⟩
end Go.Proofs.YtfnfbbmegdkhjaaGreat

namespace Go.Proofs.YtfnfbbmegdkhjaaGreat
open Go.RowKit
set_option maxRecDepth 100000
def ownsL (l : List En) (x : En) : List Int := match l[x.of_.toNat]? with | some d => if x.kind = 4 then d.fields else d.cons | none => []
def parsOf (l : List En) (n : Int) : Int := match l[n.toNat]? with | some d => d.pars | none => 0
def placeB (own : List Int) (p i : Int) : Bool := decide (0 ≤ p) && (match own[p.toNat]? with | some n => n == i | none => false)
/-- is an entry a family's, of the kind that says so? -/
def ownedB (l : List En) (x : En) (i : Int) : Bool :=
  isE l x.of_ 1 && (decide (x.of_ < i) && ((x.pars == parsOf l x.of_) && (noneT x.body && ((x.inds == 0) && ((x.level == 0) && (((x.cons.length : Int) == 0) && (((x.fields.length : Int) == 0) && placeB (ownsL l x) x.place i)))))))
/-- no list is longer than can be -/
def EnOk (e : En) : Prop := e.cons.length ≤ 4000000000000000000 ∧ e.fields.length ≤ 4000000000000000000
set_option maxHeartbeats 8000000 in
theorem sowned_p (l : List En) (i : Nat) (hi : i < l.length) (ho : ∀ e ∈ l, EnOk e) : PCalls Tryz.prog 97 [.d (.sl (l.map encD)), .d (.v (.int .i64 i))] [] fun p s => p = .d (.v (.bool (ownedB l l[i] i))) ∧ s = [] := by
  obtain ⟨R, hR⟩ : ∃ R, R = ownedB l l[i] i := ⟨_, rfl⟩
  rw [← hR]
  have hok := ho _ (List.getElem_mem hi)
  have hn : (0 : Int) ≤ i := by omega
  have hx3 : l[i]? = some l[i] := List.getElem?_eq_getElem hi
  unfold ownedB at hR
  generalize l[i] = x at *
  have hS := Lib.hid (sis_p l x.of_ 1)
  have hN := Lib.hid (snone_p x.body)
  simp only [aggD, encD_tm, List.map_cons, List.map_nil] at hN
  have HR := Lib.hid hR
  clear hR hi ho
  cases hb : isE l x.of_ 1 with
  | false =>
    have hf : Hid (R = false) := by show _ = _; rw [show R = _ from HR.out, hb]; rfl
    rw [hb] at hS
    clear HR hb hN hok
    refine PCalls.enter Tryz.func97 rfl Tryz.ntmps97 (by simp) ?_
    simp only [argsF]
    refine go_ ?_
    refine POps_alloc_a ?_
    intro i0 hi0
    refine go_ ?_
    refine Rd ?_
    refine go_ ?_
    refine PW_drawn [(0, .a), (1, .a), (2, .b), (3, .a), (4, .a), (5, .a), (6, .a), (7, .b), (8, .a), (9, .a), (10, .a), (11, .a), (12, .a), (13, .b), (14, .a), (15, .a), (16, .b), (17, .a), (18, .a), (19, .a), (20, .a), (21, .a), (22, .a), (23, .a), (24, .b), (25, .a), (26, .a), (27, .a), (28, .a), (29, .a), (30, .b), (31, .a), (32, .a), (33, .a), (34, .a), (35, .b), (36, .a), (37, .a), (38, .a), (39, .a), (40, .b), (41, .a), (42, .a), (43, .b), (44, .a), (45, .a), (46, .a), (47, .a)] (by kernel_rfl) (by rfl) (by kernel_rfl) ?_
    refine go_ ?_
    refine POrd_call_a (hS.out) ?_
    refine go_ ?_
    refine retP_ok (by simp) (by simp only [Tryz.results97]; rfl) (by simp [resP, St.box?, PF.get, loadB, TyK.agg, *]; rfl) (List.nil_sublist _) ?_
    exact ⟨by rw [hf.out]; rfl, rfl⟩
  | true =>
    obtain ⟨q, hq, hql, hqk⟩ := isE_get hb
    have hd : l[q]? = some l[q] := List.getElem?_eq_getElem hql
    have hq0 : (0 : Int) ≤ q := by omega
    rw [hb, hq] at hS
    unfold parsOf ownsL at HR
    rw [hb, hq, Int.toNat_natCast, hd] at HR
    simp only [Bool.true_and] at HR
    generalize l[q] = d at *
    have hol := hok
    have hws := wr64 (n := (x.cons.length : Int) + x.fields.length) (by have := hok.1; have := hok.2; omega) (by have := hok.1; have := hok.2; omega)
    clear hb hqk hql hok hol
    refine PCalls.enter Tryz.func97 rfl Tryz.ntmps97 (by simp) ?_
    simp only [argsF]
    refine go_ ?_
    refine POps_alloc_a ?_
    intro i0 hi0
    refine go_ ?_
    refine Rd ?_
    refine go_ ?_
    refine PW_drawn [(0, .a), (1, .a), (2, .b), (3, .a), (4, .a), (5, .a), (6, .a), (7, .b), (8, .a), (9, .a), (10, .a), (11, .a), (12, .a), (13, .b), (14, .a), (15, .a), (16, .b), (17, .a), (18, .a), (19, .a), (20, .a), (21, .a), (22, .a), (23, .a), (24, .b), (25, .a), (26, .a), (27, .a), (28, .a), (29, .a), (30, .b), (31, .a), (32, .a), (33, .a), (34, .a), (35, .b), (36, .a), (37, .a), (38, .a), (39, .a), (40, .b), (41, .a), (42, .a), (43, .b), (44, .a), (45, .a), (46, .a), (47, .a)] (by kernel_rfl) (by rfl) (by kernel_rfl) ?_
    refine go_ ?_
    refine POrd_call_a (hS.out) ?_
    refine go_ ?_
    by_cases h1 : q < i
    rotate_left
    · have h1b : i ≤ q := by omega
      have hf : Hid (R = false) := by show _ = _; rw [show R = _ from HR.out]; simp [h1]
      clear HR h1
      refine go_ ?_
      refine retP_ok (by simp) (by simp only [Tryz.results97]; rfl) (by simp [resP, St.box?, PF.get, loadB, TyK.agg, *]; rfl) (List.nil_sublist _) ?_
      exact ⟨by rw [hf.out]; rfl, rfl⟩
    have h1b : ¬ i ≤ q := by omega
    have h1c : decide ((q : Int) < i) = true := decide_eq_true (by omega)
    clear h1
    refine go_ ?_
    by_cases h2 : x.pars = d.pars
    rotate_left
    · have h2b : (x.pars != d.pars) = true := bne_iff_ne.2 h2
      have hf : Hid (R = false) := by show _ = _; rw [show R = _ from HR.out]; simp [h2]
      clear HR h2
      refine go_ ?_
      refine retP_ok (by simp) (by simp only [Tryz.results97]; rfl) (by simp [resP, St.box?, PF.get, loadB, TyK.agg, *]; rfl) (List.nil_sublist _) ?_
      exact ⟨by rw [hf.out]; rfl, rfl⟩
    have h2b : (x.pars != d.pars) = false := by rw [h2]; simp
    have h2c : (x.pars == d.pars) = true := beq_iff_eq.2 h2
    clear h2
    refine go_ ?_
    refine POrd_call_b (hN.out) ?_
    refine go_ ?_
    cases h3 : noneT x.body with
    | false =>
      have hf : Hid (R = false) := by show _ = _; rw [show R = _ from HR.out, h3]; simp
      clear HR
      refine go_ ?_
      refine retP_ok (by simp) (by simp only [Tryz.results97]; rfl) (by simp [resP, St.box?, PF.get, loadB, TyK.agg, *]; rfl) (List.nil_sublist _) ?_
      exact ⟨by rw [hf.out]; rfl, rfl⟩
    | true =>
    refine go_ ?_
    by_cases h4 : x.inds = 0
    rotate_left
    · have h4b : (x.inds != 0) = true := bne_iff_ne.2 h4
      have hf : Hid (R = false) := by show _ = _; rw [show R = _ from HR.out]; simp [h4]
      clear HR h4
      refine go_ ?_
      refine retP_ok (by simp) (by simp only [Tryz.results97]; rfl) (by simp [resP, St.box?, PF.get, loadB, TyK.agg, *]; rfl) (List.nil_sublist _) ?_
      exact ⟨by rw [hf.out]; rfl, rfl⟩
    have h4b : (x.inds != 0) = false := by rw [h4]; rfl
    have h4c : (x.inds == 0) = true := beq_iff_eq.2 h4
    clear h4
    refine go_ ?_
    by_cases h5 : x.level = 0
    rotate_left
    · have h5b : (x.level != 0) = true := bne_iff_ne.2 h5
      have hf : Hid (R = false) := by show _ = _; rw [show R = _ from HR.out]; simp [h5]
      clear HR h5
      refine go_ ?_
      refine retP_ok (by simp) (by simp only [Tryz.results97]; rfl) (by simp [resP, St.box?, PF.get, loadB, TyK.agg, *]; rfl) (List.nil_sublist _) ?_
      exact ⟨by rw [hf.out]; rfl, rfl⟩
    have h5b : (x.level != 0) = false := by rw [h5]; rfl
    have h5c : (x.level == 0) = true := beq_iff_eq.2 h5
    clear h5
    refine go_ ?_
    by_cases h6 : (x.cons.length : Int) + x.fields.length = 0
    rotate_left
    · have h6b : (0 : Int) < (x.cons.length : Int) + x.fields.length := by omega
      have hf : Hid (R = false) := by
        show _ = _
        rw [show R = _ from HR.out]
        by_cases e : x.cons.length = 0
        · have e2 : ((x.fields.length : Int) == 0) = false := beq_eq_false_iff_ne.2 (by omega)
          rw [e2]; simp
        · have e2 : ((x.cons.length : Int) == 0) = false := beq_eq_false_iff_ne.2 (by omega)
          rw [e2]; simp
      clear HR h6
      refine go_ ?_
      refine retP_ok (by simp) (by simp only [Tryz.results97]; rfl) (by simp [resP, St.box?, PF.get, loadB, TyK.agg, *]; rfl) (List.nil_sublist _) ?_
      exact ⟨by rw [hf.out]; rfl, rfl⟩
    have h6b : ¬ (0 : Int) < (x.cons.length : Int) + x.fields.length := by omega
    have hc0 : ((x.cons.length : Int) == 0) = true := beq_iff_eq.2 (by omega)
    have hf0 : ((x.fields.length : Int) == 0) = true := beq_iff_eq.2 (by omega)
    have HR2 : Hid (R = placeB (if x.kind = 4 then d.fields else d.cons) x.place i) := by
      show _ = _
      rw [show R = _ from HR.out, h1c, h2c, h3, h4c, h5c, hc0, hf0]; rfl
    clear HR h6 hc0 hf0
    by_cases hk : x.kind = 4
    · have hkb : (x.kind == 4) = true := beq_iff_eq.2 hk
      have HP : Hid (R = placeB d.fields x.place i) := by show _ = _; rw [show R = _ from HR2.out, if_pos hk]
      clear HR2 hk
      refine go_ ?_
      by_cases p0 : 0 ≤ x.place
      rotate_left
      · have hf : Hid (R = false) := by show _ = _; rw [show R = _ from HP.out]; unfold placeB; simp [p0]
        clear HP
        refine go_ ?_
        refine retP_ok (by simp) (by simp only [Tryz.results97]; rfl) (by simp [resP, St.box?, PF.get, loadB, TyK.agg, *]; rfl) (List.nil_sublist _) ?_
        exact ⟨by rw [hf.out]; rfl, rfl⟩
      by_cases p1 : x.place < (d.fields).length
      rotate_left
      · have hf : Hid (R = false) := by
          show _ = _
          rw [show R = _ from HP.out]
          unfold placeB
          rw [List.getElem?_eq_none (by omega)]; simp
        clear HP
        refine go_ ?_
        refine retP_ok (by simp) (by simp only [Tryz.results97]; rfl) (by simp [resP, St.box?, PF.get, loadB, TyK.agg, *]; rfl) (List.nil_sublist _) ?_
        exact ⟨by rw [hf.out]; rfl, rfl⟩
      obtain ⟨m, hm⟩ : ∃ m : Nat, x.place = m := ⟨x.place.toNat, by omega⟩
      have hml : m < (d.fields).length := by omega
      have hmx : (d.fields)[m]? = some (d.fields)[m] := List.getElem?_eq_getElem hml
      have hm0 : (0 : Int) ≤ m := by omega
      have hm1 : (m : Int) < (d.fields).length := by omega
      have hf : Hid (R = ((d.fields)[m] == (i : Int))) := by
        show _ = _
        rw [show R = _ from HP.out]
        unfold placeB
        rw [hm, Int.toNat_natCast, hmx]; simp
      clear HP p0 p1
      generalize (d.fields)[m] = z at *
      clear hml
      refine go_ ?_
      refine retP_ok (by simp) (by simp only [Tryz.results97]; rfl) (by simp [resP, St.box?, PF.get, loadB, TyK.agg, *]; rfl) (List.nil_sublist _) ?_
      exact ⟨by rw [hf.out]; rfl, rfl⟩
    · have hkb : (x.kind == 4) = false := beq_eq_false_iff_ne.2 hk
      have HP : Hid (R = placeB d.cons x.place i) := by show _ = _; rw [show R = _ from HR2.out, if_neg hk]
      clear HR2 hk
      refine go_ ?_
      by_cases p0 : 0 ≤ x.place
      rotate_left
      · have hf : Hid (R = false) := by show _ = _; rw [show R = _ from HP.out]; unfold placeB; simp [p0]
        clear HP
        refine go_ ?_
        refine retP_ok (by simp) (by simp only [Tryz.results97]; rfl) (by simp [resP, St.box?, PF.get, loadB, TyK.agg, *]; rfl) (List.nil_sublist _) ?_
        exact ⟨by rw [hf.out]; rfl, rfl⟩
      by_cases p1 : x.place < (d.cons).length
      rotate_left
      · have hf : Hid (R = false) := by
          show _ = _
          rw [show R = _ from HP.out]
          unfold placeB
          rw [List.getElem?_eq_none (by omega)]; simp
        clear HP
        refine go_ ?_
        refine retP_ok (by simp) (by simp only [Tryz.results97]; rfl) (by simp [resP, St.box?, PF.get, loadB, TyK.agg, *]; rfl) (List.nil_sublist _) ?_
        exact ⟨by rw [hf.out]; rfl, rfl⟩
      obtain ⟨m, hm⟩ : ∃ m : Nat, x.place = m := ⟨x.place.toNat, by omega⟩
      have hml : m < (d.cons).length := by omega
      have hmx : (d.cons)[m]? = some (d.cons)[m] := List.getElem?_eq_getElem hml
      have hm0 : (0 : Int) ≤ m := by omega
      have hm1 : (m : Int) < (d.cons).length := by omega
      have hf : Hid (R = ((d.cons)[m] == (i : Int))) := by
        show _ = _
        rw [show R = _ from HP.out]
        unfold placeB
        rw [hm, Int.toNat_natCast, hmx]; simp
      clear HP p0 p1
      generalize (d.cons)[m] = z at *
      clear hml
      refine go_ ?_
      refine retP_ok (by simp) (by simp only [Tryz.results97]; rfl) (by simp [resP, St.box?, PF.get, loadB, TyK.agg, *]; rfl) (List.nil_sublist _) ?_
      exact ⟨by rw [hf.out]; rfl, rfl⟩
end Go.Proofs.YtfnfbbmegdkhjaaGreat

namespace Go.Proofs.YtfnfbbmegdkhjaaGreat
open Go.RowKit
set_option maxRecDepth 100000
def loopW : List Int → Int → Int → Nat → Bool
  | [], _, _, _ => false
  | n :: r, p, i, k => ((n == i) && (p == k)) || loopW r p i (k + 1)
theorem loopW_lt : ∀ (r : List Int) (p i : Int) (k : Nat), p < k → loopW r p i k = false := by
  intro r
  induction r with
  | nil => intros; rfl
  | cons n r ih =>
    intro p i k h
    simp only [loopW]
    rw [ih _ _ _ (by omega), beq_eq_false_iff_ne.2 (show p ≠ (k : Int) by omega)]
    simp
theorem loopW_eq : ∀ (r : List Int) (k m : Nat) (i : Int), loopW r ((k + m : Nat) : Int) i k = (match r[m]? with | some n => n == i | none => false) := by
  intro r
  induction r with
  | nil => intros; rfl
  | cons n r ih =>
    intro k m i
    cases m with
    | zero =>
      simp only [loopW, Nat.add_zero]
      rw [loopW_lt _ _ _ _ (by omega)]
      simp
    | succ m =>
      simp only [loopW]
      have := ih (k + 1) m i
      rw [show k + 1 + m = k + (m + 1) by omega] at this
      rw [this, beq_eq_false_iff_ne.2 (show ((k + (m + 1) : Nat) : Int) ≠ (k : Int) by omega)]
      simp
theorem loopW_place (r : List Int) (p i : Int) : loopW r p i 0 = placeB r p i := by
  unfold placeB
  by_cases h : 0 ≤ p
  · obtain ⟨m, hm⟩ : ∃ m : Nat, p = m := ⟨p.toNat, by omega⟩
    have := loopW_eq r 0 m i
    rw [Nat.zero_add] at this
    rw [hm, this, Int.toNat_natCast]
    cases r[m]? <;> simp
  · rw [loopW_lt _ _ _ _ (by omega)]; simp [h]
set_option maxHeartbeats 8000000 in
theorem rowned_p (l : List En) (i : Nat) (hi : i < l.length) : PCalls Tryz.prog 50 [.d (.sl (l.map encD)), .d (.v (.int .i64 i))] [] fun p s => p = .d (.v (.bool (ownedB l l[i] i))) ∧ s = [] := by
  obtain ⟨R, hR⟩ : ∃ R, R = ownedB l l[i] i := ⟨_, rfl⟩
  rw [← hR]
  have hn : (0 : Int) ≤ i := by omega
  have hx3 : l[i]? = some l[i] := List.getElem?_eq_getElem hi
  unfold ownedB at hR
  generalize l[i] = x at *
  have hS := Lib.hid (ris_p l x.of_ 1)
  have hN := Lib.hid (rzero_p x.body)
  simp only [aggD, encD_tm, List.map_cons, List.map_nil] at hN
  have HR := Lib.hid hR
  clear hR hi
  cases hb : isE l x.of_ 1 with
  | false =>
    have hf : Hid (R = false) := by show _ = _; rw [show R = _ from HR.out, hb]; rfl
    rw [hb] at hS
    clear HR hb hN
    refine PCalls.enter Tryz.func50 rfl Tryz.ntmps50 (by simp) ?_
    simp only [argsF]
    refine go_ ?_
    refine POps_alloc_a ?_
    intro i0 hi0
    refine go_ ?_
    refine Rd ?_
    refine go_ ?_
    refine PW_drawn [(0, .a), (1, .a), (2, .b), (3, .a), (4, .a), (5, .a), (6, .a), (7, .b), (8, .a), (9, .a), (10, .a), (11, .a), (12, .a), (13, .b), (14, .a), (15, .a), (16, .a), (17, .a), (18, .a), (19, .b), (20, .a), (21, .a), (22, .a), (23, .a), (24, .b), (25, .a), (26, .a), (27, .a), (28, .a), (29, .b), (30, .a), (31, .a), (32, .a), (33, .a), (34, .a), (35, .b), (36, .a), (37, .a), (38, .a), (39, .a), (40, .a), (41, .b), (42, .a), (43, .a), (44, .b), (45, .a), (46, .a), (47, .a), (48, .a), (49, .a)] (by kernel_rfl) (by rfl) (by kernel_rfl) ?_
    refine go_ ?_
    refine POrd_call_a (hS.out) ?_
    refine go_ ?_
    refine go_ ?_
    refine retP_ok (by simp) (by simp only [Tryz.results50]; rfl) (by simp [resP, St.box?, PF.get, loadB, TyK.agg, *]; rfl) (List.nil_sublist _) ?_
    exact ⟨by rw [hf.out]; rfl, rfl⟩
  | true =>
    obtain ⟨q, hq, hql, hqk⟩ := isE_get hb
    have hd : l[q]? = some l[q] := List.getElem?_eq_getElem hql
    have hq0 : (0 : Int) ≤ q := by omega
    rw [hb, hq] at hS
    unfold parsOf ownsL at HR
    rw [hb, hq, Int.toNat_natCast, hd] at HR
    simp only [Bool.true_and] at HR
    generalize l[q] = d at *
    clear hb hqk hql
    refine PCalls.enter Tryz.func50 rfl Tryz.ntmps50 (by simp) ?_
    simp only [argsF]
    refine go_ ?_
    refine POps_alloc_a ?_
    intro i0 hi0
    refine go_ ?_
    refine Rd ?_
    refine go_ ?_
    refine PW_drawn [(0, .a), (1, .a), (2, .b), (3, .a), (4, .a), (5, .a), (6, .a), (7, .b), (8, .a), (9, .a), (10, .a), (11, .a), (12, .a), (13, .b), (14, .a), (15, .a), (16, .a), (17, .a), (18, .a), (19, .b), (20, .a), (21, .a), (22, .a), (23, .a), (24, .b), (25, .a), (26, .a), (27, .a), (28, .a), (29, .b), (30, .a), (31, .a), (32, .a), (33, .a), (34, .a), (35, .b), (36, .a), (37, .a), (38, .a), (39, .a), (40, .a), (41, .b), (42, .a), (43, .a), (44, .b), (45, .a), (46, .a), (47, .a), (48, .a), (49, .a)] (by kernel_rfl) (by rfl) (by kernel_rfl) ?_
    refine go_ ?_
    refine POrd_call_a (hS.out) ?_
    refine go_ ?_
    by_cases h1 : q < i
    rotate_left
    · have h1b : i ≤ q := by omega
      have hf : Hid (R = false) := by show _ = _; rw [show R = _ from HR.out]; simp [h1]
      clear HR h1
      refine go_ ?_
      refine retP_ok (by simp) (by simp only [Tryz.results50]; rfl) (by simp [resP, St.box?, PF.get, loadB, TyK.agg, *]; rfl) (List.nil_sublist _) ?_
      exact ⟨by rw [hf.out]; rfl, rfl⟩
    have h1b : ¬ i ≤ q := by omega
    have h1c : decide ((q : Int) < i) = true := decide_eq_true (by omega)
    clear h1
    refine go_ ?_
    refine POrd_call_b (hN.out) ?_
    refine go_ ?_
    cases h3 : noneT x.body with
    | false =>
      have hf : Hid (R = false) := by show _ = _; rw [show R = _ from HR.out, h3]; simp
      clear HR
      refine go_ ?_
      refine retP_ok (by simp) (by simp only [Tryz.results50]; rfl) (by simp [resP, St.box?, PF.get, loadB, TyK.agg, *]; rfl) (List.nil_sublist _) ?_
      exact ⟨by rw [hf.out]; rfl, rfl⟩
    | true =>
    refine go_ ?_
    by_cases h4 : x.inds = 0
    rotate_left
    · have h4b : (x.inds != 0) = true := bne_iff_ne.2 h4
      have hf : Hid (R = false) := by show _ = _; rw [show R = _ from HR.out]; simp [h4]
      clear HR h4
      refine go_ ?_
      refine retP_ok (by simp) (by simp only [Tryz.results50]; rfl) (by simp [resP, St.box?, PF.get, loadB, TyK.agg, *]; rfl) (List.nil_sublist _) ?_
      exact ⟨by rw [hf.out]; rfl, rfl⟩
    have h4b : (x.inds != 0) = false := by rw [h4]; rfl
    have h4c : (x.inds == 0) = true := beq_iff_eq.2 h4
    clear h4
    refine go_ ?_
    by_cases h5 : x.level = 0
    rotate_left
    · have h5b : (x.level != 0) = true := bne_iff_ne.2 h5
      have hf : Hid (R = false) := by show _ = _; rw [show R = _ from HR.out]; simp [h5]
      clear HR h5
      refine go_ ?_
      refine retP_ok (by simp) (by simp only [Tryz.results50]; rfl) (by simp [resP, St.box?, PF.get, loadB, TyK.agg, *]; rfl) (List.nil_sublist _) ?_
      exact ⟨by rw [hf.out]; rfl, rfl⟩
    have h5b : (x.level != 0) = false := by rw [h5]; rfl
    have h5c : (x.level == 0) = true := beq_iff_eq.2 h5
    clear h5
    refine go_ ?_
    by_cases h6 : (x.cons.length : Int) = 0
    rotate_left
    · have h6b : ((x.cons.length : Int) != 0) = true := bne_iff_ne.2 h6
      have h6d : ((x.cons.length : Int) == 0) = false := beq_eq_false_iff_ne.2 h6
      have hf : Hid (R = false) := by show _ = _; rw [show R = _ from HR.out, h6d]; simp
      clear HR h6 h6d
      refine go_ ?_
      refine retP_ok (by simp) (by simp only [Tryz.results50]; rfl) (by simp [resP, St.box?, PF.get, loadB, TyK.agg, *]; rfl) (List.nil_sublist _) ?_
      exact ⟨by rw [hf.out]; rfl, rfl⟩
    have h6b : ((x.cons.length : Int) != 0) = false := by rw [h6]; rfl
    have h6c : ((x.cons.length : Int) == 0) = true := beq_iff_eq.2 h6
    clear h6
    refine go_ ?_
    by_cases h7 : (x.fields.length : Int) = 0
    rotate_left
    · have h7b : ((x.fields.length : Int) != 0) = true := bne_iff_ne.2 h7
      have h7d : ((x.fields.length : Int) == 0) = false := beq_eq_false_iff_ne.2 h7
      have hf : Hid (R = false) := by show _ = _; rw [show R = _ from HR.out, h7d]; simp
      clear HR h7 h7d
      refine go_ ?_
      refine retP_ok (by simp) (by simp only [Tryz.results50]; rfl) (by simp [resP, St.box?, PF.get, loadB, TyK.agg, *]; rfl) (List.nil_sublist _) ?_
      exact ⟨by rw [hf.out]; rfl, rfl⟩
    have h7b : ((x.fields.length : Int) != 0) = false := by rw [h7]; rfl
    have h7c : ((x.fields.length : Int) == 0) = true := beq_iff_eq.2 h7
    clear h7
    refine go_ ?_
    by_cases h2 : x.pars = d.pars
    rotate_left
    · have h2b : (x.pars != d.pars) = true := bne_iff_ne.2 h2
      have hf : Hid (R = false) := by show _ = _; rw [show R = _ from HR.out]; simp [h2]
      clear HR h2
      refine go_ ?_
      refine retP_ok (by simp) (by simp only [Tryz.results50]; rfl) (by simp [resP, St.box?, PF.get, loadB, TyK.agg, *]; rfl) (List.nil_sublist _) ?_
      exact ⟨by rw [hf.out]; rfl, rfl⟩
    have h2b : (x.pars != d.pars) = false := by rw [h2]; simp
    have h2c : (x.pars == d.pars) = true := beq_iff_eq.2 h2
    clear h2
    have HR2 : Hid (R = placeB (if x.kind = 4 then d.fields else d.cons) x.place i) := by
      show _ = _
      rw [show R = _ from HR.out, h1c, h2c, h3, h4c, h5c, h6c, h7c]; rfl
    clear HR h1c h2c h4c h5c h6c h7c
    refine go_ ?_
    by_cases hk : x.kind = 4
    · have hkb : (x.kind == 4) = true := beq_iff_eq.2 hk
      have HL : Hid (R = loopW (d.fields.drop 0) x.place i 0) := by show _ = _; rw [show R = _ from HR2.out, if_pos hk, List.drop_zero, loopW_place]
      clear HR2 hk
      refine go_ ?_
      refine PW_slen (t := 5 + 1) (rows := (d.fields).map encD) (by simp [PF.get] <;> rfl) rfl fun hml => ?_
      rw [List.length_map] at hml
      unfold maxLen at hml
      refine PW_loop (ι := Nat) (fun y => y ≤ (d.fields).length ∧ Hid (R = loopW ((d.fields).drop y) x.place i y)) (fun y => [(1, .d (.v (.int .i64 (i : Int)))), (5, .ptr i0 0), (6, .d (.sl ((d.fields).map encD))), (7, .d (.v (.int .i64 (y : Int))))]) (fun _ => [.box i0 30 [.d (.v (.int .i64 x.kind)), .d (.v (.string x.name)), .d (.v (.int .i64 x.ty.kind)), .d (.v (.int .i64 x.ty.num)), .d (.sl (x.ty.sub.map encD)), .d (.v (.int .i64 x.body.kind)), .d (.v (.int .i64 x.body.num)), .d (.sl (x.body.sub.map encD)), .d (.v (.int .i64 q)), .d (.v (.int .i64 x.place)), .d (.v (.int .i64 x.pars)), .d (.v (.int .i64 x.inds)), .d (.v (.int .i64 x.level)), .d (.sl (x.cons.map encD)), .d (.sl (x.fields.map encD))]]) (fun y => (d.fields).length - y) 0 ⟨Nat.zero_le _, HL.out⟩ ?_ ?_ ?_
      · repeat (first | exact sub_nil _ | refine sub_cons (by simp [PF.get]; rfl) (by first | rfl | (simp [*]; done) | fail) ?_)
      · repeat (first | exact List.Sublist.refl _ | exact List.nil_sublist _ | refine List.Sublist.cons_cons _ ?_ | refine List.Sublist.cons _ ?_)
      · rintro j ⟨hj, hR⟩
        clear HL
        by_cases hlt : j < (d.fields).length
        · have hz : (d.fields)[j]? = some (d.fields)[j] := List.getElem?_eq_getElem hlt
          have hc : (j : Int) < (d.fields).length := by omega
          have hn2 : (0 : Int) ≤ j := by omega
          have hin := wr64 (n := (j : Int) + 1) (by omega) (by omega)
          have hR2 : Hid (R = ((((d.fields)[j] == (i : Int)) && (x.place == (j : Int))) || loopW ((d.fields).drop (j + 1)) x.place i (j + 1))) := by
            rw [show R = _ from hR.out, List.drop_eq_getElem_cons hlt]; rfl
          clear hR
          generalize (d.fields)[j] = z at *
          have hlt2 := Lib.hid hlt
          clear hlt
          refine go_ ?_
          cases ha : (z == (i : Int)) with
          | false =>
            have hR3 : Hid (R = loopW ((d.fields).drop (j + 1)) x.place i (j + 1)) := by show _ = _; rw [show R = _ from hR2.out, ha]; simp
            clear hR2
            refine go_ ?_
            have hm := hlt2.out
            exact ⟨j + 1, ⟨hlt2.out, hR3.out⟩, by omega, by repeat (first | exact sub_nil _ | refine sub_cons (by simp [PF.get]; rfl) (by first | rfl | (simp [*]; done) | fail) ?_), by repeat (first | exact List.Sublist.refl _ | exact List.nil_sublist _ | refine List.Sublist.cons_cons _ ?_ | refine List.Sublist.cons _ ?_)⟩
          | true =>
            refine go_ ?_
            cases hp : (x.place == (j : Int)) with
            | false =>
              have hR3 : Hid (R = loopW ((d.fields).drop (j + 1)) x.place i (j + 1)) := by show _ = _; rw [show R = _ from hR2.out, hp]; simp
              clear hR2
              refine go_ ?_
              have hm := hlt2.out
              exact ⟨j + 1, ⟨hlt2.out, hR3.out⟩, by omega, by repeat (first | exact sub_nil _ | refine sub_cons (by simp [PF.get]; rfl) (by first | rfl | (simp [*]; done) | fail) ?_), by repeat (first | exact List.Sublist.refl _ | exact List.nil_sublist _ | refine List.Sublist.cons_cons _ ?_ | refine List.Sublist.cons _ ?_)⟩
            | true =>
              have hf : Hid (R = true) := by show _ = _; rw [show R = _ from hR2.out, ha, hp]; rfl
              clear hR2
              refine go_ ?_
              refine retP_ok (by simp) (by simp only [Tryz.results50]; rfl) (by simp [resP, St.box?, PF.get, loadB, TyK.agg, *]; rfl) (List.nil_sublist _) ?_
              exact ⟨by rw [hf.out]; rfl, rfl⟩
        · have hc : ¬ (j : Int) < (d.fields).length := by omega
          have hf : Hid (R = false) := by show _ = _; rw [show R = _ from hR.out, List.drop_of_length_le (by omega)]; rfl
          clear hR
          refine go_ ?_
          refine retP_ok (by simp) (by simp only [Tryz.results50]; rfl) (by simp [resP, St.box?, PF.get, loadB, TyK.agg, *]; rfl) (List.nil_sublist _) ?_
          exact ⟨by rw [hf.out]; rfl, rfl⟩
    · have hkb : (x.kind == 4) = false := beq_eq_false_iff_ne.2 hk
      have HL : Hid (R = loopW (d.cons.drop 0) x.place i 0) := by show _ = _; rw [show R = _ from HR2.out, if_neg hk, List.drop_zero, loopW_place]
      clear HR2 hk
      refine go_ ?_
      refine PW_slen (t := 5 + 1) (rows := (d.cons).map encD) (by simp [PF.get] <;> rfl) rfl fun hml => ?_
      rw [List.length_map] at hml
      unfold maxLen at hml
      refine PW_loop (ι := Nat) (fun y => y ≤ (d.cons).length ∧ Hid (R = loopW ((d.cons).drop y) x.place i y)) (fun y => [(1, .d (.v (.int .i64 (i : Int)))), (5, .ptr i0 0), (6, .d (.sl ((d.cons).map encD))), (7, .d (.v (.int .i64 (y : Int))))]) (fun _ => [.box i0 30 [.d (.v (.int .i64 x.kind)), .d (.v (.string x.name)), .d (.v (.int .i64 x.ty.kind)), .d (.v (.int .i64 x.ty.num)), .d (.sl (x.ty.sub.map encD)), .d (.v (.int .i64 x.body.kind)), .d (.v (.int .i64 x.body.num)), .d (.sl (x.body.sub.map encD)), .d (.v (.int .i64 q)), .d (.v (.int .i64 x.place)), .d (.v (.int .i64 x.pars)), .d (.v (.int .i64 x.inds)), .d (.v (.int .i64 x.level)), .d (.sl (x.cons.map encD)), .d (.sl (x.fields.map encD))]]) (fun y => (d.cons).length - y) 0 ⟨Nat.zero_le _, HL.out⟩ ?_ ?_ ?_
      · repeat (first | exact sub_nil _ | refine sub_cons (by simp [PF.get]; rfl) (by first | rfl | (simp [*]; done) | fail) ?_)
      · repeat (first | exact List.Sublist.refl _ | exact List.nil_sublist _ | refine List.Sublist.cons_cons _ ?_ | refine List.Sublist.cons _ ?_)
      · rintro j ⟨hj, hR⟩
        clear HL
        by_cases hlt : j < (d.cons).length
        · have hz : (d.cons)[j]? = some (d.cons)[j] := List.getElem?_eq_getElem hlt
          have hc : (j : Int) < (d.cons).length := by omega
          have hn2 : (0 : Int) ≤ j := by omega
          have hin := wr64 (n := (j : Int) + 1) (by omega) (by omega)
          have hR2 : Hid (R = ((((d.cons)[j] == (i : Int)) && (x.place == (j : Int))) || loopW ((d.cons).drop (j + 1)) x.place i (j + 1))) := by
            rw [show R = _ from hR.out, List.drop_eq_getElem_cons hlt]; rfl
          clear hR
          generalize (d.cons)[j] = z at *
          have hlt2 := Lib.hid hlt
          clear hlt
          refine go_ ?_
          cases ha : (z == (i : Int)) with
          | false =>
            have hR3 : Hid (R = loopW ((d.cons).drop (j + 1)) x.place i (j + 1)) := by show _ = _; rw [show R = _ from hR2.out, ha]; simp
            clear hR2
            refine go_ ?_
            have hm := hlt2.out
            exact ⟨j + 1, ⟨hlt2.out, hR3.out⟩, by omega, by repeat (first | exact sub_nil _ | refine sub_cons (by simp [PF.get]; rfl) (by first | rfl | (simp [*]; done) | fail) ?_), by repeat (first | exact List.Sublist.refl _ | exact List.nil_sublist _ | refine List.Sublist.cons_cons _ ?_ | refine List.Sublist.cons _ ?_)⟩
          | true =>
            refine go_ ?_
            cases hp : (x.place == (j : Int)) with
            | false =>
              have hR3 : Hid (R = loopW ((d.cons).drop (j + 1)) x.place i (j + 1)) := by show _ = _; rw [show R = _ from hR2.out, hp]; simp
              clear hR2
              refine go_ ?_
              have hm := hlt2.out
              exact ⟨j + 1, ⟨hlt2.out, hR3.out⟩, by omega, by repeat (first | exact sub_nil _ | refine sub_cons (by simp [PF.get]; rfl) (by first | rfl | (simp [*]; done) | fail) ?_), by repeat (first | exact List.Sublist.refl _ | exact List.nil_sublist _ | refine List.Sublist.cons_cons _ ?_ | refine List.Sublist.cons _ ?_)⟩
            | true =>
              have hf : Hid (R = true) := by show _ = _; rw [show R = _ from hR2.out, ha, hp]; rfl
              clear hR2
              refine go_ ?_
              refine retP_ok (by simp) (by simp only [Tryz.results50]; rfl) (by simp [resP, St.box?, PF.get, loadB, TyK.agg, *]; rfl) (List.nil_sublist _) ?_
              exact ⟨by rw [hf.out]; rfl, rfl⟩
        · have hc : ¬ (j : Int) < (d.cons).length := by omega
          have hf : Hid (R = false) := by show _ = _; rw [show R = _ from hR.out, List.drop_of_length_le (by omega)]; rfl
          clear hR
          refine go_ ?_
          refine retP_ok (by simp) (by simp only [Tryz.results50]; rfl) (by simp [resP, St.box?, PF.get, loadB, TyK.agg, *]; rfl) (List.nil_sublist _) ?_
          exact ⟨by rw [hf.out]; rfl, rfl⟩
end Go.Proofs.YtfnfbbmegdkhjaaGreat

namespace Go.Proofs.YtfnfbbmegdkhjaaGreat
open Go.RowKit
set_option maxRecDepth 100000
/-- is an entry a right definition? -/
def defB (x : En) (i : Int) : Bool := closedT x.body i && ((x.of_ == 0) && ((x.place == 0) && ((x.pars == 0) && ((x.inds == 0) && ((x.level == 0) && ((x.cons.length : Int) + x.fields.length == 0))))))
set_option maxHeartbeats 8000000 in
theorem sdef_p (l : List En) (i : Nat) (hi : i < l.length) (ho : EnOk l[i]) : PCalls Tryz.prog 58 [.d (.sl (l.map encD)), .d (.v (.int .i64 i))] [] fun p s => p = .d (.v (.bool (defB l[i] i))) ∧ s = [] := by
  have hn : (0 : Int) ≤ i := by omega
  have hx3 : l[i]? = some l[i] := List.getElem?_eq_getElem hi
  generalize l[i] = x at *
  have hws := wr64 (n := (x.cons.length : Int) + x.fields.length) (by have := ho.1; have := ho.2; omega) (by have := ho.1; have := ho.2; omega)
  have hS := Lib.hid (sclosed_p x.body i)
  simp only [aggD, encD_tm, List.map_cons, List.map_nil] at hS
  have HR := Lib.hid (show defB x i = (closedT x.body i && ((x.of_ == 0) && ((x.place == 0) && ((x.pars == 0) && ((x.inds == 0) && ((x.level == 0) && ((x.cons.length : Int) + x.fields.length == 0))))))) from rfl)
  generalize defB x i = R at *
  generalize closedT x.body i = C at *
  clear hi ho
  refine PCalls.enter Tryz.func58 rfl Tryz.ntmps58 (by simp) ?_
  simp only [argsF]
  refine go_ ?_
  refine POps_alloc_a ?_
  intro i0 hi0
  refine go_ ?_
  refine Rd ?_
  refine go_ ?_
  refine POps_call_a (hS.out) ?_
  refine go_ ?_
  clear hS
  rcases Bool.eq_false_or_eq_true (C) with h0 | h0
  rotate_left
  · refine go_ ?_
    refine retP_ok (by simp) (by simp only [Tryz.results58]; rfl) (by simp [resP, St.box?, PF.get, loadB, TyK.agg, *]; rfl) (List.nil_sublist _) ?_
    exact ⟨by rw [HR.out]; simp [tupP, PV.norm2, PV.norm1, PV.norm0, *], rfl⟩
  refine go_ ?_
  rcases Bool.eq_false_or_eq_true (x.of_ == 0) with h1 | h1
  rotate_left
  · refine go_ ?_
    refine retP_ok (by simp) (by simp only [Tryz.results58]; rfl) (by simp [resP, St.box?, PF.get, loadB, TyK.agg, *]; rfl) (List.nil_sublist _) ?_
    exact ⟨by rw [HR.out]; simp [tupP, PV.norm2, PV.norm1, PV.norm0, *], rfl⟩
  refine go_ ?_
  rcases Bool.eq_false_or_eq_true (x.place == 0) with h2 | h2
  rotate_left
  · refine go_ ?_
    refine retP_ok (by simp) (by simp only [Tryz.results58]; rfl) (by simp [resP, St.box?, PF.get, loadB, TyK.agg, *]; rfl) (List.nil_sublist _) ?_
    exact ⟨by rw [HR.out]; simp [tupP, PV.norm2, PV.norm1, PV.norm0, *], rfl⟩
  refine go_ ?_
  rcases Bool.eq_false_or_eq_true (x.pars == 0) with h3 | h3
  rotate_left
  · refine go_ ?_
    refine retP_ok (by simp) (by simp only [Tryz.results58]; rfl) (by simp [resP, St.box?, PF.get, loadB, TyK.agg, *]; rfl) (List.nil_sublist _) ?_
    exact ⟨by rw [HR.out]; simp [tupP, PV.norm2, PV.norm1, PV.norm0, *], rfl⟩
  refine go_ ?_
  rcases Bool.eq_false_or_eq_true (x.inds == 0) with h4 | h4
  rotate_left
  · refine go_ ?_
    refine retP_ok (by simp) (by simp only [Tryz.results58]; rfl) (by simp [resP, St.box?, PF.get, loadB, TyK.agg, *]; rfl) (List.nil_sublist _) ?_
    exact ⟨by rw [HR.out]; simp [tupP, PV.norm2, PV.norm1, PV.norm0, *], rfl⟩
  refine go_ ?_
  rcases Bool.eq_false_or_eq_true (x.level == 0) with h5 | h5
  rotate_left
  · refine go_ ?_
    refine retP_ok (by simp) (by simp only [Tryz.results58]; rfl) (by simp [resP, St.box?, PF.get, loadB, TyK.agg, *]; rfl) (List.nil_sublist _) ?_
    exact ⟨by rw [HR.out]; simp [tupP, PV.norm2, PV.norm1, PV.norm0, *], rfl⟩
  refine go_ ?_
  refine go_ ?_
  refine retP_ok (by simp) (by simp only [Tryz.results58]; rfl) (by simp [resP, St.box?, PF.get, loadB, TyK.agg, *]; rfl) (List.nil_sublist _) ?_
  exact ⟨by rw [HR.out]; simp [tupP, PV.norm2, PV.norm1, PV.norm0, *], rfl⟩
end Go.Proofs.YtfnfbbmegdkhjaaGreat

namespace Go.Proofs.YtfnfbbmegdkhjaaGreat
open Go.RowKit
set_option maxRecDepth 100000
theorem shaped_of {t : Tm} (hg : goodB t = true) (h1 : chgT t ≤ 128) (h2 : cndT t ≤ 8192) : shapedB t = true := by
  unfold shapedB cdepthT csizeT
  rw [csz_nd t 0 (by omega) (by omega), if_neg (by omega), cdp_hg t 1 (by omega) (by omega), hg]
  simp only [Bool.and_true, decide_eq_true_eq]
  omega
theorem shaped_pi {m : Int} {a b : Tm} (h : shapedB (.mk 3 m [a, b]) = true) : shapedB a = true ∧ shapedB b = true := by
  obtain ⟨hg, h1, h2⟩ := shaped_hg h
  have hp := (good_parts hg).2
  simp only [chgT, chgL, cndT, cndL] at h1 h2
  exact ⟨shaped_of (hp _ (by simp)) (by omega) (by omega), shaped_of (hp _ (by simp)) (by omega) (by omega)⟩
theorem cutPi_shaped : ∀ (n : Nat) (t : Tm) (l : List Tm) (x : Tm), shapedB t = true → cutPi n t = some (l, x) → l.length = n ∧ shapedB x = true ∧ ∀ s ∈ l, shapedB s = true := by
  intro n
  induction n with
  | zero =>
    intro t l x h hc
    simp only [cutPi, Option.some.injEq, Prod.mk.injEq] at hc
    obtain ⟨rfl, rfl⟩ := hc
    exact ⟨rfl, h, by simp⟩
  | succ n ih =>
    intro t l x h hc
    by_cases hk : t.kind = 3
    · obtain ⟨y, b, rfl, hy, hb⟩ := good_pi (shaped_hg h).1 hk
      rw [cutPi_pi] at hc
      obtain ⟨⟨l2, x2⟩, h2, h3⟩ := Option.map_eq_some_iff.1 hc
      simp only [Prod.mk.injEq] at h3
      obtain ⟨rfl, rfl⟩ := h3
      obtain ⟨hl, hx, hs⟩ := ih b l2 x2 (shaped_pi h).2 h2
      refine ⟨by simp [hl], hx, ?_⟩
      intro s hm
      cases hm with
      | head => exact (shaped_pi h).1
      | tail _ hm => exact hs s hm
    · rw [cutPi_no hk] at hc; cases hc
theorem split_ok {t : Tm} {n : Int} (h : (splitT t n).2.2 = 0) : 0 ≤ n ∧ n ≤ 24 ∧ ((splitT t n).1.length : Int) = n ∧ shapedB (splitT t n).2.1 = true ∧ ∀ s ∈ (splitT t n).1, shapedB s = true := by
  unfold splitT at h ⊢
  split at h
  · simp at h
  · rename_i h1
    rw [if_neg h1]
    split at h
    · simp at h
    · rename_i h2
      rw [if_neg h2]
      have hs : shapedB t = true := by cases hb : shapedB t <;> simp_all
      cases hc : cutPi n.toNat t with
      | none => rw [hc] at h; simp at h
      | some y =>
        obtain ⟨l, x⟩ := y
        obtain ⟨h3, h4, h5⟩ := cutPi_shaped _ _ _ _ hs hc
        exact ⟨by omega, by omega, by show (l.length : Int) = n; omega, h4, h5⟩
theorem whole_ok {t : Tm} (h : (wholeT t).2.2 = 0) : ((wholeT t).1.length : Int) ≤ 24 ∧ shapedB (wholeT t).2.1 = true := by
  unfold wholeT at h ⊢
  obtain ⟨h1, h2, h3, h4, -⟩ := split_ok h
  exact ⟨by rw [h3]; exact h2, h4⟩
def indsOf (l : List En) (n : Int) : Int := match l[n.toNat]? with | some d => d.inds | none => 0
/-- is an entry a right constructor? -/
def conB (l : List En) (x : En) (i : Int) : Bool :=
  ownedB l x i && (((wholeT x.ty).2.2 == 0) && (decide (x.pars ≤ (wholeT x.ty).1.length) && appliedT (wholeT x.ty).2.1 x.of_ x.pars (indsOf l x.of_) (wholeT x.ty).1.length))
/-- families that stand ahead have few variables -/
def FamOk (l : List En) (i : Nat) : Prop := ∀ (q : Nat) (d : En), q < i → l[q]? = some d → d.kind = 1 → (0 ≤ d.pars ∧ d.pars ≤ 24) ∧ (0 ≤ d.inds ∧ d.inds ≤ 24)
theorem owned_get {l : List En} {x : En} {i : Nat} (h : ownedB l x i = true) : ∃ (q : Nat) (d : En), x.of_ = q ∧ q < i ∧ l[q]? = some d ∧ d.kind = 1 ∧ x.pars = d.pars := by
  unfold ownedB at h
  simp only [Bool.and_eq_true, decide_eq_true_eq] at h
  obtain ⟨h1, h2, h3, -⟩ := h
  obtain ⟨q, hq, hl, hk⟩ := isE_get h1
  refine ⟨q, l[q], hq, by omega, List.getElem?_eq_getElem hl, hk, ?_⟩
  have h4 := beq_iff_eq.1 h3
  unfold parsOf at h4
  rw [hq, Int.toNat_natCast, List.getElem?_eq_getElem hl] at h4
  exact h4
set_option maxHeartbeats 8000000 in
theorem scon_p (l : List En) (i : Nat) (hi : i < l.length) (ho : ∀ e ∈ l, EnOk e) (hf : FamOk l i) : PCalls Tryz.prog 56 [.d (.sl (l.map encD)), .d (.v (.int .i64 i))] [] fun p s => p = .d (.v (.bool (conB l l[i] i))) ∧ s = [] := by
  have hO := Lib.hid (sowned_p l i hi ho)
  obtain ⟨R, hR⟩ : ∃ R, R = conB l l[i] i := ⟨_, rfl⟩
  rw [← hR]
  have hn : (0 : Int) ≤ i := by omega
  have hx3 : l[i]? = some l[i] := List.getElem?_eq_getElem hi
  unfold conB at hR
  generalize l[i] = x at *
  have hW := Lib.hid (tWhole_p x.ty)
  have hok : (wholeT x.ty).2.2 = 0 → ((wholeT x.ty).1.length : Int) ≤ 24 ∧ shapedB (wholeT x.ty).2.1 = true := fun h => whole_ok h
  generalize wholeT x.ty = W at *
  obtain ⟨sl, sx, se⟩ := W
  simp only at hR hok
  unfold splitP at hW
  simp only [aggD, encD_tm, List.map_cons, List.map_nil] at hW
  have HR := Lib.hid hR
  have HK := Lib.hid hok
  clear hR hi ho hok
  cases hb : ownedB l x i with
  | false =>
    have HF : Hid (R = false) := by show _ = _; rw [show R = _ from HR.out, hb]; rfl
    rw [hb] at hO
    clear HR hb HK hf
    refine PCalls.enter Tryz.func56 rfl Tryz.ntmps56 (by simp) ?_
    simp only [argsF]
    refine go_ ?_
    refine POps_call_a (hW.out) ?_
    refine go_ ?_
    refine POps_alloc_a ?_
    intro i0 hi0
    refine go_ ?_
    refine Rd ?_
    refine go_ ?_
    refine PW_drawn [(0, .a), (1, .a), (2, .a), (3, .a), (4, .a), (5, .a), (6, .a), (7, .a), (8, .a), (9, .a), (10, .a), (11, .a), (12, .a), (13, .a), (14, .a), (15, .a), (16, .a), (17, .a), (18, .b), (19, .a), (20, .a), (21, .a), (22, .a), (23, .a), (24, .a), (25, .a), (26, .a), (27, .a), (28, .a), (29, .a), (30, .a), (31, .a), (32, .a), (33, .a), (34, .a), (35, .a), (36, .a), (37, .a), (38, .a), (39, .a), (40, .a), (41, .a), (42, .a)] (by kernel_rfl) (by rfl) (by kernel_rfl) ?_
    refine go_ ?_
    refine POrd_call_a (hO.out) ?_
    refine go_ ?_
    refine retP_ok (by simp) (by simp only [Tryz.results56]; rfl) (by simp [resP, St.box?, PF.get, loadB, TyK.agg, *]; rfl) (List.nil_sublist _) ?_
    exact ⟨by rw [HF.out]; rfl, rfl⟩
  | true =>
    obtain ⟨q, d, hq, hqi, hd, hdk, hpp⟩ := owned_get hb
    have hB := Lib.hid (hf q d hqi hd hdk)
    have hq0 : (0 : Int) ≤ q := by omega
    rw [hb] at hO HR
    unfold indsOf at HR
    rw [hq, Int.toNat_natCast, hd] at HR
    simp only [Bool.true_and] at HR
    have hP := Lib.hid hpp
    clear hb hf hpp hqi hdk
    refine PCalls.enter Tryz.func56 rfl Tryz.ntmps56 (by simp) ?_
    simp only [argsF]
    refine go_ ?_
    refine POps_call_a (hW.out) ?_
    refine go_ ?_
    refine POps_alloc_a ?_
    intro i0 hi0
    refine go_ ?_
    refine Rd ?_
    refine go_ ?_
    refine PW_drawn [(0, .a), (1, .a), (2, .a), (3, .a), (4, .a), (5, .a), (6, .a), (7, .a), (8, .a), (9, .a), (10, .a), (11, .a), (12, .a), (13, .a), (14, .a), (15, .a), (16, .a), (17, .a), (18, .b), (19, .a), (20, .a), (21, .a), (22, .a), (23, .a), (24, .a), (25, .a), (26, .a), (27, .a), (28, .a), (29, .a), (30, .a), (31, .a), (32, .a), (33, .a), (34, .a), (35, .a), (36, .a), (37, .a), (38, .a), (39, .a), (40, .a), (41, .a), (42, .a)] (by kernel_rfl) (by rfl) (by kernel_rfl) ?_
    refine go_ ?_
    refine POrd_call_a (hO.out) ?_
    refine go_ ?_
    rcases Bool.eq_false_or_eq_true (se == 0) with h1 | h1
    rotate_left
    · have HF : Hid (R = false) := by show _ = _; rw [show R = _ from HR.out, h1]; rfl
      clear HR HK
      refine go_ ?_
      refine retP_ok (by simp) (by simp only [Tryz.results56]; rfl) (by simp [resP, St.box?, PF.get, loadB, TyK.agg, *]; rfl) (List.nil_sublist _) ?_
      exact ⟨by rw [HF.out]; rfl, rfl⟩
    have hk := HK.out (beq_iff_eq.1 h1)
    have h24 := Lib.hid hk.1
    have hsx := Lib.hid hk.2
    clear hk HK
    refine go_ ?_
    by_cases h2 : x.pars ≤ (sl.length : Int)
    rotate_left
    · have HF : Hid (R = false) := by show _ = _; rw [show R = _ from HR.out]; simp [h2]
      clear HR
      refine go_ ?_
      refine retP_ok (by simp) (by simp only [Tryz.results56]; rfl) (by simp [resP, St.box?, PF.get, loadB, TyK.agg, *]; rfl) (List.nil_sublist _) ?_
      exact ⟨by rw [HF.out]; rfl, rfl⟩
    have hA := Lib.hid (sapplied_p sx q x.pars d.inds sl.length hsx.out (by rw [hP.out]; exact hB.out.1.1) (by rw [hP.out]; exact hB.out.1.2) hB.out.2.1 hB.out.2.2 (by omega) (by have := h24.out; omega))
    simp only [aggD, encD_tm, List.map_cons, List.map_nil] at hA
    have HF : Hid (R = appliedT sx q x.pars d.inds sl.length) := by
      show _ = _
      rw [show R = _ from HR.out, h1, decide_eq_true h2]; rfl
    clear HR hsx h24 hB hP
    generalize appliedT sx q x.pars d.inds sl.length = A at *
    refine go_ ?_
    refine POrd_call_b (hA.out) ?_
    refine go_ ?_
    refine retP_ok (by simp) (by simp only [Tryz.results56]; rfl) (by simp [resP, St.box?, PF.get, loadB, TyK.agg, *]; rfl) (List.nil_sublist _) ?_
    exact ⟨by rw [HF.out]; rfl, rfl⟩
end Go.Proofs.YtfnfbbmegdkhjaaGreat

namespace Go.Proofs.YtfnfbbmegdkhjaaGreat
open Go.RowKit
set_option maxRecDepth 100000
/-- is an entry a right projection? -/
def projB (l : List En) (x : En) (i : Int) : Bool :=
  ownedB l x i && (((splitT x.ty (x.pars + 1)).2.2 == 0) && (match (splitT x.ty (x.pars + 1)).1[x.pars.toNat]? with | some t => appliedT t x.of_ x.pars 0 x.pars | none => false))
set_option maxHeartbeats 8000000 in
theorem sproj_p (l : List En) (i : Nat) (hi : i < l.length) (ho : ∀ e ∈ l, EnOk e) (hf : FamOk l i) : PCalls Tryz.prog 57 [.d (.sl (l.map encD)), .d (.v (.int .i64 i))] [] fun p s => p = .d (.v (.bool (projB l l[i] i))) ∧ s = [] := by
  have hO := Lib.hid (sowned_p l i hi ho)
  obtain ⟨R, hR⟩ : ∃ R, R = projB l l[i] i := ⟨_, rfl⟩
  rw [← hR]
  have hn : (0 : Int) ≤ i := by omega
  have hx3 : l[i]? = some l[i] := List.getElem?_eq_getElem hi
  unfold projB at hR
  generalize l[i] = x at *
  cases hb : ownedB l x i with
  | false =>
    have HF : Hid (R = false) := by show _ = _; rw [hR, hb]; rfl
    rw [hb] at hO
    clear hR hb hf ho hi
    refine PCalls.enter Tryz.func57 rfl Tryz.ntmps57 (by simp) ?_
    simp only [argsF]
    refine go_ ?_
    refine POps_call_a (hO.out) ?_
    refine go_ ?_
    refine retP_ok (by simp) (by simp only [Tryz.results57]; rfl) (by simp [resP, St.box?, PF.get, loadB, TyK.agg, *]; rfl) (List.nil_sublist _) ?_
    exact ⟨by rw [HF.out]; rfl, rfl⟩
  | true =>
    obtain ⟨q, d, hq, hqi, hd, hdk, hpp⟩ := owned_get hb
    have hB := hf q d hqi hd hdk
    obtain ⟨m, hm⟩ : ∃ m : Nat, x.pars = m := ⟨x.pars.toNat, by omega⟩
    have hm24 : Hid ((m : Int) ≤ 24) := by show (m : Int) ≤ 24; omega
    have hm0 : (0 : Int) ≤ m := by omega
    have hws := wr64 (n := (m : Int) + 1) (by omega) (by omega)
    have hW := Lib.hid (tSplit_p x.ty ((m : Int) + 1))
    have hok : (splitT x.ty ((m : Int) + 1)).2.2 = 0 → ((splitT x.ty ((m : Int) + 1)).1.length : Int) = (m : Int) + 1 ∧ ∀ s ∈ (splitT x.ty ((m : Int) + 1)).1, shapedB s = true := fun h => ⟨(split_ok h).2.2.1, (split_ok h).2.2.2.2⟩
    rw [hm, hq] at hR
    generalize splitT x.ty ((m : Int) + 1) = W at *
    obtain ⟨sl, sx, se⟩ := W
    simp only at hR hok
    unfold splitP at hW
    simp only [aggD, encD_tm, List.map_cons, List.map_nil] at hW
    have HR := Lib.hid hR
    have HK := Lib.hid hok
    rw [hb] at hO HR
    rw [Int.toNat_natCast] at HR
    simp only [Bool.true_and] at HR
    clear hR hi ho hok hb hf hpp hqi hdk hB
    refine PCalls.enter Tryz.func57 rfl Tryz.ntmps57 (by simp) ?_
    simp only [argsF]
    refine go_ ?_
    refine POps_call_a (hO.out) ?_
    refine go_ ?_
    refine PW_drawnJ (J := keepJ []) [(0, .a), (1, .a), (2, .a), (3, .a), (4, .a), (5, .a), (6, .a), (7, .a), (8, .a), (9, .a), (10, .a), (11, .a), (12, .a), (13, .a), (14, .a), (15, .a), (16, .e), (17, .a), (18, .e), (19, .a)] (by kernel_rfl) (by rfl) (by kernel_rfl) (by (repeat (first | exact keepJ_nil _ | refine keepJ_cons (by simp [St.box?, *] <;> rfl) ?_))) ?_
    repeat (first | with_reducible refine PJ_nil ?_ | refine PJ_gn2 ?_ | refine PJ_s2 ?_ | refine PJ_b2 ?_)
    refine PJ_call2 (hW.out) ?_
    repeat (first | with_reducible refine PJ_nil ?_ | refine PJ_gn2 ?_ | refine PJ_s2 ?_ | refine PJ_b2 ?_)
    refine PJ_alloc rfl (by decide) rfl (by simp; rfl) (fun i hi => by simp only [St.freshB_box, St.freshB_nil, St.freshB_tok] at hi; (repeat (first | exact keepJ_nil _ | refine keepJ_cons (by simp [St.box?, *] <;> rfl) ?_))) ?_
    intro i0 hi0
    try simp only [St.freshB_box, St.freshB_nil, St.freshB_tok, St.freshB_obj] at hi0
    repeat (first | with_reducible refine PJ_nil ?_ | refine PJ_gn2 ?_ | refine PJ_s2 ?_ | refine PJ_b2 ?_)
    refine PJ_store rfl rfl (by simp [nev, nevA, nevB, evBuild, PF.eval, PF.get, PF.wants, cPV, cCell, PV.rows, evBin, evUn, evConv, evLen, loadA, loadB, TyK.agg, partA, St.box?, St.tok?, St.setBox, St.setTok, fillO, spl, PV.ps, PV.one, evalArgs, aggD, slD, encD_nd, encD_bd, encD_rw, encD_dc, encD_str, encD_int, *]; rfl) (by rfl) (by simp [nev, nevA, nevB, evBuild, PF.eval, PF.get, PF.wants, cPV, cCell, PV.rows, evBin, evUn, evConv, evLen, loadA, loadB, TyK.agg, partA, St.box?, St.tok?, St.setBox, St.setTok, fillO, spl, PV.ps, PV.one, evalArgs, aggD, slD, encD_nd, encD_bd, encD_rw, encD_dc, encD_str, encD_int, *]; rfl) (by simp [PV.ps, aggD, slD, encD_nd, encD_bd, encD_rw, encD_dc, encD_str, encD_int]; rfl) (by first | rfl | (simp [*]; done) | (simp [PV.one, *]; done) | fail) (by simp; rfl) (by first | (simp; done) | fail) (by simp [nev, nevA, nevB, evBuild, PF.eval, PF.get, PF.wants, cPV, cCell, PV.rows, evBin, evUn, evConv, evLen, loadA, loadB, TyK.agg, partA, St.box?, St.tok?, St.setBox, St.setTok, fillO, spl, PV.ps, PV.one, evalArgs, aggD, slD, encD_nd, encD_bd, encD_rw, encD_dc, encD_str, encD_int, *]; rfl) (by rfl) (by first | (simp; done) | fail) (by simp [St.setBox, spl, *]; rfl) (by (repeat (first | exact keepJ_nil _ | refine keepJ_cons (by simp [St.box?, *] <;> rfl) ?_))) ?_
    repeat (first | with_reducible refine PJ_nil ?_ | refine PJ_gn2 ?_ | refine PJ_s2 ?_ | refine PJ_b2 ?_)
    refine go_ ?_
    refine PW_drawn [(0, .a), (1, .a), (2, .a), (3, .a), (4, .a), (5, .a), (6, .a), (7, .a), (8, .a), (9, .a), (10, .a), (11, .a), (12, .a), (13, .a), (14, .a), (15, .a), (16, .a), (17, .a), (18, .a), (19, .a), (20, .a), (21, .a), (22, .a), (23, .a), (24, .a), (25, .a), (26, .a), (27, .a), (28, .a)] (by kernel_rfl) (by rfl) (by kernel_rfl) ?_
    refine go_ ?_
    rcases Bool.eq_false_or_eq_true (se == 0) with h1 | h1
    rotate_left
    · have HF : Hid (R = false) := by show _ = _; rw [show R = _ from HR.out, h1]; rfl
      clear HR HK
      refine go_ ?_
      refine retP_ok (by simp) (by simp only [Tryz.results57]; rfl) (by simp [resP, St.box?, PF.get, loadB, TyK.agg, *]; rfl) (List.nil_sublist _) ?_
      exact ⟨by rw [HF.out]; rfl, rfl⟩
    obtain ⟨hl, hsh⟩ := HK.out (beq_iff_eq.1 h1)
    have hml : m < sl.length := by omega
    have hy : sl[m]? = some sl[m] := List.getElem?_eq_getElem hml
    have hsy := Lib.hid (hsh _ (List.getElem_mem hml))
    have hm1 : (m : Int) < sl.length := by omega
    rw [hy] at HR
    clear hl hsh HK
    generalize sl[m] = y at *
    clear hml
    have hA := Lib.hid (sapplied_p y q m 0 m hsy.out hm0 hm24.out (by omega) (by omega) hm0 (by have := hm24.out; omega))
    simp only [aggD, encD_tm, List.map_cons, List.map_nil] at hA
    have HF : Hid (R = appliedT y q m 0 m) := by
      show _ = _
      rw [show R = _ from HR.out, h1]; rfl
    clear HR hsy hm24
    generalize appliedT y q m 0 m = A at *
    refine go_ ?_
    refine POrd_call_b (hA.out) ?_
    refine go_ ?_
    refine retP_ok (by simp) (by simp only [Tryz.results57]; rfl) (by simp [resP, St.box?, PF.get, loadB, TyK.agg, *]; rfl) (List.nil_sublist _) ?_
    exact ⟨by rw [HF.out]; rfl, rfl⟩
end Go.Proofs.YtfnfbbmegdkhjaaGreat

namespace Go.Proofs.YtfnfbbmegdkhjaaGreat
open Go.RowKit
set_option maxRecDepth 100000
def fam1 (x : En) : Bool := decide (0 ≤ x.pars) && (decide (0 ≤ x.inds) && (decide (x.pars ≤ 24) && (decide (x.inds ≤ 24 - x.pars) && ((x.of_ == 0) && ((x.place == 0) && noneT x.body)))))
def fam2 (l : List En) (x : En) (i : Nat) (W : List Tm × Tm × Int) : Bool := (W.2.2 == 0) && ((W.2.1.kind == 2) && ((W.2.1.num == x.level) && (decide ((x.cons.length : Int) ≤ 16) && (runW x.cons ((i : Int) + 1) 0 && membersW l i x.cons 2 0))))
def fam4 (l : List En) (x : En) (n : Nat) : Bool := match l[n]? with | some d => ((wholeT d.ty).2.2 == 0) && (((wholeT d.ty).1.length : Int) == x.pars + x.fields.length) | none => false
def fam3 (l : List En) (x : En) (i : Nat) : Bool := ((x.fields.length : Int) == 0) || ((x.inds == 0) && (((x.cons.length : Int) == 1) && (runW x.fields ((i : Int) + 2) 0 && (membersW l i x.fields 4 0 && fam4 l x (i + 1)))))
/-- is an entry a right family? -/
def famB (l : List En) (x : En) (i : Nat) : Bool := fam1 x && (fam2 l x i (splitT x.ty (x.pars + x.inds)) && fam3 l x i)
theorem one_con {l : List En} {c : List Int} {i : Nat} (h1 : (c.length : Int) = 1) (hi : i + 1 < 4000000000000000000) (hr : runW c ((i : Int) + 1) 0 = true) (hm : membersW l i c 2 0 = true) : i + 1 < l.length := by
  match c, h1 with
  | [n], _ =>
    simp only [runW, membersW, Bool.and_eq_true, Bool.and_true] at hr hm
    have h2 := beq_iff_eq.1 hr
    rw [wr64 (n := (i : Int) + 1 + ((0 : Nat) : Int)) (by omega) (by omega)] at h2
    unfold memE at hm
    rw [Bool.and_eq_true] at hm
    obtain ⟨m, hm1, hm2, -⟩ := isE_get hm.1
    omega
set_option maxHeartbeats 8000000 in
theorem sfamily_p (l : List En) (i : Nat) (hi : i < l.length) (hl : l.length ≤ 3000000000000000000) (ho : EnOk l[i]) : PCalls Tryz.prog 55 [.d (.sl (l.map encD)), .d (.v (.int .i64 i))] [] fun p s => p = .d (.v (.bool (famB l l[i] i))) ∧ s = [] := by
  obtain ⟨R, hR⟩ : ∃ R, R = famB l l[i] i := ⟨_, rfl⟩
  rw [← hR]
  have hn : (0 : Int) ≤ i := by omega
  have hx3 : l[i]? = some l[i] := List.getElem?_eq_getElem hi
  unfold famB at hR
  generalize l[i] = x at *
  have hN := Lib.hid (snone_p x.body)
  simp only [aggD, encD_tm, List.map_cons, List.map_nil] at hN
  have hw1 := wr64 (n := (i : Int) + 1) (by omega) (by omega)
  have hw2 := wr64 (n := (i : Int) + 2) (by omega) (by omega)
  have HO := Lib.hid ho
  have HL := Lib.hid (show i + 1 < 4000000000000000000 by omega)
  have HR := Lib.hid hR
  clear hR hi ho hl
  refine PCalls.enter Tryz.func55 rfl Tryz.ntmps55 (by simp) ?_
  simp only [argsF]
  refine go_ ?_
  refine POps_alloc_a ?_
  intro i0 hi0
  refine go_ ?_
  refine Rd ?_
  refine go_ ?_
  by_cases a1 : 0 ≤ x.pars
  rotate_left
  · have a1b : x.pars < 0 := by omega
    have HF : Hid (R = false) := by show _ = _; rw [show R = _ from HR.out]; unfold fam1; simp [a1]
    clear HR a1 
    refine go_ ?_
    refine retP_ok (by simp) (by simp only [Tryz.results55]; rfl) (by simp [resP, St.box?, PF.get, loadB, TyK.agg, *]; rfl) (List.nil_sublist _) ?_
    exact ⟨by rw [HF.out]; rfl, rfl⟩
  have a1c : ¬ x.pars < 0 := by omega
  refine go_ ?_
  by_cases a2 : 0 ≤ x.inds
  rotate_left
  · have a2b : x.inds < 0 := by omega
    have HF : Hid (R = false) := by show _ = _; rw [show R = _ from HR.out]; unfold fam1; simp [a2]
    clear HR a2 
    refine go_ ?_
    refine retP_ok (by simp) (by simp only [Tryz.results55]; rfl) (by simp [resP, St.box?, PF.get, loadB, TyK.agg, *]; rfl) (List.nil_sublist _) ?_
    exact ⟨by rw [HF.out]; rfl, rfl⟩
  have a2c : ¬ x.inds < 0 := by omega
  refine go_ ?_
  by_cases a3 : x.pars ≤ 24
  rotate_left
  · have a3b : 24 < x.pars := by omega
    have HF : Hid (R = false) := by show _ = _; rw [show R = _ from HR.out]; unfold fam1; simp [a3]
    clear HR a3 
    refine go_ ?_
    refine retP_ok (by simp) (by simp only [Tryz.results55]; rfl) (by simp [resP, St.box?, PF.get, loadB, TyK.agg, *]; rfl) (List.nil_sublist _) ?_
    exact ⟨by rw [HF.out]; rfl, rfl⟩
  have a3c : ¬ 24 < x.pars := by omega
  refine go_ ?_
  have hw3 := wr64 (n := 24 - x.pars) (by omega) (by omega)
  refine go_ ?_
  by_cases a4 : x.inds ≤ 24 - x.pars
  rotate_left
  · have a4b : 24 - x.pars < x.inds := by omega
    have HF : Hid (R = false) := by show _ = _; rw [show R = _ from HR.out]; unfold fam1; simp [a4]
    clear HR a4 
    refine go_ ?_
    refine retP_ok (by simp) (by simp only [Tryz.results55]; rfl) (by simp [resP, St.box?, PF.get, loadB, TyK.agg, *]; rfl) (List.nil_sublist _) ?_
    exact ⟨by rw [HF.out]; rfl, rfl⟩
  have a4c : ¬ 24 - x.pars < x.inds := by omega
  refine go_ ?_
  by_cases a5 : x.of_ = 0
  rotate_left
  · have a5b : (x.of_ != 0) = true := bne_iff_ne.2 a5
    have HF : Hid (R = false) := by show _ = _; rw [show R = _ from HR.out]; unfold fam1; simp [a5]
    clear HR a5 
    refine go_ ?_
    refine retP_ok (by simp) (by simp only [Tryz.results55]; rfl) (by simp [resP, St.box?, PF.get, loadB, TyK.agg, *]; rfl) (List.nil_sublist _) ?_
    exact ⟨by rw [HF.out]; rfl, rfl⟩
  have a5c : (x.of_ != 0) = false := by rw [a5]; rfl
  refine go_ ?_
  by_cases a6 : x.place = 0
  rotate_left
  · have a6b : (x.place != 0) = true := bne_iff_ne.2 a6
    have HF : Hid (R = false) := by show _ = _; rw [show R = _ from HR.out]; unfold fam1; simp [a6]
    clear HR a6 
    refine go_ ?_
    refine retP_ok (by simp) (by simp only [Tryz.results55]; rfl) (by simp [resP, St.box?, PF.get, loadB, TyK.agg, *]; rfl) (List.nil_sublist _) ?_
    exact ⟨by rw [HF.out]; rfl, rfl⟩
  have a6c : (x.place != 0) = false := by rw [a6]; rfl
  refine go_ ?_
  refine POps_call_b (hN.out) ?_
  refine go_ ?_
  clear hN
  by_cases a7 : noneT x.body = true
  rotate_left
  · have a7b : noneT x.body = false := by simpa using a7
    have HF : Hid (R = false) := by show _ = _; rw [show R = _ from HR.out]; unfold fam1; simp [a7]
    clear HR a7 
    refine go_ ?_
    refine retP_ok (by simp) (by simp only [Tryz.results55]; rfl) (by simp [resP, St.box?, PF.get, loadB, TyK.agg, *]; rfl) (List.nil_sublist _) ?_
    exact ⟨by rw [HF.out]; rfl, rfl⟩
  have a7c : noneT x.body = noneT x.body := rfl
  refine go_ ?_
  have HR1 : Hid (R = (fam2 l x i (splitT x.ty (x.pars + x.inds)) && fam3 l x i)) := by
    show _ = _
    rw [show R = _ from HR.out]
    unfold fam1
    simp [a1, a2, a3, a4, a5, a6, a7]
  clear HR
  have hw4 := wr64 (n := x.pars + x.inds) (by omega) (by omega)
  have HB := Lib.hid (And.intro (And.intro a1 a3) (And.intro a2 a4))
  clear a1 a2 a3 a4 a5 a6 a7 hw3
  clear a1c a2c a3c a4c a5c a6c
  have hW := Lib.hid (tSplit_p x.ty (x.pars + x.inds))
  unfold fam2 at HR1
  generalize splitT x.ty (x.pars + x.inds) = W at *
  obtain ⟨sl, sx, se⟩ := W
  simp only at HR1
  unfold splitP at hW
  simp only [aggD, encD_tm, List.map_cons, List.map_nil] at hW
  refine go_ ?_
  refine POps_call_a (hW.out) ?_
  refine go_ ?_
  clear hW
  refine POps_alloc_a ?_
  intro i1 hi1
  try simp only [St.freshB_box, St.freshB_nil, St.freshB_tok, St.freshB_obj] at hi1
  refine go_ ?_
  refine Rd ?_
  refine go_ ?_
  by_cases b1 : se = 0
  rotate_left
  · have b1b : (se != 0) = true := bne_iff_ne.2 b1
    have HF : Hid (R = false) := by show _ = _; rw [show R = _ from HR1.out]; skip; simp [b1]
    clear HR1 b1 
    refine go_ ?_
    refine retP_ok (by simp) (by simp only [Tryz.results55]; rfl) (by simp [resP, St.box?, PF.get, loadB, TyK.agg, *]; rfl) (List.nil_sublist _) ?_
    exact ⟨by rw [HF.out]; rfl, rfl⟩
  have b1c : (se != 0) = false := by rw [b1]; rfl
  refine go_ ?_
  by_cases b2 : sx.kind = 2
  rotate_left
  · have b2b : (sx.kind != 2) = true := bne_iff_ne.2 b2
    have HF : Hid (R = false) := by show _ = _; rw [show R = _ from HR1.out]; skip; simp [b2]
    clear HR1 b2 
    refine go_ ?_
    refine retP_ok (by simp) (by simp only [Tryz.results55]; rfl) (by simp [resP, St.box?, PF.get, loadB, TyK.agg, *]; rfl) (List.nil_sublist _) ?_
    exact ⟨by rw [HF.out]; rfl, rfl⟩
  have b2c : (sx.kind != 2) = false := by rw [b2]; rfl
  refine go_ ?_
  by_cases b3 : sx.num = x.level
  rotate_left
  · have b3b : (sx.num != x.level) = true := bne_iff_ne.2 b3
    have HF : Hid (R = false) := by show _ = _; rw [show R = _ from HR1.out]; skip; simp [b3]
    clear HR1 b3 
    refine go_ ?_
    refine retP_ok (by simp) (by simp only [Tryz.results55]; rfl) (by simp [resP, St.box?, PF.get, loadB, TyK.agg, *]; rfl) (List.nil_sublist _) ?_
    exact ⟨by rw [HF.out]; rfl, rfl⟩
  have b3c : (sx.num != x.level) = false := by rw [b3]; simp
  refine go_ ?_
  by_cases b4 : (x.cons.length : Int) ≤ 16
  rotate_left
  · have b4b : 16 < (x.cons.length : Int) := by omega
    have HF : Hid (R = false) := by show _ = _; rw [show R = _ from HR1.out]; skip; simp [b4]
    clear HR1 b4 
    refine go_ ?_
    refine retP_ok (by simp) (by simp only [Tryz.results55]; rfl) (by simp [resP, St.box?, PF.get, loadB, TyK.agg, *]; rfl) (List.nil_sublist _) ?_
    exact ⟨by rw [HF.out]; rfl, rfl⟩
  have b4c : ¬ 16 < (x.cons.length : Int) := by omega
  refine go_ ?_
  refine POps_call_b (srun_p x.cons ((i : Int) + 1)) ?_
  refine go_ ?_
  by_cases b5 : runW x.cons ((i : Int) + 1) 0 = true
  rotate_left
  · have b5b : runW x.cons ((i : Int) + 1) 0 = false := by simpa using b5
    have HF : Hid (R = false) := by show _ = _; rw [show R = _ from HR1.out]; skip; simp [b5]
    clear HR1 b5 
    refine go_ ?_
    refine retP_ok (by simp) (by simp only [Tryz.results55]; rfl) (by simp [resP, St.box?, PF.get, loadB, TyK.agg, *]; rfl) (List.nil_sublist _) ?_
    exact ⟨by rw [HF.out]; rfl, rfl⟩
  have b5c : 0 = 0 := rfl
  refine go_ ?_
  refine POps_call_b (smembers_p l i 2 x.cons) ?_
  refine go_ ?_
  by_cases b6 : membersW l i x.cons 2 0 = true
  rotate_left
  · have b6b : membersW l i x.cons 2 0 = false := by simpa using b6
    have HF : Hid (R = false) := by show _ = _; rw [show R = _ from HR1.out]; skip; simp [b6]
    clear HR1 b6 
    refine go_ ?_
    refine retP_ok (by simp) (by simp only [Tryz.results55]; rfl) (by simp [resP, St.box?, PF.get, loadB, TyK.agg, *]; rfl) (List.nil_sublist _) ?_
    exact ⟨by rw [HF.out]; rfl, rfl⟩
  have b6c : 0 = 0 := rfl
  refine go_ ?_
  have HR2 : Hid (R = fam3 l x i) := by
    show _ = _
    rw [show R = _ from HR1.out]
    simp [b1, b2, b3, b4, b5, b6]
  clear HR1
  have HC := Lib.hid (fun h => one_con (l := l) h HL.out b5 b6)
  clear b1 b2 b3 b4 b5 b6 b1c b2c b3c b4c b5c b6c HL
  unfold fam3 at HR2
  by_cases c1 : (x.fields.length : Int) = 0
  · have c1b : ((x.fields.length : Int) == 0) = true := beq_iff_eq.2 c1
    have HF : Hid (R = true) := by show _ = _; rw [show R = _ from HR2.out, c1b]; rfl
    clear c1 HR2 HC
    refine go_ ?_
    refine retP_ok (by simp) (by simp only [Tryz.results55]; rfl) (by simp [resP, St.box?, PF.get, loadB, TyK.agg, *]; rfl) (List.nil_sublist _) ?_
    exact ⟨by rw [HF.out]; rfl, rfl⟩
  have c1b : ((x.fields.length : Int) == 0) = false := beq_eq_false_iff_ne.2 c1
  have HR3 : Hid (R = ((x.inds == 0) && (((x.cons.length : Int) == 1) && (runW x.fields ((i : Int) + 2) 0 && (membersW l i x.fields 4 0 && fam4 l x (i + 1)))))) := by show _ = _; rw [show R = _ from HR2.out, c1b]; rfl
  clear HR2 c1
  refine go_ ?_
  by_cases d1 : x.inds = 0
  rotate_left
  · have d1b : (x.inds != 0) = true := bne_iff_ne.2 d1
    have HF : Hid (R = false) := by show _ = _; rw [show R = _ from HR3.out]; skip; simp [d1]
    clear HR3 d1 
    refine go_ ?_
    refine retP_ok (by simp) (by simp only [Tryz.results55]; rfl) (by simp [resP, St.box?, PF.get, loadB, TyK.agg, *]; rfl) (List.nil_sublist _) ?_
    exact ⟨by rw [HF.out]; rfl, rfl⟩
  have d1c : (x.inds != 0) = false := by rw [d1]; rfl
  refine go_ ?_
  by_cases d2 : (x.cons.length : Int) = 1
  rotate_left
  · have d2b : ((x.cons.length : Int) != 1) = true := bne_iff_ne.2 d2
    have HF : Hid (R = false) := by show _ = _; rw [show R = _ from HR3.out]; skip; simp [d2]
    clear HR3 d2 
    refine go_ ?_
    refine retP_ok (by simp) (by simp only [Tryz.results55]; rfl) (by simp [resP, St.box?, PF.get, loadB, TyK.agg, *]; rfl) (List.nil_sublist _) ?_
    exact ⟨by rw [HF.out]; rfl, rfl⟩
  have d2c : ((x.cons.length : Int) != 1) = false := by rw [d2]; rfl
  refine go_ ?_
  refine POps_call_b (srun_p x.fields ((i : Int) + 2)) ?_
  refine go_ ?_
  by_cases d3 : runW x.fields ((i : Int) + 2) 0 = true
  rotate_left
  · have d3b : runW x.fields ((i : Int) + 2) 0 = false := by simpa using d3
    have HF : Hid (R = false) := by show _ = _; rw [show R = _ from HR3.out]; skip; simp [d3]
    clear HR3 d3 
    refine go_ ?_
    refine retP_ok (by simp) (by simp only [Tryz.results55]; rfl) (by simp [resP, St.box?, PF.get, loadB, TyK.agg, *]; rfl) (List.nil_sublist _) ?_
    exact ⟨by rw [HF.out]; rfl, rfl⟩
  have d3c : 0 = 0 := rfl
  refine go_ ?_
  refine POps_call_b (smembers_p l i 4 x.fields) ?_
  refine go_ ?_
  by_cases d4 : membersW l i x.fields 4 0 = true
  rotate_left
  · have d4b : membersW l i x.fields 4 0 = false := by simpa using d4
    have HF : Hid (R = false) := by show _ = _; rw [show R = _ from HR3.out]; skip; simp [d4]
    clear HR3 d4 
    refine go_ ?_
    refine retP_ok (by simp) (by simp only [Tryz.results55]; rfl) (by simp [resP, St.box?, PF.get, loadB, TyK.agg, *]; rfl) (List.nil_sublist _) ?_
    exact ⟨by rw [HF.out]; rfl, rfl⟩
  have d4c : 0 = 0 := rfl
  refine go_ ?_
  have hil := HC.out d2
  have hd : l[i + 1]? = some l[i + 1] := List.getElem?_eq_getElem hil
  have HR4 : Hid (R = fam4 l x (i + 1)) := by
    show _ = _
    rw [show R = _ from HR3.out]
    simp [d1, d2, d3, d4]
  clear HR3 HC d1 d2 d3 d4 d1c d2c d3c d4c
  unfold fam4 at HR4
  rw [hd] at HR4
  have hil2 := Lib.hid hil
  generalize l[i + 1] = d at *
  clear hil
  simp only at HR4
  have hV := Lib.hid (tWhole_p d.ty)
  generalize wholeT d.ty = V at *
  obtain ⟨vl, vx, ve⟩ := V
  simp only at HR4
  unfold splitP at hV
  simp only [aggD, encD_tm, List.map_cons, List.map_nil] at hV
  have hc1 : (0 : Int) ≤ (i : Int) + 1 := by omega
  have hc2 : ((i : Int) + 1).toNat = i + 1 := by omega
  refine go_ ?_

  refine POps_call_a (hV.out) ?_
  refine go_ ?_
  clear hV
  refine POps_alloc_a ?_
  intro i2 hi2
  try simp only [St.freshB_box, St.freshB_nil, St.freshB_tok, St.freshB_obj] at hi2
  refine go_ ?_
  refine Rd ?_
  have hw5 := wr64 (n := x.pars + x.fields.length) (by have := HB.out.1; omega) (by have := HB.out.1; have := HO.out.2; omega)
  refine go_ ?_
  rcases Bool.eq_false_or_eq_true (ve == 0) with e1 | e1
  rotate_left
  · have HF : Hid (R = false) := by show _ = _; rw [show R = _ from HR4.out, e1]; rfl
    clear HR4
    refine go_ ?_
    refine retP_ok (by simp) (by simp only [Tryz.results55]; rfl) (by simp [resP, St.box?, PF.get, loadB, TyK.agg, *]; rfl) (List.nil_sublist _) ?_
    exact ⟨by rw [HF.out]; rfl, rfl⟩
  have HF : Hid (R = ((vl.length : Int) == x.pars + x.fields.length)) := by show _ = _; rw [show R = _ from HR4.out, e1]; rfl
  clear HR4
  refine go_ ?_
  refine retP_ok (by simp) (by simp only [Tryz.results55]; rfl) (by simp [resP, St.box?, PF.get, loadB, TyK.agg, *]; rfl) (List.nil_sublist _) ?_
  exact ⟨by rw [HF.out]; rfl, rfl⟩
end Go.Proofs.YtfnfbbmegdkhjaaGreat

namespace Go.Proofs.YtfnfbbmegdkhjaaGreat
open Go.RowKit
set_option maxRecDepth 100000
theorem flat_v {f : FuncId} {x : Value} {b : Bool} (h : okv x → ∀ w : World, Calls Tryz.prog f #[x] w fun e w' => e = .returned (.bool b) ∧ Below w.heap.size w w') : PCalls Tryz.prog f [.d (.v x)] [] fun p s => p = .d (.v (.bool b)) ∧ s = [] := by
  refine PCalls.flat trivial fun K w vs ha => ?_
  obtain ⟨v, rfl, hv⟩ := ha.one
  cases hv with
  | d hv => cases hv with
    | v hok => exact h hok w
theorem nright_p (s : ByteArray) : PCalls Tryz.prog 53 [.d (.v (.string s))] [] fun p s2 => p = .d (.v (.bool (rightN s))) ∧ s2 = [] := flat_v fun hs => right_name s hs
theorem rnright_p (s : ByteArray) : PCalls Tryz.prog 46 [.d (.v (.string s))] [] fun p s2 => p = .d (.v (.bool (rightN s))) ∧ s2 = [] := flat_v fun hs => rright_name s hs
def kindB (l : List En) (x : En) (i : Nat) : Bool := if x.kind = 1 then famB l x i else if x.kind = 2 then conB l x i else if x.kind = 4 then projB l x i else if x.kind = 3 then defB x i else false
/-- is an entry right? -/
def entryB (l : List En) (x : En) (i : Nat) : Bool := rightN x.name && (closedT x.ty i && kindB l x i)
set_option maxHeartbeats 8000000 in
theorem sentry_p (l : List En) (i : Nat) (hi : i < l.length) (hl : l.length ≤ 3000000000000000000) (ho : ∀ e ∈ l, EnOk e) (hf : FamOk l i) : PCalls Tryz.prog 28 [.d (.sl (l.map encD)), .d (.v (.int .i64 i))] [] fun p s => p = .d (.v (.bool (entryB l l[i] i))) ∧ s = [] := by
  have h1 := Lib.hid (sfamily_p l i hi hl (ho _ (List.getElem_mem hi)))
  have h2 := Lib.hid (scon_p l i hi ho hf)
  have h4 := Lib.hid (sproj_p l i hi ho hf)
  have h3 := Lib.hid (sdef_p l i hi (ho _ (List.getElem_mem hi)))
  have hR := Lib.hid (nright_p l[i].name)
  have hC := Lib.hid (sclosed_p l[i].ty i)
  simp only [aggD, encD_tm, List.map_cons, List.map_nil] at hC
  have hn : (0 : Int) ≤ i := by omega
  have hx3 : l[i]? = some l[i] := List.getElem?_eq_getElem hi
  have HR := Lib.hid (show entryB l l[i] i = (rightN l[i].name && (closedT l[i].ty i && kindB l l[i] i)) from rfl)
  have HK := Lib.hid (show kindB l l[i] i = (if l[i].kind = 1 then famB l l[i] i else if l[i].kind = 2 then conB l l[i] i else if l[i].kind = 4 then projB l l[i] i else if l[i].kind = 3 then defB l[i] i else false) from rfl)
  generalize entryB l l[i] i = R at *
  generalize l[i] = x at *
  generalize kindB l x i = KB at *
  generalize rightN x.name = B at *
  generalize closedT x.ty i = C at *
  generalize famB l x i = Q1 at *
  generalize conB l x i = Q2 at *
  generalize projB l x i = Q4 at *
  generalize defB x i = Q3 at *
  clear hi hl ho hf
  refine PCalls.enter Tryz.func28 rfl Tryz.ntmps28 (by simp) ?_
  simp only [argsF]
  refine go_ ?_
  refine POps_call_a (hR.out) ?_
  refine go_ ?_
  clear hR
  rcases Bool.eq_false_or_eq_true (B) with b1 | b1
  rotate_left
  · have HF : Hid (R = false) := by show _ = _; rw [show R = _ from HR.out, b1]; rfl
    clear HR HK
    refine go_ ?_
    refine retP_ok (by simp) (by simp only [Tryz.results28]; rfl) (by simp [resP, St.box?, PF.get, loadB, TyK.agg, *]; rfl) (List.nil_sublist _) ?_
    exact ⟨by rw [HF.out]; rfl, rfl⟩
  refine go_ ?_
  refine POps_call_b (hC.out) ?_
  refine go_ ?_
  clear hC
  rcases Bool.eq_false_or_eq_true (C) with b2 | b2
  rotate_left
  · have HF : Hid (R = false) := by show _ = _; rw [show R = _ from HR.out, b1, b2]; rfl
    clear HR HK
    refine go_ ?_
    refine retP_ok (by simp) (by simp only [Tryz.results28]; rfl) (by simp [resP, St.box?, PF.get, loadB, TyK.agg, *]; rfl) (List.nil_sublist _) ?_
    exact ⟨by rw [HF.out]; rfl, rfl⟩
  have HR2 : Hid (R = KB) := by show _ = _; rw [show R = _ from HR.out, b1, b2]; rfl
  clear HR
  refine go_ ?_
  by_cases k1 : x.kind = 1
  · have HF : Hid (R = Q1) := by show _ = _; rw [show R = _ from HR2.out, show KB = _ from HK.out, if_pos k1]
    have kb : (x.kind == 1) = true := beq_iff_eq.2 k1
    clear HR2 HK k1
    refine go_ ?_
    refine POps_call_a (h1.out) ?_
    refine go_ ?_
    refine retP_ok (by simp) (by simp only [Tryz.results28]; rfl) (by simp [resP, St.box?, PF.get, loadB, TyK.agg, *]; rfl) (List.nil_sublist _) ?_
    exact ⟨by rw [HF.out]; rfl, rfl⟩
  have kb1 : (x.kind == 1) = false := beq_eq_false_iff_ne.2 k1
  refine go_ ?_
  by_cases k2 : x.kind = 2
  · have HF : Hid (R = Q2) := by show _ = _; rw [show R = _ from HR2.out, show KB = _ from HK.out, if_neg k1, if_pos k2]
    have kb : (x.kind == 2) = true := beq_iff_eq.2 k2
    clear HR2 HK k2 k1
    refine go_ ?_
    refine POps_call_a (h2.out) ?_
    refine go_ ?_
    refine retP_ok (by simp) (by simp only [Tryz.results28]; rfl) (by simp [resP, St.box?, PF.get, loadB, TyK.agg, *]; rfl) (List.nil_sublist _) ?_
    exact ⟨by rw [HF.out]; rfl, rfl⟩
  have kb2 : (x.kind == 2) = false := beq_eq_false_iff_ne.2 k2
  refine go_ ?_
  by_cases k4 : x.kind = 4
  · have HF : Hid (R = Q4) := by show _ = _; rw [show R = _ from HR2.out, show KB = _ from HK.out, if_neg k1, if_neg k2, if_pos k4]
    have kb : (x.kind == 4) = true := beq_iff_eq.2 k4
    clear HR2 HK k4 k2 k1
    refine go_ ?_
    refine POps_call_a (h4.out) ?_
    refine go_ ?_
    refine retP_ok (by simp) (by simp only [Tryz.results28]; rfl) (by simp [resP, St.box?, PF.get, loadB, TyK.agg, *]; rfl) (List.nil_sublist _) ?_
    exact ⟨by rw [HF.out]; rfl, rfl⟩
  have kb4 : (x.kind == 4) = false := beq_eq_false_iff_ne.2 k4
  refine go_ ?_
  by_cases k3 : x.kind = 3
  · have HF : Hid (R = Q3) := by show _ = _; rw [show R = _ from HR2.out, show KB = _ from HK.out, if_neg k1, if_neg k2, if_neg k4, if_pos k3]
    have kb : (x.kind == 3) = true := beq_iff_eq.2 k3
    clear HR2 HK k3 k4 k2 k1
    refine go_ ?_
    refine POps_call_a (h3.out) ?_
    refine go_ ?_
    refine retP_ok (by simp) (by simp only [Tryz.results28]; rfl) (by simp [resP, St.box?, PF.get, loadB, TyK.agg, *]; rfl) (List.nil_sublist _) ?_
    exact ⟨by rw [HF.out]; rfl, rfl⟩
  have kb3 : (x.kind == 3) = false := beq_eq_false_iff_ne.2 k3
  have HF : Hid (R = false) := by show _ = _; rw [show R = _ from HR2.out, show KB = _ from HK.out, if_neg k1, if_neg k2, if_neg k4, if_neg k3]
  clear HR2 HK k3 k4 k2 k1
  refine go_ ?_
  refine retP_ok (by simp) (by simp only [Tryz.results28]; rfl) (by simp [resP, St.box?, PF.get, loadB, TyK.agg, *]; rfl) (List.nil_sublist _) ?_
  exact ⟨by rw [HF.out]; rfl, rfl⟩
end Go.Proofs.YtfnfbbmegdkhjaaGreat

namespace Go.Proofs.YtfnfbbmegdkhjaaGreat
open Go.RowKit
set_option maxRecDepth 100000
set_option maxHeartbeats 8000000 in
theorem rSplit_p (t : Tm) (n : Int) : PCalls Tryz.prog 84 [aggD t, .d (.v (.int .i64 n))] [] fun p s => p = splitP (splitT t n) ∧ s = [] := by
  have hS := Lib.hid (rshaped_p t)
  cases hb : shapedB t with
  | false =>
    have hR : splitT t n = ([], .mk 0 0 [], 5) := by unfold splitT; rw [if_pos (.inl hb)]
    rw [hR]
    rw [hb] at hS
    unfold splitP
    simp only [aggD, encD_tm, List.map_cons, List.map_nil, Tm.kind_mk, Tm.num_mk, Tm.sub_mk] at hS ⊢
    refine PCalls.enter Tryz.func84 rfl Tryz.ntmps84 (by simp) ?_
    simp only [argsF]
    refine go_ ?_
    refine POps_box_a ?_
    intro i0 hi0
    refine go_ ?_
    refine POps_alloc_a ?_
    intro i1 hi1
    try simp only [St.freshB_box, St.freshB_nil, St.freshB_tok, St.freshB_obj] at hi1
    refine go_ ?_
    refine POps_call_a (hS.out) ?_
    refine go_ ?_
    refine Rd ?_
    refine go_ ?_
    refine retP_ok (by simp) (by simp only [Tryz.results84]; rfl) (by simp [resP, St.box?, PF.get, loadB, TyK.agg, *]; rfl) (List.nil_sublist _) ?_
    exact ⟨by simp [tupP, PV.norm2, PV.norm1, PV.norm0], rfl⟩
  | true =>
    rw [hb] at hS
    by_cases h0 : n < 0
    · have hR : splitT t n = ([], .mk 0 0 [], 5) := by unfold splitT; rw [if_pos (.inr h0)]
      rw [hR]
      unfold splitP
      simp only [aggD, encD_tm, List.map_cons, List.map_nil, Tm.kind_mk, Tm.num_mk, Tm.sub_mk] at hS ⊢
      refine PCalls.enter Tryz.func84 rfl Tryz.ntmps84 (by simp) ?_
      simp only [argsF]
      refine go_ ?_
      refine POps_box_a ?_
      intro i0 hi0
      refine go_ ?_
      refine POps_alloc_a ?_
      intro i1 hi1
      try simp only [St.freshB_box, St.freshB_nil, St.freshB_tok, St.freshB_obj] at hi1
      refine go_ ?_
      refine POps_call_a (hS.out) ?_
      refine go_ ?_
      refine Rd ?_
      refine go_ ?_
      refine retP_ok (by simp) (by simp only [Tryz.results84]; rfl) (by simp [resP, St.box?, PF.get, loadB, TyK.agg, *]; rfl) (List.nil_sublist _) ?_
      exact ⟨by simp [tupP, PV.norm2, PV.norm1, PV.norm0], rfl⟩
    · by_cases h24 : 24 < n
      · have hR : splitT t n = ([], .mk 0 0 [], 2) := by unfold splitT; rw [if_neg (by rw [hb]; simp; omega), if_pos h24]
        rw [hR]
        unfold splitP
        simp only [aggD, encD_tm, List.map_cons, List.map_nil, Tm.kind_mk, Tm.num_mk, Tm.sub_mk] at hS ⊢
        refine PCalls.enter Tryz.func84 rfl Tryz.ntmps84 (by simp) ?_
        simp only [argsF]
        refine go_ ?_
        refine POps_box_a ?_
        intro i0 hi0
        refine go_ ?_
        refine POps_alloc_a ?_
        intro i1 hi1
        try simp only [St.freshB_box, St.freshB_nil, St.freshB_tok, St.freshB_obj] at hi1
        refine go_ ?_
        refine POps_call_a (hS.out) ?_
        refine go_ ?_
        refine Rd ?_
        refine go_ ?_
        refine retP_ok (by simp) (by simp only [Tryz.results84]; rfl) (by simp [resP, St.box?, PF.get, loadB, TyK.agg, *]; rfl) (List.nil_sublist _) ?_
        exact ⟨by simp [tupP, PV.norm2, PV.norm1, PV.norm0], rfl⟩
      · obtain ⟨m, rfl⟩ : ∃ m : Nat, n = m := ⟨n.toNat, by omega⟩
        have hR := split_in hb (by omega) (show (m : Int) ≤ 24 by omega)
        have hg := (shaped_hg hb).1
        obtain ⟨R, hR0⟩ : ∃ R, R = cutPi m t := ⟨_, rfl⟩
        rw [hR, Int.toNat_natCast, ← hR0]
        have HR0 : Hid (R = joinC [] (cutPi m t)) := by show _ = _; rw [joinC_nil, hR0]
        have hm24 : m ≤ 24 := by omega
        have HG := Lib.hid hg
        clear hb hR hR0 hg h0
        unfold splitP
        simp only [aggD, encD_tm, List.map_cons, List.map_nil] at hS ⊢
        refine PCalls.enter Tryz.func84 rfl Tryz.ntmps84 (by simp) ?_
        simp only [argsF]
        refine go_ ?_
        refine POps_box_a ?_
        intro i0 hi0
        refine go_ ?_
        refine POps_alloc_a ?_
        intro i1 hi1
        try simp only [St.freshB_box, St.freshB_nil, St.freshB_tok, St.freshB_obj] at hi1
        refine go_ ?_
        refine POps_call_a (hS.out) ?_
        refine gs_ ?_
        refine Qc ?_
        refine gs_ ?_
        refine Qc ?_
        refine gs_ ?_
        refine POps_bs0 ?_ (by decide) (by first | (simp [nev, nevA, nevB, evBuild, PF.eval, PF.get, PF.wants, cPV, cCell, PV.rows, evBin, evUn, evConv, evLen, loadA, loadB, TyK.agg, partA, St.box?, St.tok?, St.setBox, St.setTok, fillO, spl, PV.ps, PV.one, evalArgs, aggD, slD, encD_nd, encD_bd, encD_rw, encD_dc, encD_str, encD_int, *]; done) | fail) (by simp; rfl) (by rfl) (by simp; rfl) (by rfl) (by decide)
        intro g hg
        refine go_ ?_
        refine PW_loop (ι := Nat × List Tm × Tm) (fun y => y.1 ≤ m ∧ y.2.1.length = y.1 ∧ Hid (goodB y.2.2 = true) ∧ Hid (R = joinC y.2.1 (cutPi (m - y.1) y.2.2))) (fun y => [(1, .d (.v (.int .i64 m))), (2, .ptr i0 0), (5, .ptr i1 0), (7, .own g (y.2.1.map encD)), (8, .d (.v (.int .i64 (y.1 : Int))))]) (fun y => [.tok g 27 3 y.2.1.length, .box i1 27 [.d (.v (.int .i64 0)), .d (.v (.int .i64 0)), .nils], .box i0 27 [.d (.v (.int .i64 y.2.2.kind)), .d (.v (.int .i64 y.2.2.num)), .d (.sl (y.2.2.sub.map encD))]]) (fun y => m - y.1) (0, [], t) ⟨Nat.zero_le _, rfl, HG.out, HR0.out⟩ ?_ ?_ ?_
        · repeat (first | exact sub_nil _ | refine sub_cons (by simp [PF.get]; rfl) (by first | rfl | (simp [*]; done) | fail) ?_)
        · repeat (first | exact List.Sublist.refl _ | exact List.nil_sublist _ | refine List.Sublist.cons_cons _ ?_ | refine List.Sublist.cons _ ?_)
        · rintro ⟨j, l, x⟩ ⟨hj, hl, hgx, hR⟩
          simp only at hj hl hgx hR ⊢
          have HL := Lib.hid hl
          clear HR0 HG hl
          by_cases hlt : j < m
          · have hc : (j : Int) < m := by omega
            have hin := wr64 (n := (j : Int) + 1) (by omega) (by omega)
            by_cases h3 : x.kind = 3
            · obtain ⟨a, b, rfl, ha, hb⟩ := good_pi hgx.out h3
              have hR2 : Hid (R = joinC (l ++ [a]) (cutPi (m - (j + 1)) b)) := by
                show _ = _
                rw [show R = _ from hR.out, show m - j = (m - (j + 1)) + 1 by omega, cutPi_pi, joinC_step]
              clear hR h3 hgx
              simp only [Tm.kind_mk, Tm.num_mk, Tm.sub_mk, List.map_cons, List.map_nil]
              refine go_ ?_
              refine POps_bs_a ?_
              refine go_ ?_
              have hl8 : l.length ≤ 24 := by have := HL.out; omega
              refine POps_app_a (l.length + 1) ?_ ?_ ?_ ?_
              · simp
              · exact rows3 _
              · exact rows_one rfl
              refine go_ ?_
              refine Rd ?_
              refine go_ ?_
              refine ⟨(j + 1, l ++ [a], b), ⟨hlt, by simp only; rw [List.length_append, show l.length = j from HL.out]; rfl, hb, hR2⟩, by simp only; omega, ?_, ?_⟩
              · repeat (first | exact sub_nil _ | refine sub_cons (by simp [PF.get]; rfl) (by first | rfl | (simp [hin]; done) | fail) ?_)
              · simp only [List.length_append, List.length_singleton]
                repeat (first | exact List.Sublist.refl _ | exact List.nil_sublist _ | refine List.Sublist.cons_cons _ ?_ | refine List.Sublist.cons _ ?_)
            · have hf : Hid (R = none) := by
                show _ = _
                rw [show R = _ from hR.out, show m - j = (m - (j + 1)) + 1 by omega, cutPi_no h3]; rfl
              clear hR
              refine go_ ?_
              refine Rd ?_
              refine go_ ?_
              refine retP_ok (by simp) (by simp only [Tryz.results84]; rfl) (by simp [resP, St.box?, PF.get, loadB, TyK.agg, *]; rfl) (List.nil_sublist _) ?_
              exact ⟨by rw [hf.out]; simp [splitO, tupP, PV.norm2, PV.norm1, PV.norm0], rfl⟩
          · have hc : ¬ (j : Int) < m := by omega
            have hf : Hid (R = some (l, x)) := by
              show _ = _
              rw [show R = _ from hR.out, show m - j = 0 by omega]
              simp [cutPi, joinC]
            clear hR
            refine go_ ?_
            refine PW_drawn [(0, .a), (1, .b), (2, .a), (3, .e), (4, .a)] (by kernel_rfl) (by rfl) (by kernel_rfl) ?_
            refine go_ ?_
            refine POrd_store_a ?_
            refine go_ ?_
            refine retP_ok (by simp) (by simp only [Tryz.results84]; rfl) (by simp [resP, St.box?, PF.get, loadB, TyK.agg, *]; rfl) (List.nil_sublist _) ?_
            exact ⟨by rw [hf.out]; simp [splitO, tupP, PV.norm2, PV.norm1, PV.norm0], rfl⟩
end Go.Proofs.YtfnfbbmegdkhjaaGreat

namespace Go.Proofs.YtfnfbbmegdkhjaaGreat
open Go.RowKit
set_option maxRecDepth 100000
def fam4R (l : List En) (x : En) (n : Nat) : Bool := match l[n]? with | some d => shapedB d.ty && (((teleT d.ty).length : Int) == x.pars + x.fields.length) | none => false
def fam3R (l : List En) (x : En) (i : Nat) : Bool := ((x.fields.length : Int) == 0) || ((x.inds == 0) && (((x.cons.length : Int) == 1) && ((runW x.fields ((i : Int) + 2) 0 && membersW l i x.fields 4 0) && fam4R l x (i + 1))))
/-- the document's family -/
def famR (l : List En) (x : En) (i : Nat) : Bool := fam1 x && (fam2 l x i (splitT x.ty (x.pars + x.inds)) && fam3R l x i)
set_option maxHeartbeats 8000000 in
theorem rfamily_p (l : List En) (i : Nat) (hi : i < l.length) (hl : l.length ≤ 3000000000000000000) (ho : EnOk l[i]) : PCalls Tryz.prog 49 [.d (.sl (l.map encD)), .d (.v (.int .i64 i))] [] fun p s => p = .d (.v (.bool (famR l l[i] i))) ∧ s = [] := by
  obtain ⟨R, hR⟩ : ∃ R, R = famR l l[i] i := ⟨_, rfl⟩
  rw [← hR]
  have hn : (0 : Int) ≤ i := by omega
  have hx3 : l[i]? = some l[i] := List.getElem?_eq_getElem hi
  unfold famR at hR
  generalize l[i] = x at *
  have hN := Lib.hid (rzero_p x.body)
  simp only [aggD, encD_tm, List.map_cons, List.map_nil] at hN
  have hw1 := wr64 (n := (i : Int) + 1) (by omega) (by omega)
  have hw2 := wr64 (n := (i : Int) + 2) (by omega) (by omega)
  have HO := Lib.hid ho
  have HL := Lib.hid (show i + 1 < 4000000000000000000 by omega)
  have HR := Lib.hid hR
  clear hR hi ho hl
  refine PCalls.enter Tryz.func49 rfl Tryz.ntmps49 (by simp) ?_
  simp only [argsF]
  refine go_ ?_
  refine POps_alloc_a ?_
  intro i0 hi0
  refine go_ ?_
  refine Rd ?_
  refine go_ ?_
  by_cases a1 : 0 ≤ x.pars
  rotate_left
  · have a1b : x.pars < 0 := by omega
    have HF : Hid (R = false) := by show _ = _; rw [show R = _ from HR.out]; unfold fam1; skip; simp [a1]
    clear HR a1 
    refine go_ ?_
    refine retP_ok (by simp) (by simp only [Tryz.results49]; rfl) (by simp [resP, St.box?, PF.get, loadB, TyK.agg, *]; rfl) (List.nil_sublist _) ?_
    exact ⟨by rw [HF.out]; rfl, rfl⟩
  have a1c : ¬ x.pars < 0 := by omega
  refine go_ ?_
  by_cases a2 : 0 ≤ x.inds
  rotate_left
  · have a2b : x.inds < 0 := by omega
    have HF : Hid (R = false) := by show _ = _; rw [show R = _ from HR.out]; unfold fam1; skip; simp [a2]
    clear HR a2 
    refine go_ ?_
    refine retP_ok (by simp) (by simp only [Tryz.results49]; rfl) (by simp [resP, St.box?, PF.get, loadB, TyK.agg, *]; rfl) (List.nil_sublist _) ?_
    exact ⟨by rw [HF.out]; rfl, rfl⟩
  have a2c : ¬ x.inds < 0 := by omega
  refine go_ ?_
  by_cases a3 : x.pars ≤ 24
  rotate_left
  · have a3b : 24 < x.pars := by omega
    have HF : Hid (R = false) := by show _ = _; rw [show R = _ from HR.out]; unfold fam1; skip; simp [a3]
    clear HR a3 
    refine go_ ?_
    refine retP_ok (by simp) (by simp only [Tryz.results49]; rfl) (by simp [resP, St.box?, PF.get, loadB, TyK.agg, *]; rfl) (List.nil_sublist _) ?_
    exact ⟨by rw [HF.out]; rfl, rfl⟩
  have a3c : ¬ 24 < x.pars := by omega
  refine go_ ?_
  by_cases a4 : x.inds ≤ 24
  rotate_left
  · have a4b : 24 < x.inds := by omega
    have HF : Hid (R = false) := by show _ = _; rw [show R = _ from HR.out]; unfold fam1; try rw [decide_eq_false (show ¬ x.inds ≤ 24 - x.pars by omega)]; simp [a4]
    clear HR a4 
    refine go_ ?_
    refine retP_ok (by simp) (by simp only [Tryz.results49]; rfl) (by simp [resP, St.box?, PF.get, loadB, TyK.agg, *]; rfl) (List.nil_sublist _) ?_
    exact ⟨by rw [HF.out]; rfl, rfl⟩
  have a4c : ¬ 24 < x.inds := by omega
  refine go_ ?_
  have hw3 := wr64 (n := x.pars + x.inds) (by omega) (by omega)
  refine go_ ?_
  by_cases a8 : x.pars + x.inds ≤ 24
  rotate_left
  · have a8b : 24 < x.pars + x.inds := by omega
    have HF : Hid (R = false) := by show _ = _; rw [show R = _ from HR.out]; unfold fam1; try rw [decide_eq_false (show ¬ x.inds ≤ 24 - x.pars by omega)]; simp [a8]
    clear HR a8 
    refine go_ ?_
    refine retP_ok (by simp) (by simp only [Tryz.results49]; rfl) (by simp [resP, St.box?, PF.get, loadB, TyK.agg, *]; rfl) (List.nil_sublist _) ?_
    exact ⟨by rw [HF.out]; rfl, rfl⟩
  have a8c : ¬ 24 < x.pars + x.inds := by omega
  refine go_ ?_
  have a9 : x.inds ≤ 24 - x.pars := by omega
  by_cases a5 : x.of_ = 0
  rotate_left
  · have a5b : (x.of_ != 0) = true := bne_iff_ne.2 a5
    have HF : Hid (R = false) := by show _ = _; rw [show R = _ from HR.out]; unfold fam1; skip; simp [a5]
    clear HR a5 
    refine go_ ?_
    refine retP_ok (by simp) (by simp only [Tryz.results49]; rfl) (by simp [resP, St.box?, PF.get, loadB, TyK.agg, *]; rfl) (List.nil_sublist _) ?_
    exact ⟨by rw [HF.out]; rfl, rfl⟩
  have a5c : (x.of_ != 0) = false := by rw [a5]; rfl
  refine go_ ?_
  by_cases a6 : x.place = 0
  rotate_left
  · have a6b : (x.place != 0) = true := bne_iff_ne.2 a6
    have HF : Hid (R = false) := by show _ = _; rw [show R = _ from HR.out]; unfold fam1; skip; simp [a6]
    clear HR a6 
    refine go_ ?_
    refine retP_ok (by simp) (by simp only [Tryz.results49]; rfl) (by simp [resP, St.box?, PF.get, loadB, TyK.agg, *]; rfl) (List.nil_sublist _) ?_
    exact ⟨by rw [HF.out]; rfl, rfl⟩
  have a6c : (x.place != 0) = false := by rw [a6]; rfl
  refine go_ ?_
  refine POps_call_b (hN.out) ?_
  refine go_ ?_
  clear hN
  by_cases a7 : noneT x.body = true
  rotate_left
  · have a7b : noneT x.body = false := by simpa using a7
    have HF : Hid (R = false) := by show _ = _; rw [show R = _ from HR.out]; unfold fam1; skip; simp [a7]
    clear HR a7 
    refine go_ ?_
    refine retP_ok (by simp) (by simp only [Tryz.results49]; rfl) (by simp [resP, St.box?, PF.get, loadB, TyK.agg, *]; rfl) (List.nil_sublist _) ?_
    exact ⟨by rw [HF.out]; rfl, rfl⟩
  have a7c : noneT x.body = noneT x.body := rfl
  refine go_ ?_
  have HR1 : Hid (R = (fam2 l x i (splitT x.ty (x.pars + x.inds)) && fam3R l x i)) := by
    show _ = _
    rw [show R = _ from HR.out]
    unfold fam1
    simp [a1, a2, a3, a9, a5, a6, a7]
  clear HR
  have HB := Lib.hid (And.intro (And.intro a1 a3) (And.intro a2 a9))
  clear a1 a2 a3 a4 a5 a6 a7 a8 a8c
  clear a1c a2c a3c a4c a5c a6c
  have hW := Lib.hid (rSplit_p x.ty (x.pars + x.inds))
  unfold fam2 at HR1
  generalize splitT x.ty (x.pars + x.inds) = W at *
  obtain ⟨sl, sx, se⟩ := W
  simp only at HR1
  unfold splitP at hW
  simp only [aggD, encD_tm, List.map_cons, List.map_nil] at hW
  refine go_ ?_
  refine POps_call_a (hW.out) ?_
  refine go_ ?_
  clear hW
  refine POps_alloc_a ?_
  intro i1 hi1
  try simp only [St.freshB_box, St.freshB_nil, St.freshB_tok, St.freshB_obj] at hi1
  refine go_ ?_
  refine Rd ?_
  refine go_ ?_
  by_cases b1 : se = 0
  rotate_left
  · have b1b : (se != 0) = true := bne_iff_ne.2 b1
    have HF : Hid (R = false) := by show _ = _; rw [show R = _ from HR1.out]; skip; skip; simp [b1]
    clear HR1 b1 
    refine go_ ?_
    refine retP_ok (by simp) (by simp only [Tryz.results49]; rfl) (by simp [resP, St.box?, PF.get, loadB, TyK.agg, *]; rfl) (List.nil_sublist _) ?_
    exact ⟨by rw [HF.out]; rfl, rfl⟩
  have b1c : (se != 0) = false := by rw [b1]; rfl
  refine go_ ?_
  by_cases b2 : sx.kind = 2
  rotate_left
  · have b2b : (sx.kind != 2) = true := bne_iff_ne.2 b2
    have HF : Hid (R = false) := by show _ = _; rw [show R = _ from HR1.out]; skip; skip; simp [b2]
    clear HR1 b2 
    refine go_ ?_
    refine retP_ok (by simp) (by simp only [Tryz.results49]; rfl) (by simp [resP, St.box?, PF.get, loadB, TyK.agg, *]; rfl) (List.nil_sublist _) ?_
    exact ⟨by rw [HF.out]; rfl, rfl⟩
  have b2c : (sx.kind != 2) = false := by rw [b2]; rfl
  refine go_ ?_
  by_cases b3 : sx.num = x.level
  rotate_left
  · have b3b : (sx.num != x.level) = true := bne_iff_ne.2 b3
    have HF : Hid (R = false) := by show _ = _; rw [show R = _ from HR1.out]; skip; skip; simp [b3]
    clear HR1 b3 
    refine go_ ?_
    refine retP_ok (by simp) (by simp only [Tryz.results49]; rfl) (by simp [resP, St.box?, PF.get, loadB, TyK.agg, *]; rfl) (List.nil_sublist _) ?_
    exact ⟨by rw [HF.out]; rfl, rfl⟩
  have b3c : (sx.num != x.level) = false := by rw [b3]; simp
  refine go_ ?_
  by_cases b4 : (x.cons.length : Int) ≤ 16
  rotate_left
  · have b4b : 16 < (x.cons.length : Int) := by omega
    have HF : Hid (R = false) := by show _ = _; rw [show R = _ from HR1.out]; skip; skip; simp [b4]
    clear HR1 b4 
    refine go_ ?_
    refine retP_ok (by simp) (by simp only [Tryz.results49]; rfl) (by simp [resP, St.box?, PF.get, loadB, TyK.agg, *]; rfl) (List.nil_sublist _) ?_
    exact ⟨by rw [HF.out]; rfl, rfl⟩
  have b4c : ¬ 16 < (x.cons.length : Int) := by omega
  refine go_ ?_
  have hrw := Lib.hid (rrow_p l x.cons ((i : Int) + 1) i 2)
  generalize hRw : (runW x.cons ((i : Int) + 1) 0 && membersW l i x.cons 2 0) = Rw at *
  have hRw2 := Lib.hid hRw
  clear hRw
  refine POps_call_b (hrw.out) ?_
  refine go_ ?_
  clear hrw
  by_cases b5 : Rw = true
  rotate_left
  · have b5b : Rw = false := by simpa using b5
    have HF : Hid (R = false) := by show _ = _; rw [show R = _ from HR1.out]; skip; skip; simp [b5]
    clear HR1 b5 
    refine go_ ?_
    refine retP_ok (by simp) (by simp only [Tryz.results49]; rfl) (by simp [resP, St.box?, PF.get, loadB, TyK.agg, *]; rfl) (List.nil_sublist _) ?_
    exact ⟨by rw [HF.out]; rfl, rfl⟩
  have b5c : 0 = 0 := rfl
  refine go_ ?_
  have HR2 : Hid (R = fam3R l x i) := by
    show _ = _
    rw [show R = _ from HR1.out]
    simp only [b1, b2, b3, b4, b5, decide_true, beq_self_eq_true, Bool.true_and]
  clear HR1
  have HC := Lib.hid (fun h => one_con (l := l) h HL.out (Bool.and_eq_true_iff.1 (hRw2.out.trans b5)).1 (Bool.and_eq_true_iff.1 (hRw2.out.trans b5)).2)
  clear b1 b2 b3 b4 b5 b1c b2c b3c b4c b5c HL hRw2
  unfold fam3R at HR2
  by_cases c1 : (x.fields.length : Int) = 0
  · have c1b : ((x.fields.length : Int) == 0) = true := beq_iff_eq.2 c1
    have HF : Hid (R = true) := by show _ = _; rw [show R = _ from HR2.out, c1b]; rfl
    clear c1 HR2 HC
    refine go_ ?_
    refine retP_ok (by simp) (by simp only [Tryz.results49]; rfl) (by simp [resP, St.box?, PF.get, loadB, TyK.agg, *]; rfl) (List.nil_sublist _) ?_
    exact ⟨by rw [HF.out]; rfl, rfl⟩
  have c1b : ((x.fields.length : Int) == 0) = false := beq_eq_false_iff_ne.2 c1
  have HR3 : Hid (R = ((x.inds == 0) && (((x.cons.length : Int) == 1) && ((runW x.fields ((i : Int) + 2) 0 && membersW l i x.fields 4 0) && fam4R l x (i + 1))))) := by show _ = _; rw [show R = _ from HR2.out, c1b]; rfl
  clear HR2 c1
  refine go_ ?_
  refine PW_drawn [(0, .a), (1, .b), (2, .a), (3, .a), (4, .a), (5, .b), (6, .a), (7, .a), (8, .a), (9, .a), (10, .a), (11, .a), (12, .b), (13, .a), (14, .a), (15, .a), (16, .a), (17, .a), (18, .a), (19, .a), (20, .a), (21, .a), (22, .a), (23, .a), (24, .a), (25, .a), (26, .a), (27, .a), (28, .a), (29, .a), (30, .a), (31, .a), (32, .a), (33, .a), (34, .a), (35, .a), (36, .a), (37, .b), (38, .a), (39, .b), (40, .a), (41, .a), (42, .a), (43, .a), (44, .a)] (by kernel_rfl) (by rfl) (by kernel_rfl) ?_
  refine go_ ?_
  by_cases d1 : x.inds = 0
  rotate_left
  · have d1b : (x.inds == 0) = false := beq_eq_false_iff_ne.2 d1
    have HF : Hid (R = false) := by show _ = _; rw [show R = _ from HR3.out]; skip; skip; simp [d1]
    clear HR3 d1 
    refine go_ ?_
    refine retP_ok (by simp) (by simp only [Tryz.results49]; rfl) (by simp [resP, St.box?, PF.get, loadB, TyK.agg, *]; rfl) (List.nil_sublist _) ?_
    exact ⟨by rw [HF.out]; rfl, rfl⟩
  have d1c : (x.inds == 0) = true := by rw [d1]; rfl
  refine go_ ?_
  by_cases d2 : (x.cons.length : Int) = 1
  rotate_left
  · have d2b : ((x.cons.length : Int) == 1) = false := beq_eq_false_iff_ne.2 d2
    have HF : Hid (R = false) := by show _ = _; rw [show R = _ from HR3.out]; skip; skip; simp [d2]
    clear HR3 d2 
    refine go_ ?_
    refine retP_ok (by simp) (by simp only [Tryz.results49]; rfl) (by simp [resP, St.box?, PF.get, loadB, TyK.agg, *]; rfl) (List.nil_sublist _) ?_
    exact ⟨by rw [HF.out]; rfl, rfl⟩
  have d2c : ((x.cons.length : Int) == 1) = true := by rw [d2]; rfl
  refine go_ ?_
  have hrw := Lib.hid (rrow_p l x.fields ((i : Int) + 2) i 4)
  generalize (runW x.fields ((i : Int) + 2) 0 && membersW l i x.fields 4 0) = Rv at *
  refine POrd_call_b (hrw.out) ?_
  refine go_ ?_
  clear hrw
  by_cases d3 : Rv = true
  rotate_left
  · have d3b : Rv = false := by simpa using d3
    have HF : Hid (R = false) := by show _ = _; rw [show R = _ from HR3.out]; skip; skip; simp [d3]
    clear HR3 d3 
    refine go_ ?_
    refine retP_ok (by simp) (by simp only [Tryz.results49]; rfl) (by simp [resP, St.box?, PF.get, loadB, TyK.agg, *]; rfl) (List.nil_sublist _) ?_
    exact ⟨by rw [HF.out]; rfl, rfl⟩
  have d3c : 0 = 0 := rfl
  refine go_ ?_
  have hil := HC.out d2
  have hd : l[i + 1]? = some l[i + 1] := List.getElem?_eq_getElem hil
  have HR4 : Hid (R = fam4R l x (i + 1)) := by
    show _ = _
    rw [show R = _ from HR3.out]
    simp [d1, d2, d3]
  clear HR3 HC d1 d2 d1c d2c d3c
  unfold fam4R at HR4
  rw [hd] at HR4
  have hil2 := Lib.hid hil
  generalize l[i + 1] = d at *
  clear hil
  simp only at HR4
  have hV := Lib.hid (rshaped_p d.ty)
  simp only [aggD, encD_tm, List.map_cons, List.map_nil] at hV
  have hc1 : (0 : Int) ≤ (i : Int) + 1 := by omega
  have hc2 : ((i : Int) + 1).toNat = i + 1 := by omega
  refine go_ ?_
  refine POrd_call_b (hV.out) ?_
  refine go_ ?_
  clear hV

  cases e1 : shapedB d.ty with
  | false =>
    have HF : Hid (R = false) := by show _ = _; rw [show R = _ from HR4.out, e1]; rfl
    clear HR4
    refine go_ ?_
    refine retP_ok (by simp) (by simp only [Tryz.results49]; rfl) (by simp [resP, St.box?, PF.get, loadB, TyK.agg, *]; rfl) (List.nil_sublist _) ?_
    exact ⟨by rw [HF.out]; rfl, rfl⟩
  | true =>
  have hg := shaped_hg e1
  have hT := Lib.hid (rTele_p d.ty hg.1 (by have := hg.2.2; omega))
  simp only [aggD, encD_tm, List.map_cons, List.map_nil] at hT
  have hw5 := wr64 (n := x.pars + x.fields.length) (by have := HB.out.1; omega) (by have := HB.out.1; have := HO.out.2; omega)
  have HF : Hid (R = (((teleT d.ty).length : Int) == x.pars + x.fields.length)) := by show _ = _; rw [show R = _ from HR4.out, e1]; rfl
  clear HR4 hg
  generalize teleT d.ty = tl at *
  refine go_ ?_
  refine POrd_call_b (hT.out) ?_
  refine go_ ?_
  clear hT
  refine go_ ?_
  refine retP_ok (by simp) (by simp only [Tryz.results49]; rfl) (by simp [resP, St.box?, PF.get, loadB, TyK.agg, *]; rfl) (List.nil_sublist _) ?_
  exact ⟨by rw [HF.out]; rfl, rfl⟩
end Go.Proofs.YtfnfbbmegdkhjaaGreat

namespace Go.Proofs.YtfnfbbmegdkhjaaGreat
open Go.RowKit
set_option maxRecDepth 100000
theorem tele_whole : ∀ (m : Nat) (t : Tm), cndT t ≤ m → shapedB t = true → (teleT t).length = piN t ∧ cutPi (piN t) t = some (teleT t, benT t) ∧ (∀ n, n ≤ piN t → ∃ y, cutPi n t = some ((teleT t).take n, y)) ∧ (∀ n, piN t < n → cutPi n t = none) ∧ shapedB (benT t) = true ∧ ∀ s ∈ teleT t, shapedB s = true := by
  intro m
  induction m with
  | zero => intro t h; have := cndT_pos t; omega
  | succ m ih =>
    intro t h hs
    by_cases hk : t.kind = 3
    · obtain ⟨y, b, rfl, hy, hb⟩ := good_pi (shaped_hg hs).1 hk
      rw [cnd_two] at h
      have hp := cndT_pos y
      have hsp := shaped_pi hs
      obtain ⟨h1, h2, h3, h4, h5, h6⟩ := ih b (by omega) hsp.2
      rw [(tele_pi 0 y b).1, (tele_pi 0 y b).2, piN_pi]
      refine ⟨by rw [List.length_cons, h1], by rw [cutPi_pi, h2]; rfl, ?_, ?_, h5, ?_⟩
      · intro n hn
        cases n with
        | zero => exact ⟨_, rfl⟩
        | succ n =>
          obtain ⟨z, hz⟩ := h3 n (by omega)
          exact ⟨z, by rw [cutPi_pi, hz]; rfl⟩
      · intro n hn
        cases n with
        | zero => omega
        | succ n => rw [cutPi_pi, h4 n (by omega)]; rfl
      · intro s hm
        cases hm with
        | head => exact hsp.1
        | tail _ hm => exact h6 s hm
    · rw [(tele_no hk).1, (tele_no hk).2, piN_no (fun e => hk e.1)]
      refine ⟨rfl, rfl, ?_, ?_, hs, by simp⟩
      · intro n hn
        obtain rfl : n = 0 := by omega
        exact ⟨t, rfl⟩
      · intro n hn
        cases n with
        | zero => omega
        | succ n => exact cutPi_no hk
theorem whole_in {t : Tm} (hs : shapedB t = true) (h : (teleT t).length ≤ 24) : wholeT t = (teleT t, benT t, 0) := by
  obtain ⟨h1, h2, -⟩ := tele_whole _ t (Nat.le_refl _) hs
  unfold wholeT
  rw [show min (piN t : Int) 25 = (piN t : Int) by omega, split_in hs (by omega) (by omega), Int.toNat_natCast, h2]; rfl
theorem whole_out {t : Tm} (hs : shapedB t = true) (h : ¬ (teleT t).length ≤ 24) : wholeT t = ([], .mk 0 0 [], 2) := by
  obtain ⟨h1, h2, -⟩ := tele_whole _ t (Nat.le_refl _) hs
  unfold wholeT splitT
  rw [show min (piN t : Int) 25 = 25 by omega, if_neg (by rw [hs]; simp), if_pos (by omega)]
theorem whole_bad {t : Tm} (hs : shapedB t = false) : wholeT t = ([], .mk 0 0 [], 5) := by
  unfold wholeT splitT
  rw [if_pos (.inl hs)]
theorem split_le {t : Tm} {n : Nat} (hs : shapedB t = true) (h24 : n ≤ 24) (h : n ≤ (teleT t).length) : ∃ y, splitT t n = ((teleT t).take n, y, 0) := by
  obtain ⟨h1, h2, h3, -⟩ := tele_whole _ t (Nat.le_refl _) hs
  obtain ⟨y, hy⟩ := h3 n (by omega)
  exact ⟨y, by rw [split_in hs (by omega) (by omega), Int.toNat_natCast, hy]; rfl⟩
theorem split_gt {t : Tm} {n : Nat} (hs : shapedB t = true) (h24 : n ≤ 24) (h : (teleT t).length < n) : (splitT t n).2.2 = 6 := by
  obtain ⟨h1, h2, h3, h4, -⟩ := tele_whole _ t (Nat.le_refl _) hs
  rw [split_in hs (by omega) (by omega), Int.toNat_natCast, h4 n (by omega)]; rfl
theorem split_big {t : Tm} {n : Int} (hs : shapedB t = true) (h24 : 24 < n) : (splitT t n).2.2 = 2 := by
  unfold splitT
  rw [if_neg (by rw [hs]; simp; omega), if_pos h24]
/-- the constructor's last test, told by the whole telescope -/
theorem con_tele {l : List En} {x : En} (hs : shapedB x.ty = true) : (((wholeT x.ty).2.2 == 0) && (decide (x.pars ≤ (wholeT x.ty).1.length) && appliedT (wholeT x.ty).2.1 x.of_ x.pars (indsOf l x.of_) (wholeT x.ty).1.length)) =
    (decide (((teleT x.ty).length : Int) ≤ 24) && (decide (x.pars ≤ (teleT x.ty).length) && appliedT (benT x.ty) x.of_ x.pars (indsOf l x.of_) (teleT x.ty).length)) := by
  by_cases h : (teleT x.ty).length ≤ 24
  · rw [whole_in hs h, decide_eq_true (show ((teleT x.ty).length : Int) ≤ 24 by omega)]; rfl
  · rw [whole_out hs h, decide_eq_false (show ¬ ((teleT x.ty).length : Int) ≤ 24 by omega)]; rfl
/-- the projection's -/
theorem proj_tele {x : En} (hs : shapedB x.ty = true) (h0 : 0 ≤ x.pars) : (((splitT x.ty (x.pars + 1)).2.2 == 0) && (match (splitT x.ty (x.pars + 1)).1[x.pars.toNat]? with | some t => appliedT t x.of_ x.pars 0 x.pars | none => false)) =
    (decide (x.pars + 1 ≤ 24) && (decide (x.pars + 1 ≤ (teleT x.ty).length) && (match (teleT x.ty)[x.pars.toNat]? with | some t => appliedT t x.of_ x.pars 0 x.pars | none => false))) := by
  obtain ⟨m, hm⟩ : ∃ m : Nat, x.pars = m := ⟨x.pars.toNat, by omega⟩
  rw [hm, Int.toNat_natCast]
  by_cases h24 : (m : Int) + 1 ≤ 24
  · rw [decide_eq_true h24]
    by_cases hl : m + 1 ≤ (teleT x.ty).length
    · obtain ⟨y, hy⟩ := split_le hs (show m + 1 ≤ 24 by omega) hl
      rw [show ((m + 1 : Nat) : Int) = (m : Int) + 1 by omega] at hy
      rw [hy, decide_eq_true (show (m : Int) + 1 ≤ (teleT x.ty).length by omega)]
      simp only [beq_self_eq_true, Bool.true_and]
      rw [List.getElem?_take, if_pos (by omega)]
    · have := split_gt hs (show m + 1 ≤ 24 by omega) (show (teleT x.ty).length < m + 1 by omega)
      rw [show ((m + 1 : Nat) : Int) = (m : Int) + 1 by omega] at this
      rw [this, decide_eq_false (show ¬ (m : Int) + 1 ≤ (teleT x.ty).length by omega)]; rfl
  · rw [split_big hs (by omega), decide_eq_false h24]; rfl
end Go.Proofs.YtfnfbbmegdkhjaaGreat

namespace Go.Proofs.YtfnfbbmegdkhjaaGreat
open Go.RowKit
set_option maxRecDepth 100000
set_option maxHeartbeats 4000000 in
theorem clone_tm_p (l : List Tm) (hl : l.length ≤ 100000) : PCalls Tryz.prog 68 [.d (.sl (l.map encD))] [] fun p s => p = .d (.sl (l.map encD)) ∧ s = [] := by
  refine PCalls.enter Tryz.func68 rfl Tryz.ntmps68 (by simp) ?_
  simp only [argsF]
  refine go_ ?_
  refine POps_eqlNil (fun h0 => ?_) ?_
  · have hnil : l = [] := List.map_eq_nil_iff.1 h0
    subst hnil
    clear h0
    refine go_ ?_
    refine retP_ok (by simp) (by simp only [Tryz.results68]; rfl) (by simp [resP, St.box?, PF.get, loadB, TyK.agg, *]; rfl) (List.nil_sublist _) ?_
    exact ⟨rfl, rfl⟩
  · refine go_ ?_
    refine POps_bs0 ?_ (by decide) (by first | (simp [nev, nevA, nevB, evBuild, PF.eval, PF.get, PF.wants, cPV, cCell, PV.rows, evBin, evUn, evConv, evLen, loadA, loadB, TyK.agg, partA, St.box?, St.tok?, St.setBox, St.setTok, fillO, spl, PV.ps, PV.one, evalArgs, aggD, slD, encD_nd, encD_bd, encD_rw, encD_dc, encD_str, encD_int, *]; done) | fail) (by simp; rfl) (by rfl) (by simp; rfl) (by rfl) (by decide)
    intro g hg
    refine go_ ?_
    refine POps_app_a l.length ?_ ?_ ?_ ?_
    · simp
    · simp
    · exact rows3 _
    refine go_ ?_
    refine retP_ok (by simp) (by simp only [Tryz.results68]; rfl) (by simp [resP, St.box?, PF.get, loadB, TyK.agg, *]; rfl) (List.nil_sublist _) ?_
    exact ⟨rfl, rfl⟩
set_option maxHeartbeats 4000000 in
theorem clone_int_p (l : List Int) (hl : l.length ≤ 100000) : PCalls Tryz.prog 61 [.d (.sl (l.map encD))] [] fun p s => p = .d (.sl (l.map encD)) ∧ s = [] := by
  refine PCalls.enter Tryz.func61 rfl Tryz.ntmps61 (by simp) ?_
  simp only [argsF]
  refine go_ ?_
  refine POps_eqlNil (fun h0 => ?_) ?_
  · have hnil : l = [] := List.map_eq_nil_iff.1 h0
    subst hnil
    clear h0
    refine go_ ?_
    refine retP_ok (by simp) (by simp only [Tryz.results61]; rfl) (by simp [resP, St.box?, PF.get, loadB, TyK.agg, *]; rfl) (List.nil_sublist _) ?_
    exact ⟨rfl, rfl⟩
  · refine go_ ?_
    refine POps_bs0 ?_ (by decide) (by first | (simp [nev, nevA, nevB, evBuild, PF.eval, PF.get, PF.wants, cPV, cCell, PV.rows, evBin, evUn, evConv, evLen, loadA, loadB, TyK.agg, partA, St.box?, St.tok?, St.setBox, St.setTok, fillO, spl, PV.ps, PV.one, evalArgs, aggD, slD, encD_nd, encD_bd, encD_rw, encD_dc, encD_str, encD_int, *]; done) | fail) (by simp; rfl) (by rfl) (by simp; rfl) (by rfl) (by decide)
    intro g hg
    refine go_ ?_
    refine POps_app_a l.length ?_ ?_ ?_ ?_
    · simp
    · simp
    · exact rows1 _
    refine go_ ?_
    refine retP_ok (by simp) (by simp only [Tryz.results61]; rfl) (by simp [resP, St.box?, PF.get, loadB, TyK.agg, *]; rfl) (List.nil_sublist _) ?_
    exact ⟨rfl, rfl⟩
theorem rows15 (l : List En) : ∀ row ∈ l.map encD, row.length = 15 := rows_of rfl
/-- room for so many entries -/
theorem grow_en_p (n : Nat) (hn : n ≤ 100000) : PCalls Tryz.prog 59 [.nils, .d (.v (.int .i64 n))] [] fun p s => ∃ g, p = .own g [] ∧ s = [.tok g 30 15 0] := by
  refine PCalls.made0 fun K w vs ha => ?_
  obtain ⟨v, u, rfl, hv, hu⟩ := ha.two
  have hu' := int_of hu
  subst hu'
  have hv' : v = .slice none 0 0 := by cases hv; rfl
  subst hv'
  obtain ⟨i0, hi0, hs0, hb0⟩ : ∃ i0, Tryz.prog.info? 30 = some i0 ∧ i0.size = 15 ∧ i0.bytes ≤ 1000 := ⟨_, rfl, by kernel_rfl, by decide +kernel⟩
  obtain ⟨z, hz⟩ : ∃ z, i0.zero = some z := by
    have : (Tryz.prog.info? 30).map (fun i => i.zero.isSome) = some true := by kernel_rfl
    rw [hi0] at this
    simp only [Option.map_some, Option.some.injEq] at this
    exact Option.isSome_iff_exists.1 this
  by_cases h0 : n = 0
  · subst h0
    refine (Any8.slices_Grow_room Tryz.grow59 none 0 0 0 w (Nat.le_refl _) (by omega) (by omega) (Nat.le_refl _)).mono ?_
    rintro e w' ⟨rfl, rfl⟩
    exact ⟨_, rfl, rfl, World.ownsRow_nil _ _ _ _, Below.refl _ _⟩
  · refine (Any8.slices_Grow_grow Tryz.grow59 i0 z hi0 hz (by omega) none 0 0 n [] w (Nat.le_refl _) (by omega) (by have : (0 + n) * i0.bytes ≤ 100000 * 1000 := Nat.mul_le_mul (by omega) hb0; omega) (by omega) (by simp) (fun _ => rfl) (fun a h => by cases h)).mono ?_
    rintro e w' ⟨rfl, rfl⟩
    have hzc : z.cells.size = 15 := by
      have : (Tryz.prog.info? 30).map (fun i => i.zero.map fun z => z.cells.size) = some (some 15) := by kernel_rfl
      rw [hi0] at this
      simp only [Option.map_some, Option.some.injEq] at this
      rw [hz] at this
      simpa using this
    have hGn := grownCap_ge w (0 + n) 0 30
    have hGm := grownCap_le_maxLen w (0 + n) 0 30 (by unfold maxLen; omega)
    refine ⟨_, rfl, rfl, ⟨by simp, .inr ⟨w.heap.size, _, _, rfl, Nat.le_refl _, Array.getElem?_push_size, Nat.zero_le _, hGm, ?_, by simp⟩⟩, ?_⟩
    · rw [Array.size_append, Array.size_append, size_zeroCells, size_zeroCells, hzc]
      show 0 + (0 + n - 0) * 15 + (grownCap w (0 + n) 0 30 - (0 + n)) * 15 = grownCap w (0 + n) 0 30 * 15
      omega
    · exact ((Below.refl w.heap.size w).drew).alloc (Nat.le_refl _) _
/-- two rows of entries, told as a row of rows -/
def catD (a b : List En) : List (List D) := [[.sl (a.map encD)], [.sl (b.map encD)]]
set_option maxHeartbeats 8000000 in
theorem concat_en_p (a b : List En) (hab : a.length + b.length ≤ 100000) : PCalls Tryz.prog 29 [.d (.sl (catD a b))] [] fun p s => p = .d (.sl ((a ++ b).map encD)) ∧ s = [] := by
  have hw1 := wr64 (n := (a.length : Int)) (by omega) (by omega)
  have hw2 := wr64 (n := (a.length : Int) + b.length) (by omega) (by omega)
  have hG := Lib.hid (grow_en_p (a.length + b.length) hab)
  rw [Int.natCast_add] at hG
  unfold catD
  refine PCalls.enter Tryz.func29 rfl Tryz.ntmps29 (by simp) ?_
  simp only [argsF]
  refine go_ ?_
  refine PW_loop (ι := Nat × Int) (fun y => (y.1 = 0 ∧ y.2 = 0) ∨ (y.1 = 1 ∧ y.2 = a.length) ∨ (y.1 = 2 ∧ y.2 = (a.length : Int) + b.length)) (fun y => [(3, .d (.v (.int .i64 y.2))), (0, .d (.sl [[.sl (a.map encD)], [.sl (b.map encD)]])), (9, .d (.sl [[.sl (a.map encD)], [.sl (b.map encD)]])), (10, .d (.v (.int .i64 2))), (11, .d (.v (.int .i64 (y.1 : Int))))]) (fun _ => []) (fun y => 2 - y.1) (0, 0) (.inl ⟨rfl, rfl⟩) ?_ ?_ ?_
  · repeat (first | exact sub_nil _ | refine sub_cons (by simp [PF.get]; rfl) (by first | rfl | (simp [*]; done) | fail) ?_)
  · repeat (first | exact List.Sublist.refl _ | exact List.nil_sublist _ | refine List.Sublist.cons_cons _ ?_ | refine List.Sublist.cons _ ?_)
  · rintro ⟨j, s⟩ hj
    simp only at hj ⊢
    rcases hj with ⟨rfl, rfl⟩ | ⟨rfl, rfl⟩ | ⟨rfl, rfl⟩
    · have hlt : ¬ ((0 : Int) + a.length < 0) := by omega
      have e0 : (0 : Int) + a.length = a.length := by omega
      refine go_ ?_
      exact ⟨(1, a.length), .inr (.inl ⟨rfl, rfl⟩), by simp, by repeat (first | exact sub_nil _ | refine sub_cons (by simp [PF.get]; rfl) (by first | rfl | (simp [*]; done) | fail) ?_), by repeat (first | exact List.Sublist.refl _ | exact List.nil_sublist _ | refine List.Sublist.cons_cons _ ?_ | refine List.Sublist.cons _ ?_)⟩
    · have hlt : ¬ ((a.length : Int) + b.length < 0) := by omega
      refine go_ ?_
      exact ⟨(2, (a.length : Int) + b.length), .inr (.inr ⟨rfl, rfl⟩), by simp, by repeat (first | exact sub_nil _ | refine sub_cons (by simp [PF.get]; rfl) (by first | rfl | (simp [*]; done) | fail) ?_), by repeat (first | exact List.Sublist.refl _ | exact List.nil_sublist _ | refine List.Sublist.cons_cons _ ?_ | refine List.Sublist.cons _ ?_)⟩
    · refine go_ ?_
      refine POps_callN hG.out ?_
      rintro _ _ ⟨g, rfl, rfl⟩
      simp only [List.cons_append, List.nil_append, List.append_nil, St.freshB_box, St.freshB_nil, St.freshB_tok]
      refine go_ ?_
      refine PW_loop (ι := Nat × List En) (fun y => (y.1 = 0 ∧ y.2 = []) ∨ (y.1 = 1 ∧ y.2 = a) ∨ (y.1 = 2 ∧ y.2 = a ++ b)) (fun y => [(6, .own g (y.2.map encD)), (25, .d (.sl [[.sl (a.map encD)], [.sl (b.map encD)]])), (26, .d (.v (.int .i64 2))), (27, .d (.v (.int .i64 (y.1 : Int))))]) (fun y => [.tok g 30 15 y.2.length]) (fun y => 2 - y.1) (0, []) (.inl ⟨rfl, rfl⟩) ?_ ?_ ?_
      · repeat (first | exact sub_nil _ | refine sub_cons (by simp [PF.get]; rfl) (by first | rfl | (simp [*]; done) | fail) ?_)
      · repeat (first | exact List.Sublist.refl _ | exact List.nil_sublist _ | refine List.Sublist.cons_cons _ ?_ | refine List.Sublist.cons _ ?_)
      · rintro ⟨j, s⟩ hj
        simp only at hj ⊢
        rcases hj with ⟨rfl, rfl⟩ | ⟨rfl, rfl⟩ | ⟨rfl, rfl⟩
        · refine go_ ?_
          refine POps_app_a a.length ?_ ?_ ?_ ?_
          · simp
          · simp
          · exact rows15 _
          refine go_ ?_
          exact ⟨(1, a), .inr (.inl ⟨rfl, rfl⟩), by simp, by repeat (first | exact sub_nil _ | refine sub_cons (by simp [PF.get]; rfl) (by first | rfl | (simp [*]; done) | fail) ?_), by repeat (first | exact List.Sublist.refl _ | exact List.nil_sublist _ | refine List.Sublist.cons_cons _ ?_ | refine List.Sublist.cons _ ?_)⟩
        · refine go_ ?_
          refine POps_app_a (s.length + b.length) ?_ ?_ ?_ ?_
          · simp
          · exact rows15 _
          · exact rows15 _
          refine go_ ?_
          refine ⟨(2, s ++ b), .inr (.inr ⟨rfl, rfl⟩), by simp, ?_, ?_⟩
          · repeat (first | exact sub_nil _ | refine sub_cons (by simp [PF.get]; rfl) (by first | rfl | (simp [*]; done) | fail) ?_)
          · simp only [List.length_append]
            repeat (first | exact List.Sublist.refl _ | exact List.nil_sublist _ | refine List.Sublist.cons_cons _ ?_ | refine List.Sublist.cons _ ?_)
        · refine go_ ?_
          refine retP_ok (by simp) (by simp only [Tryz.results29]; rfl) (by simp [resP, St.box?, PF.get, loadB, TyK.agg, *]; rfl) (List.nil_sublist _) ?_
          exact ⟨by rw [List.map_append]; rfl, rfl⟩
end Go.Proofs.YtfnfbbmegdkhjaaGreat

namespace Go.Proofs.YtfnfbbmegdkhjaaGreat
open Go.RowKit
set_option maxRecDepth 100000
/-- are two terms the same, or both none? -/
def sameTB (a b : Tm) : Bool := (shapedB a == shapedB b) && (!shapedB a || ceqT a b)
set_option maxHeartbeats 4000000 in
theorem rsameTerm_p (a b : Tm) : PCalls Tryz.prog 31 [aggD a, aggD b] [] fun p s => p = .d (.v (.bool (sameTB a b))) ∧ s = [] := by
  have hA := Lib.hid (rshaped_p a)
  have hB := Lib.hid (rshaped_p b)
  have hE := Lib.hid (requal_p a b)
  have HR := Lib.hid (show sameTB a b = ((shapedB a == shapedB b) && (!shapedB a || ceqT a b)) from rfl)
  generalize sameTB a b = R at *
  generalize ceqT a b = e at *
  generalize shapedB a = sa at *
  generalize shapedB b = sb at *
  simp only [aggD, encD_tm, List.map_cons, List.map_nil] at hA hB hE ⊢
  refine PCalls.enter Tryz.func31 rfl Tryz.ntmps31 (by simp) ?_
  simp only [argsF]
  refine go_ ?_
  refine POps_box_a ?_
  intro i0 hi0
  try simp only [St.freshB_box, St.freshB_nil, St.freshB_tok, St.freshB_obj] at hi0
  refine go_ ?_
  refine POps_box_a ?_
  intro i1 hi1
  try simp only [St.freshB_box, St.freshB_nil, St.freshB_tok, St.freshB_obj] at hi1
  refine go_ ?_
  refine PW_drawn [(0, .b), (1, .a), (2, .b), (3, .a), (4, .a)] (by kernel_rfl) (by rfl) (by kernel_rfl) ?_
  refine go_ ?_
  refine POrd_call_a (hA.out) ?_
  refine go_ ?_
  refine POrd_call_a (hB.out) ?_
  refine go_ ?_
  by_cases hab : sa = sb
  rotate_left
  · have hq : (sa == sb) = false := beq_eq_false_iff_ne.2 hab
    have hf : Hid (R = false) := by show _ = _; rw [show R = _ from HR.out, hq]; rfl
    clear HR hab
    refine go_ ?_
    refine retP_ok (by simp) (by simp only [Tryz.results31]; rfl) (by simp [resP, St.box?, PF.get, loadB, TyK.agg, *]; rfl) (List.nil_sublist _) ?_
    exact ⟨by rw [hf.out]; rfl, rfl⟩
  have hq : (sa == sb) = true := beq_iff_eq.2 hab
  have HR2 : Hid (R = (!sa || e)) := by show _ = _; rw [show R = _ from HR.out, hq]; rfl
  clear HR hab
  refine go_ ?_
  refine POps_call_a (hA.out) ?_
  refine go_ ?_
  rcases Bool.eq_false_or_eq_true (sa) with hs | hs
  rotate_left
  · have hf : Hid (R = true) := by show _ = _; rw [show R = _ from HR2.out, hs]; rfl
    clear HR2
    refine go_ ?_
    refine retP_ok (by simp) (by simp only [Tryz.results31]; rfl) (by simp [resP, St.box?, PF.get, loadB, TyK.agg, *]; rfl) (List.nil_sublist _) ?_
    exact ⟨by rw [hf.out]; rfl, rfl⟩
  have hf : Hid (R = e) := by show _ = _; rw [show R = _ from HR2.out, hs]; rfl
  clear HR2
  refine go_ ?_
  refine POps_call_b (hE.out) ?_
  refine go_ ?_
  refine retP_ok (by simp) (by simp only [Tryz.results31]; rfl) (by simp [resP, St.box?, PF.get, loadB, TyK.agg, *]; rfl) (List.nil_sublist _) ?_
  exact ⟨by rw [hf.out]; rfl, rfl⟩
def eqI : List Int → List Int → Bool
  | [], _ => true
  | _ :: _, [] => true
  | x :: a, y :: b => !(x != y) && eqI a b
def eqIs (a b : List Int) : Bool := !((a.length : Int) != b.length) && eqI a b
set_option maxHeartbeats 4000000 in
theorem rsameInts_p (a b : List Int) : PCalls Tryz.prog 32 [.d (.sl (a.map encD)), .d (.sl (b.map encD))] [] fun p s => p = .d (.v (.bool (eqIs a b))) ∧ s = [] := by
  have HR := Lib.hid (show eqIs a b = (!((a.length : Int) != b.length) && eqI (a.drop 0) (b.drop 0)) from rfl)
  generalize eqIs a b = R at *
  refine PCalls.enter Tryz.func32 rfl Tryz.ntmps32 (by simp) ?_
  simp only [argsF]
  refine PW_slen (t := 0) (rows := a.map encD) (by simp [PF.get] <;> rfl) rfl fun hml => ?_
  rw [List.length_map] at hml
  unfold maxLen at hml
  refine go_ ?_
  by_cases hl : (a.length : Int) = b.length
  rotate_left
  · have hq : ((a.length : Int) != b.length) = true := bne_iff_ne.2 hl
    have hf : Hid (R = false) := by show _ = _; rw [show R = _ from HR.out, hq]; rfl
    clear HR hl
    refine go_ ?_
    refine retP_ok (by simp) (by simp only [Tryz.results32]; rfl) (by simp [resP, St.box?, PF.get, loadB, TyK.agg, *]; rfl) (List.nil_sublist _) ?_
    exact ⟨by rw [hf.out]; rfl, rfl⟩
  have hq : ((a.length : Int) != b.length) = false := by rw [hl]; simp
  have HR0 : Hid (R = eqI (a.drop 0) (b.drop 0)) := by show _ = _; rw [show R = _ from HR.out, hq]; rfl
  have hab : a.length = b.length := by omega
  have HAB := Lib.hid hab
  clear HR hl hab
  refine go_ ?_
  refine PW_loop (ι := Nat) (fun y => y ≤ a.length ∧ Hid (R = eqI (a.drop y) (b.drop y))) (fun y => [(0, .d (.sl (a.map encD))), (1, .d (.sl (b.map encD))), (5, .d (.v (.int .i64 (y : Int))))]) (fun _ => []) (fun y => a.length - y) 0 ⟨Nat.zero_le _, HR0.out⟩ ?_ ?_ ?_
  · repeat (first | exact sub_nil _ | refine sub_cons (by simp [PF.get]; rfl) (by first | rfl | (simp [*]; done) | fail) ?_)
  · repeat (first | exact List.Sublist.refl _ | exact List.nil_sublist _ | refine List.Sublist.cons_cons _ ?_ | refine List.Sublist.cons _ ?_)
  · rintro j ⟨hj, hR⟩
    clear HR0 hq
    by_cases hlt : j < a.length
    · have hlt2 : j < b.length := by have := HAB.out; omega
      have hx := get_enc hlt
      have hy := get_enc hlt2
      have hc : (j : Int) < a.length := by omega
      have hc2 : (j : Int) < b.length := by omega
      have hn : (0 : Int) ≤ j := by omega
      have hin := wr64 (n := (j : Int) + 1) (by omega) (by omega)
      have hR2 : Hid (R = (!(a[j] != b[j]) && eqI (a.drop (j + 1)) (b.drop (j + 1)))) := by
        rw [show R = _ from hR.out, List.drop_eq_getElem_cons hlt, List.drop_eq_getElem_cons hlt2]; rfl
      clear hR
      cases hq : (a[j] != b[j]) with
      | true =>
        have hf : Hid (R = false) := by show _ = _; rw [show R = _ from hR2.out, hq]; rfl
        clear hR2
        refine go_ ?_
        refine PW_drawn [(0, .a), (1, .a), (2, .a), (3, .a), (4, .a), (5, .a), (6, .a), (7, .a), (8, .a)] (by kernel_rfl) (by rfl) (by kernel_rfl) ?_
        refine go_ ?_
        refine retP_ok (by simp) (by simp only [Tryz.results32]; rfl) (by simp [resP, St.box?, PF.get, loadB, TyK.agg, *]; rfl) (List.nil_sublist _) ?_
        exact ⟨by rw [hf.out]; rfl, rfl⟩
      | false =>
        have hR3 : Hid (R = eqI (a.drop (j + 1)) (b.drop (j + 1))) := by show _ = _; rw [show R = _ from hR2.out, hq]; rfl
        clear hR2
        refine go_ ?_
        refine PW_drawn [(0, .a), (1, .a), (2, .a), (3, .a), (4, .a), (5, .a), (6, .a), (7, .a), (8, .a)] (by kernel_rfl) (by rfl) (by kernel_rfl) ?_
        refine go_ ?_
        exact ⟨j + 1, ⟨hlt, hR3⟩, by omega, by repeat (first | exact sub_nil _ | refine sub_cons (by simp [PF.get]; rfl) (by first | rfl | (simp [*]; done) | fail) ?_), by repeat (first | exact List.Sublist.refl _ | exact List.nil_sublist _ | refine List.Sublist.cons_cons _ ?_ | refine List.Sublist.cons _ ?_)⟩
    · have hc : ¬ (j : Int) < a.length := by omega
      have hf : Hid (R = true) := by rw [show R = _ from hR.out, List.drop_of_length_le (by omega)]; rfl
      refine go_ ?_
      refine retP_ok (by simp) (by simp only [Tryz.results32]; rfl) (by simp [resP, St.box?, PF.get, loadB, TyK.agg, *]; rfl) (List.nil_sublist _) ?_
      exact ⟨by rw [hf.out]; rfl, rfl⟩
/-- are two entries the same? -/
def sameE (x y : En) : Bool := !(x.kind != y.kind) && ((x.name.toList == y.name.toList) && (!(x.of_ != y.of_) && (!(x.place != y.place) && (!(x.pars != y.pars) && (!(x.inds != y.inds) && (!(x.level != y.level) && (sameTB x.ty y.ty && (sameTB x.body y.body && (eqIs x.cons y.cons && eqIs x.fields y.fields)))))))))
def sameL : List En → List En → Bool
  | [], _ => true
  | _ :: _, [] => true
  | x :: a, y :: b => sameE x y && sameL a b
/-- are two signatures the same? -/
def sameS (a b : List En) : Bool := !((a.length : Int) != b.length) && sameL a b
set_option maxHeartbeats 16000000 in
theorem rsame_p (a b : List En) : PCalls Tryz.prog 11 [.d (.sl (a.map encD)), .d (.sl (b.map encD))] [] fun p s => p = .d (.v (.bool (sameS a b))) ∧ s = [] := by
  have HR := Lib.hid (show sameS a b = (!((a.length : Int) != b.length) && sameL (a.drop 0) (b.drop 0)) from rfl)
  generalize sameS a b = R at *
  refine PCalls.enter Tryz.func11 rfl Tryz.ntmps11 (by simp) ?_
  simp only [argsF]
  refine PW_slen (t := 0) (rows := a.map encD) (by simp [PF.get] <;> rfl) rfl fun hml => ?_
  rw [List.length_map] at hml
  unfold maxLen at hml
  refine go_ ?_
  by_cases hl : (a.length : Int) = b.length
  rotate_left
  · have hq : ((a.length : Int) != b.length) = true := bne_iff_ne.2 hl
    have hf : Hid (R = false) := by show _ = _; rw [show R = _ from HR.out, hq]; rfl
    clear HR hl
    refine go_ ?_
    refine retP_ok (by simp) (by simp only [Tryz.results11]; rfl) (by simp [resP, St.box?, PF.get, loadB, TyK.agg, *]; rfl) (List.nil_sublist _) ?_
    exact ⟨by rw [hf.out]; rfl, rfl⟩
  have hq : ((a.length : Int) != b.length) = false := by rw [hl]; simp
  have HR0 : Hid (R = sameL (a.drop 0) (b.drop 0)) := by show _ = _; rw [show R = _ from HR.out, hq]; rfl
  have hab : a.length = b.length := by omega
  have HAB := Lib.hid hab
  clear HR hl hab
  refine go_ ?_
  refine PW_loop (ι := Nat) (fun y => y ≤ a.length ∧ Hid (R = sameL (a.drop y) (b.drop y))) (fun y => [(0, .d (.sl (a.map encD))), (1, .d (.sl (b.map encD))), (5, .d (.v (.int .i64 (y : Int))))]) (fun _ => []) (fun y => a.length - y) 0 ⟨Nat.zero_le _, HR0.out⟩ ?_ ?_ ?_
  · repeat (first | exact sub_nil _ | refine sub_cons (by simp [PF.get]; rfl) (by first | rfl | (simp [*]; done) | fail) ?_)
  · repeat (first | exact List.Sublist.refl _ | exact List.nil_sublist _ | refine List.Sublist.cons_cons _ ?_ | refine List.Sublist.cons _ ?_)
  · rintro j ⟨hj, hR⟩
    clear HR0 hq
    by_cases hlt : j < a.length
    rotate_left
    · have hc : ¬ (j : Int) < a.length := by omega
      have hf : Hid (R = true) := by rw [show R = _ from hR.out, List.drop_of_length_le (by omega)]; rfl
      refine go_ ?_
      refine retP_ok (by simp) (by simp only [Tryz.results11]; rfl) (by simp [resP, St.box?, PF.get, loadB, TyK.agg, *]; rfl) (List.nil_sublist _) ?_
      exact ⟨by rw [hf.out]; rfl, rfl⟩
    have hlt2 : j < b.length := by have := HAB.out; omega
    have hx3 : a[j]? = some a[j] := List.getElem?_eq_getElem hlt
    have hy3 : b[j]? = some b[j] := List.getElem?_eq_getElem hlt2
    have hc : (j : Int) < a.length := by omega
    have hc2 : (j : Int) < b.length := by omega
    have hn : (0 : Int) ≤ j := by omega
    have hin := wr64 (n := (j : Int) + 1) (by omega) (by omega)
    have HLT := Lib.hid hlt
    have hR2 : Hid (R = (sameE a[j] b[j] && sameL (a.drop (j + 1)) (b.drop (j + 1)))) := by
      rw [show R = _ from hR.out, List.drop_eq_getElem_cons hlt, List.drop_eq_getElem_cons hlt2]; rfl
    clear hR
    generalize a[j] = x at *
    generalize b[j] = y at *
    clear hlt hlt2
    have h1 := Lib.hid (rsameTerm_p x.ty y.ty)
    have h2 := Lib.hid (rsameTerm_p x.body y.body)
    have h3 := Lib.hid (rsameInts_p x.cons y.cons)
    have h4 := Lib.hid (rsameInts_p x.fields y.fields)
    simp only [aggD, encD_tm, List.map_cons, List.map_nil] at h1 h2
    have HD := Lib.hid (show sameE x y = (!(x.kind != y.kind) && ((x.name.toList == y.name.toList) && (!(x.of_ != y.of_) && (!(x.place != y.place) && (!(x.pars != y.pars) && (!(x.inds != y.inds) && (!(x.level != y.level) && (sameTB x.ty y.ty && (sameTB x.body y.body && (eqIs x.cons y.cons && eqIs x.fields y.fields)))))))))) from rfl)
    generalize sameE x y = e at *
    generalize sameTB x.ty y.ty = e1 at *
    generalize sameTB x.body y.body = e2 at *
    generalize eqIs x.cons y.cons = e3 at *
    generalize eqIs x.fields y.fields = e4 at *
    refine go_ ?_
    refine POps_alloc_a ?_
    intro i0 hi0
    try simp only [St.freshB_box, St.freshB_nil, St.freshB_tok, St.freshB_obj] at hi0
    refine go_ ?_
    refine Rd ?_
    refine go_ ?_
    refine POps_alloc_a ?_
    intro i1 hi1
    try simp only [St.freshB_box, St.freshB_nil, St.freshB_tok, St.freshB_obj] at hi1
    refine go_ ?_
    refine Rd ?_
    refine go_ ?_
    rcases Bool.eq_false_or_eq_true ((x.kind != y.kind)) with c0 | c0
    · skip
      have hf : Hid (R = false) := by show _ = _; rw [show R = _ from hR2.out, show e = _ from HD.out, c0]; simp
      clear HD hR2
      refine go_ ?_
      refine retP_ok (by simp) (by simp only [Tryz.results11]; rfl) (by simp [resP, St.box?, PF.get, loadB, TyK.agg, *]; rfl) (List.nil_sublist _) ?_
      exact ⟨by rw [hf.out]; rfl, rfl⟩
    refine go_ ?_
    rcases Bool.eq_false_or_eq_true ((x.name.toList == y.name.toList)) with c1 | c1
    rotate_left
    · skip
      have hf : Hid (R = false) := by show _ = _; rw [show R = _ from hR2.out, show e = _ from HD.out, c0, c1]; simp
      clear HD hR2
      refine go_ ?_
      refine retP_ok (by simp) (by simp only [Tryz.results11]; rfl) (by simp [resP, St.box?, PF.get, loadB, TyK.agg, *]; rfl) (List.nil_sublist _) ?_
      exact ⟨by rw [hf.out]; rfl, rfl⟩
    refine go_ ?_
    rcases Bool.eq_false_or_eq_true ((x.of_ != y.of_)) with c2 | c2
    · skip
      have hf : Hid (R = false) := by show _ = _; rw [show R = _ from hR2.out, show e = _ from HD.out, c0, c1, c2]; simp
      clear HD hR2
      refine go_ ?_
      refine retP_ok (by simp) (by simp only [Tryz.results11]; rfl) (by simp [resP, St.box?, PF.get, loadB, TyK.agg, *]; rfl) (List.nil_sublist _) ?_
      exact ⟨by rw [hf.out]; rfl, rfl⟩
    refine go_ ?_
    rcases Bool.eq_false_or_eq_true ((x.place != y.place)) with c3 | c3
    · skip
      have hf : Hid (R = false) := by show _ = _; rw [show R = _ from hR2.out, show e = _ from HD.out, c0, c1, c2, c3]; simp
      clear HD hR2
      refine go_ ?_
      refine retP_ok (by simp) (by simp only [Tryz.results11]; rfl) (by simp [resP, St.box?, PF.get, loadB, TyK.agg, *]; rfl) (List.nil_sublist _) ?_
      exact ⟨by rw [hf.out]; rfl, rfl⟩
    refine go_ ?_
    rcases Bool.eq_false_or_eq_true ((x.pars != y.pars)) with c4 | c4
    · skip
      have hf : Hid (R = false) := by show _ = _; rw [show R = _ from hR2.out, show e = _ from HD.out, c0, c1, c2, c3, c4]; simp
      clear HD hR2
      refine go_ ?_
      refine retP_ok (by simp) (by simp only [Tryz.results11]; rfl) (by simp [resP, St.box?, PF.get, loadB, TyK.agg, *]; rfl) (List.nil_sublist _) ?_
      exact ⟨by rw [hf.out]; rfl, rfl⟩
    refine go_ ?_
    rcases Bool.eq_false_or_eq_true ((x.inds != y.inds)) with c5 | c5
    · skip
      have hf : Hid (R = false) := by show _ = _; rw [show R = _ from hR2.out, show e = _ from HD.out, c0, c1, c2, c3, c4, c5]; simp
      clear HD hR2
      refine go_ ?_
      refine retP_ok (by simp) (by simp only [Tryz.results11]; rfl) (by simp [resP, St.box?, PF.get, loadB, TyK.agg, *]; rfl) (List.nil_sublist _) ?_
      exact ⟨by rw [hf.out]; rfl, rfl⟩
    refine go_ ?_
    rcases Bool.eq_false_or_eq_true ((x.level != y.level)) with c6 | c6
    · skip
      have hf : Hid (R = false) := by show _ = _; rw [show R = _ from hR2.out, show e = _ from HD.out, c0, c1, c2, c3, c4, c5, c6]; simp
      clear HD hR2
      refine go_ ?_
      refine retP_ok (by simp) (by simp only [Tryz.results11]; rfl) (by simp [resP, St.box?, PF.get, loadB, TyK.agg, *]; rfl) (List.nil_sublist _) ?_
      exact ⟨by rw [hf.out]; rfl, rfl⟩
    refine go_ ?_
    refine POps_call_a (h1.out) ?_
    refine go_ ?_
    rcases Bool.eq_false_or_eq_true (e1) with d1 | d1
    rotate_left
    · skip
      have hf : Hid (R = false) := by show _ = _; rw [show R = _ from hR2.out, show e = _ from HD.out, c0, c1, c2, c3, c4, c5, c6, d1]; simp
      clear HD hR2
      refine go_ ?_
      refine retP_ok (by simp) (by simp only [Tryz.results11]; rfl) (by simp [resP, St.box?, PF.get, loadB, TyK.agg, *]; rfl) (List.nil_sublist _) ?_
      exact ⟨by rw [hf.out]; rfl, rfl⟩
    refine go_ ?_
    refine POps_call_b (h2.out) ?_
    refine go_ ?_
    rcases Bool.eq_false_or_eq_true (e2) with d2 | d2
    rotate_left
    · skip
      have hf : Hid (R = false) := by show _ = _; rw [show R = _ from hR2.out, show e = _ from HD.out, c0, c1, c2, c3, c4, c5, c6, d1, d2]; simp
      clear HD hR2
      refine go_ ?_
      refine retP_ok (by simp) (by simp only [Tryz.results11]; rfl) (by simp [resP, St.box?, PF.get, loadB, TyK.agg, *]; rfl) (List.nil_sublist _) ?_
      exact ⟨by rw [hf.out]; rfl, rfl⟩
    refine go_ ?_
    refine POps_call_b (h3.out) ?_
    refine go_ ?_
    rcases Bool.eq_false_or_eq_true (e3) with d3 | d3
    rotate_left
    · skip
      have hf : Hid (R = false) := by show _ = _; rw [show R = _ from hR2.out, show e = _ from HD.out, c0, c1, c2, c3, c4, c5, c6, d1, d2, d3]; simp
      clear HD hR2
      refine go_ ?_
      refine retP_ok (by simp) (by simp only [Tryz.results11]; rfl) (by simp [resP, St.box?, PF.get, loadB, TyK.agg, *]; rfl) (List.nil_sublist _) ?_
      exact ⟨by rw [hf.out]; rfl, rfl⟩
    refine go_ ?_
    refine POps_call_b (h4.out) ?_
    refine go_ ?_
    rcases Bool.eq_false_or_eq_true (e4) with d4 | d4
    rotate_left
    · skip
      have hf : Hid (R = false) := by show _ = _; rw [show R = _ from hR2.out, show e = _ from HD.out, c0, c1, c2, c3, c4, c5, c6, d1, d2, d3, d4]; simp
      clear HD hR2
      refine go_ ?_
      refine retP_ok (by simp) (by simp only [Tryz.results11]; rfl) (by simp [resP, St.box?, PF.get, loadB, TyK.agg, *]; rfl) (List.nil_sublist _) ?_
      exact ⟨by rw [hf.out]; rfl, rfl⟩
    refine go_ ?_
    have hR3 : Hid (R = sameL (a.drop (j + 1)) (b.drop (j + 1))) := by show _ = _; rw [show R = _ from hR2.out, show e = _ from HD.out, c0, c1, c2, c3, c4, c5, c6, d1, d2, d3, d4]; rfl
    clear HD hR2
    refine go_ ?_
    exact ⟨j + 1, ⟨HLT.out, hR3⟩, (by have := HLT.out; omega), by repeat (first | exact sub_nil _ | refine sub_cons (by simp [PF.get]; rfl) (by first | rfl | (simp [*]; done) | fail) ?_), by repeat (first | exact List.Sublist.refl _ | exact List.nil_sublist _ | refine List.Sublist.cons_cons _ ?_ | refine List.Sublist.cons _ ?_)⟩
end Go.Proofs.YtfnfbbmegdkhjaaGreat

namespace Go.Proofs.YtfnfbbmegdkhjaaGreat
open Go.RowKit
set_option maxRecDepth 100000
/-- the place of a name -/
def findN (s : ByteArray) : List En → Nat → Option Nat
  | [], _ => none
  | x :: r, i => if (x.name.toList == s.toList) = true then some i else findN s r (i + 1)
def findP : Option Nat → PV
  | some i => .tup [.d (.v (.int .i64 (i : Int))), .d (.v (.int .i64 0))]
  | none => .tup [.d (.v (.int .i64 0)), .d (.v (.int .i64 16))]
set_option maxHeartbeats 8000000 in
theorem sfind_p (l : List En) (s : ByteArray) : PCalls Tryz.prog 12 [.d (.sl (l.map encD)), .d (.v (.string s))] [] fun p st => p = findP (findN s l 0) ∧ st = [] := by
  obtain ⟨R, hR⟩ : ∃ R, R = findN s l 0 := ⟨_, rfl⟩
  rw [← hR]
  have HR : Hid (R = findN s (l.drop 0) 0) := hR
  clear hR
  refine PCalls.enter Tryz.func12 rfl Tryz.ntmps12 (by simp) ?_
  simp only [argsF]
  refine PW_slen (t := 0) (rows := l.map encD) (by simp [PF.get] <;> rfl) rfl fun hml => ?_
  rw [List.length_map] at hml
  unfold maxLen at hml
  refine go_ ?_
  refine PW_loop (ι := Nat) (fun y => y ≤ l.length ∧ Hid (R = findN s (l.drop y) y)) (fun y => [(1, .d (.v (.string s))), (8, .d (.sl (l.map encD))), (9, .d (.v (.int .i64 l.length))), (10, .d (.v (.int .i64 (y : Int))))]) (fun _ => []) (fun y => l.length - y) 0 ⟨Nat.zero_le _, HR.out⟩ ?_ ?_ ?_
  · repeat (first | exact sub_nil _ | refine sub_cons (by simp [PF.get]; rfl) (by first | rfl | (simp [*]; done) | fail) ?_)
  · repeat (first | exact List.Sublist.refl _ | exact List.nil_sublist _ | refine List.Sublist.cons_cons _ ?_ | refine List.Sublist.cons _ ?_)
  · rintro j ⟨hj, hR⟩
    clear HR
    by_cases hlt : j < l.length
    · have hx := get_enc hlt
      have hc : (j : Int) < l.length := by omega
      have hn : (0 : Int) ≤ j := by omega
      have hin := wr64 (n := (j : Int) + 1) (by omega) (by omega)
      have hR2 : Hid (R = if (l[j].name.toList == s.toList) = true then some j else findN s (l.drop (j + 1)) (j + 1)) := by
        rw [show R = _ from hR.out, List.drop_eq_getElem_cons hlt]; rfl
      clear hR
      cases hq : (l[j].name.toList == s.toList) with
      | true =>
        have hf : Hid (R = some j) := by show _ = _; rw [show R = _ from hR2.out, hq]; rfl
        clear hR2
        refine go_ ?_
        refine POps_alloc_a ?_
        intro i2 hi2
        try simp only [St.freshB_box, St.freshB_nil, St.freshB_tok, St.freshB_obj] at hi2
        refine go_ ?_
        refine Rd ?_
        refine go_ ?_
        refine retP_ok (by simp) (by simp only [Tryz.results12]; rfl) (by simp [resP, St.box?, PF.get, loadB, TyK.agg, *]; rfl) (List.nil_sublist _) ?_
        exact ⟨by rw [hf.out]; rfl, rfl⟩
      | false =>
        have hR3 : Hid (R = findN s (l.drop (j + 1)) (j + 1)) := by show _ = _; rw [show R = _ from hR2.out, hq]; rfl
        clear hR2
        refine go_ ?_
        refine POps_alloc_a ?_
        intro i2 hi2
        try simp only [St.freshB_box, St.freshB_nil, St.freshB_tok, St.freshB_obj] at hi2
        refine go_ ?_
        refine Rd ?_
        refine go_ ?_
        exact ⟨j + 1, ⟨hlt, hR3⟩, by omega, by repeat (first | exact sub_nil _ | refine sub_cons (by simp [PF.get]; rfl) (by first | rfl | (simp [*]; done) | fail) ?_), by repeat (first | exact List.Sublist.refl _ | exact List.nil_sublist _ | refine List.Sublist.cons_cons _ ?_ | refine List.Sublist.cons _ ?_)⟩
    · have hc : ¬ (j : Int) < l.length := by omega
      have hf : Hid (R = none) := by rw [show R = _ from hR.out, List.drop_of_length_le (by omega)]; rfl
      refine go_ ?_
      refine retP_ok (by simp) (by simp only [Tryz.results12]; rfl) (by simp [resP, St.box?, PF.get, loadB, TyK.agg, *]; rfl) (List.nil_sublist _) ?_
      exact ⟨by rw [hf.out]; rfl, rfl⟩
/-- an entry's copy -/
def copyE (x : En) : En := ⟨x.kind, x.name, copyT x.ty, copyT x.body, x.of_, x.place, x.pars, x.inds, x.level, x.cons, x.fields⟩
def EnSmall (e : En) : Prop := e.cons.length ≤ 100000 ∧ e.fields.length ≤ 100000
set_option maxHeartbeats 8000000 in
theorem scopy_p (l : List En) (hl : l.length ≤ 100000) (hs : ∀ e ∈ l, EnSmall e) : PCalls Tryz.prog 30 [.d (.sl (l.map encD))] [] fun p s => p = .d (.sl ((l.map copyE).map encD)) ∧ s = [] := by
  obtain ⟨R, hR⟩ : ∃ R, R = l.map copyE := ⟨_, rfl⟩
  rw [← hR]
  have HR := Lib.hid hR
  have HS := Lib.hid hs
  clear hR hs
  refine PCalls.enter Tryz.func30 rfl Tryz.ntmps30 (by simp) ?_
  simp only [argsF]
  refine go_ ?_
  refine PW_own 3 30 15 (by decide) (by simp [PF.get] <;> rfl) fun g hg => ?_
  refine PW_loop (ι := List En × Nat) (fun y => y.2 ≤ l.length ∧ Hid (y.1 = (l.take y.2).map copyE)) (fun y => [(3, .own g (y.1.map encD)), (6, .d (.sl (l.map encD))), (7, .d (.v (.int .i64 l.length))), (8, .d (.v (.int .i64 (y.2 : Int))))]) (fun y => [.tok g 30 15 y.1.length]) (fun y => l.length - y.2) ([], 0) ⟨Nat.zero_le _, rfl⟩ ?_ ?_ ?_
  · repeat (first | exact sub_nil _ | refine sub_cons (by simp [PF.get]; rfl) (by first | rfl | (simp [*]; done) | fail) ?_)
  · repeat (first | exact List.Sublist.refl _ | exact List.nil_sublist _ | refine List.Sublist.cons_cons _ ?_ | refine List.Sublist.cons _ ?_)
  · rintro ⟨m, j⟩ ⟨hj, hm⟩
    simp only at hj hm ⊢
    by_cases hlt : j < l.length
    · have hx3 : l[j]? = some l[j] := List.getElem?_eq_getElem hlt
      have hc : (j : Int) < l.length := by omega
      have hn : (0 : Int) ≤ j := by omega
      have hin := wr64 (n := (j : Int) + 1) (by omega) (by omega)
      have HM : Hid (m ++ [copyE l[j]] = (l.take (j + 1)).map copyE) := by show _ = _; rw [List.take_succ_eq_append_getElem hlt, List.map_append, show m = _ from hm.out]; rfl
      have hml : m.length ≤ 100000 := by rw [show m = _ from hm.out, List.length_map, List.length_take]; omega
      have h1 := Lib.hid (tCopy_p l[j].ty)
      have h2 := Lib.hid (tCopy_p l[j].body)
      have h3 := Lib.hid (clone_int_p l[j].cons (HS.out _ (List.getElem_mem hlt)).1)
      have h4 := Lib.hid (clone_int_p l[j].fields (HS.out _ (List.getElem_mem hlt)).2)
      simp only [aggD, encD_tm, List.map_cons, List.map_nil] at h1 h2
      have HE := Lib.hid (show copyE l[j] = ⟨l[j].kind, l[j].name, copyT l[j].ty, copyT l[j].body, l[j].of_, l[j].place, l[j].pars, l[j].inds, l[j].level, l[j].cons, l[j].fields⟩ from rfl)
      have HLT := Lib.hid hlt
      clear hm
      generalize copyE l[j] = cx at *
      generalize l[j] = x at *
      clear hlt
      generalize copyT x.ty = ct at *
      generalize copyT x.body = cb at *
      refine go_ ?_
      refine POps_alloc_a ?_
      intro i2 hi2
      try simp only [St.freshB_box, St.freshB_nil, St.freshB_tok, St.freshB_obj] at hi2
      refine go_ ?_
      refine Rd ?_
      refine go_ ?_
      refine PW_drawn [(0, .a), (1, .b), (2, .a), (3, .a), (4, .b), (5, .a), (6, .a), (7, .e), (8, .a), (9, .e)] (by kernel_rfl) (by rfl) (by kernel_rfl) ?_
      refine go_ ?_
      refine POrd_call_a (h1.out) ?_
      refine go_ ?_
      refine POrd_call_a (h2.out) ?_
      refine go_ ?_
      refine POrd_store_a ?_
      refine go_ ?_
      refine POrd_store_a ?_
      refine go_ ?_
      refine PW_drawn [(0, .a), (1, .b), (2, .a), (3, .a), (4, .b), (5, .a), (6, .a), (7, .e), (8, .a), (9, .e)] (by kernel_rfl) (by rfl) (by kernel_rfl) ?_
      refine go_ ?_
      refine POrd_call_a (h3.out) ?_
      refine go_ ?_
      refine POrd_call_a (h4.out) ?_
      refine go_ ?_
      refine POrd_store_a ?_
      refine go_ ?_
      refine POrd_store_a ?_
      refine go_ ?_
      refine POps_bs_a ?_
      refine go_ ?_
      refine POps_app_a (m.length + 1) ?_ ?_ ?_ ?_
      · simp
      · exact rows15 _
      · exact rows_one rfl
      refine go_ ?_
      refine ⟨(m ++ [cx], j + 1), ⟨HLT.out, HM⟩, by have := HLT.out; simp only; omega, ?_, ?_⟩
      · rw [show cx = _ from HE.out]
        repeat (first | exact sub_nil _ | refine sub_cons (by simp [PF.get]; rfl) (by first | rfl | (simp [*]; done) | fail) ?_)
      · simp only [List.length_append, List.length_singleton]
        repeat (first | exact List.Sublist.refl _ | exact List.nil_sublist _ | refine List.Sublist.cons_cons _ ?_ | refine List.Sublist.cons _ ?_)
    · have hc : ¬ (j : Int) < l.length := by omega
      have hf : Hid (m = R) := by show _ = _; rw [show m = _ from hm.out, List.take_of_length_le (by omega), show R = _ from HR.out]
      clear hm
      refine go_ ?_
      refine retP_ok (by simp) (by simp only [Tryz.results30]; rfl) (by simp [resP, St.box?, PF.get, loadB, TyK.agg, *]; rfl) (List.nil_sublist _) ?_
      exact ⟨by rw [hf.out]; rfl, rfl⟩
end Go.Proofs.YtfnfbbmegdkhjaaGreat

namespace Go.Proofs.YtfnfbbmegdkhjaaGreat
open Go.RowKit
set_option maxRecDepth 100000
set_option maxHeartbeats 4000000 in
theorem reverse0_p : PCalls Tryz.prog 102 [.d (.sl [])] [] fun p s => p = .tup [] ∧ s = [] := by
  have hw := wr64 (n := (0 : Int) - 1) (by omega) (by omega)
  refine PCalls.enter Tryz.func102 rfl Tryz.ntmps102 (by simp) ?_
  simp only [argsF]
  refine go_ ?_
  refine PW_loop (ι := Unit) (fun _ => True) (fun _ => [(0, .d (.sl [])), (2, .d (.v (.int .i64 0))), (3, .d (.v (.int .i64 (-1))))]) (fun _ => []) (fun _ => 0) () trivial ?_ ?_ ?_
  · repeat (first | exact sub_nil _ | refine sub_cons (by simp [PF.get]; rfl) (by first | rfl | (simp [*]; done) | fail) ?_)
  · repeat (first | exact List.Sublist.refl _ | exact List.nil_sublist _ | refine List.Sublist.cons_cons _ ?_ | refine List.Sublist.cons _ ?_)
  · rintro _ _
    refine go_ ?_
    refine retP_ok (by simp) (by simp only [Tryz.results102]; rfl) (by simp [resP, St.box?, PF.get, loadB, TyK.agg, *]; rfl) (List.nil_sublist _) ?_
    exact ⟨rfl, rfl⟩
set_option maxHeartbeats 4000000 in
/-- the spine of what is no application -/
theorem tSpine0_p (t : Tm) (h : t.kind ≠ 5) : PCalls Tryz.prog 67 [aggD t] [] fun p s => p = .tup [aggD t, .d (.sl [])] ∧ s = [] := by
  have h5 : (t.kind == 5) = false := beq_eq_false_iff_ne.2 h
  clear h
  simp only [aggD, encD_tm, List.map_cons, List.map_nil]
  refine PCalls.enter Tryz.func67 rfl Tryz.ntmps67 (by simp) ?_
  simp only [argsF]
  refine go_ ?_
  refine POps_box_a ?_
  intro i0 hi0
  try simp only [St.freshB_box, St.freshB_nil, St.freshB_tok, St.freshB_obj] at hi0
  refine go_ ?_
  refine POps_alloc_a ?_
  intro i1 hi1
  try simp only [St.freshB_box, St.freshB_nil, St.freshB_tok, St.freshB_obj] at hi1
  refine go_ ?_
  refine POps_alloc_a ?_
  intro i2 hi2
  try simp only [St.freshB_box, St.freshB_nil, St.freshB_tok, St.freshB_obj] at hi2
  refine go_ ?_
  refine Rd ?_
  refine go_ ?_
  refine PW_loop (ι := Unit) (fun _ => True) (fun _ => [(2, .ptr i1 0), (4, .nils), (5, .ptr i2 0)]) (fun _ => [.box i2 27 [.d (.v (.int .i64 t.kind)), .d (.v (.int .i64 t.num)), .d (.sl (t.sub.map encD))], .box i1 27 [.d (.v (.int .i64 0)), .d (.v (.int .i64 0)), .nils]]) (fun _ => 0) () trivial ?_ ?_ ?_
  · repeat (first | exact sub_nil _ | refine sub_cons (by simp [PF.get]; rfl) (by first | rfl | (simp [*]; done) | fail) ?_)
  · repeat (first | exact List.Sublist.refl _ | exact List.nil_sublist _ | refine List.Sublist.cons_cons _ ?_ | refine List.Sublist.cons _ ?_)
  · rintro _ _
    refine go_ ?_
    refine POps_call_a (reverse0_p) ?_
    refine go_ ?_
    refine Rd ?_
    refine go_ ?_
    refine retP_ok (by simp) (by simp only [Tryz.results67]; rfl) (by simp [resP, St.box?, PF.get, loadB, TyK.agg, *]; rfl) (List.nil_sublist _) ?_
    exact ⟨rfl, rfl⟩
end Go.Proofs.YtfnfbbmegdkhjaaGreat

namespace Go.Proofs.YtfnfbbmegdkhjaaGreat
open Go.RowKit
set_option maxRecDepth 100000
/-- an argument of a constructor -/
structure Rc where
  is_ : Bool
  around : List Tm
  at_ : List Tm
instance : Enc Rc := ⟨3, fun r => [.v (.bool r.is_), .s 3 (r.around.map Enc.enc), .s 3 (r.at_.map Enc.enc)], fun r => by simp⟩
instance : EncOk Rc := ⟨fun r d hd => by
  simp only [Enc.enc, List.mem_cons, List.not_mem_nil, or_false] at hd
  rcases hd with rfl | rfl | rfl
  · exact .v trivial
  · exact okList (α := Tm) (by decide) r.around
  · exact okList (α := Tm) (by decide) r.at_⟩
@[simp] theorem encD_rc (r : Rc) : encD r = [.v (.bool r.is_), .sl (r.around.map encD), .sl (r.at_.map encD)] := by
  unfold encD
  simp only [Enc.enc, dtL, dtD, dtLL_map, List.map_map]
  rfl
theorem whole_err {t : Tm} (h : (wholeT t).2.2 ≠ 0) : (wholeT t).1 = [] ∧ (wholeT t).2.1 = .mk 0 0 [] := by
  unfold wholeT splitT at h ⊢
  split
  · exact ⟨rfl, rfl⟩
  · rename_i h1
    rw [if_neg h1] at h
    split
    · exact ⟨rfl, rfl⟩
    · rename_i h2
      rw [if_neg h2] at h
      cases hc : cutPi (min (piN t : Int) 25).toNat t with
      | none => exact ⟨rfl, rfl⟩
      | some y => rw [hc] at h; exact absurd rfl h
/-- is an argument's type recursive, and how? -/
def recT (t : Tm) (of_ pars inds binders : Int) : Rc :=
  if ((wholeT t).2.2 == 0 && appliedT (wholeT t).2.1 of_ pars inds (binders + (wholeT t).1.length)) = true then ⟨true, (wholeT t).1, (argsT (wholeT t).2.1).drop pars.toNat⟩ else ⟨false, [], []⟩
set_option maxHeartbeats 16000000 in
theorem srec_p (l : List En) (t : Tm) (q : Nat) (d : En) (b : Nat) (hd : l[q]? = some d) (hp0 : 0 ≤ d.pars) (hp1 : d.pars ≤ 24) (hn0 : 0 ≤ d.inds) (hn1 : d.inds ≤ 24) (hb : b ≤ 1000) :
    PCalls Tryz.prog 69 [.d (.sl (l.map encD)), aggD t, .d (.v (.int .i64 q)), .d (.v (.int .i64 b))] [] fun p s => p = aggD (recT t q d.pars d.inds b) ∧ s = [] := by
  have hW := Lib.hid (tWhole_p t)
  unfold splitP at hW
  have hok : (wholeT t).2.2 = 0 → ((wholeT t).1.length : Int) ≤ 24 ∧ shapedB (wholeT t).2.1 = true := fun h => whole_ok h
  have her : (wholeT t).2.2 ≠ 0 → (wholeT t).1 = [] ∧ (wholeT t).2.1 = .mk 0 0 [] := fun h => whole_err h
  obtain ⟨R, hR⟩ : ∃ R, R = recT t q d.pars d.inds b := ⟨_, rfl⟩
  rw [← hR]
  unfold recT at hR
  generalize wholeT t = W at *
  obtain ⟨sl, sx, se⟩ := W
  simp only at hR hok her hW
  have HR := Lib.hid hR
  have HO := Lib.hid hok
  have HX := Lib.hid her
  have hq0 : (0 : Int) ≤ q := by omega
  have hql : (q : Int) < l.length := by have := (List.getElem?_eq_some_iff.1 hd).1; omega
  clear hR hok her
  simp only [aggD, encD_tm, encD_rc, List.map_cons, List.map_nil] at hW ⊢
  by_cases h0 : se = 0
  rotate_left
  · obtain ⟨e1, e2⟩ := HX.out h0
    subst e1
    subst e2
    have hS := Lib.hid (tSpine0_p (.mk 0 0 []) (by decide))
    simp only [aggD, encD_tm, List.map_cons, List.map_nil] at hS
    have hf : Hid (R = ⟨false, [], []⟩) := by show _ = _; rw [show R = _ from HR.out, beq_eq_false_iff_ne.2 h0]; rfl
    have h0b : (se != 0) = true := bne_iff_ne.2 h0
    clear HR HO HX h0
    refine PCalls.enter Tryz.func69 rfl Tryz.ntmps69 (by simp) ?_
    simp only [argsF]
    refine go_ ?_
    refine POps_box_a ?_
    intro i0 hi0
    try simp only [St.freshB_box, St.freshB_nil, St.freshB_tok, St.freshB_obj] at hi0
    refine go_ ?_
    refine POps_alloc_a ?_
    intro i1 hi1
    try simp only [St.freshB_box, St.freshB_nil, St.freshB_tok, St.freshB_obj] at hi1
    refine go_ ?_
    refine POps_call_a (hW.out) ?_
    refine go_ ?_
    refine POps_alloc_a ?_
    intro i2 hi2
    try simp only [St.freshB_box, St.freshB_nil, St.freshB_tok, St.freshB_obj] at hi2
    refine go_ ?_
    refine Rd ?_
    refine go_ ?_
    refine POps_call_a (hS.out) ?_
    refine go_ ?_
    refine POps_alloc_a ?_
    intro i3 hi3
    try simp only [St.freshB_box, St.freshB_nil, St.freshB_tok, St.freshB_obj] at hi3
    refine go_ ?_
    refine Rd ?_
    refine go_ ?_
    refine PW_drawn [(0, .a), (1, .a), (2, .a), (3, .a), (4, .b), (5, .a), (6, .a), (7, .a), (8, .a), (9, .b), (10, .a), (11, .a), (12, .a), (13, .a), (14, .b), (15, .a), (16, .a), (17, .a), (18, .a), (19, .a), (20, .a), (21, .a), (22, .a), (23, .a), (24, .a), (25, .a), (26, .a), (27, .a), (28, .a), (29, .a), (30, .a), (31, .a), (32, .a)] (by kernel_rfl) (by rfl) (by kernel_rfl) ?_
    refine go_ ?_
    refine go_ ?_
    refine Rd ?_
    refine go_ ?_
    refine retP_ok (by simp) (by simp only [Tryz.results69]; rfl) (by simp [resP, St.box?, PF.get, loadB, TyK.agg, *]; rfl) (List.nil_sublist _) ?_
    exact ⟨by rw [hf.out]; rfl, rfl⟩
  obtain ⟨h24, hsx⟩ := HO.out h0
  subst h0
  have H24 := Lib.hid h24
  have hS := Lib.hid (tSpine_p sx hsx)
  have hA := Lib.hid (sapplied_p sx q d.pars d.inds ((b : Int) + sl.length) hsx hp0 hp1 hn0 hn1 (by omega) (by omega))
  obtain ⟨m, hm⟩ : ∃ m : Nat, d.pars = m := ⟨d.pars.toNat, by omega⟩
  have hw := wr64 (n := (b : Int) + sl.length) (by omega) (by omega)
  have HR2 : Hid (R = if appliedT sx q d.pars d.inds ((b : Int) + sl.length) = true then ⟨true, sl, (argsT sx).drop m⟩ else ⟨false, [], []⟩) := by
    show _ = _
    rw [show R = _ from HR.out]
    simp only [beq_self_eq_true, Bool.true_and]
    rw [show d.pars.toNat = m by omega]
  have HAL : Hid (appliedT sx q d.pars d.inds ((b : Int) + sl.length) = true → (headT sx).kind = 6 ∧ (headT sx).num = q ∧ m ≤ (argsT sx).length) := by
    intro h
    unfold appliedT at h
    simp only [Bool.and_eq_true, beq_iff_eq] at h
    exact ⟨h.1, h.2.1, by omega⟩
  have hlen : (argsT sx).length ≤ 8192 := by have := args_len sx; have := (shaped_hg hsx).2.2; omega
  clear HR HO HX h24 hsx
  rw [hm] at hA HR2 HAL
  simp only [aggD, encD_tm, List.map_cons, List.map_nil] at hA hS
  generalize appliedT sx q m d.inds ((b : Int) + sl.length) = A at *
  generalize headT sx = h at *
  generalize argsT sx = a at *
  have hm0 : (0 : Int) ≤ m := by omega
  by_cases c1 : h.kind = 6
  rotate_left
  · have c1b : (h.kind != 6) = true := bne_iff_ne.2 c1
    have hf : Hid (R = ⟨false, [], []⟩) := by
      show _ = _
      rw [show R = _ from HR2.out, if_neg (fun e => c1 (HAL.out e).1)]
    clear HR2 HAL c1
    refine PCalls.enter Tryz.func69 rfl Tryz.ntmps69 (by simp) ?_
    simp only [argsF]
    refine go_ ?_
    refine POps_box_a ?_
    intro i0 hi0
    try simp only [St.freshB_box, St.freshB_nil, St.freshB_tok, St.freshB_obj] at hi0
    refine go_ ?_
    refine POps_alloc_a ?_
    intro i1 hi1
    try simp only [St.freshB_box, St.freshB_nil, St.freshB_tok, St.freshB_obj] at hi1
    refine go_ ?_
    refine POps_call_a (hW.out) ?_
    refine go_ ?_
    refine POps_alloc_a ?_
    intro i2 hi2
    try simp only [St.freshB_box, St.freshB_nil, St.freshB_tok, St.freshB_obj] at hi2
    refine go_ ?_
    refine Rd ?_
    refine go_ ?_
    refine POps_call_a (hS.out) ?_
    refine go_ ?_
    refine POps_alloc_a ?_
    intro i3 hi3
    try simp only [St.freshB_box, St.freshB_nil, St.freshB_tok, St.freshB_obj] at hi3
    refine go_ ?_
    refine Rd ?_
    refine go_ ?_
    refine PW_drawn [(0, .a), (1, .a), (2, .a), (3, .a), (4, .b), (5, .a), (6, .a), (7, .a), (8, .a), (9, .b), (10, .a), (11, .a), (12, .a), (13, .a), (14, .b), (15, .a), (16, .a), (17, .a), (18, .a), (19, .a), (20, .a), (21, .a), (22, .a), (23, .a), (24, .a), (25, .a), (26, .a), (27, .a), (28, .a), (29, .a), (30, .a), (31, .a), (32, .a)] (by kernel_rfl) (by rfl) (by kernel_rfl) ?_
    refine go_ ?_
    refine go_ ?_
    refine Rd ?_
    refine go_ ?_
    refine retP_ok (by simp) (by simp only [Tryz.results69]; rfl) (by simp [resP, St.box?, PF.get, loadB, TyK.agg, *]; rfl) (List.nil_sublist _) ?_
    exact ⟨by rw [hf.out]; rfl, rfl⟩
  have c1b : (h.kind != 6) = false := by rw [c1]; rfl
  by_cases c2 : h.num = q
  rotate_left
  · have c2b : (h.num != (q : Int)) = true := bne_iff_ne.2 c2
    have hf : Hid (R = ⟨false, [], []⟩) := by
      show _ = _
      rw [show R = _ from HR2.out, if_neg (fun e => c2 (HAL.out e).2.1)]
    clear HR2 HAL c1 c2
    refine PCalls.enter Tryz.func69 rfl Tryz.ntmps69 (by simp) ?_
    simp only [argsF]
    refine go_ ?_
    refine POps_box_a ?_
    intro i0 hi0
    try simp only [St.freshB_box, St.freshB_nil, St.freshB_tok, St.freshB_obj] at hi0
    refine go_ ?_
    refine POps_alloc_a ?_
    intro i1 hi1
    try simp only [St.freshB_box, St.freshB_nil, St.freshB_tok, St.freshB_obj] at hi1
    refine go_ ?_
    refine POps_call_a (hW.out) ?_
    refine go_ ?_
    refine POps_alloc_a ?_
    intro i2 hi2
    try simp only [St.freshB_box, St.freshB_nil, St.freshB_tok, St.freshB_obj] at hi2
    refine go_ ?_
    refine Rd ?_
    refine go_ ?_
    refine POps_call_a (hS.out) ?_
    refine go_ ?_
    refine POps_alloc_a ?_
    intro i3 hi3
    try simp only [St.freshB_box, St.freshB_nil, St.freshB_tok, St.freshB_obj] at hi3
    refine go_ ?_
    refine Rd ?_
    refine go_ ?_
    refine PW_drawn [(0, .a), (1, .a), (2, .a), (3, .a), (4, .b), (5, .a), (6, .a), (7, .a), (8, .a), (9, .b), (10, .a), (11, .a), (12, .a), (13, .a), (14, .b), (15, .a), (16, .a), (17, .a), (18, .a), (19, .a), (20, .a), (21, .a), (22, .a), (23, .a), (24, .a), (25, .a), (26, .a), (27, .a), (28, .a), (29, .a), (30, .a), (31, .a), (32, .a)] (by kernel_rfl) (by rfl) (by kernel_rfl) ?_
    refine go_ ?_
    refine go_ ?_
    refine Rd ?_
    refine go_ ?_
    refine retP_ok (by simp) (by simp only [Tryz.results69]; rfl) (by simp [resP, St.box?, PF.get, loadB, TyK.agg, *]; rfl) (List.nil_sublist _) ?_
    exact ⟨by rw [hf.out]; rfl, rfl⟩
  have c2b : (h.num != (q : Int)) = false := by rw [c2]; simp
  clear c1 c2
  refine PCalls.enter Tryz.func69 rfl Tryz.ntmps69 (by simp) ?_
  simp only [argsF]
  refine go_ ?_
  refine POps_box_a ?_
  intro i0 hi0
  try simp only [St.freshB_box, St.freshB_nil, St.freshB_tok, St.freshB_obj] at hi0
  refine go_ ?_
  refine POps_alloc_a ?_
  intro i1 hi1
  try simp only [St.freshB_box, St.freshB_nil, St.freshB_tok, St.freshB_obj] at hi1
  refine go_ ?_
  refine POps_call_a (hW.out) ?_
  refine go_ ?_
  refine POps_alloc_a ?_
  intro i2 hi2
  try simp only [St.freshB_box, St.freshB_nil, St.freshB_tok, St.freshB_obj] at hi2
  refine go_ ?_
  refine Rd ?_
  refine go_ ?_
  refine POps_call_a (hS.out) ?_
  refine go_ ?_
  refine POps_alloc_a ?_
  intro i3 hi3
  try simp only [St.freshB_box, St.freshB_nil, St.freshB_tok, St.freshB_obj] at hi3
  refine go_ ?_
  refine Rd ?_
  refine go_ ?_
  refine PW_drawn [(0, .a), (1, .a), (2, .a), (3, .a), (4, .b), (5, .a), (6, .a), (7, .a), (8, .a), (9, .b), (10, .a), (11, .a), (12, .a), (13, .a), (14, .b), (15, .a), (16, .a), (17, .a), (18, .a), (19, .a), (20, .a), (21, .a), (22, .a), (23, .a), (24, .a), (25, .a), (26, .a), (27, .a), (28, .a), (29, .a), (30, .a), (31, .a), (32, .a)] (by kernel_rfl) (by rfl) (by kernel_rfl) ?_
  refine go_ ?_
  refine POrd_call_b (hA.out) ?_
  refine go_ ?_
  rcases Bool.eq_false_or_eq_true (A) with ha | ha
  rotate_left
  · have hf : Hid (R = ⟨false, [], []⟩) := by
      show _ = _
      rw [show R = _ from HR2.out, ha]; rfl
    clear HR2 HAL
    refine go_ ?_
    refine Rd ?_
    refine go_ ?_
    refine retP_ok (by simp) (by simp only [Tryz.results69]; rfl) (by simp [resP, St.box?, PF.get, loadB, TyK.agg, *]; rfl) (List.nil_sublist _) ?_
    exact ⟨by rw [hf.out]; rfl, rfl⟩
  have hma := (HAL.out ha).2.2
  have hf : Hid (R = ⟨true, sl, a.drop m⟩) := by
    show _ = _
    rw [show R = _ from HR2.out, ha]; rfl
  have hC := Lib.hid (clone_tm_p (a.drop m) (by rw [List.length_drop]; omega))
  clear HR2 HAL
  refine go_ ?_
  have hsl : List.drop m (List.take a.length (List.map encD a)) = (a.drop m).map encD := by rw [List.take_of_length_le (by rw [List.length_map]; exact Nat.le_refl _), List.map_drop]
  refine POps_slice m a.length ?_ (by decide) (by first | (simp [nev, nevA, nevB, evBuild, PF.eval, PF.get, PF.wants, cPV, cCell, PV.rows, evBin, evUn, evConv, evLen, loadA, loadB, TyK.agg, partA, St.box?, St.tok?, St.setBox, St.setTok, fillO, spl, PV.ps, PV.one, evalArgs, aggD, slD, encD_nd, encD_bd, encD_rw, encD_dc, encD_str, encD_int, *]; done) | fail) (by simp; rfl) (by rfl) (by decide) (by simp [nev, nevA, nevB, evBuild, PF.eval, PF.get, PF.wants, cPV, cCell, PV.rows, evBin, evUn, evConv, evLen, loadA, loadB, TyK.agg, partA, St.box?, St.tok?, St.setBox, St.setTok, fillO, spl, PV.ps, PV.one, evalArgs, aggD, slD, encD_nd, encD_bd, encD_rw, encD_dc, encD_str, encD_int, *]; rfl) (by simp [PV.rows]; rfl) (by first | rfl | (simp [lowOf, PF.eval, PF.get, cPV, cCell, *]; done) | fail) (by first | rfl | (simp [highOf, PF.eval, PF.get, cPV, cCell, *]; done) | fail) (by first | omega | (simp; done) | (simp; omega)) (by first | omega | (simp; done) | (simp; omega)) ?_
  rotate_left
  · exact rows3 _
  rw [hsl]
  generalize a.drop m = a' at *
  clear hsl
  refine go_ ?_
  refine POps_call_a (hC.out) ?_
  refine go_ ?_
  refine Rd ?_
  refine go_ ?_
  refine retP_ok (by simp) (by simp only [Tryz.results69]; rfl) (by simp [resP, St.box?, PF.get, loadB, TyK.agg, *]; rfl) (List.nil_sublist _) ?_
  exact ⟨by rw [hf.out]; rfl, rfl⟩
  end Go.Proofs.YtfnfbbmegdkhjaaGreat

namespace Go.Proofs.YtfnfbbmegdkhjaaGreat
open Go.RowKit
set_option maxRecDepth 100000
/-- a constructor's parts -/
structure Cn where
  args : List Tm
  inds : List Tm
  recs : List Rc
def aggC (c : Cn) : PV := .agg [.d (.sl (c.args.map encD)), .d (.sl (c.inds.map encD)), .d (.sl (c.recs.map encD))]
def recsT (of_ pars inds : Int) : List Tm → Nat → List Rc
  | [], _ => []
  | a :: r, b => recT a of_ pars inds b :: recsT of_ pars inds r (b + 1)
theorem recsT_app (of_ pars inds : Int) : ∀ (l r : List Tm) (b : Nat), recsT of_ pars inds (l ++ r) b = recsT of_ pars inds l b ++ recsT of_ pars inds r (b + l.length) := by
  intro l
  induction l with
  | nil => intro r b; rfl
  | cons a l ih =>
    intro r b
    simp only [List.cons_append, recsT, List.length_cons]
    rw [ih, show b + 1 + l.length = b + (l.length + 1) by omega]
theorem recsT_len (of_ pars inds : Int) : ∀ (l : List Tm) (b : Nat), (recsT of_ pars inds l b).length = l.length := by
  intro l
  induction l with
  | nil => intro b; rfl
  | cons a l ih => intro b; simp only [recsT, List.length_cons, ih]
/-- the parts of an entry whose telescope is not long -/
def partsT (x : En) (pars inds : Int) : Cn := ⟨(teleT x.ty).drop pars.toNat, (argsT (benT x.ty)).drop pars.toNat, recsT x.of_ pars inds ((teleT x.ty).drop pars.toNat) pars.toNat⟩
theorem rows3r (l : List Rc) : ∀ row ∈ l.map encD, row.length = 3 := rows_of rfl
set_option maxHeartbeats 16000000 in
theorem sparts_p (l : List En) (i q m : Nat) (x d : En) (hi : l[i]? = some x) (hd : l[q]? = some d) (hq : x.of_ = q) (hm : x.pars = m) (hdm : d.pars = m) (hm1 : m ≤ 24) (hn0 : 0 ≤ d.inds) (hn1 : d.inds ≤ 24) (hs : shapedB x.ty = true) (h24 : (teleT x.ty).length ≤ 24) (hmt : m ≤ (teleT x.ty).length) (hma : m ≤ (argsT (benT x.ty)).length) :
    PCalls Tryz.prog 36 [.d (.sl (l.map encD)), .d (.v (.int .i64 i))] [] fun p s => p = aggC (partsT x d.pars d.inds) ∧ s = [] := by
  have hW := Lib.hid (tWhole_p x.ty)
  rw [whole_in hs h24] at hW
  unfold splitP at hW
  have hsb : shapedB (benT x.ty) = true := (tele_whole _ x.ty (Nat.le_refl _) hs).2.2.2.2.1
  have hS := Lib.hid (tSpine_p (benT x.ty) hsb)
  obtain ⟨R, hR⟩ : ∃ R, R = partsT x d.pars d.inds := ⟨_, rfl⟩
  rw [← hR]
  unfold partsT at hR
  rw [hdm, Int.toNat_natCast, hq] at hR
  have HR := Lib.hid hR
  have hrec := fun (t : Tm) (b : Nat) (hb : b ≤ 1000) => srec_p l t q d b hd (by omega) (by omega) hn0 hn1 hb
  rw [hdm] at hrec
  have HREC := Lib.hid hrec
  have hi0 : (0 : Int) ≤ i := by omega
  have hil : (i : Int) < l.length := by have := (List.getElem?_eq_some_iff.1 hi).1; omega
  have hm0 : (0 : Int) ≤ m := by omega
  have hlen : (argsT (benT x.ty)).length ≤ 8192 := by have := args_len (benT x.ty); have := (shaped_hg hsb).2.2; omega
  clear hR hs hsb hrec hn0 hn1 hd
  simp only [aggD, encD_tm, List.map_cons, List.map_nil, Int.natCast_zero] at hW hS
  unfold aggC
  generalize benT x.ty = T at *
  generalize teleT x.ty = sl at *
  generalize headT T = h at *
  generalize argsT T = a at *
  generalize d.inds = di at *
  have hC := Lib.hid (clone_tm_p (a.drop m) (by rw [List.length_drop]; omega))
  have hsl1 : List.drop m (List.take sl.length (List.map encD sl)) = (sl.drop m).map encD := by rw [List.take_of_length_le (by rw [List.length_map]; exact Nat.le_refl _), List.map_drop]
  have hsl2 : List.drop m (List.take a.length (List.map encD a)) = (a.drop m).map encD := by rw [List.take_of_length_le (by rw [List.length_map]; exact Nat.le_refl _), List.map_drop]
  have hlA : (sl.drop m).length ≤ 24 := by rw [List.length_drop]; omega
  have HS1 := Lib.hid hsl1
  have HS2 := Lib.hid hsl2
  clear hsl1 hsl2
  generalize a.drop m = a' at *
  generalize sl.drop m = sl' at *
  refine PCalls.enter Tryz.func36 rfl Tryz.ntmps36 (by simp) ?_
  simp only [argsF]
  refine go_ ?_
  refine POps_alloc_a ?_
  intro i0 hi0
  try simp only [St.freshB_box, St.freshB_nil, St.freshB_tok, St.freshB_obj] at hi0
  refine go_ ?_
  refine POps_alloc_a ?_
  intro i1 hi1
  try simp only [St.freshB_box, St.freshB_nil, St.freshB_tok, St.freshB_obj] at hi1
  refine go_ ?_
  refine Rd ?_
  refine go_ ?_
  refine POps_call_a (hW.out) ?_
  refine go_ ?_
  refine POps_alloc_a ?_
  intro i2 hi2
  try simp only [St.freshB_box, St.freshB_nil, St.freshB_tok, St.freshB_obj] at hi2
  refine go_ ?_
  refine Rd ?_
  refine go_ ?_
  refine POps_call_a (hS.out) ?_
  refine go_ ?_
  refine POps_alloc_a ?_
  intro i3 hi3
  try simp only [St.freshB_box, St.freshB_nil, St.freshB_tok, St.freshB_obj] at hi3
  refine go_ ?_
  refine Rd ?_
  refine go_ ?_
  refine PW_drawnJ (J := keepJ [(i1, _)]) [(0, .a), (1, .a), (2, .a), (3, .a), (4, .a), (5, .a), (6, .a), (7, .a), (8, .a), (9, .a), (10, .e), (11, .e)] (by kernel_rfl) (by rfl) (by kernel_rfl) (by (repeat (first | exact keepJ_nil _ | refine keepJ_cons (by simp [St.box?, *] <;> rfl) ?_))) ?_
  repeat (first | with_reducible refine PJ_nil ?_ | refine PJ_gn2 ?_ | refine PJ_s2 ?_ | refine PJ_b2 ?_)
  refine PJ_slice m sl.length ?_ ?_ HS1.out
  rotate_left
  · exact rows3 _
  repeat (first | with_reducible refine PJ_nil ?_ | refine PJ_gn2 ?_ | refine PJ_s2 ?_ | refine PJ_b2 ?_)
  refine PJ_slice m a.length ?_ ?_ HS2.out
  rotate_left
  · exact rows3 _
  repeat (first | with_reducible refine PJ_nil ?_ | refine PJ_gn2 ?_ | refine PJ_s2 ?_ | refine PJ_b2 ?_)
  refine PJ_call2 (hC.out) ?_
  repeat (first | with_reducible refine PJ_nil ?_ | refine PJ_gn2 ?_ | refine PJ_s2 ?_ | refine PJ_b2 ?_)
  refine PJ_alloc rfl (by decide) rfl (by simp; rfl) (fun i hi => by simp only [St.freshB_box, St.freshB_nil, St.freshB_tok] at hi; (repeat (first | exact keepJ_nil _ | refine keepJ_cons (by simp [St.box?, *] <;> rfl) ?_))) ?_
  intro i4 hi4
  try simp only [St.freshB_box, St.freshB_nil, St.freshB_tok, St.freshB_obj] at hi4
  repeat (first | with_reducible refine PJ_nil ?_ | refine PJ_gn2 ?_ | refine PJ_s2 ?_ | refine PJ_b2 ?_)
  refine PJ_store rfl rfl (by simp [nev, nevA, nevB, evBuild, PF.eval, PF.get, PF.wants, cPV, cCell, PV.rows, evBin, evUn, evConv, evLen, loadA, loadB, TyK.agg, partA, St.box?, St.tok?, St.setBox, St.setTok, fillO, spl, PV.ps, PV.one, evalArgs, aggD, slD, encD_nd, encD_bd, encD_rw, encD_dc, encD_str, encD_int, *]; rfl) (by rfl) (by simp [nev, nevA, nevB, evBuild, PF.eval, PF.get, PF.wants, cPV, cCell, PV.rows, evBin, evUn, evConv, evLen, loadA, loadB, TyK.agg, partA, St.box?, St.tok?, St.setBox, St.setTok, fillO, spl, PV.ps, PV.one, evalArgs, aggD, slD, encD_nd, encD_bd, encD_rw, encD_dc, encD_str, encD_int, *]; rfl) (by simp [PV.ps, aggD, slD, encD_nd, encD_bd, encD_rw, encD_dc, encD_str, encD_int]; rfl) (by first | rfl | (simp [*]; done) | (simp [PV.one, *]; done) | fail) (by simp; rfl) (by first | (simp; done) | fail) (by simp [nev, nevA, nevB, evBuild, PF.eval, PF.get, PF.wants, cPV, cCell, PV.rows, evBin, evUn, evConv, evLen, loadA, loadB, TyK.agg, partA, St.box?, St.tok?, St.setBox, St.setTok, fillO, spl, PV.ps, PV.one, evalArgs, aggD, slD, encD_nd, encD_bd, encD_rw, encD_dc, encD_str, encD_int, *]; rfl) (by rfl) (by first | (simp; done) | fail) (by simp [St.setBox, spl, *]; rfl) (by (repeat (first | exact keepJ_nil _ | refine keepJ_cons (by simp [St.box?, *] <;> rfl) ?_))) ?_
  repeat (first | with_reducible refine PJ_nil ?_ | refine PJ_gn2 ?_ | refine PJ_s2 ?_ | refine PJ_b2 ?_)
  refine go_ ?_
  refine PW_ownB i4 2 47 3 (by simp [nev, nevA, nevB, evBuild, PF.eval, PF.get, PF.wants, cPV, cCell, PV.rows, evBin, evUn, evConv, evLen, loadA, loadB, TyK.agg, partA, St.box?, St.tok?, St.setBox, St.setTok, fillO, spl, PV.ps, PV.one, evalArgs, aggD, slD, encD_nd, encD_bd, encD_rw, encD_dc, encD_str, encD_int, *]; rfl) (by rfl) (by rfl) (by intro g; simp [St.setBox, *]; rfl) (by decide) ?_
  intro g hg
  have HR0 : Hid (R = ⟨sl', a', recsT q m di sl' m⟩) := HR.out
  clear HR HS1 HS2 hC hlen hmt hma h24
  refine PW_loop (ι := List Rc × Nat) (fun y => y.2 ≤ sl'.length ∧ Hid (y.1 = recsT q m di (sl'.take y.2) m)) (fun y => [(0, .d (.sl (l.map encD))), (4, .ptr i0 0), (5, .ptr i1 0), (11, .ptr i4 0), (41, .d (.sl (sl'.map encD))), (42, .d (.v (.int .i64 sl'.length))), (43, .d (.v (.int .i64 (y.2 : Int))))])
    (fun y => [.tok g 47 3 y.1.length, .box i4 41 [.d (.sl (sl'.map encD)), .d (.sl (a'.map encD)), .own g (y.1.map encD)], .box i1 30 [.d (.v (.int .i64 x.kind)), .d (.v (.string x.name)), .d (.v (.int .i64 x.ty.kind)), .d (.v (.int .i64 x.ty.num)), .d (.sl (x.ty.sub.map encD)), .d (.v (.int .i64 x.body.kind)), .d (.v (.int .i64 x.body.num)), .d (.sl (x.body.sub.map encD)), .d (.v (.int .i64 q)), .d (.v (.int .i64 x.place)), .d (.v (.int .i64 m)), .d (.v (.int .i64 x.inds)), .d (.v (.int .i64 x.level)), .d (.sl (x.cons.map encD)), .d (.sl (x.fields.map encD))], .box i0 41 [.nils, .nils, .nils]]) (fun y => sl'.length - y.2) ([], 0) ⟨Nat.zero_le _, rfl⟩ ?_ ?_ ?_
  · repeat (first | exact sub_nil _ | refine sub_cons (by simp [PF.get]; rfl) (by first | rfl | (simp [*]; done) | fail) ?_)
  · repeat (first | exact List.Sublist.refl _ | exact List.nil_sublist _ | refine List.Sublist.cons_cons _ ?_ | refine List.Sublist.cons _ ?_)
  · rintro ⟨rs, j⟩ ⟨hj, hrs⟩
    simp only at hj hrs ⊢
    by_cases hlt : j < sl'.length
    · have hx := get_enc hlt
      have hc : (j : Int) < sl'.length := by omega
      have hn : (0 : Int) ≤ j := by omega
      have hin := wr64 (n := (j : Int) + 1) (by omega) (by omega)
      have hw := wr64 (n := (m : Int) + j) (by omega) (by omega)
      have hc1 := Lib.hid (HREC.out sl'[j] (m + j) (by omega))
      rw [Int.natCast_add] at hc1
      have hjl : (sl'.take j).length = j := by rw [List.length_take]; omega
      have HM : Hid (rs ++ [recT sl'[j] q m di ((m + j : Nat) : Int)] = recsT q m di (sl'.take (j + 1)) m) := by
        show _ = _
        rw [List.take_succ_eq_append_getElem hlt, recsT_app, hjl, show rs = _ from hrs.out]; rfl
      have hrl : rs.length ≤ 24 := by rw [show rs = _ from hrs.out, recsT_len]; omega
      rw [Int.natCast_add] at HM
      clear hrs hjl
      simp only [aggD, encD_tm, encD_rc, List.map_cons, List.map_nil] at hc1
      generalize recT sl'[j] q m di ((m : Int) + j) = r at *
      refine go_ ?_
      refine POps_alloc_a ?_
      intro i5 hi5
      try simp only [St.freshB_box, St.freshB_nil, St.freshB_tok, St.freshB_obj] at hi5
      refine go_ ?_
      refine Rd ?_
      refine go_ ?_
      refine PW_drawn [(0, .a), (1, .b), (2, .a), (3, .b), (4, .a), (5, .b), (6, .a), (7, .b), (8, .a), (9, .a), (10, .a), (11, .a), (12, .e), (13, .a), (14, .e)] (by kernel_rfl) (by rfl) (by kernel_rfl) ?_
      refine go_ ?_
      refine POrd_call_a (hc1.out) ?_
      refine go_ ?_
      refine POrd_bs_a ?_
      refine go_ ?_
      refine POrd_app_a (rs.length + 1) ?_ ?_ ?_ ?_
      · simp
      · exact rows3r _
      · exact rows_one rfl
      refine go_ ?_
      refine POrd_store_a ?_
      refine go_ ?_
      refine ⟨(rs ++ [r], j + 1), ⟨hlt, HM⟩, by simp only; omega, ?_, ?_⟩
      · repeat (first | exact sub_nil _ | refine sub_cons (by simp [PF.get]; rfl) (by first | rfl | (simp [*]; done) | fail) ?_)
      · simp only [List.length_append, List.length_singleton, List.map_append, List.map_cons, List.map_nil, encD_rc]
        repeat (first | exact List.Sublist.refl _ | exact List.nil_sublist _ | refine List.Sublist.cons_cons _ ?_ | refine List.Sublist.cons _ ?_)
    · have hc : ¬ (j : Int) < sl'.length := by omega
      have hf : rs = recsT q m di sl' m := by rw [show rs = _ from hrs.out, List.take_of_length_le (by omega)]
      clear hrs
      refine go_ ?_
      refine Rd ?_
      refine go_ ?_
      refine retP_ok (by simp) (by simp only [Tryz.results36]; rfl) (by simp [resP, St.box?, PF.get, loadB, TyK.agg, *]; rfl) (List.nil_sublist _) ?_
      exact ⟨by rw [show R = _ from HR0.out, ← hf]; rfl, rfl⟩
end Go.Proofs.YtfnfbbmegdkhjaaGreat
