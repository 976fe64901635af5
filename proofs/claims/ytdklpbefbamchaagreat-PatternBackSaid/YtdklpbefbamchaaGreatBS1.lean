import Derived.Test.YtdklpbefbamchaaGreatBS
import Derived.Test.YtdklpbefbamchaaGreatBN
import Derived.Test.YtdklpbefbamchaaGreatBE4
set_option linter.unusedSimpArgs false
set_option linter.unusedVariables false
set_option maxHeartbeats 16000000
set_option maxRecDepth 100000
namespace Go.Proofs.YtdklpbefbamchaaGreat
open Go.RowKit
def Qdu : List Int → Int → Int → Nat → Bool
 | [], _, _, _ => false
 | n :: r, p, i, k => ((n == i) && (p == k)) || Qdu r p i (k + 1)
theorem loopW_lt : ∀ (r : List Int) (p i : Int) (k : Nat), p < k → Qdu r p i k = false := by
  intro r
  induction r with
  | nil => intros; rfl
  | cons n r ih =>
    intro p i k h
    simp only [Qdu]
    rw [ih _ _ _ (by omega), beq_eq_false_iff_ne.2 (show p ≠ (k : Int) by omega)]
    simp
theorem loopW_eq : ∀ (r : List Int) (k m : Nat) (i : Int), Qdu r ((k + m : Nat) : Int) i k = (match r[m]? with | some n => n == i | none => false) := by
  intro r
  induction r with
  | nil => intros; rfl
  | cons n r ih =>
    intro k m i
    cases m with
    | zero =>
      simp only [Qdu, Nat.add_zero]
      rw [loopW_lt _ _ _ _ (by omega)]
      simp
    | succ m =>
      simp only [Qdu]
      have := ih (k + 1) m i
      rw [show k + 1 + m = k + (m + 1) by omega] at this
      rw [this, beq_eq_false_iff_ne.2 (show ((k + (m + 1) : Nat) : Int) ≠ (k : Int) by omega)]
      simp
theorem Qjw (r : List Int) (p i : Int) : Qdu r p i 0 = Qec r p i := by
 unfold Qec
 by_cases h : 0 ≤ p
 ·obtain ⟨m, hm⟩ : ∃ m : Nat, p = m := ⟨p.toNat, by omega⟩
  have := loopW_eq r 0 m i
  rw [Nat.zero_add] at this
  rw [hm, this, Int.toNat_natCast]
  cases r[m]? <;> simp
 ·rw [loopW_lt _ _ _ _ (by omega)]; simp [h]
theorem rowned_p (l : List En) (i : Nat) (hi : i < l.length) : PCalls Tryz.prog 156 [.d (.sl (l.map encD)), .d (.v (.int .i64 i))] [] fun p s => p = .d (.v (.bool (Qdg l l[i] i))) ∧ s = [] := by
  obtain ⟨R, hR⟩ : ∃ R, R = Qdg l l[i] i := ⟨_, rfl⟩
  rw [← hR]
  have hn : (0 : Int) ≤ i := by omega
  have hx3 : l[i]? = some l[i] := List.getElem?_eq_getElem hi
  unfold Qdg at hR
  generalize l[i] = x at *
  have hS := Lib.hid (ris_p l x.of_ 1)
  have hN := Lib.hid (rzero_p x.body)
  simp only [aggD, Jl, List.map_cons, List.map_nil] at hN
  have HR := Lib.hid hR
  clear hR hi
  cases hb : isE l x.of_ 1 with
  | false =>
    have hf : Hid (R = false) := by show _ = _; rw [show R = _ from HR.out, hb]; rfl
    rw [hb] at hS
    clear HR hb hN
    refine PCalls.enter Tryz.func156 rfl Tryz.ntmps156 (by simp) ?_
    simp only [Qab]
    refine go_ ?_
    refine Je ?_
    intro i0 hi0
    refine go_ ?_
    refine Rd ?_
    refine go_ ?_
    refine Qan [(0, .a), (1, .a), (2, .b), (3, .a), (4, .a), (5, .a), (6, .a), (7, .b), (8, .a), (9, .a), (10, .a), (11, .a), (12, .a), (13, .b), (14, .a), (15, .a), (16, .a), (17, .a), (18, .a), (19, .b), (20, .a), (21, .a), (22, .a), (23, .a), (24, .b), (25, .a), (26, .a), (27, .a), (28, .a), (29, .b), (30, .a), (31, .a), (32, .a), (33, .a), (34, .a), (35, .b), (36, .a), (37, .a), (38, .a), (39, .a), (40, .a), (41, .b), (42, .a), (43, .a), (44, .b), (45, .a), (46, .a), (47, .a), (48, .a), (49, .a)] (by kernel_rfl) (by rfl) (by kernel_rfl) ?_
    refine go_ ?_
    refine Qaa (hS.out) ?_
    refine go_ ?_
    refine go_ ?_
    refine Jm (by simp) (by simp only [Tryz.results156]; rfl) (by simp [resP, St.box?, PF.get, Jn, TyK.agg, *]; rfl) Nl ?_
    exact ⟨by rw [hf.out]; rfl, rfl⟩
  | true =>
    obtain ⟨q, hq, hql, hqk⟩ := Qei hb
    have hd : l[q]? = some l[q] := List.getElem?_eq_getElem hql
    have hq0 : (0 : Int) ≤ q := by omega
    rw [hb, hq] at hS
    unfold Qhm ownsL at HR
    rw [hb, hq, Int.toNat_natCast, hd] at HR
    simp only [Bool.true_and] at HR
    generalize l[q] = d at *
    clear hb hqk hql
    refine PCalls.enter Tryz.func156 rfl Tryz.ntmps156 (by simp) ?_
    simp only [Qab]
    refine go_ ?_
    refine Je ?_
    intro i0 hi0
    refine go_ ?_
    refine Rd ?_
    refine go_ ?_
    refine Qan [(0, .a), (1, .a), (2, .b), (3, .a), (4, .a), (5, .a), (6, .a), (7, .b), (8, .a), (9, .a), (10, .a), (11, .a), (12, .a), (13, .b), (14, .a), (15, .a), (16, .a), (17, .a), (18, .a), (19, .b), (20, .a), (21, .a), (22, .a), (23, .a), (24, .b), (25, .a), (26, .a), (27, .a), (28, .a), (29, .b), (30, .a), (31, .a), (32, .a), (33, .a), (34, .a), (35, .b), (36, .a), (37, .a), (38, .a), (39, .a), (40, .a), (41, .b), (42, .a), (43, .a), (44, .b), (45, .a), (46, .a), (47, .a), (48, .a), (49, .a)] (by kernel_rfl) (by rfl) (by kernel_rfl) ?_
    refine go_ ?_
    refine Qaa (hS.out) ?_
    refine go_ ?_
    by_cases h1 : q < i
    rotate_left
    · have h1b : i ≤ q := by omega
      have hf : Hid (R = false) := by show _ = _; rw [show R = _ from HR.out]; simp [h1]
      clear HR h1
      refine go_ ?_
      refine Jm (by simp) (by simp only [Tryz.results156]; rfl) (by simp [resP, St.box?, PF.get, Jn, TyK.agg, *]; rfl) Nl ?_
      exact ⟨by rw [hf.out]; rfl, rfl⟩
    have h1b : ¬ i ≤ q := by omega
    have h1c : decide ((q : Int) < i) = true := decide_eq_true (by omega)
    clear h1
    refine go_ ?_
    refine Qas (hN.out) ?_
    refine go_ ?_
    cases h3 : Qbp x.body with
    | false =>
      have hf : Hid (R = false) := by show _ = _; rw [show R = _ from HR.out, h3]; simp
      clear HR
      refine go_ ?_
      refine Jm (by simp) (by simp only [Tryz.results156]; rfl) (by simp [resP, St.box?, PF.get, Jn, TyK.agg, *]; rfl) Nl ?_
      exact ⟨by rw [hf.out]; rfl, rfl⟩
    | true =>
    refine go_ ?_
    by_cases h4 : x.inds = 0
    rotate_left
    · have h4b : (x.inds != 0) = true := bne_iff_ne.2 h4
      have hf : Hid (R = false) := by show _ = _; rw [show R = _ from HR.out]; simp [h4]
      clear HR h4
      refine go_ ?_
      refine Jm (by simp) (by simp only [Tryz.results156]; rfl) (by simp [resP, St.box?, PF.get, Jn, TyK.agg, *]; rfl) Nl ?_
      exact ⟨by rw [hf.out]; rfl, rfl⟩
    have h4b : (x.inds != 0) = false := by rw [h4]; rfl
    have h4c : (x.inds == 0) = true := beq_iff_eq.2 h4
    clear h4
    refine go_ ?_
    by_cases h5 : x.level = 0
    rotate_left
    · have h5b : (x.level != 0) = true := bne_iff_ne.2 h5
      have hf : Hid (R = false) := by show _ = _; rw [show R = _ from HR.out]; simp [h5]
      clear HR h5
      refine go_ ?_
      refine Jm (by simp) (by simp only [Tryz.results156]; rfl) (by simp [resP, St.box?, PF.get, Jn, TyK.agg, *]; rfl) Nl ?_
      exact ⟨by rw [hf.out]; rfl, rfl⟩
    have h5b : (x.level != 0) = false := by rw [h5]; rfl
    have h5c : (x.level == 0) = true := beq_iff_eq.2 h5
    clear h5
    refine go_ ?_
    by_cases h6 : (x.cons.length : Int) = 0
    rotate_left
    · have h6b : ((x.cons.length : Int) != 0) = true := bne_iff_ne.2 h6
      have h6d : ((x.cons.length : Int) == 0) = false := beq_eq_false_iff_ne.2 h6
      have hf : Hid (R = false) := by show _ = _; rw [show R = _ from HR.out, h6d]; simp
      clear HR h6 h6d
      refine go_ ?_
      refine Jm (by simp) (by simp only [Tryz.results156]; rfl) (by simp [resP, St.box?, PF.get, Jn, TyK.agg, *]; rfl) Nl ?_
      exact ⟨by rw [hf.out]; rfl, rfl⟩
    have h6b : ((x.cons.length : Int) != 0) = false := by rw [h6]; rfl
    have h6c : ((x.cons.length : Int) == 0) = true := beq_iff_eq.2 h6
    clear h6
    refine go_ ?_
    by_cases h7 : (x.fields.length : Int) = 0
    rotate_left
    · have h7b : ((x.fields.length : Int) != 0) = true := bne_iff_ne.2 h7
      have h7d : ((x.fields.length : Int) == 0) = false := beq_eq_false_iff_ne.2 h7
      have hf : Hid (R = false) := by show _ = _; rw [show R = _ from HR.out, h7d]; simp
      clear HR h7 h7d
      refine go_ ?_
      refine Jm (by simp) (by simp only [Tryz.results156]; rfl) (by simp [resP, St.box?, PF.get, Jn, TyK.agg, *]; rfl) Nl ?_
      exact ⟨by rw [hf.out]; rfl, rfl⟩
    have h7b : ((x.fields.length : Int) != 0) = false := by rw [h7]; rfl
    have h7c : ((x.fields.length : Int) == 0) = true := beq_iff_eq.2 h7
    clear h7
    refine go_ ?_
    by_cases h2 : x.pars = d.pars
    rotate_left
    · have h2b : (x.pars != d.pars) = true := bne_iff_ne.2 h2
      have hf : Hid (R = false) := by show _ = _; rw [show R = _ from HR.out]; simp [h2]
      clear HR h2
      refine go_ ?_
      refine Jm (by simp) (by simp only [Tryz.results156]; rfl) (by simp [resP, St.box?, PF.get, Jn, TyK.agg, *]; rfl) Nl ?_
      exact ⟨by rw [hf.out]; rfl, rfl⟩
    have h2b : (x.pars != d.pars) = false := by rw [h2]; simp
    have h2c : (x.pars == d.pars) = true := beq_iff_eq.2 h2
    clear h2
    have HR2 : Hid (R = Qec (if x.kind = 4 then d.fields else d.cons) x.place i) := by
      show _ = _
      rw [show R = _ from HR.out, h1c, h2c, h3, h4c, h5c, h6c, h7c]; rfl
    clear HR h1c h2c h4c h5c h6c h7c
    refine go_ ?_
    by_cases hk : x.kind = 4
    · have hkb : (x.kind == 4) = true := beq_iff_eq.2 hk
      have HL : Hid (R = Qdu (d.fields.drop 0) x.place i 0) := by show _ = _; rw [show R = _ from HR2.out, if_pos hk, List.drop_zero, Qjw]
      clear HR2 hk
      refine go_ ?_
      refine Qea (t := 5 + 1) (rows := (d.fields).map encD) (by simp [PF.get] <;> rfl) rfl fun hml => ?_
      rw [List.length_map] at hml
      unfold maxLen at hml
      refine Qak (ι := Nat) (fun y => y ≤ (d.fields).length ∧ Hid (R = Qdu ((d.fields).drop y) x.place i y)) (fun y => [(1, .d (.v (.int .i64 (i : Int)))), (5, .ptr i0 0), (6, .d (.sl ((d.fields).map encD))), (7, .d (.v (.int .i64 (y : Int))))]) (fun _ => [.box i0 40 [.d (.v (.int .i64 x.kind)), .d (.v (.string x.name)), .d (.v (.int .i64 x.ty.kind)), .d (.v (.int .i64 x.ty.num)), .d (.sl (x.ty.sub.map encD)), .d (.v (.int .i64 x.body.kind)), .d (.v (.int .i64 x.body.num)), .d (.sl (x.body.sub.map encD)), .d (.v (.int .i64 q)), .d (.v (.int .i64 x.place)), .d (.v (.int .i64 x.pars)), .d (.v (.int .i64 x.inds)), .d (.v (.int .i64 x.level)), .d (.sl (x.cons.map encD)), .d (.sl (x.fields.map encD))]]) (fun y => (d.fields).length - y) 0 ⟨Nat.zero_le _, HL.out⟩ ?_ ?_ ?_
      · repeat (first | exact Jt _ | refine Js (by simp [PF.get]; rfl) (by first | rfl | (simp [*]; done) | fail) ?_)
      · repeat (first | exact List.Sublist.refl _ | exact List.nil_sublist _ | refine List.Sublist.cons_cons _ ?_ | refine List.Sublist.cons _ ?_)
      · rintro j ⟨hj, hR⟩
        clear HL
        by_cases hlt : j < (d.fields).length
        · have hz : (d.fields)[j]? = some (d.fields)[j] := List.getElem?_eq_getElem hlt
          have hc : (j : Int) < (d.fields).length := by omega
          have hn2 : (0 : Int) ≤ j := by omega
          have hin := wr64 (n := (j : Int) + 1) (by omega) (by omega)
          have hR2 : Hid (R = ((((d.fields)[j] == (i : Int)) && (x.place == (j : Int))) || Qdu ((d.fields).drop (j + 1)) x.place i (j + 1))) := by
            rw [show R = _ from hR.out, List.drop_eq_getElem_cons hlt]; rfl
          clear hR
          generalize (d.fields)[j] = z at *
          have hlt2 := Lib.hid hlt
          clear hlt
          refine go_ ?_
          cases ha : (z == (i : Int)) with
          | false =>
            have hR3 : Hid (R = Qdu ((d.fields).drop (j + 1)) x.place i (j + 1)) := by show _ = _; rw [show R = _ from hR2.out, ha]; simp
            clear hR2
            refine go_ ?_
            have hm := hlt2.out
            exact ⟨j + 1, ⟨hlt2.out, hR3.out⟩, by omega, by repeat (first | exact Jt _ | refine Js (by simp [PF.get]; rfl) (by first | rfl | (simp [*]; done) | fail) ?_), by repeat (first | exact List.Sublist.refl _ | exact List.nil_sublist _ | refine List.Sublist.cons_cons _ ?_ | refine List.Sublist.cons _ ?_)⟩
          | true =>
            refine go_ ?_
            cases hp : (x.place == (j : Int)) with
            | false =>
              have hR3 : Hid (R = Qdu ((d.fields).drop (j + 1)) x.place i (j + 1)) := by show _ = _; rw [show R = _ from hR2.out, hp]; simp
              clear hR2
              refine go_ ?_
              have hm := hlt2.out
              exact ⟨j + 1, ⟨hlt2.out, hR3.out⟩, by omega, by repeat (first | exact Jt _ | refine Js (by simp [PF.get]; rfl) (by first | rfl | (simp [*]; done) | fail) ?_), by repeat (first | exact List.Sublist.refl _ | exact List.nil_sublist _ | refine List.Sublist.cons_cons _ ?_ | refine List.Sublist.cons _ ?_)⟩
            | true =>
              have hf : Hid (R = true) := by show _ = _; rw [show R = _ from hR2.out, ha, hp]; rfl
              clear hR2
              refine go_ ?_
              refine Jm (by simp) (by simp only [Tryz.results156]; rfl) (by simp [resP, St.box?, PF.get, Jn, TyK.agg, *]; rfl) Nl ?_
              exact ⟨by rw [hf.out]; rfl, rfl⟩
        · have hc : ¬ (j : Int) < (d.fields).length := by omega
          have hf : Hid (R = false) := by show _ = _; rw [show R = _ from hR.out, List.drop_of_length_le (by omega)]; rfl
          clear hR
          refine go_ ?_
          refine Jm (by simp) (by simp only [Tryz.results156]; rfl) (by simp [resP, St.box?, PF.get, Jn, TyK.agg, *]; rfl) Nl ?_
          exact ⟨by rw [hf.out]; rfl, rfl⟩
    · have hkb : (x.kind == 4) = false := beq_eq_false_iff_ne.2 hk
      have HL : Hid (R = Qdu (d.cons.drop 0) x.place i 0) := by show _ = _; rw [show R = _ from HR2.out, if_neg hk, List.drop_zero, Qjw]
      clear HR2 hk
      refine go_ ?_
      refine Qea (t := 5 + 1) (rows := (d.cons).map encD) (by simp [PF.get] <;> rfl) rfl fun hml => ?_
      rw [List.length_map] at hml
      unfold maxLen at hml
      refine Qak (ι := Nat) (fun y => y ≤ (d.cons).length ∧ Hid (R = Qdu ((d.cons).drop y) x.place i y)) (fun y => [(1, .d (.v (.int .i64 (i : Int)))), (5, .ptr i0 0), (6, .d (.sl ((d.cons).map encD))), (7, .d (.v (.int .i64 (y : Int))))]) (fun _ => [.box i0 40 [.d (.v (.int .i64 x.kind)), .d (.v (.string x.name)), .d (.v (.int .i64 x.ty.kind)), .d (.v (.int .i64 x.ty.num)), .d (.sl (x.ty.sub.map encD)), .d (.v (.int .i64 x.body.kind)), .d (.v (.int .i64 x.body.num)), .d (.sl (x.body.sub.map encD)), .d (.v (.int .i64 q)), .d (.v (.int .i64 x.place)), .d (.v (.int .i64 x.pars)), .d (.v (.int .i64 x.inds)), .d (.v (.int .i64 x.level)), .d (.sl (x.cons.map encD)), .d (.sl (x.fields.map encD))]]) (fun y => (d.cons).length - y) 0 ⟨Nat.zero_le _, HL.out⟩ ?_ ?_ ?_
      · repeat (first | exact Jt _ | refine Js (by simp [PF.get]; rfl) (by first | rfl | (simp [*]; done) | fail) ?_)
      · repeat (first | exact List.Sublist.refl _ | exact List.nil_sublist _ | refine List.Sublist.cons_cons _ ?_ | refine List.Sublist.cons _ ?_)
      · rintro j ⟨hj, hR⟩
        clear HL
        by_cases hlt : j < (d.cons).length
        · have hz : (d.cons)[j]? = some (d.cons)[j] := List.getElem?_eq_getElem hlt
          have hc : (j : Int) < (d.cons).length := by omega
          have hn2 : (0 : Int) ≤ j := by omega
          have hin := wr64 (n := (j : Int) + 1) (by omega) (by omega)
          have hR2 : Hid (R = ((((d.cons)[j] == (i : Int)) && (x.place == (j : Int))) || Qdu ((d.cons).drop (j + 1)) x.place i (j + 1))) := by
            rw [show R = _ from hR.out, List.drop_eq_getElem_cons hlt]; rfl
          clear hR
          generalize (d.cons)[j] = z at *
          have hlt2 := Lib.hid hlt
          clear hlt
          refine go_ ?_
          cases ha : (z == (i : Int)) with
          | false =>
            have hR3 : Hid (R = Qdu ((d.cons).drop (j + 1)) x.place i (j + 1)) := by show _ = _; rw [show R = _ from hR2.out, ha]; simp
            clear hR2
            refine go_ ?_
            have hm := hlt2.out
            exact ⟨j + 1, ⟨hlt2.out, hR3.out⟩, by omega, by repeat (first | exact Jt _ | refine Js (by simp [PF.get]; rfl) (by first | rfl | (simp [*]; done) | fail) ?_), by repeat (first | exact List.Sublist.refl _ | exact List.nil_sublist _ | refine List.Sublist.cons_cons _ ?_ | refine List.Sublist.cons _ ?_)⟩
          | true =>
            refine go_ ?_
            cases hp : (x.place == (j : Int)) with
            | false =>
              have hR3 : Hid (R = Qdu ((d.cons).drop (j + 1)) x.place i (j + 1)) := by show _ = _; rw [show R = _ from hR2.out, hp]; simp
              clear hR2
              refine go_ ?_
              have hm := hlt2.out
              exact ⟨j + 1, ⟨hlt2.out, hR3.out⟩, by omega, by repeat (first | exact Jt _ | refine Js (by simp [PF.get]; rfl) (by first | rfl | (simp [*]; done) | fail) ?_), by repeat (first | exact List.Sublist.refl _ | exact List.nil_sublist _ | refine List.Sublist.cons_cons _ ?_ | refine List.Sublist.cons _ ?_)⟩
            | true =>
              have hf : Hid (R = true) := by show _ = _; rw [show R = _ from hR2.out, ha, hp]; rfl
              clear hR2
              refine go_ ?_
              refine Jm (by simp) (by simp only [Tryz.results156]; rfl) (by simp [resP, St.box?, PF.get, Jn, TyK.agg, *]; rfl) Nl ?_
              exact ⟨by rw [hf.out]; rfl, rfl⟩
        · have hc : ¬ (j : Int) < (d.cons).length := by omega
          have hf : Hid (R = false) := by show _ = _; rw [show R = _ from hR.out, List.drop_of_length_le (by omega)]; rfl
          clear hR
          refine go_ ?_
          refine Jm (by simp) (by simp only [Tryz.results156]; rfl) (by simp [resP, St.box?, PF.get, Jn, TyK.agg, *]; rfl) Nl ?_
          exact ⟨by rw [hf.out]; rfl, rfl⟩
def defB (x : En) (i : Int) : Bool := Qbv x.body i && ((x.of_ == 0) && ((x.place == 0) && ((x.pars == 0) && ((x.inds == 0) && ((x.level == 0) && ((x.cons.length : Int) + x.fields.length == 0))))))
theorem sdef_p (l : List En) (i : Nat) (hi : i < l.length) (ho : EnOk l[i]) : PCalls Tryz.prog 192 [.d (.sl (l.map encD)), .d (.v (.int .i64 i))] [] fun p s => p = .d (.v (.bool (defB l[i] i))) ∧ s = [] := by
 have hn : (0 : Int) ≤ i := by omega
 have hx3 : l[i]? = some l[i] := List.getElem?_eq_getElem hi
 generalize l[i] = x at *
 have hws := wr64 (n := (x.cons.length : Int) + x.fields.length) (by have := ho.1; have := ho.2; omega) (by have := ho.1; have := ho.2; omega)
 have hS := Lib.hid (sclosed_p x.body i)
 simp only [aggD, Jl, List.map_cons, List.map_nil] at hS
 have HR := Lib.hid (show defB x i = (Qbv x.body i && ((x.of_ == 0) && ((x.place == 0) && ((x.pars == 0) && ((x.inds == 0) && ((x.level == 0) && ((x.cons.length : Int) + x.fields.length == 0))))))) from rfl)
 generalize defB x i = R at *
 generalize Qbv x.body i = C at *
 clear hi ho
 refine PCalls.enter Tryz.func192 rfl Tryz.ntmps192 (by simp) ?_
 simp only [Qab]
 refine go_ ?_
 refine Je ?_
 intro i0 hi0
 refine go_ ?_
 refine Rd ?_
 refine go_ ?_
 refine Jc (hS.out) ?_
 refine go_ ?_
 clear hS
 rcases Bool.eq_false_or_eq_true (C) with h0 | h0
 rotate_left
 ·refine go_ ?_
  refine Jm (by simp) (by simp only [Tryz.results192]; rfl) (by simp [resP, St.box?, PF.get, Jn, TyK.agg, *]; rfl) Nl ?_
  exact ⟨by rw [HR.out]; simp [tupP, PV.norm2, PV.norm1, PV.norm0, *], rfl⟩
 refine go_ ?_
 rcases Bool.eq_false_or_eq_true (x.of_ == 0) with h1 | h1
 rotate_left
 ·refine go_ ?_
  refine Jm (by simp) (by simp only [Tryz.results192]; rfl) (by simp [resP, St.box?, PF.get, Jn, TyK.agg, *]; rfl) Nl ?_
  exact ⟨by rw [HR.out]; simp [tupP, PV.norm2, PV.norm1, PV.norm0, *], rfl⟩
 refine go_ ?_
 rcases Bool.eq_false_or_eq_true (x.place == 0) with h2 | h2
 rotate_left
 ·refine go_ ?_
  refine Jm (by simp) (by simp only [Tryz.results192]; rfl) (by simp [resP, St.box?, PF.get, Jn, TyK.agg, *]; rfl) Nl ?_
  exact ⟨by rw [HR.out]; simp [tupP, PV.norm2, PV.norm1, PV.norm0, *], rfl⟩
 refine go_ ?_
 rcases Bool.eq_false_or_eq_true (x.pars == 0) with h3 | h3
 rotate_left
 ·refine go_ ?_
  refine Jm (by simp) (by simp only [Tryz.results192]; rfl) (by simp [resP, St.box?, PF.get, Jn, TyK.agg, *]; rfl) Nl ?_
  exact ⟨by rw [HR.out]; simp [tupP, PV.norm2, PV.norm1, PV.norm0, *], rfl⟩
 refine go_ ?_
 rcases Bool.eq_false_or_eq_true (x.inds == 0) with h4 | h4
 rotate_left
 ·refine go_ ?_
  refine Jm (by simp) (by simp only [Tryz.results192]; rfl) (by simp [resP, St.box?, PF.get, Jn, TyK.agg, *]; rfl) Nl ?_
  exact ⟨by rw [HR.out]; simp [tupP, PV.norm2, PV.norm1, PV.norm0, *], rfl⟩
 refine go_ ?_
 rcases Bool.eq_false_or_eq_true (x.level == 0) with h5 | h5
 rotate_left
 ·refine go_ ?_
  refine Jm (by simp) (by simp only [Tryz.results192]; rfl) (by simp [resP, St.box?, PF.get, Jn, TyK.agg, *]; rfl) Nl ?_
  exact ⟨by rw [HR.out]; simp [tupP, PV.norm2, PV.norm1, PV.norm0, *], rfl⟩
 refine go_ ?_
 refine go_ ?_
 refine Jm (by simp) (by simp only [Tryz.results192]; rfl) (by simp [resP, St.box?, PF.get, Jn, TyK.agg, *]; rfl) Nl ?_
 exact ⟨by rw [HR.out]; simp [tupP, PV.norm2, PV.norm1, PV.norm0, *], rfl⟩
theorem Qgz {t : Tm} (hg : Qaj t = true) (h1 : chgT t ≤ 128) (h2 : cndT t ≤ 8192) : Qai t = true := by
 unfold Qai Qct Qcy
 rw [csz_nd t 0 (by omega) (by omega), if_neg (by omega), cdp_hg t 1 (by omega) (by omega), hg]
 simp only [Bool.and_true, decide_eq_true_eq]
 omega
theorem Qjn {m : Int} {a b : Tm} (h : Qai (.mk 3 m [a, b]) = true) : Qai a = true ∧ Qai b = true := by
 obtain ⟨hg, h1, h2⟩ := Qbd h
 have hp := (Qcs hg).2
 simp only [chgT, chgL, cndT, cndL] at h1 h2
 exact ⟨Qgz (hp _ (by simp)) (by omega) (by omega), Qgz (hp _ (by simp)) (by omega) (by omega)⟩
theorem cutPi_shaped : ∀ (n : Nat) (t : Tm) (l : List Tm) (x : Tm), Qai t = true → Qcv n t = some (l, x) → l.length = n ∧ Qai x = true ∧ ∀ s ∈ l, Qai s = true := by
  intro n
  induction n with
  | zero =>
    intro t l x h hc
    simp only [Qcv, Option.some.injEq, Prod.mk.injEq] at hc
    obtain ⟨rfl, rfl⟩ := hc
    exact ⟨rfl, h, by simp⟩
  | succ n ih =>
    intro t l x h hc
    by_cases hk : t.kind = 3
    · obtain ⟨y, b, rfl, hy, hb⟩ := Qgi (Qbd h).1 hk
      rw [Qge] at hc
      obtain ⟨⟨l2, x2⟩, h2, h3⟩ := Option.map_eq_some_iff.1 hc
      simp only [Prod.mk.injEq] at h3
      obtain ⟨rfl, rfl⟩ := h3
      obtain ⟨hl, hx, hs⟩ := ih b l2 x2 (Qjn h).2 h2
      refine ⟨by simp [hl], hx, ?_⟩
      intro s hm
      cases hm with
      | head => exact (Qjn h).1
      | tail _ hm => exact hs s hm
    · rw [Qio hk] at hc; cases hc
theorem split_ok {t : Tm} {n : Int} (h : (Qay t n).2.2 = 0) : 0 ≤ n ∧ n ≤ 24 ∧ ((Qay t n).1.length : Int) = n ∧ Qai (Qay t n).2.1 = true ∧ ∀ s ∈ (Qay t n).1, Qai s = true := by
  unfold Qay at h ⊢
  split at h
  · simp at h
  · rename_i h1
    rw [if_neg h1]
    split at h
    · simp at h
    · rename_i h2
      rw [if_neg h2]
      have hs : Qai t = true := by cases hb : Qai t <;> simp_all
      cases hc : Qcv n.toNat t with
      | none => rw [hc] at h; simp at h
      | some y =>
        obtain ⟨l, x⟩ := y
        obtain ⟨h3, h4, h5⟩ := cutPi_shaped _ _ _ _ hs hc
        exact ⟨by omega, by omega, by show (l.length : Int) = n; omega, h4, h5⟩
theorem whole_ok {t : Tm} (h : (Qbu t).2.2 = 0) : ((Qbu t).1.length : Int) ≤ 24 ∧ Qai (Qbu t).2.1 = true := by
 unfold Qbu at h ⊢
 obtain ⟨h1, h2, h3, h4, -⟩ := split_ok h
 exact ⟨by rw [h3]; exact h2, h4⟩
def Qhl (l : List En) (n : Int) : Int := match l[n.toNat]? with | some d => d.inds | none => 0
def conB (l : List En) (x : En) (i : Int) : Bool :=
 Qdg l x i && (((Qbu x.ty).2.2 == 0) && (decide (x.pars ≤ (Qbu x.ty).1.length) && Qbq (Qbu x.ty).2.1 x.of_ x.pars (Qhl l x.of_) (Qbu x.ty).1.length))
def FamOk (l : List En) (i : Nat) : Prop := ∀ (q : Nat) (d : En), q < i → l[q]? = some d → d.kind = 1 → (0 ≤ d.pars ∧ d.pars ≤ 24) ∧ (0 ≤ d.inds ∧ d.inds ≤ 24)
theorem Qgu {l : List En} {x : En} {i : Nat} (h : Qdg l x i = true) : ∃ (q : Nat) (d : En), x.of_ = q ∧ q < i ∧ l[q]? = some d ∧ d.kind = 1 ∧ x.pars = d.pars := by
 unfold Qdg at h
 simp only [Bool.and_eq_true, decide_eq_true_eq] at h
 obtain ⟨h1, h2, h3, -⟩ := h
 obtain ⟨q, hq, hl, hk⟩ := Qei h1
 refine ⟨q, l[q], hq, by omega, List.getElem?_eq_getElem hl, hk, ?_⟩
 have h4 := beq_iff_eq.1 h3
 unfold Qhm at h4
 rw [hq, Int.toNat_natCast, List.getElem?_eq_getElem hl] at h4
 exact h4
theorem scon_p (l : List En) (i : Nat) (hi : i < l.length) (ho : ∀ e ∈ l, EnOk e) (hf : FamOk l i) : PCalls Tryz.prog 190 [.d (.sl (l.map encD)), .d (.v (.int .i64 i))] [] fun p s => p = .d (.v (.bool (conB l l[i] i))) ∧ s = [] := by
  have hO := Lib.hid (sowned_p l i hi ho)
  obtain ⟨R, hR⟩ : ∃ R, R = conB l l[i] i := ⟨_, rfl⟩
  rw [← hR]
  have hn : (0 : Int) ≤ i := by omega
  have hx3 : l[i]? = some l[i] := List.getElem?_eq_getElem hi
  unfold conB at hR
  generalize l[i] = x at *
  have hW := Lib.hid (tWhole_p x.ty)
  have hok : (Qbu x.ty).2.2 = 0 → ((Qbu x.ty).1.length : Int) ≤ 24 ∧ Qai (Qbu x.ty).2.1 = true := fun h => whole_ok h
  generalize Qbu x.ty = W at *
  obtain ⟨sl, sx, se⟩ := W
  simp only at hR hok
  unfold Qdi at hW
  simp only [aggD, Jl, List.map_cons, List.map_nil] at hW
  have HR := Lib.hid hR
  have HK := Lib.hid hok
  clear hR hi ho hok
  cases hb : Qdg l x i with
  | false =>
    have HF : Hid (R = false) := by show _ = _; rw [show R = _ from HR.out, hb]; rfl
    rw [hb] at hO
    clear HR hb HK hf
    refine PCalls.enter Tryz.func190 rfl Tryz.ntmps190 (by simp) ?_
    simp only [Qab]
    refine go_ ?_
    refine Jc (hW.out) ?_
    refine go_ ?_
    refine Je ?_
    intro i0 hi0
    refine go_ ?_
    refine Rd ?_
    refine go_ ?_
    refine Qan [(0, .a), (1, .a), (2, .a), (3, .a), (4, .a), (5, .a), (6, .a), (7, .a), (8, .a), (9, .a), (10, .a), (11, .a), (12, .a), (13, .a), (14, .a), (15, .a), (16, .a), (17, .a), (18, .b), (19, .a), (20, .a), (21, .a), (22, .a), (23, .a), (24, .a), (25, .a), (26, .a), (27, .a), (28, .a), (29, .a), (30, .a), (31, .a), (32, .a), (33, .a), (34, .a), (35, .a), (36, .a), (37, .a), (38, .a), (39, .a), (40, .a), (41, .a), (42, .a)] (by kernel_rfl) (by rfl) (by kernel_rfl) ?_
    refine go_ ?_
    refine Qaa (hO.out) ?_
    refine go_ ?_
    refine Jm (by simp) (by simp only [Tryz.results190]; rfl) (by simp [resP, St.box?, PF.get, Jn, TyK.agg, *]; rfl) Nl ?_
    exact ⟨by rw [HF.out]; rfl, rfl⟩
  | true =>
    obtain ⟨q, d, hq, hqi, hd, hdk, hpp⟩ := Qgu hb
    have hB := Lib.hid (hf q d hqi hd hdk)
    have hq0 : (0 : Int) ≤ q := by omega
    rw [hb] at hO HR
    unfold Qhl at HR
    rw [hq, Int.toNat_natCast, hd] at HR
    simp only [Bool.true_and] at HR
    have hP := Lib.hid hpp
    clear hb hf hpp hqi hdk
    refine PCalls.enter Tryz.func190 rfl Tryz.ntmps190 (by simp) ?_
    simp only [Qab]
    refine go_ ?_
    refine Jc (hW.out) ?_
    refine go_ ?_
    refine Je ?_
    intro i0 hi0
    refine go_ ?_
    refine Rd ?_
    refine go_ ?_
    refine Qan [(0, .a), (1, .a), (2, .a), (3, .a), (4, .a), (5, .a), (6, .a), (7, .a), (8, .a), (9, .a), (10, .a), (11, .a), (12, .a), (13, .a), (14, .a), (15, .a), (16, .a), (17, .a), (18, .b), (19, .a), (20, .a), (21, .a), (22, .a), (23, .a), (24, .a), (25, .a), (26, .a), (27, .a), (28, .a), (29, .a), (30, .a), (31, .a), (32, .a), (33, .a), (34, .a), (35, .a), (36, .a), (37, .a), (38, .a), (39, .a), (40, .a), (41, .a), (42, .a)] (by kernel_rfl) (by rfl) (by kernel_rfl) ?_
    refine go_ ?_
    refine Qaa (hO.out) ?_
    refine go_ ?_
    rcases Bool.eq_false_or_eq_true (se == 0) with h1 | h1
    rotate_left
    · have HF : Hid (R = false) := by show _ = _; rw [show R = _ from HR.out, h1]; rfl
      clear HR HK
      refine go_ ?_
      refine Jm (by simp) (by simp only [Tryz.results190]; rfl) (by simp [resP, St.box?, PF.get, Jn, TyK.agg, *]; rfl) Nl ?_
      exact ⟨by rw [HF.out]; rfl, rfl⟩
    have hk := HK.out (beq_iff_eq.1 h1)
    have h24 := Lib.hid hk.1
    have hsx := Lib.hid hk.2
    clear hk HK
    refine go_ ?_
    by_cases h2 : x.pars ≤ (sl.length : Int)
    rotate_left
    · have HF : Hid (R = false) := by show _ = _; rw [show R = _ from HR.out]; simp [h2]
      clear HR
      refine go_ ?_
      refine Jm (by simp) (by simp only [Tryz.results190]; rfl) (by simp [resP, St.box?, PF.get, Jn, TyK.agg, *]; rfl) Nl ?_
      exact ⟨by rw [HF.out]; rfl, rfl⟩
    have hA := Lib.hid (sapplied_p sx q x.pars d.inds sl.length hsx.out (by rw [hP.out]; exact hB.out.1.1) (by rw [hP.out]; exact hB.out.1.2) hB.out.2.1 hB.out.2.2 (by omega) (by have := h24.out; omega))
    simp only [aggD, Jl, List.map_cons, List.map_nil] at hA
    have HF : Hid (R = Qbq sx q x.pars d.inds sl.length) := by
      show _ = _
      rw [show R = _ from HR.out, h1, decide_eq_true h2]; rfl
    clear HR hsx h24 hB hP
    generalize Qbq sx q x.pars d.inds sl.length = A at *
    refine go_ ?_
    refine Qas (hA.out) ?_
    refine go_ ?_
    refine Jm (by simp) (by simp only [Tryz.results190]; rfl) (by simp [resP, St.box?, PF.get, Jn, TyK.agg, *]; rfl) Nl ?_
    exact ⟨by rw [HF.out]; rfl, rfl⟩
def Qfx (l : List En) (x : En) (i : Int) : Bool :=
 Qdg l x i && (((Qay x.ty (x.pars + 1)).2.2 == 0) && (match (Qay x.ty (x.pars + 1)).1[x.pars.toNat]? with | some t => Qbq t x.of_ x.pars 0 x.pars | none => false))
theorem sproj_p (l : List En) (i : Nat) (hi : i < l.length) (ho : ∀ e ∈ l, EnOk e) (hf : FamOk l i) : PCalls Tryz.prog 191 [.d (.sl (l.map encD)), .d (.v (.int .i64 i))] [] fun p s => p = .d (.v (.bool (Qfx l l[i] i))) ∧ s = [] := by
  have hO := Lib.hid (sowned_p l i hi ho)
  obtain ⟨R, hR⟩ : ∃ R, R = Qfx l l[i] i := ⟨_, rfl⟩
  rw [← hR]
  have hn : (0 : Int) ≤ i := by omega
  have hx3 : l[i]? = some l[i] := List.getElem?_eq_getElem hi
  unfold Qfx at hR
  generalize l[i] = x at *
  cases hb : Qdg l x i with
  | false =>
    have HF : Hid (R = false) := by show _ = _; rw [hR, hb]; rfl
    rw [hb] at hO
    clear hR hb hf ho hi
    refine PCalls.enter Tryz.func191 rfl Tryz.ntmps191 (by simp) ?_
    simp only [Qab]
    refine go_ ?_
    refine Jc (hO.out) ?_
    refine go_ ?_
    refine Jm (by simp) (by simp only [Tryz.results191]; rfl) (by simp [resP, St.box?, PF.get, Jn, TyK.agg, *]; rfl) Nl ?_
    exact ⟨by rw [HF.out]; rfl, rfl⟩
  | true =>
    obtain ⟨q, d, hq, hqi, hd, hdk, hpp⟩ := Qgu hb
    have hB := hf q d hqi hd hdk
    obtain ⟨m, hm⟩ : ∃ m : Nat, x.pars = m := ⟨x.pars.toNat, by omega⟩
    have hm24 : Hid ((m : Int) ≤ 24) := by show (m : Int) ≤ 24; omega
    have hm0 : (0 : Int) ≤ m := by omega
    have hws := wr64 (n := (m : Int) + 1) (by omega) (by omega)
    have hW := Lib.hid (tSplit_p x.ty ((m : Int) + 1))
    have hok : (Qay x.ty ((m : Int) + 1)).2.2 = 0 → ((Qay x.ty ((m : Int) + 1)).1.length : Int) = (m : Int) + 1 ∧ ∀ s ∈ (Qay x.ty ((m : Int) + 1)).1, Qai s = true := fun h => ⟨(split_ok h).2.2.1, (split_ok h).2.2.2.2⟩
    rw [hm, hq] at hR
    generalize Qay x.ty ((m : Int) + 1) = W at *
    obtain ⟨sl, sx, se⟩ := W
    simp only at hR hok
    unfold Qdi at hW
    simp only [aggD, Jl, List.map_cons, List.map_nil] at hW
    have HR := Lib.hid hR
    have HK := Lib.hid hok
    rw [hb] at hO HR
    rw [Int.toNat_natCast] at HR
    simp only [Bool.true_and] at HR
    clear hR hi ho hok hb hf hpp hqi hdk hB
    refine PCalls.enter Tryz.func191 rfl Tryz.ntmps191 (by simp) ?_
    simp only [Qab]
    refine go_ ?_
    refine Jc (hO.out) ?_
    refine go_ ?_
    refine Qgo (J := Qcw []) [(0, .a), (1, .a), (2, .a), (3, .a), (4, .a), (5, .a), (6, .a), (7, .a), (8, .a), (9, .a), (10, .a), (11, .a), (12, .a), (13, .a), (14, .a), (15, .a), (16, .e), (17, .a), (18, .e), (19, .a)] (by kernel_rfl) (by rfl) (by kernel_rfl) (by (repeat (first | exact Qam _ | refine Ju (by simp [St.box?, *] <;> rfl) ?_))) ?_
    repeat (first | with_reducible refine Qby ?_ | refine Qcb ?_ | refine Qcj ?_ | refine Qcr ?_)
    refine PJ_call2 (hW.out) ?_
    repeat (first | with_reducible refine Qby ?_ | refine Qcb ?_ | refine Qcj ?_ | refine Qcr ?_)
    refine PJ_alloc rfl (by decide) rfl (by simp; rfl) (fun i hi => by simp only [Ja, Rh, Rg] at hi; (repeat (first | exact Qam _ | refine Ju (by simp [St.box?, *] <;> rfl) ?_))) ?_
    intro i0 hi0
    try simp only [Ja, Rh, Rg, Jb] at hi0
    repeat (first | with_reducible refine Qby ?_ | refine Qcb ?_ | refine Qcj ?_ | refine Qcr ?_)
    refine PJ_store rfl rfl (by simp [nev, nevA, nevB, Jp, PF.eval, PF.get, PF.wants, cPV, Qae, PV.rows, Qaf, evUn, Jq, Qah, Qag, Jn, TyK.agg, Qad, St.box?, St.tok?, St.setBox, St.setTok, Qac, spl, PV.ps, PV.one, Jo, aggD, slD, Jh, Jk, Ji, Jj, Jg, Jf, *]; rfl) (by rfl) (by simp [nev, nevA, nevB, Jp, PF.eval, PF.get, PF.wants, cPV, Qae, PV.rows, Qaf, evUn, Jq, Qah, Qag, Jn, TyK.agg, Qad, St.box?, St.tok?, St.setBox, St.setTok, Qac, spl, PV.ps, PV.one, Jo, aggD, slD, Jh, Jk, Ji, Jj, Jg, Jf, *]; rfl) (by simp [PV.ps, aggD, slD, Jh, Jk, Ji, Jj, Jg, Jf]; rfl) (by first | rfl | (simp [*]; done) | (simp [PV.one, *]; done) | fail) (by simp; rfl) (by first | (simp; done) | fail) (by simp [nev, nevA, nevB, Jp, PF.eval, PF.get, PF.wants, cPV, Qae, PV.rows, Qaf, evUn, Jq, Qah, Qag, Jn, TyK.agg, Qad, St.box?, St.tok?, St.setBox, St.setTok, Qac, spl, PV.ps, PV.one, Jo, aggD, slD, Jh, Jk, Ji, Jj, Jg, Jf, *]; rfl) (by rfl) (by first | (simp; done) | fail) (by simp [St.setBox, spl, *]; rfl) (by (repeat (first | exact Qam _ | refine Ju (by simp [St.box?, *] <;> rfl) ?_))) ?_
    repeat (first | with_reducible refine Qby ?_ | refine Qcb ?_ | refine Qcj ?_ | refine Qcr ?_)
    refine go_ ?_
    refine Qan [(0, .a), (1, .a), (2, .a), (3, .a), (4, .a), (5, .a), (6, .a), (7, .a), (8, .a), (9, .a), (10, .a), (11, .a), (12, .a), (13, .a), (14, .a), (15, .a), (16, .a), (17, .a), (18, .a), (19, .a), (20, .a), (21, .a), (22, .a), (23, .a), (24, .a), (25, .a), (26, .a), (27, .a), (28, .a)] (by kernel_rfl) (by rfl) (by kernel_rfl) ?_
    refine go_ ?_
    rcases Bool.eq_false_or_eq_true (se == 0) with h1 | h1
    rotate_left
    · have HF : Hid (R = false) := by show _ = _; rw [show R = _ from HR.out, h1]; rfl
      clear HR HK
      refine go_ ?_
      refine Jm (by simp) (by simp only [Tryz.results191]; rfl) (by simp [resP, St.box?, PF.get, Jn, TyK.agg, *]; rfl) Nl ?_
      exact ⟨by rw [HF.out]; rfl, rfl⟩
    obtain ⟨hl, hsh⟩ := HK.out (beq_iff_eq.1 h1)
    have hml : m < sl.length := by omega
    have hy : sl[m]? = some sl[m] := List.getElem?_eq_getElem hml
    have hsy := Lib.hid (hsh _ (List.getElem_mem hml))
    have hm1 : (m : Int) < sl.length := by omega
    rw [hy] at HR
    clear hl hsh HK
    generalize sl[m] = y at *
    clear hml
    have hA := Lib.hid (sapplied_p y q m 0 m hsy.out hm0 hm24.out (by omega) (by omega) hm0 (by have := hm24.out; omega))
    simp only [aggD, Jl, List.map_cons, List.map_nil] at hA
    have HF : Hid (R = Qbq y q m 0 m) := by
      show _ = _
      rw [show R = _ from HR.out, h1]; rfl
    clear HR hsy hm24
    generalize Qbq y q m 0 m = A at *
    refine go_ ?_
    refine Qas (hA.out) ?_
    refine go_ ?_
    refine Jm (by simp) (by simp only [Tryz.results191]; rfl) (by simp [resP, St.box?, PF.get, Jn, TyK.agg, *]; rfl) Nl ?_
    exact ⟨by rw [HF.out]; rfl, rfl⟩
def fam1 (x : En) : Bool := decide (0 ≤ x.pars) && (decide (0 ≤ x.inds) && (decide (x.pars ≤ 24) && (decide (x.inds ≤ 24 - x.pars) && ((x.of_ == 0) && ((x.place == 0) && Qbp x.body)))))
def fam2 (l : List En) (x : En) (i : Nat) (W : List Tm × Tm × Int) : Bool := (W.2.2 == 0) && ((W.2.1.kind == 2) && ((W.2.1.num == x.level) && (decide ((x.cons.length : Int) ≤ 16) && (runW x.cons ((i : Int) + 1) 0 && Qbm l i x.cons 2 0))))
def fam4 (l : List En) (x : En) (n : Nat) : Bool := match l[n]? with | some d => ((Qbu d.ty).2.2 == 0) && (((Qbu d.ty).1.length : Int) == x.pars + x.fields.length) | none => false
def fam3 (l : List En) (x : En) (i : Nat) : Bool := ((x.fields.length : Int) == 0) || ((x.inds == 0) && (((x.cons.length : Int) == 1) && (runW x.fields ((i : Int) + 2) 0 && (Qbm l i x.fields 4 0 && fam4 l x (i + 1)))))
def famB (l : List En) (x : En) (i : Nat) : Bool := fam1 x && (fam2 l x i (Qay x.ty (x.pars + x.inds)) && fam3 l x i)
theorem one_con {l : List En} {c : List Int} {i : Nat} (h1 : (c.length : Int) = 1) (hi : i + 1 < 4000000000000000000) (hr : runW c ((i : Int) + 1) 0 = true) (hm : Qbm l i c 2 0 = true) : i + 1 < l.length := by
  match c, h1 with
  | [n], _ =>
    simp only [runW, Qbm, Bool.and_eq_true, Bool.and_true] at hr hm
    have h2 := beq_iff_eq.1 hr
    rw [wr64 (n := (i : Int) + 1 + ((0 : Nat) : Int)) (by omega) (by omega)] at h2
    unfold memE at hm
    rw [Bool.and_eq_true] at hm
    obtain ⟨m, hm1, hm2, -⟩ := Qei hm.1
    omega
theorem sfamily_p (l : List En) (i : Nat) (hi : i < l.length) (hl : l.length ≤ 3000000000000000000) (ho : EnOk l[i]) : PCalls Tryz.prog 189 [.d (.sl (l.map encD)), .d (.v (.int .i64 i))] [] fun p s => p = .d (.v (.bool (famB l l[i] i))) ∧ s = [] := by
 obtain ⟨R, hR⟩ : ∃ R, R = famB l l[i] i := ⟨_, rfl⟩
 rw [← hR]
 have hn : (0 : Int) ≤ i := by omega
 have hx3 : l[i]? = some l[i] := List.getElem?_eq_getElem hi
 unfold famB at hR
 generalize l[i] = x at *
 have hN := Lib.hid (snone_p x.body)
 simp only [aggD, Jl, List.map_cons, List.map_nil] at hN
 have hw1 := wr64 (n := (i : Int) + 1) (by omega) (by omega)
 have hw2 := wr64 (n := (i : Int) + 2) (by omega) (by omega)
 have HO := Lib.hid ho
 have HL := Lib.hid (show i + 1 < 4000000000000000000 by omega)
 have HR := Lib.hid hR
 clear hR hi ho hl
 refine PCalls.enter Tryz.func189 rfl Tryz.ntmps189 (by simp) ?_
 simp only [Qab]
 refine go_ ?_
 refine Je ?_
 intro i0 hi0
 refine go_ ?_
 refine Rd ?_
 refine go_ ?_
 by_cases a1 : 0 ≤ x.pars
 rotate_left
 ·have a1b : x.pars < 0 := by omega
  have HF : Hid (R = false) := by show _ = _; rw [show R = _ from HR.out]; unfold fam1; simp [a1]
  clear HR a1
  refine go_ ?_
  refine Jm (by simp) (by simp only [Tryz.results189]; rfl) (by simp [resP, St.box?, PF.get, Jn, TyK.agg, *]; rfl) Nl ?_
  exact ⟨by rw [HF.out]; rfl, rfl⟩
 have a1c : ¬ x.pars < 0 := by omega
 refine go_ ?_
 by_cases a2 : 0 ≤ x.inds
 rotate_left
 ·have a2b : x.inds < 0 := by omega
  have HF : Hid (R = false) := by show _ = _; rw [show R = _ from HR.out]; unfold fam1; simp [a2]
  clear HR a2
  refine go_ ?_
  refine Jm (by simp) (by simp only [Tryz.results189]; rfl) (by simp [resP, St.box?, PF.get, Jn, TyK.agg, *]; rfl) Nl ?_
  exact ⟨by rw [HF.out]; rfl, rfl⟩
 have a2c : ¬ x.inds < 0 := by omega
 refine go_ ?_
 by_cases a3 : x.pars ≤ 24
 rotate_left
 ·have a3b : 24 < x.pars := by omega
  have HF : Hid (R = false) := by show _ = _; rw [show R = _ from HR.out]; unfold fam1; simp [a3]
  clear HR a3
  refine go_ ?_
  refine Jm (by simp) (by simp only [Tryz.results189]; rfl) (by simp [resP, St.box?, PF.get, Jn, TyK.agg, *]; rfl) Nl ?_
  exact ⟨by rw [HF.out]; rfl, rfl⟩
 have a3c : ¬ 24 < x.pars := by omega
 refine go_ ?_
 have hw3 := wr64 (n := 24 - x.pars) (by omega) (by omega)
 refine go_ ?_
 by_cases a4 : x.inds ≤ 24 - x.pars
 rotate_left
 ·have a4b : 24 - x.pars < x.inds := by omega
  have HF : Hid (R = false) := by show _ = _; rw [show R = _ from HR.out]; unfold fam1; simp [a4]
  clear HR a4
  refine go_ ?_
  refine Jm (by simp) (by simp only [Tryz.results189]; rfl) (by simp [resP, St.box?, PF.get, Jn, TyK.agg, *]; rfl) Nl ?_
  exact ⟨by rw [HF.out]; rfl, rfl⟩
 have a4c : ¬ 24 - x.pars < x.inds := by omega
 refine go_ ?_
 by_cases a5 : x.of_ = 0
 rotate_left
 ·have a5b : (x.of_ != 0) = true := bne_iff_ne.2 a5
  have HF : Hid (R = false) := by show _ = _; rw [show R = _ from HR.out]; unfold fam1; simp [a5]
  clear HR a5
  refine go_ ?_
  refine Jm (by simp) (by simp only [Tryz.results189]; rfl) (by simp [resP, St.box?, PF.get, Jn, TyK.agg, *]; rfl) Nl ?_
  exact ⟨by rw [HF.out]; rfl, rfl⟩
 have a5c : (x.of_ != 0) = false := by rw [a5]; rfl
 refine go_ ?_
 by_cases a6 : x.place = 0
 rotate_left
 ·have a6b : (x.place != 0) = true := bne_iff_ne.2 a6
  have HF : Hid (R = false) := by show _ = _; rw [show R = _ from HR.out]; unfold fam1; simp [a6]
  clear HR a6
  refine go_ ?_
  refine Jm (by simp) (by simp only [Tryz.results189]; rfl) (by simp [resP, St.box?, PF.get, Jn, TyK.agg, *]; rfl) Nl ?_
  exact ⟨by rw [HF.out]; rfl, rfl⟩
 have a6c : (x.place != 0) = false := by rw [a6]; rfl
 refine go_ ?_
 refine Jr (hN.out) ?_
 refine go_ ?_
 clear hN
 by_cases a7 : Qbp x.body = true
 rotate_left
 ·have a7b : Qbp x.body = false := by simpa using a7
  have HF : Hid (R = false) := by show _ = _; rw [show R = _ from HR.out]; unfold fam1; simp [a7]
  clear HR a7
  refine go_ ?_
  refine Jm (by simp) (by simp only [Tryz.results189]; rfl) (by simp [resP, St.box?, PF.get, Jn, TyK.agg, *]; rfl) Nl ?_
  exact ⟨by rw [HF.out]; rfl, rfl⟩
 have a7c : Qbp x.body = Qbp x.body := rfl
 refine go_ ?_
 have HR1 : Hid (R = (fam2 l x i (Qay x.ty (x.pars + x.inds)) && fam3 l x i)) := by
  show _ = _
  rw [show R = _ from HR.out]
  unfold fam1
  simp [a1, a2, a3, a4, a5, a6, a7]
 clear HR
 have hw4 := wr64 (n := x.pars + x.inds) (by omega) (by omega)
 have HB := Lib.hid (And.intro (And.intro a1 a3) (And.intro a2 a4))
 clear a1 a2 a3 a4 a5 a6 a7 hw3
 clear a1c a2c a3c a4c a5c a6c
 have hW := Lib.hid (tSplit_p x.ty (x.pars + x.inds))
 unfold fam2 at HR1
 generalize Qay x.ty (x.pars + x.inds) = W at *
 obtain ⟨sl, sx, se⟩ := W
 simp only at HR1
 unfold Qdi at hW
 simp only [aggD, Jl, List.map_cons, List.map_nil] at hW
 refine go_ ?_
 refine Jc (hW.out) ?_
 refine go_ ?_
 clear hW
 refine Je ?_
 intro i1 hi1
 try simp only [Ja, Rh, Rg, Jb] at hi1
 refine go_ ?_
 refine Rd ?_
 refine go_ ?_
 by_cases b1 : se = 0
 rotate_left
 ·have b1b : (se != 0) = true := bne_iff_ne.2 b1
  have HF : Hid (R = false) := by show _ = _; rw [show R = _ from HR1.out]; skip; simp [b1]
  clear HR1 b1
  refine go_ ?_
  refine Jm (by simp) (by simp only [Tryz.results189]; rfl) (by simp [resP, St.box?, PF.get, Jn, TyK.agg, *]; rfl) Nl ?_
  exact ⟨by rw [HF.out]; rfl, rfl⟩
 have b1c : (se != 0) = false := by rw [b1]; rfl
 refine go_ ?_
 by_cases b2 : sx.kind = 2
 rotate_left
 ·have b2b : (sx.kind != 2) = true := bne_iff_ne.2 b2
  have HF : Hid (R = false) := by show _ = _; rw [show R = _ from HR1.out]; skip; simp [b2]
  clear HR1 b2
  refine go_ ?_
  refine Jm (by simp) (by simp only [Tryz.results189]; rfl) (by simp [resP, St.box?, PF.get, Jn, TyK.agg, *]; rfl) Nl ?_
  exact ⟨by rw [HF.out]; rfl, rfl⟩
 have b2c : (sx.kind != 2) = false := by rw [b2]; rfl
 refine go_ ?_
 by_cases b3 : sx.num = x.level
 rotate_left
 ·have b3b : (sx.num != x.level) = true := bne_iff_ne.2 b3
  have HF : Hid (R = false) := by show _ = _; rw [show R = _ from HR1.out]; skip; simp [b3]
  clear HR1 b3
  refine go_ ?_
  refine Jm (by simp) (by simp only [Tryz.results189]; rfl) (by simp [resP, St.box?, PF.get, Jn, TyK.agg, *]; rfl) Nl ?_
  exact ⟨by rw [HF.out]; rfl, rfl⟩
 have b3c : (sx.num != x.level) = false := by rw [b3]; simp
 refine go_ ?_
 by_cases b4 : (x.cons.length : Int) ≤ 16
 rotate_left
 ·have b4b : 16 < (x.cons.length : Int) := by omega
  have HF : Hid (R = false) := by show _ = _; rw [show R = _ from HR1.out]; skip; simp [b4]
  clear HR1 b4
  refine go_ ?_
  refine Jm (by simp) (by simp only [Tryz.results189]; rfl) (by simp [resP, St.box?, PF.get, Jn, TyK.agg, *]; rfl) Nl ?_
  exact ⟨by rw [HF.out]; rfl, rfl⟩
 have b4c : ¬ 16 < (x.cons.length : Int) := by omega
 refine go_ ?_
 refine Jr (srun_p x.cons ((i : Int) + 1)) ?_
 refine go_ ?_
 by_cases b5 : runW x.cons ((i : Int) + 1) 0 = true
 rotate_left
 ·have b5b : runW x.cons ((i : Int) + 1) 0 = false := by simpa using b5
  have HF : Hid (R = false) := by show _ = _; rw [show R = _ from HR1.out]; skip; simp [b5]
  clear HR1 b5
  refine go_ ?_
  refine Jm (by simp) (by simp only [Tryz.results189]; rfl) (by simp [resP, St.box?, PF.get, Jn, TyK.agg, *]; rfl) Nl ?_
  exact ⟨by rw [HF.out]; rfl, rfl⟩
 have b5c : 0 = 0 := rfl
 refine go_ ?_
 refine Jr (smembers_p l i 2 x.cons) ?_
 refine go_ ?_
 by_cases b6 : Qbm l i x.cons 2 0 = true
 rotate_left
 ·have b6b : Qbm l i x.cons 2 0 = false := by simpa using b6
  have HF : Hid (R = false) := by show _ = _; rw [show R = _ from HR1.out]; skip; simp [b6]
  clear HR1 b6
  refine go_ ?_
  refine Jm (by simp) (by simp only [Tryz.results189]; rfl) (by simp [resP, St.box?, PF.get, Jn, TyK.agg, *]; rfl) Nl ?_
  exact ⟨by rw [HF.out]; rfl, rfl⟩
 have b6c : 0 = 0 := rfl
 refine go_ ?_
 have HR2 : Hid (R = fam3 l x i) := by
  show _ = _
  rw [show R = _ from HR1.out]
  simp [b1, b2, b3, b4, b5, b6]
 clear HR1
 have HC := Lib.hid (fun h => one_con (l := l) h HL.out b5 b6)
 clear b1 b2 b3 b4 b5 b6 b1c b2c b3c b4c b5c b6c HL
 unfold fam3 at HR2
 by_cases c1 : (x.fields.length : Int) = 0
 ·have c1b : ((x.fields.length : Int) == 0) = true := beq_iff_eq.2 c1
  have HF : Hid (R = true) := by show _ = _; rw [show R = _ from HR2.out, c1b]; rfl
  clear c1 HR2 HC
  refine go_ ?_
  refine Jm (by simp) (by simp only [Tryz.results189]; rfl) (by simp [resP, St.box?, PF.get, Jn, TyK.agg, *]; rfl) Nl ?_
  exact ⟨by rw [HF.out]; rfl, rfl⟩
 have c1b : ((x.fields.length : Int) == 0) = false := beq_eq_false_iff_ne.2 c1
 have HR3 : Hid (R = ((x.inds == 0) && (((x.cons.length : Int) == 1) && (runW x.fields ((i : Int) + 2) 0 && (Qbm l i x.fields 4 0 && fam4 l x (i + 1)))))) := by show _ = _; rw [show R = _ from HR2.out, c1b]; rfl
 clear HR2 c1
 refine go_ ?_
 by_cases d1 : x.inds = 0
 rotate_left
 ·have d1b : (x.inds != 0) = true := bne_iff_ne.2 d1
  have HF : Hid (R = false) := by show _ = _; rw [show R = _ from HR3.out]; skip; simp [d1]
  clear HR3 d1
  refine go_ ?_
  refine Jm (by simp) (by simp only [Tryz.results189]; rfl) (by simp [resP, St.box?, PF.get, Jn, TyK.agg, *]; rfl) Nl ?_
  exact ⟨by rw [HF.out]; rfl, rfl⟩
 have d1c : (x.inds != 0) = false := by rw [d1]; rfl
 refine go_ ?_
 by_cases d2 : (x.cons.length : Int) = 1
 rotate_left
 ·have d2b : ((x.cons.length : Int) != 1) = true := bne_iff_ne.2 d2
  have HF : Hid (R = false) := by show _ = _; rw [show R = _ from HR3.out]; skip; simp [d2]
  clear HR3 d2
  refine go_ ?_
  refine Jm (by simp) (by simp only [Tryz.results189]; rfl) (by simp [resP, St.box?, PF.get, Jn, TyK.agg, *]; rfl) Nl ?_
  exact ⟨by rw [HF.out]; rfl, rfl⟩
 have d2c : ((x.cons.length : Int) != 1) = false := by rw [d2]; rfl
 refine go_ ?_
 refine Jr (srun_p x.fields ((i : Int) + 2)) ?_
 refine go_ ?_
 by_cases d3 : runW x.fields ((i : Int) + 2) 0 = true
 rotate_left
 ·have d3b : runW x.fields ((i : Int) + 2) 0 = false := by simpa using d3
  have HF : Hid (R = false) := by show _ = _; rw [show R = _ from HR3.out]; skip; simp [d3]
  clear HR3 d3
  refine go_ ?_
  refine Jm (by simp) (by simp only [Tryz.results189]; rfl) (by simp [resP, St.box?, PF.get, Jn, TyK.agg, *]; rfl) Nl ?_
  exact ⟨by rw [HF.out]; rfl, rfl⟩
 have d3c : 0 = 0 := rfl
 refine go_ ?_
 refine Jr (smembers_p l i 4 x.fields) ?_
 refine go_ ?_
 by_cases d4 : Qbm l i x.fields 4 0 = true
 rotate_left
 ·have d4b : Qbm l i x.fields 4 0 = false := by simpa using d4
  have HF : Hid (R = false) := by show _ = _; rw [show R = _ from HR3.out]; skip; simp [d4]
  clear HR3 d4
  refine go_ ?_
  refine Jm (by simp) (by simp only [Tryz.results189]; rfl) (by simp [resP, St.box?, PF.get, Jn, TyK.agg, *]; rfl) Nl ?_
  exact ⟨by rw [HF.out]; rfl, rfl⟩
 have d4c : 0 = 0 := rfl
 refine go_ ?_
 have hil := HC.out d2
 have hd : l[i + 1]? = some l[i + 1] := List.getElem?_eq_getElem hil
 have HR4 : Hid (R = fam4 l x (i + 1)) := by
  show _ = _
  rw [show R = _ from HR3.out]
  simp [d1, d2, d3, d4]
 clear HR3 HC d1 d2 d3 d4 d1c d2c d3c d4c
 unfold fam4 at HR4
 rw [hd] at HR4
 have hil2 := Lib.hid hil
 generalize l[i + 1] = d at *
 clear hil
 simp only at HR4
 have hV := Lib.hid (tWhole_p d.ty)
 generalize Qbu d.ty = V at *
 obtain ⟨vl, vx, ve⟩ := V
 simp only at HR4
 unfold Qdi at hV
 simp only [aggD, Jl, List.map_cons, List.map_nil] at hV
 have hc1 : (0 : Int) ≤ (i : Int) + 1 := by omega
 have hc2 : ((i : Int) + 1).toNat = i + 1 := by omega
 refine go_ ?_
 refine Jc (hV.out) ?_
 refine go_ ?_
 clear hV
 refine Je ?_
 intro i2 hi2
 try simp only [Ja, Rh, Rg, Jb] at hi2
 refine go_ ?_
 refine Rd ?_
 have hw5 := wr64 (n := x.pars + x.fields.length) (by have := HB.out.1; omega) (by have := HB.out.1; have := HO.out.2; omega)
 refine go_ ?_
 rcases Bool.eq_false_or_eq_true (ve == 0) with e1 | e1
 rotate_left
 ·have HF : Hid (R = false) := by show _ = _; rw [show R = _ from HR4.out, e1]; rfl
  clear HR4
  refine go_ ?_
  refine Jm (by simp) (by simp only [Tryz.results189]; rfl) (by simp [resP, St.box?, PF.get, Jn, TyK.agg, *]; rfl) Nl ?_
  exact ⟨by rw [HF.out]; rfl, rfl⟩
 have HF : Hid (R = ((vl.length : Int) == x.pars + x.fields.length)) := by show _ = _; rw [show R = _ from HR4.out, e1]; rfl
 clear HR4
 refine go_ ?_
 refine Jm (by simp) (by simp only [Tryz.results189]; rfl) (by simp [resP, St.box?, PF.get, Jn, TyK.agg, *]; rfl) Nl ?_
 exact ⟨by rw [HF.out]; rfl, rfl⟩
theorem flat_v {f : FuncId} {x : Value} {b : Bool} (h : okv x → ∀ w : World, Calls Tryz.prog f #[x] w fun e w' => e = .returned (.bool b) ∧ Below w.heap.size w w') : PCalls Tryz.prog f [.d (.v x)] [] fun p s => p = .d (.v (.bool b)) ∧ s = [] := by
  refine PCalls.flat trivial fun K w vs ha => ?_
  obtain ⟨v, rfl, hv⟩ := ha.one
  cases hv with
  | d hv => cases hv with
    | v hok => exact h hok w
theorem nright_p (s : ByteArray) : PCalls Tryz.prog 187 [.d (.v (.string s))] [] fun p s2 => p = .d (.v (.bool (Qbc s))) ∧ s2 = [] := flat_v fun hs => right_name s hs
theorem rnright_p (s : ByteArray) : PCalls Tryz.prog 153 [.d (.v (.string s))] [] fun p s2 => p = .d (.v (.bool (Qbc s))) ∧ s2 = [] := flat_v fun hs => rright_name s hs
def kindB (l : List En) (x : En) (i : Nat) : Bool := if x.kind = 1 then famB l x i else if x.kind = 2 then conB l x i else if x.kind = 4 then Qfx l x i else if x.kind = 3 then defB x i else false
def Qca (l : List En) (x : En) (i : Nat) : Bool := Qbc x.name && (Qbv x.ty i && kindB l x i)
theorem sentry_p (l : List En) (i : Nat) (hi : i < l.length) (hl : l.length ≤ 3000000000000000000) (ho : ∀ e ∈ l, EnOk e) (hf : FamOk l i) : PCalls Tryz.prog 130 [.d (.sl (l.map encD)), .d (.v (.int .i64 i))] [] fun p s => p = .d (.v (.bool (Qca l l[i] i))) ∧ s = [] := by
 have h1 := Lib.hid (sfamily_p l i hi hl (ho _ (List.getElem_mem hi)))
 have h2 := Lib.hid (scon_p l i hi ho hf)
 have h4 := Lib.hid (sproj_p l i hi ho hf)
 have h3 := Lib.hid (sdef_p l i hi (ho _ (List.getElem_mem hi)))
 have hR := Lib.hid (nright_p l[i].name)
 have hC := Lib.hid (sclosed_p l[i].ty i)
 simp only [aggD, Jl, List.map_cons, List.map_nil] at hC
 have hn : (0 : Int) ≤ i := by omega
 have hx3 : l[i]? = some l[i] := List.getElem?_eq_getElem hi
 have HR := Lib.hid (show Qca l l[i] i = (Qbc l[i].name && (Qbv l[i].ty i && kindB l l[i] i)) from rfl)
 have HK := Lib.hid (show kindB l l[i] i = (if l[i].kind = 1 then famB l l[i] i else if l[i].kind = 2 then conB l l[i] i else if l[i].kind = 4 then Qfx l l[i] i else if l[i].kind = 3 then defB l[i] i else false) from rfl)
 generalize Qca l l[i] i = R at *
 generalize l[i] = x at *
 generalize kindB l x i = KB at *
 generalize Qbc x.name = B at *
 generalize Qbv x.ty i = C at *
 generalize famB l x i = Q1 at *
 generalize conB l x i = Q2 at *
 generalize Qfx l x i = Q4 at *
 generalize defB x i = Q3 at *
 clear hi hl ho hf
 refine PCalls.enter Tryz.func130 rfl Tryz.ntmps130 (by simp) ?_
 simp only [Qab]
 refine go_ ?_
 refine Jc (hR.out) ?_
 refine go_ ?_
 clear hR
 rcases Bool.eq_false_or_eq_true (B) with b1 | b1
 rotate_left
 ·have HF : Hid (R = false) := by show _ = _; rw [show R = _ from HR.out, b1]; rfl
  clear HR HK
  refine go_ ?_
  refine Jm (by simp) (by simp only [Tryz.results130]; rfl) (by simp [resP, St.box?, PF.get, Jn, TyK.agg, *]; rfl) Nl ?_
  exact ⟨by rw [HF.out]; rfl, rfl⟩
 refine go_ ?_
 refine Jr (hC.out) ?_
 refine go_ ?_
 clear hC
 rcases Bool.eq_false_or_eq_true (C) with b2 | b2
 rotate_left
 ·have HF : Hid (R = false) := by show _ = _; rw [show R = _ from HR.out, b1, b2]; rfl
  clear HR HK
  refine go_ ?_
  refine Jm (by simp) (by simp only [Tryz.results130]; rfl) (by simp [resP, St.box?, PF.get, Jn, TyK.agg, *]; rfl) Nl ?_
  exact ⟨by rw [HF.out]; rfl, rfl⟩
 have HR2 : Hid (R = KB) := by show _ = _; rw [show R = _ from HR.out, b1, b2]; rfl
 clear HR
 refine go_ ?_
 by_cases k1 : x.kind = 1
 ·have HF : Hid (R = Q1) := by show _ = _; rw [show R = _ from HR2.out, show KB = _ from HK.out, if_pos k1]
  have kb : (x.kind == 1) = true := beq_iff_eq.2 k1
  clear HR2 HK k1
  refine go_ ?_
  refine Jc (h1.out) ?_
  refine go_ ?_
  refine Jm (by simp) (by simp only [Tryz.results130]; rfl) (by simp [resP, St.box?, PF.get, Jn, TyK.agg, *]; rfl) Nl ?_
  exact ⟨by rw [HF.out]; rfl, rfl⟩
 have kb1 : (x.kind == 1) = false := beq_eq_false_iff_ne.2 k1
 refine go_ ?_
 by_cases k2 : x.kind = 2
 ·have HF : Hid (R = Q2) := by show _ = _; rw [show R = _ from HR2.out, show KB = _ from HK.out, if_neg k1, if_pos k2]
  have kb : (x.kind == 2) = true := beq_iff_eq.2 k2
  clear HR2 HK k2 k1
  refine go_ ?_
  refine Jc (h2.out) ?_
  refine go_ ?_
  refine Jm (by simp) (by simp only [Tryz.results130]; rfl) (by simp [resP, St.box?, PF.get, Jn, TyK.agg, *]; rfl) Nl ?_
  exact ⟨by rw [HF.out]; rfl, rfl⟩
 have kb2 : (x.kind == 2) = false := beq_eq_false_iff_ne.2 k2
 refine go_ ?_
 by_cases k4 : x.kind = 4
 ·have HF : Hid (R = Q4) := by show _ = _; rw [show R = _ from HR2.out, show KB = _ from HK.out, if_neg k1, if_neg k2, if_pos k4]
  have kb : (x.kind == 4) = true := beq_iff_eq.2 k4
  clear HR2 HK k4 k2 k1
  refine go_ ?_
  refine Jc (h4.out) ?_
  refine go_ ?_
  refine Jm (by simp) (by simp only [Tryz.results130]; rfl) (by simp [resP, St.box?, PF.get, Jn, TyK.agg, *]; rfl) Nl ?_
  exact ⟨by rw [HF.out]; rfl, rfl⟩
 have kb4 : (x.kind == 4) = false := beq_eq_false_iff_ne.2 k4
 refine go_ ?_
 by_cases k3 : x.kind = 3
 ·have HF : Hid (R = Q3) := by show _ = _; rw [show R = _ from HR2.out, show KB = _ from HK.out, if_neg k1, if_neg k2, if_neg k4, if_pos k3]
  have kb : (x.kind == 3) = true := beq_iff_eq.2 k3
  clear HR2 HK k3 k4 k2 k1
  refine go_ ?_
  refine Jc (h3.out) ?_
  refine go_ ?_
  refine Jm (by simp) (by simp only [Tryz.results130]; rfl) (by simp [resP, St.box?, PF.get, Jn, TyK.agg, *]; rfl) Nl ?_
  exact ⟨by rw [HF.out]; rfl, rfl⟩
 have kb3 : (x.kind == 3) = false := beq_eq_false_iff_ne.2 k3
 have HF : Hid (R = false) := by show _ = _; rw [show R = _ from HR2.out, show KB = _ from HK.out, if_neg k1, if_neg k2, if_neg k4, if_neg k3]
 clear HR2 HK k3 k4 k2 k1
 refine go_ ?_
 refine Jm (by simp) (by simp only [Tryz.results130]; rfl) (by simp [resP, St.box?, PF.get, Jn, TyK.agg, *]; rfl) Nl ?_
 exact ⟨by rw [HF.out]; rfl, rfl⟩
theorem rSplit_p (t : Tm) (n : Int) : PCalls Tryz.prog 209 [aggD t, .d (.v (.int .i64 n))] [] fun p s => p = Qdi (Qay t n) ∧ s = [] := by
  have hS := Lib.hid (Qgx t)
  cases hb : Qai t with
  | false =>
    have hR : Qay t n = ([], .mk 0 0 [], 5) := by unfold Qay; rw [if_pos (.inl hb)]
    rw [hR]
    rw [hb] at hS
    unfold Qdi
    simp only [aggD, Jl, List.map_cons, List.map_nil, Tm.kind_mk, Tm.num_mk, Tm.sub_mk] at hS ⊢
    refine PCalls.enter Tryz.func209 rfl Tryz.ntmps209 (by simp) ?_
    simp only [Qab]
    refine go_ ?_
    refine Jd ?_
    intro i0 hi0
    refine go_ ?_
    refine Je ?_
    intro i1 hi1
    try simp only [Ja, Rh, Rg, Jb] at hi1
    refine go_ ?_
    refine Jc (hS.out) ?_
    refine go_ ?_
    refine Rd ?_
    refine go_ ?_
    refine Jm (by simp) (by simp only [Tryz.results209]; rfl) (by simp [resP, St.box?, PF.get, Jn, TyK.agg, *]; rfl) Nl ?_
    exact ⟨by simp [tupP, PV.norm2, PV.norm1, PV.norm0], rfl⟩
  | true =>
    rw [hb] at hS
    by_cases h0 : n < 0
    · have hR : Qay t n = ([], .mk 0 0 [], 5) := by unfold Qay; rw [if_pos (.inr h0)]
      rw [hR]
      unfold Qdi
      simp only [aggD, Jl, List.map_cons, List.map_nil, Tm.kind_mk, Tm.num_mk, Tm.sub_mk] at hS ⊢
      refine PCalls.enter Tryz.func209 rfl Tryz.ntmps209 (by simp) ?_
      simp only [Qab]
      refine go_ ?_
      refine Jd ?_
      intro i0 hi0
      refine go_ ?_
      refine Je ?_
      intro i1 hi1
      try simp only [Ja, Rh, Rg, Jb] at hi1
      refine go_ ?_
      refine Jc (hS.out) ?_
      refine go_ ?_
      refine Rd ?_
      refine go_ ?_
      refine Jm (by simp) (by simp only [Tryz.results209]; rfl) (by simp [resP, St.box?, PF.get, Jn, TyK.agg, *]; rfl) Nl ?_
      exact ⟨by simp [tupP, PV.norm2, PV.norm1, PV.norm0], rfl⟩
    · by_cases h24 : 24 < n
      · have hR : Qay t n = ([], .mk 0 0 [], 2) := by unfold Qay; rw [if_neg (by rw [hb]; simp; omega), if_pos h24]
        rw [hR]
        unfold Qdi
        simp only [aggD, Jl, List.map_cons, List.map_nil, Tm.kind_mk, Tm.num_mk, Tm.sub_mk] at hS ⊢
        refine PCalls.enter Tryz.func209 rfl Tryz.ntmps209 (by simp) ?_
        simp only [Qab]
        refine go_ ?_
        refine Jd ?_
        intro i0 hi0
        refine go_ ?_
        refine Je ?_
        intro i1 hi1
        try simp only [Ja, Rh, Rg, Jb] at hi1
        refine go_ ?_
        refine Jc (hS.out) ?_
        refine go_ ?_
        refine Rd ?_
        refine go_ ?_
        refine Jm (by simp) (by simp only [Tryz.results209]; rfl) (by simp [resP, St.box?, PF.get, Jn, TyK.agg, *]; rfl) Nl ?_
        exact ⟨by simp [tupP, PV.norm2, PV.norm1, PV.norm0], rfl⟩
      · obtain ⟨m, rfl⟩ : ∃ m : Nat, n = m := ⟨n.toNat, by omega⟩
        have hR := Qhs hb (by omega) (show (m : Int) ≤ 24 by omega)
        have hg := (Qbd hb).1
        obtain ⟨R, hR0⟩ : ∃ R, R = Qcv m t := ⟨_, rfl⟩
        rw [hR, Int.toNat_natCast, ← hR0]
        have HR0 : Hid (R = Qez [] (Qcv m t)) := by show _ = _; rw [joinC_nil, hR0]
        have hm24 : m ≤ 24 := by omega
        have HG := Lib.hid hg
        clear hb hR hR0 hg h0
        unfold Qdi
        simp only [aggD, Jl, List.map_cons, List.map_nil] at hS ⊢
        refine PCalls.enter Tryz.func209 rfl Tryz.ntmps209 (by simp) ?_
        simp only [Qab]
        refine go_ ?_
        refine Jd ?_
        intro i0 hi0
        refine go_ ?_
        refine Je ?_
        intro i1 hi1
        try simp only [Ja, Rh, Rg, Jb] at hi1
        refine go_ ?_
        refine Jc (hS.out) ?_
        refine gs_ ?_
        refine Qc ?_
        refine gs_ ?_
        refine Qc ?_
        refine gs_ ?_
        refine Qdo ?_ (by decide) (by first | (simp [nev, nevA, nevB, Jp, PF.eval, PF.get, PF.wants, cPV, Qae, PV.rows, Qaf, evUn, Jq, Qah, Qag, Jn, TyK.agg, Qad, St.box?, St.tok?, St.setBox, St.setTok, Qac, spl, PV.ps, PV.one, Jo, aggD, slD, Jh, Jk, Ji, Jj, Jg, Jf, *]; done) | fail) (by simp; rfl) (by rfl) (by simp; rfl) (by rfl) (by decide)
        intro g hg
        refine go_ ?_
        refine Qak (ι := Nat × List Tm × Tm) (fun y => y.1 ≤ m ∧ y.2.1.length = y.1 ∧ Hid (Qaj y.2.2 = true) ∧ Hid (R = Qez y.2.1 (Qcv (m - y.1) y.2.2))) (fun y => [(1, .d (.v (.int .i64 m))), (2, .ptr i0 0), (5, .ptr i1 0), (7, .own g (y.2.1.map encD)), (8, .d (.v (.int .i64 (y.1 : Int))))]) (fun y => [.tok g 26 3 y.2.1.length, .box i1 26 [.d (.v (.int .i64 0)), .d (.v (.int .i64 0)), .nils], .box i0 26 [.d (.v (.int .i64 y.2.2.kind)), .d (.v (.int .i64 y.2.2.num)), .d (.sl (y.2.2.sub.map encD))]]) (fun y => m - y.1) (0, [], t) ⟨Nat.zero_le _, rfl, HG.out, HR0.out⟩ ?_ ?_ ?_
        · repeat (first | exact Jt _ | refine Js (by simp [PF.get]; rfl) (by first | rfl | (simp [*]; done) | fail) ?_)
        · repeat (first | exact List.Sublist.refl _ | exact List.nil_sublist _ | refine List.Sublist.cons_cons _ ?_ | refine List.Sublist.cons _ ?_)
        · rintro ⟨j, l, x⟩ ⟨hj, hl, hgx, hR⟩
          simp only at hj hl hgx hR ⊢
          have HL := Lib.hid hl
          clear HR0 HG hl
          by_cases hlt : j < m
          · have hc : (j : Int) < m := by omega
            have hin := wr64 (n := (j : Int) + 1) (by omega) (by omega)
            by_cases h3 : x.kind = 3
            · obtain ⟨a, b, rfl, ha, hb⟩ := Qgi hgx.out h3
              have hR2 : Hid (R = Qez (l ++ [a]) (Qcv (m - (j + 1)) b)) := by
                show _ = _
                rw [show R = _ from hR.out, show m - j = (m - (j + 1)) + 1 by omega, Qge, joinC_step]
              clear hR h3 hgx
              simp only [Tm.kind_mk, Tm.num_mk, Tm.sub_mk, List.map_cons, List.map_nil]
              refine go_ ?_
              refine Qao ?_
              refine go_ ?_
              have hl8 : l.length ≤ 24 := by have := HL.out; omega
              refine Qbe (l.length + 1) ?_ ?_ ?_ ?_
              · simp
              · exact Qdv _
              · exact Qbs rfl
              refine go_ ?_
              refine Rd ?_
              refine go_ ?_
              refine ⟨(j + 1, l ++ [a], b), ⟨hlt, by simp only; rw [List.length_append, show l.length = j from HL.out]; rfl, hb, hR2⟩, by simp only; omega, ?_, ?_⟩
              · repeat (first | exact Jt _ | refine Js (by simp [PF.get]; rfl) (by first | rfl | (simp [hin]; done) | fail) ?_)
              · simp only [List.length_append, List.length_singleton]
                repeat (first | exact List.Sublist.refl _ | exact List.nil_sublist _ | refine List.Sublist.cons_cons _ ?_ | refine List.Sublist.cons _ ?_)
            · have hf : Hid (R = none) := by
                show _ = _
                rw [show R = _ from hR.out, show m - j = (m - (j + 1)) + 1 by omega, Qio h3]; rfl
              clear hR
              refine go_ ?_
              refine Rd ?_
              refine go_ ?_
              refine Jm (by simp) (by simp only [Tryz.results209]; rfl) (by simp [resP, St.box?, PF.get, Jn, TyK.agg, *]; rfl) Nl ?_
              exact ⟨by rw [hf.out]; simp [splitO, tupP, PV.norm2, PV.norm1, PV.norm0], rfl⟩
          · have hc : ¬ (j : Int) < m := by omega
            have hf : Hid (R = some (l, x)) := by
              show _ = _
              rw [show R = _ from hR.out, show m - j = 0 by omega]
              simp [Qcv, Qez]
            clear hR
            refine go_ ?_
            refine Qan [(0, .a), (1, .b), (2, .a), (3, .e), (4, .a)] (by kernel_rfl) (by rfl) (by kernel_rfl) ?_
            refine go_ ?_
            refine Qdp ?_
            refine go_ ?_
            refine Jm (by simp) (by simp only [Tryz.results209]; rfl) (by simp [resP, St.box?, PF.get, Jn, TyK.agg, *]; rfl) Nl ?_
            exact ⟨by rw [hf.out]; simp [splitO, tupP, PV.norm2, PV.norm1, PV.norm0], rfl⟩
end Go.Proofs.YtdklpbefbamchaaGreat
