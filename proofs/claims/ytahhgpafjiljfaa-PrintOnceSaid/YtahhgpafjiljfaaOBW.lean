import Derived.Test.YtahhgpafjiljfaaOBV
import Derived.Test.YtahhgpafjiljfaaOT7
import Derived.Test.YtahhgpafjiljfaaOBU
import Derived.Test.YtahhgpafjiljfaaOT27
set_option linter.unusedSimpArgs false
set_option linter.unusedVariables false
set_option maxHeartbeats 16000000
set_option maxRecDepth 100000
namespace Go.Proofs.Ytahhgpafjiljfaa
open Go.RowKit
section
variable {P : Program} {n : Nat} {ops : Array Oper} {Q : PF → St → Prop} {rest : List Oper} {fr : PF} {st : St} {t rt ty : TypeId} {x y : Operand} {pos : String} {after : Array Edge} {gd : Option (Nat × Bool)} {d j : Nat} {od : List (Nat × Kd)}
theorem POps_callV {fo : Operand} {f : FuncId} {xs : Array Operand} {ts : Array TypeId} {ps qs : List PV} {r : PV} (hc : PCalls P f qs [] fun p s => p = r ∧ s = []) (hd : d < n) (hw : PF.wants fr ops ⟨some d, .call { callee := .value fo, args := xs, argTypes := ts }, ty, pos, after, gd⟩ = some true) (hf : fr.eval fo = some (.fn (.func f) [] [])) (hxs : Jn fr.eval xs.toList = some ps) (hn : ps.map PV.norm1 = qs) (hca : Qap P f = true)
  (h : POps P n ops Q rest ((d, r) :: fr) st) : POps P n ops Q (⟨some d, .call { callee := .value fo, args := xs, argTypes := ts }, ty, pos, after, gd⟩ :: rest) fr st := by
 refine Qeb hd hw (Qfr (st0 := []) (st1 := st) (first := []) (cap := []) rfl hf hxs hca (List.Perm.refl _) (R0 := fun p s => p = r ∧ s = []) ?_ ?_)
 ·simp only [List.nil_append, List.append_nil]
  subst hn
  exact hc.args_norm
 ·rintro p s0 ⟨rfl, rfl⟩
  exact h
end
theorem namew_p (s : ByteArray) : PCalls Try.prog 39 [.d (.v (.string s))] [] fun p st => p = aggD (Nd.mk 1 0 s 0 []) ∧ st = [] := by
 refine pG Try.func39 Try.ntmps39 ?_
 refine Jd ?_
 intro i0 hi0
 refine go_ ?_
 refine Qaa ?_
 refine rT Try.results39 ?_
 exact ⟨rfl, rfl⟩
theorem arrow_p (a b : Nd) : PCalls Try.prog 37 [aggD a, aggD b] [] fun p st => p = aggD (Nd.mk 3 0 ⟨#[95]⟩ 0 [a, b]) ∧ st = [] := by
 have hE := Qdj 3 0 0 ⟨#[95]⟩ [a, b]
 simp only [List.map_cons, List.map_nil, Jg a, Jg b] at hE
 simp only [aggD, Jg a, Jg b, List.map_cons, List.map_nil]
 refine pG Try.func37 Try.ntmps37 ?_
 refine Jc ?_
 intro i0 hi0
 refine Jc ?_
 intro i1 hi1
 simp only [Rh, Rg] at hi1
 refine Jd ?_
 intro i2 hi2
 simp only [Rh, Rg] at hi2
 refine go_ ?_
 refine Qjy ?_
 refine Qaa ?_
 refine rT Try.results37 ?_
 refine ⟨?_, rfl⟩
 rw [hE]
 rfl
def aw6 : Nd := .mk 3 0 ⟨#[95]⟩ 0 [.mk 3 0 ⟨#[95]⟩ 0 [.mk 1 0 ⟨#[65]⟩ 0 [], .mk 1 0 ⟨#[66]⟩ 0 []], .mk 1 0 ⟨#[67]⟩ 0 []]
theorem aw_text : exprR aw6 = .tup [.d (.v (.string ⟨#[40, 65, 32, 45, 62, 32, 66, 41, 32, 45, 62, 32, 67]⟩)), .d (.v (.int .i64 0))] := by
 have h1 : Qby aw6 = true := by decide +kernel
 have h2 : exL aw6 0 = [40, 65, 32, 45, 62, 32, 66, 41, 32, 45, 62, 32, 67] := by
  unfold aw6 exL
  rw [Qjh _ _ _ _ _ _ rfl rfl]
  unfold exL
  rw [Qjh _ _ _ _ _ _ rfl rfl]
  unfold exL
  simp only [inL_name _ _ _ _ rfl]
  simp [par, Qgr, Nd.kind]
 unfold exprR
 rw [if_pos h1, h2]
 rfl
theorem num_aw : numS (-10) = ⟨#[45, 49, 48]⟩ := by
 rw [numS, if_pos (by omega)]
 unfold decS
 rw [show (-10 : Int).natAbs = 10 from rfl, Qib 10 (by omega), Qgf (10 / 10) (by omega)]
 rfl
theorem Qiy : PCalls Try.prog 19 [] [] fun p st => p = .d (.v (.bool true)) ∧ st = [] := by
 have hN := pexpr_p aw6
 rw [aw_text] at hN
 unfold aw6 at hN
 have hP := pnum_p (-10) (by omega) (by omega)
 rw [num_aw] at hP
 refine pG Try.func19 Try.ntmps19 ?_
 refine Qat (namew_p ⟨#[65]⟩) ?_
 refine Qat (namew_p ⟨#[66]⟩) ?_
 refine POps_callV (arrow_p (.mk 1 0 ⟨#[65]⟩ 0 []) (.mk 1 0 ⟨#[66]⟩ 0 [])) (by decide) rfl eD eQ (by first | (simp [PV.norm1, PV.norm0, aggD, slD, Jg, Jj, Jh, Ji, Jf]; done) | fail) rfl ?_
 refine go_ ?_
 refine Qat (namew_p ⟨#[67]⟩) ?_
 refine POps_callV (arrow_p (.mk 3 0 ⟨#[95]⟩ 0 [.mk 1 0 ⟨#[65]⟩ 0 [], .mk 1 0 ⟨#[66]⟩ 0 []]) (.mk 1 0 ⟨#[67]⟩ 0 [])) (by decide) rfl eD eQ (by first | (simp [PV.norm1, PV.norm0, aggD, slD, Jg, Jj, Jh, Ji, Jf]; done) | fail) rfl ?_
 refine go_ ?_
 refine Qat (hN) ?_
 refine Qcl (hP) ?_
 refine rT Try.results19 ?_
 exact ⟨rfl, rfl⟩
theorem Qfc {t : Nd} (h : Qby t = true) : Qak t false = true := by unfold Qby at h; simp only [Bool.and_eq_true] at h; exact h.2
theorem Qhb {t : Nd} (h : patB t = true) : Qak t true = true := by unfold patB at h; simp only [Bool.and_eq_true] at h; exact h.2
def bdL (b : Bd) : List UInt8 := b.name.toList ++ [32, 58, 32] ++ exL b.ty 0
def Qef : List Nd → List UInt8
 | [] => []
 | t :: ts => patL t ++ [32] ++ Qef ts
def rowL (r : Rw) : List UInt8 := [32, 32] ++ Qef r.pats ++ (if r.has then [61, 32] ++ exL r.body 0 else []) ++ [59, 10]
theorem patsW_app (a b : List Nd) : Qef (a ++ b) = Qef a ++ Qef b := by
 induction a with
 | nil => rfl
 | cons x a ih => simp only [List.cons_append, Qef, ih, List.append_assoc]
theorem patsW_take {l : List Nd} {k : Nat} (h : k < l.length) : Qef (l.take (k + 1)) = Qef (l.take k) ++ (patL l[k] ++ [32]) := by
 rw [List.take_succ_eq_append_getElem h, patsW_app]
 simp [Qef]
theorem typedx_w (b : Bd) (h : Qby b.ty = true) : WC 78 [aggD b] (bdL b) := by
 intro i g o T hW
 have hx := expr_w _ b.ty (Nat.le_refl _) (Qfc h) 0
 have HE := Hh (show bdL b = b.name.toList ++ [32, 58, 32] ++ exL b.ty 0 from rfl)
 generalize bdL b = txt at *
 simp only [aggD, Jj, List.map_cons, List.map_nil]
 refine pG Try.func78 Try.ntmps78 ?_
 refine Jc ?_
 intro i0 hi0
 refine go_ ?_
 refine Qao [(0, .a), (1, .a), (2, .a), (3, .a), (4, .b), (5, .a), (6, .e)] (by kernel_rfl) (by rfl) (by kernel_rfl) ?_
 refine go_ ?_
 refine Qei ?_
 refine Qej 1 (⟨hW, Qau [b.name, ⟨#[32, 58, 32]⟩] (by simp)⟩) ?_
 intro o1 hW1
 refine go_ ?_
 refine Qab 1 (⟨hW1, hx⟩) ?_
 intro o2 hW2
 refine go_ ?_
 refine Qay (by simp) (by simp only [Try.results78]; rfl) (by simp [resP]; rfl) dR ⟨rfl, o2, ?_, rfl⟩
 rw [HE.out]
 simpa [txts] using hW2
theorem patB_w {t : Nd} (h : patB t = true) : PaC t := pattern_w _ t (Nat.le_refl _) (Qhb h) (small_nd (patB_small h))
theorem row_w (r : Rw) (h : rowB r = true) : WC 79 [aggD r] (rowL r) := by
  intro i g o T hW
  unfold rowB at h
  simp only [Bool.and_eq_true, decide_eq_true_eq] at h
  obtain ⟨⟨hlen, hpats⟩, hbody⟩ := h
  have ih' : ∀ (k : Nat) (h : k < r.pats.length), PaC r.pats[k] := fun k h => patB_w (List.all_eq_true.1 hpats _ (List.getElem_mem h))
  have HE := Hh (show rowL r = [32, 32] ++ Qef r.pats ++ (if r.has then [61, 32] ++ exL r.body 0 else []) ++ [59, 10] from rfl)
  generalize rowL r = txt at *
  clear hpats
  simp only [aggD, Jh, List.map_cons, List.map_nil]
  refine pG Try.func79 Try.ntmps79 ?_
  refine Jc ?_
  intro i0 hi0
  refine go_ ?_
  refine Qad ?_
  refine Qab 1 (⟨hW, Qau [⟨#[32, 32]⟩] (by simp)⟩) ?_
  intro o1 hW1
  refine go_ ?_
  refine Qbc (ι := Nat × (List UInt8 × Bool)) (fun k => k.1 ≤ r.pats.length ∧ Wr k.2 (T ++ [32, 32] ++ Qef (r.pats.take k.1))) (fun k => [(0, .ptr i 0), (3, .ptr i0 0), (12, .d (.sl (r.pats.map encD))), (13, .d (.v (.int .i64 r.pats.length))), (14, .d (.v (.int .i64 k.1)))]) (fun k => .box i0 66 [.d (.v (.int .i64 r.at_)), .d (.sl (r.pats.map encD)), .d (.v (.bool r.has)), .d (.v (.int .i64 r.body.kind)), .d (.v (.int .i64 r.body.at)), .d (.v (.string r.body.name)), .d (.v (.int .i64 r.body.num)), .d (.sl (r.body.sub.map encD))] :: wrS i g 88 k.2) (fun k => r.pats.length - k.1) (0, o1) ⟨Nat.zero_le _, by simpa [txts, Qef] using hW1⟩ ?_ ?_ ?_
  · exact sU
  · simp only [List.cons_append, List.nil_append]
    exact dR
  · rintro ⟨k, o⟩ ⟨hk, hWk⟩
    simp only at hk hWk ⊢
    clear hW hW1
    by_cases hlt : k < r.pats.length
    · have hx := Qbx hlt
      have hc : ((k : Int) < (r.pats.length : Int)) := by omega
      have hn : (0 : Int) ≤ (k : Int) := by omega
      refine go_ ?_
      refine Jd ?_
      intro i2 hi2
      simp only [Rh] at hi2
      refine go_ ?_
      refine Qaa ?_
      refine Qab 2 (⟨hWk, ih' k hlt⟩) ?_
      intro o2 hW2
      refine go_ ?_
      refine Qad ?_
      refine Qab 2 (⟨hW2, Qau [⟨#[32]⟩] (by simp)⟩) ?_
      intro o3 hW3
      have hin := Qbm hlt (by omega)
      refine go_ ?_
      refine ⟨(k + 1, o3), ⟨by simp only; omega, ?_⟩, by simp only; omega, ?_, ?_⟩
      · simp only [patsW_take hlt]
        simpa [txts] using hW3
      · simp only
        repeat (first | exact Js _ | refine Jr (by simp [PF.get]; rfl) (by first | rfl | (simp [hin]; done) | fail) ?_)
      · simp only [List.cons_append, List.nil_append]
        exact dR
    · have hc : ¬ ((k : Int) < (r.pats.length : Int)) := by omega
      rw [List.take_of_length_le (by omega)] at hWk
      cases hh : r.has with
      | true =>
        have hx := expr_w _ r.body (Nat.le_refl _) (Qfc (by rw [hh, if_pos rfl] at hbody; exact hbody)) 0
        clear hbody
        rw [hh] at HE
        refine go_ ?_
        refine Qad ?_
        refine Qab 1 (⟨hWk, Qau [⟨#[61, 32]⟩] (by simp)⟩) ?_
        intro o2 hW2
        refine go_ ?_
        refine Qab 1 (⟨hW2, hx⟩) ?_
        intro o3 hW3
        refine go_ ?_
        refine Qad ?_
        refine Qab 1 (⟨hW3, Qau [⟨#[59, 10]⟩] (by simp)⟩) ?_
        intro o4 hW4
        refine go_ ?_
        refine Qay (by simp) (by simp only [Try.results79]; rfl) (by simp [resP]; rfl) dR ⟨rfl, o4, ?_, rfl⟩
        rw [HE.out]
        simpa [txts] using hW4
      | false =>
        clear hbody
        rw [hh] at HE
        refine go_ ?_
        refine Qad ?_
        refine Qab 1 (⟨hWk, Qau [⟨#[59, 10]⟩] (by simp)⟩) ?_
        intro o4 hW4
        refine go_ ?_
        refine Qay (by simp) (by simp only [Try.results79]; rfl) (by simp [resP]; rfl) dR ⟨rfl, o4, ?_, rfl⟩
        rw [HE.out]
        simpa [txts] using hW4
def Qbv : List Bd → List UInt8
 | [] => []
 | t :: ts => [32, 40] ++ bdL t ++ [41] ++ Qbv ts
def Qcv : List Bd → List UInt8
 | [] => []
 | t :: ts => [32, 32] ++ bdL t ++ [59, 10] ++ Qcv ts
def Qds : List Rw → List UInt8
 | [] => []
 | t :: ts => rowL t ++ Qds ts
theorem telesL_app (a b : List Bd) : Qbv (a ++ b) = Qbv a ++ Qbv b := by
 induction a with
 | nil => rfl
 | cons x a ih => simp only [List.cons_append, Qbv, ih, List.append_assoc]
theorem consL_app (a b : List Bd) : Qcv (a ++ b) = Qcv a ++ Qcv b := by
 induction a with
 | nil => rfl
 | cons x a ih => simp only [List.cons_append, Qcv, ih, List.append_assoc]
theorem rowsL_app (a b : List Rw) : Qds (a ++ b) = Qds a ++ Qds b := by
 induction a with
 | nil => rfl
 | cons x a ih => simp only [List.cons_append, Qds, ih, List.append_assoc]
theorem Qjr {l : List Bd} {k : Nat} (h : k < l.length) : Qbv (l.take (k + 1)) = Qbv (l.take k) ++ ([32, 40] ++ bdL l[k] ++ [41]) := by
 rw [List.take_succ_eq_append_getElem h, telesL_app]
 simp [Qbv]
theorem Qkb {l : List Bd} {k : Nat} (h : k < l.length) : Qcv (l.take (k + 1)) = Qcv (l.take k) ++ ([32, 32] ++ bdL l[k] ++ [59, 10]) := by
 rw [List.take_succ_eq_append_getElem h, consL_app]
 simp [Qcv]
theorem Qks {l : List Rw} {k : Nat} (h : k < l.length) : Qds (l.take (k + 1)) = Qds (l.take k) ++ rowL l[k] := by
 rw [List.take_succ_eq_append_getElem h, rowsL_app]
 simp [Qds]
def kwL (k : Int) : List UInt8 := if k = 1 then [100, 97, 116, 97] else if k = 2 then [114, 101, 99, 111, 114, 100] else [100, 101, 102]
def Qgq (d : Dc) : List UInt8 := kwL d.kind ++ [32] ++ d.name.toList ++ Qbv d.tele ++ [32, 58, 32] ++ exL d.ty 0 ++ [32, 123, 10] ++ Qcv d.cons ++ Qds d.rows ++ [125, 10]
theorem encD_dcmk (k a : Int) (s : ByteArray) (te : List Bd) (ty : Nd) (co : List Bd) (ro : List Rw) : encD (Dc.mk k a s te ty co ro) = [.v (.int .i64 k), .v (.int .i64 a), .v (.string s), .sl (te.map encD), .v (.int .i64 ty.kind), .v (.int .i64 ty.at), .v (.string ty.name), .v (.int .i64 ty.num), .sl (ty.sub.map encD), .sl (co.map encD), .sl (ro.map encD)] := Ji _
theorem decl_w (d : Dc) (h : Qbt d = true) : WC 42 [aggD d] (Qgq d) := by
 intro i g o T hW
 obtain ⟨kd, a, s, te, ty, co, ro⟩ := d
 unfold Qbt at h
 simp only [Bool.and_eq_true, decide_eq_true_eq] at h
 obtain ⟨⟨⟨⟨⟨⟨⟨⟨hk, hn⟩, hty⟩, hte⟩, hco⟩, -⟩, -⟩, hrl⟩, hro⟩ := h
 have hw := expr_w _ ty (Nat.le_refl _) (Qfc hty) 0
 unfold Qcb at hte hco
 simp only [Bool.and_eq_true, decide_eq_true_eq] at hte hco
 obtain ⟨htl, hte⟩ := hte
 obtain ⟨hcl, hco⟩ := hco
 have it : ∀ (k : Nat) (h : k < te.length), WC 78 [aggD te[k]] (bdL te[k]) := fun k h => typedx_w _ (by
  have := List.all_eq_true.1 hte _ (List.getElem_mem h)
  unfold Qcp at this; simp only [Bool.and_eq_true] at this; exact this.2)
 have ic : ∀ (k : Nat) (h : k < co.length), WC 78 [aggD co[k]] (bdL co[k]) := fun k h => typedx_w _ (by
  have := List.all_eq_true.1 hco _ (List.getElem_mem h)
  unfold Qcp at this; simp only [Bool.and_eq_true] at this; exact this.2)
 have ir : ∀ (k : Nat) (h : k < ro.length), WC 79 [aggD ro[k]] (rowL ro[k]) := fun k h => row_w _ (List.all_eq_true.1 hro _ (List.getElem_mem h))
 clear hte hco hro hn hty
 have HE := Hh (show Qgq (.mk kd a s te ty co ro) = kwL kd ++ [32] ++ s.toList ++ Qbv te ++ [32, 58, 32] ++ exL ty 0 ++ [32, 123, 10] ++ Qcv co ++ Qds ro ++ [125, 10] from rfl)
 generalize Qgq (.mk kd a s te ty co ro) = txt at *
 simp only [aggD, encD_dcmk, List.map_cons, List.map_nil]
 rcases (show kd = 1 ∨ kd = 2 ∨ kd = 3 by omega) with rfl | rfl | rfl
 ·refine pG Try.func42 Try.ntmps42 ?_
  refine Jc ?_
  intro i0 hi0
  refine go_ ?_
  refine Qao [(0, .a), (1, .a), (2, .a), (3, .a), (4, .a), (5, .b), (6, .a), (7, .a), (8, .b), (9, .a), (10, .e)] (by kernel_rfl) (by rfl) (by kernel_rfl) ?_
  refine go_ ?_
  refine Qei ?_
  refine Qej 1 (⟨hW, Qau [⟨#[100, 97, 116, 97]⟩, ⟨#[32]⟩, s] (by simp)⟩) ?_
  intro o1 hW1
  clear hW
  refine go_ ?_
  refine Qbc (ι := Nat × (List UInt8 × Bool)) (fun k => k.1 ≤ te.length ∧ Wr k.2 (T ++ ([100, 97, 116, 97] ++ [32] ++ s.toList) ++ Qbv (te.take k.1))) (fun k => [(0, .ptr i 0), (3, .ptr i0 0), (22, .d (.sl (te.map encD))), (23, .d (.v (.int .i64 te.length))), (24, .d (.v (.int .i64 k.1)))]) (fun k => .box i0 43 [.d (.v (.int .i64 1)), .d (.v (.int .i64 a)), .d (.v (.string s)), .d (.sl (te.map encD)), .d (.v (.int .i64 ty.kind)), .d (.v (.int .i64 ty.at)), .d (.v (.string ty.name)), .d (.v (.int .i64 ty.num)), .d (.sl (ty.sub.map encD)), .d (.sl (co.map encD)), .d (.sl (ro.map encD))] :: wrS i g 88 k.2) (fun k => te.length - k.1) (0, o1) ⟨Nat.zero_le _, by simpa [txts, Qbv] using hW1⟩ ?_ ?_ ?_
  ·exact sU
  ·simp only [List.cons_append, List.nil_append]
   exact dR
  ·rintro ⟨k, o⟩ ⟨hk, hWk⟩
   simp only at hk hWk ⊢
   clear hW1
   by_cases hlt : k < te.length
   ·have hx := Qbx hlt
    have hc : ((k : Int) < (te.length : Int)) := by omega
    have hn : (0 : Int) ≤ (k : Int) := by omega
    refine go_ ?_
    refine Jd ?_
    intro i2 hi2
    simp only [Rh] at hi2
    refine go_ ?_
    refine Qaa ?_
    refine Qad ?_
    refine Qab 2 (⟨hWk, Qau [⟨#[32, 40]⟩] (by simp)⟩) ?_
    intro o5 hW5
    refine go_ ?_
    refine Qab 2 (⟨hW5, it k hlt⟩) ?_
    intro o6 hW6
    refine go_ ?_
    refine Qad ?_
    refine Qab 2 (⟨hW6, Qau [⟨#[41]⟩] (by simp)⟩) ?_
    intro oz hWz
    have hin := Qbm hlt (by omega)
    refine go_ ?_
    refine ⟨(k + 1, oz), ⟨by simp only; omega, ?_⟩, by simp only; omega, ?_, ?_⟩
    ·simp only [Qjr hlt]
     simpa [txts] using hWz
    ·simp only
     repeat (first | exact Js _ | refine Jr (by simp [PF.get]; rfl) (by first | rfl | (simp [hin]; done) | fail) ?_)
    ·simp only [List.cons_append, List.nil_append]
     exact dR
   ·have hc : ¬ ((k : Int) < (te.length : Int)) := by omega
    rw [List.take_of_length_le (by omega)] at hWk
    refine go_ ?_
    refine Qad ?_
    refine Qab 1 (⟨hWk, Qau [⟨#[32, 58, 32]⟩] (by simp)⟩) ?_
    intro o2 hW2
    refine go_ ?_
    refine Qab 1 (⟨hW2, hw⟩) ?_
    intro o3 hW3
    refine go_ ?_
    refine Qad ?_
    refine Qab 1 (⟨hW3, Qau [⟨#[32, 123, 10]⟩] (by simp)⟩) ?_
    intro o4 hW4
    clear hWk hW2 hW3 hk hlt
    refine go_ ?_
    refine Qbc (ι := Nat × (List UInt8 × Bool)) (fun k => k.1 ≤ co.length ∧ Wr k.2 (T ++ ([100, 97, 116, 97] ++ [32] ++ s.toList) ++ Qbv te ++ [32, 58, 32] ++ exL ty 0 ++ [32, 123, 10] ++ Qcv (co.take k.1))) (fun k => [(0, .ptr i 0), (3, .ptr i0 0), (57, .d (.sl (co.map encD))), (58, .d (.v (.int .i64 co.length))), (59, .d (.v (.int .i64 k.1)))]) (fun k => .box i0 43 [.d (.v (.int .i64 1)), .d (.v (.int .i64 a)), .d (.v (.string s)), .d (.sl (te.map encD)), .d (.v (.int .i64 ty.kind)), .d (.v (.int .i64 ty.at)), .d (.v (.string ty.name)), .d (.v (.int .i64 ty.num)), .d (.sl (ty.sub.map encD)), .d (.sl (co.map encD)), .d (.sl (ro.map encD))] :: wrS i g 88 k.2) (fun k => co.length - k.1) (0, o4) ⟨Nat.zero_le _, by simpa [txts, Qcv] using hW4⟩ ?_ ?_ ?_
    ·exact sU
    ·simp only [List.cons_append, List.nil_append]
     exact dR
    ·rintro ⟨k, o⟩ ⟨hk, hWk⟩
     simp only at hk hWk ⊢
     clear hW4
     by_cases hlt : k < co.length
     ·have hx := Qbx hlt
      have hc : ((k : Int) < (co.length : Int)) := by omega
      have hn : (0 : Int) ≤ (k : Int) := by omega
      refine go_ ?_
      refine Jd ?_
      intro i2 hi2
      simp only [Rh] at hi2
      refine go_ ?_
      refine Qaa ?_
      refine Qad ?_
      refine Qab 2 (⟨hWk, Qau [⟨#[32, 32]⟩] (by simp)⟩) ?_
      intro o5 hW5
      refine go_ ?_
      refine Qab 2 (⟨hW5, ic k hlt⟩) ?_
      intro o6 hW6
      refine go_ ?_
      refine Qad ?_
      refine Qab 2 (⟨hW6, Qau [⟨#[59, 10]⟩] (by simp)⟩) ?_
      intro oz hWz
      have hin := Qbm hlt (by omega)
      refine go_ ?_
      refine ⟨(k + 1, oz), ⟨by simp only; omega, ?_⟩, by simp only; omega, ?_, ?_⟩
      ·simp only [Qkb hlt]
       simpa [txts] using hWz
      ·simp only
       repeat (first | exact Js _ | refine Jr (by simp [PF.get]; rfl) (by first | rfl | (simp [hin]; done) | fail) ?_)
      ·simp only [List.cons_append, List.nil_append]
       exact dR
     ·have hc : ¬ ((k : Int) < (co.length : Int)) := by omega
      rw [List.take_of_length_le (by omega)] at hWk
      have hW7 := hWk
      generalize o = o7 at hW7 ⊢
      clear hWk hk hlt
      refine go_ ?_
      refine Qbc (ι := Nat × (List UInt8 × Bool)) (fun k => k.1 ≤ ro.length ∧ Wr k.2 (T ++ ([100, 97, 116, 97] ++ [32] ++ s.toList) ++ Qbv te ++ [32, 58, 32] ++ exL ty 0 ++ [32, 123, 10] ++ Qcv co ++ Qds (ro.take k.1))) (fun k => [(0, .ptr i 0), (3, .ptr i0 0), (78, .d (.sl (ro.map encD))), (79, .d (.v (.int .i64 ro.length))), (80, .d (.v (.int .i64 k.1)))]) (fun k => .box i0 43 [.d (.v (.int .i64 1)), .d (.v (.int .i64 a)), .d (.v (.string s)), .d (.sl (te.map encD)), .d (.v (.int .i64 ty.kind)), .d (.v (.int .i64 ty.at)), .d (.v (.string ty.name)), .d (.v (.int .i64 ty.num)), .d (.sl (ty.sub.map encD)), .d (.sl (co.map encD)), .d (.sl (ro.map encD))] :: wrS i g 88 k.2) (fun k => ro.length - k.1) (0, o7) ⟨Nat.zero_le _, by simpa [txts, Qds] using hW7⟩ ?_ ?_ ?_
      ·exact sU
      ·simp only [List.cons_append, List.nil_append]
       exact dR
      ·rintro ⟨k, o⟩ ⟨hk, hWk⟩
       simp only at hk hWk ⊢
       clear hW7
       by_cases hlt : k < ro.length
       ·have hx := Qbx hlt
        have hc : ((k : Int) < (ro.length : Int)) := by omega
        have hn : (0 : Int) ≤ (k : Int) := by omega
        refine go_ ?_
        refine Jd ?_
        intro i2 hi2
        simp only [Rh] at hi2
        refine go_ ?_
        refine Qaa ?_
        refine Qab 2 (⟨hWk, ir k hlt⟩) ?_
        intro oz hWz
        have hin := Qbm hlt (by omega)
        refine go_ ?_
        refine ⟨(k + 1, oz), ⟨by simp only; omega, ?_⟩, by simp only; omega, ?_, ?_⟩
        ·simp only [Qks hlt]
         simpa [txts] using hWz
        ·simp only
         repeat (first | exact Js _ | refine Jr (by simp [PF.get]; rfl) (by first | rfl | (simp [hin]; done) | fail) ?_)
        ·simp only [List.cons_append, List.nil_append]
         exact dR
       ·have hc : ¬ ((k : Int) < (ro.length : Int)) := by omega
        rw [List.take_of_length_le (by omega)] at hWk
        refine go_ ?_
        refine Qad ?_
        refine Qab 1 (⟨hWk, Qau [⟨#[125, 10]⟩] (by simp)⟩) ?_
        intro o8 hW8
        refine go_ ?_
        refine Qay (by simp) (by simp only [Try.results42]; rfl) (by simp [resP]; rfl) dR ⟨rfl, o8, ?_, rfl⟩
        rw [HE.out]
        simpa [txts, kwL] using hW8
 ·refine pG Try.func42 Try.ntmps42 ?_
  refine Jc ?_
  intro i0 hi0
  refine go_ ?_
  refine Qao [(0, .a), (1, .a), (2, .a), (3, .a), (4, .a), (5, .b), (6, .a), (7, .a), (8, .b), (9, .a), (10, .e)] (by kernel_rfl) (by rfl) (by kernel_rfl) ?_
  refine go_ ?_
  refine Qei ?_
  refine Qej 1 (⟨hW, Qau [⟨#[114, 101, 99, 111, 114, 100]⟩, ⟨#[32]⟩, s] (by simp)⟩) ?_
  intro o1 hW1
  clear hW
  refine go_ ?_
  refine Qbc (ι := Nat × (List UInt8 × Bool)) (fun k => k.1 ≤ te.length ∧ Wr k.2 (T ++ ([114, 101, 99, 111, 114, 100] ++ [32] ++ s.toList) ++ Qbv (te.take k.1))) (fun k => [(0, .ptr i 0), (3, .ptr i0 0), (22, .d (.sl (te.map encD))), (23, .d (.v (.int .i64 te.length))), (24, .d (.v (.int .i64 k.1)))]) (fun k => .box i0 43 [.d (.v (.int .i64 2)), .d (.v (.int .i64 a)), .d (.v (.string s)), .d (.sl (te.map encD)), .d (.v (.int .i64 ty.kind)), .d (.v (.int .i64 ty.at)), .d (.v (.string ty.name)), .d (.v (.int .i64 ty.num)), .d (.sl (ty.sub.map encD)), .d (.sl (co.map encD)), .d (.sl (ro.map encD))] :: wrS i g 88 k.2) (fun k => te.length - k.1) (0, o1) ⟨Nat.zero_le _, by simpa [txts, Qbv] using hW1⟩ ?_ ?_ ?_
  ·exact sU
  ·simp only [List.cons_append, List.nil_append]
   exact dR
  ·rintro ⟨k, o⟩ ⟨hk, hWk⟩
   simp only at hk hWk ⊢
   clear hW1
   by_cases hlt : k < te.length
   ·have hx := Qbx hlt
    have hc : ((k : Int) < (te.length : Int)) := by omega
    have hn : (0 : Int) ≤ (k : Int) := by omega
    refine go_ ?_
    refine Jd ?_
    intro i2 hi2
    simp only [Rh] at hi2
    refine go_ ?_
    refine Qaa ?_
    refine Qad ?_
    refine Qab 2 (⟨hWk, Qau [⟨#[32, 40]⟩] (by simp)⟩) ?_
    intro o5 hW5
    refine go_ ?_
    refine Qab 2 (⟨hW5, it k hlt⟩) ?_
    intro o6 hW6
    refine go_ ?_
    refine Qad ?_
    refine Qab 2 (⟨hW6, Qau [⟨#[41]⟩] (by simp)⟩) ?_
    intro oz hWz
    have hin := Qbm hlt (by omega)
    refine go_ ?_
    refine ⟨(k + 1, oz), ⟨by simp only; omega, ?_⟩, by simp only; omega, ?_, ?_⟩
    ·simp only [Qjr hlt]
     simpa [txts] using hWz
    ·simp only
     repeat (first | exact Js _ | refine Jr (by simp [PF.get]; rfl) (by first | rfl | (simp [hin]; done) | fail) ?_)
    ·simp only [List.cons_append, List.nil_append]
     exact dR
   ·have hc : ¬ ((k : Int) < (te.length : Int)) := by omega
    rw [List.take_of_length_le (by omega)] at hWk
    refine go_ ?_
    refine Qad ?_
    refine Qab 1 (⟨hWk, Qau [⟨#[32, 58, 32]⟩] (by simp)⟩) ?_
    intro o2 hW2
    refine go_ ?_
    refine Qab 1 (⟨hW2, hw⟩) ?_
    intro o3 hW3
    refine go_ ?_
    refine Qad ?_
    refine Qab 1 (⟨hW3, Qau [⟨#[32, 123, 10]⟩] (by simp)⟩) ?_
    intro o4 hW4
    clear hWk hW2 hW3 hk hlt
    refine go_ ?_
    refine Qbc (ι := Nat × (List UInt8 × Bool)) (fun k => k.1 ≤ co.length ∧ Wr k.2 (T ++ ([114, 101, 99, 111, 114, 100] ++ [32] ++ s.toList) ++ Qbv te ++ [32, 58, 32] ++ exL ty 0 ++ [32, 123, 10] ++ Qcv (co.take k.1))) (fun k => [(0, .ptr i 0), (3, .ptr i0 0), (57, .d (.sl (co.map encD))), (58, .d (.v (.int .i64 co.length))), (59, .d (.v (.int .i64 k.1)))]) (fun k => .box i0 43 [.d (.v (.int .i64 2)), .d (.v (.int .i64 a)), .d (.v (.string s)), .d (.sl (te.map encD)), .d (.v (.int .i64 ty.kind)), .d (.v (.int .i64 ty.at)), .d (.v (.string ty.name)), .d (.v (.int .i64 ty.num)), .d (.sl (ty.sub.map encD)), .d (.sl (co.map encD)), .d (.sl (ro.map encD))] :: wrS i g 88 k.2) (fun k => co.length - k.1) (0, o4) ⟨Nat.zero_le _, by simpa [txts, Qcv] using hW4⟩ ?_ ?_ ?_
    ·exact sU
    ·simp only [List.cons_append, List.nil_append]
     exact dR
    ·rintro ⟨k, o⟩ ⟨hk, hWk⟩
     simp only at hk hWk ⊢
     clear hW4
     by_cases hlt : k < co.length
     ·have hx := Qbx hlt
      have hc : ((k : Int) < (co.length : Int)) := by omega
      have hn : (0 : Int) ≤ (k : Int) := by omega
      refine go_ ?_
      refine Jd ?_
      intro i2 hi2
      simp only [Rh] at hi2
      refine go_ ?_
      refine Qaa ?_
      refine Qad ?_
      refine Qab 2 (⟨hWk, Qau [⟨#[32, 32]⟩] (by simp)⟩) ?_
      intro o5 hW5
      refine go_ ?_
      refine Qab 2 (⟨hW5, ic k hlt⟩) ?_
      intro o6 hW6
      refine go_ ?_
      refine Qad ?_
      refine Qab 2 (⟨hW6, Qau [⟨#[59, 10]⟩] (by simp)⟩) ?_
      intro oz hWz
      have hin := Qbm hlt (by omega)
      refine go_ ?_
      refine ⟨(k + 1, oz), ⟨by simp only; omega, ?_⟩, by simp only; omega, ?_, ?_⟩
      ·simp only [Qkb hlt]
       simpa [txts] using hWz
      ·simp only
       repeat (first | exact Js _ | refine Jr (by simp [PF.get]; rfl) (by first | rfl | (simp [hin]; done) | fail) ?_)
      ·simp only [List.cons_append, List.nil_append]
       exact dR
     ·have hc : ¬ ((k : Int) < (co.length : Int)) := by omega
      rw [List.take_of_length_le (by omega)] at hWk
      have hW7 := hWk
      generalize o = o7 at hW7 ⊢
      clear hWk hk hlt
      refine go_ ?_
      refine Qbc (ι := Nat × (List UInt8 × Bool)) (fun k => k.1 ≤ ro.length ∧ Wr k.2 (T ++ ([114, 101, 99, 111, 114, 100] ++ [32] ++ s.toList) ++ Qbv te ++ [32, 58, 32] ++ exL ty 0 ++ [32, 123, 10] ++ Qcv co ++ Qds (ro.take k.1))) (fun k => [(0, .ptr i 0), (3, .ptr i0 0), (78, .d (.sl (ro.map encD))), (79, .d (.v (.int .i64 ro.length))), (80, .d (.v (.int .i64 k.1)))]) (fun k => .box i0 43 [.d (.v (.int .i64 2)), .d (.v (.int .i64 a)), .d (.v (.string s)), .d (.sl (te.map encD)), .d (.v (.int .i64 ty.kind)), .d (.v (.int .i64 ty.at)), .d (.v (.string ty.name)), .d (.v (.int .i64 ty.num)), .d (.sl (ty.sub.map encD)), .d (.sl (co.map encD)), .d (.sl (ro.map encD))] :: wrS i g 88 k.2) (fun k => ro.length - k.1) (0, o7) ⟨Nat.zero_le _, by simpa [txts, Qds] using hW7⟩ ?_ ?_ ?_
      ·exact sU
      ·simp only [List.cons_append, List.nil_append]
       exact dR
      ·rintro ⟨k, o⟩ ⟨hk, hWk⟩
       simp only at hk hWk ⊢
       clear hW7
       by_cases hlt : k < ro.length
       ·have hx := Qbx hlt
        have hc : ((k : Int) < (ro.length : Int)) := by omega
        have hn : (0 : Int) ≤ (k : Int) := by omega
        refine go_ ?_
        refine Jd ?_
        intro i2 hi2
        simp only [Rh] at hi2
        refine go_ ?_
        refine Qaa ?_
        refine Qab 2 (⟨hWk, ir k hlt⟩) ?_
        intro oz hWz
        have hin := Qbm hlt (by omega)
        refine go_ ?_
        refine ⟨(k + 1, oz), ⟨by simp only; omega, ?_⟩, by simp only; omega, ?_, ?_⟩
        ·simp only [Qks hlt]
         simpa [txts] using hWz
        ·simp only
         repeat (first | exact Js _ | refine Jr (by simp [PF.get]; rfl) (by first | rfl | (simp [hin]; done) | fail) ?_)
        ·simp only [List.cons_append, List.nil_append]
         exact dR
       ·have hc : ¬ ((k : Int) < (ro.length : Int)) := by omega
        rw [List.take_of_length_le (by omega)] at hWk
        refine go_ ?_
        refine Qad ?_
        refine Qab 1 (⟨hWk, Qau [⟨#[125, 10]⟩] (by simp)⟩) ?_
        intro o8 hW8
        refine go_ ?_
        refine Qay (by simp) (by simp only [Try.results42]; rfl) (by simp [resP]; rfl) dR ⟨rfl, o8, ?_, rfl⟩
        rw [HE.out]
        simpa [txts, kwL] using hW8
 ·refine pG Try.func42 Try.ntmps42 ?_
  refine Jc ?_
  intro i0 hi0
  refine go_ ?_
  refine Qao [(0, .a), (1, .a), (2, .a), (3, .a), (4, .a), (5, .b), (6, .a), (7, .a), (8, .b), (9, .a), (10, .e)] (by kernel_rfl) (by rfl) (by kernel_rfl) ?_
  refine go_ ?_
  refine Qei ?_
  refine Qej 1 (⟨hW, Qau [⟨#[100, 101, 102]⟩, ⟨#[32]⟩, s] (by simp)⟩) ?_
  intro o1 hW1
  clear hW
  refine go_ ?_
  refine Qbc (ι := Nat × (List UInt8 × Bool)) (fun k => k.1 ≤ te.length ∧ Wr k.2 (T ++ ([100, 101, 102] ++ [32] ++ s.toList) ++ Qbv (te.take k.1))) (fun k => [(0, .ptr i 0), (3, .ptr i0 0), (22, .d (.sl (te.map encD))), (23, .d (.v (.int .i64 te.length))), (24, .d (.v (.int .i64 k.1)))]) (fun k => .box i0 43 [.d (.v (.int .i64 3)), .d (.v (.int .i64 a)), .d (.v (.string s)), .d (.sl (te.map encD)), .d (.v (.int .i64 ty.kind)), .d (.v (.int .i64 ty.at)), .d (.v (.string ty.name)), .d (.v (.int .i64 ty.num)), .d (.sl (ty.sub.map encD)), .d (.sl (co.map encD)), .d (.sl (ro.map encD))] :: wrS i g 88 k.2) (fun k => te.length - k.1) (0, o1) ⟨Nat.zero_le _, by simpa [txts, Qbv] using hW1⟩ ?_ ?_ ?_
  ·exact sU
  ·simp only [List.cons_append, List.nil_append]
   exact dR
  ·rintro ⟨k, o⟩ ⟨hk, hWk⟩
   simp only at hk hWk ⊢
   clear hW1
   by_cases hlt : k < te.length
   ·have hx := Qbx hlt
    have hc : ((k : Int) < (te.length : Int)) := by omega
    have hn : (0 : Int) ≤ (k : Int) := by omega
    refine go_ ?_
    refine Jd ?_
    intro i2 hi2
    simp only [Rh] at hi2
    refine go_ ?_
    refine Qaa ?_
    refine Qad ?_
    refine Qab 2 (⟨hWk, Qau [⟨#[32, 40]⟩] (by simp)⟩) ?_
    intro o5 hW5
    refine go_ ?_
    refine Qab 2 (⟨hW5, it k hlt⟩) ?_
    intro o6 hW6
    refine go_ ?_
    refine Qad ?_
    refine Qab 2 (⟨hW6, Qau [⟨#[41]⟩] (by simp)⟩) ?_
    intro oz hWz
    have hin := Qbm hlt (by omega)
    refine go_ ?_
    refine ⟨(k + 1, oz), ⟨by simp only; omega, ?_⟩, by simp only; omega, ?_, ?_⟩
    ·simp only [Qjr hlt]
     simpa [txts] using hWz
    ·simp only
     repeat (first | exact Js _ | refine Jr (by simp [PF.get]; rfl) (by first | rfl | (simp [hin]; done) | fail) ?_)
    ·simp only [List.cons_append, List.nil_append]
     exact dR
   ·have hc : ¬ ((k : Int) < (te.length : Int)) := by omega
    rw [List.take_of_length_le (by omega)] at hWk
    refine go_ ?_
    refine Qad ?_
    refine Qab 1 (⟨hWk, Qau [⟨#[32, 58, 32]⟩] (by simp)⟩) ?_
    intro o2 hW2
    refine go_ ?_
    refine Qab 1 (⟨hW2, hw⟩) ?_
    intro o3 hW3
    refine go_ ?_
    refine Qad ?_
    refine Qab 1 (⟨hW3, Qau [⟨#[32, 123, 10]⟩] (by simp)⟩) ?_
    intro o4 hW4
    clear hWk hW2 hW3 hk hlt
    refine go_ ?_
    refine Qbc (ι := Nat × (List UInt8 × Bool)) (fun k => k.1 ≤ co.length ∧ Wr k.2 (T ++ ([100, 101, 102] ++ [32] ++ s.toList) ++ Qbv te ++ [32, 58, 32] ++ exL ty 0 ++ [32, 123, 10] ++ Qcv (co.take k.1))) (fun k => [(0, .ptr i 0), (3, .ptr i0 0), (57, .d (.sl (co.map encD))), (58, .d (.v (.int .i64 co.length))), (59, .d (.v (.int .i64 k.1)))]) (fun k => .box i0 43 [.d (.v (.int .i64 3)), .d (.v (.int .i64 a)), .d (.v (.string s)), .d (.sl (te.map encD)), .d (.v (.int .i64 ty.kind)), .d (.v (.int .i64 ty.at)), .d (.v (.string ty.name)), .d (.v (.int .i64 ty.num)), .d (.sl (ty.sub.map encD)), .d (.sl (co.map encD)), .d (.sl (ro.map encD))] :: wrS i g 88 k.2) (fun k => co.length - k.1) (0, o4) ⟨Nat.zero_le _, by simpa [txts, Qcv] using hW4⟩ ?_ ?_ ?_
    ·exact sU
    ·simp only [List.cons_append, List.nil_append]
     exact dR
    ·rintro ⟨k, o⟩ ⟨hk, hWk⟩
     simp only at hk hWk ⊢
     clear hW4
     by_cases hlt : k < co.length
     ·have hx := Qbx hlt
      have hc : ((k : Int) < (co.length : Int)) := by omega
      have hn : (0 : Int) ≤ (k : Int) := by omega
      refine go_ ?_
      refine Jd ?_
      intro i2 hi2
      simp only [Rh] at hi2
      refine go_ ?_
      refine Qaa ?_
      refine Qad ?_
      refine Qab 2 (⟨hWk, Qau [⟨#[32, 32]⟩] (by simp)⟩) ?_
      intro o5 hW5
      refine go_ ?_
      refine Qab 2 (⟨hW5, ic k hlt⟩) ?_
      intro o6 hW6
      refine go_ ?_
      refine Qad ?_
      refine Qab 2 (⟨hW6, Qau [⟨#[59, 10]⟩] (by simp)⟩) ?_
      intro oz hWz
      have hin := Qbm hlt (by omega)
      refine go_ ?_
      refine ⟨(k + 1, oz), ⟨by simp only; omega, ?_⟩, by simp only; omega, ?_, ?_⟩
      ·simp only [Qkb hlt]
       simpa [txts] using hWz
      ·simp only
       repeat (first | exact Js _ | refine Jr (by simp [PF.get]; rfl) (by first | rfl | (simp [hin]; done) | fail) ?_)
      ·simp only [List.cons_append, List.nil_append]
       exact dR
     ·have hc : ¬ ((k : Int) < (co.length : Int)) := by omega
      rw [List.take_of_length_le (by omega)] at hWk
      have hW7 := hWk
      generalize o = o7 at hW7 ⊢
      clear hWk hk hlt
      refine go_ ?_
      refine Qbc (ι := Nat × (List UInt8 × Bool)) (fun k => k.1 ≤ ro.length ∧ Wr k.2 (T ++ ([100, 101, 102] ++ [32] ++ s.toList) ++ Qbv te ++ [32, 58, 32] ++ exL ty 0 ++ [32, 123, 10] ++ Qcv co ++ Qds (ro.take k.1))) (fun k => [(0, .ptr i 0), (3, .ptr i0 0), (78, .d (.sl (ro.map encD))), (79, .d (.v (.int .i64 ro.length))), (80, .d (.v (.int .i64 k.1)))]) (fun k => .box i0 43 [.d (.v (.int .i64 3)), .d (.v (.int .i64 a)), .d (.v (.string s)), .d (.sl (te.map encD)), .d (.v (.int .i64 ty.kind)), .d (.v (.int .i64 ty.at)), .d (.v (.string ty.name)), .d (.v (.int .i64 ty.num)), .d (.sl (ty.sub.map encD)), .d (.sl (co.map encD)), .d (.sl (ro.map encD))] :: wrS i g 88 k.2) (fun k => ro.length - k.1) (0, o7) ⟨Nat.zero_le _, by simpa [txts, Qds] using hW7⟩ ?_ ?_ ?_
      ·exact sU
      ·simp only [List.cons_append, List.nil_append]
       exact dR
      ·rintro ⟨k, o⟩ ⟨hk, hWk⟩
       simp only at hk hWk ⊢
       clear hW7
       by_cases hlt : k < ro.length
       ·have hx := Qbx hlt
        have hc : ((k : Int) < (ro.length : Int)) := by omega
        have hn : (0 : Int) ≤ (k : Int) := by omega
        refine go_ ?_
        refine Jd ?_
        intro i2 hi2
        simp only [Rh] at hi2
        refine go_ ?_
        refine Qaa ?_
        refine Qab 2 (⟨hWk, ir k hlt⟩) ?_
        intro oz hWz
        have hin := Qbm hlt (by omega)
        refine go_ ?_
        refine ⟨(k + 1, oz), ⟨by simp only; omega, ?_⟩, by simp only; omega, ?_, ?_⟩
        ·simp only [Qks hlt]
         simpa [txts] using hWz
        ·simp only
         repeat (first | exact Js _ | refine Jr (by simp [PF.get]; rfl) (by first | rfl | (simp [hin]; done) | fail) ?_)
        ·simp only [List.cons_append, List.nil_append]
         exact dR
       ·have hc : ¬ ((k : Int) < (ro.length : Int)) := by omega
        rw [List.take_of_length_le (by omega)] at hWk
        refine go_ ?_
        refine Qad ?_
        refine Qab 1 (⟨hWk, Qau [⟨#[125, 10]⟩] (by simp)⟩) ?_
        intro o8 hW8
        refine go_ ?_
        refine Qay (by simp) (by simp only [Try.results42]; rfl) (by simp [resP]; rfl) dR ⟨rfl, o8, ?_, rfl⟩
        rw [HE.out]
        simpa [txts, kwL] using hW8
theorem tright6_p (d : Dc) : PCalls Try.prog 41 [aggD d] [] fun p s => p = .d (.v (.bool (Qbt d))) ∧ s = [] := PCalls.flat trivial fun K w vs ha => by
 obtain ⟨v, rfl, hv⟩ := ha.one
 obtain ⟨cs, rfl, hc⟩ := rep_rel hv
 exact dright_any _ d cs w hc
def Qbb : List Dc → List UInt8
 | [] => []
 | t :: ts => Qgq t ++ Qbb ts
theorem filesL_app (a b : List Dc) : Qbb (a ++ b) = Qbb a ++ Qbb b := by
 induction a with
 | nil => rfl
 | cons x a ih => simp only [List.cons_append, Qbb, ih, List.append_assoc]
theorem filesL_take {l : List Dc} {k : Nat} (h : k < l.length) : Qbb (l.take (k + 1)) = Qbb (l.take k) ++ Qgq l[k] := by
 rw [List.take_succ_eq_append_getElem h, filesL_app]
 simp [Qbb]
def fileR (l : List Dc) : PV := if l.all Qbt then Qgk (Qbb l) else .tup [.d (.v (.string ⟨#[]⟩)), .d (.v (.int .i64 5))]
theorem filex_p (l : List Dc) (hl : l.length ≤ 1000000) : PCalls Try.prog 20 [.d (slD l)] [] fun p s => p = fileR l ∧ s = [] := by
  have HE := Hh (show fileR l = if l.all Qbt then Qgk (Qbb l) else .tup [.d (.v (.string ⟨#[]⟩)), .d (.v (.int .i64 5))] from rfl)
  generalize fileR l = q at *
  simp only [slD]
  refine pG Try.func20 Try.ntmps20 ?_
  refine Qbc (ι := Nat) (fun k => k ≤ l.length ∧ (l.take k).all Qbt = true) (fun k => [(0, .d (.sl (l.map encD))), (9, .d (.sl (l.map encD))), (10, .d (.v (.int .i64 l.length))), (11, .d (.v (.int .i64 k)))]) (fun _ => []) (fun k => l.length - k) 0 ⟨Nat.zero_le _, by simp⟩ ?_ ?_ ?_
  · exact sU
  · exact dR
  · rintro k ⟨hk, hall⟩
    by_cases hlt : k < l.length
    · have hx := Qbx hlt
      have hc : ((k : Int) < (l.length : Int)) := by omega
      have hn : (0 : Int) ≤ (k : Int) := by omega
      have hin := Qbm hlt (by omega)
      have HA := Hh hall
      clear hall
      refine go_ ?_
      refine Jd ?_
      intro i2 hi2
      refine go_ ?_
      refine Qaa ?_
      refine Jb (tright6_p l[k]) ?_
      cases hr : Qbt l[k] with
      | true =>
        have HR := Hh hr
        clear hr
        refine go_ ?_
        refine ⟨k + 1, ⟨by omega, ?_⟩, by omega, ?_, ?_⟩
        · rw [Qin Qbt l k hlt, HA.out, HR.out]; rfl
        · repeat (first | exact Js _ | refine Jr (by simp [PF.get]; rfl) (by first | rfl | (simp [hin]; done) | fail) ?_)
        · exact dR
      | false =>
        have hno : l.all Qbt = false := Qhx k hlt hr
        rw [hno] at HE
        clear hno
        have HR := Hh hr
        clear hr
        refine go_ ?_
        refine rT Try.results20 ?_
        exact ⟨HE.out.symm, rfl⟩
    · have hc : ¬ ((k : Int) < (l.length : Int)) := by omega
      rw [List.take_of_length_le (by omega)] at hall
      rw [hall] at HE
      have hd : ∀ (k : Nat) (h : k < l.length), WC 42 [aggD l[k]] (Qgq l[k]) := fun k h => decl_w _ (List.all_eq_true.1 hall _ (List.getElem_mem h))
      clear hall
      refine go_ ?_
      refine Jc ?_
      intro i1 hi1
      (first | refine Qq ?_ | refine Qr ?_)
      refine Qh ?_
      refine Qj ?_
      refine PW_ownB i1 0 5 1 eQ (by rfl) (by rfl) (by intro g; simp [St.setBox, *]; rfl) (by decide) ?_
      intro g hg
      refine PW_perm (st' := wrS i1 g 88 ([], false)) (List.Perm.swap _ _ _) ?_
      refine go_ ?_
      refine Qbc (ι := Nat × (List UInt8 × Bool)) (fun k => k.1 ≤ l.length ∧ Wr k.2 (Qbb (l.take k.1))) (fun k => [(6, .ptr i1 0), (21, .d (.sl (l.map encD))), (22, .d (.v (.int .i64 l.length))), (23, .d (.v (.int .i64 k.1)))]) (fun k => wrS i1 g 88 k.2) (fun k => l.length - k.1) (0, ([], false)) ⟨Nat.zero_le _, wr0⟩ ?_ ?_ ?_
      · exact sU
      · exact dR
      · clear hlt hc hk
        rintro ⟨k, o⟩ ⟨hk, hWk⟩
        simp only at hk hWk ⊢
        by_cases hlt : k < l.length
        · have hx := Qbx hlt
          have hc : ((k : Int) < (l.length : Int)) := by omega
          have hn : (0 : Int) ≤ (k : Int) := by omega
          have hin := Qbm hlt (by omega)
          refine go_ ?_
          refine Jd ?_
          intro i2 hi2
          refine go_ ?_
          refine Qaa ?_
          refine Qab 1 (⟨hWk, hd k hlt⟩) ?_
          intro o3 hW3
          refine go_ ?_
          refine ⟨(k + 1, o3), ⟨by simp only; omega, ?_⟩, by simp only; omega, ?_, ?_⟩
          · simp only [filesL_take hlt]
            exact hW3
          · simp only
            repeat (first | exact Js _ | refine Jr (by simp [PF.get]; rfl) (by first | rfl | (simp [hin]; done) | fail) ?_)
          · simp only [List.cons_append, List.nil_append]
            exact dR
        · have hc : ¬ ((k : Int) < (l.length : Int)) := by omega
          rw [List.take_of_length_le (by omega)] at hWk
          refine go_ ?_
          obtain ⟨s', e', het⟩ := textP_tup (Qbb l)
          have he := end_p i1 g o _ hWk
          rw [het] at he HE
          refine POps_callS 0 (he) (by simp only [List.cons_append, List.nil_append, List.take_succ_cons, List.take_zero]; rfl) (by rfl) (by decide) rfl eQ (by first | (simp [PV.norm1, PV.norm0, aggD, slD, Jg, Jj, Jh, Ji, Jf]; done) | fail) rfl ?_
          refine go_ ?_
          refine rT Try.results20 ?_
          exact ⟨HE.out.symm, rfl⟩
end Go.Proofs.Ytahhgpafjiljfaa
