import Derived.Test.YtdklpbefbamchaaGreatBE
import Derived.Test.YtdklpbefbamchaaGreatBE4
set_option linter.unusedSimpArgs false
set_option linter.unusedVariables false
set_option maxHeartbeats 16000000
set_option maxRecDepth 100000
namespace Go.Proofs.YtdklpbefbamchaaGreat
open Go.RowKit
structure En where
 kind : Int
 name : ByteArray
 ty : Tm
 body : Tm
 of_ : Int
 place : Int
 pars : Int
 inds : Int
 level : Int
 cons : List Int
 fields : List Int
instance : Enc En := ⟨15, fun e => [.v (.int .i64 e.kind), .str e.name] ++ tmD e.ty ++ tmD e.body ++ [.v (.int .i64 e.of_), .v (.int .i64 e.place), .v (.int .i64 e.pars), .v (.int .i64 e.inds), .v (.int .i64 e.level), .s 1 (e.cons.map Enc.enc), .s 1 (e.fields.map Enc.enc)], fun e => by simp [tmD_len]⟩
instance : EncOk En := ⟨fun e d hd => by
 simp only [Enc.enc, List.mem_append, List.mem_cons, List.not_mem_nil, or_false] at hd
 rcases hd with (((rfl | rfl) | hd) | hd) | rfl | rfl | rfl | rfl | rfl | rfl | rfl
 ·exact .v trivial
 ·exact .str
 ·exact tmD_ok _ d hd
 ·exact tmD_ok _ d hd
 ·exact .v trivial
 ·exact .v trivial
 ·exact .v trivial
 ·exact .v trivial
 ·exact .v trivial
 ·exact Qgt (α := Int) (by decide) e.cons
 ·exact Qgt (α := Int) (by decide) e.fields⟩
@[simp] theorem Qgf (e : En) : encD e = [.v (.int .i64 e.kind), .v (.string e.name), .v (.int .i64 e.ty.kind), .v (.int .i64 e.ty.num), .sl (e.ty.sub.map encD), .v (.int .i64 e.body.kind), .v (.int .i64 e.body.num), .sl (e.body.sub.map encD), .v (.int .i64 e.of_), .v (.int .i64 e.place), .v (.int .i64 e.pars), .v (.int .i64 e.inds), .v (.int .i64 e.level), .sl (e.cons.map encD), .sl (e.fields.map encD)] := by
 have h1 := Jl e.ty
 have h2 := Jl e.body
 unfold encD at h1 h2 ⊢
 simp only [Enc.enc] at h1 h2 ⊢
 rw [Qdt, Qdt, Qdt, h1, h2]
 simp only [dtL, dtD, Qdw, List.map_map]
 rfl
def Qbp (t : Tm) : Bool := t.kind == 0 && (t.num == 0 && ((t.sub.length : Int) == 0))
theorem snone_p (t : Tm) : PCalls Tryz.prog 244 [aggD t] [] fun p s => p = .d (.v (.bool (Qbp t))) ∧ s = [] := by
 obtain ⟨R, hR⟩ : ∃ R, R = Qbp t := ⟨_, rfl⟩
 rw [← hR]
 unfold Qbp at hR
 have HR := Lib.hid hR
 clear hR
 simp only [aggD, Jl, List.map_cons, List.map_nil]
 refine PCalls.enter Tryz.func244 rfl Tryz.ntmps244 (by simp) ?_
 simp only [Qab]
 refine go_ ?_
 refine Jd ?_
 intro i0 hi0
 refine go_ ?_
 rcases Bool.eq_false_or_eq_true (t.kind == 0) with h1 | h1
 rotate_left
 ·refine go_ ?_
  refine Jm (by simp) (by simp only [Tryz.results244]; rfl) (by simp [resP, St.box?, PF.get, Jn, TyK.agg, *]; rfl) Nl ?_
  exact ⟨by rw [HR.out]; simp [tupP, PV.norm2, PV.norm1, PV.norm0, *], rfl⟩
 refine go_ ?_
 rcases Bool.eq_false_or_eq_true (t.num == 0) with h2 | h2
 rotate_left
 ·refine go_ ?_
  refine Jm (by simp) (by simp only [Tryz.results244]; rfl) (by simp [resP, St.box?, PF.get, Jn, TyK.agg, *]; rfl) Nl ?_
  exact ⟨by rw [HR.out]; simp [tupP, PV.norm2, PV.norm1, PV.norm0, *], rfl⟩
 refine go_ ?_
 refine Jm (by simp) (by simp only [Tryz.results244]; rfl) (by simp [resP, St.box?, PF.get, Jn, TyK.agg, *]; rfl) Nl ?_
 exact ⟨by rw [HR.out]; simp [tupP, PV.norm2, PV.norm1, PV.norm0, *], rfl⟩
theorem rzero_p (t : Tm) : PCalls Tryz.prog 208 [aggD t] [] fun p s => p = .d (.v (.bool (Qbp t))) ∧ s = [] := by
 obtain ⟨R, hR⟩ : ∃ R, R = Qbp t := ⟨_, rfl⟩
 rw [← hR]
 unfold Qbp at hR
 have HR := Lib.hid hR
 clear hR
 simp only [aggD, Jl, List.map_cons, List.map_nil]
 refine PCalls.enter Tryz.func208 rfl Tryz.ntmps208 (by simp) ?_
 simp only [Qab]
 refine go_ ?_
 refine Jd ?_
 intro i0 hi0
 refine go_ ?_
 rcases Bool.eq_false_or_eq_true (t.kind == 0) with h1 | h1
 rotate_left
 ·refine go_ ?_
  refine Jm (by simp) (by simp only [Tryz.results208]; rfl) (by simp [resP, St.box?, PF.get, Jn, TyK.agg, *]; rfl) Nl ?_
  exact ⟨by rw [HR.out]; simp [tupP, PV.norm2, PV.norm1, PV.norm0, *], rfl⟩
 refine go_ ?_
 rcases Bool.eq_false_or_eq_true (t.num == 0) with h2 | h2
 rotate_left
 ·refine go_ ?_
  refine Jm (by simp) (by simp only [Tryz.results208]; rfl) (by simp [resP, St.box?, PF.get, Jn, TyK.agg, *]; rfl) Nl ?_
  exact ⟨by rw [HR.out]; simp [tupP, PV.norm2, PV.norm1, PV.norm0, *], rfl⟩
 refine go_ ?_
 refine Jm (by simp) (by simp only [Tryz.results208]; rfl) (by simp [resP, St.box?, PF.get, Jn, TyK.agg, *]; rfl) Nl ?_
 exact ⟨by rw [HR.out]; simp [tupP, PV.norm2, PV.norm1, PV.norm0, *], rfl⟩
def isE (l : List En) (n k : Int) : Bool := decide (0 ≤ n) && (decide (n < l.length) && (match l[n.toNat]? with | some e => e.kind == k | none => false))
theorem sis_p (l : List En) (n k : Int) : PCalls Tryz.prog 288 [.d (.sl (l.map encD)), .d (.v (.int .i64 n)), .d (.v (.int .i64 k))] [] fun p s => p = .d (.v (.bool (isE l n k))) ∧ s = [] := by
 obtain ⟨R, hR⟩ : ∃ R, R = isE l n k := ⟨_, rfl⟩
 rw [← hR]
 unfold isE at hR
 by_cases h0 : 0 ≤ n
 ·by_cases h1 : n < l.length
  ·obtain ⟨m, rfl⟩ : ∃ m : Nat, n = m := ⟨n.toNat, by omega⟩
   have hlt : m < l.length := by omega
   have hx := Qal hlt
   rw [Int.toNat_natCast, List.getElem?_eq_getElem hlt] at hR
   have hf : Hid (R = (l[m].kind == k)) := by show _ = _; rw [hR]; simp [h0, h1]
   clear hR
   refine PCalls.enter Tryz.func288 rfl Tryz.ntmps288 (by simp) ?_
   simp only [Qab]
   refine go_ ?_
   refine Jm (by simp) (by simp only [Tryz.results288]; rfl) (by simp [resP, St.box?, PF.get, Jn, TyK.agg, *]; rfl) Nl ?_
   exact ⟨by rw [hf.out]; rfl, rfl⟩
  ·have hf : Hid (R = false) := by show _ = _; rw [hR]; simp [h1]
   clear hR
   refine PCalls.enter Tryz.func288 rfl Tryz.ntmps288 (by simp) ?_
   simp only [Qab]
   refine go_ ?_
   refine Jm (by simp) (by simp only [Tryz.results288]; rfl) (by simp [resP, St.box?, PF.get, Jn, TyK.agg, *]; rfl) Nl ?_
   exact ⟨by rw [hf.out]; rfl, rfl⟩
 ·have hf : Hid (R = false) := by show _ = _; rw [hR]; simp [h0]
  clear hR
  refine PCalls.enter Tryz.func288 rfl Tryz.ntmps288 (by simp) ?_
  simp only [Qab]
  refine go_ ?_
  refine Jm (by simp) (by simp only [Tryz.results288]; rfl) (by simp [resP, St.box?, PF.get, Jn, TyK.agg, *]; rfl) Nl ?_
  exact ⟨by rw [hf.out]; rfl, rfl⟩
theorem ris_p (l : List En) (n k : Int) : PCalls Tryz.prog 93 [.d (.sl (l.map encD)), .d (.v (.int .i64 n)), .d (.v (.int .i64 k))] [] fun p s => p = .d (.v (.bool (isE l n k))) ∧ s = [] := by
 obtain ⟨R, hR⟩ : ∃ R, R = isE l n k := ⟨_, rfl⟩
 rw [← hR]
 unfold isE at hR
 by_cases h0 : 0 ≤ n
 ·by_cases h1 : n < l.length
  ·obtain ⟨m, rfl⟩ : ∃ m : Nat, n = m := ⟨n.toNat, by omega⟩
   have hlt : m < l.length := by omega
   have hx := Qal hlt
   rw [Int.toNat_natCast, List.getElem?_eq_getElem hlt] at hR
   have hf : Hid (R = (l[m].kind == k)) := by show _ = _; rw [hR]; simp [h0, h1]
   clear hR
   refine PCalls.enter Tryz.func93 rfl Tryz.ntmps93 (by simp) ?_
   simp only [Qab]
   refine go_ ?_
   refine Jm (by simp) (by simp only [Tryz.results93]; rfl) (by simp [resP, St.box?, PF.get, Jn, TyK.agg, *]; rfl) Nl ?_
   exact ⟨by rw [hf.out]; rfl, rfl⟩
  ·have hf : Hid (R = false) := by show _ = _; rw [hR]; simp [h1]
   clear hR
   refine PCalls.enter Tryz.func93 rfl Tryz.ntmps93 (by simp) ?_
   simp only [Qab]
   refine go_ ?_
   refine Jm (by simp) (by simp only [Tryz.results93]; rfl) (by simp [resP, St.box?, PF.get, Jn, TyK.agg, *]; rfl) Nl ?_
   exact ⟨by rw [hf.out]; rfl, rfl⟩
 ·have hf : Hid (R = false) := by show _ = _; rw [hR]; simp [h0]
  clear hR
  refine PCalls.enter Tryz.func93 rfl Tryz.ntmps93 (by simp) ?_
  simp only [Qab]
  refine go_ ?_
  refine Jm (by simp) (by simp only [Tryz.results93]; rfl) (by simp [resP, St.box?, PF.get, Jn, TyK.agg, *]; rfl) Nl ?_
  exact ⟨by rw [hf.out]; rfl, rfl⟩
def runW : List Int → Int → Nat → Bool
 | [], _, _ => true
 | n :: l, f, i => (n == IntKind.i64.wrap (f + i)) && runW l f (i + 1)
theorem srun_p (l : List Int) (f : Int) : PCalls Tryz.prog 246 [.d (.sl (l.map encD)), .d (.v (.int .i64 f))] [] fun p s => p = .d (.v (.bool (runW l f 0))) ∧ s = [] := by
 obtain ⟨R, hR⟩ : ∃ R, R = runW l f 0 := ⟨_, rfl⟩
 rw [← hR]
 have HR : Hid (R = runW (l.drop 0) f 0) := hR
 clear hR
 refine PCalls.enter Tryz.func246 rfl Tryz.ntmps246 (by simp) ?_
 simp only [Qab]
 refine Qea (t := 0) (rows := l.map encD) (by simp [PF.get] <;> rfl) rfl fun hml => ?_
 rw [List.length_map] at hml
 unfold maxLen at hml
 refine go_ ?_
 refine Qak (ι := Nat) (fun y => y ≤ l.length ∧ Hid (R = runW (l.drop y) f y)) (fun y => [(1, .d (.v (.int .i64 f))), (7, .d (.sl (l.map encD))), (8, .d (.v (.int .i64 l.length))), (9, .d (.v (.int .i64 (y : Int))))]) (fun _ => []) (fun y => l.length - y) 0 ⟨Nat.zero_le _, HR.out⟩ ?_ ?_ ?_
 ·repeat (first | exact Jt _ | refine Js (by simp [PF.get]; rfl) (by first | rfl | (simp [*]; done) | fail) ?_)
 ·repeat (first | exact List.Sublist.refl _ | exact List.nil_sublist _ | refine List.Sublist.cons_cons _ ?_ | refine List.Sublist.cons _ ?_)
 ·rintro j ⟨hj, hR⟩
  clear HR
  by_cases hlt : j < l.length
  ·have hx := Qal hlt
   have hc : (j : Int) < l.length := by omega
   have hn : (0 : Int) ≤ j := by omega
   have hin := wr64 (n := (j : Int) + 1) (by omega) (by omega)
   have hR2 : Hid (R = ((l[j] == IntKind.i64.wrap (f + j)) && runW (l.drop (j + 1)) f (j + 1))) := by
    rw [show R = _ from hR.out, List.drop_eq_getElem_cons hlt]; rfl
   clear hR
   by_cases he : l[j] = IntKind.i64.wrap (f + j)
   ·have hR3 : Hid (R = runW (l.drop (j + 1)) f (j + 1)) := by show _ = _; rw [show R = _ from hR2.out, beq_iff_eq.2 he]; rfl
    have he2 : (l[j] != IntKind.i64.wrap (f + j)) = false := by rw [he]; simp
    clear hR2 he
    refine go_ ?_
    exact ⟨j + 1, ⟨hlt, hR3⟩, by omega, by repeat (first | exact Jt _ | refine Js (by simp [PF.get]; rfl) (by first | rfl | (simp [*]; done) | fail) ?_), by repeat (first | exact List.Sublist.refl _ | exact List.nil_sublist _ | refine List.Sublist.cons_cons _ ?_ | refine List.Sublist.cons _ ?_)⟩
   ·have hf : Hid (R = false) := by show _ = _; rw [show R = _ from hR2.out, beq_eq_false_iff_ne.2 he]; rfl
    have he2 : (l[j] != IntKind.i64.wrap (f + j)) = true := bne_iff_ne.2 he
    clear hR2 he
    refine go_ ?_
    refine Jm (by simp) (by simp only [Tryz.results246]; rfl) (by simp [resP, St.box?, PF.get, Jn, TyK.agg, *]; rfl) Nl ?_
    exact ⟨by rw [hf.out]; rfl, rfl⟩
  ·have hc : ¬ (j : Int) < l.length := by omega
   have hf : Hid (R = true) := by show _ = _; rw [show R = _ from hR.out, List.drop_of_length_le (by omega)]; rfl
   refine go_ ?_
   refine Jm (by simp) (by simp only [Tryz.results246]; rfl) (by simp [resP, St.box?, PF.get, Jn, TyK.agg, *]; rfl) Nl ?_
   exact ⟨by rw [hf.out]; rfl, rfl⟩
def memE (l : List En) (of_ n k : Int) (i : Nat) : Bool := isE l n k && (match l[n.toNat]? with | some e => e.of_ == of_ && e.place == (i : Int) | none => false)
def Qbm (l : List En) (of_ : Int) : List Int → Int → Nat → Bool
 | [], _, _ => true
 | n :: r, k, i => memE l of_ n k i && Qbm l of_ r k (i + 1)
theorem Qei {l : List En} {n k : Int} (h : isE l n k = true) : ∃ m : Nat, n = m ∧ ∃ hlt : m < l.length, l[m].kind = k := by
 unfold isE at h
 simp only [Bool.and_eq_true, decide_eq_true_eq] at h
 obtain ⟨h0, h1, h2⟩ := h
 obtain ⟨m, rfl⟩ : ∃ m : Nat, n = m := ⟨n.toNat, by omega⟩
 have hlt : m < l.length := by omega
 rw [Int.toNat_natCast, List.getElem?_eq_getElem hlt] at h2
 exact ⟨m, rfl, hlt, beq_iff_eq.1 h2⟩
theorem smembers_p (l : List En) (of_ k : Int) (r : List Int) : PCalls Tryz.prog 247 [.d (.sl (l.map encD)), .d (.v (.int .i64 of_)), .d (.sl (r.map encD)), .d (.v (.int .i64 k))] [] fun p s => p = .d (.v (.bool (Qbm l of_ r k 0))) ∧ s = [] := by
  obtain ⟨R, hR⟩ : ∃ R, R = Qbm l of_ r k 0 := ⟨_, rfl⟩
  rw [← hR]
  have HR : Hid (R = Qbm l of_ (r.drop 0) k 0) := hR
  clear hR
  refine PCalls.enter Tryz.func247 rfl Tryz.ntmps247 (by simp) ?_
  simp only [Qab]
  refine Qea (t := 0 + 1 + 1) (rows := r.map encD) (by simp [PF.get] <;> rfl) rfl fun hml => ?_
  rw [List.length_map] at hml
  unfold maxLen at hml
  refine go_ ?_
  refine Qak (ι := Nat) (fun y => y ≤ r.length ∧ Hid (R = Qbm l of_ (r.drop y) k y)) (fun y => [(0, .d (.sl (l.map encD))), (1, .d (.v (.int .i64 of_))), (3, .d (.v (.int .i64 k))), (11, .d (.sl (r.map encD))), (12, .d (.v (.int .i64 r.length))), (13, .d (.v (.int .i64 (y : Int))))]) (fun _ => []) (fun y => r.length - y) 0 ⟨Nat.zero_le _, HR.out⟩ ?_ ?_ ?_
  · repeat (first | exact Jt _ | refine Js (by simp [PF.get]; rfl) (by first | rfl | (simp [*]; done) | fail) ?_)
  · repeat (first | exact List.Sublist.refl _ | exact List.nil_sublist _ | refine List.Sublist.cons_cons _ ?_ | refine List.Sublist.cons _ ?_)
  · rintro j ⟨hj, hR⟩
    clear HR
    by_cases hlt : j < r.length
    · have hx := Qal hlt
      have hc : (j : Int) < r.length := by omega
      have hn : (0 : Int) ≤ j := by omega
      have hin := wr64 (n := (j : Int) + 1) (by omega) (by omega)
      have hR2 : Hid (R = (memE l of_ r[j] k j && Qbm l of_ (r.drop (j + 1)) k (j + 1))) := by
        rw [show R = _ from hR.out, List.drop_eq_getElem_cons hlt]; rfl
      have hS := Lib.hid (sis_p l r[j] k)
      clear hR
      cases hb : isE l r[j] k with
      | false =>
        have hf : Hid (R = false) := by show _ = _; rw [show R = _ from hR2.out]; unfold memE; rw [hb]; rfl
        rw [hb] at hS
        clear hR2 hb
        refine go_ ?_
        refine Jc (hS.out) ?_
        refine go_ ?_
        refine Jm (by simp) (by simp only [Tryz.results247]; rfl) (by simp [resP, St.box?, PF.get, Jn, TyK.agg, *]; rfl) Nl ?_
        exact ⟨by rw [hf.out]; rfl, rfl⟩
      | true =>
        obtain ⟨q, hq, hql, hqk⟩ := Qei hb
        have hxq := Qal hql
        have hq0 : (0 : Int) ≤ q := by omega
        have hR3 : Hid (R = ((l[q].of_ == of_ && l[q].place == (j : Int)) && Qbm l of_ (r.drop (j + 1)) k (j + 1))) := by
          show _ = _
          rw [show R = _ from hR2.out]
          unfold memE
          rw [hb, hq, Int.toNat_natCast, List.getElem?_eq_getElem hql]; rfl
        rw [hb, hq] at hS
        clear hR2 hb hqk
        refine go_ ?_
        refine Jc (hS.out) ?_
        refine go_ ?_
        by_cases h1 : l[q].of_ = of_
        rotate_left
        · have h1b : (l[q].of_ != of_) = true := bne_iff_ne.2 h1
          have hf : Hid (R = false) := by show _ = _; rw [show R = _ from hR3.out, beq_eq_false_iff_ne.2 h1]; rfl
          clear h1 hR3
          refine go_ ?_
          refine Jm (by simp) (by simp only [Tryz.results247]; rfl) (by simp [resP, St.box?, PF.get, Jn, TyK.agg, *]; rfl) Nl ?_
          exact ⟨by rw [hf.out]; rfl, rfl⟩
        · have h1b : (l[q].of_ != of_) = false := by rw [h1]; simp
          have h1c : (l[q].of_ == of_) = true := beq_iff_eq.2 h1
          clear h1
          refine go_ ?_
          by_cases h2 : l[q].place = (j : Int)
          rotate_left
          · have h2b : (l[q].place != (j : Int)) = true := bne_iff_ne.2 h2
            have hf : Hid (R = false) := by show _ = _; rw [show R = _ from hR3.out, beq_eq_false_iff_ne.2 h2]; simp
            clear h2 hR3
            refine go_ ?_
            refine Jm (by simp) (by simp only [Tryz.results247]; rfl) (by simp [resP, St.box?, PF.get, Jn, TyK.agg, *]; rfl) Nl ?_
            exact ⟨by rw [hf.out]; rfl, rfl⟩
          · have h2b : (l[q].place != (j : Int)) = false := by rw [h2]; simp
            have hR4 : Hid (R = Qbm l of_ (r.drop (j + 1)) k (j + 1)) := by show _ = _; rw [show R = _ from hR3.out, h1c, beq_iff_eq.2 h2]; rfl
            clear h2 hR3
            refine go_ ?_
            exact ⟨j + 1, ⟨hlt, hR4⟩, by omega, by repeat (first | exact Jt _ | refine Js (by simp [PF.get]; rfl) (by first | rfl | (simp [*]; done) | fail) ?_), by repeat (first | exact List.Sublist.refl _ | exact List.nil_sublist _ | refine List.Sublist.cons_cons _ ?_ | refine List.Sublist.cons _ ?_)⟩
    · have hc : ¬ (j : Int) < r.length := by omega
      have hf : Hid (R = true) := by show _ = _; rw [show R = _ from hR.out, List.drop_of_length_le (by omega)]; rfl
      refine go_ ?_
      refine Jm (by simp) (by simp only [Tryz.results247]; rfl) (by simp [resP, St.box?, PF.get, Jn, TyK.agg, *]; rfl) Nl ?_
      exact ⟨by rw [hf.out]; rfl, rfl⟩
def rowW (l : List En) (of_ : Int) : List Int → Int → Int → Nat → Bool
 | [], _, _, _ => true
 | n :: r, f, k, i => ((n == IntKind.i64.wrap (f + i)) && memE l of_ n k i) && rowW l of_ r f k (i + 1)
theorem row_eq (l : List En) (of_ f k : Int) : ∀ (r : List Int) (i : Nat), rowW l of_ r f k i = (runW r f i && Qbm l of_ r k i) := by
  intro r
  induction r with
  | nil => intro i; rfl
  | cons n r ih =>
    intro i
    simp only [rowW, runW, Qbm, ih]
    cases (n == IntKind.i64.wrap (f + i)) <;> cases memE l of_ n k i <;> simp
theorem rrow_p (l : List En) (r : List Int) (f of_ k : Int) : PCalls Tryz.prog 210 [.d (.sl (l.map encD)), .d (.sl (r.map encD)), .d (.v (.int .i64 f)), .d (.v (.int .i64 of_)), .d (.v (.int .i64 k))] [] fun p s => p = .d (.v (.bool (runW r f 0 && Qbm l of_ r k 0))) ∧ s = [] := by
  rw [← row_eq]
  obtain ⟨R, hR⟩ : ∃ R, R = rowW l of_ r f k 0 := ⟨_, rfl⟩
  rw [← hR]
  have HR : Hid (R = rowW l of_ (r.drop 0) f k 0) := hR
  clear hR
  refine PCalls.enter Tryz.func210 rfl Tryz.ntmps210 (by simp) ?_
  simp only [Qab]
  refine Qea (t := 0 + 1) (rows := r.map encD) (by simp [PF.get] <;> rfl) rfl fun hml => ?_
  rw [List.length_map] at hml
  unfold maxLen at hml
  refine go_ ?_
  refine Qak (ι := Nat) (fun y => y ≤ r.length ∧ Hid (R = rowW l of_ (r.drop y) f k y)) (fun y => [(0, .d (.sl (l.map encD))), (1, .d (.sl (r.map encD))), (2, .d (.v (.int .i64 f))), (3, .d (.v (.int .i64 of_))), (4, .d (.v (.int .i64 k))), (11, .d (.v (.int .i64 (y : Int))))]) (fun _ => []) (fun y => r.length - y) 0 ⟨Nat.zero_le _, HR.out⟩ ?_ ?_ ?_
  · repeat (first | exact Jt _ | refine Js (by simp [PF.get]; rfl) (by first | rfl | (simp [*]; done) | fail) ?_)
  · repeat (first | exact List.Sublist.refl _ | exact List.nil_sublist _ | refine List.Sublist.cons_cons _ ?_ | refine List.Sublist.cons _ ?_)
  · rintro j ⟨hj, hR⟩
    clear HR
    by_cases hlt : j < r.length
    · have hx := Qal hlt
      have hc : (j : Int) < r.length := by omega
      have hn : (0 : Int) ≤ j := by omega
      have hin := wr64 (n := (j : Int) + 1) (by omega) (by omega)
      have hR2 : Hid (R = (((r[j] == IntKind.i64.wrap (f + j)) && memE l of_ r[j] k j) && rowW l of_ (r.drop (j + 1)) f k (j + 1))) := by
        rw [show R = _ from hR.out, List.drop_eq_getElem_cons hlt]; rfl
      have hS := Lib.hid (ris_p l r[j] k)
      clear hR
      by_cases he : r[j] = IntKind.i64.wrap (f + j)
      rotate_left
      · have hf : Hid (R = false) := by show _ = _; rw [show R = _ from hR2.out, beq_eq_false_iff_ne.2 he]; rfl
        have he2 : (r[j] != IntKind.i64.wrap (f + j)) = true := bne_iff_ne.2 he
        clear hR2 he
        refine go_ ?_
        refine Jm (by simp) (by simp only [Tryz.results210]; rfl) (by simp [resP, St.box?, PF.get, Jn, TyK.agg, *]; rfl) Nl ?_
        exact ⟨by rw [hf.out]; rfl, rfl⟩
      have he2 : (r[j] != IntKind.i64.wrap (f + j)) = false := by rw [he]; simp
      have hR3 : Hid (R = (memE l of_ r[j] k j && rowW l of_ (r.drop (j + 1)) f k (j + 1))) := by show _ = _; rw [show R = _ from hR2.out, beq_iff_eq.2 he]; rfl
      clear hR2 he
      cases hb : isE l r[j] k with
      | false =>
        have hf : Hid (R = false) := by show _ = _; rw [show R = _ from hR3.out]; unfold memE; rw [hb]; rfl
        rw [hb] at hS
        clear hR3 hb
        refine go_ ?_
        refine Jc (hS.out) ?_
        refine go_ ?_
        refine Jm (by simp) (by simp only [Tryz.results210]; rfl) (by simp [resP, St.box?, PF.get, Jn, TyK.agg, *]; rfl) Nl ?_
        exact ⟨by rw [hf.out]; rfl, rfl⟩
      | true =>
        obtain ⟨q, hq, hql, hqk⟩ := Qei hb
        have hxq := Qal hql
        have hq0 : (0 : Int) ≤ q := by omega
        have hR4 : Hid (R = ((l[q].of_ == of_ && l[q].place == (j : Int)) && rowW l of_ (r.drop (j + 1)) f k (j + 1))) := by
          show _ = _
          rw [show R = _ from hR3.out]
          unfold memE
          rw [hb, hq, Int.toNat_natCast, List.getElem?_eq_getElem hql]; rfl
        rw [hb, hq] at hS
        rw [hq] at he2
        clear hR3 hb hqk
        refine go_ ?_
        refine Jc (hS.out) ?_
        refine go_ ?_
        by_cases h1 : l[q].of_ = of_
        rotate_left
        · have h1b : (l[q].of_ != of_) = true := bne_iff_ne.2 h1
          have hf : Hid (R = false) := by show _ = _; rw [show R = _ from hR4.out, beq_eq_false_iff_ne.2 h1]; rfl
          clear h1 hR4
          refine go_ ?_
          refine Jm (by simp) (by simp only [Tryz.results210]; rfl) (by simp [resP, St.box?, PF.get, Jn, TyK.agg, *]; rfl) Nl ?_
          exact ⟨by rw [hf.out]; rfl, rfl⟩
        · have h1b : (l[q].of_ != of_) = false := by rw [h1]; simp
          have h1c : (l[q].of_ == of_) = true := beq_iff_eq.2 h1
          clear h1
          refine go_ ?_
          by_cases h2 : l[q].place = (j : Int)
          rotate_left
          · have h2b : (l[q].place != (j : Int)) = true := bne_iff_ne.2 h2
            have hf : Hid (R = false) := by show _ = _; rw [show R = _ from hR4.out, beq_eq_false_iff_ne.2 h2]; simp
            clear h2 hR4
            refine go_ ?_
            refine Jm (by simp) (by simp only [Tryz.results210]; rfl) (by simp [resP, St.box?, PF.get, Jn, TyK.agg, *]; rfl) Nl ?_
            exact ⟨by rw [hf.out]; rfl, rfl⟩
          · have h2b : (l[q].place != (j : Int)) = false := by rw [h2]; simp
            have hR5 : Hid (R = rowW l of_ (r.drop (j + 1)) f k (j + 1)) := by show _ = _; rw [show R = _ from hR4.out, h1c, beq_iff_eq.2 h2]; rfl
            clear h2 hR4
            refine go_ ?_
            exact ⟨j + 1, ⟨hlt, hR5⟩, by omega, by repeat (first | exact Jt _ | refine Js (by simp [PF.get]; rfl) (by first | rfl | (simp [*]; done) | fail) ?_), by repeat (first | exact List.Sublist.refl _ | exact List.nil_sublist _ | refine List.Sublist.cons_cons _ ?_ | refine List.Sublist.cons _ ?_)⟩
    · have hc : ¬ (j : Int) < r.length := by omega
      have hf : Hid (R = true) := by show _ = _; rw [show R = _ from hR.out, List.drop_of_length_le (by omega)]; rfl
      refine go_ ?_
      refine Jm (by simp) (by simp only [Tryz.results210]; rfl) (by simp [resP, St.box?, PF.get, Jn, TyK.agg, *]; rfl) Nl ?_
      exact ⟨by rw [hf.out]; rfl, rfl⟩
def Qbv (t : Tm) (e : Int) : Bool := Qdl t 0 e && ((nmT 8 8 t).length : Int) == 0
theorem sclosed_p (t : Tm) (e : Int) : PCalls Tryz.prog 188 [aggD t, .d (.v (.int .i64 e))] [] fun p s => p = .d (.v (.bool (Qbv t e))) ∧ s = [] := by
  have hR := Lib.hid (tRight_p t 0 e)
  have hF := Lib.hid (tfrees_p t)
  have HR := Lib.hid (show Qbv t e = (Qdl t 0 e && ((nmT 8 8 t).length : Int) == 0) from rfl)
  generalize Qbv t e = R at *
  cases hb : Qdl t 0 e with
  | false =>
    rw [hb] at hR HR
    simp only [aggD, Jl, List.map_cons, List.map_nil] at hR ⊢
    clear hb
    refine PCalls.enter Tryz.func188 rfl Tryz.ntmps188 (by simp) ?_
    simp only [Qab]
    refine go_ ?_
    refine Jd ?_
    intro i0 hi0
    refine go_ ?_
    refine Jc (hR.out) ?_
    refine go_ ?_
    refine Jm (by simp) (by simp only [Tryz.results188]; rfl) (by simp [resP, St.box?, PF.get, Jn, TyK.agg, *]; rfl) Nl ?_
    exact ⟨by rw [HR.out]; rfl, rfl⟩
  | true =>
    have hs : Qai t = true := by unfold Qdl at hb; simp only [Bool.and_eq_true] at hb; exact hb.1.1
    have hen : enT 8 8 t = nmT 8 8 t := if_pos hs
    rw [hb] at hR HR
    rw [hen] at hF
    simp only [aggD, Jl, List.map_cons, List.map_nil] at hR hF ⊢
    clear hb hs hen
    refine PCalls.enter Tryz.func188 rfl Tryz.ntmps188 (by simp) ?_
    simp only [Qab]
    refine go_ ?_
    refine Jd ?_
    intro i0 hi0
    refine go_ ?_
    refine Jc (hR.out) ?_
    refine go_ ?_
    refine Jc (hF.out) ?_
    refine go_ ?_
    refine Jm (by simp) (by simp only [Tryz.results188]; rfl) (by simp [resP, St.box?, PF.get, Jn, TyK.agg, *]; rfl) Nl ?_
    exact ⟨by rw [HR.out]; simp [tupP, PV.norm2, PV.norm1, PV.norm0], rfl⟩
theorem Qjk (t : Tm) (e : Int) : PCalls Tryz.prog 24 [aggD t, .d (.v (.int .i64 e))] [] fun p s => p = .d (.v (.bool (Qbv t e))) ∧ s = [] := by
  have hR := Lib.hid (rRight_p t 0 e)
  have HR := Lib.hid (show Qbv t e = (Qdl t 0 e && ((nmT 8 8 t).length : Int) == 0) from rfl)
  generalize Qbv t e = R at *
  cases hb : Qdl t 0 e with
  | false =>
    rw [hb] at hR HR
    simp only [aggD, Jl, List.map_cons, List.map_nil] at hR ⊢
    clear hb
    refine PCalls.enter Tryz.func24 rfl Tryz.ntmps24 (by simp) ?_
    simp only [Qab]
    refine go_ ?_
    refine Jd ?_
    intro i0 hi0
    refine go_ ?_
    refine Jc (hR.out) ?_
    refine go_ ?_
    refine Jm (by simp) (by simp only [Tryz.results24]; rfl) (by simp [resP, St.box?, PF.get, Jn, TyK.agg, *]; rfl) Nl ?_
    exact ⟨by rw [HR.out]; rfl, rfl⟩
  | true =>
    have hs : Qai t = true := by unfold Qdl at hb; simp only [Bool.and_eq_true] at hb; exact hb.1.1
    have hF := Lib.hid (rnumbers_p t 8 8 (by have := (Qbd hs).2.2; omega))
    rw [hb] at hR HR
    simp only [aggD, Jl, List.map_cons, List.map_nil] at hR hF ⊢
    clear hb hs
    refine PCalls.enter Tryz.func24 rfl Tryz.ntmps24 (by simp) ?_
    simp only [Qab]
    refine go_ ?_
    refine Jd ?_
    intro i0 hi0
    refine go_ ?_
    refine Jc (hR.out) ?_
    refine go_ ?_
    refine Jc (hF.out) ?_
    refine go_ ?_
    refine Jm (by simp) (by simp only [Tryz.results24]; rfl) (by simp [resP, St.box?, PF.get, Jn, TyK.agg, *]; rfl) Nl ?_
    exact ⟨by rw [HR.out]; simp [tupP, PV.norm2, PV.norm1, PV.norm0], rfl⟩
def Qfl (args : List Tm) (binders : Int) : Nat → Nat → Bool
 | 0, _ => true
 | n + 1, i => (match args[i]? with | some a => a.kind == 1 && a.num == binders - 1 - (i : Int) | none => false) && Qfl args binders n (i + 1)
def Qbq (t : Tm) (of_ pars more binders : Int) : Bool := (Qbo t).kind == 6 && ((Qbo t).num == of_ && ((((Qbr t).length : Int) == pars + more) && Qfl (Qbr t) binders pars.toNat 0))
theorem sapplied_p (t : Tm) (of_ pars more binders : Int) (hs : Qai t = true) (hp0 : 0 ≤ pars) (hp1 : pars ≤ 24) (hm0 : 0 ≤ more) (hm1 : more ≤ 24) (hb0 : 0 ≤ binders) (hb1 : binders ≤ 100000) :
  PCalls Tryz.prog 250 [aggD t, .d (.v (.int .i64 of_)), .d (.v (.int .i64 pars)), .d (.v (.int .i64 more)), .d (.v (.int .i64 binders))] [] fun p s => p = .d (.v (.bool (Qbq t of_ pars more binders))) ∧ s = [] := by
 have hS := Lib.hid (tSpine_p t hs)
 obtain ⟨R, hR⟩ : ∃ R, R = Qbq t of_ pars more binders := ⟨_, rfl⟩
 rw [← hR]
 unfold Qbq at hR
 generalize Qbo t = h at *
 generalize Qbr t = a at *
 have HR := Lib.hid hR
 obtain ⟨m, rfl⟩ : ∃ m : Nat, pars = m := ⟨pars.toNat, by omega⟩
 have hw1 := wr64 (n := (m : Int) + more) (by omega) (by omega)
 have hw2 := wr64 (n := binders - 1) (by omega) (by omega)
 clear hR hs
 simp only [aggD, Jl, List.map_cons, List.map_nil] at hS ⊢
 refine PCalls.enter Tryz.func250 rfl Tryz.ntmps250 (by simp) ?_
 simp only [Qab]
 refine go_ ?_
 refine Jd ?_
 intro i0 hi0
 refine go_ ?_
 refine Jc (hS.out) ?_
 refine go_ ?_
 refine Je ?_
 intro i1 hi1
 try simp only [Ja, Rh, Rg, Jb] at hi1
 refine go_ ?_
 refine Rd ?_
 refine go_ ?_
 by_cases h1 : h.kind = 6
 rotate_left
 ·have h1b : (h.kind != 6) = true := bne_iff_ne.2 h1
  have hf : Hid (R = false) := by show _ = _; rw [show R = _ from HR.out, beq_eq_false_iff_ne.2 h1]; rfl
  clear h1 HR
  refine go_ ?_
  refine Jm (by simp) (by simp only [Tryz.results250]; rfl) (by simp [resP, St.box?, PF.get, Jn, TyK.agg, *]; rfl) Nl ?_
  exact ⟨by rw [hf.out]; rfl, rfl⟩
 have h1b : (h.kind != 6) = false := by rw [h1]; rfl
 have h1c : (h.kind == 6) = true := beq_iff_eq.2 h1
 clear h1
 refine go_ ?_
 by_cases h2 : h.num = of_
 rotate_left
 ·have h2b : (h.num != of_) = true := bne_iff_ne.2 h2
  have hf : Hid (R = false) := by show _ = _; rw [show R = _ from HR.out, h1c, beq_eq_false_iff_ne.2 h2]; rfl
  clear h2 HR
  refine go_ ?_
  refine Jm (by simp) (by simp only [Tryz.results250]; rfl) (by simp [resP, St.box?, PF.get, Jn, TyK.agg, *]; rfl) Nl ?_
  exact ⟨by rw [hf.out]; rfl, rfl⟩
 have h2b : (h.num != of_) = false := by rw [h2]; simp
 have h2c : (h.num == of_) = true := beq_iff_eq.2 h2
 clear h2
 refine go_ ?_
 by_cases h3 : (a.length : Int) = m + more
 rotate_left
 ·have h3b : ((a.length : Int) != m + more) = true := bne_iff_ne.2 h3
  have hf : Hid (R = false) := by show _ = _; rw [show R = _ from HR.out, h1c, h2c, beq_eq_false_iff_ne.2 h3]; rfl
  clear h3 HR
  refine go_ ?_
  refine Jm (by simp) (by simp only [Tryz.results250]; rfl) (by simp [resP, St.box?, PF.get, Jn, TyK.agg, *]; rfl) Nl ?_
  exact ⟨by rw [hf.out]; rfl, rfl⟩
 have h3b : ((a.length : Int) != m + more) = false := by rw [h3]; simp
 have HR0 : Hid (R = Qfl a binders (m - 0) 0) := by show _ = _; rw [show R = _ from HR.out, h1c, h2c, beq_iff_eq.2 h3, Int.toNat_natCast]; rfl
 have hal : m ≤ a.length := by omega
 clear HR h3
 refine go_ ?_
 refine Qak (ι := Nat) (fun y => y ≤ m ∧ Hid (R = Qfl a binders (m - y) y)) (fun y => [(4, .d (.v (.int .i64 binders))), (12, .d (.sl (a.map encD))), (36, .d (.v (.int .i64 m))), (37, .d (.v (.int .i64 (y : Int))))]) (fun _ => []) (fun y => m - y) 0 ⟨Nat.zero_le _, HR0.out⟩ ?_ ?_ ?_
 ·repeat (first | exact Jt _ | refine Js (by simp [PF.get]; rfl) (by first | rfl | (simp [*]; done) | fail) ?_)
 ·repeat (first | exact List.Sublist.refl _ | exact List.nil_sublist _ | refine List.Sublist.cons_cons _ ?_ | refine List.Sublist.cons _ ?_)
 ·rintro j ⟨hj, hR⟩
  clear HR0
  by_cases hlt : j < m
  ·have hla : j < a.length := by omega
   have hx := Qal hla
   have hc : (j : Int) < m := by omega
   have hn : (0 : Int) ≤ j := by omega
   have hin := wr64 (n := (j : Int) + 1) (by omega) (by omega)
   have hw3 := wr64 (n := binders - 1 - j) (by omega) (by omega)
   have hR2 : Hid (R = ((a[j].kind == 1 && a[j].num == binders - 1 - (j : Int)) && Qfl a binders (m - (j + 1)) (j + 1))) := by
    show _ = _
    rw [show R = _ from hR.out, show m - j = (m - (j + 1)) + 1 by omega]
    simp only [Qfl, List.getElem?_eq_getElem hla]
   clear hR
   by_cases k1 : a[j].kind = 1
   rotate_left
   ·have k1b : (a[j].kind != 1) = true := bne_iff_ne.2 k1
    have hf : Hid (R = false) := by show _ = _; rw [show R = _ from hR2.out, beq_eq_false_iff_ne.2 k1]; rfl
    clear k1 hR2
    refine go_ ?_
    refine Jm (by simp) (by simp only [Tryz.results250]; rfl) (by simp [resP, St.box?, PF.get, Jn, TyK.agg, *]; rfl) Nl ?_
    exact ⟨by rw [hf.out]; rfl, rfl⟩
   have k1b : (a[j].kind != 1) = false := by rw [k1]; rfl
   have k1c : (a[j].kind == 1) = true := beq_iff_eq.2 k1
   clear k1
   refine go_ ?_
   by_cases k2 : a[j].num = binders - 1 - (j : Int)
   rotate_left
   ·have k2b : (a[j].num != binders - 1 - (j : Int)) = true := bne_iff_ne.2 k2
    have hf : Hid (R = false) := by show _ = _; rw [show R = _ from hR2.out, beq_eq_false_iff_ne.2 k2]; simp
    clear k2 hR2
    refine go_ ?_
    refine Jm (by simp) (by simp only [Tryz.results250]; rfl) (by simp [resP, St.box?, PF.get, Jn, TyK.agg, *]; rfl) Nl ?_
    exact ⟨by rw [hf.out]; rfl, rfl⟩
   have k2b : (a[j].num != binders - 1 - (j : Int)) = false := by rw [k2]; simp
   have hR3 : Hid (R = Qfl a binders (m - (j + 1)) (j + 1)) := by show _ = _; rw [show R = _ from hR2.out, k1c, beq_iff_eq.2 k2]; rfl
   clear k2 hR2
   refine go_ ?_
   exact ⟨j + 1, ⟨hlt, hR3⟩, by omega, by repeat (first | exact Jt _ | refine Js (by simp [PF.get]; rfl) (by first | rfl | (simp [*]; done) | fail) ?_), by repeat (first | exact List.Sublist.refl _ | exact List.nil_sublist _ | refine List.Sublist.cons_cons _ ?_ | refine List.Sublist.cons _ ?_)⟩
  ·have hc : ¬ (j : Int) < m := by omega
   have hf : Hid (R = true) := by show _ = _; rw [show R = _ from hR.out, show m - j = 0 by omega]; rfl
   refine go_ ?_
   refine Jm (by simp) (by simp only [Tryz.results250]; rfl) (by simp [resP, St.box?, PF.get, Jn, TyK.agg, *]; rfl) Nl ?_
   exact ⟨by rw [hf.out]; rfl, rfl⟩
theorem rapplied_p (t : Tm) (of_ pars more binders : Int) (hs : Qai t = true) (hp0 : 0 ≤ pars) (hp1 : pars ≤ 24) (hm0 : 0 ≤ more) (hm1 : more ≤ 24) (hb0 : 0 ≤ binders) (hb1 : binders ≤ 100000) :
  PCalls Tryz.prog 157 [aggD t, .d (.v (.int .i64 of_)), .d (.v (.int .i64 pars)), .d (.v (.int .i64 more)), .d (.v (.int .i64 binders))] [] fun p s => p = .d (.v (.bool (Qbq t of_ pars more binders))) ∧ s = [] := by
 have hA := Lib.hid (rArgs_p t (Qbd hs).1 (by have := (Qbd hs).2.2; omega))
 have hH := Lib.hid (rHead_p t (Qbd hs).1)
 obtain ⟨R, hR⟩ : ∃ R, R = Qbq t of_ pars more binders := ⟨_, rfl⟩
 rw [← hR]
 unfold Qbq at hR
 generalize Qbo t = h at *
 generalize Qbr t = a at *
 have HR := Lib.hid hR
 obtain ⟨m, rfl⟩ : ∃ m : Nat, pars = m := ⟨pars.toNat, by omega⟩
 have hw1 := wr64 (n := (m : Int) + more) (by omega) (by omega)
 have hw2 := wr64 (n := binders - 1) (by omega) (by omega)
 clear hR hs
 simp only [aggD, Jl, List.map_cons, List.map_nil] at hA hH ⊢
 refine PCalls.enter Tryz.func157 rfl Tryz.ntmps157 (by simp) ?_
 simp only [Qab]
 refine go_ ?_
 refine Jd ?_
 intro i0 hi0
 refine go_ ?_
 refine Jc (hA.out) ?_
 refine go_ ?_
 refine Jc (hH.out) ?_
 refine go_ ?_
 refine Je ?_
 intro i1 hi1
 try simp only [Ja, Rh, Rg, Jb] at hi1
 refine go_ ?_
 refine Rd ?_
 refine go_ ?_
 by_cases h1 : h.kind = 6
 rotate_left
 ·have h1b : (h.kind != 6) = true := bne_iff_ne.2 h1
  have hf : Hid (R = false) := by show _ = _; rw [show R = _ from HR.out, beq_eq_false_iff_ne.2 h1]; rfl
  clear h1 HR
  refine go_ ?_
  refine Jm (by simp) (by simp only [Tryz.results157]; rfl) (by simp [resP, St.box?, PF.get, Jn, TyK.agg, *]; rfl) Nl ?_
  exact ⟨by rw [hf.out]; rfl, rfl⟩
 have h1b : (h.kind != 6) = false := by rw [h1]; rfl
 have h1c : (h.kind == 6) = true := beq_iff_eq.2 h1
 clear h1
 refine go_ ?_
 by_cases h2 : h.num = of_
 rotate_left
 ·have h2b : (h.num != of_) = true := bne_iff_ne.2 h2
  have hf : Hid (R = false) := by show _ = _; rw [show R = _ from HR.out, h1c, beq_eq_false_iff_ne.2 h2]; rfl
  clear h2 HR
  refine go_ ?_
  refine Jm (by simp) (by simp only [Tryz.results157]; rfl) (by simp [resP, St.box?, PF.get, Jn, TyK.agg, *]; rfl) Nl ?_
  exact ⟨by rw [hf.out]; rfl, rfl⟩
 have h2b : (h.num != of_) = false := by rw [h2]; simp
 have h2c : (h.num == of_) = true := beq_iff_eq.2 h2
 clear h2
 refine go_ ?_
 by_cases h3 : (a.length : Int) = m + more
 rotate_left
 ·have h3b : ((a.length : Int) != m + more) = true := bne_iff_ne.2 h3
  have hf : Hid (R = false) := by show _ = _; rw [show R = _ from HR.out, h1c, h2c, beq_eq_false_iff_ne.2 h3]; rfl
  clear h3 HR
  refine go_ ?_
  refine Jm (by simp) (by simp only [Tryz.results157]; rfl) (by simp [resP, St.box?, PF.get, Jn, TyK.agg, *]; rfl) Nl ?_
  exact ⟨by rw [hf.out]; rfl, rfl⟩
 have h3b : ((a.length : Int) != m + more) = false := by rw [h3]; simp
 have HR0 : Hid (R = Qfl a binders (m - 0) 0) := by show _ = _; rw [show R = _ from HR.out, h1c, h2c, beq_iff_eq.2 h3, Int.toNat_natCast]; rfl
 have hal : m ≤ a.length := by omega
 clear HR h3
 refine go_ ?_
 refine Qak (ι := Nat) (fun y => y ≤ m ∧ Hid (R = Qfl a binders (m - y) y)) (fun y => [(2, .d (.v (.int .i64 m))), (4, .d (.v (.int .i64 binders))), (11, .d (.sl (a.map encD))), (13, .d (.v (.int .i64 (y : Int))))]) (fun _ => []) (fun y => m - y) 0 ⟨Nat.zero_le _, HR0.out⟩ ?_ ?_ ?_
 ·repeat (first | exact Jt _ | refine Js (by simp [PF.get]; rfl) (by first | rfl | (simp [*]; done) | fail) ?_)
 ·repeat (first | exact List.Sublist.refl _ | exact List.nil_sublist _ | refine List.Sublist.cons_cons _ ?_ | refine List.Sublist.cons _ ?_)
 ·rintro j ⟨hj, hR⟩
  clear HR0
  by_cases hlt : j < m
  ·have hla : j < a.length := by omega
   have hx := Qal hla
   have hc : (j : Int) < m := by omega
   have hn : (0 : Int) ≤ j := by omega
   have hin := wr64 (n := (j : Int) + 1) (by omega) (by omega)
   have hw3 := wr64 (n := binders - 1 - j) (by omega) (by omega)
   have hR2 : Hid (R = ((a[j].kind == 1 && a[j].num == binders - 1 - (j : Int)) && Qfl a binders (m - (j + 1)) (j + 1))) := by
    show _ = _
    rw [show R = _ from hR.out, show m - j = (m - (j + 1)) + 1 by omega]
    simp only [Qfl, List.getElem?_eq_getElem hla]
   clear hR
   by_cases k1 : a[j].kind = 1
   rotate_left
   ·have k1b : (a[j].kind != 1) = true := bne_iff_ne.2 k1
    have hf : Hid (R = false) := by show _ = _; rw [show R = _ from hR2.out, beq_eq_false_iff_ne.2 k1]; rfl
    clear k1 hR2
    refine go_ ?_
    refine Jm (by simp) (by simp only [Tryz.results157]; rfl) (by simp [resP, St.box?, PF.get, Jn, TyK.agg, *]; rfl) Nl ?_
    exact ⟨by rw [hf.out]; rfl, rfl⟩
   have k1b : (a[j].kind != 1) = false := by rw [k1]; rfl
   have k1c : (a[j].kind == 1) = true := beq_iff_eq.2 k1
   clear k1
   refine go_ ?_
   by_cases k2 : a[j].num = binders - 1 - (j : Int)
   rotate_left
   ·have k2b : (a[j].num != binders - 1 - (j : Int)) = true := bne_iff_ne.2 k2
    have hf : Hid (R = false) := by show _ = _; rw [show R = _ from hR2.out, beq_eq_false_iff_ne.2 k2]; simp
    clear k2 hR2
    refine go_ ?_
    refine Jm (by simp) (by simp only [Tryz.results157]; rfl) (by simp [resP, St.box?, PF.get, Jn, TyK.agg, *]; rfl) Nl ?_
    exact ⟨by rw [hf.out]; rfl, rfl⟩
   have k2b : (a[j].num != binders - 1 - (j : Int)) = false := by rw [k2]; simp
   have hR3 : Hid (R = Qfl a binders (m - (j + 1)) (j + 1)) := by show _ = _; rw [show R = _ from hR2.out, k1c, beq_iff_eq.2 k2]; rfl
   clear k2 hR2
   refine go_ ?_
   exact ⟨j + 1, ⟨hlt, hR3⟩, by omega, by repeat (first | exact Jt _ | refine Js (by simp [PF.get]; rfl) (by first | rfl | (simp [*]; done) | fail) ?_), by repeat (first | exact List.Sublist.refl _ | exact List.nil_sublist _ | refine List.Sublist.cons_cons _ ?_ | refine List.Sublist.cons _ ?_)⟩
  ·have hc : ¬ (j : Int) < m := by omega
   have hf : Hid (R = true) := by show _ = _; rw [show R = _ from hR.out, show m - j = 0 by omega]; rfl
   refine go_ ?_
   refine Jm (by simp) (by simp only [Tryz.results157]; rfl) (by simp [resP, St.box?, PF.get, Jn, TyK.agg, *]; rfl) Nl ?_
   exact ⟨by rw [hf.out]; rfl, rfl⟩
def ownsL (l : List En) (x : En) : List Int := match l[x.of_.toNat]? with | some d => if x.kind = 4 then d.fields else d.cons | none => []
def Qhm (l : List En) (n : Int) : Int := match l[n.toNat]? with | some d => d.pars | none => 0
def Qec (own : List Int) (p i : Int) : Bool := decide (0 ≤ p) && (match own[p.toNat]? with | some n => n == i | none => false)
def Qdg (l : List En) (x : En) (i : Int) : Bool :=
 isE l x.of_ 1 && (decide (x.of_ < i) && ((x.pars == Qhm l x.of_) && (Qbp x.body && ((x.inds == 0) && ((x.level == 0) && (((x.cons.length : Int) == 0) && (((x.fields.length : Int) == 0) && Qec (ownsL l x) x.place i)))))))
def EnOk (e : En) : Prop := e.cons.length ≤ 4000000000000000000 ∧ e.fields.length ≤ 4000000000000000000
theorem sowned_p (l : List En) (i : Nat) (hi : i < l.length) (ho : ∀ e ∈ l, EnOk e) : PCalls Tryz.prog 249 [.d (.sl (l.map encD)), .d (.v (.int .i64 i))] [] fun p s => p = .d (.v (.bool (Qdg l l[i] i))) ∧ s = [] := by
  obtain ⟨R, hR⟩ : ∃ R, R = Qdg l l[i] i := ⟨_, rfl⟩
  rw [← hR]
  have hok := ho _ (List.getElem_mem hi)
  have hn : (0 : Int) ≤ i := by omega
  have hx3 : l[i]? = some l[i] := List.getElem?_eq_getElem hi
  unfold Qdg at hR
  generalize l[i] = x at *
  have hS := Lib.hid (sis_p l x.of_ 1)
  have hN := Lib.hid (snone_p x.body)
  simp only [aggD, Jl, List.map_cons, List.map_nil] at hN
  have HR := Lib.hid hR
  clear hR hi ho
  cases hb : isE l x.of_ 1 with
  | false =>
    have hf : Hid (R = false) := by show _ = _; rw [show R = _ from HR.out, hb]; rfl
    rw [hb] at hS
    clear HR hb hN hok
    refine PCalls.enter Tryz.func249 rfl Tryz.ntmps249 (by simp) ?_
    simp only [Qab]
    refine go_ ?_
    refine Je ?_
    intro i0 hi0
    refine go_ ?_
    refine Rd ?_
    refine go_ ?_
    refine Qan [(0, .a), (1, .a), (2, .b), (3, .a), (4, .a), (5, .a), (6, .a), (7, .b), (8, .a), (9, .a), (10, .a), (11, .a), (12, .a), (13, .b), (14, .a), (15, .a), (16, .b), (17, .a), (18, .a), (19, .a), (20, .a), (21, .a), (22, .a), (23, .a), (24, .b), (25, .a), (26, .a), (27, .a), (28, .a), (29, .a), (30, .b), (31, .a), (32, .a), (33, .a), (34, .a), (35, .b), (36, .a), (37, .a), (38, .a), (39, .a), (40, .b), (41, .a), (42, .a), (43, .b), (44, .a), (45, .a), (46, .a), (47, .a)] (by kernel_rfl) (by rfl) (by kernel_rfl) ?_
    refine go_ ?_
    refine Qaa (hS.out) ?_
    refine go_ ?_
    refine Jm (by simp) (by simp only [Tryz.results249]; rfl) (by simp [resP, St.box?, PF.get, Jn, TyK.agg, *]; rfl) Nl ?_
    exact ⟨by rw [hf.out]; rfl, rfl⟩
  | true =>
    obtain ⟨q, hq, hql, hqk⟩ := Qei hb
    have hd : l[q]? = some l[q] := List.getElem?_eq_getElem hql
    have hq0 : (0 : Int) ≤ q := by omega
    rw [hb, hq] at hS
    unfold Qhm ownsL at HR
    rw [hb, hq, Int.toNat_natCast, hd] at HR
    simp only [Bool.true_and] at HR
    generalize l[q] = d at *
    have hol := hok
    have hws := wr64 (n := (x.cons.length : Int) + x.fields.length) (by have := hok.1; have := hok.2; omega) (by have := hok.1; have := hok.2; omega)
    clear hb hqk hql hok hol
    refine PCalls.enter Tryz.func249 rfl Tryz.ntmps249 (by simp) ?_
    simp only [Qab]
    refine go_ ?_
    refine Je ?_
    intro i0 hi0
    refine go_ ?_
    refine Rd ?_
    refine go_ ?_
    refine Qan [(0, .a), (1, .a), (2, .b), (3, .a), (4, .a), (5, .a), (6, .a), (7, .b), (8, .a), (9, .a), (10, .a), (11, .a), (12, .a), (13, .b), (14, .a), (15, .a), (16, .b), (17, .a), (18, .a), (19, .a), (20, .a), (21, .a), (22, .a), (23, .a), (24, .b), (25, .a), (26, .a), (27, .a), (28, .a), (29, .a), (30, .b), (31, .a), (32, .a), (33, .a), (34, .a), (35, .b), (36, .a), (37, .a), (38, .a), (39, .a), (40, .b), (41, .a), (42, .a), (43, .b), (44, .a), (45, .a), (46, .a), (47, .a)] (by kernel_rfl) (by rfl) (by kernel_rfl) ?_
    refine go_ ?_
    refine Qaa (hS.out) ?_
    refine go_ ?_
    by_cases h1 : q < i
    rotate_left
    · have h1b : i ≤ q := by omega
      have hf : Hid (R = false) := by show _ = _; rw [show R = _ from HR.out]; simp [h1]
      clear HR h1
      refine go_ ?_
      refine Jm (by simp) (by simp only [Tryz.results249]; rfl) (by simp [resP, St.box?, PF.get, Jn, TyK.agg, *]; rfl) Nl ?_
      exact ⟨by rw [hf.out]; rfl, rfl⟩
    have h1b : ¬ i ≤ q := by omega
    have h1c : decide ((q : Int) < i) = true := decide_eq_true (by omega)
    clear h1
    refine go_ ?_
    by_cases h2 : x.pars = d.pars
    rotate_left
    · have h2b : (x.pars != d.pars) = true := bne_iff_ne.2 h2
      have hf : Hid (R = false) := by show _ = _; rw [show R = _ from HR.out]; simp [h2]
      clear HR h2
      refine go_ ?_
      refine Jm (by simp) (by simp only [Tryz.results249]; rfl) (by simp [resP, St.box?, PF.get, Jn, TyK.agg, *]; rfl) Nl ?_
      exact ⟨by rw [hf.out]; rfl, rfl⟩
    have h2b : (x.pars != d.pars) = false := by rw [h2]; simp
    have h2c : (x.pars == d.pars) = true := beq_iff_eq.2 h2
    clear h2
    refine go_ ?_
    refine Qas (hN.out) ?_
    refine go_ ?_
    cases h3 : Qbp x.body with
    | false =>
      have hf : Hid (R = false) := by show _ = _; rw [show R = _ from HR.out, h3]; simp
      clear HR
      refine go_ ?_
      refine Jm (by simp) (by simp only [Tryz.results249]; rfl) (by simp [resP, St.box?, PF.get, Jn, TyK.agg, *]; rfl) Nl ?_
      exact ⟨by rw [hf.out]; rfl, rfl⟩
    | true =>
    refine go_ ?_
    by_cases h4 : x.inds = 0
    rotate_left
    · have h4b : (x.inds != 0) = true := bne_iff_ne.2 h4
      have hf : Hid (R = false) := by show _ = _; rw [show R = _ from HR.out]; simp [h4]
      clear HR h4
      refine go_ ?_
      refine Jm (by simp) (by simp only [Tryz.results249]; rfl) (by simp [resP, St.box?, PF.get, Jn, TyK.agg, *]; rfl) Nl ?_
      exact ⟨by rw [hf.out]; rfl, rfl⟩
    have h4b : (x.inds != 0) = false := by rw [h4]; rfl
    have h4c : (x.inds == 0) = true := beq_iff_eq.2 h4
    clear h4
    refine go_ ?_
    by_cases h5 : x.level = 0
    rotate_left
    · have h5b : (x.level != 0) = true := bne_iff_ne.2 h5
      have hf : Hid (R = false) := by show _ = _; rw [show R = _ from HR.out]; simp [h5]
      clear HR h5
      refine go_ ?_
      refine Jm (by simp) (by simp only [Tryz.results249]; rfl) (by simp [resP, St.box?, PF.get, Jn, TyK.agg, *]; rfl) Nl ?_
      exact ⟨by rw [hf.out]; rfl, rfl⟩
    have h5b : (x.level != 0) = false := by rw [h5]; rfl
    have h5c : (x.level == 0) = true := beq_iff_eq.2 h5
    clear h5
    refine go_ ?_
    by_cases h6 : (x.cons.length : Int) + x.fields.length = 0
    rotate_left
    · have h6b : (0 : Int) < (x.cons.length : Int) + x.fields.length := by omega
      have hf : Hid (R = false) := by
        show _ = _
        rw [show R = _ from HR.out]
        by_cases e : x.cons.length = 0
        · have e2 : ((x.fields.length : Int) == 0) = false := beq_eq_false_iff_ne.2 (by omega)
          rw [e2]; simp
        · have e2 : ((x.cons.length : Int) == 0) = false := beq_eq_false_iff_ne.2 (by omega)
          rw [e2]; simp
      clear HR h6
      refine go_ ?_
      refine Jm (by simp) (by simp only [Tryz.results249]; rfl) (by simp [resP, St.box?, PF.get, Jn, TyK.agg, *]; rfl) Nl ?_
      exact ⟨by rw [hf.out]; rfl, rfl⟩
    have h6b : ¬ (0 : Int) < (x.cons.length : Int) + x.fields.length := by omega
    have hc0 : ((x.cons.length : Int) == 0) = true := beq_iff_eq.2 (by omega)
    have hf0 : ((x.fields.length : Int) == 0) = true := beq_iff_eq.2 (by omega)
    have HR2 : Hid (R = Qec (if x.kind = 4 then d.fields else d.cons) x.place i) := by
      show _ = _
      rw [show R = _ from HR.out, h1c, h2c, h3, h4c, h5c, hc0, hf0]; rfl
    clear HR h6 hc0 hf0
    by_cases hk : x.kind = 4
    · have hkb : (x.kind == 4) = true := beq_iff_eq.2 hk
      have HP : Hid (R = Qec d.fields x.place i) := by show _ = _; rw [show R = _ from HR2.out, if_pos hk]
      clear HR2 hk
      refine go_ ?_
      by_cases p0 : 0 ≤ x.place
      rotate_left
      · have hf : Hid (R = false) := by show _ = _; rw [show R = _ from HP.out]; unfold Qec; simp [p0]
        clear HP
        refine go_ ?_
        refine Jm (by simp) (by simp only [Tryz.results249]; rfl) (by simp [resP, St.box?, PF.get, Jn, TyK.agg, *]; rfl) Nl ?_
        exact ⟨by rw [hf.out]; rfl, rfl⟩
      by_cases p1 : x.place < (d.fields).length
      rotate_left
      · have hf : Hid (R = false) := by
          show _ = _
          rw [show R = _ from HP.out]
          unfold Qec
          rw [List.getElem?_eq_none (by omega)]; simp
        clear HP
        refine go_ ?_
        refine Jm (by simp) (by simp only [Tryz.results249]; rfl) (by simp [resP, St.box?, PF.get, Jn, TyK.agg, *]; rfl) Nl ?_
        exact ⟨by rw [hf.out]; rfl, rfl⟩
      obtain ⟨m, hm⟩ : ∃ m : Nat, x.place = m := ⟨x.place.toNat, by omega⟩
      have hml : m < (d.fields).length := by omega
      have hmx : (d.fields)[m]? = some (d.fields)[m] := List.getElem?_eq_getElem hml
      have hm0 : (0 : Int) ≤ m := by omega
      have hm1 : (m : Int) < (d.fields).length := by omega
      have hf : Hid (R = ((d.fields)[m] == (i : Int))) := by
        show _ = _
        rw [show R = _ from HP.out]
        unfold Qec
        rw [hm, Int.toNat_natCast, hmx]; simp
      clear HP p0 p1
      generalize (d.fields)[m] = z at *
      clear hml
      refine go_ ?_
      refine Jm (by simp) (by simp only [Tryz.results249]; rfl) (by simp [resP, St.box?, PF.get, Jn, TyK.agg, *]; rfl) Nl ?_
      exact ⟨by rw [hf.out]; rfl, rfl⟩
    · have hkb : (x.kind == 4) = false := beq_eq_false_iff_ne.2 hk
      have HP : Hid (R = Qec d.cons x.place i) := by show _ = _; rw [show R = _ from HR2.out, if_neg hk]
      clear HR2 hk
      refine go_ ?_
      by_cases p0 : 0 ≤ x.place
      rotate_left
      · have hf : Hid (R = false) := by show _ = _; rw [show R = _ from HP.out]; unfold Qec; simp [p0]
        clear HP
        refine go_ ?_
        refine Jm (by simp) (by simp only [Tryz.results249]; rfl) (by simp [resP, St.box?, PF.get, Jn, TyK.agg, *]; rfl) Nl ?_
        exact ⟨by rw [hf.out]; rfl, rfl⟩
      by_cases p1 : x.place < (d.cons).length
      rotate_left
      · have hf : Hid (R = false) := by
          show _ = _
          rw [show R = _ from HP.out]
          unfold Qec
          rw [List.getElem?_eq_none (by omega)]; simp
        clear HP
        refine go_ ?_
        refine Jm (by simp) (by simp only [Tryz.results249]; rfl) (by simp [resP, St.box?, PF.get, Jn, TyK.agg, *]; rfl) Nl ?_
        exact ⟨by rw [hf.out]; rfl, rfl⟩
      obtain ⟨m, hm⟩ : ∃ m : Nat, x.place = m := ⟨x.place.toNat, by omega⟩
      have hml : m < (d.cons).length := by omega
      have hmx : (d.cons)[m]? = some (d.cons)[m] := List.getElem?_eq_getElem hml
      have hm0 : (0 : Int) ≤ m := by omega
      have hm1 : (m : Int) < (d.cons).length := by omega
      have hf : Hid (R = ((d.cons)[m] == (i : Int))) := by
        show _ = _
        rw [show R = _ from HP.out]
        unfold Qec
        rw [hm, Int.toNat_natCast, hmx]; simp
      clear HP p0 p1
      generalize (d.cons)[m] = z at *
      clear hml
      refine go_ ?_
      refine Jm (by simp) (by simp only [Tryz.results249]; rfl) (by simp [resP, St.box?, PF.get, Jn, TyK.agg, *]; rfl) Nl ?_
      exact ⟨by rw [hf.out]; rfl, rfl⟩
end Go.Proofs.YtdklpbefbamchaaGreat
