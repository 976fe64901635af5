import Derived.Test.YtpaifjlikgnlfaaBE
import Derived.Test.YtpaifjlikgnlfaaBE2
import Derived.Test.YtpaifjlikgnlfaaBA3
import Derived.Test.YtpaifjlikgnlfaaProg
import Derived.Test.YtpaifjlikgnlfaaBN
import Derived.Maps.OwnOps
set_option linter.unusedSimpArgs false
set_option linter.unusedVariables false
set_option maxHeartbeats 16000000
set_option maxRecDepth 100000
namespace Go.Proofs.Ytpaifjlikgnlfaa
open Go.RowKit
structure En where
 kind : Int
 name : ByteArray
 ty : Tm
 body : Tm
 of_ : Int
 place : Int
 pars : Int
 inds : Int
 level : Int
 cons : List Int
 fields : List Int
instance : Enc En := ⟨15, fun e => [.v (.int .i64 e.kind), .str e.name] ++ tmD e.ty ++ tmD e.body ++ [.v (.int .i64 e.of_), .v (.int .i64 e.place), .v (.int .i64 e.pars), .v (.int .i64 e.inds), .v (.int .i64 e.level), .s 1 (e.cons.map Enc.enc), .s 1 (e.fields.map Enc.enc)], fun e => by simp [tmD_len]⟩
instance : EncOk En := ⟨fun e d hd => by
 simp only [Enc.enc, List.mem_append, List.mem_cons, List.not_mem_nil, or_false] at hd
 rcases hd with (((rfl | rfl) | hd) | hd) | rfl | rfl | rfl | rfl | rfl | rfl | rfl
 ·exact .v trivial
 ·exact .str
 ·exact tmD_ok _ d hd
 ·exact tmD_ok _ d hd
 ·exact .v trivial
 ·exact .v trivial
 ·exact .v trivial
 ·exact .v trivial
 ·exact .v trivial
 ·exact Qee (α := Int) (by decide) e.cons
 ·exact Qee (α := Int) (by decide) e.fields⟩
@[simp] theorem encD_en (e : En) : encD e = [.v (.int .i64 e.kind), .v (.string e.name), .v (.int .i64 e.ty.kind), .v (.int .i64 e.ty.num), .sl (e.ty.sub.map encD), .v (.int .i64 e.body.kind), .v (.int .i64 e.body.num), .sl (e.body.sub.map encD), .v (.int .i64 e.of_), .v (.int .i64 e.place), .v (.int .i64 e.pars), .v (.int .i64 e.inds), .v (.int .i64 e.level), .sl (e.cons.map encD), .sl (e.fields.map encD)] := by
 have h1 := Jl e.ty
 have h2 := Jl e.body
 unfold encD at h1 h2 ⊢
 simp only [Enc.enc] at h1 h2 ⊢
 rw [Qcr, Qcr, Qcr, h1, h2]
 simp only [dtL, dtD, Qcq, List.map_map]
 rfl
def noneT (t : Tm) : Bool := t.kind == 0 && (t.num == 0 && ((t.sub.length : Int) == 0))
theorem snone_p (t : Tm) : PCalls Try.prog 55 [aggD t] [] fun p s => p = .d (.v (.bool (noneT t))) ∧ s = [] := by
 obtain ⟨R, hR⟩ : ∃ R, R = noneT t := ⟨_, rfl⟩
 rw [← hR]
 unfold noneT at hR
 have HR := Hh hR
 clear hR
 simp only [aggD, Jl, List.map_cons, List.map_nil]
 refine pG Try.func55 Try.ntmps55 ?_
 refine Jd ?_
 intro i0 hi0
 refine go_ ?_
 rcases Bool.eq_false_or_eq_true (t.kind == 0) with h1 | h1
 rotate_left
 ·refine go_ ?_
  refine rT Try.results55 ?_
  exact ⟨by rw [HR.out]; simp [tupP, PV.norm2, PV.norm1, PV.norm0, *], rfl⟩
 refine go_ ?_
 rcases Bool.eq_false_or_eq_true (t.num == 0) with h2 | h2
 rotate_left
 ·refine go_ ?_
  refine rT Try.results55 ?_
  exact ⟨by rw [HR.out]; simp [tupP, PV.norm2, PV.norm1, PV.norm0, *], rfl⟩
 refine go_ ?_
 refine rT Try.results55 ?_
 exact ⟨by rw [HR.out]; simp [tupP, PV.norm2, PV.norm1, PV.norm0, *], rfl⟩
def isE (l : List En) (n k : Int) : Bool := decide (0 ≤ n) && (decide (n < l.length) && (match l[n.toNat]? with | some e => e.kind == k | none => false))
theorem sis_p (l : List En) (n k : Int) : PCalls Try.prog 21 [.d (.sl (l.map encD)), .d (.v (.int .i64 n)), .d (.v (.int .i64 k))] [] fun p s => p = .d (.v (.bool (isE l n k))) ∧ s = [] := by
 obtain ⟨R, hR⟩ : ∃ R, R = isE l n k := ⟨_, rfl⟩
 rw [← hR]
 unfold isE at hR
 by_cases h0 : 0 ≤ n
 ·by_cases h1 : n < l.length
  ·obtain ⟨m, rfl⟩ : ∃ m : Nat, n = m := ⟨n.toNat, by omega⟩
   have hlt : m < l.length := by omega
   have hx := Qam hlt
   rw [Int.toNat_natCast, List.getElem?_eq_getElem hlt] at hR
   have hf : Hid (R = (l[m].kind == k)) := by show _ = _; rw [hR]; simp [h0, h1]
   clear hR
   refine pG Try.func21 Try.ntmps21 ?_
   refine rT Try.results21 ?_
   exact ⟨by rw [hf.out]; rfl, rfl⟩
  ·have hf : Hid (R = false) := by show _ = _; rw [hR]; simp [h1]
   clear hR
   refine pG Try.func21 Try.ntmps21 ?_
   refine rT Try.results21 ?_
   exact ⟨by rw [hf.out]; rfl, rfl⟩
 ·have hf : Hid (R = false) := by show _ = _; rw [hR]; simp [h0]
  clear hR
  refine pG Try.func21 Try.ntmps21 ?_
  refine rT Try.results21 ?_
  exact ⟨by rw [hf.out]; rfl, rfl⟩
def runW : List Int → Int → Nat → Bool
 | [], _, _ => true
 | n :: l, f, i => (n == IntKind.i64.wrap (f + i)) && runW l f (i + 1)
theorem srun_p (l : List Int) (f : Int) : PCalls Try.prog 56 [.d (.sl (l.map encD)), .d (.v (.int .i64 f))] [] fun p s => p = .d (.v (.bool (runW l f 0))) ∧ s = [] := by
 obtain ⟨R, hR⟩ : ∃ R, R = runW l f 0 := ⟨_, rfl⟩
 rw [← hR]
 have HR : Hid (R = runW (l.drop 0) f 0) := hR
 clear hR
 refine pE Try.func56 Try.ntmps56 ?_
 refine Qcu (t := 0) (rows := l.map encD) (by simp [PF.get] <;> rfl) rfl fun hml => ?_
 rw [List.length_map] at hml
 unfold maxLen at hml
 refine go_ ?_
 refine Qaf (ι := Nat) (fun y => y ≤ l.length ∧ Hid (R = runW (l.drop y) f y)) (fun y => [(1, .d (.v (.int .i64 f))), (7, .d (.sl (l.map encD))), (8, .d (.v (.int .i64 l.length))), (9, .d (.v (.int .i64 (y : Int))))]) (fun _ => []) (fun y => l.length - y) 0 ⟨Nat.zero_le _, HR.out⟩ ?_ ?_ ?_
 ·exact sU
 ·exact dR
 ·rintro j ⟨hj, hR⟩
  clear HR
  by_cases hlt : j < l.length
  ·have hx := Qam hlt
   have hc : (j : Int) < l.length := by omega
   have hn : (0 : Int) ≤ j := by omega
   have hin := wr64 (n := (j : Int) + 1) (by omega) (by omega)
   have hR2 : Hid (R = ((l[j] == IntKind.i64.wrap (f + j)) && runW (l.drop (j + 1)) f (j + 1))) := by
    rw [show R = _ from hR.out, List.drop_eq_getElem_cons hlt]; rfl
   clear hR
   by_cases he : l[j] = IntKind.i64.wrap (f + j)
   ·have hR3 : Hid (R = runW (l.drop (j + 1)) f (j + 1)) := by show _ = _; rw [show R = _ from hR2.out, beq_iff_eq.2 he]; rfl
    have he2 : (l[j] != IntKind.i64.wrap (f + j)) = false := by rw [he]; simp
    clear hR2 he
    refine go_ ?_
    exact ⟨j + 1, ⟨hlt, hR3⟩, by omega, sU, dR⟩
   ·have hf : Hid (R = false) := by show _ = _; rw [show R = _ from hR2.out, beq_eq_false_iff_ne.2 he]; rfl
    have he2 : (l[j] != IntKind.i64.wrap (f + j)) = true := bne_iff_ne.2 he
    clear hR2 he
    refine go_ ?_
    refine rT Try.results56 ?_
    exact ⟨by rw [hf.out]; rfl, rfl⟩
  ·have hc : ¬ (j : Int) < l.length := by omega
   have hf : Hid (R = true) := by show _ = _; rw [show R = _ from hR.out, List.drop_of_length_le (by omega)]; rfl
   refine go_ ?_
   refine rT Try.results56 ?_
   exact ⟨by rw [hf.out]; rfl, rfl⟩
def memE (l : List En) (of_ n k : Int) (i : Nat) : Bool := isE l n k && (match l[n.toNat]? with | some e => e.of_ == of_ && e.place == (i : Int) | none => false)
def Qay (l : List En) (of_ : Int) : List Int → Int → Nat → Bool
 | [], _, _ => true
 | n :: r, k, i => memE l of_ n k i && Qay l of_ r k (i + 1)
theorem isE_get {l : List En} {n k : Int} (h : isE l n k = true) : ∃ m : Nat, n = m ∧ ∃ hlt : m < l.length, l[m].kind = k := by
 unfold isE at h
 simp only [Bool.and_eq_true, decide_eq_true_eq] at h
 obtain ⟨h0, h1, h2⟩ := h
 obtain ⟨m, rfl⟩ : ∃ m : Nat, n = m := ⟨n.toNat, by omega⟩
 have hlt : m < l.length := by omega
 rw [Int.toNat_natCast, List.getElem?_eq_getElem hlt] at h2
 exact ⟨m, rfl, hlt, beq_iff_eq.1 h2⟩
theorem smembers_p (l : List En) (of_ k : Int) (r : List Int) : PCalls Try.prog 57 [.d (.sl (l.map encD)), .d (.v (.int .i64 of_)), .d (.sl (r.map encD)), .d (.v (.int .i64 k))] [] fun p s => p = .d (.v (.bool (Qay l of_ r k 0))) ∧ s = [] := by
  obtain ⟨R, hR⟩ : ∃ R, R = Qay l of_ r k 0 := ⟨_, rfl⟩
  rw [← hR]
  have HR : Hid (R = Qay l of_ (r.drop 0) k 0) := hR
  clear hR
  refine pE Try.func57 Try.ntmps57 ?_
  refine Qcu (t := 0 + 1 + 1) (rows := r.map encD) (by simp [PF.get] <;> rfl) rfl fun hml => ?_
  rw [List.length_map] at hml
  unfold maxLen at hml
  refine go_ ?_
  refine Qaf (ι := Nat) (fun y => y ≤ r.length ∧ Hid (R = Qay l of_ (r.drop y) k y)) (fun y => [(0, .d (.sl (l.map encD))), (1, .d (.v (.int .i64 of_))), (3, .d (.v (.int .i64 k))), (11, .d (.sl (r.map encD))), (12, .d (.v (.int .i64 r.length))), (13, .d (.v (.int .i64 (y : Int))))]) (fun _ => []) (fun y => r.length - y) 0 ⟨Nat.zero_le _, HR.out⟩ ?_ ?_ ?_
  · exact sU
  · exact dR
  · rintro j ⟨hj, hR⟩
    clear HR
    by_cases hlt : j < r.length
    · have hx := Qam hlt
      have hc : (j : Int) < r.length := by omega
      have hn : (0 : Int) ≤ j := by omega
      have hin := wr64 (n := (j : Int) + 1) (by omega) (by omega)
      have hR2 : Hid (R = (memE l of_ r[j] k j && Qay l of_ (r.drop (j + 1)) k (j + 1))) := by
        rw [show R = _ from hR.out, List.drop_eq_getElem_cons hlt]; rfl
      have hS := Hh (sis_p l r[j] k)
      clear hR
      cases hb : isE l r[j] k with
      | false =>
        have hf : Hid (R = false) := by show _ = _; rw [show R = _ from hR2.out]; unfold memE; rw [hb]; rfl
        rw [hb] at hS
        clear hR2 hb
        refine go_ ?_
        refine Qaa (hS.out) ?_
        refine rT Try.results57 ?_
        exact ⟨by rw [hf.out]; rfl, rfl⟩
      | true =>
        obtain ⟨q, hq, hql, hqk⟩ := isE_get hb
        have hxq := Qam hql
        have hq0 : (0 : Int) ≤ q := by omega
        have hR3 : Hid (R = ((l[q].of_ == of_ && l[q].place == (j : Int)) && Qay l of_ (r.drop (j + 1)) k (j + 1))) := by
          show _ = _
          rw [show R = _ from hR2.out]
          unfold memE
          rw [hb, hq, Int.toNat_natCast, List.getElem?_eq_getElem hql]; rfl
        rw [hb, hq] at hS
        clear hR2 hb hqk
        refine go_ ?_
        refine Qaa (hS.out) ?_
        by_cases h1 : l[q].of_ = of_
        rotate_left
        · have h1b : (l[q].of_ != of_) = true := bne_iff_ne.2 h1
          have hf : Hid (R = false) := by show _ = _; rw [show R = _ from hR3.out, beq_eq_false_iff_ne.2 h1]; rfl
          clear h1 hR3
          refine go_ ?_
          refine rT Try.results57 ?_
          exact ⟨by rw [hf.out]; rfl, rfl⟩
        · have h1b : (l[q].of_ != of_) = false := by rw [h1]; simp
          have h1c : (l[q].of_ == of_) = true := beq_iff_eq.2 h1
          clear h1
          refine go_ ?_
          by_cases h2 : l[q].place = (j : Int)
          rotate_left
          · have h2b : (l[q].place != (j : Int)) = true := bne_iff_ne.2 h2
            have hf : Hid (R = false) := by show _ = _; rw [show R = _ from hR3.out, beq_eq_false_iff_ne.2 h2]; simp
            clear h2 hR3
            refine go_ ?_
            refine rT Try.results57 ?_
            exact ⟨by rw [hf.out]; rfl, rfl⟩
          · have h2b : (l[q].place != (j : Int)) = false := by rw [h2]; simp
            have hR4 : Hid (R = Qay l of_ (r.drop (j + 1)) k (j + 1)) := by show _ = _; rw [show R = _ from hR3.out, h1c, beq_iff_eq.2 h2]; rfl
            clear h2 hR3
            refine go_ ?_
            exact ⟨j + 1, ⟨hlt, hR4⟩, by omega, sU, dR⟩
    · have hc : ¬ (j : Int) < r.length := by omega
      have hf : Hid (R = true) := by show _ = _; rw [show R = _ from hR.out, List.drop_of_length_le (by omega)]; rfl
      refine go_ ?_
      refine rT Try.results57 ?_
      exact ⟨by rw [hf.out]; rfl, rfl⟩
def Qcv (t : Tm) (e : Int) : Bool := Qeg t 0 e && ((nmT 8 8 t).length : Int) == 0
theorem sclosed_p (t : Tm) (e : Int) : PCalls Try.prog 36 [aggD t, .d (.v (.int .i64 e))] [] fun p s => p = .d (.v (.bool (Qcv t e))) ∧ s = [] := by
  have hR := Hh (tRight_p t 0 e)
  have hF := Hh (tfrees_p t)
  have HR := Hh (show Qcv t e = (Qeg t 0 e && ((nmT 8 8 t).length : Int) == 0) from rfl)
  generalize Qcv t e = R at *
  cases hb : Qeg t 0 e with
  | false =>
    rw [hb] at hR HR
    simp only [aggD, Jl, List.map_cons, List.map_nil] at hR ⊢
    clear hb
    refine pG Try.func36 Try.ntmps36 ?_
    refine Jd ?_
    intro i0 hi0
    refine go_ ?_
    refine Qaa (hR.out) ?_
    refine rT Try.results36 ?_
    exact ⟨by rw [HR.out]; rfl, rfl⟩
  | true =>
    have hs : Qad t = true := by unfold Qeg at hb; simp only [Bool.and_eq_true] at hb; exact hb.1.1
    have hen : enT 8 8 t = nmT 8 8 t := if_pos hs
    rw [hb] at hR HR
    rw [hen] at hF
    simp only [aggD, Jl, List.map_cons, List.map_nil] at hR hF ⊢
    clear hb hs hen
    refine pG Try.func36 Try.ntmps36 ?_
    refine Jd ?_
    intro i0 hi0
    refine go_ ?_
    refine Qaa (hR.out) ?_
    refine Qaa (hF.out) ?_
    refine rT Try.results36 ?_
    exact ⟨by rw [HR.out]; simp [tupP, PV.norm2, PV.norm1, PV.norm0], rfl⟩
def varsA (args : List Tm) (binders : Int) : Nat → Nat → Bool
 | 0, _ => true
 | n + 1, i => (match args[i]? with | some a => a.kind == 1 && a.num == binders - 1 - (i : Int) | none => false) && varsA args binders n (i + 1)
def Qax (t : Tm) (of_ pars more binders : Int) : Bool := (headT t).kind == 6 && ((headT t).num == of_ && ((((Qby t).length : Int) == pars + more) && varsA (Qby t) binders pars.toNat 0))
theorem Qfq (t : Tm) (of_ pars more binders : Int) (hs : Qad t = true) (hp0 : 0 ≤ pars) (hp1 : pars ≤ 24) (hm0 : 0 ≤ more) (hm1 : more ≤ 24) (hb0 : 0 ≤ binders) (hb1 : binders ≤ 100000) :
  PCalls Try.prog 48 [aggD t, .d (.v (.int .i64 of_)), .d (.v (.int .i64 pars)), .d (.v (.int .i64 more)), .d (.v (.int .i64 binders))] [] fun p s => p = .d (.v (.bool (Qax t of_ pars more binders))) ∧ s = [] := by
 have hS := Hh (tSpine_p t hs)
 obtain ⟨R, hR⟩ : ∃ R, R = Qax t of_ pars more binders := ⟨_, rfl⟩
 rw [← hR]
 unfold Qax at hR
 generalize headT t = h at *
 generalize Qby t = a at *
 have HR := Hh hR
 obtain ⟨m, rfl⟩ : ∃ m : Nat, pars = m := ⟨pars.toNat, by omega⟩
 have hw1 := wr64 (n := (m : Int) + more) (by omega) (by omega)
 have hw2 := wr64 (n := binders - 1) (by omega) (by omega)
 clear hR hs
 simp only [aggD, Jl, List.map_cons, List.map_nil] at hS ⊢
 refine pG Try.func48 Try.ntmps48 ?_
 refine Jd ?_
 intro i0 hi0
 refine go_ ?_
 refine Qaa (hS.out) ?_
 refine Je ?_
 intro i1 hi1
 try simp only [Ja, Rh, Rg, Jb] at hi1
 refine go_ ?_
 refine Qab ?_
 by_cases h1 : h.kind = 6
 rotate_left
 ·have h1b : (h.kind != 6) = true := bne_iff_ne.2 h1
  have hf : Hid (R = false) := by show _ = _; rw [show R = _ from HR.out, beq_eq_false_iff_ne.2 h1]; rfl
  clear h1 HR
  refine go_ ?_
  refine rT Try.results48 ?_
  exact ⟨by rw [hf.out]; rfl, rfl⟩
 have h1b : (h.kind != 6) = false := by rw [h1]; rfl
 have h1c : (h.kind == 6) = true := beq_iff_eq.2 h1
 clear h1
 refine go_ ?_
 by_cases h2 : h.num = of_
 rotate_left
 ·have h2b : (h.num != of_) = true := bne_iff_ne.2 h2
  have hf : Hid (R = false) := by show _ = _; rw [show R = _ from HR.out, h1c, beq_eq_false_iff_ne.2 h2]; rfl
  clear h2 HR
  refine go_ ?_
  refine rT Try.results48 ?_
  exact ⟨by rw [hf.out]; rfl, rfl⟩
 have h2b : (h.num != of_) = false := by rw [h2]; simp
 have h2c : (h.num == of_) = true := beq_iff_eq.2 h2
 clear h2
 refine go_ ?_
 by_cases h3 : (a.length : Int) = m + more
 rotate_left
 ·have h3b : ((a.length : Int) != m + more) = true := bne_iff_ne.2 h3
  have hf : Hid (R = false) := by show _ = _; rw [show R = _ from HR.out, h1c, h2c, beq_eq_false_iff_ne.2 h3]; rfl
  clear h3 HR
  refine go_ ?_
  refine rT Try.results48 ?_
  exact ⟨by rw [hf.out]; rfl, rfl⟩
 have h3b : ((a.length : Int) != m + more) = false := by rw [h3]; simp
 have HR0 : Hid (R = varsA a binders (m - 0) 0) := by show _ = _; rw [show R = _ from HR.out, h1c, h2c, beq_iff_eq.2 h3, Int.toNat_natCast]; rfl
 have hal : m ≤ a.length := by omega
 clear HR h3
 refine go_ ?_
 refine Qaf (ι := Nat) (fun y => y ≤ m ∧ Hid (R = varsA a binders (m - y) y)) (fun y => [(4, .d (.v (.int .i64 binders))), (12, .d (.sl (a.map encD))), (36, .d (.v (.int .i64 m))), (37, .d (.v (.int .i64 (y : Int))))]) (fun _ => []) (fun y => m - y) 0 ⟨Nat.zero_le _, HR0.out⟩ ?_ ?_ ?_
 ·exact sU
 ·exact dR
 ·rintro j ⟨hj, hR⟩
  clear HR0
  by_cases hlt : j < m
  ·have hla : j < a.length := by omega
   have hx := Qam hla
   have hc : (j : Int) < m := by omega
   have hn : (0 : Int) ≤ j := by omega
   have hin := wr64 (n := (j : Int) + 1) (by omega) (by omega)
   have hw3 := wr64 (n := binders - 1 - j) (by omega) (by omega)
   have hR2 : Hid (R = ((a[j].kind == 1 && a[j].num == binders - 1 - (j : Int)) && varsA a binders (m - (j + 1)) (j + 1))) := by
    show _ = _
    rw [show R = _ from hR.out, show m - j = (m - (j + 1)) + 1 by omega]
    simp only [varsA, List.getElem?_eq_getElem hla]
   clear hR
   by_cases k1 : a[j].kind = 1
   rotate_left
   ·have k1b : (a[j].kind != 1) = true := bne_iff_ne.2 k1
    have hf : Hid (R = false) := by show _ = _; rw [show R = _ from hR2.out, beq_eq_false_iff_ne.2 k1]; rfl
    clear k1 hR2
    refine go_ ?_
    refine rT Try.results48 ?_
    exact ⟨by rw [hf.out]; rfl, rfl⟩
   have k1b : (a[j].kind != 1) = false := by rw [k1]; rfl
   have k1c : (a[j].kind == 1) = true := beq_iff_eq.2 k1
   clear k1
   refine go_ ?_
   by_cases k2 : a[j].num = binders - 1 - (j : Int)
   rotate_left
   ·have k2b : (a[j].num != binders - 1 - (j : Int)) = true := bne_iff_ne.2 k2
    have hf : Hid (R = false) := by show _ = _; rw [show R = _ from hR2.out, beq_eq_false_iff_ne.2 k2]; simp
    clear k2 hR2
    refine go_ ?_
    refine rT Try.results48 ?_
    exact ⟨by rw [hf.out]; rfl, rfl⟩
   have k2b : (a[j].num != binders - 1 - (j : Int)) = false := by rw [k2]; simp
   have hR3 : Hid (R = varsA a binders (m - (j + 1)) (j + 1)) := by show _ = _; rw [show R = _ from hR2.out, k1c, beq_iff_eq.2 k2]; rfl
   clear k2 hR2
   refine go_ ?_
   exact ⟨j + 1, ⟨hlt, hR3⟩, by omega, sU, dR⟩
  ·have hc : ¬ (j : Int) < m := by omega
   have hf : Hid (R = true) := by show _ = _; rw [show R = _ from hR.out, show m - j = 0 by omega]; rfl
   refine go_ ?_
   refine rT Try.results48 ?_
   exact ⟨by rw [hf.out]; rfl, rfl⟩
def ownsL (l : List En) (x : En) : List Int := match l[x.of_.toNat]? with | some d => if x.kind = 4 then d.fields else d.cons | none => []
def parsOf (l : List En) (n : Int) : Int := match l[n.toNat]? with | some d => d.pars | none => 0
def Qdm (own : List Int) (p i : Int) : Bool := decide (0 ≤ p) && (match own[p.toNat]? with | some n => n == i | none => false)
def Qdx (l : List En) (x : En) (i : Int) : Bool :=
 isE l x.of_ 1 && (decide (x.of_ < i) && ((x.pars == parsOf l x.of_) && (noneT x.body && ((x.inds == 0) && ((x.level == 0) && (((x.cons.length : Int) == 0) && (((x.fields.length : Int) == 0) && Qdm (ownsL l x) x.place i)))))))
def EnOk (e : En) : Prop := e.cons.length ≤ 17592186044416 ∧ e.fields.length ≤ 17592186044416
theorem sowned_p (l : List En) (i : Nat) (hi : i < l.length) (ho : ∀ e ∈ l, EnOk e) : PCalls Try.prog 58 [.d (.sl (l.map encD)), .d (.v (.int .i64 i))] [] fun p s => p = .d (.v (.bool (Qdx l l[i] i))) ∧ s = [] := by
  obtain ⟨R, hR⟩ : ∃ R, R = Qdx l l[i] i := ⟨_, rfl⟩
  rw [← hR]
  have hok := ho _ (List.getElem_mem hi)
  have hn : (0 : Int) ≤ i := by omega
  have hx3 : l[i]? = some l[i] := List.getElem?_eq_getElem hi
  unfold Qdx at hR
  generalize l[i] = x at *
  have hS := Hh (sis_p l x.of_ 1)
  have hN := Hh (snone_p x.body)
  simp only [aggD, Jl, List.map_cons, List.map_nil] at hN
  have HR := Hh hR
  clear hR hi ho
  cases hb : isE l x.of_ 1 with
  | false =>
    have hf : Hid (R = false) := by show _ = _; rw [show R = _ from HR.out, hb]; rfl
    rw [hb] at hS
    clear HR hb hN hok
    refine pG Try.func58 Try.ntmps58 ?_
    refine Je ?_
    intro i0 hi0
    refine go_ ?_
    refine Qab ?_
    refine Qas [(0, .a), (1, .a), (2, .b), (3, .a), (4, .a), (5, .a), (6, .a), (7, .b), (8, .a), (9, .a), (10, .a), (11, .a), (12, .a), (13, .b), (14, .a), (15, .a), (16, .b), (17, .a), (18, .a), (19, .a), (20, .a), (21, .a), (22, .a), (23, .a), (24, .b), (25, .a), (26, .a), (27, .a), (28, .a), (29, .a), (30, .b), (31, .a), (32, .a), (33, .a), (34, .a), (35, .b), (36, .a), (37, .a), (38, .a), (39, .a), (40, .b), (41, .a), (42, .a), (43, .b), (44, .a), (45, .a), (46, .a), (47, .a)] (by kernel_rfl) (by rfl) (by kernel_rfl) ?_
    refine go_ ?_
    refine Qaw (hS.out) ?_
    refine go_ ?_
    refine rT Try.results58 ?_
    exact ⟨by rw [hf.out]; rfl, rfl⟩
  | true =>
    obtain ⟨q, hq, hql, hqk⟩ := isE_get hb
    have hd : l[q]? = some l[q] := List.getElem?_eq_getElem hql
    have hq0 : (0 : Int) ≤ q := by omega
    rw [hb, hq] at hS
    unfold parsOf ownsL at HR
    rw [hb, hq, Int.toNat_natCast, hd] at HR
    simp only [Bool.true_and] at HR
    generalize l[q] = d at *
    have hol := hok
    have hws := wr64 (n := (x.cons.length : Int) + x.fields.length) (by have := hok.1; have := hok.2; omega) (by have := hok.1; have := hok.2; omega)
    clear hb hqk hql hok hol
    refine pG Try.func58 Try.ntmps58 ?_
    refine Je ?_
    intro i0 hi0
    refine go_ ?_
    refine Qab ?_
    refine Qas [(0, .a), (1, .a), (2, .b), (3, .a), (4, .a), (5, .a), (6, .a), (7, .b), (8, .a), (9, .a), (10, .a), (11, .a), (12, .a), (13, .b), (14, .a), (15, .a), (16, .b), (17, .a), (18, .a), (19, .a), (20, .a), (21, .a), (22, .a), (23, .a), (24, .b), (25, .a), (26, .a), (27, .a), (28, .a), (29, .a), (30, .b), (31, .a), (32, .a), (33, .a), (34, .a), (35, .b), (36, .a), (37, .a), (38, .a), (39, .a), (40, .b), (41, .a), (42, .a), (43, .b), (44, .a), (45, .a), (46, .a), (47, .a)] (by kernel_rfl) (by rfl) (by kernel_rfl) ?_
    refine go_ ?_
    refine Qaw (hS.out) ?_
    refine go_ ?_
    by_cases h1 : q < i
    rotate_left
    · have h1b : i ≤ q := by omega
      have hf : Hid (R = false) := by show _ = _; rw [show R = _ from HR.out]; simp [h1]
      clear HR h1
      refine go_ ?_
      refine rT Try.results58 ?_
      exact ⟨by rw [hf.out]; rfl, rfl⟩
    have h1b : ¬ i ≤ q := by omega
    have h1c : decide ((q : Int) < i) = true := decide_eq_true (by omega)
    clear h1
    refine go_ ?_
    by_cases h2 : x.pars = d.pars
    rotate_left
    · have h2b : (x.pars != d.pars) = true := bne_iff_ne.2 h2
      have hf : Hid (R = false) := by show _ = _; rw [show R = _ from HR.out]; simp [h2]
      clear HR h2
      refine go_ ?_
      refine rT Try.results58 ?_
      exact ⟨by rw [hf.out]; rfl, rfl⟩
    have h2b : (x.pars != d.pars) = false := by rw [h2]; simp
    have h2c : (x.pars == d.pars) = true := beq_iff_eq.2 h2
    clear h2
    refine go_ ?_
    refine Qeb (hN.out) ?_
    refine go_ ?_
    cases h3 : noneT x.body with
    | false =>
      have hf : Hid (R = false) := by show _ = _; rw [show R = _ from HR.out, h3]; simp
      clear HR
      refine go_ ?_
      refine rT Try.results58 ?_
      exact ⟨by rw [hf.out]; rfl, rfl⟩
    | true =>
    refine go_ ?_
    by_cases h4 : x.inds = 0
    rotate_left
    · have h4b : (x.inds != 0) = true := bne_iff_ne.2 h4
      have hf : Hid (R = false) := by show _ = _; rw [show R = _ from HR.out]; simp [h4]
      clear HR h4
      refine go_ ?_
      refine rT Try.results58 ?_
      exact ⟨by rw [hf.out]; rfl, rfl⟩
    have h4b : (x.inds != 0) = false := by rw [h4]; rfl
    have h4c : (x.inds == 0) = true := beq_iff_eq.2 h4
    clear h4
    refine go_ ?_
    by_cases h5 : x.level = 0
    rotate_left
    · have h5b : (x.level != 0) = true := bne_iff_ne.2 h5
      have hf : Hid (R = false) := by show _ = _; rw [show R = _ from HR.out]; simp [h5]
      clear HR h5
      refine go_ ?_
      refine rT Try.results58 ?_
      exact ⟨by rw [hf.out]; rfl, rfl⟩
    have h5b : (x.level != 0) = false := by rw [h5]; rfl
    have h5c : (x.level == 0) = true := beq_iff_eq.2 h5
    clear h5
    refine go_ ?_
    by_cases h6 : (x.cons.length : Int) + x.fields.length = 0
    rotate_left
    · have h6b : (0 : Int) < (x.cons.length : Int) + x.fields.length := by omega
      have hf : Hid (R = false) := by
        show _ = _
        rw [show R = _ from HR.out]
        by_cases e : x.cons.length = 0
        · have e2 : ((x.fields.length : Int) == 0) = false := beq_eq_false_iff_ne.2 (by omega)
          rw [e2]; simp
        · have e2 : ((x.cons.length : Int) == 0) = false := beq_eq_false_iff_ne.2 (by omega)
          rw [e2]; simp
      clear HR h6
      refine go_ ?_
      refine rT Try.results58 ?_
      exact ⟨by rw [hf.out]; rfl, rfl⟩
    have h6b : ¬ (0 : Int) < (x.cons.length : Int) + x.fields.length := by omega
    have hc0 : ((x.cons.length : Int) == 0) = true := beq_iff_eq.2 (by omega)
    have hf0 : ((x.fields.length : Int) == 0) = true := beq_iff_eq.2 (by omega)
    have HR2 : Hid (R = Qdm (if x.kind = 4 then d.fields else d.cons) x.place i) := by
      show _ = _
      rw [show R = _ from HR.out, h1c, h2c, h3, h4c, h5c, hc0, hf0]; rfl
    clear HR h6 hc0 hf0
    by_cases hk : x.kind = 4
    · have hkb : (x.kind == 4) = true := beq_iff_eq.2 hk
      have HP : Hid (R = Qdm d.fields x.place i) := by show _ = _; rw [show R = _ from HR2.out, if_pos hk]
      clear HR2 hk
      refine go_ ?_
      by_cases p0 : 0 ≤ x.place
      rotate_left
      · have hf : Hid (R = false) := by show _ = _; rw [show R = _ from HP.out]; unfold Qdm; simp [p0]
        clear HP
        refine go_ ?_
        refine rT Try.results58 ?_
        exact ⟨by rw [hf.out]; rfl, rfl⟩
      by_cases p1 : x.place < (d.fields).length
      rotate_left
      · have hf : Hid (R = false) := by
          show _ = _
          rw [show R = _ from HP.out]
          unfold Qdm
          rw [List.getElem?_eq_none (by omega)]; simp
        clear HP
        refine go_ ?_
        refine rT Try.results58 ?_
        exact ⟨by rw [hf.out]; rfl, rfl⟩
      obtain ⟨m, hm⟩ : ∃ m : Nat, x.place = m := ⟨x.place.toNat, by omega⟩
      have hml : m < (d.fields).length := by omega
      have hmx : (d.fields)[m]? = some (d.fields)[m] := List.getElem?_eq_getElem hml
      have hm0 : (0 : Int) ≤ m := by omega
      have hm1 : (m : Int) < (d.fields).length := by omega
      have hf : Hid (R = ((d.fields)[m] == (i : Int))) := by
        show _ = _
        rw [show R = _ from HP.out]
        unfold Qdm
        rw [hm, Int.toNat_natCast, hmx]; simp
      clear HP p0 p1
      generalize (d.fields)[m] = z at *
      clear hml
      refine go_ ?_
      refine rT Try.results58 ?_
      exact ⟨by rw [hf.out]; rfl, rfl⟩
    · have hkb : (x.kind == 4) = false := beq_eq_false_iff_ne.2 hk
      have HP : Hid (R = Qdm d.cons x.place i) := by show _ = _; rw [show R = _ from HR2.out, if_neg hk]
      clear HR2 hk
      refine go_ ?_
      by_cases p0 : 0 ≤ x.place
      rotate_left
      · have hf : Hid (R = false) := by show _ = _; rw [show R = _ from HP.out]; unfold Qdm; simp [p0]
        clear HP
        refine go_ ?_
        refine rT Try.results58 ?_
        exact ⟨by rw [hf.out]; rfl, rfl⟩
      by_cases p1 : x.place < (d.cons).length
      rotate_left
      · have hf : Hid (R = false) := by
          show _ = _
          rw [show R = _ from HP.out]
          unfold Qdm
          rw [List.getElem?_eq_none (by omega)]; simp
        clear HP
        refine go_ ?_
        refine rT Try.results58 ?_
        exact ⟨by rw [hf.out]; rfl, rfl⟩
      obtain ⟨m, hm⟩ : ∃ m : Nat, x.place = m := ⟨x.place.toNat, by omega⟩
      have hml : m < (d.cons).length := by omega
      have hmx : (d.cons)[m]? = some (d.cons)[m] := List.getElem?_eq_getElem hml
      have hm0 : (0 : Int) ≤ m := by omega
      have hm1 : (m : Int) < (d.cons).length := by omega
      have hf : Hid (R = ((d.cons)[m] == (i : Int))) := by
        show _ = _
        rw [show R = _ from HP.out]
        unfold Qdm
        rw [hm, Int.toNat_natCast, hmx]; simp
      clear HP p0 p1
      generalize (d.cons)[m] = z at *
      clear hml
      refine go_ ?_
      refine rT Try.results58 ?_
      exact ⟨by rw [hf.out]; rfl, rfl⟩
section
variable {H : Type} {enc : TypeId × Value → H} {w : World} {base : Nat} {spare : Nat → Bool} {held : Bool}
theorem opn_en (n : Nat) : OpnB En EnOk enc w base spare held 33 n := by
  intro cs x h hw
  obtain ⟨xs, m, rfl, rfl, hlen, hxs, hf⟩ := DataW.trod_struct Try.underlying33 h
  have c0 : Try.prog.cellsOf 33 = 15 := by kernel_rfl
  have c1 : Try.prog.cellsOf 3 = 1 := by kernel_rfl
  have c2 : Try.prog.cellsOf 9 = 1 := by kernel_rfl
  have c3 : Try.prog.cellsOf 30 = 3 := by kernel_rfl
  have c4 : Try.prog.cellsOf 31 = 1 := by kernel_rfl
  have b1 : Try.prog.bytesOf 3 = 8 := by kernel_rfl
  rw [c0] at hlen
  match xs, hxs with
  | [x0, x1, x2, x3, x4, x5, x6, x7, x8, x9, x10], _ =>
    have h0 : DataW.trod enc Try.prog w base spare held m 3 ((cs.drop 0).take (Try.prog.cellsOf 3)) = some x0 := hf 0 _ rfl
    have h1 : DataW.trod enc Try.prog w base spare held m 9 ((cs.drop 1).take (Try.prog.cellsOf 9)) = some x1 := hf 1 _ rfl
    have h2 : DataW.trod enc Try.prog w base spare held m 30 ((cs.drop 2).take (Try.prog.cellsOf 30)) = some x2 := hf 2 _ rfl
    have h3 : DataW.trod enc Try.prog w base spare held m 30 ((cs.drop 5).take (Try.prog.cellsOf 30)) = some x3 := hf 3 _ rfl
    have h4 : DataW.trod enc Try.prog w base spare held m 3 ((cs.drop 8).take (Try.prog.cellsOf 3)) = some x4 := hf 4 _ rfl
    have h5 : DataW.trod enc Try.prog w base spare held m 3 ((cs.drop 9).take (Try.prog.cellsOf 3)) = some x5 := hf 5 _ rfl
    have h6 : DataW.trod enc Try.prog w base spare held m 3 ((cs.drop 10).take (Try.prog.cellsOf 3)) = some x6 := hf 6 _ rfl
    have h7 : DataW.trod enc Try.prog w base spare held m 3 ((cs.drop 11).take (Try.prog.cellsOf 3)) = some x7 := hf 7 _ rfl
    have h8 : DataW.trod enc Try.prog w base spare held m 3 ((cs.drop 12).take (Try.prog.cellsOf 3)) = some x8 := hf 8 _ rfl
    have h9 : DataW.trod enc Try.prog w base spare held m 31 ((cs.drop 13).take (Try.prog.cellsOf 31)) = some x9 := hf 9 _ rfl
    have h10 : DataW.trod enc Try.prog w base spare held m 31 ((cs.drop 14).take (Try.prog.cellsOf 31)) = some x10 := hf 10 _ rfl
    have w9 : Wl Try.prog 31 x9.1 := wl_part Try.underlying33 hw (j := 9) rfl rfl
    have w10 : Wl Try.prog 31 x10.1 := wl_part Try.underlying33 hw (j := 10) rfl rfl
    rw [c1] at h0 h4 h5 h6 h7 h8
    rw [c2] at h1
    rw [c3] at h2 h3
    rw [c4] at h9 h10
    obtain ⟨k, hk⟩ := Qcx (by kernel_rfl) m _ _ h0
    obtain ⟨s, hs⟩ := opn_str (by kernel_rfl) m _ _ h1
    obtain ⟨t, ht⟩ := opn_tm m _ _ h2
    obtain ⟨u, hu⟩ := opn_tm m _ _ h3
    obtain ⟨a4, ha4⟩ := Qcx (by kernel_rfl) m _ _ h4
    obtain ⟨a5, ha5⟩ := Qcx (by kernel_rfl) m _ _ h5
    obtain ⟨a6, ha6⟩ := Qcx (by kernel_rfl) m _ _ h6
    obtain ⟨a7, ha7⟩ := Qcx (by kernel_rfl) m _ _ h7
    obtain ⟨a8, ha8⟩ := Qcx (by kernel_rfl) m _ _ h8
    obtain ⟨v9, l9, e9, r9, -, z9⟩ := Qfn (α := Int) Try.underlying31 c1 (by decide) (fun m' _ => (Qcx (by kernel_rfl) m').toB) h9 w9
    obtain ⟨v10, l10, e10, r10, -, z10⟩ := Qfn (α := Int) Try.underlying31 c1 (by decide) (fun m' _ => (Qcx (by kernel_rfl) m').toB) h10 w10
    have q9 : RepF (fun _ => True) w [.s 1 (l9.map Enc.enc)] ((cs.drop 13).take 1) := by rw [e9]; exact repF_slice r9
    have q10 : RepF (fun _ => True) w [.s 1 (l10.map Enc.enc)] ((cs.drop 14).take 1) := by rw [e10]; exact repF_slice r10
    rw [b1] at z9 z10
    unfold reachBytes at z9 z10
    refine ⟨⟨k, s, t, u, a4, a5, a6, a7, a8, l9, l10⟩, ?_, by show l9.length ≤ _; omega, by show l10.length ≤ _; omega⟩
    have hall := Qcy (o := 0) (n := 1) (m := 1) (ds := [.v (.int .i64 k)]) rfl hk (Qcy (o := 1) (n := 1) (m := 2) (ds := [.str s]) rfl hs (Qcy (o := 2) (n := 3) (m := 5) (ds := tmD t) rfl ht (Qcy (o := 5) (n := 3) (m := 8) (ds := tmD u) rfl hu (Qcy (o := 8) (n := 1) (m := 9) (ds := [.v (.int .i64 a4)]) rfl ha4 (Qcy (o := 9) (n := 1) (m := 10) (ds := [.v (.int .i64 a5)]) rfl ha5 (Qcy (o := 10) (n := 1) (m := 11) (ds := [.v (.int .i64 a6)]) rfl ha6 (Qcy (o := 11) (n := 1) (m := 12) (ds := [.v (.int .i64 a7)]) rfl ha7 (Qcy (o := 12) (n := 1) (m := 13) (ds := [.v (.int .i64 a8)]) rfl ha8 (Qcy (o := 13) (n := 1) (m := 14) (ds := [.s 1 (l9.map Enc.enc)]) rfl q9 (repF_tail q10 (by omega)))))))))))
    unfold Rep
    simp only [Enc.enc, List.append_assoc]
    exact hall
def EnS (w : World) (v : Value) (l : List En) : Prop := RepS (fun _ => True) w v l ∧ ∀ e ∈ l, EnOk e
theorem open_ens {n : Nat} {cs : List Value} {x : DataW H × List MemPlace} (h : DataW.trod enc Try.prog w base spare held n 22 cs = some x) (hw : Wl Try.prog 22 x.1) : ∃ (a : Option Addr) (len cap : Nat) (ts : List En), cs = [.slice a len cap] ∧ EnS w (.slice a len cap) ts := by
 obtain ⟨v, l, rfl, hl, hok, _⟩ := Qfn (α := En) Try.underlying22 (by kernel_rfl) (by decide) (fun m' _ => opn_en m') h hw
 obtain ⟨a, c, rfl, _⟩ := hl.shape
 exact ⟨a, _, c, l, rfl, hl, hok⟩
end
theorem clone_tm_p (l : List Tm) (hl : l.length ≤ 100000) : PCalls Try.prog 33 [.d (.sl (l.map encD))] [] fun p s => p = .d (.sl (l.map encD)) ∧ s = [] := by
 refine pG Try.func33 Try.ntmps33 ?_
 refine Qfa (fun h0 => ?_) ?_
 ·have hnil : l = [] := List.map_eq_nil_iff.1 h0
  subst hnil
  clear h0
  refine go_ ?_
  refine rT Try.results33 ?_
  exact ⟨rfl, rfl⟩
 ·refine go_ ?_
  refine Qfh ?_ (by decide) eD (by simp; rfl) (by rfl) (by simp; rfl) (by rfl) (by decide)
  intro g hg
  refine go_ ?_
  refine Qbq l.length ?_ ?_ ?_ ?_
  ·simp
  ·simp
  ·exact Qdj _
  refine go_ ?_
  refine rT Try.results33 ?_
  exact ⟨rfl, rfl⟩
theorem clone_int_p (l : List Int) (hl : l.length ≤ 100000) : PCalls Try.prog 20 [.d (.sl (l.map encD))] [] fun p s => p = .d (.sl (l.map encD)) ∧ s = [] := by
 refine pG Try.func20 Try.ntmps20 ?_
 refine Qfa (fun h0 => ?_) ?_
 ·have hnil : l = [] := List.map_eq_nil_iff.1 h0
  subst hnil
  clear h0
  refine go_ ?_
  refine rT Try.results20 ?_
  exact ⟨rfl, rfl⟩
 ·refine go_ ?_
  refine Qfh ?_ (by decide) eD (by simp; rfl) (by rfl) (by simp; rfl) (by rfl) (by decide)
  intro g hg
  refine go_ ?_
  refine Qbq l.length ?_ ?_ ?_ ?_
  ·simp
  ·simp
  ·exact rows1 _
  refine go_ ?_
  refine rT Try.results20 ?_
  exact ⟨rfl, rfl⟩
def Qbb (a b : Tm) : Bool := (Qad a == Qad b) && (!Qad a || ceqT a b)
theorem Qgr (a b : Tm) : PCalls Try.prog 17 [aggD a, aggD b] [] fun p s => p = .d (.v (.bool (Qbb a b))) ∧ s = [] := by
 have hA := Hh (rshaped_p a)
 have hB := Hh (rshaped_p b)
 have hE := Hh (requal_p a b)
 have HR := Hh (show Qbb a b = ((Qad a == Qad b) && (!Qad a || ceqT a b)) from rfl)
 generalize Qbb a b = R at *
 generalize ceqT a b = e at *
 generalize Qad a = sa at *
 generalize Qad b = sb at *
 simp only [aggD, Jl, List.map_cons, List.map_nil] at hA hB hE ⊢
 refine pG Try.func17 Try.ntmps17 ?_
 refine Jd ?_
 intro i0 hi0
 try simp only [Ja, Rh, Rg, Jb] at hi0
 refine go_ ?_
 refine Jd ?_
 intro i1 hi1
 try simp only [Ja, Rh, Rg, Jb] at hi1
 refine go_ ?_
 refine Qas [(0, .b), (1, .a), (2, .b), (3, .a), (4, .a)] (by kernel_rfl) (by rfl) (by kernel_rfl) ?_
 refine go_ ?_
 refine Qaw (hA.out) ?_
 refine go_ ?_
 refine Qaw (hB.out) ?_
 refine go_ ?_
 by_cases hab : sa = sb
 rotate_left
 ·have hq : (sa == sb) = false := beq_eq_false_iff_ne.2 hab
  have hf : Hid (R = false) := by show _ = _; rw [show R = _ from HR.out, hq]; rfl
  clear HR hab
  refine go_ ?_
  refine rT Try.results17 ?_
  exact ⟨by rw [hf.out]; rfl, rfl⟩
 have hq : (sa == sb) = true := beq_iff_eq.2 hab
 have HR2 : Hid (R = (!sa || e)) := by show _ = _; rw [show R = _ from HR.out, hq]; rfl
 clear HR hab
 refine go_ ?_
 refine Qaa (hA.out) ?_
 rcases Bool.eq_false_or_eq_true (sa) with hs | hs
 rotate_left
 ·have hf : Hid (R = true) := by show _ = _; rw [show R = _ from HR2.out, hs]; rfl
  clear HR2
  refine go_ ?_
  refine rT Try.results17 ?_
  exact ⟨by rw [hf.out]; rfl, rfl⟩
 have hf : Hid (R = e) := by show _ = _; rw [show R = _ from HR2.out, hs]; rfl
 clear HR2
 refine go_ ?_
 refine Qai (hE.out) ?_
 refine rT Try.results17 ?_
 exact ⟨by rw [hf.out]; rfl, rfl⟩
def eqI : List Int → List Int → Bool
 | [], _ => true
 | _ :: _, [] => true
 | x :: a, y :: b => !(x != y) && eqI a b
def eqIs (a b : List Int) : Bool := !((a.length : Int) != b.length) && eqI a b
theorem Qgq (a b : List Int) : PCalls Try.prog 18 [.d (.sl (a.map encD)), .d (.sl (b.map encD))] [] fun p s => p = .d (.v (.bool (eqIs a b))) ∧ s = [] := by
  have HR := Hh (show eqIs a b = (!((a.length : Int) != b.length) && eqI (a.drop 0) (b.drop 0)) from rfl)
  generalize eqIs a b = R at *
  refine pE Try.func18 Try.ntmps18 ?_
  refine Qcu (t := 0) (rows := a.map encD) (by simp [PF.get] <;> rfl) rfl fun hml => ?_
  rw [List.length_map] at hml
  unfold maxLen at hml
  refine go_ ?_
  by_cases hl : (a.length : Int) = b.length
  rotate_left
  · have hq : ((a.length : Int) != b.length) = true := bne_iff_ne.2 hl
    have hf : Hid (R = false) := by show _ = _; rw [show R = _ from HR.out, hq]; rfl
    clear HR hl
    refine go_ ?_
    refine rT Try.results18 ?_
    exact ⟨by rw [hf.out]; rfl, rfl⟩
  have hq : ((a.length : Int) != b.length) = false := by rw [hl]; simp
  have HR0 : Hid (R = eqI (a.drop 0) (b.drop 0)) := by show _ = _; rw [show R = _ from HR.out, hq]; rfl
  have hab : a.length = b.length := by omega
  have HAB := Hh hab
  clear HR hl hab
  refine go_ ?_
  refine Qaf (ι := Nat) (fun y => y ≤ a.length ∧ Hid (R = eqI (a.drop y) (b.drop y))) (fun y => [(0, .d (.sl (a.map encD))), (1, .d (.sl (b.map encD))), (5, .d (.v (.int .i64 (y : Int))))]) (fun _ => []) (fun y => a.length - y) 0 ⟨Nat.zero_le _, HR0.out⟩ ?_ ?_ ?_
  · exact sU
  · exact dR
  · rintro j ⟨hj, hR⟩
    clear HR0 hq
    by_cases hlt : j < a.length
    · have hlt2 : j < b.length := by have := HAB.out; omega
      have hx := Qam hlt
      have hy := Qam hlt2
      have hc : (j : Int) < a.length := by omega
      have hc2 : (j : Int) < b.length := by omega
      have hn : (0 : Int) ≤ j := by omega
      have hin := wr64 (n := (j : Int) + 1) (by omega) (by omega)
      have hR2 : Hid (R = (!(a[j] != b[j]) && eqI (a.drop (j + 1)) (b.drop (j + 1)))) := by
        rw [show R = _ from hR.out, List.drop_eq_getElem_cons hlt, List.drop_eq_getElem_cons hlt2]; rfl
      clear hR
      cases hq : (a[j] != b[j]) with
      | true =>
        have hf : Hid (R = false) := by show _ = _; rw [show R = _ from hR2.out, hq]; rfl
        clear hR2
        refine go_ ?_
        refine Qas [(0, .a), (1, .a), (2, .a), (3, .a), (4, .a), (5, .a), (6, .a), (7, .a), (8, .a)] (by kernel_rfl) (by rfl) (by kernel_rfl) ?_
        refine go_ ?_
        refine rT Try.results18 ?_
        exact ⟨by rw [hf.out]; rfl, rfl⟩
      | false =>
        have hR3 : Hid (R = eqI (a.drop (j + 1)) (b.drop (j + 1))) := by show _ = _; rw [show R = _ from hR2.out, hq]; rfl
        clear hR2
        refine go_ ?_
        refine Qas [(0, .a), (1, .a), (2, .a), (3, .a), (4, .a), (5, .a), (6, .a), (7, .a), (8, .a)] (by kernel_rfl) (by rfl) (by kernel_rfl) ?_
        refine go_ ?_
        exact ⟨j + 1, ⟨hlt, hR3⟩, by omega, sU, dR⟩
    · have hc : ¬ (j : Int) < a.length := by omega
      have hf : Hid (R = true) := by rw [show R = _ from hR.out, List.drop_of_length_le (by omega)]; rfl
      refine go_ ?_
      refine rT Try.results18 ?_
      exact ⟨by rw [hf.out]; rfl, rfl⟩
def Qdd (x y : En) : Bool := !(x.kind != y.kind) && ((x.name.toList == y.name.toList) && (!(x.of_ != y.of_) && (!(x.place != y.place) && (!(x.pars != y.pars) && (!(x.inds != y.inds) && (!(x.level != y.level) && (Qbb x.ty y.ty && (Qbb x.body y.body && (eqIs x.cons y.cons && eqIs x.fields y.fields)))))))))
def Qce : List En → List En → Bool
 | [], _ => true
 | _ :: _, [] => true
 | x :: a, y :: b => Qdd x y && Qce a b
def Qch (a b : List En) : Bool := !((a.length : Int) != b.length) && Qce a b
theorem rsame_p (a b : List En) : PCalls Try.prog 7 [.d (.sl (a.map encD)), .d (.sl (b.map encD))] [] fun p s => p = .d (.v (.bool (Qch a b))) ∧ s = [] := by
 have HR := Hh (show Qch a b = (!((a.length : Int) != b.length) && Qce (a.drop 0) (b.drop 0)) from rfl)
 generalize Qch a b = R at *
 refine pE Try.func7 Try.ntmps7 ?_
 refine Qcu (t := 0) (rows := a.map encD) (by simp [PF.get] <;> rfl) rfl fun hml => ?_
 rw [List.length_map] at hml
 unfold maxLen at hml
 refine go_ ?_
 by_cases hl : (a.length : Int) = b.length
 rotate_left
 ·have hq : ((a.length : Int) != b.length) = true := bne_iff_ne.2 hl
  have hf : Hid (R = false) := by show _ = _; rw [show R = _ from HR.out, hq]; rfl
  clear HR hl
  refine go_ ?_
  refine rT Try.results7 ?_
  exact ⟨by rw [hf.out]; rfl, rfl⟩
 have hq : ((a.length : Int) != b.length) = false := by rw [hl]; simp
 have HR0 : Hid (R = Qce (a.drop 0) (b.drop 0)) := by show _ = _; rw [show R = _ from HR.out, hq]; rfl
 have hab : a.length = b.length := by omega
 have HAB := Hh hab
 clear HR hl hab
 refine go_ ?_
 refine Qaf (ι := Nat) (fun y => y ≤ a.length ∧ Hid (R = Qce (a.drop y) (b.drop y))) (fun y => [(0, .d (.sl (a.map encD))), (1, .d (.sl (b.map encD))), (5, .d (.v (.int .i64 (y : Int))))]) (fun _ => []) (fun y => a.length - y) 0 ⟨Nat.zero_le _, HR0.out⟩ ?_ ?_ ?_
 ·exact sU
 ·exact dR
 ·rintro j ⟨hj, hR⟩
  clear HR0 hq
  by_cases hlt : j < a.length
  rotate_left
  ·have hc : ¬ (j : Int) < a.length := by omega
   have hf : Hid (R = true) := by rw [show R = _ from hR.out, List.drop_of_length_le (by omega)]; rfl
   refine go_ ?_
   refine rT Try.results7 ?_
   exact ⟨by rw [hf.out]; rfl, rfl⟩
  have hlt2 : j < b.length := by have := HAB.out; omega
  have hx3 : a[j]? = some a[j] := List.getElem?_eq_getElem hlt
  have hy3 : b[j]? = some b[j] := List.getElem?_eq_getElem hlt2
  have hc : (j : Int) < a.length := by omega
  have hc2 : (j : Int) < b.length := by omega
  have hn : (0 : Int) ≤ j := by omega
  have hin := wr64 (n := (j : Int) + 1) (by omega) (by omega)
  have HLT := Hh hlt
  have hR2 : Hid (R = (Qdd a[j] b[j] && Qce (a.drop (j + 1)) (b.drop (j + 1)))) := by
   rw [show R = _ from hR.out, List.drop_eq_getElem_cons hlt, List.drop_eq_getElem_cons hlt2]; rfl
  clear hR
  generalize a[j] = x at *
  generalize b[j] = y at *
  clear hlt hlt2
  have h1 := Hh (Qgr x.ty y.ty)
  have h2 := Hh (Qgr x.body y.body)
  have h3 := Hh (Qgq x.cons y.cons)
  have h4 := Hh (Qgq x.fields y.fields)
  simp only [aggD, Jl, List.map_cons, List.map_nil] at h1 h2
  have HD := Hh (show Qdd x y = (!(x.kind != y.kind) && ((x.name.toList == y.name.toList) && (!(x.of_ != y.of_) && (!(x.place != y.place) && (!(x.pars != y.pars) && (!(x.inds != y.inds) && (!(x.level != y.level) && (Qbb x.ty y.ty && (Qbb x.body y.body && (eqIs x.cons y.cons && eqIs x.fields y.fields)))))))))) from rfl)
  generalize Qdd x y = e at *
  generalize Qbb x.ty y.ty = e1 at *
  generalize Qbb x.body y.body = e2 at *
  generalize eqIs x.cons y.cons = e3 at *
  generalize eqIs x.fields y.fields = e4 at *
  refine go_ ?_
  refine Je ?_
  intro i0 hi0
  try simp only [Ja, Rh, Rg, Jb] at hi0
  refine go_ ?_
  refine Qab ?_
  refine Je ?_
  intro i1 hi1
  try simp only [Ja, Rh, Rg, Jb] at hi1
  refine go_ ?_
  refine Qab ?_
  rcases Bool.eq_false_or_eq_true ((x.kind != y.kind)) with c0 | c0
  ·skip
   have hf : Hid (R = false) := by show _ = _; rw [show R = _ from hR2.out, show e = _ from HD.out, c0]; simp
   clear HD hR2
   refine go_ ?_
   refine rT Try.results7 ?_
   exact ⟨by rw [hf.out]; rfl, rfl⟩
  refine go_ ?_
  rcases Bool.eq_false_or_eq_true ((x.name.toList == y.name.toList)) with c1 | c1
  rotate_left
  ·skip
   have hf : Hid (R = false) := by show _ = _; rw [show R = _ from hR2.out, show e = _ from HD.out, c0, c1]; simp
   clear HD hR2
   refine go_ ?_
   refine rT Try.results7 ?_
   exact ⟨by rw [hf.out]; rfl, rfl⟩
  refine go_ ?_
  rcases Bool.eq_false_or_eq_true ((x.of_ != y.of_)) with c2 | c2
  ·skip
   have hf : Hid (R = false) := by show _ = _; rw [show R = _ from hR2.out, show e = _ from HD.out, c0, c1, c2]; simp
   clear HD hR2
   refine go_ ?_
   refine rT Try.results7 ?_
   exact ⟨by rw [hf.out]; rfl, rfl⟩
  refine go_ ?_
  rcases Bool.eq_false_or_eq_true ((x.place != y.place)) with c3 | c3
  ·skip
   have hf : Hid (R = false) := by show _ = _; rw [show R = _ from hR2.out, show e = _ from HD.out, c0, c1, c2, c3]; simp
   clear HD hR2
   refine go_ ?_
   refine rT Try.results7 ?_
   exact ⟨by rw [hf.out]; rfl, rfl⟩
  refine go_ ?_
  rcases Bool.eq_false_or_eq_true ((x.pars != y.pars)) with c4 | c4
  ·skip
   have hf : Hid (R = false) := by show _ = _; rw [show R = _ from hR2.out, show e = _ from HD.out, c0, c1, c2, c3, c4]; simp
   clear HD hR2
   refine go_ ?_
   refine rT Try.results7 ?_
   exact ⟨by rw [hf.out]; rfl, rfl⟩
  refine go_ ?_
  rcases Bool.eq_false_or_eq_true ((x.inds != y.inds)) with c5 | c5
  ·skip
   have hf : Hid (R = false) := by show _ = _; rw [show R = _ from hR2.out, show e = _ from HD.out, c0, c1, c2, c3, c4, c5]; simp
   clear HD hR2
   refine go_ ?_
   refine rT Try.results7 ?_
   exact ⟨by rw [hf.out]; rfl, rfl⟩
  refine go_ ?_
  rcases Bool.eq_false_or_eq_true ((x.level != y.level)) with c6 | c6
  ·skip
   have hf : Hid (R = false) := by show _ = _; rw [show R = _ from hR2.out, show e = _ from HD.out, c0, c1, c2, c3, c4, c5, c6]; simp
   clear HD hR2
   refine go_ ?_
   refine rT Try.results7 ?_
   exact ⟨by rw [hf.out]; rfl, rfl⟩
  refine go_ ?_
  refine Qaa (h1.out) ?_
  rcases Bool.eq_false_or_eq_true (e1) with d1 | d1
  rotate_left
  ·skip
   have hf : Hid (R = false) := by show _ = _; rw [show R = _ from hR2.out, show e = _ from HD.out, c0, c1, c2, c3, c4, c5, c6, d1]; simp
   clear HD hR2
   refine go_ ?_
   refine rT Try.results7 ?_
   exact ⟨by rw [hf.out]; rfl, rfl⟩
  refine go_ ?_
  refine Qai (h2.out) ?_
  rcases Bool.eq_false_or_eq_true (e2) with d2 | d2
  rotate_left
  ·skip
   have hf : Hid (R = false) := by show _ = _; rw [show R = _ from hR2.out, show e = _ from HD.out, c0, c1, c2, c3, c4, c5, c6, d1, d2]; simp
   clear HD hR2
   refine go_ ?_
   refine rT Try.results7 ?_
   exact ⟨by rw [hf.out]; rfl, rfl⟩
  refine go_ ?_
  refine Qai (h3.out) ?_
  rcases Bool.eq_false_or_eq_true (e3) with d3 | d3
  rotate_left
  ·skip
   have hf : Hid (R = false) := by show _ = _; rw [show R = _ from hR2.out, show e = _ from HD.out, c0, c1, c2, c3, c4, c5, c6, d1, d2, d3]; simp
   clear HD hR2
   refine go_ ?_
   refine rT Try.results7 ?_
   exact ⟨by rw [hf.out]; rfl, rfl⟩
  refine go_ ?_
  refine Qai (h4.out) ?_
  rcases Bool.eq_false_or_eq_true (e4) with d4 | d4
  rotate_left
  ·skip
   have hf : Hid (R = false) := by show _ = _; rw [show R = _ from hR2.out, show e = _ from HD.out, c0, c1, c2, c3, c4, c5, c6, d1, d2, d3, d4]; simp
   clear HD hR2
   refine go_ ?_
   refine rT Try.results7 ?_
   exact ⟨by rw [hf.out]; rfl, rfl⟩
  refine go_ ?_
  have hR3 : Hid (R = Qce (a.drop (j + 1)) (b.drop (j + 1))) := by show _ = _; rw [show R = _ from hR2.out, show e = _ from HD.out, c0, c1, c2, c3, c4, c5, c6, d1, d2, d3, d4]; rfl
  clear HD hR2
  refine go_ ?_
  exact ⟨j + 1, ⟨HLT.out, hR3⟩, (by have := HLT.out; omega), sU, dR⟩
def Qbj (x : En) : En := ⟨x.kind, x.name, Qbc x.ty, Qbc x.body, x.of_, x.place, x.pars, x.inds, x.level, x.cons, x.fields⟩
def defB (x : En) (i : Int) : Bool := Qcv x.body i && ((x.of_ == 0) && ((x.place == 0) && ((x.pars == 0) && ((x.inds == 0) && ((x.level == 0) && ((x.cons.length : Int) + x.fields.length == 0))))))
theorem sdef_p (l : List En) (i : Nat) (hi : i < l.length) (ho : EnOk l[i]) : PCalls Try.prog 40 [.d (.sl (l.map encD)), .d (.v (.int .i64 i))] [] fun p s => p = .d (.v (.bool (defB l[i] i))) ∧ s = [] := by
 have hn : (0 : Int) ≤ i := by omega
 have hx3 : l[i]? = some l[i] := List.getElem?_eq_getElem hi
 generalize l[i] = x at *
 have hws := wr64 (n := (x.cons.length : Int) + x.fields.length) (by have := ho.1; have := ho.2; omega) (by have := ho.1; have := ho.2; omega)
 have hS := Hh (sclosed_p x.body i)
 simp only [aggD, Jl, List.map_cons, List.map_nil] at hS
 have HR := Hh (show defB x i = (Qcv x.body i && ((x.of_ == 0) && ((x.place == 0) && ((x.pars == 0) && ((x.inds == 0) && ((x.level == 0) && ((x.cons.length : Int) + x.fields.length == 0))))))) from rfl)
 generalize defB x i = R at *
 generalize Qcv x.body i = C at *
 clear hi ho
 refine pG Try.func40 Try.ntmps40 ?_
 refine Je ?_
 intro i0 hi0
 refine go_ ?_
 refine Qab ?_
 refine Qaa (hS.out) ?_
 clear hS
 rcases Bool.eq_false_or_eq_true (C) with h0 | h0
 rotate_left
 ·refine go_ ?_
  refine rT Try.results40 ?_
  exact ⟨by rw [HR.out]; simp [tupP, PV.norm2, PV.norm1, PV.norm0, *], rfl⟩
 refine go_ ?_
 rcases Bool.eq_false_or_eq_true (x.of_ == 0) with h1 | h1
 rotate_left
 ·refine go_ ?_
  refine rT Try.results40 ?_
  exact ⟨by rw [HR.out]; simp [tupP, PV.norm2, PV.norm1, PV.norm0, *], rfl⟩
 refine go_ ?_
 rcases Bool.eq_false_or_eq_true (x.place == 0) with h2 | h2
 rotate_left
 ·refine go_ ?_
  refine rT Try.results40 ?_
  exact ⟨by rw [HR.out]; simp [tupP, PV.norm2, PV.norm1, PV.norm0, *], rfl⟩
 refine go_ ?_
 rcases Bool.eq_false_or_eq_true (x.pars == 0) with h3 | h3
 rotate_left
 ·refine go_ ?_
  refine rT Try.results40 ?_
  exact ⟨by rw [HR.out]; simp [tupP, PV.norm2, PV.norm1, PV.norm0, *], rfl⟩
 refine go_ ?_
 rcases Bool.eq_false_or_eq_true (x.inds == 0) with h4 | h4
 rotate_left
 ·refine go_ ?_
  refine rT Try.results40 ?_
  exact ⟨by rw [HR.out]; simp [tupP, PV.norm2, PV.norm1, PV.norm0, *], rfl⟩
 refine go_ ?_
 rcases Bool.eq_false_or_eq_true (x.level == 0) with h5 | h5
 rotate_left
 ·refine go_ ?_
  refine rT Try.results40 ?_
  exact ⟨by rw [HR.out]; simp [tupP, PV.norm2, PV.norm1, PV.norm0, *], rfl⟩
 refine go_ ?_
 refine go_ ?_
 refine rT Try.results40 ?_
 exact ⟨by rw [HR.out]; simp [tupP, PV.norm2, PV.norm1, PV.norm0, *], rfl⟩
theorem shaped_of {t : Tm} (hg : Qac t = true) (h1 : chgT t ≤ 128) (h2 : cndT t ≤ 8192) : Qad t = true := by
 unfold Qad Qbh Qbt
 rw [csz_nd t 0 (by omega) (by omega), if_neg (by omega), cdp_hg t 1 (by omega) (by omega), hg]
 simp only [Bool.and_true, decide_eq_true_eq]
 omega
theorem Qgj {m : Int} {a b : Tm} (h : Qad (.mk 3 m [a, b]) = true) : Qad a = true ∧ Qad b = true := by
 obtain ⟨hg, h1, h2⟩ := Qbu h
 have hp := (Qcs hg).2
 simp only [chgT, chgL, cndT, cndL] at h1 h2
 exact ⟨shaped_of (hp _ (by simp)) (by omega) (by omega), shaped_of (hp _ (by simp)) (by omega) (by omega)⟩
theorem cutPi_shaped : ∀ (n : Nat) (t : Tm) (l : List Tm) (x : Tm), Qad t = true → Qbv n t = some (l, x) → l.length = n ∧ Qad x = true ∧ ∀ s ∈ l, Qad s = true := by
  intro n
  induction n with
  | zero =>
    intro t l x h hc
    simp only [Qbv, Option.some.injEq, Prod.mk.injEq] at hc
    obtain ⟨rfl, rfl⟩ := hc
    exact ⟨rfl, h, by simp⟩
  | succ n ih =>
    intro t l x h hc
    by_cases hk : t.kind = 3
    · obtain ⟨y, b, rfl, hy, hb⟩ := good_pi (Qbu h).1 hk
      rw [Qep] at hc
      obtain ⟨⟨l2, x2⟩, h2, h3⟩ := Option.map_eq_some_iff.1 hc
      simp only [Prod.mk.injEq] at h3
      obtain ⟨rfl, rfl⟩ := h3
      obtain ⟨hl, hx, hs⟩ := ih b l2 x2 (Qgj h).2 h2
      refine ⟨by simp [hl], hx, ?_⟩
      intro s hm
      cases hm with
      | head => exact (Qgj h).1
      | tail _ hm => exact hs s hm
    · rw [cutPi_no hk] at hc; cases hc
theorem split_ok {t : Tm} {n : Int} (h : (Qar t n).2.2 = 0) : 0 ≤ n ∧ n ≤ 24 ∧ ((Qar t n).1.length : Int) = n ∧ Qad (Qar t n).2.1 = true ∧ ∀ s ∈ (Qar t n).1, Qad s = true := by
  unfold Qar at h ⊢
  split at h
  · simp at h
  · rename_i h1
    rw [if_neg h1]
    split at h
    · simp at h
    · rename_i h2
      rw [if_neg h2]
      have hs : Qad t = true := by cases hb : Qad t <;> simp_all
      cases hc : Qbv n.toNat t with
      | none => rw [hc] at h; simp at h
      | some y =>
        obtain ⟨l, x⟩ := y
        obtain ⟨h3, h4, h5⟩ := cutPi_shaped _ _ _ _ hs hc
        exact ⟨by omega, by omega, by show (l.length : Int) = n; omega, h4, h5⟩
theorem whole_ok {t : Tm} (h : (Qae t).2.2 = 0) : ((Qae t).1.length : Int) ≤ 24 ∧ Qad (Qae t).2.1 = true := by
 unfold Qae at h ⊢
 obtain ⟨h1, h2, h3, h4, -⟩ := split_ok h
 exact ⟨by rw [h3]; exact h2, h4⟩
def Qdv (l : List En) (n : Int) : Int := match l[n.toNat]? with | some d => d.inds | none => 0
def conB (l : List En) (x : En) (i : Int) : Bool :=
 Qdx l x i && (((Qae x.ty).2.2 == 0) && (decide (x.pars ≤ (Qae x.ty).1.length) && Qax (Qae x.ty).2.1 x.of_ x.pars (Qdv l x.of_) (Qae x.ty).1.length))
def FamOk (l : List En) (i : Nat) : Prop := ∀ (q : Nat) (d : En), q < i → l[q]? = some d → d.kind = 1 → (0 ≤ d.pars ∧ d.pars ≤ 24) ∧ (0 ≤ d.inds ∧ d.inds ≤ 24)
theorem Qgh {l : List En} {x : En} {i : Nat} (h : Qdx l x i = true) : ∃ (q : Nat) (d : En), x.of_ = q ∧ q < i ∧ l[q]? = some d ∧ d.kind = 1 ∧ x.pars = d.pars := by
 unfold Qdx at h
 simp only [Bool.and_eq_true, decide_eq_true_eq] at h
 obtain ⟨h1, h2, h3, -⟩ := h
 obtain ⟨q, hq, hl, hk⟩ := isE_get h1
 refine ⟨q, l[q], hq, by omega, List.getElem?_eq_getElem hl, hk, ?_⟩
 have h4 := beq_iff_eq.1 h3
 unfold parsOf at h4
 rw [hq, Int.toNat_natCast, List.getElem?_eq_getElem hl] at h4
 exact h4
theorem scon_p (l : List En) (i : Nat) (hi : i < l.length) (ho : ∀ e ∈ l, EnOk e) (hf : FamOk l i) : PCalls Try.prog 38 [.d (.sl (l.map encD)), .d (.v (.int .i64 i))] [] fun p s => p = .d (.v (.bool (conB l l[i] i))) ∧ s = [] := by
  have hO := Hh (sowned_p l i hi ho)
  obtain ⟨R, hR⟩ : ∃ R, R = conB l l[i] i := ⟨_, rfl⟩
  rw [← hR]
  have hn : (0 : Int) ≤ i := by omega
  have hx3 : l[i]? = some l[i] := List.getElem?_eq_getElem hi
  unfold conB at hR
  generalize l[i] = x at *
  have hW := Hh (Qft x.ty)
  have hok : (Qae x.ty).2.2 = 0 → ((Qae x.ty).1.length : Int) ≤ 24 ∧ Qad (Qae x.ty).2.1 = true := fun h => whole_ok h
  generalize Qae x.ty = W at *
  obtain ⟨sl, sx, se⟩ := W
  simp only at hR hok
  unfold Qcp at hW
  simp only [aggD, Jl, List.map_cons, List.map_nil] at hW
  have HR := Hh hR
  have HK := Hh hok
  clear hR hi ho hok
  cases hb : Qdx l x i with
  | false =>
    have HF : Hid (R = false) := by show _ = _; rw [show R = _ from HR.out, hb]; rfl
    rw [hb] at hO
    clear HR hb HK hf
    refine pG Try.func38 Try.ntmps38 ?_
    refine Qaa (hW.out) ?_
    refine Je ?_
    intro i0 hi0
    refine go_ ?_
    refine Qab ?_
    refine Qas [(0, .a), (1, .a), (2, .a), (3, .a), (4, .a), (5, .a), (6, .a), (7, .a), (8, .a), (9, .a), (10, .a), (11, .a), (12, .a), (13, .a), (14, .a), (15, .a), (16, .a), (17, .a), (18, .b), (19, .a), (20, .a), (21, .a), (22, .a), (23, .a), (24, .a), (25, .a), (26, .a), (27, .a), (28, .a), (29, .a), (30, .a), (31, .a), (32, .a), (33, .a), (34, .a), (35, .a), (36, .a), (37, .a), (38, .a), (39, .a), (40, .a), (41, .a), (42, .a)] (by kernel_rfl) (by rfl) (by kernel_rfl) ?_
    refine go_ ?_
    refine Qaw (hO.out) ?_
    refine go_ ?_
    refine rT Try.results38 ?_
    exact ⟨by rw [HF.out]; rfl, rfl⟩
  | true =>
    obtain ⟨q, d, hq, hqi, hd, hdk, hpp⟩ := Qgh hb
    have hB := Hh (hf q d hqi hd hdk)
    have hq0 : (0 : Int) ≤ q := by omega
    rw [hb] at hO HR
    unfold Qdv at HR
    rw [hq, Int.toNat_natCast, hd] at HR
    simp only [Bool.true_and] at HR
    have hP := Hh hpp
    clear hb hf hpp hqi hdk
    refine pG Try.func38 Try.ntmps38 ?_
    refine Qaa (hW.out) ?_
    refine Je ?_
    intro i0 hi0
    refine go_ ?_
    refine Qab ?_
    refine Qas [(0, .a), (1, .a), (2, .a), (3, .a), (4, .a), (5, .a), (6, .a), (7, .a), (8, .a), (9, .a), (10, .a), (11, .a), (12, .a), (13, .a), (14, .a), (15, .a), (16, .a), (17, .a), (18, .b), (19, .a), (20, .a), (21, .a), (22, .a), (23, .a), (24, .a), (25, .a), (26, .a), (27, .a), (28, .a), (29, .a), (30, .a), (31, .a), (32, .a), (33, .a), (34, .a), (35, .a), (36, .a), (37, .a), (38, .a), (39, .a), (40, .a), (41, .a), (42, .a)] (by kernel_rfl) (by rfl) (by kernel_rfl) ?_
    refine go_ ?_
    refine Qaw (hO.out) ?_
    refine go_ ?_
    rcases Bool.eq_false_or_eq_true (se == 0) with h1 | h1
    rotate_left
    · have HF : Hid (R = false) := by show _ = _; rw [show R = _ from HR.out, h1]; rfl
      clear HR HK
      refine go_ ?_
      refine rT Try.results38 ?_
      exact ⟨by rw [HF.out]; rfl, rfl⟩
    have hk := HK.out (beq_iff_eq.1 h1)
    have h24 := Hh hk.1
    have hsx := Hh hk.2
    clear hk HK
    refine go_ ?_
    by_cases h2 : x.pars ≤ (sl.length : Int)
    rotate_left
    · have HF : Hid (R = false) := by show _ = _; rw [show R = _ from HR.out]; simp [h2]
      clear HR
      refine go_ ?_
      refine rT Try.results38 ?_
      exact ⟨by rw [HF.out]; rfl, rfl⟩
    have hA := Hh (Qfq sx q x.pars d.inds sl.length hsx.out (by rw [hP.out]; exact hB.out.1.1) (by rw [hP.out]; exact hB.out.1.2) hB.out.2.1 hB.out.2.2 (by omega) (by have := h24.out; omega))
    simp only [aggD, Jl, List.map_cons, List.map_nil] at hA
    have HF : Hid (R = Qax sx q x.pars d.inds sl.length) := by
      show _ = _
      rw [show R = _ from HR.out, h1, decide_eq_true h2]; rfl
    clear HR hsx h24 hB hP
    generalize Qax sx q x.pars d.inds sl.length = A at *
    refine go_ ?_
    refine Qeb (hA.out) ?_
    refine go_ ?_
    refine rT Try.results38 ?_
    exact ⟨by rw [HF.out]; rfl, rfl⟩
def projB (l : List En) (x : En) (i : Int) : Bool :=
 Qdx l x i && (((Qar x.ty (x.pars + 1)).2.2 == 0) && (match (Qar x.ty (x.pars + 1)).1[x.pars.toNat]? with | some t => Qax t x.of_ x.pars 0 x.pars | none => false))
theorem sproj_p (l : List En) (i : Nat) (hi : i < l.length) (ho : ∀ e ∈ l, EnOk e) (hf : FamOk l i) : PCalls Try.prog 39 [.d (.sl (l.map encD)), .d (.v (.int .i64 i))] [] fun p s => p = .d (.v (.bool (projB l l[i] i))) ∧ s = [] := by
  have hO := Hh (sowned_p l i hi ho)
  obtain ⟨R, hR⟩ : ∃ R, R = projB l l[i] i := ⟨_, rfl⟩
  rw [← hR]
  have hn : (0 : Int) ≤ i := by omega
  have hx3 : l[i]? = some l[i] := List.getElem?_eq_getElem hi
  unfold projB at hR
  generalize l[i] = x at *
  cases hb : Qdx l x i with
  | false =>
    have HF : Hid (R = false) := by show _ = _; rw [hR, hb]; rfl
    rw [hb] at hO
    clear hR hb hf ho hi
    refine pG Try.func39 Try.ntmps39 ?_
    refine Qaa (hO.out) ?_
    refine rT Try.results39 ?_
    exact ⟨by rw [HF.out]; rfl, rfl⟩
  | true =>
    obtain ⟨q, d, hq, hqi, hd, hdk, hpp⟩ := Qgh hb
    have hB := hf q d hqi hd hdk
    obtain ⟨m, hm⟩ : ∃ m : Nat, x.pars = m := ⟨x.pars.toNat, by omega⟩
    have hm24 : Hid ((m : Int) ≤ 24) := by show (m : Int) ≤ 24; omega
    have hm0 : (0 : Int) ≤ m := by omega
    have hws := wr64 (n := (m : Int) + 1) (by omega) (by omega)
    have hW := Hh (tSplit_p x.ty ((m : Int) + 1))
    have hok : (Qar x.ty ((m : Int) + 1)).2.2 = 0 → ((Qar x.ty ((m : Int) + 1)).1.length : Int) = (m : Int) + 1 ∧ ∀ s ∈ (Qar x.ty ((m : Int) + 1)).1, Qad s = true := fun h => ⟨(split_ok h).2.2.1, (split_ok h).2.2.2.2⟩
    rw [hm, hq] at hR
    generalize Qar x.ty ((m : Int) + 1) = W at *
    obtain ⟨sl, sx, se⟩ := W
    simp only at hR hok
    unfold Qcp at hW
    simp only [aggD, Jl, List.map_cons, List.map_nil] at hW
    have HR := Hh hR
    have HK := Hh hok
    rw [hb] at hO HR
    rw [Int.toNat_natCast] at HR
    simp only [Bool.true_and] at HR
    clear hR hi ho hok hb hf hpp hqi hdk hB
    refine pG Try.func39 Try.ntmps39 ?_
    refine Qaa (hO.out) ?_
    refine Qgb (J := Qct []) [(0, .a), (1, .a), (2, .a), (3, .a), (4, .a), (5, .a), (6, .a), (7, .a), (8, .a), (9, .a), (10, .a), (11, .a), (12, .a), (13, .a), (14, .a), (15, .a), (16, .e), (17, .a), (18, .e), (19, .a)] (by kernel_rfl) (by rfl) (by kernel_rfl) (by (repeat (first | exact Qbn _ | refine Ju (by simp [St.box?, *] <;> rfl) ?_))) ?_
    refine jG ?_
    refine PJ_call2 (hW.out) ?_
    refine jG ?_
    refine PJ_alloc rfl (by decide) rfl (by simp; rfl) (fun i hi => by simp only [Ja, Rh, Rg] at hi; (repeat (first | exact Qbn _ | refine Ju (by simp [St.box?, *] <;> rfl) ?_))) ?_
    intro i0 hi0
    try simp only [Ja, Rh, Rg, Jb] at hi0
    refine jG ?_
    refine PJs ?_
    refine jG ?_
    refine go_ ?_
    refine Qas [(0, .a), (1, .a), (2, .a), (3, .a), (4, .a), (5, .a), (6, .a), (7, .a), (8, .a), (9, .a), (10, .a), (11, .a), (12, .a), (13, .a), (14, .a), (15, .a), (16, .a), (17, .a), (18, .a), (19, .a), (20, .a), (21, .a), (22, .a), (23, .a), (24, .a), (25, .a), (26, .a), (27, .a), (28, .a)] (by kernel_rfl) (by rfl) (by kernel_rfl) ?_
    refine go_ ?_
    rcases Bool.eq_false_or_eq_true (se == 0) with h1 | h1
    rotate_left
    · have HF : Hid (R = false) := by show _ = _; rw [show R = _ from HR.out, h1]; rfl
      clear HR HK
      refine go_ ?_
      refine rT Try.results39 ?_
      exact ⟨by rw [HF.out]; rfl, rfl⟩
    obtain ⟨hl, hsh⟩ := HK.out (beq_iff_eq.1 h1)
    have hml : m < sl.length := by omega
    have hy : sl[m]? = some sl[m] := List.getElem?_eq_getElem hml
    have hsy := Hh (hsh _ (List.getElem_mem hml))
    have hm1 : (m : Int) < sl.length := by omega
    rw [hy] at HR
    clear hl hsh HK
    generalize sl[m] = y at *
    clear hml
    have hA := Hh (Qfq y q m 0 m hsy.out hm0 hm24.out (by omega) (by omega) hm0 (by have := hm24.out; omega))
    simp only [aggD, Jl, List.map_cons, List.map_nil] at hA
    have HF : Hid (R = Qax y q m 0 m) := by
      show _ = _
      rw [show R = _ from HR.out, h1]; rfl
    clear HR hsy hm24
    generalize Qax y q m 0 m = A at *
    refine go_ ?_
    refine Qeb (hA.out) ?_
    refine go_ ?_
    refine rT Try.results39 ?_
    exact ⟨by rw [HF.out]; rfl, rfl⟩
def fam1 (x : En) : Bool := decide (0 ≤ x.pars) && (decide (0 ≤ x.inds) && (decide (x.pars ≤ 24) && (decide (x.inds ≤ 24 - x.pars) && ((x.of_ == 0) && ((x.place == 0) && noneT x.body)))))
def fam2 (l : List En) (x : En) (i : Nat) (W : List Tm × Tm × Int) : Bool := (W.2.2 == 0) && ((W.2.1.kind == 2) && ((W.2.1.num == x.level) && (decide ((x.cons.length : Int) ≤ 16) && (runW x.cons ((i : Int) + 1) 0 && Qay l i x.cons 2 0))))
def fam4 (l : List En) (x : En) (n : Nat) : Bool := match l[n]? with | some d => ((Qae d.ty).2.2 == 0) && (((Qae d.ty).1.length : Int) == x.pars + x.fields.length) | none => false
def fam3 (l : List En) (x : En) (i : Nat) : Bool := ((x.fields.length : Int) == 0) || ((x.inds == 0) && (((x.cons.length : Int) == 1) && (runW x.fields ((i : Int) + 2) 0 && (Qay l i x.fields 4 0 && fam4 l x (i + 1)))))
def famB (l : List En) (x : En) (i : Nat) : Bool := fam1 x && (fam2 l x i (Qar x.ty (x.pars + x.inds)) && fam3 l x i)
theorem one_con {l : List En} {c : List Int} {i : Nat} (h1 : (c.length : Int) = 1) (hi : i + 1 < 4000000000000000000) (hr : runW c ((i : Int) + 1) 0 = true) (hm : Qay l i c 2 0 = true) : i + 1 < l.length := by
  match c, h1 with
  | [n], _ =>
    simp only [runW, Qay, Bool.and_eq_true, Bool.and_true] at hr hm
    have h2 := beq_iff_eq.1 hr
    rw [wr64 (n := (i : Int) + 1 + ((0 : Nat) : Int)) (by omega) (by omega)] at h2
    unfold memE at hm
    rw [Bool.and_eq_true] at hm
    obtain ⟨m, hm1, hm2, -⟩ := isE_get hm.1
    omega
theorem sfamily_p (l : List En) (i : Nat) (hi : i < l.length) (hl : l.length ≤ 3000000000000000000) (ho : EnOk l[i]) : PCalls Try.prog 37 [.d (.sl (l.map encD)), .d (.v (.int .i64 i))] [] fun p s => p = .d (.v (.bool (famB l l[i] i))) ∧ s = [] := by
 obtain ⟨R, hR⟩ : ∃ R, R = famB l l[i] i := ⟨_, rfl⟩
 rw [← hR]
 have hn : (0 : Int) ≤ i := by omega
 have hx3 : l[i]? = some l[i] := List.getElem?_eq_getElem hi
 unfold famB at hR
 generalize l[i] = x at *
 have hN := Hh (snone_p x.body)
 simp only [aggD, Jl, List.map_cons, List.map_nil] at hN
 have hw1 := wr64 (n := (i : Int) + 1) (by omega) (by omega)
 have hw2 := wr64 (n := (i : Int) + 2) (by omega) (by omega)
 have HO := Hh ho
 have HL := Hh (show i + 1 < 4000000000000000000 by omega)
 have HR := Hh hR
 clear hR hi ho hl
 refine pG Try.func37 Try.ntmps37 ?_
 refine Je ?_
 intro i0 hi0
 refine go_ ?_
 refine Qab ?_
 by_cases a1 : 0 ≤ x.pars
 rotate_left
 ·have a1b : x.pars < 0 := by omega
  have HF : Hid (R = false) := by show _ = _; rw [show R = _ from HR.out]; unfold fam1; simp [a1]
  clear HR a1
  refine go_ ?_
  refine rT Try.results37 ?_
  exact ⟨by rw [HF.out]; rfl, rfl⟩
 have a1c : ¬ x.pars < 0 := by omega
 refine go_ ?_
 by_cases a2 : 0 ≤ x.inds
 rotate_left
 ·have a2b : x.inds < 0 := by omega
  have HF : Hid (R = false) := by show _ = _; rw [show R = _ from HR.out]; unfold fam1; simp [a2]
  clear HR a2
  refine go_ ?_
  refine rT Try.results37 ?_
  exact ⟨by rw [HF.out]; rfl, rfl⟩
 have a2c : ¬ x.inds < 0 := by omega
 refine go_ ?_
 by_cases a3 : x.pars ≤ 24
 rotate_left
 ·have a3b : 24 < x.pars := by omega
  have HF : Hid (R = false) := by show _ = _; rw [show R = _ from HR.out]; unfold fam1; simp [a3]
  clear HR a3
  refine go_ ?_
  refine rT Try.results37 ?_
  exact ⟨by rw [HF.out]; rfl, rfl⟩
 have a3c : ¬ 24 < x.pars := by omega
 refine go_ ?_
 have hw3 := wr64 (n := 24 - x.pars) (by omega) (by omega)
 refine go_ ?_
 by_cases a4 : x.inds ≤ 24 - x.pars
 rotate_left
 ·have a4b : 24 - x.pars < x.inds := by omega
  have HF : Hid (R = false) := by show _ = _; rw [show R = _ from HR.out]; unfold fam1; simp [a4]
  clear HR a4
  refine go_ ?_
  refine rT Try.results37 ?_
  exact ⟨by rw [HF.out]; rfl, rfl⟩
 have a4c : ¬ 24 - x.pars < x.inds := by omega
 refine go_ ?_
 by_cases a5 : x.of_ = 0
 rotate_left
 ·have a5b : (x.of_ != 0) = true := bne_iff_ne.2 a5
  have HF : Hid (R = false) := by show _ = _; rw [show R = _ from HR.out]; unfold fam1; simp [a5]
  clear HR a5
  refine go_ ?_
  refine rT Try.results37 ?_
  exact ⟨by rw [HF.out]; rfl, rfl⟩
 have a5c : (x.of_ != 0) = false := by rw [a5]; rfl
 refine go_ ?_
 by_cases a6 : x.place = 0
 rotate_left
 ·have a6b : (x.place != 0) = true := bne_iff_ne.2 a6
  have HF : Hid (R = false) := by show _ = _; rw [show R = _ from HR.out]; unfold fam1; simp [a6]
  clear HR a6
  refine go_ ?_
  refine rT Try.results37 ?_
  exact ⟨by rw [HF.out]; rfl, rfl⟩
 have a6c : (x.place != 0) = false := by rw [a6]; rfl
 refine go_ ?_
 refine Qai (hN.out) ?_
 clear hN
 by_cases a7 : noneT x.body = true
 rotate_left
 ·have a7b : noneT x.body = false := by simpa using a7
  have HF : Hid (R = false) := by show _ = _; rw [show R = _ from HR.out]; unfold fam1; simp [a7]
  clear HR a7
  refine go_ ?_
  refine rT Try.results37 ?_
  exact ⟨by rw [HF.out]; rfl, rfl⟩
 have a7c : noneT x.body = noneT x.body := rfl
 refine go_ ?_
 have HR1 : Hid (R = (fam2 l x i (Qar x.ty (x.pars + x.inds)) && fam3 l x i)) := by
  show _ = _
  rw [show R = _ from HR.out]
  unfold fam1
  simp [a1, a2, a3, a4, a5, a6, a7]
 clear HR
 have hw4 := wr64 (n := x.pars + x.inds) (by omega) (by omega)
 have HB := Hh (And.intro (And.intro a1 a3) (And.intro a2 a4))
 clear a1 a2 a3 a4 a5 a6 a7 hw3
 clear a1c a2c a3c a4c a5c a6c
 have hW := Hh (tSplit_p x.ty (x.pars + x.inds))
 unfold fam2 at HR1
 generalize Qar x.ty (x.pars + x.inds) = W at *
 obtain ⟨sl, sx, se⟩ := W
 simp only at HR1
 unfold Qcp at hW
 simp only [aggD, Jl, List.map_cons, List.map_nil] at hW
 refine go_ ?_
 refine Qaa (hW.out) ?_
 clear hW
 refine Je ?_
 intro i1 hi1
 try simp only [Ja, Rh, Rg, Jb] at hi1
 refine go_ ?_
 refine Qab ?_
 by_cases b1 : se = 0
 rotate_left
 ·have b1b : (se != 0) = true := bne_iff_ne.2 b1
  have HF : Hid (R = false) := by show _ = _; rw [show R = _ from HR1.out]; skip; simp [b1]
  clear HR1 b1
  refine go_ ?_
  refine rT Try.results37 ?_
  exact ⟨by rw [HF.out]; rfl, rfl⟩
 have b1c : (se != 0) = false := by rw [b1]; rfl
 refine go_ ?_
 by_cases b2 : sx.kind = 2
 rotate_left
 ·have b2b : (sx.kind != 2) = true := bne_iff_ne.2 b2
  have HF : Hid (R = false) := by show _ = _; rw [show R = _ from HR1.out]; skip; simp [b2]
  clear HR1 b2
  refine go_ ?_
  refine rT Try.results37 ?_
  exact ⟨by rw [HF.out]; rfl, rfl⟩
 have b2c : (sx.kind != 2) = false := by rw [b2]; rfl
 refine go_ ?_
 by_cases b3 : sx.num = x.level
 rotate_left
 ·have b3b : (sx.num != x.level) = true := bne_iff_ne.2 b3
  have HF : Hid (R = false) := by show _ = _; rw [show R = _ from HR1.out]; skip; simp [b3]
  clear HR1 b3
  refine go_ ?_
  refine rT Try.results37 ?_
  exact ⟨by rw [HF.out]; rfl, rfl⟩
 have b3c : (sx.num != x.level) = false := by rw [b3]; simp
 refine go_ ?_
 by_cases b4 : (x.cons.length : Int) ≤ 16
 rotate_left
 ·have b4b : 16 < (x.cons.length : Int) := by omega
  have HF : Hid (R = false) := by show _ = _; rw [show R = _ from HR1.out]; skip; simp [b4]
  clear HR1 b4
  refine go_ ?_
  refine rT Try.results37 ?_
  exact ⟨by rw [HF.out]; rfl, rfl⟩
 have b4c : ¬ 16 < (x.cons.length : Int) := by omega
 refine go_ ?_
 refine Qai (srun_p x.cons ((i : Int) + 1)) ?_
 by_cases b5 : runW x.cons ((i : Int) + 1) 0 = true
 rotate_left
 ·have b5b : runW x.cons ((i : Int) + 1) 0 = false := by simpa using b5
  have HF : Hid (R = false) := by show _ = _; rw [show R = _ from HR1.out]; skip; simp [b5]
  clear HR1 b5
  refine go_ ?_
  refine rT Try.results37 ?_
  exact ⟨by rw [HF.out]; rfl, rfl⟩
 have b5c : 0 = 0 := rfl
 refine go_ ?_
 refine Qai (smembers_p l i 2 x.cons) ?_
 by_cases b6 : Qay l i x.cons 2 0 = true
 rotate_left
 ·have b6b : Qay l i x.cons 2 0 = false := by simpa using b6
  have HF : Hid (R = false) := by show _ = _; rw [show R = _ from HR1.out]; skip; simp [b6]
  clear HR1 b6
  refine go_ ?_
  refine rT Try.results37 ?_
  exact ⟨by rw [HF.out]; rfl, rfl⟩
 have b6c : 0 = 0 := rfl
 refine go_ ?_
 have HR2 : Hid (R = fam3 l x i) := by
  show _ = _
  rw [show R = _ from HR1.out]
  simp [b1, b2, b3, b4, b5, b6]
 clear HR1
 have HC := Hh (fun h => one_con (l := l) h HL.out b5 b6)
 clear b1 b2 b3 b4 b5 b6 b1c b2c b3c b4c b5c b6c HL
 unfold fam3 at HR2
 by_cases c1 : (x.fields.length : Int) = 0
 ·have c1b : ((x.fields.length : Int) == 0) = true := beq_iff_eq.2 c1
  have HF : Hid (R = true) := by show _ = _; rw [show R = _ from HR2.out, c1b]; rfl
  clear c1 HR2 HC
  refine go_ ?_
  refine rT Try.results37 ?_
  exact ⟨by rw [HF.out]; rfl, rfl⟩
 have c1b : ((x.fields.length : Int) == 0) = false := beq_eq_false_iff_ne.2 c1
 have HR3 : Hid (R = ((x.inds == 0) && (((x.cons.length : Int) == 1) && (runW x.fields ((i : Int) + 2) 0 && (Qay l i x.fields 4 0 && fam4 l x (i + 1)))))) := by show _ = _; rw [show R = _ from HR2.out, c1b]; rfl
 clear HR2 c1
 refine go_ ?_
 by_cases d1 : x.inds = 0
 rotate_left
 ·have d1b : (x.inds != 0) = true := bne_iff_ne.2 d1
  have HF : Hid (R = false) := by show _ = _; rw [show R = _ from HR3.out]; skip; simp [d1]
  clear HR3 d1
  refine go_ ?_
  refine rT Try.results37 ?_
  exact ⟨by rw [HF.out]; rfl, rfl⟩
 have d1c : (x.inds != 0) = false := by rw [d1]; rfl
 refine go_ ?_
 by_cases d2 : (x.cons.length : Int) = 1
 rotate_left
 ·have d2b : ((x.cons.length : Int) != 1) = true := bne_iff_ne.2 d2
  have HF : Hid (R = false) := by show _ = _; rw [show R = _ from HR3.out]; skip; simp [d2]
  clear HR3 d2
  refine go_ ?_
  refine rT Try.results37 ?_
  exact ⟨by rw [HF.out]; rfl, rfl⟩
 have d2c : ((x.cons.length : Int) != 1) = false := by rw [d2]; rfl
 refine go_ ?_
 refine Qai (srun_p x.fields ((i : Int) + 2)) ?_
 by_cases d3 : runW x.fields ((i : Int) + 2) 0 = true
 rotate_left
 ·have d3b : runW x.fields ((i : Int) + 2) 0 = false := by simpa using d3
  have HF : Hid (R = false) := by show _ = _; rw [show R = _ from HR3.out]; skip; simp [d3]
  clear HR3 d3
  refine go_ ?_
  refine rT Try.results37 ?_
  exact ⟨by rw [HF.out]; rfl, rfl⟩
 have d3c : 0 = 0 := rfl
 refine go_ ?_
 refine Qai (smembers_p l i 4 x.fields) ?_
 by_cases d4 : Qay l i x.fields 4 0 = true
 rotate_left
 ·have d4b : Qay l i x.fields 4 0 = false := by simpa using d4
  have HF : Hid (R = false) := by show _ = _; rw [show R = _ from HR3.out]; skip; simp [d4]
  clear HR3 d4
  refine go_ ?_
  refine rT Try.results37 ?_
  exact ⟨by rw [HF.out]; rfl, rfl⟩
 have d4c : 0 = 0 := rfl
 refine go_ ?_
 have hil := HC.out d2
 have hd : l[i + 1]? = some l[i + 1] := List.getElem?_eq_getElem hil
 have HR4 : Hid (R = fam4 l x (i + 1)) := by
  show _ = _
  rw [show R = _ from HR3.out]
  simp [d1, d2, d3, d4]
 clear HR3 HC d1 d2 d3 d4 d1c d2c d3c d4c
 unfold fam4 at HR4
 rw [hd] at HR4
 have hil2 := Hh hil
 generalize l[i + 1] = d at *
 clear hil
 simp only at HR4
 have hV := Hh (Qft d.ty)
 generalize Qae d.ty = V at *
 obtain ⟨vl, vx, ve⟩ := V
 simp only at HR4
 unfold Qcp at hV
 simp only [aggD, Jl, List.map_cons, List.map_nil] at hV
 have hc1 : (0 : Int) ≤ (i : Int) + 1 := by omega
 have hc2 : ((i : Int) + 1).toNat = i + 1 := by omega
 refine go_ ?_
 refine Qaa (hV.out) ?_
 clear hV
 refine Je ?_
 intro i2 hi2
 try simp only [Ja, Rh, Rg, Jb] at hi2
 refine go_ ?_
 refine Rd ?_
 have hw5 := wr64 (n := x.pars + x.fields.length) (by have := HB.out.1; omega) (by have := HB.out.1; have := HO.out.2; omega)
 refine go_ ?_
 rcases Bool.eq_false_or_eq_true (ve == 0) with e1 | e1
 rotate_left
 ·have HF : Hid (R = false) := by show _ = _; rw [show R = _ from HR4.out, e1]; rfl
  clear HR4
  refine go_ ?_
  refine rT Try.results37 ?_
  exact ⟨by rw [HF.out]; rfl, rfl⟩
 have HF : Hid (R = ((vl.length : Int) == x.pars + x.fields.length)) := by show _ = _; rw [show R = _ from HR4.out, e1]; rfl
 clear HR4
 refine go_ ?_
 refine rT Try.results37 ?_
 exact ⟨by rw [HF.out]; rfl, rfl⟩
theorem flat_v {f : FuncId} {x : Value} {b : Bool} (h : okv x → ∀ w : World, Calls Try.prog f #[x] w fun e w' => e = .returned (.bool b) ∧ Below w.heap.size w w') : PCalls Try.prog f [.d (.v x)] [] fun p s => p = .d (.v (.bool b)) ∧ s = [] := by
  refine PCalls.flat trivial fun K w vs ha => ?_
  obtain ⟨v, rfl, hv⟩ := ha.one
  cases hv with
  | d hv => cases hv with
    | v hok => exact h hok w
theorem nright_p (s : ByteArray) : PCalls Try.prog 35 [.d (.v (.string s))] [] fun p s2 => p = .d (.v (.bool (Qbg s))) ∧ s2 = [] := flat_v fun hs => right_name s hs
def kindB (l : List En) (x : En) (i : Nat) : Bool := if x.kind = 1 then famB l x i else if x.kind = 2 then conB l x i else if x.kind = 4 then projB l x i else if x.kind = 3 then defB x i else false
def Qbf (l : List En) (x : En) (i : Nat) : Bool := Qbg x.name && (Qcv x.ty i && kindB l x i)
theorem sentry_p (l : List En) (i : Nat) (hi : i < l.length) (hl : l.length ≤ 3000000000000000000) (ho : ∀ e ∈ l, EnOk e) (hf : FamOk l i) : PCalls Try.prog 25 [.d (.sl (l.map encD)), .d (.v (.int .i64 i))] [] fun p s => p = .d (.v (.bool (Qbf l l[i] i))) ∧ s = [] := by
 have h1 := Hh (sfamily_p l i hi hl (ho _ (List.getElem_mem hi)))
 have h2 := Hh (scon_p l i hi ho hf)
 have h4 := Hh (sproj_p l i hi ho hf)
 have h3 := Hh (sdef_p l i hi (ho _ (List.getElem_mem hi)))
 have hR := Hh (nright_p l[i].name)
 have hC := Hh (sclosed_p l[i].ty i)
 simp only [aggD, Jl, List.map_cons, List.map_nil] at hC
 have hn : (0 : Int) ≤ i := by omega
 have hx3 : l[i]? = some l[i] := List.getElem?_eq_getElem hi
 have HR := Hh (show Qbf l l[i] i = (Qbg l[i].name && (Qcv l[i].ty i && kindB l l[i] i)) from rfl)
 have HK := Hh (show kindB l l[i] i = (if l[i].kind = 1 then famB l l[i] i else if l[i].kind = 2 then conB l l[i] i else if l[i].kind = 4 then projB l l[i] i else if l[i].kind = 3 then defB l[i] i else false) from rfl)
 generalize Qbf l l[i] i = R at *
 generalize l[i] = x at *
 generalize kindB l x i = KB at *
 generalize Qbg x.name = B at *
 generalize Qcv x.ty i = C at *
 generalize famB l x i = Q1 at *
 generalize conB l x i = Q2 at *
 generalize projB l x i = Q4 at *
 generalize defB x i = Q3 at *
 clear hi hl ho hf
 refine pG Try.func25 Try.ntmps25 ?_
 refine Qaa (hR.out) ?_
 clear hR
 rcases Bool.eq_false_or_eq_true (B) with b1 | b1
 rotate_left
 ·have HF : Hid (R = false) := by show _ = _; rw [show R = _ from HR.out, b1]; rfl
  clear HR HK
  refine go_ ?_
  refine rT Try.results25 ?_
  exact ⟨by rw [HF.out]; rfl, rfl⟩
 refine go_ ?_
 refine Qai (hC.out) ?_
 clear hC
 rcases Bool.eq_false_or_eq_true (C) with b2 | b2
 rotate_left
 ·have HF : Hid (R = false) := by show _ = _; rw [show R = _ from HR.out, b1, b2]; rfl
  clear HR HK
  refine go_ ?_
  refine rT Try.results25 ?_
  exact ⟨by rw [HF.out]; rfl, rfl⟩
 have HR2 : Hid (R = KB) := by show _ = _; rw [show R = _ from HR.out, b1, b2]; rfl
 clear HR
 refine go_ ?_
 by_cases k1 : x.kind = 1
 ·have HF : Hid (R = Q1) := by show _ = _; rw [show R = _ from HR2.out, show KB = _ from HK.out, if_pos k1]
  have kb : (x.kind == 1) = true := beq_iff_eq.2 k1
  clear HR2 HK k1
  refine go_ ?_
  refine Qaa (h1.out) ?_
  refine rT Try.results25 ?_
  exact ⟨by rw [HF.out]; rfl, rfl⟩
 have kb1 : (x.kind == 1) = false := beq_eq_false_iff_ne.2 k1
 refine go_ ?_
 by_cases k2 : x.kind = 2
 ·have HF : Hid (R = Q2) := by show _ = _; rw [show R = _ from HR2.out, show KB = _ from HK.out, if_neg k1, if_pos k2]
  have kb : (x.kind == 2) = true := beq_iff_eq.2 k2
  clear HR2 HK k2 k1
  refine go_ ?_
  refine Qaa (h2.out) ?_
  refine rT Try.results25 ?_
  exact ⟨by rw [HF.out]; rfl, rfl⟩
 have kb2 : (x.kind == 2) = false := beq_eq_false_iff_ne.2 k2
 refine go_ ?_
 by_cases k4 : x.kind = 4
 ·have HF : Hid (R = Q4) := by show _ = _; rw [show R = _ from HR2.out, show KB = _ from HK.out, if_neg k1, if_neg k2, if_pos k4]
  have kb : (x.kind == 4) = true := beq_iff_eq.2 k4
  clear HR2 HK k4 k2 k1
  refine go_ ?_
  refine Qaa (h4.out) ?_
  refine rT Try.results25 ?_
  exact ⟨by rw [HF.out]; rfl, rfl⟩
 have kb4 : (x.kind == 4) = false := beq_eq_false_iff_ne.2 k4
 refine go_ ?_
 by_cases k3 : x.kind = 3
 ·have HF : Hid (R = Q3) := by show _ = _; rw [show R = _ from HR2.out, show KB = _ from HK.out, if_neg k1, if_neg k2, if_neg k4, if_pos k3]
  have kb : (x.kind == 3) = true := beq_iff_eq.2 k3
  clear HR2 HK k3 k4 k2 k1
  refine go_ ?_
  refine Qaa (h3.out) ?_
  refine rT Try.results25 ?_
  exact ⟨by rw [HF.out]; rfl, rfl⟩
 have kb3 : (x.kind == 3) = false := beq_eq_false_iff_ne.2 k3
 have HF : Hid (R = false) := by show _ = _; rw [show R = _ from HR2.out, show KB = _ from HK.out, if_neg k1, if_neg k2, if_neg k4, if_neg k3]
 clear HR2 HK k3 k4 k2 k1
 refine go_ ?_
 refine rT Try.results25 ?_
 exact ⟨by rw [HF.out]; rfl, rfl⟩
def fam4R (l : List En) (x : En) (n : Nat) : Bool := match l[n]? with | some d => Qad d.ty && (((Qaz d.ty).length : Int) == x.pars + x.fields.length) | none => false
def fam3R (l : List En) (x : En) (i : Nat) : Bool := ((x.fields.length : Int) == 0) || ((x.inds == 0) && (((x.cons.length : Int) == 1) && ((runW x.fields ((i : Int) + 2) 0 && Qay l i x.fields 4 0) && fam4R l x (i + 1))))
def famR (l : List En) (x : En) (i : Nat) : Bool := fam1 x && (fam2 l x i (Qar x.ty (x.pars + x.inds)) && fam3R l x i)
theorem Qfu : ∀ (m : Nat) (t : Tm), cndT t ≤ m → Qad t = true → (Qaz t).length = piN t ∧ Qbv (piN t) t = some (Qaz t, benT t) ∧ (∀ n, n ≤ piN t → ∃ y, Qbv n t = some ((Qaz t).take n, y)) ∧ (∀ n, piN t < n → Qbv n t = none) ∧ Qad (benT t) = true ∧ ∀ s ∈ Qaz t, Qad s = true := by
  intro m
  induction m with
  | zero => intro t h; have := Qfk t; omega
  | succ m ih =>
    intro t h hs
    by_cases hk : t.kind = 3
    · obtain ⟨y, b, rfl, hy, hb⟩ := good_pi (Qbu hs).1 hk
      rw [cnd_two] at h
      have hp := Qfk y
      have hsp := Qgj hs
      obtain ⟨h1, h2, h3, h4, h5, h6⟩ := ih b (by omega) hsp.2
      rw [(tele_pi 0 y b).1, (tele_pi 0 y b).2, piN_pi]
      refine ⟨by rw [List.length_cons, h1], by rw [Qep, h2]; rfl, ?_, ?_, h5, ?_⟩
      · intro n hn
        cases n with
        | zero => exact ⟨_, rfl⟩
        | succ n =>
          obtain ⟨z, hz⟩ := h3 n (by omega)
          exact ⟨z, by rw [Qep, hz]; rfl⟩
      · intro n hn
        cases n with
        | zero => omega
        | succ n => rw [Qep, h4 n (by omega)]; rfl
      · intro s hm
        cases hm with
        | head => exact hsp.1
        | tail _ hm => exact h6 s hm
    · rw [(tele_no hk).1, (tele_no hk).2, piN_no (fun e => hk e.1)]
      refine ⟨rfl, rfl, ?_, ?_, hs, by simp⟩
      · intro n hn
        obtain rfl : n = 0 := by omega
        exact ⟨t, rfl⟩
      · intro n hn
        cases n with
        | zero => omega
        | succ n => exact cutPi_no hk
theorem whole_in {t : Tm} (hs : Qad t = true) (h : (Qaz t).length ≤ 24) : Qae t = (Qaz t, benT t, 0) := by
 obtain ⟨h1, h2, -⟩ := Qfu _ t (Nat.le_refl _) hs
 unfold Qae
 rw [show min (piN t : Int) 25 = (piN t : Int) by omega, split_in hs (by omega) (by omega), Int.toNat_natCast, h2]; rfl
theorem whole_out {t : Tm} (hs : Qad t = true) (h : ¬ (Qaz t).length ≤ 24) : Qae t = ([], .mk 0 0 [], 2) := by
 obtain ⟨h1, h2, -⟩ := Qfu _ t (Nat.le_refl _) hs
 unfold Qae Qar
 rw [show min (piN t : Int) 25 = 25 by omega, if_neg (by rw [hs]; simp), if_pos (by omega)]
theorem con_tele {l : List En} {x : En} (hs : Qad x.ty = true) : (((Qae x.ty).2.2 == 0) && (decide (x.pars ≤ (Qae x.ty).1.length) && Qax (Qae x.ty).2.1 x.of_ x.pars (Qdv l x.of_) (Qae x.ty).1.length)) =
  (decide (((Qaz x.ty).length : Int) ≤ 24) && (decide (x.pars ≤ (Qaz x.ty).length) && Qax (benT x.ty) x.of_ x.pars (Qdv l x.of_) (Qaz x.ty).length)) := by
 by_cases h : (Qaz x.ty).length ≤ 24
 ·rw [whole_in hs h, decide_eq_true (show ((Qaz x.ty).length : Int) ≤ 24 by omega)]; rfl
 ·rw [whole_out hs h, decide_eq_false (show ¬ ((Qaz x.ty).length : Int) ≤ 24 by omega)]; rfl
def kindR (l : List En) (x : En) (i : Nat) : Bool := if x.kind = 1 then famR l x i else if x.kind = 3 then defB x i else if x.kind = 2 then conB l x i else if x.kind = 4 then projB l x i else false
def nms (l : List En) : List ByteArray := l.map En.name
theorem nms_len (l : List En) : (nms l).length = l.length := List.length_map _
theorem nms_take {l : List En} {j : Nat} (h : j < l.length) : (nms l).take (j + 1) = (nms l).take j ++ [l[j].name] := by
 rw [List.take_succ_eq_append_getElem (by rw [nms_len]; exact h)]
 unfold nms
 rw [List.getElem_map]
theorem rows1s (l : List ByteArray) : ∀ row ∈ l.map encD, row.length = 1 := rows_of rfl
theorem snames_p (l : List En) (hl : l.length ≤ 100000) : PCalls Try.prog 24 [.d (.sl (l.map encD))] [] fun p s => p = .d (.sl ((nms l).map encD)) ∧ s = [] := by
 refine pG Try.func24 Try.ntmps24 ?_
 refine PW_own 3 9 1 (by decide) (by simp [PF.get] <;> rfl) fun g hg => ?_
 refine Qaf (ι := List ByteArray × Nat) (fun y => y.2 ≤ l.length ∧ Hid (y.1 = (nms l).take y.2)) (fun y => [(3, .own g (y.1.map encD)), (6, .d (.sl (l.map encD))), (7, .d (.v (.int .i64 l.length))), (8, .d (.v (.int .i64 (y.2 : Int))))]) (fun y => [.tok g 9 1 y.1.length]) (fun y => l.length - y.2) ([], 0) ⟨Nat.zero_le _, rfl⟩ ?_ ?_ ?_
 ·exact sU
 ·exact dR
 ·rintro ⟨m, j⟩ ⟨hj, hm⟩
  simp only at hj hm ⊢
  by_cases hlt : j < l.length
  ·have hx := Qam hlt
   have hc : (j : Int) < l.length := by omega
   have hn : (0 : Int) ≤ j := by omega
   have hin := wr64 (n := (j : Int) + 1) (by omega) (by omega)
   have hM : Hid (m ++ [l[j].name] = (nms l).take (j + 1)) := by show _ = _; rw [nms_take hlt, show m = _ from hm.out]
   have hml : m.length ≤ 100000 := by rw [show m = _ from hm.out, List.length_take]; omega
   clear hm
   refine go_ ?_
   refine Je ?_
   intro i2 hi2
   try simp only [Ja, Rh, Rg, Jb] at hi2
   refine go_ ?_
   refine Qab ?_
   refine Qbx ?_
   refine Qbq (m.length + 1) ?_ ?_ ?_ ?_
   ·simp
   ·exact rows1s _
   ·exact Qfp rfl
   refine go_ ?_
   refine ⟨(m ++ [l[j].name], j + 1), ⟨hlt, hM⟩, by simp only; omega, ?_, ?_⟩
   ·repeat (first | exact Jt _ | refine Js (by simp [PF.get]; rfl) (by first | rfl | (simp [Jg]; done) | fail) ?_)
   ·simp only [List.length_append, List.length_singleton]
    exact dR
  ·have hc : ¬ (j : Int) < l.length := by omega
   have hf : Hid (m = nms l) := by show _ = _; rw [show m = _ from hm.out, List.take_of_length_le (by rw [nms_len]; omega)]
   clear hm
   refine go_ ?_
   refine rT Try.results24 ?_
   exact ⟨by rw [hf.out]; rfl, rfl⟩
theorem slc_str {K : Kp} {w : World} {l : List ByteArray} {v : Value} (h : RelV K w (.d (.sl (l.map encD))) v) : Slc w v (l.map Value.string) ∧ ∀ x ∈ l, x.size ≤ maxLen := by
  cases h with
  | d h =>
    generalize hr : l.map encD = rows at h
    cases h with
    | @nil a cap hm =>
      have hl : l = [] := by cases l with | nil => rfl | cons x r => cases hr
      subst hl
      exact ⟨⟨a, cap, rfl, Nat.zero_le _, fun h => absurd rfl h⟩, by simp⟩
    | @sl sz _ b off cap vals h1 h2 h3 h4 h5 =>
      have hlen : rows.length = l.length := by rw [← hr, List.length_map]
      have hsz : 0 < l.length → sz = 1 := fun h0 => by
        rw [← h3 (encD l[0]) (by rw [← hr]; exact List.mem_map.2 ⟨_, List.getElem_mem h0, rfl⟩)]; rfl
      have hat : ∀ (i : Nat) (hi : i < l.length), w.cell? ⟨b, off + i, none⟩ = some (.string l[i]) ∧ l[i].size ≤ maxLen := by
        intro i hi
        have hri : rows[i]? = some [D.v (.string l[i])] := by rw [← hr, List.getElem?_map, List.getElem?_eq_getElem hi]; rfl
        have e1 := h4 i 0 _ _ hri rfl
        have e2 := h5 i 0 _ _ hri rfl
        rw [hsz (by omega), Nat.mul_one, Nat.add_zero] at e1
        generalize hu : vals i 0 = u at e1 e2
        cases e2 with
        | v h => exact ⟨e1.2, h⟩
      refine ⟨⟨some ⟨b, off, none⟩, cap, by rw [List.length_map, hlen], by rw [List.length_map]; omega, fun hne => ⟨b, off, rfl, fun j hj => ?_⟩⟩, fun x hx => ?_⟩
      · rw [List.length_map] at hj
        rw [(hat j hj).1, List.getElem?_map, List.getElem?_eq_getElem hj]; rfl
      · obtain ⟨i, hi, rfl⟩ := List.getElem_of_mem hx
        exact (hat i hi).2
noncomputable def distB (l : List ByteArray) : Bool := @decide (DistN l l.length) (Classical.propDecidable _)
theorem dist_iff (l : List ByteArray) : distB l = true ↔ DistN l l.length := @decide_eq_true_iff _ (Classical.propDecidable _)
theorem dist_ret {l : List ByteArray} {b : Bool} (h : b = true ↔ DistN l l.length) : b = distB l := by
 rw [Bool.eq_iff_iff, h, dist_iff]
theorem sdistinct_p (l : List ByteArray) (hl : l.length ≤ 8192) : PCalls Try.prog 23 [.d (.sl (l.map encD))] [] fun p s => p = .d (.v (.bool (distB l))) ∧ s = [] := by
 refine PCalls.flat trivial fun K w vs ha => ?_
 obtain ⟨v, rfl, hv⟩ := ha.one
 obtain ⟨h1, h2⟩ := slc_str hv
 refine (distinct_any l v w h1 h2 hl).mono ?_
 rintro e w' ⟨⟨b, rfl, hb⟩, hbe⟩
 exact ⟨by rw [dist_ret hb], hbe⟩
def allP (p : En → Nat → Bool) : List En → Nat → Bool
 | [], _ => true
 | x :: r, i => p x i && allP p r (i + 1)
theorem allP_iff (p : En → Nat → Bool) : ∀ (r : List En) (i : Nat), allP p r i = true ↔ ∀ (j : Nat) (x : En), r[j]? = some x → p x (i + j) = true := by
  intro r
  induction r with
  | nil => intro i; simp [allP]
  | cons y r ih =>
    intro i
    simp only [allP, Bool.and_eq_true, ih]
    constructor
    · rintro ⟨h1, h2⟩ j x hx
      cases j with
      | zero => cases hx; exact h1
      | succ j => rw [show i + (j + 1) = i + 1 + j by omega]; exact h2 j x (by simpa using hx)
    · intro h
      exact ⟨h 0 y rfl, fun j x hx => by rw [show i + 1 + j = i + (j + 1) by omega]; exact h (j + 1) x (by simpa using hx)⟩
noncomputable def formedB (l : List En) : Bool := decide ((l.length : Int) ≤ 256) && (distB (nms l) && allP (Qbf l) l 0)
theorem kind_con {l : List En} {d : En} {i : Nat} (hk : d.kind = 2) : kindB l d i = conB l d i ∧ kindR l d i = conB l d i := by
 unfold kindB kindR
 rw [hk]; simp
theorem fam_ok {l : List En} {i : Nat} (h : ∀ (j : Nat) (x : En), j < i → l[j]? = some x → Qbf l x j = true) : FamOk l i := by
 intro q d hq hd hk
 have h1 := h q d hq hd
 unfold Qbf kindB at h1
 rw [if_pos hk] at h1
 simp only [Bool.and_eq_true] at h1
 have h2 := h1.2.2
 unfold famB fam1 at h2
 simp only [Bool.and_eq_true, decide_eq_true_eq] at h2
 obtain ⟨⟨a, b, c, e, -⟩, -⟩ := h2
 omega
end Go.Proofs.Ytpaifjlikgnlfaa
