import Derived.Test.YtdklpbefbamchaaGreatBE
import Derived.Test.YtdklpbefbamchaaGreatBE2
import Derived.Test.YtdklpbefbamchaaGreatBA3
import Derived.Maps.OwnOps
import Derived.Lib.SliceRun
import Derived.Test.YtdklpbefbamchaaGreatProg
import Derived.Test.YtdklpbefbamchaaGreatBN
set_option linter.unusedSimpArgs false
set_option linter.unusedVariables false
set_option maxHeartbeats 16000000
set_option maxRecDepth 100000
namespace Go.Proofs.YtdklpbefbamchaaGreat
open Go.RowKit
structure En where
 kind : Int
 name : ByteArray
 ty : Tm
 body : Tm
 of_ : Int
 place : Int
 pars : Int
 inds : Int
 level : Int
 cons : List Int
 fields : List Int
instance : Enc En := ⟨15, fun e => [.v (.int .i64 e.kind), .str e.name] ++ tmD e.ty ++ tmD e.body ++ [.v (.int .i64 e.of_), .v (.int .i64 e.place), .v (.int .i64 e.pars), .v (.int .i64 e.inds), .v (.int .i64 e.level), .s 1 (e.cons.map Enc.enc), .s 1 (e.fields.map Enc.enc)], fun e => by simp [tmD_len]⟩
instance : EncOk En := ⟨fun e d hd => by
 simp only [Enc.enc, List.mem_append, List.mem_cons, List.not_mem_nil, or_false] at hd
 rcases hd with (((rfl | rfl) | hd) | hd) | rfl | rfl | rfl | rfl | rfl | rfl | rfl
 ·exact .v trivial
 ·exact .str
 ·exact tmD_ok _ d hd
 ·exact tmD_ok _ d hd
 ·exact .v trivial
 ·exact .v trivial
 ·exact .v trivial
 ·exact .v trivial
 ·exact .v trivial
 ·exact Qjt (α := Int) (by decide) e.cons
 ·exact Qjt (α := Int) (by decide) e.fields⟩
@[simp] theorem Qje (e : En) : encD e = [.v (.int .i64 e.kind), .v (.string e.name), .v (.int .i64 e.ty.kind), .v (.int .i64 e.ty.num), .sl (e.ty.sub.map encD), .v (.int .i64 e.body.kind), .v (.int .i64 e.body.num), .sl (e.body.sub.map encD), .v (.int .i64 e.of_), .v (.int .i64 e.place), .v (.int .i64 e.pars), .v (.int .i64 e.inds), .v (.int .i64 e.level), .sl (e.cons.map encD), .sl (e.fields.map encD)] := by
 have h1 := Jl e.ty
 have h2 := Jl e.body
 unfold encD at h1 h2 ⊢
 simp only [Enc.enc] at h1 h2 ⊢
 rw [Qfy, Qfy, Qfy, h1, h2]
 simp only [dtL, dtD, Qfx, List.map_map]
 rfl
def Qeq (s : ByteArray) : List En → Nat → Option Nat
 | [], _ => none
 | x :: r, i => if (x.name.toList == s.toList) = true then some i else Qeq s r (i + 1)
def findP : Option Nat → PV
 | some i => .tup [.d (.v (.int .i64 (i : Int))), .d (.v (.int .i64 0))]
 | none => .tup [.d (.v (.int .i64 0)), .d (.v (.int .i64 16))]
theorem sfind_p (l : List En) (s : ByteArray) : PCalls Tryz.prog 142 [.d (.sl (l.map encD)), .d (.v (.string s))] [] fun p st => p = findP (Qeq s l 0) ∧ st = [] := by
  obtain ⟨R, hR⟩ : ∃ R, R = Qeq s l 0 := ⟨_, rfl⟩
  rw [← hR]
  have HR : Hid (R = Qeq s (l.drop 0) 0) := hR
  clear hR
  refine pE Tryz.func142 Tryz.ntmps142 ?_
  refine Qfa (t := 0) (rows := l.map encD) (by simp [PF.get] <;> rfl) rfl fun hml => ?_
  rw [List.length_map] at hml
  unfold maxLen at hml
  refine go_ ?_
  refine Qai (ι := Nat) (fun y => y ≤ l.length ∧ Hid (R = Qeq s (l.drop y) y)) (fun y => [(1, .d (.v (.string s))), (8, .d (.sl (l.map encD))), (9, .d (.v (.int .i64 l.length))), (10, .d (.v (.int .i64 (y : Int))))]) (fun _ => []) (fun y => l.length - y) 0 ⟨Nat.zero_le _, HR.out⟩ ?_ ?_ ?_
  · exact sU
  · exact dR
  · rintro j ⟨hj, hR⟩
    clear HR
    by_cases hlt : j < l.length
    · have hx := Qaq hlt
      have hc : (j : Int) < l.length := by omega
      have hn : (0 : Int) ≤ j := by omega
      have hin := wr64 (n := (j : Int) + 1) (by omega) (by omega)
      have hR2 : Hid (R = if (l[j].name.toList == s.toList) = true then some j else Qeq s (l.drop (j + 1)) (j + 1)) := by
        rw [show R = _ from hR.out, List.drop_eq_getElem_cons hlt]; rfl
      clear hR
      cases hq : (l[j].name.toList == s.toList) with
      | true =>
        have hf : Hid (R = some j) := by show _ = _; rw [show R = _ from hR2.out, hq]; rfl
        clear hR2
        refine go_ ?_
        refine Je ?_
        intro i2 hi2
        try simp only [Ja, Rh, Rg, Jb] at hi2
        refine go_ ?_
        refine Qaa ?_
        refine rT Tryz.results142 ?_
        exact ⟨by rw [hf.out]; rfl, rfl⟩
      | false =>
        have hR3 : Hid (R = Qeq s (l.drop (j + 1)) (j + 1)) := by show _ = _; rw [show R = _ from hR2.out, hq]; rfl
        clear hR2
        refine go_ ?_
        refine Je ?_
        intro i2 hi2
        try simp only [Ja, Rh, Rg, Jb] at hi2
        refine go_ ?_
        refine Qaa ?_
        exact ⟨j + 1, ⟨hlt, hR3⟩, by omega, sU, dR⟩
    · have hc : ¬ (j : Int) < l.length := by omega
      have hf : Hid (R = none) := by rw [show R = _ from hR.out, List.drop_of_length_le (by omega)]; rfl
      refine go_ ?_
      refine rT Tryz.results142 ?_
      exact ⟨by rw [hf.out]; rfl, rfl⟩
def Qez (t : Tm) : Bool := t.kind == 0 && (t.num == 0 && ((t.sub.length : Int) == 0))
theorem snone_p (t : Tm) : PCalls Tryz.prog 244 [aggD t] [] fun p s => p = .d (.v (.bool (Qez t))) ∧ s = [] := by
 obtain ⟨R, hR⟩ : ∃ R, R = Qez t := ⟨_, rfl⟩
 rw [← hR]
 unfold Qez at hR
 have HR := Hh hR
 clear hR
 simp only [aggD, Jl, List.map_cons, List.map_nil]
 refine pG Tryz.func244 Tryz.ntmps244 ?_
 refine Jd ?_
 intro i0 hi0
 refine go_ ?_
 rcases Bool.eq_false_or_eq_true (t.kind == 0) with h1 | h1
 rotate_left
 ·refine go_ ?_
  refine rT Tryz.results244 ?_
  exact ⟨by rw [HR.out]; simp [tupP, PV.norm2, PV.norm1, PV.norm0, *], rfl⟩
 refine go_ ?_
 rcases Bool.eq_false_or_eq_true (t.num == 0) with h2 | h2
 rotate_left
 ·refine go_ ?_
  refine rT Tryz.results244 ?_
  exact ⟨by rw [HR.out]; simp [tupP, PV.norm2, PV.norm1, PV.norm0, *], rfl⟩
 refine go_ ?_
 refine rT Tryz.results244 ?_
 exact ⟨by rw [HR.out]; simp [tupP, PV.norm2, PV.norm1, PV.norm0, *], rfl⟩
theorem rzero_p (t : Tm) : PCalls Tryz.prog 208 [aggD t] [] fun p s => p = .d (.v (.bool (Qez t))) ∧ s = [] := by
 obtain ⟨R, hR⟩ : ∃ R, R = Qez t := ⟨_, rfl⟩
 rw [← hR]
 unfold Qez at hR
 have HR := Hh hR
 clear hR
 simp only [aggD, Jl, List.map_cons, List.map_nil]
 refine pG Tryz.func208 Tryz.ntmps208 ?_
 refine Jd ?_
 intro i0 hi0
 refine go_ ?_
 rcases Bool.eq_false_or_eq_true (t.kind == 0) with h1 | h1
 rotate_left
 ·refine go_ ?_
  refine rT Tryz.results208 ?_
  exact ⟨by rw [HR.out]; simp [tupP, PV.norm2, PV.norm1, PV.norm0, *], rfl⟩
 refine go_ ?_
 rcases Bool.eq_false_or_eq_true (t.num == 0) with h2 | h2
 rotate_left
 ·refine go_ ?_
  refine rT Tryz.results208 ?_
  exact ⟨by rw [HR.out]; simp [tupP, PV.norm2, PV.norm1, PV.norm0, *], rfl⟩
 refine go_ ?_
 refine rT Tryz.results208 ?_
 exact ⟨by rw [HR.out]; simp [tupP, PV.norm2, PV.norm1, PV.norm0, *], rfl⟩
def isE (l : List En) (n k : Int) : Bool := decide (0 ≤ n) && (decide (n < l.length) && (match l[n.toNat]? with | some e => e.kind == k | none => false))
theorem sis_p (l : List En) (n k : Int) : PCalls Tryz.prog 288 [.d (.sl (l.map encD)), .d (.v (.int .i64 n)), .d (.v (.int .i64 k))] [] fun p s => p = .d (.v (.bool (isE l n k))) ∧ s = [] := by
 obtain ⟨R, hR⟩ : ∃ R, R = isE l n k := ⟨_, rfl⟩
 rw [← hR]
 unfold isE at hR
 by_cases h0 : 0 ≤ n
 ·by_cases h1 : n < l.length
  ·obtain ⟨m, rfl⟩ : ∃ m : Nat, n = m := ⟨n.toNat, by omega⟩
   have hlt : m < l.length := by omega
   have hx := Qaq hlt
   rw [Int.toNat_natCast, List.getElem?_eq_getElem hlt] at hR
   have hf : Hid (R = (l[m].kind == k)) := by show _ = _; rw [hR]; simp [h0, h1]
   clear hR
   refine pG Tryz.func288 Tryz.ntmps288 ?_
   refine rT Tryz.results288 ?_
   exact ⟨by rw [hf.out]; rfl, rfl⟩
  ·have hf : Hid (R = false) := by show _ = _; rw [hR]; simp [h1]
   clear hR
   refine pG Tryz.func288 Tryz.ntmps288 ?_
   refine rT Tryz.results288 ?_
   exact ⟨by rw [hf.out]; rfl, rfl⟩
 ·have hf : Hid (R = false) := by show _ = _; rw [hR]; simp [h0]
  clear hR
  refine pG Tryz.func288 Tryz.ntmps288 ?_
  refine rT Tryz.results288 ?_
  exact ⟨by rw [hf.out]; rfl, rfl⟩
theorem ris_p (l : List En) (n k : Int) : PCalls Tryz.prog 93 [.d (.sl (l.map encD)), .d (.v (.int .i64 n)), .d (.v (.int .i64 k))] [] fun p s => p = .d (.v (.bool (isE l n k))) ∧ s = [] := by
 obtain ⟨R, hR⟩ : ∃ R, R = isE l n k := ⟨_, rfl⟩
 rw [← hR]
 unfold isE at hR
 by_cases h0 : 0 ≤ n
 ·by_cases h1 : n < l.length
  ·obtain ⟨m, rfl⟩ : ∃ m : Nat, n = m := ⟨n.toNat, by omega⟩
   have hlt : m < l.length := by omega
   have hx := Qaq hlt
   rw [Int.toNat_natCast, List.getElem?_eq_getElem hlt] at hR
   have hf : Hid (R = (l[m].kind == k)) := by show _ = _; rw [hR]; simp [h0, h1]
   clear hR
   refine pG Tryz.func93 Tryz.ntmps93 ?_
   refine rT Tryz.results93 ?_
   exact ⟨by rw [hf.out]; rfl, rfl⟩
  ·have hf : Hid (R = false) := by show _ = _; rw [hR]; simp [h1]
   clear hR
   refine pG Tryz.func93 Tryz.ntmps93 ?_
   refine rT Tryz.results93 ?_
   exact ⟨by rw [hf.out]; rfl, rfl⟩
 ·have hf : Hid (R = false) := by show _ = _; rw [hR]; simp [h0]
  clear hR
  refine pG Tryz.func93 Tryz.ntmps93 ?_
  refine rT Tryz.results93 ?_
  exact ⟨by rw [hf.out]; rfl, rfl⟩
def runW : List Int → Int → Nat → Bool
 | [], _, _ => true
 | n :: l, f, i => (n == IntKind.i64.wrap (f + i)) && runW l f (i + 1)
theorem srun_p (l : List Int) (f : Int) : PCalls Tryz.prog 246 [.d (.sl (l.map encD)), .d (.v (.int .i64 f))] [] fun p s => p = .d (.v (.bool (runW l f 0))) ∧ s = [] := by
 obtain ⟨R, hR⟩ : ∃ R, R = runW l f 0 := ⟨_, rfl⟩
 rw [← hR]
 have HR : Hid (R = runW (l.drop 0) f 0) := hR
 clear hR
 refine pE Tryz.func246 Tryz.ntmps246 ?_
 refine Qfa (t := 0) (rows := l.map encD) (by simp [PF.get] <;> rfl) rfl fun hml => ?_
 rw [List.length_map] at hml
 unfold maxLen at hml
 refine go_ ?_
 refine Qai (ι := Nat) (fun y => y ≤ l.length ∧ Hid (R = runW (l.drop y) f y)) (fun y => [(1, .d (.v (.int .i64 f))), (7, .d (.sl (l.map encD))), (8, .d (.v (.int .i64 l.length))), (9, .d (.v (.int .i64 (y : Int))))]) (fun _ => []) (fun y => l.length - y) 0 ⟨Nat.zero_le _, HR.out⟩ ?_ ?_ ?_
 ·exact sU
 ·exact dR
 ·rintro j ⟨hj, hR⟩
  clear HR
  by_cases hlt : j < l.length
  ·have hx := Qaq hlt
   have hc : (j : Int) < l.length := by omega
   have hn : (0 : Int) ≤ j := by omega
   have hin := wr64 (n := (j : Int) + 1) (by omega) (by omega)
   have hR2 : Hid (R = ((l[j] == IntKind.i64.wrap (f + j)) && runW (l.drop (j + 1)) f (j + 1))) := by
    rw [show R = _ from hR.out, List.drop_eq_getElem_cons hlt]; rfl
   clear hR
   by_cases he : l[j] = IntKind.i64.wrap (f + j)
   ·have hR3 : Hid (R = runW (l.drop (j + 1)) f (j + 1)) := by show _ = _; rw [show R = _ from hR2.out, beq_iff_eq.2 he]; rfl
    have he2 : (l[j] != IntKind.i64.wrap (f + j)) = false := by rw [he]; simp
    clear hR2 he
    refine go_ ?_
    exact ⟨j + 1, ⟨hlt, hR3⟩, by omega, sU, dR⟩
   ·have hf : Hid (R = false) := by show _ = _; rw [show R = _ from hR2.out, beq_eq_false_iff_ne.2 he]; rfl
    have he2 : (l[j] != IntKind.i64.wrap (f + j)) = true := bne_iff_ne.2 he
    clear hR2 he
    refine go_ ?_
    refine rT Tryz.results246 ?_
    exact ⟨by rw [hf.out]; rfl, rfl⟩
  ·have hc : ¬ (j : Int) < l.length := by omega
   have hf : Hid (R = true) := by show _ = _; rw [show R = _ from hR.out, List.drop_of_length_le (by omega)]; rfl
   refine go_ ?_
   refine rT Tryz.results246 ?_
   exact ⟨by rw [hf.out]; rfl, rfl⟩
def memE (l : List En) (of_ n k : Int) (i : Nat) : Bool := isE l n k && (match l[n.toNat]? with | some e => e.of_ == of_ && e.place == (i : Int) | none => false)
def Qbp (l : List En) (of_ : Int) : List Int → Int → Nat → Bool
 | [], _, _ => true
 | n :: r, k, i => memE l of_ n k i && Qbp l of_ r k (i + 1)
theorem Qjf {l : List En} {n k : Int} (h : isE l n k = true) : ∃ m : Nat, n = m ∧ ∃ hlt : m < l.length, l[m].kind = k := by
 unfold isE at h
 simp only [Bool.and_eq_true, decide_eq_true_eq] at h
 obtain ⟨h0, h1, h2⟩ := h
 obtain ⟨m, rfl⟩ : ∃ m : Nat, n = m := ⟨n.toNat, by omega⟩
 have hlt : m < l.length := by omega
 rw [Int.toNat_natCast, List.getElem?_eq_getElem hlt] at h2
 exact ⟨m, rfl, hlt, beq_iff_eq.1 h2⟩
theorem smembers_p (l : List En) (of_ k : Int) (r : List Int) : PCalls Tryz.prog 247 [.d (.sl (l.map encD)), .d (.v (.int .i64 of_)), .d (.sl (r.map encD)), .d (.v (.int .i64 k))] [] fun p s => p = .d (.v (.bool (Qbp l of_ r k 0))) ∧ s = [] := by
  obtain ⟨R, hR⟩ : ∃ R, R = Qbp l of_ r k 0 := ⟨_, rfl⟩
  rw [← hR]
  have HR : Hid (R = Qbp l of_ (r.drop 0) k 0) := hR
  clear hR
  refine pE Tryz.func247 Tryz.ntmps247 ?_
  refine Qfa (t := 0 + 1 + 1) (rows := r.map encD) (by simp [PF.get] <;> rfl) rfl fun hml => ?_
  rw [List.length_map] at hml
  unfold maxLen at hml
  refine go_ ?_
  refine Qai (ι := Nat) (fun y => y ≤ r.length ∧ Hid (R = Qbp l of_ (r.drop y) k y)) (fun y => [(0, .d (.sl (l.map encD))), (1, .d (.v (.int .i64 of_))), (3, .d (.v (.int .i64 k))), (11, .d (.sl (r.map encD))), (12, .d (.v (.int .i64 r.length))), (13, .d (.v (.int .i64 (y : Int))))]) (fun _ => []) (fun y => r.length - y) 0 ⟨Nat.zero_le _, HR.out⟩ ?_ ?_ ?_
  · exact sU
  · exact dR
  · rintro j ⟨hj, hR⟩
    clear HR
    by_cases hlt : j < r.length
    · have hx := Qaq hlt
      have hc : (j : Int) < r.length := by omega
      have hn : (0 : Int) ≤ j := by omega
      have hin := wr64 (n := (j : Int) + 1) (by omega) (by omega)
      have hR2 : Hid (R = (memE l of_ r[j] k j && Qbp l of_ (r.drop (j + 1)) k (j + 1))) := by
        rw [show R = _ from hR.out, List.drop_eq_getElem_cons hlt]; rfl
      have hS := Hh (sis_p l r[j] k)
      clear hR
      cases hb : isE l r[j] k with
      | false =>
        have hf : Hid (R = false) := by show _ = _; rw [show R = _ from hR2.out]; unfold memE; rw [hb]; rfl
        rw [hb] at hS
        clear hR2 hb
        refine go_ ?_
        refine Qab (hS.out) ?_
        refine rT Tryz.results247 ?_
        exact ⟨by rw [hf.out]; rfl, rfl⟩
      | true =>
        obtain ⟨q, hq, hql, hqk⟩ := Qjf hb
        have hxq := Qaq hql
        have hq0 : (0 : Int) ≤ q := by omega
        have hR3 : Hid (R = ((l[q].of_ == of_ && l[q].place == (j : Int)) && Qbp l of_ (r.drop (j + 1)) k (j + 1))) := by
          show _ = _
          rw [show R = _ from hR2.out]
          unfold memE
          rw [hb, hq, Int.toNat_natCast, List.getElem?_eq_getElem hql]; rfl
        rw [hb, hq] at hS
        clear hR2 hb hqk
        refine go_ ?_
        refine Qab (hS.out) ?_
        by_cases h1 : l[q].of_ = of_
        rotate_left
        · have h1b : (l[q].of_ != of_) = true := bne_iff_ne.2 h1
          have hf : Hid (R = false) := by show _ = _; rw [show R = _ from hR3.out, beq_eq_false_iff_ne.2 h1]; rfl
          clear h1 hR3
          refine go_ ?_
          refine rT Tryz.results247 ?_
          exact ⟨by rw [hf.out]; rfl, rfl⟩
        · have h1b : (l[q].of_ != of_) = false := by rw [h1]; simp
          have h1c : (l[q].of_ == of_) = true := beq_iff_eq.2 h1
          clear h1
          refine go_ ?_
          by_cases h2 : l[q].place = (j : Int)
          rotate_left
          · have h2b : (l[q].place != (j : Int)) = true := bne_iff_ne.2 h2
            have hf : Hid (R = false) := by show _ = _; rw [show R = _ from hR3.out, beq_eq_false_iff_ne.2 h2]; simp
            clear h2 hR3
            refine go_ ?_
            refine rT Tryz.results247 ?_
            exact ⟨by rw [hf.out]; rfl, rfl⟩
          · have h2b : (l[q].place != (j : Int)) = false := by rw [h2]; simp
            have hR4 : Hid (R = Qbp l of_ (r.drop (j + 1)) k (j + 1)) := by show _ = _; rw [show R = _ from hR3.out, h1c, beq_iff_eq.2 h2]; rfl
            clear h2 hR3
            refine go_ ?_
            exact ⟨j + 1, ⟨hlt, hR4⟩, by omega, sU, dR⟩
    · have hc : ¬ (j : Int) < r.length := by omega
      have hf : Hid (R = true) := by show _ = _; rw [show R = _ from hR.out, List.drop_of_length_le (by omega)]; rfl
      refine go_ ?_
      refine rT Tryz.results247 ?_
      exact ⟨by rw [hf.out]; rfl, rfl⟩
def rowW (l : List En) (of_ : Int) : List Int → Int → Int → Nat → Bool
 | [], _, _, _ => true
 | n :: r, f, k, i => ((n == IntKind.i64.wrap (f + i)) && memE l of_ n k i) && rowW l of_ r f k (i + 1)
theorem row_eq (l : List En) (of_ f k : Int) : ∀ (r : List Int) (i : Nat), rowW l of_ r f k i = (runW r f i && Qbp l of_ r k i) := by
  intro r
  induction r with
  | nil => intro i; rfl
  | cons n r ih =>
    intro i
    simp only [rowW, runW, Qbp, ih]
    cases (n == IntKind.i64.wrap (f + i)) <;> cases memE l of_ n k i <;> simp
theorem rrow_p (l : List En) (r : List Int) (f of_ k : Int) : PCalls Tryz.prog 210 [.d (.sl (l.map encD)), .d (.sl (r.map encD)), .d (.v (.int .i64 f)), .d (.v (.int .i64 of_)), .d (.v (.int .i64 k))] [] fun p s => p = .d (.v (.bool (runW r f 0 && Qbp l of_ r k 0))) ∧ s = [] := by
  rw [← row_eq]
  obtain ⟨R, hR⟩ : ∃ R, R = rowW l of_ r f k 0 := ⟨_, rfl⟩
  rw [← hR]
  have HR : Hid (R = rowW l of_ (r.drop 0) f k 0) := hR
  clear hR
  refine pE Tryz.func210 Tryz.ntmps210 ?_
  refine Qfa (t := 0 + 1) (rows := r.map encD) (by simp [PF.get] <;> rfl) rfl fun hml => ?_
  rw [List.length_map] at hml
  unfold maxLen at hml
  refine go_ ?_
  refine Qai (ι := Nat) (fun y => y ≤ r.length ∧ Hid (R = rowW l of_ (r.drop y) f k y)) (fun y => [(0, .d (.sl (l.map encD))), (1, .d (.sl (r.map encD))), (2, .d (.v (.int .i64 f))), (3, .d (.v (.int .i64 of_))), (4, .d (.v (.int .i64 k))), (11, .d (.v (.int .i64 (y : Int))))]) (fun _ => []) (fun y => r.length - y) 0 ⟨Nat.zero_le _, HR.out⟩ ?_ ?_ ?_
  · exact sU
  · exact dR
  · rintro j ⟨hj, hR⟩
    clear HR
    by_cases hlt : j < r.length
    · have hx := Qaq hlt
      have hc : (j : Int) < r.length := by omega
      have hn : (0 : Int) ≤ j := by omega
      have hin := wr64 (n := (j : Int) + 1) (by omega) (by omega)
      have hR2 : Hid (R = (((r[j] == IntKind.i64.wrap (f + j)) && memE l of_ r[j] k j) && rowW l of_ (r.drop (j + 1)) f k (j + 1))) := by
        rw [show R = _ from hR.out, List.drop_eq_getElem_cons hlt]; rfl
      have hS := Hh (ris_p l r[j] k)
      clear hR
      by_cases he : r[j] = IntKind.i64.wrap (f + j)
      rotate_left
      · have hf : Hid (R = false) := by show _ = _; rw [show R = _ from hR2.out, beq_eq_false_iff_ne.2 he]; rfl
        have he2 : (r[j] != IntKind.i64.wrap (f + j)) = true := bne_iff_ne.2 he
        clear hR2 he
        refine go_ ?_
        refine rT Tryz.results210 ?_
        exact ⟨by rw [hf.out]; rfl, rfl⟩
      have he2 : (r[j] != IntKind.i64.wrap (f + j)) = false := by rw [he]; simp
      have hR3 : Hid (R = (memE l of_ r[j] k j && rowW l of_ (r.drop (j + 1)) f k (j + 1))) := by show _ = _; rw [show R = _ from hR2.out, beq_iff_eq.2 he]; rfl
      clear hR2 he
      cases hb : isE l r[j] k with
      | false =>
        have hf : Hid (R = false) := by show _ = _; rw [show R = _ from hR3.out]; unfold memE; rw [hb]; rfl
        rw [hb] at hS
        clear hR3 hb
        refine go_ ?_
        refine Qab (hS.out) ?_
        refine rT Tryz.results210 ?_
        exact ⟨by rw [hf.out]; rfl, rfl⟩
      | true =>
        obtain ⟨q, hq, hql, hqk⟩ := Qjf hb
        have hxq := Qaq hql
        have hq0 : (0 : Int) ≤ q := by omega
        have hR4 : Hid (R = ((l[q].of_ == of_ && l[q].place == (j : Int)) && rowW l of_ (r.drop (j + 1)) f k (j + 1))) := by
          show _ = _
          rw [show R = _ from hR3.out]
          unfold memE
          rw [hb, hq, Int.toNat_natCast, List.getElem?_eq_getElem hql]; rfl
        rw [hb, hq] at hS
        rw [hq] at he2
        clear hR3 hb hqk
        refine go_ ?_
        refine Qab (hS.out) ?_
        by_cases h1 : l[q].of_ = of_
        rotate_left
        · have h1b : (l[q].of_ != of_) = true := bne_iff_ne.2 h1
          have hf : Hid (R = false) := by show _ = _; rw [show R = _ from hR4.out, beq_eq_false_iff_ne.2 h1]; rfl
          clear h1 hR4
          refine go_ ?_
          refine rT Tryz.results210 ?_
          exact ⟨by rw [hf.out]; rfl, rfl⟩
        · have h1b : (l[q].of_ != of_) = false := by rw [h1]; simp
          have h1c : (l[q].of_ == of_) = true := beq_iff_eq.2 h1
          clear h1
          refine go_ ?_
          by_cases h2 : l[q].place = (j : Int)
          rotate_left
          · have h2b : (l[q].place != (j : Int)) = true := bne_iff_ne.2 h2
            have hf : Hid (R = false) := by show _ = _; rw [show R = _ from hR4.out, beq_eq_false_iff_ne.2 h2]; simp
            clear h2 hR4
            refine go_ ?_
            refine rT Tryz.results210 ?_
            exact ⟨by rw [hf.out]; rfl, rfl⟩
          · have h2b : (l[q].place != (j : Int)) = false := by rw [h2]; simp
            have hR5 : Hid (R = rowW l of_ (r.drop (j + 1)) f k (j + 1)) := by show _ = _; rw [show R = _ from hR4.out, h1c, beq_iff_eq.2 h2]; rfl
            clear h2 hR4
            refine go_ ?_
            exact ⟨j + 1, ⟨hlt, hR5⟩, by omega, sU, dR⟩
    · have hc : ¬ (j : Int) < r.length := by omega
      have hf : Hid (R = true) := by show _ = _; rw [show R = _ from hR.out, List.drop_of_length_le (by omega)]; rfl
      refine go_ ?_
      refine rT Tryz.results210 ?_
      exact ⟨by rw [hf.out]; rfl, rfl⟩
def Qct (t : Tm) (e : Int) : Bool := Qfi t 0 e && ((nmT 8 8 t).length : Int) == 0
theorem sclosed_p (t : Tm) (e : Int) : PCalls Tryz.prog 188 [aggD t, .d (.v (.int .i64 e))] [] fun p s => p = .d (.v (.bool (Qct t e))) ∧ s = [] := by
  have hR := Hh (tRight_p t 0 e)
  have hF := Hh (tfrees_p t)
  have HR := Hh (show Qct t e = (Qfi t 0 e && ((nmT 8 8 t).length : Int) == 0) from rfl)
  generalize Qct t e = R at *
  cases hb : Qfi t 0 e with
  | false =>
    rw [hb] at hR HR
    simp only [aggD, Jl, List.map_cons, List.map_nil] at hR ⊢
    clear hb
    refine pG Tryz.func188 Tryz.ntmps188 ?_
    refine Jd ?_
    intro i0 hi0
    refine go_ ?_
    refine Qab (hR.out) ?_
    refine rT Tryz.results188 ?_
    exact ⟨by rw [HR.out]; rfl, rfl⟩
  | true =>
    have hs : Qak t = true := by unfold Qfi at hb; simp only [Bool.and_eq_true] at hb; exact hb.1.1
    have hen : enT 8 8 t = nmT 8 8 t := if_pos hs
    rw [hb] at hR HR
    rw [hen] at hF
    simp only [aggD, Jl, List.map_cons, List.map_nil] at hR hF ⊢
    clear hb hs hen
    refine pG Tryz.func188 Tryz.ntmps188 ?_
    refine Jd ?_
    intro i0 hi0
    refine go_ ?_
    refine Qab (hR.out) ?_
    refine Qab (hF.out) ?_
    refine rT Tryz.results188 ?_
    exact ⟨by rw [HR.out]; simp [tupP, PV.norm2, PV.norm1, PV.norm0], rfl⟩
theorem rclosed_p (t : Tm) (e : Int) : PCalls Tryz.prog 24 [aggD t, .d (.v (.int .i64 e))] [] fun p s => p = .d (.v (.bool (Qct t e))) ∧ s = [] := by
  have hR := Hh (rRight_p t 0 e)
  have HR := Hh (show Qct t e = (Qfi t 0 e && ((nmT 8 8 t).length : Int) == 0) from rfl)
  generalize Qct t e = R at *
  cases hb : Qfi t 0 e with
  | false =>
    rw [hb] at hR HR
    simp only [aggD, Jl, List.map_cons, List.map_nil] at hR ⊢
    clear hb
    refine pG Tryz.func24 Tryz.ntmps24 ?_
    refine Jd ?_
    intro i0 hi0
    refine go_ ?_
    refine Qab (hR.out) ?_
    refine rT Tryz.results24 ?_
    exact ⟨by rw [HR.out]; rfl, rfl⟩
  | true =>
    have hs : Qak t = true := by unfold Qfi at hb; simp only [Bool.and_eq_true] at hb; exact hb.1.1
    have hF := Hh (rnumbers_p t 8 8 (by have := (Qbu hs).2.2; omega))
    rw [hb] at hR HR
    simp only [aggD, Jl, List.map_cons, List.map_nil] at hR hF ⊢
    clear hb hs
    refine pG Tryz.func24 Tryz.ntmps24 ?_
    refine Jd ?_
    intro i0 hi0
    refine go_ ?_
    refine Qab (hR.out) ?_
    refine Qab (hF.out) ?_
    refine rT Tryz.results24 ?_
    exact ⟨by rw [HR.out]; simp [tupP, PV.norm2, PV.norm1, PV.norm0], rfl⟩
def Qhv (args : List Tm) (binders : Int) : Nat → Nat → Bool
 | 0, _ => true
 | n + 1, i => (match args[i]? with | some a => a.kind == 1 && a.num == binders - 1 - (i : Int) | none => false) && Qhv args binders n (i + 1)
def Qbv (t : Tm) (of_ pars more binders : Int) : Bool := (Qfz t).kind == 6 && ((Qfz t).num == of_ && ((((Qeo t).length : Int) == pars + more) && Qhv (Qeo t) binders pars.toNat 0))
theorem sapplied_p (t : Tm) (of_ pars more binders : Int) (hs : Qak t = true) (hp0 : 0 ≤ pars) (hp1 : pars ≤ 24) (hm0 : 0 ≤ more) (hm1 : more ≤ 24) (hb0 : 0 ≤ binders) (hb1 : binders ≤ 100000) :
  PCalls Tryz.prog 250 [aggD t, .d (.v (.int .i64 of_)), .d (.v (.int .i64 pars)), .d (.v (.int .i64 more)), .d (.v (.int .i64 binders))] [] fun p s => p = .d (.v (.bool (Qbv t of_ pars more binders))) ∧ s = [] := by
 have hS := Hh (tSpine_p t hs)
 obtain ⟨R, hR⟩ : ∃ R, R = Qbv t of_ pars more binders := ⟨_, rfl⟩
 rw [← hR]
 unfold Qbv at hR
 generalize Qfz t = h at *
 generalize Qeo t = a at *
 have HR := Hh hR
 obtain ⟨m, rfl⟩ : ∃ m : Nat, pars = m := ⟨pars.toNat, by omega⟩
 have hw1 := wr64 (n := (m : Int) + more) (by omega) (by omega)
 have hw2 := wr64 (n := binders - 1) (by omega) (by omega)
 clear hR hs
 simp only [aggD, Jl, List.map_cons, List.map_nil] at hS ⊢
 refine pG Tryz.func250 Tryz.ntmps250 ?_
 refine Jd ?_
 intro i0 hi0
 refine go_ ?_
 refine Qab (hS.out) ?_
 refine Je ?_
 intro i1 hi1
 try simp only [Ja, Rh, Rg, Jb] at hi1
 refine go_ ?_
 refine Qaa ?_
 by_cases h1 : h.kind = 6
 rotate_left
 ·have h1b : (h.kind != 6) = true := bne_iff_ne.2 h1
  have hf : Hid (R = false) := by show _ = _; rw [show R = _ from HR.out, beq_eq_false_iff_ne.2 h1]; rfl
  clear h1 HR
  refine go_ ?_
  refine rT Tryz.results250 ?_
  exact ⟨by rw [hf.out]; rfl, rfl⟩
 have h1b : (h.kind != 6) = false := by rw [h1]; rfl
 have h1c : (h.kind == 6) = true := beq_iff_eq.2 h1
 clear h1
 refine go_ ?_
 by_cases h2 : h.num = of_
 rotate_left
 ·have h2b : (h.num != of_) = true := bne_iff_ne.2 h2
  have hf : Hid (R = false) := by show _ = _; rw [show R = _ from HR.out, h1c, beq_eq_false_iff_ne.2 h2]; rfl
  clear h2 HR
  refine go_ ?_
  refine rT Tryz.results250 ?_
  exact ⟨by rw [hf.out]; rfl, rfl⟩
 have h2b : (h.num != of_) = false := by rw [h2]; simp
 have h2c : (h.num == of_) = true := beq_iff_eq.2 h2
 clear h2
 refine go_ ?_
 by_cases h3 : (a.length : Int) = m + more
 rotate_left
 ·have h3b : ((a.length : Int) != m + more) = true := bne_iff_ne.2 h3
  have hf : Hid (R = false) := by show _ = _; rw [show R = _ from HR.out, h1c, h2c, beq_eq_false_iff_ne.2 h3]; rfl
  clear h3 HR
  refine go_ ?_
  refine rT Tryz.results250 ?_
  exact ⟨by rw [hf.out]; rfl, rfl⟩
 have h3b : ((a.length : Int) != m + more) = false := by rw [h3]; simp
 have HR0 : Hid (R = Qhv a binders (m - 0) 0) := by show _ = _; rw [show R = _ from HR.out, h1c, h2c, beq_iff_eq.2 h3, Int.toNat_natCast]; rfl
 have hal : m ≤ a.length := by omega
 clear HR h3
 refine go_ ?_
 refine Qai (ι := Nat) (fun y => y ≤ m ∧ Hid (R = Qhv a binders (m - y) y)) (fun y => [(4, .d (.v (.int .i64 binders))), (12, .d (.sl (a.map encD))), (36, .d (.v (.int .i64 m))), (37, .d (.v (.int .i64 (y : Int))))]) (fun _ => []) (fun y => m - y) 0 ⟨Nat.zero_le _, HR0.out⟩ ?_ ?_ ?_
 ·exact sU
 ·exact dR
 ·rintro j ⟨hj, hR⟩
  clear HR0
  by_cases hlt : j < m
  ·have hla : j < a.length := by omega
   have hx := Qaq hla
   have hc : (j : Int) < m := by omega
   have hn : (0 : Int) ≤ j := by omega
   have hin := wr64 (n := (j : Int) + 1) (by omega) (by omega)
   have hw3 := wr64 (n := binders - 1 - j) (by omega) (by omega)
   have hR2 : Hid (R = ((a[j].kind == 1 && a[j].num == binders - 1 - (j : Int)) && Qhv a binders (m - (j + 1)) (j + 1))) := by
    show _ = _
    rw [show R = _ from hR.out, show m - j = (m - (j + 1)) + 1 by omega]
    simp only [Qhv, List.getElem?_eq_getElem hla]
   clear hR
   by_cases k1 : a[j].kind = 1
   rotate_left
   ·have k1b : (a[j].kind != 1) = true := bne_iff_ne.2 k1
    have hf : Hid (R = false) := by show _ = _; rw [show R = _ from hR2.out, beq_eq_false_iff_ne.2 k1]; rfl
    clear k1 hR2
    refine go_ ?_
    refine rT Tryz.results250 ?_
    exact ⟨by rw [hf.out]; rfl, rfl⟩
   have k1b : (a[j].kind != 1) = false := by rw [k1]; rfl
   have k1c : (a[j].kind == 1) = true := beq_iff_eq.2 k1
   clear k1
   refine go_ ?_
   by_cases k2 : a[j].num = binders - 1 - (j : Int)
   rotate_left
   ·have k2b : (a[j].num != binders - 1 - (j : Int)) = true := bne_iff_ne.2 k2
    have hf : Hid (R = false) := by show _ = _; rw [show R = _ from hR2.out, beq_eq_false_iff_ne.2 k2]; simp
    clear k2 hR2
    refine go_ ?_
    refine rT Tryz.results250 ?_
    exact ⟨by rw [hf.out]; rfl, rfl⟩
   have k2b : (a[j].num != binders - 1 - (j : Int)) = false := by rw [k2]; simp
   have hR3 : Hid (R = Qhv a binders (m - (j + 1)) (j + 1)) := by show _ = _; rw [show R = _ from hR2.out, k1c, beq_iff_eq.2 k2]; rfl
   clear k2 hR2
   refine go_ ?_
   exact ⟨j + 1, ⟨hlt, hR3⟩, by omega, sU, dR⟩
  ·have hc : ¬ (j : Int) < m := by omega
   have hf : Hid (R = true) := by show _ = _; rw [show R = _ from hR.out, show m - j = 0 by omega]; rfl
   refine go_ ?_
   refine rT Tryz.results250 ?_
   exact ⟨by rw [hf.out]; rfl, rfl⟩
theorem rapplied_p (t : Tm) (of_ pars more binders : Int) (hs : Qak t = true) (hp0 : 0 ≤ pars) (hp1 : pars ≤ 24) (hm0 : 0 ≤ more) (hm1 : more ≤ 24) (hb0 : 0 ≤ binders) (hb1 : binders ≤ 100000) :
  PCalls Tryz.prog 157 [aggD t, .d (.v (.int .i64 of_)), .d (.v (.int .i64 pars)), .d (.v (.int .i64 more)), .d (.v (.int .i64 binders))] [] fun p s => p = .d (.v (.bool (Qbv t of_ pars more binders))) ∧ s = [] := by
 have hA := Hh (rArgs_p t (Qbu hs).1 (by have := (Qbu hs).2.2; omega))
 have hH := Hh (rHead_p t (Qbu hs).1)
 obtain ⟨R, hR⟩ : ∃ R, R = Qbv t of_ pars more binders := ⟨_, rfl⟩
 rw [← hR]
 unfold Qbv at hR
 generalize Qfz t = h at *
 generalize Qeo t = a at *
 have HR := Hh hR
 obtain ⟨m, rfl⟩ : ∃ m : Nat, pars = m := ⟨pars.toNat, by omega⟩
 have hw1 := wr64 (n := (m : Int) + more) (by omega) (by omega)
 have hw2 := wr64 (n := binders - 1) (by omega) (by omega)
 clear hR hs
 simp only [aggD, Jl, List.map_cons, List.map_nil] at hA hH ⊢
 refine pG Tryz.func157 Tryz.ntmps157 ?_
 refine Jd ?_
 intro i0 hi0
 refine go_ ?_
 refine Qab (hA.out) ?_
 refine Qab (hH.out) ?_
 refine Je ?_
 intro i1 hi1
 try simp only [Ja, Rh, Rg, Jb] at hi1
 refine go_ ?_
 refine Qaa ?_
 by_cases h1 : h.kind = 6
 rotate_left
 ·have h1b : (h.kind != 6) = true := bne_iff_ne.2 h1
  have hf : Hid (R = false) := by show _ = _; rw [show R = _ from HR.out, beq_eq_false_iff_ne.2 h1]; rfl
  clear h1 HR
  refine go_ ?_
  refine rT Tryz.results157 ?_
  exact ⟨by rw [hf.out]; rfl, rfl⟩
 have h1b : (h.kind != 6) = false := by rw [h1]; rfl
 have h1c : (h.kind == 6) = true := beq_iff_eq.2 h1
 clear h1
 refine go_ ?_
 by_cases h2 : h.num = of_
 rotate_left
 ·have h2b : (h.num != of_) = true := bne_iff_ne.2 h2
  have hf : Hid (R = false) := by show _ = _; rw [show R = _ from HR.out, h1c, beq_eq_false_iff_ne.2 h2]; rfl
  clear h2 HR
  refine go_ ?_
  refine rT Tryz.results157 ?_
  exact ⟨by rw [hf.out]; rfl, rfl⟩
 have h2b : (h.num != of_) = false := by rw [h2]; simp
 have h2c : (h.num == of_) = true := beq_iff_eq.2 h2
 clear h2
 refine go_ ?_
 by_cases h3 : (a.length : Int) = m + more
 rotate_left
 ·have h3b : ((a.length : Int) != m + more) = true := bne_iff_ne.2 h3
  have hf : Hid (R = false) := by show _ = _; rw [show R = _ from HR.out, h1c, h2c, beq_eq_false_iff_ne.2 h3]; rfl
  clear h3 HR
  refine go_ ?_
  refine rT Tryz.results157 ?_
  exact ⟨by rw [hf.out]; rfl, rfl⟩
 have h3b : ((a.length : Int) != m + more) = false := by rw [h3]; simp
 have HR0 : Hid (R = Qhv a binders (m - 0) 0) := by show _ = _; rw [show R = _ from HR.out, h1c, h2c, beq_iff_eq.2 h3, Int.toNat_natCast]; rfl
 have hal : m ≤ a.length := by omega
 clear HR h3
 refine go_ ?_
 refine Qai (ι := Nat) (fun y => y ≤ m ∧ Hid (R = Qhv a binders (m - y) y)) (fun y => [(2, .d (.v (.int .i64 m))), (4, .d (.v (.int .i64 binders))), (11, .d (.sl (a.map encD))), (13, .d (.v (.int .i64 (y : Int))))]) (fun _ => []) (fun y => m - y) 0 ⟨Nat.zero_le _, HR0.out⟩ ?_ ?_ ?_
 ·exact sU
 ·exact dR
 ·rintro j ⟨hj, hR⟩
  clear HR0
  by_cases hlt : j < m
  ·have hla : j < a.length := by omega
   have hx := Qaq hla
   have hc : (j : Int) < m := by omega
   have hn : (0 : Int) ≤ j := by omega
   have hin := wr64 (n := (j : Int) + 1) (by omega) (by omega)
   have hw3 := wr64 (n := binders - 1 - j) (by omega) (by omega)
   have hR2 : Hid (R = ((a[j].kind == 1 && a[j].num == binders - 1 - (j : Int)) && Qhv a binders (m - (j + 1)) (j + 1))) := by
    show _ = _
    rw [show R = _ from hR.out, show m - j = (m - (j + 1)) + 1 by omega]
    simp only [Qhv, List.getElem?_eq_getElem hla]
   clear hR
   by_cases k1 : a[j].kind = 1
   rotate_left
   ·have k1b : (a[j].kind != 1) = true := bne_iff_ne.2 k1
    have hf : Hid (R = false) := by show _ = _; rw [show R = _ from hR2.out, beq_eq_false_iff_ne.2 k1]; rfl
    clear k1 hR2
    refine go_ ?_
    refine rT Tryz.results157 ?_
    exact ⟨by rw [hf.out]; rfl, rfl⟩
   have k1b : (a[j].kind != 1) = false := by rw [k1]; rfl
   have k1c : (a[j].kind == 1) = true := beq_iff_eq.2 k1
   clear k1
   refine go_ ?_
   by_cases k2 : a[j].num = binders - 1 - (j : Int)
   rotate_left
   ·have k2b : (a[j].num != binders - 1 - (j : Int)) = true := bne_iff_ne.2 k2
    have hf : Hid (R = false) := by show _ = _; rw [show R = _ from hR2.out, beq_eq_false_iff_ne.2 k2]; simp
    clear k2 hR2
    refine go_ ?_
    refine rT Tryz.results157 ?_
    exact ⟨by rw [hf.out]; rfl, rfl⟩
   have k2b : (a[j].num != binders - 1 - (j : Int)) = false := by rw [k2]; simp
   have hR3 : Hid (R = Qhv a binders (m - (j + 1)) (j + 1)) := by show _ = _; rw [show R = _ from hR2.out, k1c, beq_iff_eq.2 k2]; rfl
   clear k2 hR2
   refine go_ ?_
   exact ⟨j + 1, ⟨hlt, hR3⟩, by omega, sU, dR⟩
  ·have hc : ¬ (j : Int) < m := by omega
   have hf : Hid (R = true) := by show _ = _; rw [show R = _ from hR.out, show m - j = 0 by omega]; rfl
   refine go_ ?_
   refine rT Tryz.results157 ?_
   exact ⟨by rw [hf.out]; rfl, rfl⟩
def ownsL (l : List En) (x : En) : List Int := match l[x.of_.toNat]? with | some d => if x.kind = 4 then d.fields else d.cons | none => []
def parsOf (l : List En) (n : Int) : Int := match l[n.toNat]? with | some d => d.pars | none => 0
def Qfs (own : List Int) (p i : Int) : Bool := decide (0 ≤ p) && (match own[p.toNat]? with | some n => n == i | none => false)
def Qdu (l : List En) (x : En) (i : Int) : Bool :=
 isE l x.of_ 1 && (decide (x.of_ < i) && ((x.pars == parsOf l x.of_) && (Qez x.body && ((x.inds == 0) && ((x.level == 0) && (((x.cons.length : Int) == 0) && (((x.fields.length : Int) == 0) && Qfs (ownsL l x) x.place i)))))))
def EnOk (e : En) : Prop := e.cons.length ≤ 4000000000000000000 ∧ e.fields.length ≤ 4000000000000000000
theorem sowned_p (l : List En) (i : Nat) (hi : i < l.length) (ho : ∀ e ∈ l, EnOk e) : PCalls Tryz.prog 249 [.d (.sl (l.map encD)), .d (.v (.int .i64 i))] [] fun p s => p = .d (.v (.bool (Qdu l l[i] i))) ∧ s = [] := by
  obtain ⟨R, hR⟩ : ∃ R, R = Qdu l l[i] i := ⟨_, rfl⟩
  rw [← hR]
  have hok := ho _ (List.getElem_mem hi)
  have hn : (0 : Int) ≤ i := by omega
  have hx3 : l[i]? = some l[i] := List.getElem?_eq_getElem hi
  unfold Qdu at hR
  generalize l[i] = x at *
  have hS := Hh (sis_p l x.of_ 1)
  have hN := Hh (snone_p x.body)
  simp only [aggD, Jl, List.map_cons, List.map_nil] at hN
  have HR := Hh hR
  clear hR hi ho
  cases hb : isE l x.of_ 1 with
  | false =>
    have hf : Hid (R = false) := by show _ = _; rw [show R = _ from HR.out, hb]; rfl
    rw [hb] at hS
    clear HR hb hN hok
    refine pG Tryz.func249 Tryz.ntmps249 ?_
    refine Je ?_
    intro i0 hi0
    refine go_ ?_
    refine Qaa ?_
    refine Qal [(0, .a), (1, .a), (2, .b), (3, .a), (4, .a), (5, .a), (6, .a), (7, .b), (8, .a), (9, .a), (10, .a), (11, .a), (12, .a), (13, .b), (14, .a), (15, .a), (16, .b), (17, .a), (18, .a), (19, .a), (20, .a), (21, .a), (22, .a), (23, .a), (24, .b), (25, .a), (26, .a), (27, .a), (28, .a), (29, .a), (30, .b), (31, .a), (32, .a), (33, .a), (34, .a), (35, .b), (36, .a), (37, .a), (38, .a), (39, .a), (40, .b), (41, .a), (42, .a), (43, .b), (44, .a), (45, .a), (46, .a), (47, .a)] (by kernel_rfl) (by rfl) (by kernel_rfl) ?_
    refine go_ ?_
    refine Qac (hS.out) ?_
    refine go_ ?_
    refine rT Tryz.results249 ?_
    exact ⟨by rw [hf.out]; rfl, rfl⟩
  | true =>
    obtain ⟨q, hq, hql, hqk⟩ := Qjf hb
    have hd : l[q]? = some l[q] := List.getElem?_eq_getElem hql
    have hq0 : (0 : Int) ≤ q := by omega
    rw [hb, hq] at hS
    unfold parsOf ownsL at HR
    rw [hb, hq, Int.toNat_natCast, hd] at HR
    simp only [Bool.true_and] at HR
    generalize l[q] = d at *
    have hol := hok
    have hws := wr64 (n := (x.cons.length : Int) + x.fields.length) (by have := hok.1; have := hok.2; omega) (by have := hok.1; have := hok.2; omega)
    clear hb hqk hql hok hol
    refine pG Tryz.func249 Tryz.ntmps249 ?_
    refine Je ?_
    intro i0 hi0
    refine go_ ?_
    refine Qaa ?_
    refine Qal [(0, .a), (1, .a), (2, .b), (3, .a), (4, .a), (5, .a), (6, .a), (7, .b), (8, .a), (9, .a), (10, .a), (11, .a), (12, .a), (13, .b), (14, .a), (15, .a), (16, .b), (17, .a), (18, .a), (19, .a), (20, .a), (21, .a), (22, .a), (23, .a), (24, .b), (25, .a), (26, .a), (27, .a), (28, .a), (29, .a), (30, .b), (31, .a), (32, .a), (33, .a), (34, .a), (35, .b), (36, .a), (37, .a), (38, .a), (39, .a), (40, .b), (41, .a), (42, .a), (43, .b), (44, .a), (45, .a), (46, .a), (47, .a)] (by kernel_rfl) (by rfl) (by kernel_rfl) ?_
    refine go_ ?_
    refine Qac (hS.out) ?_
    refine go_ ?_
    by_cases h1 : q < i
    rotate_left
    · have h1b : i ≤ q := by omega
      have hf : Hid (R = false) := by show _ = _; rw [show R = _ from HR.out]; simp [h1]
      clear HR h1
      refine go_ ?_
      refine rT Tryz.results249 ?_
      exact ⟨by rw [hf.out]; rfl, rfl⟩
    have h1b : ¬ i ≤ q := by omega
    have h1c : decide ((q : Int) < i) = true := decide_eq_true (by omega)
    clear h1
    refine go_ ?_
    by_cases h2 : x.pars = d.pars
    rotate_left
    · have h2b : (x.pars != d.pars) = true := bne_iff_ne.2 h2
      have hf : Hid (R = false) := by show _ = _; rw [show R = _ from HR.out]; simp [h2]
      clear HR h2
      refine go_ ?_
      refine rT Tryz.results249 ?_
      exact ⟨by rw [hf.out]; rfl, rfl⟩
    have h2b : (x.pars != d.pars) = false := by rw [h2]; simp
    have h2c : (x.pars == d.pars) = true := beq_iff_eq.2 h2
    clear h2
    refine go_ ?_
    refine Qcn (hN.out) ?_
    refine go_ ?_
    cases h3 : Qez x.body with
    | false =>
      have hf : Hid (R = false) := by show _ = _; rw [show R = _ from HR.out, h3]; simp
      clear HR
      refine go_ ?_
      refine rT Tryz.results249 ?_
      exact ⟨by rw [hf.out]; rfl, rfl⟩
    | true =>
    refine go_ ?_
    by_cases h4 : x.inds = 0
    rotate_left
    · have h4b : (x.inds != 0) = true := bne_iff_ne.2 h4
      have hf : Hid (R = false) := by show _ = _; rw [show R = _ from HR.out]; simp [h4]
      clear HR h4
      refine go_ ?_
      refine rT Tryz.results249 ?_
      exact ⟨by rw [hf.out]; rfl, rfl⟩
    have h4b : (x.inds != 0) = false := by rw [h4]; rfl
    have h4c : (x.inds == 0) = true := beq_iff_eq.2 h4
    clear h4
    refine go_ ?_
    by_cases h5 : x.level = 0
    rotate_left
    · have h5b : (x.level != 0) = true := bne_iff_ne.2 h5
      have hf : Hid (R = false) := by show _ = _; rw [show R = _ from HR.out]; simp [h5]
      clear HR h5
      refine go_ ?_
      refine rT Tryz.results249 ?_
      exact ⟨by rw [hf.out]; rfl, rfl⟩
    have h5b : (x.level != 0) = false := by rw [h5]; rfl
    have h5c : (x.level == 0) = true := beq_iff_eq.2 h5
    clear h5
    refine go_ ?_
    by_cases h6 : (x.cons.length : Int) + x.fields.length = 0
    rotate_left
    · have h6b : (0 : Int) < (x.cons.length : Int) + x.fields.length := by omega
      have hf : Hid (R = false) := by
        show _ = _
        rw [show R = _ from HR.out]
        by_cases e : x.cons.length = 0
        · have e2 : ((x.fields.length : Int) == 0) = false := beq_eq_false_iff_ne.2 (by omega)
          rw [e2]; simp
        · have e2 : ((x.cons.length : Int) == 0) = false := beq_eq_false_iff_ne.2 (by omega)
          rw [e2]; simp
      clear HR h6
      refine go_ ?_
      refine rT Tryz.results249 ?_
      exact ⟨by rw [hf.out]; rfl, rfl⟩
    have h6b : ¬ (0 : Int) < (x.cons.length : Int) + x.fields.length := by omega
    have hc0 : ((x.cons.length : Int) == 0) = true := beq_iff_eq.2 (by omega)
    have hf0 : ((x.fields.length : Int) == 0) = true := beq_iff_eq.2 (by omega)
    have HR2 : Hid (R = Qfs (if x.kind = 4 then d.fields else d.cons) x.place i) := by
      show _ = _
      rw [show R = _ from HR.out, h1c, h2c, h3, h4c, h5c, hc0, hf0]; rfl
    clear HR h6 hc0 hf0
    by_cases hk : x.kind = 4
    · have hkb : (x.kind == 4) = true := beq_iff_eq.2 hk
      have HP : Hid (R = Qfs d.fields x.place i) := by show _ = _; rw [show R = _ from HR2.out, if_pos hk]
      clear HR2 hk
      refine go_ ?_
      by_cases p0 : 0 ≤ x.place
      rotate_left
      · have hf : Hid (R = false) := by show _ = _; rw [show R = _ from HP.out]; unfold Qfs; simp [p0]
        clear HP
        refine go_ ?_
        refine rT Tryz.results249 ?_
        exact ⟨by rw [hf.out]; rfl, rfl⟩
      by_cases p1 : x.place < (d.fields).length
      rotate_left
      · have hf : Hid (R = false) := by
          show _ = _
          rw [show R = _ from HP.out]
          unfold Qfs
          rw [List.getElem?_eq_none (by omega)]; simp
        clear HP
        refine go_ ?_
        refine rT Tryz.results249 ?_
        exact ⟨by rw [hf.out]; rfl, rfl⟩
      obtain ⟨m, hm⟩ : ∃ m : Nat, x.place = m := ⟨x.place.toNat, by omega⟩
      have hml : m < (d.fields).length := by omega
      have hmx : (d.fields)[m]? = some (d.fields)[m] := List.getElem?_eq_getElem hml
      have hm0 : (0 : Int) ≤ m := by omega
      have hm1 : (m : Int) < (d.fields).length := by omega
      have hf : Hid (R = ((d.fields)[m] == (i : Int))) := by
        show _ = _
        rw [show R = _ from HP.out]
        unfold Qfs
        rw [hm, Int.toNat_natCast, hmx]; simp
      clear HP p0 p1
      generalize (d.fields)[m] = z at *
      clear hml
      refine go_ ?_
      refine rT Tryz.results249 ?_
      exact ⟨by rw [hf.out]; rfl, rfl⟩
    · have hkb : (x.kind == 4) = false := beq_eq_false_iff_ne.2 hk
      have HP : Hid (R = Qfs d.cons x.place i) := by show _ = _; rw [show R = _ from HR2.out, if_neg hk]
      clear HR2 hk
      refine go_ ?_
      by_cases p0 : 0 ≤ x.place
      rotate_left
      · have hf : Hid (R = false) := by show _ = _; rw [show R = _ from HP.out]; unfold Qfs; simp [p0]
        clear HP
        refine go_ ?_
        refine rT Tryz.results249 ?_
        exact ⟨by rw [hf.out]; rfl, rfl⟩
      by_cases p1 : x.place < (d.cons).length
      rotate_left
      · have hf : Hid (R = false) := by
          show _ = _
          rw [show R = _ from HP.out]
          unfold Qfs
          rw [List.getElem?_eq_none (by omega)]; simp
        clear HP
        refine go_ ?_
        refine rT Tryz.results249 ?_
        exact ⟨by rw [hf.out]; rfl, rfl⟩
      obtain ⟨m, hm⟩ : ∃ m : Nat, x.place = m := ⟨x.place.toNat, by omega⟩
      have hml : m < (d.cons).length := by omega
      have hmx : (d.cons)[m]? = some (d.cons)[m] := List.getElem?_eq_getElem hml
      have hm0 : (0 : Int) ≤ m := by omega
      have hm1 : (m : Int) < (d.cons).length := by omega
      have hf : Hid (R = ((d.cons)[m] == (i : Int))) := by
        show _ = _
        rw [show R = _ from HP.out]
        unfold Qfs
        rw [hm, Int.toNat_natCast, hmx]; simp
      clear HP p0 p1
      generalize (d.cons)[m] = z at *
      clear hml
      refine go_ ?_
      refine rT Tryz.results249 ?_
      exact ⟨by rw [hf.out]; rfl, rfl⟩
def Qff : List Int → Int → Int → Nat → Bool
 | [], _, _, _ => false
 | n :: r, p, i, k => ((n == i) && (p == k)) || Qff r p i (k + 1)
theorem loopW_lt : ∀ (r : List Int) (p i : Int) (k : Nat), p < k → Qff r p i k = false := by
  intro r
  induction r with
  | nil => intros; rfl
  | cons n r ih =>
    intro p i k h
    simp only [Qff]
    rw [ih _ _ _ (by omega), beq_eq_false_iff_ne.2 (show p ≠ (k : Int) by omega)]
    simp
theorem loopW_eq : ∀ (r : List Int) (k m : Nat) (i : Int), Qff r ((k + m : Nat) : Int) i k = (match r[m]? with | some n => n == i | none => false) := by
  intro r
  induction r with
  | nil => intros; rfl
  | cons n r ih =>
    intro k m i
    cases m with
    | zero =>
      simp only [Qff, Nat.add_zero]
      rw [loopW_lt _ _ _ _ (by omega)]
      simp
    | succ m =>
      simp only [Qff]
      have := ih (k + 1) m i
      rw [show k + 1 + m = k + (m + 1) by omega] at this
      rw [this, beq_eq_false_iff_ne.2 (show ((k + (m + 1) : Nat) : Int) ≠ (k : Int) by omega)]
      simp
theorem Qnx (r : List Int) (p i : Int) : Qff r p i 0 = Qfs r p i := by
 unfold Qfs
 by_cases h : 0 ≤ p
 ·obtain ⟨m, hm⟩ : ∃ m : Nat, p = m := ⟨p.toNat, by omega⟩
  have := loopW_eq r 0 m i
  rw [Nat.zero_add] at this
  rw [hm, this, Int.toNat_natCast]
  cases r[m]? <;> simp
 ·rw [loopW_lt _ _ _ _ (by omega)]; simp [h]
theorem rowned_p (l : List En) (i : Nat) (hi : i < l.length) : PCalls Tryz.prog 156 [.d (.sl (l.map encD)), .d (.v (.int .i64 i))] [] fun p s => p = .d (.v (.bool (Qdu l l[i] i))) ∧ s = [] := by
  obtain ⟨R, hR⟩ : ∃ R, R = Qdu l l[i] i := ⟨_, rfl⟩
  rw [← hR]
  have hn : (0 : Int) ≤ i := by omega
  have hx3 : l[i]? = some l[i] := List.getElem?_eq_getElem hi
  unfold Qdu at hR
  generalize l[i] = x at *
  have hS := Hh (ris_p l x.of_ 1)
  have hN := Hh (rzero_p x.body)
  simp only [aggD, Jl, List.map_cons, List.map_nil] at hN
  have HR := Hh hR
  clear hR hi
  cases hb : isE l x.of_ 1 with
  | false =>
    have hf : Hid (R = false) := by show _ = _; rw [show R = _ from HR.out, hb]; rfl
    rw [hb] at hS
    clear HR hb hN
    refine pG Tryz.func156 Tryz.ntmps156 ?_
    refine Je ?_
    intro i0 hi0
    refine go_ ?_
    refine Qaa ?_
    refine Qal [(0, .a), (1, .a), (2, .b), (3, .a), (4, .a), (5, .a), (6, .a), (7, .b), (8, .a), (9, .a), (10, .a), (11, .a), (12, .a), (13, .b), (14, .a), (15, .a), (16, .a), (17, .a), (18, .a), (19, .b), (20, .a), (21, .a), (22, .a), (23, .a), (24, .b), (25, .a), (26, .a), (27, .a), (28, .a), (29, .b), (30, .a), (31, .a), (32, .a), (33, .a), (34, .a), (35, .b), (36, .a), (37, .a), (38, .a), (39, .a), (40, .a), (41, .b), (42, .a), (43, .a), (44, .b), (45, .a), (46, .a), (47, .a), (48, .a), (49, .a)] (by kernel_rfl) (by rfl) (by kernel_rfl) ?_
    refine go_ ?_
    refine Qac (hS.out) ?_
    refine go_ ?_
    refine go_ ?_
    refine rT Tryz.results156 ?_
    exact ⟨by rw [hf.out]; rfl, rfl⟩
  | true =>
    obtain ⟨q, hq, hql, hqk⟩ := Qjf hb
    have hd : l[q]? = some l[q] := List.getElem?_eq_getElem hql
    have hq0 : (0 : Int) ≤ q := by omega
    rw [hb, hq] at hS
    unfold parsOf ownsL at HR
    rw [hb, hq, Int.toNat_natCast, hd] at HR
    simp only [Bool.true_and] at HR
    generalize l[q] = d at *
    clear hb hqk hql
    refine pG Tryz.func156 Tryz.ntmps156 ?_
    refine Je ?_
    intro i0 hi0
    refine go_ ?_
    refine Qaa ?_
    refine Qal [(0, .a), (1, .a), (2, .b), (3, .a), (4, .a), (5, .a), (6, .a), (7, .b), (8, .a), (9, .a), (10, .a), (11, .a), (12, .a), (13, .b), (14, .a), (15, .a), (16, .a), (17, .a), (18, .a), (19, .b), (20, .a), (21, .a), (22, .a), (23, .a), (24, .b), (25, .a), (26, .a), (27, .a), (28, .a), (29, .b), (30, .a), (31, .a), (32, .a), (33, .a), (34, .a), (35, .b), (36, .a), (37, .a), (38, .a), (39, .a), (40, .a), (41, .b), (42, .a), (43, .a), (44, .b), (45, .a), (46, .a), (47, .a), (48, .a), (49, .a)] (by kernel_rfl) (by rfl) (by kernel_rfl) ?_
    refine go_ ?_
    refine Qac (hS.out) ?_
    refine go_ ?_
    by_cases h1 : q < i
    rotate_left
    · have h1b : i ≤ q := by omega
      have hf : Hid (R = false) := by show _ = _; rw [show R = _ from HR.out]; simp [h1]
      clear HR h1
      refine go_ ?_
      refine rT Tryz.results156 ?_
      exact ⟨by rw [hf.out]; rfl, rfl⟩
    have h1b : ¬ i ≤ q := by omega
    have h1c : decide ((q : Int) < i) = true := decide_eq_true (by omega)
    clear h1
    refine go_ ?_
    refine Qcn (hN.out) ?_
    refine go_ ?_
    cases h3 : Qez x.body with
    | false =>
      have hf : Hid (R = false) := by show _ = _; rw [show R = _ from HR.out, h3]; simp
      clear HR
      refine go_ ?_
      refine rT Tryz.results156 ?_
      exact ⟨by rw [hf.out]; rfl, rfl⟩
    | true =>
    refine go_ ?_
    by_cases h4 : x.inds = 0
    rotate_left
    · have h4b : (x.inds != 0) = true := bne_iff_ne.2 h4
      have hf : Hid (R = false) := by show _ = _; rw [show R = _ from HR.out]; simp [h4]
      clear HR h4
      refine go_ ?_
      refine rT Tryz.results156 ?_
      exact ⟨by rw [hf.out]; rfl, rfl⟩
    have h4b : (x.inds != 0) = false := by rw [h4]; rfl
    have h4c : (x.inds == 0) = true := beq_iff_eq.2 h4
    clear h4
    refine go_ ?_
    by_cases h5 : x.level = 0
    rotate_left
    · have h5b : (x.level != 0) = true := bne_iff_ne.2 h5
      have hf : Hid (R = false) := by show _ = _; rw [show R = _ from HR.out]; simp [h5]
      clear HR h5
      refine go_ ?_
      refine rT Tryz.results156 ?_
      exact ⟨by rw [hf.out]; rfl, rfl⟩
    have h5b : (x.level != 0) = false := by rw [h5]; rfl
    have h5c : (x.level == 0) = true := beq_iff_eq.2 h5
    clear h5
    refine go_ ?_
    by_cases h6 : (x.cons.length : Int) = 0
    rotate_left
    · have h6b : ((x.cons.length : Int) != 0) = true := bne_iff_ne.2 h6
      have h6d : ((x.cons.length : Int) == 0) = false := beq_eq_false_iff_ne.2 h6
      have hf : Hid (R = false) := by show _ = _; rw [show R = _ from HR.out, h6d]; simp
      clear HR h6 h6d
      refine go_ ?_
      refine rT Tryz.results156 ?_
      exact ⟨by rw [hf.out]; rfl, rfl⟩
    have h6b : ((x.cons.length : Int) != 0) = false := by rw [h6]; rfl
    have h6c : ((x.cons.length : Int) == 0) = true := beq_iff_eq.2 h6
    clear h6
    refine go_ ?_
    by_cases h7 : (x.fields.length : Int) = 0
    rotate_left
    · have h7b : ((x.fields.length : Int) != 0) = true := bne_iff_ne.2 h7
      have h7d : ((x.fields.length : Int) == 0) = false := beq_eq_false_iff_ne.2 h7
      have hf : Hid (R = false) := by show _ = _; rw [show R = _ from HR.out, h7d]; simp
      clear HR h7 h7d
      refine go_ ?_
      refine rT Tryz.results156 ?_
      exact ⟨by rw [hf.out]; rfl, rfl⟩
    have h7b : ((x.fields.length : Int) != 0) = false := by rw [h7]; rfl
    have h7c : ((x.fields.length : Int) == 0) = true := beq_iff_eq.2 h7
    clear h7
    refine go_ ?_
    by_cases h2 : x.pars = d.pars
    rotate_left
    · have h2b : (x.pars != d.pars) = true := bne_iff_ne.2 h2
      have hf : Hid (R = false) := by show _ = _; rw [show R = _ from HR.out]; simp [h2]
      clear HR h2
      refine go_ ?_
      refine rT Tryz.results156 ?_
      exact ⟨by rw [hf.out]; rfl, rfl⟩
    have h2b : (x.pars != d.pars) = false := by rw [h2]; simp
    have h2c : (x.pars == d.pars) = true := beq_iff_eq.2 h2
    clear h2
    have HR2 : Hid (R = Qfs (if x.kind = 4 then d.fields else d.cons) x.place i) := by
      show _ = _
      rw [show R = _ from HR.out, h1c, h2c, h3, h4c, h5c, h6c, h7c]; rfl
    clear HR h1c h2c h4c h5c h6c h7c
    refine go_ ?_
    by_cases hk : x.kind = 4
    · have hkb : (x.kind == 4) = true := beq_iff_eq.2 hk
      have HL : Hid (R = Qff (d.fields.drop 0) x.place i 0) := by show _ = _; rw [show R = _ from HR2.out, if_pos hk, List.drop_zero, Qnx]
      clear HR2 hk
      refine go_ ?_
      refine Qfa (t := 5 + 1) (rows := (d.fields).map encD) (by simp [PF.get] <;> rfl) rfl fun hml => ?_
      rw [List.length_map] at hml
      unfold maxLen at hml
      refine Qai (ι := Nat) (fun y => y ≤ (d.fields).length ∧ Hid (R = Qff ((d.fields).drop y) x.place i y)) (fun y => [(1, .d (.v (.int .i64 (i : Int)))), (5, .ptr i0 0), (6, .d (.sl ((d.fields).map encD))), (7, .d (.v (.int .i64 (y : Int))))]) (fun _ => [.box i0 40 [.d (.v (.int .i64 x.kind)), .d (.v (.string x.name)), .d (.v (.int .i64 x.ty.kind)), .d (.v (.int .i64 x.ty.num)), .d (.sl (x.ty.sub.map encD)), .d (.v (.int .i64 x.body.kind)), .d (.v (.int .i64 x.body.num)), .d (.sl (x.body.sub.map encD)), .d (.v (.int .i64 q)), .d (.v (.int .i64 x.place)), .d (.v (.int .i64 x.pars)), .d (.v (.int .i64 x.inds)), .d (.v (.int .i64 x.level)), .d (.sl (x.cons.map encD)), .d (.sl (x.fields.map encD))]]) (fun y => (d.fields).length - y) 0 ⟨Nat.zero_le _, HL.out⟩ ?_ ?_ ?_
      · exact sU
      · exact dR
      · rintro j ⟨hj, hR⟩
        clear HL
        by_cases hlt : j < (d.fields).length
        · have hz : (d.fields)[j]? = some (d.fields)[j] := List.getElem?_eq_getElem hlt
          have hc : (j : Int) < (d.fields).length := by omega
          have hn2 : (0 : Int) ≤ j := by omega
          have hin := wr64 (n := (j : Int) + 1) (by omega) (by omega)
          have hR2 : Hid (R = ((((d.fields)[j] == (i : Int)) && (x.place == (j : Int))) || Qff ((d.fields).drop (j + 1)) x.place i (j + 1))) := by
            rw [show R = _ from hR.out, List.drop_eq_getElem_cons hlt]; rfl
          clear hR
          generalize (d.fields)[j] = z at *
          have hlt2 := Hh hlt
          clear hlt
          refine go_ ?_
          cases ha : (z == (i : Int)) with
          | false =>
            have hR3 : Hid (R = Qff ((d.fields).drop (j + 1)) x.place i (j + 1)) := by show _ = _; rw [show R = _ from hR2.out, ha]; simp
            clear hR2
            refine go_ ?_
            have hm := hlt2.out
            exact ⟨j + 1, ⟨hlt2.out, hR3.out⟩, by omega, sU, dR⟩
          | true =>
            refine go_ ?_
            cases hp : (x.place == (j : Int)) with
            | false =>
              have hR3 : Hid (R = Qff ((d.fields).drop (j + 1)) x.place i (j + 1)) := by show _ = _; rw [show R = _ from hR2.out, hp]; simp
              clear hR2
              refine go_ ?_
              have hm := hlt2.out
              exact ⟨j + 1, ⟨hlt2.out, hR3.out⟩, by omega, sU, dR⟩
            | true =>
              have hf : Hid (R = true) := by show _ = _; rw [show R = _ from hR2.out, ha, hp]; rfl
              clear hR2
              refine go_ ?_
              refine rT Tryz.results156 ?_
              exact ⟨by rw [hf.out]; rfl, rfl⟩
        · have hc : ¬ (j : Int) < (d.fields).length := by omega
          have hf : Hid (R = false) := by show _ = _; rw [show R = _ from hR.out, List.drop_of_length_le (by omega)]; rfl
          clear hR
          refine go_ ?_
          refine rT Tryz.results156 ?_
          exact ⟨by rw [hf.out]; rfl, rfl⟩
    · have hkb : (x.kind == 4) = false := beq_eq_false_iff_ne.2 hk
      have HL : Hid (R = Qff (d.cons.drop 0) x.place i 0) := by show _ = _; rw [show R = _ from HR2.out, if_neg hk, List.drop_zero, Qnx]
      clear HR2 hk
      refine go_ ?_
      refine Qfa (t := 5 + 1) (rows := (d.cons).map encD) (by simp [PF.get] <;> rfl) rfl fun hml => ?_
      rw [List.length_map] at hml
      unfold maxLen at hml
      refine Qai (ι := Nat) (fun y => y ≤ (d.cons).length ∧ Hid (R = Qff ((d.cons).drop y) x.place i y)) (fun y => [(1, .d (.v (.int .i64 (i : Int)))), (5, .ptr i0 0), (6, .d (.sl ((d.cons).map encD))), (7, .d (.v (.int .i64 (y : Int))))]) (fun _ => [.box i0 40 [.d (.v (.int .i64 x.kind)), .d (.v (.string x.name)), .d (.v (.int .i64 x.ty.kind)), .d (.v (.int .i64 x.ty.num)), .d (.sl (x.ty.sub.map encD)), .d (.v (.int .i64 x.body.kind)), .d (.v (.int .i64 x.body.num)), .d (.sl (x.body.sub.map encD)), .d (.v (.int .i64 q)), .d (.v (.int .i64 x.place)), .d (.v (.int .i64 x.pars)), .d (.v (.int .i64 x.inds)), .d (.v (.int .i64 x.level)), .d (.sl (x.cons.map encD)), .d (.sl (x.fields.map encD))]]) (fun y => (d.cons).length - y) 0 ⟨Nat.zero_le _, HL.out⟩ ?_ ?_ ?_
      · exact sU
      · exact dR
      · rintro j ⟨hj, hR⟩
        clear HL
        by_cases hlt : j < (d.cons).length
        · have hz : (d.cons)[j]? = some (d.cons)[j] := List.getElem?_eq_getElem hlt
          have hc : (j : Int) < (d.cons).length := by omega
          have hn2 : (0 : Int) ≤ j := by omega
          have hin := wr64 (n := (j : Int) + 1) (by omega) (by omega)
          have hR2 : Hid (R = ((((d.cons)[j] == (i : Int)) && (x.place == (j : Int))) || Qff ((d.cons).drop (j + 1)) x.place i (j + 1))) := by
            rw [show R = _ from hR.out, List.drop_eq_getElem_cons hlt]; rfl
          clear hR
          generalize (d.cons)[j] = z at *
          have hlt2 := Hh hlt
          clear hlt
          refine go_ ?_
          cases ha : (z == (i : Int)) with
          | false =>
            have hR3 : Hid (R = Qff ((d.cons).drop (j + 1)) x.place i (j + 1)) := by show _ = _; rw [show R = _ from hR2.out, ha]; simp
            clear hR2
            refine go_ ?_
            have hm := hlt2.out
            exact ⟨j + 1, ⟨hlt2.out, hR3.out⟩, by omega, sU, dR⟩
          | true =>
            refine go_ ?_
            cases hp : (x.place == (j : Int)) with
            | false =>
              have hR3 : Hid (R = Qff ((d.cons).drop (j + 1)) x.place i (j + 1)) := by show _ = _; rw [show R = _ from hR2.out, hp]; simp
              clear hR2
              refine go_ ?_
              have hm := hlt2.out
              exact ⟨j + 1, ⟨hlt2.out, hR3.out⟩, by omega, sU, dR⟩
            | true =>
              have hf : Hid (R = true) := by show _ = _; rw [show R = _ from hR2.out, ha, hp]; rfl
              clear hR2
              refine go_ ?_
              refine rT Tryz.results156 ?_
              exact ⟨by rw [hf.out]; rfl, rfl⟩
        · have hc : ¬ (j : Int) < (d.cons).length := by omega
          have hf : Hid (R = false) := by show _ = _; rw [show R = _ from hR.out, List.drop_of_length_le (by omega)]; rfl
          clear hR
          refine go_ ?_
          refine rT Tryz.results156 ?_
          exact ⟨by rw [hf.out]; rfl, rfl⟩
def defB (x : En) (i : Int) : Bool := Qct x.body i && ((x.of_ == 0) && ((x.place == 0) && ((x.pars == 0) && ((x.inds == 0) && ((x.level == 0) && ((x.cons.length : Int) + x.fields.length == 0))))))
theorem sdef_p (l : List En) (i : Nat) (hi : i < l.length) (ho : EnOk l[i]) : PCalls Tryz.prog 192 [.d (.sl (l.map encD)), .d (.v (.int .i64 i))] [] fun p s => p = .d (.v (.bool (defB l[i] i))) ∧ s = [] := by
 have hn : (0 : Int) ≤ i := by omega
 have hx3 : l[i]? = some l[i] := List.getElem?_eq_getElem hi
 generalize l[i] = x at *
 have hws := wr64 (n := (x.cons.length : Int) + x.fields.length) (by have := ho.1; have := ho.2; omega) (by have := ho.1; have := ho.2; omega)
 have hS := Hh (sclosed_p x.body i)
 simp only [aggD, Jl, List.map_cons, List.map_nil] at hS
 have HR := Hh (show defB x i = (Qct x.body i && ((x.of_ == 0) && ((x.place == 0) && ((x.pars == 0) && ((x.inds == 0) && ((x.level == 0) && ((x.cons.length : Int) + x.fields.length == 0))))))) from rfl)
 generalize defB x i = R at *
 generalize Qct x.body i = C at *
 clear hi ho
 refine pG Tryz.func192 Tryz.ntmps192 ?_
 refine Je ?_
 intro i0 hi0
 refine go_ ?_
 refine Qaa ?_
 refine Qab (hS.out) ?_
 clear hS
 rcases Bool.eq_false_or_eq_true (C) with h0 | h0
 rotate_left
 ·refine go_ ?_
  refine rT Tryz.results192 ?_
  exact ⟨by rw [HR.out]; simp [tupP, PV.norm2, PV.norm1, PV.norm0, *], rfl⟩
 refine go_ ?_
 rcases Bool.eq_false_or_eq_true (x.of_ == 0) with h1 | h1
 rotate_left
 ·refine go_ ?_
  refine rT Tryz.results192 ?_
  exact ⟨by rw [HR.out]; simp [tupP, PV.norm2, PV.norm1, PV.norm0, *], rfl⟩
 refine go_ ?_
 rcases Bool.eq_false_or_eq_true (x.place == 0) with h2 | h2
 rotate_left
 ·refine go_ ?_
  refine rT Tryz.results192 ?_
  exact ⟨by rw [HR.out]; simp [tupP, PV.norm2, PV.norm1, PV.norm0, *], rfl⟩
 refine go_ ?_
 rcases Bool.eq_false_or_eq_true (x.pars == 0) with h3 | h3
 rotate_left
 ·refine go_ ?_
  refine rT Tryz.results192 ?_
  exact ⟨by rw [HR.out]; simp [tupP, PV.norm2, PV.norm1, PV.norm0, *], rfl⟩
 refine go_ ?_
 rcases Bool.eq_false_or_eq_true (x.inds == 0) with h4 | h4
 rotate_left
 ·refine go_ ?_
  refine rT Tryz.results192 ?_
  exact ⟨by rw [HR.out]; simp [tupP, PV.norm2, PV.norm1, PV.norm0, *], rfl⟩
 refine go_ ?_
 rcases Bool.eq_false_or_eq_true (x.level == 0) with h5 | h5
 rotate_left
 ·refine go_ ?_
  refine rT Tryz.results192 ?_
  exact ⟨by rw [HR.out]; simp [tupP, PV.norm2, PV.norm1, PV.norm0, *], rfl⟩
 refine go_ ?_
 refine go_ ?_
 refine rT Tryz.results192 ?_
 exact ⟨by rw [HR.out]; simp [tupP, PV.norm2, PV.norm1, PV.norm0, *], rfl⟩
theorem shaped_of {t : Tm} (hg : Qae t = true) (h1 : chgT t ≤ 128) (h2 : cndT t ≤ 8192) : Qak t = true := by
 unfold Qak Qdg Qea
 rw [csz_nd t 0 (by omega) (by omega), if_neg (by omega), cdp_hg t 1 (by omega) (by omega), hg]
 simp only [Bool.and_true, decide_eq_true_eq]
 omega
theorem Qnp {m : Int} {a b : Tm} (h : Qak (.mk 3 m [a, b]) = true) : Qak a = true ∧ Qak b = true := by
 obtain ⟨hg, h1, h2⟩ := Qbu h
 have hp := (Qdx hg).2
 simp only [chgT, chgL, cndT, cndL] at h1 h2
 exact ⟨shaped_of (hp _ (by simp)) (by omega) (by omega), shaped_of (hp _ (by simp)) (by omega) (by omega)⟩
theorem cutPi_shaped : ∀ (n : Nat) (t : Tm) (l : List Tm) (x : Tm), Qak t = true → Qdh n t = some (l, x) → l.length = n ∧ Qak x = true ∧ ∀ s ∈ l, Qak s = true := by
  intro n
  induction n with
  | zero =>
    intro t l x h hc
    simp only [Qdh, Option.some.injEq, Prod.mk.injEq] at hc
    obtain ⟨rfl, rfl⟩ := hc
    exact ⟨rfl, h, by simp⟩
  | succ n ih =>
    intro t l x h hc
    by_cases hk : t.kind = 3
    · obtain ⟨y, b, rfl, hy, hb⟩ := Qkf (Qbu h).1 hk
      rw [Qjb] at hc
      obtain ⟨⟨l2, x2⟩, h2, h3⟩ := Option.map_eq_some_iff.1 hc
      simp only [Prod.mk.injEq] at h3
      obtain ⟨rfl, rfl⟩ := h3
      obtain ⟨hl, hx, hs⟩ := ih b l2 x2 (Qnp h).2 h2
      refine ⟨by simp [hl], hx, ?_⟩
      intro s hm
      cases hm with
      | head => exact (Qnp h).1
      | tail _ hm => exact hs s hm
    · rw [Qma hk] at hc; cases hc
theorem split_ok {t : Tm} {n : Int} (h : (Qax t n).2.2 = 0) : 0 ≤ n ∧ n ≤ 24 ∧ ((Qax t n).1.length : Int) = n ∧ Qak (Qax t n).2.1 = true ∧ ∀ s ∈ (Qax t n).1, Qak s = true := by
  unfold Qax at h ⊢
  split at h
  · simp at h
  · rename_i h1
    rw [if_neg h1]
    split at h
    · simp at h
    · rename_i h2
      rw [if_neg h2]
      have hs : Qak t = true := by cases hb : Qak t <;> simp_all
      cases hc : Qdh n.toNat t with
      | none => rw [hc] at h; simp at h
      | some y =>
        obtain ⟨l, x⟩ := y
        obtain ⟨h3, h4, h5⟩ := cutPi_shaped _ _ _ _ hs hc
        exact ⟨by omega, by omega, by show (l.length : Int) = n; omega, h4, h5⟩
theorem whole_ok {t : Tm} (h : (Qbx t).2.2 = 0) : ((Qbx t).1.length : Int) ≤ 24 ∧ Qak (Qbx t).2.1 = true := by
 unfold Qbx at h ⊢
 obtain ⟨h1, h2, h3, h4, -⟩ := split_ok h
 exact ⟨by rw [h3]; exact h2, h4⟩
def indsOf (l : List En) (n : Int) : Int := match l[n.toNat]? with | some d => d.inds | none => 0
def conB (l : List En) (x : En) (i : Int) : Bool :=
 Qdu l x i && (((Qbx x.ty).2.2 == 0) && (decide (x.pars ≤ (Qbx x.ty).1.length) && Qbv (Qbx x.ty).2.1 x.of_ x.pars (indsOf l x.of_) (Qbx x.ty).1.length))
def FamOk (l : List En) (i : Nat) : Prop := ∀ (q : Nat) (d : En), q < i → l[q]? = some d → d.kind = 1 → (0 ≤ d.pars ∧ d.pars ≤ 24) ∧ (0 ≤ d.inds ∧ d.inds ≤ 24)
theorem Qlh {l : List En} {x : En} {i : Nat} (h : Qdu l x i = true) : ∃ (q : Nat) (d : En), x.of_ = q ∧ q < i ∧ l[q]? = some d ∧ d.kind = 1 ∧ x.pars = d.pars := by
 unfold Qdu at h
 simp only [Bool.and_eq_true, decide_eq_true_eq] at h
 obtain ⟨h1, h2, h3, -⟩ := h
 obtain ⟨q, hq, hl, hk⟩ := Qjf h1
 refine ⟨q, l[q], hq, by omega, List.getElem?_eq_getElem hl, hk, ?_⟩
 have h4 := beq_iff_eq.1 h3
 unfold parsOf at h4
 rw [hq, Int.toNat_natCast, List.getElem?_eq_getElem hl] at h4
 exact h4
theorem scon_p (l : List En) (i : Nat) (hi : i < l.length) (ho : ∀ e ∈ l, EnOk e) (hf : FamOk l i) : PCalls Tryz.prog 190 [.d (.sl (l.map encD)), .d (.v (.int .i64 i))] [] fun p s => p = .d (.v (.bool (conB l l[i] i))) ∧ s = [] := by
  have hO := Hh (sowned_p l i hi ho)
  obtain ⟨R, hR⟩ : ∃ R, R = conB l l[i] i := ⟨_, rfl⟩
  rw [← hR]
  have hn : (0 : Int) ≤ i := by omega
  have hx3 : l[i]? = some l[i] := List.getElem?_eq_getElem hi
  unfold conB at hR
  generalize l[i] = x at *
  have hW := Hh (tWhole_p x.ty)
  have hok : (Qbx x.ty).2.2 = 0 → ((Qbx x.ty).1.length : Int) ≤ 24 ∧ Qak (Qbx x.ty).2.1 = true := fun h => whole_ok h
  generalize Qbx x.ty = W at *
  obtain ⟨sl, sx, se⟩ := W
  simp only at hR hok
  unfold Qee at hW
  simp only [aggD, Jl, List.map_cons, List.map_nil] at hW
  have HR := Hh hR
  have HK := Hh hok
  clear hR hi ho hok
  cases hb : Qdu l x i with
  | false =>
    have HF : Hid (R = false) := by show _ = _; rw [show R = _ from HR.out, hb]; rfl
    rw [hb] at hO
    clear HR hb HK hf
    refine pG Tryz.func190 Tryz.ntmps190 ?_
    refine Qab (hW.out) ?_
    refine Je ?_
    intro i0 hi0
    refine go_ ?_
    refine Qaa ?_
    refine Qal [(0, .a), (1, .a), (2, .a), (3, .a), (4, .a), (5, .a), (6, .a), (7, .a), (8, .a), (9, .a), (10, .a), (11, .a), (12, .a), (13, .a), (14, .a), (15, .a), (16, .a), (17, .a), (18, .b), (19, .a), (20, .a), (21, .a), (22, .a), (23, .a), (24, .a), (25, .a), (26, .a), (27, .a), (28, .a), (29, .a), (30, .a), (31, .a), (32, .a), (33, .a), (34, .a), (35, .a), (36, .a), (37, .a), (38, .a), (39, .a), (40, .a), (41, .a), (42, .a)] (by kernel_rfl) (by rfl) (by kernel_rfl) ?_
    refine go_ ?_
    refine Qac (hO.out) ?_
    refine go_ ?_
    refine rT Tryz.results190 ?_
    exact ⟨by rw [HF.out]; rfl, rfl⟩
  | true =>
    obtain ⟨q, d, hq, hqi, hd, hdk, hpp⟩ := Qlh hb
    have hB := Hh (hf q d hqi hd hdk)
    have hq0 : (0 : Int) ≤ q := by omega
    rw [hb] at hO HR
    unfold indsOf at HR
    rw [hq, Int.toNat_natCast, hd] at HR
    simp only [Bool.true_and] at HR
    have hP := Hh hpp
    clear hb hf hpp hqi hdk
    refine pG Tryz.func190 Tryz.ntmps190 ?_
    refine Qab (hW.out) ?_
    refine Je ?_
    intro i0 hi0
    refine go_ ?_
    refine Qaa ?_
    refine Qal [(0, .a), (1, .a), (2, .a), (3, .a), (4, .a), (5, .a), (6, .a), (7, .a), (8, .a), (9, .a), (10, .a), (11, .a), (12, .a), (13, .a), (14, .a), (15, .a), (16, .a), (17, .a), (18, .b), (19, .a), (20, .a), (21, .a), (22, .a), (23, .a), (24, .a), (25, .a), (26, .a), (27, .a), (28, .a), (29, .a), (30, .a), (31, .a), (32, .a), (33, .a), (34, .a), (35, .a), (36, .a), (37, .a), (38, .a), (39, .a), (40, .a), (41, .a), (42, .a)] (by kernel_rfl) (by rfl) (by kernel_rfl) ?_
    refine go_ ?_
    refine Qac (hO.out) ?_
    refine go_ ?_
    rcases Bool.eq_false_or_eq_true (se == 0) with h1 | h1
    rotate_left
    · have HF : Hid (R = false) := by show _ = _; rw [show R = _ from HR.out, h1]; rfl
      clear HR HK
      refine go_ ?_
      refine rT Tryz.results190 ?_
      exact ⟨by rw [HF.out]; rfl, rfl⟩
    have hk := HK.out (beq_iff_eq.1 h1)
    have h24 := Hh hk.1
    have hsx := Hh hk.2
    clear hk HK
    refine go_ ?_
    by_cases h2 : x.pars ≤ (sl.length : Int)
    rotate_left
    · have HF : Hid (R = false) := by show _ = _; rw [show R = _ from HR.out]; simp [h2]
      clear HR
      refine go_ ?_
      refine rT Tryz.results190 ?_
      exact ⟨by rw [HF.out]; rfl, rfl⟩
    have hA := Hh (sapplied_p sx q x.pars d.inds sl.length hsx.out (by rw [hP.out]; exact hB.out.1.1) (by rw [hP.out]; exact hB.out.1.2) hB.out.2.1 hB.out.2.2 (by omega) (by have := h24.out; omega))
    simp only [aggD, Jl, List.map_cons, List.map_nil] at hA
    have HF : Hid (R = Qbv sx q x.pars d.inds sl.length) := by
      show _ = _
      rw [show R = _ from HR.out, h1, decide_eq_true h2]; rfl
    clear HR hsx h24 hB hP
    generalize Qbv sx q x.pars d.inds sl.length = A at *
    refine go_ ?_
    refine Qcn (hA.out) ?_
    refine go_ ?_
    refine rT Tryz.results190 ?_
    exact ⟨by rw [HF.out]; rfl, rfl⟩
def Qip (l : List En) (x : En) (i : Int) : Bool :=
 Qdu l x i && (((Qax x.ty (x.pars + 1)).2.2 == 0) && (match (Qax x.ty (x.pars + 1)).1[x.pars.toNat]? with | some t => Qbv t x.of_ x.pars 0 x.pars | none => false))
theorem sproj_p (l : List En) (i : Nat) (hi : i < l.length) (ho : ∀ e ∈ l, EnOk e) (hf : FamOk l i) : PCalls Tryz.prog 191 [.d (.sl (l.map encD)), .d (.v (.int .i64 i))] [] fun p s => p = .d (.v (.bool (Qip l l[i] i))) ∧ s = [] := by
  have hO := Hh (sowned_p l i hi ho)
  obtain ⟨R, hR⟩ : ∃ R, R = Qip l l[i] i := ⟨_, rfl⟩
  rw [← hR]
  have hn : (0 : Int) ≤ i := by omega
  have hx3 : l[i]? = some l[i] := List.getElem?_eq_getElem hi
  unfold Qip at hR
  generalize l[i] = x at *
  cases hb : Qdu l x i with
  | false =>
    have HF : Hid (R = false) := by show _ = _; rw [hR, hb]; rfl
    rw [hb] at hO
    clear hR hb hf ho hi
    refine pG Tryz.func191 Tryz.ntmps191 ?_
    refine Qab (hO.out) ?_
    refine rT Tryz.results191 ?_
    exact ⟨by rw [HF.out]; rfl, rfl⟩
  | true =>
    obtain ⟨q, d, hq, hqi, hd, hdk, hpp⟩ := Qlh hb
    have hB := hf q d hqi hd hdk
    obtain ⟨m, hm⟩ : ∃ m : Nat, x.pars = m := ⟨x.pars.toNat, by omega⟩
    have hm24 : Hid ((m : Int) ≤ 24) := by show (m : Int) ≤ 24; omega
    have hm0 : (0 : Int) ≤ m := by omega
    have hws := wr64 (n := (m : Int) + 1) (by omega) (by omega)
    have hW := Hh (tSplit_p x.ty ((m : Int) + 1))
    have hok : (Qax x.ty ((m : Int) + 1)).2.2 = 0 → ((Qax x.ty ((m : Int) + 1)).1.length : Int) = (m : Int) + 1 ∧ ∀ s ∈ (Qax x.ty ((m : Int) + 1)).1, Qak s = true := fun h => ⟨(split_ok h).2.2.1, (split_ok h).2.2.2.2⟩
    rw [hm, hq] at hR
    generalize Qax x.ty ((m : Int) + 1) = W at *
    obtain ⟨sl, sx, se⟩ := W
    simp only at hR hok
    unfold Qee at hW
    simp only [aggD, Jl, List.map_cons, List.map_nil] at hW
    have HR := Hh hR
    have HK := Hh hok
    rw [hb] at hO HR
    rw [Int.toNat_natCast] at HR
    simp only [Bool.true_and] at HR
    clear hR hi ho hok hb hf hpp hqi hdk hB
    refine pG Tryz.func191 Tryz.ntmps191 ?_
    refine Qab (hO.out) ?_
    refine Qfc (J := Qcm []) [(0, .a), (1, .a), (2, .a), (3, .a), (4, .a), (5, .a), (6, .a), (7, .a), (8, .a), (9, .a), (10, .a), (11, .a), (12, .a), (13, .a), (14, .a), (15, .a), (16, .e), (17, .a), (18, .e), (19, .a)] (by kernel_rfl) (by rfl) (by kernel_rfl) (by (repeat (first | exact Qat _ | refine Ju (by simp [St.box?, *] <;> rfl) ?_))) ?_
    refine jG ?_
    refine Qiw (hW.out) ?_
    refine jG ?_
    refine Qlv rfl (by decide) rfl (by simp; rfl) (fun i hi => by simp only [Ja, Rh, Rg] at hi; (repeat (first | exact Qat _ | refine Ju (by simp [St.box?, *] <;> rfl) ?_))) ?_
    intro i0 hi0
    try simp only [Ja, Rh, Rg, Jb] at hi0
    refine jG ?_
    refine PJs ?_
    refine jG ?_
    refine go_ ?_
    refine Qal [(0, .a), (1, .a), (2, .a), (3, .a), (4, .a), (5, .a), (6, .a), (7, .a), (8, .a), (9, .a), (10, .a), (11, .a), (12, .a), (13, .a), (14, .a), (15, .a), (16, .a), (17, .a), (18, .a), (19, .a), (20, .a), (21, .a), (22, .a), (23, .a), (24, .a), (25, .a), (26, .a), (27, .a), (28, .a)] (by kernel_rfl) (by rfl) (by kernel_rfl) ?_
    refine go_ ?_
    rcases Bool.eq_false_or_eq_true (se == 0) with h1 | h1
    rotate_left
    · have HF : Hid (R = false) := by show _ = _; rw [show R = _ from HR.out, h1]; rfl
      clear HR HK
      refine go_ ?_
      refine rT Tryz.results191 ?_
      exact ⟨by rw [HF.out]; rfl, rfl⟩
    obtain ⟨hl, hsh⟩ := HK.out (beq_iff_eq.1 h1)
    have hml : m < sl.length := by omega
    have hy : sl[m]? = some sl[m] := List.getElem?_eq_getElem hml
    have hsy := Hh (hsh _ (List.getElem_mem hml))
    have hm1 : (m : Int) < sl.length := by omega
    rw [hy] at HR
    clear hl hsh HK
    generalize sl[m] = y at *
    clear hml
    have hA := Hh (sapplied_p y q m 0 m hsy.out hm0 hm24.out (by omega) (by omega) hm0 (by have := hm24.out; omega))
    simp only [aggD, Jl, List.map_cons, List.map_nil] at hA
    have HF : Hid (R = Qbv y q m 0 m) := by
      show _ = _
      rw [show R = _ from HR.out, h1]; rfl
    clear HR hsy hm24
    generalize Qbv y q m 0 m = A at *
    refine go_ ?_
    refine Qcn (hA.out) ?_
    refine go_ ?_
    refine rT Tryz.results191 ?_
    exact ⟨by rw [HF.out]; rfl, rfl⟩
def fam1 (x : En) : Bool := decide (0 ≤ x.pars) && (decide (0 ≤ x.inds) && (decide (x.pars ≤ 24) && (decide (x.inds ≤ 24 - x.pars) && ((x.of_ == 0) && ((x.place == 0) && Qez x.body)))))
def fam2 (l : List En) (x : En) (i : Nat) (W : List Tm × Tm × Int) : Bool := (W.2.2 == 0) && ((W.2.1.kind == 2) && ((W.2.1.num == x.level) && (decide ((x.cons.length : Int) ≤ 16) && (runW x.cons ((i : Int) + 1) 0 && Qbp l i x.cons 2 0))))
def fam4 (l : List En) (x : En) (n : Nat) : Bool := match l[n]? with | some d => ((Qbx d.ty).2.2 == 0) && (((Qbx d.ty).1.length : Int) == x.pars + x.fields.length) | none => false
def fam3 (l : List En) (x : En) (i : Nat) : Bool := ((x.fields.length : Int) == 0) || ((x.inds == 0) && (((x.cons.length : Int) == 1) && (runW x.fields ((i : Int) + 2) 0 && (Qbp l i x.fields 4 0 && fam4 l x (i + 1)))))
def famB (l : List En) (x : En) (i : Nat) : Bool := fam1 x && (fam2 l x i (Qax x.ty (x.pars + x.inds)) && fam3 l x i)
theorem one_con {l : List En} {c : List Int} {i : Nat} (h1 : (c.length : Int) = 1) (hi : i + 1 < 4000000000000000000) (hr : runW c ((i : Int) + 1) 0 = true) (hm : Qbp l i c 2 0 = true) : i + 1 < l.length := by
  match c, h1 with
  | [n], _ =>
    simp only [runW, Qbp, Bool.and_eq_true, Bool.and_true] at hr hm
    have h2 := beq_iff_eq.1 hr
    rw [wr64 (n := (i : Int) + 1 + ((0 : Nat) : Int)) (by omega) (by omega)] at h2
    unfold memE at hm
    rw [Bool.and_eq_true] at hm
    obtain ⟨m, hm1, hm2, -⟩ := Qjf hm.1
    omega
theorem sfamily_p (l : List En) (i : Nat) (hi : i < l.length) (hl : l.length ≤ 3000000000000000000) (ho : EnOk l[i]) : PCalls Tryz.prog 189 [.d (.sl (l.map encD)), .d (.v (.int .i64 i))] [] fun p s => p = .d (.v (.bool (famB l l[i] i))) ∧ s = [] := by
 obtain ⟨R, hR⟩ : ∃ R, R = famB l l[i] i := ⟨_, rfl⟩
 rw [← hR]
 have hn : (0 : Int) ≤ i := by omega
 have hx3 : l[i]? = some l[i] := List.getElem?_eq_getElem hi
 unfold famB at hR
 generalize l[i] = x at *
 have hN := Hh (snone_p x.body)
 simp only [aggD, Jl, List.map_cons, List.map_nil] at hN
 have hw1 := wr64 (n := (i : Int) + 1) (by omega) (by omega)
 have hw2 := wr64 (n := (i : Int) + 2) (by omega) (by omega)
 have HO := Hh ho
 have HL := Hh (show i + 1 < 4000000000000000000 by omega)
 have HR := Hh hR
 clear hR hi ho hl
 refine pG Tryz.func189 Tryz.ntmps189 ?_
 refine Je ?_
 intro i0 hi0
 refine go_ ?_
 refine Qaa ?_
 by_cases a1 : 0 ≤ x.pars
 rotate_left
 ·have a1b : x.pars < 0 := by omega
  have HF : Hid (R = false) := by show _ = _; rw [show R = _ from HR.out]; unfold fam1; simp [a1]
  clear HR a1
  refine go_ ?_
  refine rT Tryz.results189 ?_
  exact ⟨by rw [HF.out]; rfl, rfl⟩
 have a1c : ¬ x.pars < 0 := by omega
 refine go_ ?_
 by_cases a2 : 0 ≤ x.inds
 rotate_left
 ·have a2b : x.inds < 0 := by omega
  have HF : Hid (R = false) := by show _ = _; rw [show R = _ from HR.out]; unfold fam1; simp [a2]
  clear HR a2
  refine go_ ?_
  refine rT Tryz.results189 ?_
  exact ⟨by rw [HF.out]; rfl, rfl⟩
 have a2c : ¬ x.inds < 0 := by omega
 refine go_ ?_
 by_cases a3 : x.pars ≤ 24
 rotate_left
 ·have a3b : 24 < x.pars := by omega
  have HF : Hid (R = false) := by show _ = _; rw [show R = _ from HR.out]; unfold fam1; simp [a3]
  clear HR a3
  refine go_ ?_
  refine rT Tryz.results189 ?_
  exact ⟨by rw [HF.out]; rfl, rfl⟩
 have a3c : ¬ 24 < x.pars := by omega
 refine go_ ?_
 have hw3 := wr64 (n := 24 - x.pars) (by omega) (by omega)
 refine go_ ?_
 by_cases a4 : x.inds ≤ 24 - x.pars
 rotate_left
 ·have a4b : 24 - x.pars < x.inds := by omega
  have HF : Hid (R = false) := by show _ = _; rw [show R = _ from HR.out]; unfold fam1; simp [a4]
  clear HR a4
  refine go_ ?_
  refine rT Tryz.results189 ?_
  exact ⟨by rw [HF.out]; rfl, rfl⟩
 have a4c : ¬ 24 - x.pars < x.inds := by omega
 refine go_ ?_
 by_cases a5 : x.of_ = 0
 rotate_left
 ·have a5b : (x.of_ != 0) = true := bne_iff_ne.2 a5
  have HF : Hid (R = false) := by show _ = _; rw [show R = _ from HR.out]; unfold fam1; simp [a5]
  clear HR a5
  refine go_ ?_
  refine rT Tryz.results189 ?_
  exact ⟨by rw [HF.out]; rfl, rfl⟩
 have a5c : (x.of_ != 0) = false := by rw [a5]; rfl
 refine go_ ?_
 by_cases a6 : x.place = 0
 rotate_left
 ·have a6b : (x.place != 0) = true := bne_iff_ne.2 a6
  have HF : Hid (R = false) := by show _ = _; rw [show R = _ from HR.out]; unfold fam1; simp [a6]
  clear HR a6
  refine go_ ?_
  refine rT Tryz.results189 ?_
  exact ⟨by rw [HF.out]; rfl, rfl⟩
 have a6c : (x.place != 0) = false := by rw [a6]; rfl
 refine go_ ?_
 refine Qad (hN.out) ?_
 clear hN
 by_cases a7 : Qez x.body = true
 rotate_left
 ·have a7b : Qez x.body = false := by simpa using a7
  have HF : Hid (R = false) := by show _ = _; rw [show R = _ from HR.out]; unfold fam1; simp [a7]
  clear HR a7
  refine go_ ?_
  refine rT Tryz.results189 ?_
  exact ⟨by rw [HF.out]; rfl, rfl⟩
 have a7c : Qez x.body = Qez x.body := rfl
 refine go_ ?_
 have HR1 : Hid (R = (fam2 l x i (Qax x.ty (x.pars + x.inds)) && fam3 l x i)) := by
  show _ = _
  rw [show R = _ from HR.out]
  unfold fam1
  simp [a1, a2, a3, a4, a5, a6, a7]
 clear HR
 have hw4 := wr64 (n := x.pars + x.inds) (by omega) (by omega)
 have HB := Hh (And.intro (And.intro a1 a3) (And.intro a2 a4))
 clear a1 a2 a3 a4 a5 a6 a7 hw3
 clear a1c a2c a3c a4c a5c a6c
 have hW := Hh (tSplit_p x.ty (x.pars + x.inds))
 unfold fam2 at HR1
 generalize Qax x.ty (x.pars + x.inds) = W at *
 obtain ⟨sl, sx, se⟩ := W
 simp only at HR1
 unfold Qee at hW
 simp only [aggD, Jl, List.map_cons, List.map_nil] at hW
 refine go_ ?_
 refine Qab (hW.out) ?_
 clear hW
 refine Je ?_
 intro i1 hi1
 try simp only [Ja, Rh, Rg, Jb] at hi1
 refine go_ ?_
 refine Qaa ?_
 by_cases b1 : se = 0
 rotate_left
 ·have b1b : (se != 0) = true := bne_iff_ne.2 b1
  have HF : Hid (R = false) := by show _ = _; rw [show R = _ from HR1.out]; skip; simp [b1]
  clear HR1 b1
  refine go_ ?_
  refine rT Tryz.results189 ?_
  exact ⟨by rw [HF.out]; rfl, rfl⟩
 have b1c : (se != 0) = false := by rw [b1]; rfl
 refine go_ ?_
 by_cases b2 : sx.kind = 2
 rotate_left
 ·have b2b : (sx.kind != 2) = true := bne_iff_ne.2 b2
  have HF : Hid (R = false) := by show _ = _; rw [show R = _ from HR1.out]; skip; simp [b2]
  clear HR1 b2
  refine go_ ?_
  refine rT Tryz.results189 ?_
  exact ⟨by rw [HF.out]; rfl, rfl⟩
 have b2c : (sx.kind != 2) = false := by rw [b2]; rfl
 refine go_ ?_
 by_cases b3 : sx.num = x.level
 rotate_left
 ·have b3b : (sx.num != x.level) = true := bne_iff_ne.2 b3
  have HF : Hid (R = false) := by show _ = _; rw [show R = _ from HR1.out]; skip; simp [b3]
  clear HR1 b3
  refine go_ ?_
  refine rT Tryz.results189 ?_
  exact ⟨by rw [HF.out]; rfl, rfl⟩
 have b3c : (sx.num != x.level) = false := by rw [b3]; simp
 refine go_ ?_
 by_cases b4 : (x.cons.length : Int) ≤ 16
 rotate_left
 ·have b4b : 16 < (x.cons.length : Int) := by omega
  have HF : Hid (R = false) := by show _ = _; rw [show R = _ from HR1.out]; skip; simp [b4]
  clear HR1 b4
  refine go_ ?_
  refine rT Tryz.results189 ?_
  exact ⟨by rw [HF.out]; rfl, rfl⟩
 have b4c : ¬ 16 < (x.cons.length : Int) := by omega
 refine go_ ?_
 refine Qad (srun_p x.cons ((i : Int) + 1)) ?_
 by_cases b5 : runW x.cons ((i : Int) + 1) 0 = true
 rotate_left
 ·have b5b : runW x.cons ((i : Int) + 1) 0 = false := by simpa using b5
  have HF : Hid (R = false) := by show _ = _; rw [show R = _ from HR1.out]; skip; simp [b5]
  clear HR1 b5
  refine go_ ?_
  refine rT Tryz.results189 ?_
  exact ⟨by rw [HF.out]; rfl, rfl⟩
 have b5c : 0 = 0 := rfl
 refine go_ ?_
 refine Qad (smembers_p l i 2 x.cons) ?_
 by_cases b6 : Qbp l i x.cons 2 0 = true
 rotate_left
 ·have b6b : Qbp l i x.cons 2 0 = false := by simpa using b6
  have HF : Hid (R = false) := by show _ = _; rw [show R = _ from HR1.out]; skip; simp [b6]
  clear HR1 b6
  refine go_ ?_
  refine rT Tryz.results189 ?_
  exact ⟨by rw [HF.out]; rfl, rfl⟩
 have b6c : 0 = 0 := rfl
 refine go_ ?_
 have HR2 : Hid (R = fam3 l x i) := by
  show _ = _
  rw [show R = _ from HR1.out]
  simp [b1, b2, b3, b4, b5, b6]
 clear HR1
 have HC := Hh (fun h => one_con (l := l) h HL.out b5 b6)
 clear b1 b2 b3 b4 b5 b6 b1c b2c b3c b4c b5c b6c HL
 unfold fam3 at HR2
 by_cases c1 : (x.fields.length : Int) = 0
 ·have c1b : ((x.fields.length : Int) == 0) = true := beq_iff_eq.2 c1
  have HF : Hid (R = true) := by show _ = _; rw [show R = _ from HR2.out, c1b]; rfl
  clear c1 HR2 HC
  refine go_ ?_
  refine rT Tryz.results189 ?_
  exact ⟨by rw [HF.out]; rfl, rfl⟩
 have c1b : ((x.fields.length : Int) == 0) = false := beq_eq_false_iff_ne.2 c1
 have HR3 : Hid (R = ((x.inds == 0) && (((x.cons.length : Int) == 1) && (runW x.fields ((i : Int) + 2) 0 && (Qbp l i x.fields 4 0 && fam4 l x (i + 1)))))) := by show _ = _; rw [show R = _ from HR2.out, c1b]; rfl
 clear HR2 c1
 refine go_ ?_
 by_cases d1 : x.inds = 0
 rotate_left
 ·have d1b : (x.inds != 0) = true := bne_iff_ne.2 d1
  have HF : Hid (R = false) := by show _ = _; rw [show R = _ from HR3.out]; skip; simp [d1]
  clear HR3 d1
  refine go_ ?_
  refine rT Tryz.results189 ?_
  exact ⟨by rw [HF.out]; rfl, rfl⟩
 have d1c : (x.inds != 0) = false := by rw [d1]; rfl
 refine go_ ?_
 by_cases d2 : (x.cons.length : Int) = 1
 rotate_left
 ·have d2b : ((x.cons.length : Int) != 1) = true := bne_iff_ne.2 d2
  have HF : Hid (R = false) := by show _ = _; rw [show R = _ from HR3.out]; skip; simp [d2]
  clear HR3 d2
  refine go_ ?_
  refine rT Tryz.results189 ?_
  exact ⟨by rw [HF.out]; rfl, rfl⟩
 have d2c : ((x.cons.length : Int) != 1) = false := by rw [d2]; rfl
 refine go_ ?_
 refine Qad (srun_p x.fields ((i : Int) + 2)) ?_
 by_cases d3 : runW x.fields ((i : Int) + 2) 0 = true
 rotate_left
 ·have d3b : runW x.fields ((i : Int) + 2) 0 = false := by simpa using d3
  have HF : Hid (R = false) := by show _ = _; rw [show R = _ from HR3.out]; skip; simp [d3]
  clear HR3 d3
  refine go_ ?_
  refine rT Tryz.results189 ?_
  exact ⟨by rw [HF.out]; rfl, rfl⟩
 have d3c : 0 = 0 := rfl
 refine go_ ?_
 refine Qad (smembers_p l i 4 x.fields) ?_
 by_cases d4 : Qbp l i x.fields 4 0 = true
 rotate_left
 ·have d4b : Qbp l i x.fields 4 0 = false := by simpa using d4
  have HF : Hid (R = false) := by show _ = _; rw [show R = _ from HR3.out]; skip; simp [d4]
  clear HR3 d4
  refine go_ ?_
  refine rT Tryz.results189 ?_
  exact ⟨by rw [HF.out]; rfl, rfl⟩
 have d4c : 0 = 0 := rfl
 refine go_ ?_
 have hil := HC.out d2
 have hd : l[i + 1]? = some l[i + 1] := List.getElem?_eq_getElem hil
 have HR4 : Hid (R = fam4 l x (i + 1)) := by
  show _ = _
  rw [show R = _ from HR3.out]
  simp [d1, d2, d3, d4]
 clear HR3 HC d1 d2 d3 d4 d1c d2c d3c d4c
 unfold fam4 at HR4
 rw [hd] at HR4
 have hil2 := Hh hil
 generalize l[i + 1] = d at *
 clear hil
 simp only at HR4
 have hV := Hh (tWhole_p d.ty)
 generalize Qbx d.ty = V at *
 obtain ⟨vl, vx, ve⟩ := V
 simp only at HR4
 unfold Qee at hV
 simp only [aggD, Jl, List.map_cons, List.map_nil] at hV
 have hc1 : (0 : Int) ≤ (i : Int) + 1 := by omega
 have hc2 : ((i : Int) + 1).toNat = i + 1 := by omega
 refine go_ ?_
 refine Qab (hV.out) ?_
 clear hV
 refine Je ?_
 intro i2 hi2
 try simp only [Ja, Rh, Rg, Jb] at hi2
 refine go_ ?_
 refine Rd ?_
 have hw5 := wr64 (n := x.pars + x.fields.length) (by have := HB.out.1; omega) (by have := HB.out.1; have := HO.out.2; omega)
 refine go_ ?_
 rcases Bool.eq_false_or_eq_true (ve == 0) with e1 | e1
 rotate_left
 ·have HF : Hid (R = false) := by show _ = _; rw [show R = _ from HR4.out, e1]; rfl
  clear HR4
  refine go_ ?_
  refine rT Tryz.results189 ?_
  exact ⟨by rw [HF.out]; rfl, rfl⟩
 have HF : Hid (R = ((vl.length : Int) == x.pars + x.fields.length)) := by show _ = _; rw [show R = _ from HR4.out, e1]; rfl
 clear HR4
 refine go_ ?_
 refine rT Tryz.results189 ?_
 exact ⟨by rw [HF.out]; rfl, rfl⟩
theorem flat_v {f : FuncId} {x : Value} {b : Bool} (h : okv x → ∀ w : World, Calls Tryz.prog f #[x] w fun e w' => e = .returned (.bool b) ∧ Below w.heap.size w w') : PCalls Tryz.prog f [.d (.v x)] [] fun p s => p = .d (.v (.bool b)) ∧ s = [] := by
  refine PCalls.flat trivial fun K w vs ha => ?_
  obtain ⟨v, rfl, hv⟩ := ha.one
  cases hv with
  | d hv => cases hv with
    | v hok => exact h hok w
theorem Qkv (s : ByteArray) : PCalls Tryz.prog 187 [.d (.v (.string s))] [] fun p s2 => p = .d (.v (.bool (Qam s))) ∧ s2 = [] := flat_v fun hs => Qmq s hs
theorem Qjv (s : ByteArray) : PCalls Tryz.prog 153 [.d (.v (.string s))] [] fun p s2 => p = .d (.v (.bool (Qam s))) ∧ s2 = [] := flat_v fun hs => Qlm s hs
def kindB (l : List En) (x : En) (i : Nat) : Bool := if x.kind = 1 then famB l x i else if x.kind = 2 then conB l x i else if x.kind = 4 then Qip l x i else if x.kind = 3 then defB x i else false
def Qdd (l : List En) (x : En) (i : Nat) : Bool := Qam x.name && (Qct x.ty i && kindB l x i)
theorem sentry_p (l : List En) (i : Nat) (hi : i < l.length) (hl : l.length ≤ 3000000000000000000) (ho : ∀ e ∈ l, EnOk e) (hf : FamOk l i) : PCalls Tryz.prog 130 [.d (.sl (l.map encD)), .d (.v (.int .i64 i))] [] fun p s => p = .d (.v (.bool (Qdd l l[i] i))) ∧ s = [] := by
 have h1 := Hh (sfamily_p l i hi hl (ho _ (List.getElem_mem hi)))
 have h2 := Hh (scon_p l i hi ho hf)
 have h4 := Hh (sproj_p l i hi ho hf)
 have h3 := Hh (sdef_p l i hi (ho _ (List.getElem_mem hi)))
 have hR := Hh (Qkv l[i].name)
 have hC := Hh (sclosed_p l[i].ty i)
 simp only [aggD, Jl, List.map_cons, List.map_nil] at hC
 have hn : (0 : Int) ≤ i := by omega
 have hx3 : l[i]? = some l[i] := List.getElem?_eq_getElem hi
 have HR := Hh (show Qdd l l[i] i = (Qam l[i].name && (Qct l[i].ty i && kindB l l[i] i)) from rfl)
 have HK := Hh (show kindB l l[i] i = (if l[i].kind = 1 then famB l l[i] i else if l[i].kind = 2 then conB l l[i] i else if l[i].kind = 4 then Qip l l[i] i else if l[i].kind = 3 then defB l[i] i else false) from rfl)
 generalize Qdd l l[i] i = R at *
 generalize l[i] = x at *
 generalize kindB l x i = KB at *
 generalize Qam x.name = B at *
 generalize Qct x.ty i = C at *
 generalize famB l x i = Q1 at *
 generalize conB l x i = Q2 at *
 generalize Qip l x i = Q4 at *
 generalize defB x i = Q3 at *
 clear hi hl ho hf
 refine pG Tryz.func130 Tryz.ntmps130 ?_
 refine Qab (hR.out) ?_
 clear hR
 rcases Bool.eq_false_or_eq_true (B) with b1 | b1
 rotate_left
 ·have HF : Hid (R = false) := by show _ = _; rw [show R = _ from HR.out, b1]; rfl
  clear HR HK
  refine go_ ?_
  refine rT Tryz.results130 ?_
  exact ⟨by rw [HF.out]; rfl, rfl⟩
 refine go_ ?_
 refine Qad (hC.out) ?_
 clear hC
 rcases Bool.eq_false_or_eq_true (C) with b2 | b2
 rotate_left
 ·have HF : Hid (R = false) := by show _ = _; rw [show R = _ from HR.out, b1, b2]; rfl
  clear HR HK
  refine go_ ?_
  refine rT Tryz.results130 ?_
  exact ⟨by rw [HF.out]; rfl, rfl⟩
 have HR2 : Hid (R = KB) := by show _ = _; rw [show R = _ from HR.out, b1, b2]; rfl
 clear HR
 refine go_ ?_
 by_cases k1 : x.kind = 1
 ·have HF : Hid (R = Q1) := by show _ = _; rw [show R = _ from HR2.out, show KB = _ from HK.out, if_pos k1]
  have kb : (x.kind == 1) = true := beq_iff_eq.2 k1
  clear HR2 HK k1
  refine go_ ?_
  refine Qab (h1.out) ?_
  refine rT Tryz.results130 ?_
  exact ⟨by rw [HF.out]; rfl, rfl⟩
 have kb1 : (x.kind == 1) = false := beq_eq_false_iff_ne.2 k1
 refine go_ ?_
 by_cases k2 : x.kind = 2
 ·have HF : Hid (R = Q2) := by show _ = _; rw [show R = _ from HR2.out, show KB = _ from HK.out, if_neg k1, if_pos k2]
  have kb : (x.kind == 2) = true := beq_iff_eq.2 k2
  clear HR2 HK k2 k1
  refine go_ ?_
  refine Qab (h2.out) ?_
  refine rT Tryz.results130 ?_
  exact ⟨by rw [HF.out]; rfl, rfl⟩
 have kb2 : (x.kind == 2) = false := beq_eq_false_iff_ne.2 k2
 refine go_ ?_
 by_cases k4 : x.kind = 4
 ·have HF : Hid (R = Q4) := by show _ = _; rw [show R = _ from HR2.out, show KB = _ from HK.out, if_neg k1, if_neg k2, if_pos k4]
  have kb : (x.kind == 4) = true := beq_iff_eq.2 k4
  clear HR2 HK k4 k2 k1
  refine go_ ?_
  refine Qab (h4.out) ?_
  refine rT Tryz.results130 ?_
  exact ⟨by rw [HF.out]; rfl, rfl⟩
 have kb4 : (x.kind == 4) = false := beq_eq_false_iff_ne.2 k4
 refine go_ ?_
 by_cases k3 : x.kind = 3
 ·have HF : Hid (R = Q3) := by show _ = _; rw [show R = _ from HR2.out, show KB = _ from HK.out, if_neg k1, if_neg k2, if_neg k4, if_pos k3]
  have kb : (x.kind == 3) = true := beq_iff_eq.2 k3
  clear HR2 HK k3 k4 k2 k1
  refine go_ ?_
  refine Qab (h3.out) ?_
  refine rT Tryz.results130 ?_
  exact ⟨by rw [HF.out]; rfl, rfl⟩
 have kb3 : (x.kind == 3) = false := beq_eq_false_iff_ne.2 k3
 have HF : Hid (R = false) := by show _ = _; rw [show R = _ from HR2.out, show KB = _ from HK.out, if_neg k1, if_neg k2, if_neg k4, if_neg k3]
 clear HR2 HK k3 k4 k2 k1
 refine go_ ?_
 refine rT Tryz.results130 ?_
 exact ⟨by rw [HF.out]; rfl, rfl⟩
end Go.Proofs.YtdklpbefbamchaaGreat
