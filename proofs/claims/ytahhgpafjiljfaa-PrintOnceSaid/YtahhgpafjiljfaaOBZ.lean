import Derived.Test.YtahhgpafjiljfaaOBY
import Derived.Test.YtahhgpafjiljfaaOBNd
import Derived.Test.YtahhgpafjiljfaaOBA3
set_option linter.unusedSimpArgs false
set_option linter.unusedVariables false
set_option maxHeartbeats 16000000
set_option maxRecDepth 100000
namespace Go.Proofs.Ytahhgpafjiljfaa
open Go.RowKit
structure ST where
 i : Nat
 at_ : Int
 bad : Int
def noTk : Tk := ⟨5, ⟨#[]⟩, 0⟩
def tkg (l : List Tk) (j : Nat) : Tk := (l[j]?).getD ((l[l.length - 1]?).getD noTk)
def Qbh (e a : Int) (σ : ST) : ST := if σ.bad = 0 then ⟨σ.i, a, e⟩ else σ
def markB' (t : Tk) (s : ByteArray) : Bool := (t.kind == 4 || t.kind == 2) && t.text.toList == s.toList
def isS (l : List Tk) (σ : ST) (k : Nat) (s : ByteArray) : Bool := markB' (tkg l (σ.i + k)) s
def incS (σ : ST) : ST := ⟨σ.i + 1, σ.at_, σ.bad⟩
def Qaf (l : List Tk) (s : ByteArray) (σ : ST) : ST :=
 let τ := if isS l σ 0 s then σ else Qbh 1 (tkg l σ.i).at_ σ
 if τ.bad = 0 then incS τ else τ
def namedK (t : Tk) : Bool := t.kind == 1 && !(t.text.toList == [95])
def Qcy (l : List Tk) (σ : ST) (k : Nat) : Bool := namedK (tkg l (σ.i + k))
def Qal (l : List Tk) (σ : ST) : ByteArray × ST :=
 let τ := if Qcy l σ 0 then σ else Qbh 1 (tkg l σ.i).at_ σ
 if τ.bad = 0 then ((tkg l τ.i).text, incS τ) else (⟨#[]⟩, τ)
def Qbk (l : List Tk) (σ : ST) : ByteArray × ST :=
 if (tkg l σ.i).kind == 1 && σ.bad == 0 then ((tkg l σ.i).text, incS σ) else Qal l σ
def sPar : ByteArray := ⟨#[40]⟩
def sRap : ByteArray := ⟨#[41]⟩
def sCol : ByteArray := ⟨#[58]⟩
def sArr : ByteArray := ⟨#[45, 62]⟩
def sLam : ByteArray := ⟨#[92]⟩
def sSet : ByteArray := ⟨#[83, 101, 116]⟩
def sDot : ByteArray := ⟨#[46]⟩
def sEq : ByteArray := ⟨#[61]⟩
def sSem : ByteArray := ⟨#[59]⟩
def sBra : ByteArray := ⟨#[123]⟩
def sKet : ByteArray := ⟨#[125]⟩
def sData : ByteArray := ⟨#[100, 97, 116, 97]⟩
def sRec : ByteArray := ⟨#[114, 101, 99, 111, 114, 100]⟩
def sDef : ByteArray := ⟨#[100, 101, 102]⟩
def Qdi (l : List Tk) (σ : ST) : Bool := isS l σ 0 sPar && (tkg l (σ.i + 1)).kind == 1 && isS l σ 2 sCol
def setS (l : List Tk) (σ : ST) : Nd × ST :=
 let τ := incS σ
 let t := tkg l τ.i
 if t.kind == 3 then
  (.mk 2 (tkg l σ.i).at_ ⟨#[]⟩ (numT t.text) [], incS (if 7 < numT t.text then Qbh 1 t.at_ τ else τ))
 else (.mk 2 (tkg l σ.i).at_ ⟨#[]⟩ 0 [], τ)
def Qgc (l : List Tk) (σ : ST) : Bool := Qcy l σ 0 || isS l σ 0 sSet || (isS l σ 0 sPar && !Qdi l σ)
def zNd : Nd := .mk 0 0 ⟨#[]⟩ 0 []
mutual
def Qdg (l : List Tk) : Nat → Int → Int → ST → Nd × ST
  | 0, _, _, σ => (zNd, σ)
  | n + 1, kind, at_, σ =>
    let x := Qbk l (Qaf l sPar σ)
    let a := Qav l n (Qaf l sCol x.2)
    let b := Qav l n (Qaf l sArr (Qaf l sRap a.2))
    (.mk kind at_ x.1 0 [a.1, b.1], b.2)
def Qav (l : List Tk) : Nat → ST → Nd × ST
  | 0, σ => (zNd, σ)
  | n + 1, σ =>
    if σ.bad ≠ 0 then (zNd, σ)
    else if isS l σ 0 sLam then Qdg l n 4 (tkg l σ.i).at_ (incS σ)
    else if Qdi l σ then Qdg l n 3 (tkg l σ.i).at_ σ
    else
      let g := appS l n σ
      if g.2.bad = 0 ∧ isS l g.2 0 sArr then
        let x := Qav l n (incS g.2)
        (.mk 3 g.1.at ⟨#[95]⟩ 0 [g.1, x.1], x.2)
      else g
def Qbn (l : List Tk) : Nat → ST → Nd × ST
  | 0, σ => (zNd, σ)
  | n + 1, σ =>
    if σ.bad ≠ 0 then (zNd, σ)
    else if isS l σ 0 sSet then setS l σ
    else if isS l σ 0 sPar then
      let x := Qav l n (incS σ)
      (x.1, Qaf l sRap x.2)
    else (.mk 1 (tkg l σ.i).at_ (Qal l σ).1 0 [], (Qal l σ).2)
def appS (l : List Tk) : Nat → ST → Nd × ST
  | 0, σ => (zNd, σ)
  | n + 1, σ =>
    let g := Qbn l n σ
    appL l n g.1 g.2
def appL (l : List Tk) : Nat → Nd → ST → Nd × ST
  | 0, g, σ => (g, σ)
  | n + 1, g, σ =>
    if σ.bad = 0 ∧ Qgc l σ then
      let x := Qbn l n σ
      appL l n (.mk 5 g.at ⟨#[]⟩ 0 [g, x.1]) x.2
    else (g, σ)
end
structure TkOk (l : List Tk) : Prop where
 len : l.length ≤ 100000
 pos : 0 < l.length
 last : (tkg l (l.length - 1)).kind = 5
def Wf (l : List Tk) (σ : ST) : Prop := σ.i < l.length
def prS (i0 : Nat) (l : List Tk) (σ : ST) : St := [.box i0 61 [.d (.sl (l.map encD)), .d (.v (.int .i64 σ.i)), .d (.v (.int .i64 σ.at_)), .d (.v (.int .i64 σ.bad))]]
theorem tkg_lt {l : List Tk} {j : Nat} (h : j < l.length) : tkg l j = l[j] := by unfold tkg; rw [List.getElem?_eq_getElem h]; rfl
theorem tkg_ge {l : List Tk} {j : Nat} (h : l.length ≤ j) (h0 : 0 < l.length) : tkg l j = l[l.length - 1]'(by omega) := by
 unfold tkg
 rw [List.getElem?_eq_none h, List.getElem?_eq_getElem (by omega)]; rfl
theorem tok_p (i0 : Nat) (l : List Tk) (σ : ST) (kk : Int) (j : Nat) (hj : (σ.i : Int) + kk = j) (hl : l.length ≤ 100000) (h0 : 0 < l.length) (hi : σ.i ≤ 200000) (hk1 : -5 ≤ kk) (hk2 : kk ≤ 5) : PCalls Try.prog 28 [.ptr i0 0, .d (.v (.int .i64 kk))] (prS i0 l σ) fun p s => p = aggD (tkg l j) ∧ s = prS i0 l σ := by
 have hw : IntKind.i64.wrap ((σ.i : Int) + kk) = (j : Int) := by rw [IntWalk.i64_in _ (by omega)]; exact hj
 clear hj hk1 hk2
 unfold prS
 obtain ⟨i, at_, bad⟩ := σ
 simp only at *
 refine pG Try.func28 Try.ntmps28 ?_
 refine Jd ?_
 intro i1 hi1
 simp only [Rh, Rg] at hi1
 refine go_ ?_
 refine Qao [(0, .a), (1, .a), (2, .a), (3, .b), (4, .a), (5, .a), (6, .a), (7, .a), (8, .a), (9, .b), (10, .a), (11, .a)] (by kernel_rfl) (by rfl) (by kernel_rfl) ?_
 refine go_ ?_
 by_cases h : j < l.length
 ·have hc : ¬ ((l.length : Int) ≤ (j : Int)) := by omega
  have hc' : ¬ (l.length ≤ j) := by omega
  have hn : (0 : Int) ≤ (j : Int) := by omega
  have hx := Qbx h
  have he := Qdz l[j]
  have HT := Hh (tkg_lt h)
  refine go_ ?_
  refine Qao [(0, .a), (1, .a), (2, .a), (3, .b), (4, .a), (5, .a), (6, .a), (7, .b), (8, .a), (9, .a), (10, .a), (11, .a), (12, .e)] (by kernel_rfl) (by rfl) (by kernel_rfl) ?_
  refine go_ ?_
  refine Qdm ?_
  refine go_ ?_
  refine rS (st' := [.box i0 61 [.d (.sl (l.map encD)), .d (.v (.int .i64 i)), .d (.v (.int .i64 at_)), .d (.v (.int .i64 bad))]]) Try.results28 ?_
  exact ⟨by rw [HT.out]; rfl, rfl⟩
 ·have hc : (l.length : Int) ≤ (j : Int) := by omega
  have hc' : l.length ≤ j := by omega
  have hm : l.length - 1 < l.length := by omega
  have hw2 : IntKind.i64.wrap ((l.length : Int) - 1) = ((l.length - 1 : Nat) : Int) := by rw [IntWalk.i64_in _ (by omega)]; omega
  have HT := Hh (tkg_ge hc' h0)
  obtain ⟨m, hme⟩ : ∃ m, m = l.length - 1 := ⟨_, rfl⟩
  rw [← hme] at hw2
  have hm' : m < l.length := by omega
  have hx := Qbx hm'
  have he := Qdz l[m]
  have hn : (0 : Int) ≤ (m : Int) := by omega
  have HE := Hh (show tkg l j = l[m] by rw [HT.out]; congr 1; exact hme.symm)
  clear HT hme hm
  refine go_ ?_
  refine Qao [(0, .a), (1, .a), (2, .a), (3, .b), (4, .a), (5, .a), (6, .a), (7, .b), (8, .a), (9, .a), (10, .a), (11, .a), (12, .e)] (by kernel_rfl) (by rfl) (by kernel_rfl) ?_
  refine go_ ?_
  refine Qdm ?_
  refine go_ ?_
  refine rS (st' := [.box i0 61 [.d (.sl (l.map encD)), .d (.v (.int .i64 i)), .d (.v (.int .i64 at_)), .d (.v (.int .i64 bad))]]) Try.results28 ?_
  exact ⟨by rw [HE.out]; rfl, rfl⟩
theorem Qic (i0 : Nat) (l : List Tk) (σ : ST) (e a : Int) : PCalls Try.prog 46 [.ptr i0 0, .d (.v (.int .i64 e)), .d (.v (.int .i64 a))] (prS i0 l σ) fun p s => p = .tup [] ∧ s = prS i0 l (Qbh e a σ) := by
 unfold prS
 obtain ⟨i, at_, bad⟩ := σ
 by_cases h : bad = 0
 ·subst h
  refine pG Try.func46 Try.ntmps46 ?_
  refine Qaa ?_
  refine Qaa ?_
  refine Jl (st' := prS i0 l ⟨i, a, e⟩) (by simp) (by simp only [Try.results46]; rfl) (by simp [resP]; rfl) dR ⟨rfl, rfl⟩
 ·have HF := Hh (show Qbh e a ⟨i, at_, bad⟩ = ⟨i, at_, bad⟩ by unfold Qbh; rw [if_neg h])
  rw [HF.out]
  clear HF
  refine pG Try.func46 Try.ntmps46 ?_
  refine Jl (st' := prS i0 l ⟨i, at_, bad⟩) (by simp) (by simp only [Try.results46]; rfl) (by simp [resP]; rfl) dR ⟨rfl, rfl⟩
theorem is_p (i0 : Nat) (l : List Tk) (σ : ST) (kk : Int) (k : Nat) (hkk : kk = k) (s : ByteArray) (hl : l.length ≤ 100000) (h0 : 0 < l.length) (hi : σ.i ≤ 200000) (hk : k ≤ 5) : PCalls Try.prog 81 [.ptr i0 0, .d (.v (.int .i64 kk)), .d (.v (.string s))] (prS i0 l σ) fun p st => p = .d (.v (.bool (isS l σ k s))) ∧ st = prS i0 l σ := by
 have H0 := Hh (tok_p i0 l σ kk (σ.i + k) (by omega) hl h0 hi (by omega) (by omega))
 have HB := Hh (show isS l σ k s = markB' (tkg l (σ.i + k)) s from rfl)
 clear hkk
 generalize tkg l (σ.i + k) = t at *
 have HM := Hh (show markB' t s = ((t.kind == 4 || t.kind == 2) && t.text.toList == s.toList) from rfl)
 simp only [aggD, Qdz, List.map_cons, List.map_nil] at H0
 refine pG Try.func81 Try.ntmps81 ?_
 refine Re (H0.out) ?_
 rintro _ _ ⟨rfl, rfl⟩
 refine go_ ?_
 refine Jd ?_
 intro i1 hi1
 simp only [prS, Rh, Rg] at hi1
 refine go_ ?_
 refine Qaa ?_
 by_cases h4 : t.kind = 4
 ·refine go_ ?_
  refine rS (st' := prS i0 l σ) Try.results81 ?_
  exact ⟨by rw [HB.out, HM.out, h4]; simp [tupP]; rfl, rfl⟩
 ·by_cases h2 : t.kind = 2
  ·refine go_ ?_
   refine rS (st' := prS i0 l σ) Try.results81 ?_
   exact ⟨by rw [HB.out, HM.out, h2]; simp [tupP]; rfl, rfl⟩
  ·refine go_ ?_
   refine rS (st' := prS i0 l σ) Try.results81 ?_
   exact ⟨by rw [HB.out, HM.out, show (t.kind == 4) = false by simpa using h4, show (t.kind == 2) = false by simpa using h2]; rfl, rfl⟩
theorem Qci (e a : Int) (σ : ST) (he : e ≠ 0) : ¬ (Qbh e a σ).bad = 0 := by
 unfold Qbh
 split
 ·exact he
 ·assumption
theorem failS_i (e a : Int) (σ : ST) : (Qbh e a σ).i = σ.i := by unfold Qbh; split <;> rfl
theorem Qct (i0 : Nat) (l : List Tk) (σ : ST) (hl : l.length ≤ 100000) (h0 : 0 < l.length) (hi : σ.i ≤ 150000) : PCalls Try.prog 28 [.ptr i0 0, .d (.v (.int .i64 0))] (prS i0 l σ) fun p s => p = .agg [.d (.v (.int .i64 (tkg l σ.i).kind)), .d (.v (.string (tkg l σ.i).text)), .d (.v (.int .i64 (tkg l σ.i).at_))] ∧ s = prS i0 l σ :=
 tok_p i0 l σ 0 σ.i (by omega) hl h0 (by omega) (by omega) (by omega)
theorem tok1_p (i0 : Nat) (l : List Tk) (σ : ST) (hl : l.length ≤ 100000) (h0 : 0 < l.length) (hi : σ.i ≤ 150000) : PCalls Try.prog 28 [.ptr i0 0, .d (.v (.int .i64 1))] (prS i0 l σ) fun p s => p = .agg [.d (.v (.int .i64 (tkg l (σ.i + 1)).kind)), .d (.v (.string (tkg l (σ.i + 1)).text)), .d (.v (.int .i64 (tkg l (σ.i + 1)).at_))] ∧ s = prS i0 l σ :=
 tok_p i0 l σ 1 (σ.i + 1) (by omega) hl h0 (by omega) (by omega) (by omega)
theorem tokm_p (i0 : Nat) (l : List Tk) (σ : ST) (hl : l.length ≤ 100000) (h0 : 0 < l.length) (hi : σ.i ≤ 150000) : PCalls Try.prog 28 [.ptr i0 0, .d (.v (.int .i64 (-1)))] (prS i0 l (incS σ)) fun p s => p = .agg [.d (.v (.int .i64 (tkg l σ.i).kind)), .d (.v (.string (tkg l σ.i).text)), .d (.v (.int .i64 (tkg l σ.i).at_))] ∧ s = prS i0 l (incS σ) :=
 tok_p i0 l (incS σ) (-1) σ.i (by show ((σ.i + 1 : Nat) : Int) + -1 = σ.i; omega) hl h0 (by show σ.i + 1 ≤ _; omega) (by omega) (by omega)
theorem Qez {i : Nat} (h : i ≤ 150000) : IntKind.i64.wrap ((i : Int) + 1) = ((i + 1 : Nat) : Int) := IntWalk.i64_in _ (by omega)
theorem Qcu (i0 : Nat) (l : List Tk) (σ : ST) (s : ByteArray) (hl : l.length ≤ 100000) (h0 : 0 < l.length) (hi : σ.i ≤ 150000) : PCalls Try.prog 54 [.ptr i0 0, .d (.v (.string s))] (prS i0 l σ) fun p st => p = .tup [] ∧ st = prS i0 l (Qaf l s σ) := by
  have H1 := Hh (is_p i0 l σ 0 0 rfl s hl h0 (by omega) (by decide))
  have H2 := Hh (Qct i0 l σ hl h0 hi)
  have H3 := Hh (Qic i0 l σ 1 (tkg l σ.i).at_)
  have HW := Hh (show Qaf l s σ = (if (if isS l σ 0 s then σ else Qbh 1 (tkg l σ.i).at_ σ).bad = 0 then incS (if isS l σ 0 s then σ else Qbh 1 (tkg l σ.i).at_ σ) else (if isS l σ 0 s then σ else Qbh 1 (tkg l σ.i).at_ σ)) from rfl)
  have hin := Qez hi
  refine pG Try.func54 Try.ntmps54 ?_
  refine Re (H1.out) ?_
  rintro _ _ ⟨rfl, rfl⟩
  cases hb : isS l σ 0 s with
  | true =>
    rw [hb] at HW
    simp only [if_true] at HW
    clear hb H1 H2 H3
    by_cases hz : σ.bad = 0
    · rw [if_pos hz] at HW
      obtain ⟨i, a, b⟩ := σ
      simp only at hz hi hin
      subst hz
      unfold prS
      simp only
      refine go_ ?_
      refine Qaa ?_
      refine Jl (st' := prS i0 l (incS ⟨i, a, 0⟩)) (by simp) (by simp only [Try.results54]; rfl) (by simp [resP]; rfl) dR ⟨rfl, by rw [HW.out]; rfl⟩
    · rw [if_neg hz] at HW
      unfold prS
      refine go_ ?_
      refine Jl (st' := prS i0 l σ) (by simp) (by simp only [Try.results54]; rfl) (by simp [resP]; rfl) dR ⟨rfl, by rw [HW.out]; rfl⟩
  | false =>
    rw [hb] at HW
    simp only [Bool.false_eq_true, if_false] at HW
    have hz := Qci 1 (tkg l σ.i).at_ σ (by decide)
    rw [if_neg hz] at HW
    refine go_ ?_
    refine Re (H2.out) ?_
    rintro _ _ ⟨rfl, rfl⟩
    refine go_ ?_
    refine Re (H3.out) ?_
    rintro _ _ ⟨rfl, rfl⟩
    unfold prS
    refine go_ ?_
    refine Jl (st' := prS i0 l (Qbh 1 (tkg l σ.i).at_ σ)) (by simp) (by simp only [Try.results54]; rfl) (by simp [resP]; rfl) dR ⟨rfl, by rw [HW.out]; rfl⟩
theorem named_p (i0 : Nat) (l : List Tk) (σ : ST) (hl : l.length ≤ 100000) (h0 : 0 < l.length) (hi : σ.i ≤ 150000) : PCalls Try.prog 87 [.ptr i0 0, .d (.v (.int .i64 0))] (prS i0 l σ) fun p st => p = .d (.v (.bool (Qcy l σ 0))) ∧ st = prS i0 l σ := by
 have H1 := Hh (Qct i0 l σ hl h0 hi)
 have HN := Hh (show Qcy l σ 0 = ((tkg l σ.i).kind == 1 && !((tkg l σ.i).text.toList == [95])) from rfl)
 generalize tkg l σ.i = t at *
 refine pG Try.func87 Try.ntmps87 ?_
 refine Re (H1.out) ?_
 rintro _ _ ⟨rfl, rfl⟩
 by_cases h1 : t.kind = 1
 ·refine go_ ?_
  refine Re (H1.out) ?_
  rintro _ _ ⟨rfl, rfl⟩
  refine go_ ?_
  refine rS (st' := prS i0 l σ) Try.results87 ?_
  exact ⟨by rw [HN.out, h1]; simp [tupP]; rfl, rfl⟩
 ·refine go_ ?_
  refine rS (st' := prS i0 l σ) Try.results87 ?_
  exact ⟨by rw [HN.out, show (t.kind == 1) = false by simpa using h1]; rfl, rfl⟩
theorem name_p (i0 : Nat) (l : List Tk) (σ : ST) (hl : l.length ≤ 100000) (h0 : 0 < l.length) (hi : σ.i ≤ 150000) : PCalls Try.prog 50 [.ptr i0 0] (prS i0 l σ) fun p st => p = .d (.v (.string (Qal l σ).1)) ∧ st = prS i0 l (Qal l σ).2 := by
  have H1 := Hh (named_p i0 l σ hl h0 hi)
  have H2 := Hh (Qct i0 l σ hl h0 hi)
  have H3 := Hh (Qic i0 l σ 1 (tkg l σ.i).at_)
  have H4 := Hh (tokm_p i0 l σ hl h0 hi)
  have HW := Hh (show Qal l σ = (if (if Qcy l σ 0 then σ else Qbh 1 (tkg l σ.i).at_ σ).bad = 0 then ((tkg l (if Qcy l σ 0 then σ else Qbh 1 (tkg l σ.i).at_ σ).i).text, incS (if Qcy l σ 0 then σ else Qbh 1 (tkg l σ.i).at_ σ)) else (⟨#[]⟩, (if Qcy l σ 0 then σ else Qbh 1 (tkg l σ.i).at_ σ))) from rfl)
  have hin := Qez hi
  refine pG Try.func50 Try.ntmps50 ?_
  refine Re (H1.out) ?_
  rintro _ _ ⟨rfl, rfl⟩
  cases hb : Qcy l σ 0 with
  | true =>
    rw [hb] at HW
    simp only [if_true] at HW
    clear hb H1 H2 H3
    by_cases hz : σ.bad = 0
    · rw [if_pos hz] at HW
      obtain ⟨i, a, b⟩ := σ
      simp only at hz hi hin
      subst hz
      unfold prS
      simp only
      refine go_ ?_
      refine Qaa ?_
      refine Re (H4.out) ?_
      rintro _ _ ⟨rfl, rfl⟩
      refine go_ ?_
      refine Jl (st' := prS i0 l (incS ⟨i, a, 0⟩)) (by simp) (by simp only [Try.results50]; rfl) (by simp [resP]; rfl) dR ⟨by rw [HW.out]; rfl, by rw [HW.out]; rfl⟩
    · rw [if_neg hz] at HW
      unfold prS
      refine go_ ?_
      refine Jl (st' := prS i0 l σ) (by simp) (by simp only [Try.results50]; rfl) (by simp [resP]; rfl) dR ⟨by rw [HW.out]; rfl, by rw [HW.out]; rfl⟩
  | false =>
    rw [hb] at HW
    simp only [Bool.false_eq_true, if_false] at HW
    have hz := Qci 1 (tkg l σ.i).at_ σ (by decide)
    rw [if_neg hz] at HW
    refine go_ ?_
    refine Re (H2.out) ?_
    rintro _ _ ⟨rfl, rfl⟩
    refine go_ ?_
    refine Re (H3.out) ?_
    rintro _ _ ⟨rfl, rfl⟩
    unfold prS
    refine go_ ?_
    refine Jl (st' := prS i0 l (Qbh 1 (tkg l σ.i).at_ σ)) (by simp) (by simp only [Try.results50]; rfl) (by simp [resP]; rfl) dR ⟨by rw [HW.out]; rfl, by rw [HW.out]; rfl⟩
theorem variable_p (i0 : Nat) (l : List Tk) (σ : ST) (hl : l.length ≤ 100000) (h0 : 0 < l.length) (hi : σ.i ≤ 150000) : PCalls Try.prog 103 [.ptr i0 0] (prS i0 l σ) fun p st => p = .d (.v (.string (Qbk l σ).1)) ∧ st = prS i0 l (Qbk l σ).2 := by
 have H2 := Hh (Qct i0 l σ hl h0 hi)
 have H3 := Hh (name_p i0 l σ hl h0 hi)
 have H4 := Hh (tokm_p i0 l σ hl h0 hi)
 have HW := Hh (show Qbk l σ = (if (tkg l σ.i).kind == 1 && σ.bad == 0 then ((tkg l σ.i).text, incS σ) else Qal l σ) from rfl)
 have hin := Qez hi
 generalize tkg l σ.i = t at *
 refine pG Try.func103 Try.ntmps103 ?_
 refine Re (H2.out) ?_
 rintro _ _ ⟨rfl, rfl⟩
 by_cases h1 : t.kind = 1
 ·by_cases hz : σ.bad = 0
  ·rw [if_pos (by rw [h1, hz]; rfl)] at HW
   obtain ⟨i, a, b⟩ := σ
   simp only at hz hi hin
   subst hz
   unfold prS
   simp only
   refine go_ ?_
   refine Qaa ?_
   refine Re (H4.out) ?_
   rintro _ _ ⟨rfl, rfl⟩
   refine go_ ?_
   refine Jl (st' := prS i0 l (incS ⟨i, a, 0⟩)) (by simp) (by simp only [Try.results103]; rfl) (by simp [resP]; rfl) dR ⟨by rw [HW.out]; rfl, by rw [HW.out]; rfl⟩
  ·rw [if_neg (by simp [hz])] at HW
   unfold prS
   refine go_ ?_
   refine Re (H3.out) ?_
   rintro _ _ ⟨rfl, rfl⟩
   refine go_ ?_
   refine rS (st' := prS i0 l (Qal l σ).2) Try.results103 ?_
   exact ⟨by rw [HW.out]; rfl, by rw [HW.out]; rfl⟩
 ·rw [if_neg (by simp [h1])] at HW
  refine go_ ?_
  refine Re (H3.out) ?_
  rintro _ _ ⟨rfl, rfl⟩
  refine go_ ?_
  refine rS (st' := prS i0 l (Qal l σ).2) Try.results103 ?_
  exact ⟨by rw [HW.out]; rfl, by rw [HW.out]⟩
theorem binder_p (i0 : Nat) (l : List Tk) (σ : ST) (hl : l.length ≤ 100000) (h0 : 0 < l.length) (hi : σ.i ≤ 150000) : PCalls Try.prog 83 [.ptr i0 0] (prS i0 l σ) fun p st => p = .d (.v (.bool (Qdi l σ))) ∧ st = prS i0 l σ := by
  have H1 := Hh (is_p i0 l σ 0 0 rfl sPar hl h0 (by omega) (by decide))
  have H2 := Hh (tok1_p i0 l σ hl h0 hi)
  have H3 := Hh (is_p i0 l σ 2 2 rfl sCol hl h0 (by omega) (by decide))
  have HB := Hh (show Qdi l σ = (isS l σ 0 sPar && (tkg l (σ.i + 1)).kind == 1 && isS l σ 2 sCol) from rfl)
  unfold sPar sCol at *
  generalize tkg l (σ.i + 1) = t at *
  refine pG Try.func83 Try.ntmps83 ?_
  refine Re (H1.out) ?_
  rintro _ _ ⟨rfl, rfl⟩
  cases h1 : isS l σ 0 ⟨#[40]⟩ with
  | false =>
    refine go_ ?_
    refine rS (st' := prS i0 l σ) Try.results83 ?_
    exact ⟨by rw [HB.out, h1]; rfl, rfl⟩
  | true =>
    refine go_ ?_
    refine Re (H2.out) ?_
    rintro _ _ ⟨rfl, rfl⟩
    by_cases h2 : t.kind = 1
    · refine go_ ?_
      refine Re (H3.out) ?_
      rintro _ _ ⟨rfl, rfl⟩
      refine go_ ?_
      refine rS (st' := prS i0 l σ) Try.results83 ?_
      exact ⟨by rw [HB.out, h1, h2]; simp [tupP]; rfl, rfl⟩
    · refine go_ ?_
      refine rS (st' := prS i0 l σ) Try.results83 ?_
      exact ⟨by rw [HB.out, h1, show (t.kind == 1) = false by simpa using h2]; rfl, rfl⟩
theorem begins_p (i0 : Nat) (l : List Tk) (σ : ST) (hl : l.length ≤ 100000) (h0 : 0 < l.length) (hi : σ.i ≤ 150000) : PCalls Try.prog 104 [.ptr i0 0] (prS i0 l σ) fun p st => p = .d (.v (.bool (Qgc l σ))) ∧ st = prS i0 l σ := by
  have H1 := Hh (named_p i0 l σ hl h0 hi)
  have H2 := Hh (is_p i0 l σ 0 0 rfl sSet hl h0 (by omega) (by decide))
  have H3 := Hh (is_p i0 l σ 0 0 rfl sPar hl h0 (by omega) (by decide))
  have H4 := Hh (binder_p i0 l σ hl h0 hi)
  have HB := Hh (show Qgc l σ = (Qcy l σ 0 || isS l σ 0 sSet || (isS l σ 0 sPar && !Qdi l σ)) from rfl)
  unfold sPar sSet at *
  refine pG Try.func104 Try.ntmps104 ?_
  refine Re (H1.out) ?_
  rintro _ _ ⟨rfl, rfl⟩
  cases h1 : Qcy l σ 0 with
  | true =>
    refine go_ ?_
    refine rS (st' := prS i0 l σ) Try.results104 ?_
    exact ⟨by rw [HB.out, h1]; rfl, rfl⟩
  | false =>
    refine go_ ?_
    refine Re (H2.out) ?_
    rintro _ _ ⟨rfl, rfl⟩
    cases h2 : isS l σ 0 ⟨#[83, 101, 116]⟩ with
    | true =>
      refine go_ ?_
      refine rS (st' := prS i0 l σ) Try.results104 ?_
      exact ⟨by rw [HB.out, h1, h2]; rfl, rfl⟩
    | false =>
      refine go_ ?_
      refine Re (H3.out) ?_
      rintro _ _ ⟨rfl, rfl⟩
      cases h3 : isS l σ 0 ⟨#[40]⟩ with
      | false =>
        refine go_ ?_
        refine rS (st' := prS i0 l σ) Try.results104 ?_
        exact ⟨by rw [HB.out, h1, h2, h3]; rfl, rfl⟩
      | true =>
        refine go_ ?_
        refine Re (H4.out) ?_
        rintro _ _ ⟨rfl, rfl⟩
        refine go_ ?_
        refine rS (st' := prS i0 l σ) Try.results104 ?_
        exact ⟨by rw [HB.out, h1, h2, h3]; rfl, rfl⟩
theorem set_p (i0 : Nat) (l : List Tk) (σ : ST) (hl : l.length ≤ 100000) (h0 : 0 < l.length) (hi : σ.i ≤ 100000) : PCalls Try.prog 105 [.ptr i0 0] (prS i0 l σ) fun p st => p = aggD (setS l σ).1 ∧ st = prS i0 l (setS l σ).2 := by
 have H1 := Hh (Qct i0 l σ hl h0 (by omega))
 have H2 := Hh (Qct i0 l (incS σ) hl h0 (by show σ.i + 1 ≤ _; omega))
 have H3 := Hh (Qic i0 l (incS σ) 1 (tkg l (incS σ).i).at_)
 have HS := Hh (show setS l σ = (if (tkg l (incS σ).i).kind == 3 then
  (.mk 2 (tkg l σ.i).at_ ⟨#[]⟩ (numT (tkg l (incS σ).i).text) [], incS (if 7 < numT (tkg l (incS σ).i).text then Qbh 1 (tkg l (incS σ).i).at_ (incS σ) else incS σ))
 else (.mk 2 (tkg l σ.i).at_ ⟨#[]⟩ 0 [], incS σ)) from rfl)
 have hin := Qez (show σ.i ≤ 150000 by omega)
 have hin2 : IntKind.i64.wrap (((incS σ).i : Int) + 1) = (((incS σ).i + 1 : Nat) : Int) := Qez (show σ.i + 1 ≤ 150000 by omega)
 have hii : ((incS σ).i : Int) = (σ.i : Int) + 1 := rfl
 have hfi := failS_i 1 (tkg l (incS σ).i).at_ (incS σ)
 have HFI := Hh hfi
 clear hfi hii
 generalize tkg l (incS σ).i = t at *
 refine pG Try.func105 Try.ntmps105 ?_
 refine Jd ?_
 intro i1 hi1
 simp only [prS, Rh, Rg] at hi1
 refine go_ ?_
 refine Rd 1 1 (H1.out) ?_
 rintro _ _ ⟨rfl, rfl⟩
 refine go_ ?_
 refine Jd ?_
 intro i2 hi2
 simp only [prS, List.cons_append, List.nil_append, List.append_nil, Rh, Rg] at hi2
 refine go_ ?_
 refine Rc ?_
 unfold prS
 refine go_ ?_
 refine Qaa ?_
 refine Rd 2 1 (H2.out) ?_
 rintro _ _ ⟨rfl, rfl⟩
 by_cases h3 : t.kind = 3
 ·rw [if_pos (by rw [h3]; rfl)] at HS
  refine go_ ?_
  refine Rd 2 1 (H2.out) ?_
  rintro _ _ ⟨rfl, rfl⟩
  refine go_ ?_
  refine Jb (number_p t.text) ?_
  by_cases h7 : (7 : Int) < numT t.text
  ·rw [if_pos h7] at HS
   have hin3 : IntKind.i64.wrap (((Qbh 1 t.at_ (incS σ)).i : Int) + 1) = (((Qbh 1 t.at_ (incS σ)).i + 1 : Nat) : Int) := by rw [HFI.out]; exact hin2
   refine go_ ?_
   refine Rd 2 1 (H2.out) ?_
   rintro _ _ ⟨rfl, rfl⟩
   refine go_ ?_
   refine Rd 2 1 (H3.out) ?_
   rintro _ _ ⟨rfl, rfl⟩
   unfold prS
   refine go_ ?_
   refine Qaa ?_
   refine Qaa ?_
   refine Qaa ?_
   refine rS (st' := prS i0 l (incS (Qbh 1 t.at_ (incS σ)))) Try.results105 ?_
   exact ⟨by rw [HS.out]; simp [aggD, Jg]; rfl, by rw [HS.out]; rfl⟩
  ·rw [if_neg h7] at HS
   unfold prS
   refine go_ ?_
   refine Qaa ?_
   refine Qaa ?_
   refine Qaa ?_
   refine rS (st' := prS i0 l (incS (incS σ))) Try.results105 ?_
   exact ⟨by rw [HS.out]; simp [aggD, Jg]; rfl, by rw [HS.out]; rfl⟩
 ·rw [if_neg (by simp [h3])] at HS
  refine go_ ?_
  refine Qaa ?_
  refine rS (st' := prS i0 l (incS σ)) Try.results105 ?_
  exact ⟨by rw [HS.out]; simp [aggD, Jg]; rfl, by rw [HS.out]; rfl⟩
theorem tk_lt {l : List Tk} (hl : TkOk l) {j : Nat} (h : (tkg l j).kind ≠ 5) : j + 1 < l.length := by
 rcases Nat.lt_or_ge (j + 1) l.length with h1 | h1
 ·exact h1
 ·exfalso
  apply h
  have hp := hl.pos
  rcases Nat.lt_or_ge j l.length with h2 | h2
  ·rw [show j = l.length - 1 by omega]; exact hl.last
  ·have := hl.last
   rw [tkg_lt (by omega)] at this
   rw [tkg_ge h2 hp]; exact this
theorem Qbw {t : Tk} {s : ByteArray} (h : markB' t s = true) : t.kind ≠ 5 := by
 unfold markB' at h
 simp only [Bool.and_eq_true, Bool.or_eq_true, beq_iff_eq] at h
 rcases h.1 with h | h <;> rw [h] <;> decide
theorem named_k {t : Tk} (h : namedK t = true) : t.kind ≠ 5 := by
 unfold namedK at h
 simp only [Bool.and_eq_true, beq_iff_eq] at h
 rw [h.1]; decide
def Adv (l : List Tk) (σ τ : ST) : Prop := Wf l τ ∧ (τ.bad = 0 → σ.bad = 0 ∧ σ.i ≤ τ.i)
def AdvS (l : List Tk) (σ τ : ST) : Prop := Wf l τ ∧ (τ.bad = 0 → σ.bad = 0 ∧ σ.i + 1 ≤ τ.i)
theorem AdvS.adv {l : List Tk} {σ τ : ST} (h : AdvS l σ τ) : Adv l σ τ := ⟨h.1, fun hb => ⟨(h.2 hb).1, by have := (h.2 hb).2; omega⟩⟩
theorem Adv.refl {l : List Tk} {σ : ST} (h : Wf l σ) : Adv l σ σ := ⟨h, fun hb => ⟨hb, Nat.le_refl _⟩⟩
theorem Adv.trans {l : List Tk} {σ τ ρ : ST} (h1 : Adv l σ τ) (h2 : Adv l τ ρ) : Adv l σ ρ := ⟨h2.1, fun hb => by
 obtain ⟨a, b⟩ := h2.2 hb
 obtain ⟨c, d⟩ := h1.2 a
 exact ⟨c, by omega⟩⟩
theorem AdvS.trans {l : List Tk} {σ τ ρ : ST} (h1 : AdvS l σ τ) (h2 : Adv l τ ρ) : AdvS l σ ρ := ⟨h2.1, fun hb => by
 obtain ⟨a, b⟩ := h2.2 hb
 obtain ⟨c, d⟩ := h1.2 a
 exact ⟨c, by omega⟩⟩
theorem Adv.transS {l : List Tk} {σ τ ρ : ST} (h1 : Adv l σ τ) (h2 : AdvS l τ ρ) : AdvS l σ ρ := ⟨h2.1, fun hb => by
 obtain ⟨a, b⟩ := h2.2 hb
 obtain ⟨c, d⟩ := h1.2 a
 exact ⟨c, by omega⟩⟩
section
variable {l : List Tk} (hl : TkOk l)
include hl
theorem Qax {σ : ST} (h : (tkg l σ.i).kind ≠ 5) : AdvS l σ (incS σ) := ⟨tk_lt hl h, fun hb => ⟨hb, Nat.le_refl _⟩⟩
theorem Qfd {σ : ST} (e a : Int) (he : e ≠ 0) (h : Wf l σ) : AdvS l σ (Qbh e a σ) := by
 have _ := hl
 refine ⟨?_, fun hb => absurd hb (Qci e a σ he)⟩
 unfold Wf; rw [failS_i]; exact h
theorem Qag {σ : ST} (s : ByteArray) (h : Wf l σ) : AdvS l σ (Qaf l s σ) := by
  unfold Qaf
  cases hb : isS l σ 0 s with
  | true =>
    simp only [if_true]
    split
    · exact Qax hl (Qbw hb)
    · rename_i hz
      exact ⟨h, fun hb => absurd hb hz⟩
  | false =>
    simp only [Bool.false_eq_true, if_false]
    rw [if_neg (Qci _ _ _ (by decide))]
    exact Qfd hl _ _ (by decide) h
theorem Qdu {σ : ST} (h : Wf l σ) : AdvS l σ (Qal l σ).2 := by
  unfold Qal
  cases hb : Qcy l σ 0 with
  | true =>
    simp only [if_true]
    split
    · exact Qax hl (named_k hb)
    · rename_i hz
      exact ⟨h, fun hb => absurd hb hz⟩
  | false =>
    simp only [Bool.false_eq_true, if_false]
    rw [if_neg (Qci _ _ _ (by decide))]
    exact Qfd hl _ _ (by decide) h
theorem Qje {σ : ST} (h : Wf l σ) : AdvS l σ (Qbk l σ).2 := by
 unfold Qbk
 split
 ·rename_i hk
  simp only [Bool.and_eq_true, beq_iff_eq] at hk
  exact Qax hl (by rw [hk.1]; decide)
 ·exact Qdu hl h
theorem set_adv {σ : ST} (h : isS l σ 0 sSet = true) : AdvS l σ (setS l σ).2 := by
 have h1 := Qax hl (Qbw h)
 unfold setS
 simp only
 split
 ·rename_i hk
  have hk : (tkg l (incS σ).i).kind = 3 := by simpa using hk
  split
  ·have h2 := h1.trans (Qfd hl 1 (tkg l (incS σ).i).at_ (by decide) h1.1).adv
   refine h2.trans (Qax hl ?_).adv
   rw [failS_i, hk]; decide
  ·exact h1.trans (Qax hl (by rw [hk]; decide)).adv
 ·exact h1
theorem Qfb : ∀ (n : Nat),
    (∀ k a σ, Wf l σ → Adv l σ (Qdg l n k a σ).2) ∧ (∀ σ, Wf l σ → Adv l σ (Qav l n σ).2) ∧ (∀ σ, Wf l σ → Adv l σ (Qbn l n σ).2 ∧ (0 < n → AdvS l σ (Qbn l n σ).2)) ∧ (∀ σ, Wf l σ → Adv l σ (appS l n σ).2) ∧ (∀ g σ, Wf l σ → Adv l σ (appL l n g σ).2) := by
  intro n
  induction n with
  | zero => exact ⟨fun _ _ _ h => Adv.refl h, fun _ h => Adv.refl h, fun _ h => ⟨Adv.refl h, fun h => absurd h (Nat.lt_irrefl 0)⟩, fun _ h => Adv.refl h, fun _ _ h => Adv.refl h⟩
  | succ n ih =>
    obtain ⟨i1, i2, i3, i4, i5⟩ := ih
    refine ⟨fun k a σ h => ?_, fun σ h => ?_, fun σ h => ?_, fun σ h => ?_, fun g σ h => ?_⟩
    · simp only [Qdg]
      have h1 := Qag hl sPar h
      have h2 := h1.trans (Qje hl h1.1).adv
      have h3 := h2.trans (Qag hl sCol h2.1).adv
      have h4 := h3.trans (i2 _ h3.1)
      have h5 := h4.trans (Qag hl sRap h4.1).adv
      have h6 := h5.trans (Qag hl sArr h5.1).adv
      exact (h6.trans (i2 _ h6.1)).adv
    · simp only [Qav]
      split
      · exact Adv.refl h
      · split
        · rename_i hi
          have h1 := Qax hl (Qbw hi)
          exact (h1.trans (i1 _ _ _ h1.1)).adv
        · split
          · exact i1 _ _ _ h
          · have h1 := i4 σ h
            split
            · rename_i hi
              have h2 := h1.transS (Qax hl (Qbw hi.2))
              exact (h2.trans (i2 _ h2.1)).adv
            · exact h1
    · have : AdvS l σ (Qbn l (n + 1) σ).2 := by
        simp only [Qbn]
        split
        · rename_i hb
          exact ⟨h, fun hb' => absurd hb' hb⟩
        · split
          · rename_i hs; exact set_adv hl hs
          · split
            · rename_i hi
              have h1 := Qax hl (Qbw hi)
              have h2 := h1.trans (i2 _ h1.1)
              exact h2.trans (Qag hl sRap h2.1).adv
            · exact Qdu hl h
      exact ⟨this.adv, fun _ => this⟩
    · simp only [appS]
      have h1 := (i3 σ h).1
      exact h1.trans (i5 _ _ h1.1)
    · simp only [appL]
      split
      · have h1 := (i3 σ h).1
        exact h1.trans (i5 _ _ h1.1)
      · exact Adv.refl h
end
theorem Qfs (k a n : Int) (s : ByteArray) (sub : List Nd) : aggD (Nd.mk k a s n sub) = .agg [.d (.v (.int .i64 k)), .d (.v (.int .i64 a)), .d (.v (.string s)), .d (.v (.int .i64 n)), .d (.sl (sub.map encD))] := by
 simp only [aggD, Jg, List.map_cons, List.map_nil, Nd.kind, Nd.at, Nd.name, Nd.num, Nd.sub]
def TermC (l : List Tk) (n : Nat) (σ : ST) : Prop := ∀ i0, PCalls Try.prog 45 [.ptr i0 0] (prS i0 l σ) fun p s => p = aggD (Qav l n σ).1 ∧ s = prS i0 l (Qav l n σ).2
def TypedC (l : List Tk) (n : Nat) (k a : Int) (σ : ST) : Prop := ∀ i0, PCalls Try.prog 82 [.ptr i0 0, .d (.v (.int .i64 k)), .d (.v (.int .i64 a))] (prS i0 l σ) fun p s => p = aggD (Qdg l n k a σ).1 ∧ s = prS i0 l (Qdg l n k a σ).2
def AtomC (l : List Tk) (n : Nat) (σ : ST) : Prop := ∀ i0, PCalls Try.prog 86 [.ptr i0 0] (prS i0 l σ) fun p s => p = aggD (Qbn l n σ).1 ∧ s = prS i0 l (Qbn l n σ).2
def AppC (l : List Tk) (n : Nat) (σ : ST) : Prop := ∀ i0, PCalls Try.prog 84 [.ptr i0 0] (prS i0 l σ) fun p s => p = aggD (appS l n σ).1 ∧ s = prS i0 l (appS l n σ).2
def Fu (l : List Tk) (n c : Nat) (σ : ST) : Prop := 0 < n ∧ (σ.bad = 0 → 6 * (l.length - σ.i) + c ≤ n)
theorem Fu.next {l : List Tk} {n c d : Nat} {σ τ : ST} (h : Fu l (n + 1) c σ) (hw : Wf l σ) (ha : AdvS l σ τ) (hn : 0 < n) (hc : d ≤ c + 5) : Fu l n d τ := ⟨hn, fun hb => by
 obtain ⟨h1, h2⟩ := ha.2 hb
 have h3 := h.2 h1
 have := ha.1
 unfold Wf at hw this
 omega⟩
theorem Fu.same {l : List Tk} {n c d : Nat} {σ τ : ST} (h : Fu l (n + 1) c σ) (hw : Wf l σ) (ha : Adv l σ τ) (hn : 0 < n) (hc : d + 1 ≤ c) : Fu l n d τ := ⟨hn, fun hb => by
 obtain ⟨h1, h2⟩ := ha.2 hb
 have h3 := h.2 h1
 have := ha.1
 unfold Wf at hw this
 omega⟩
theorem Wf.le {l : List Tk} (hl : TkOk l) {σ : ST} (h : Wf l σ) : σ.i ≤ 100000 := by
 have := hl.len
 unfold Wf at h; omega
theorem typed_w {l : List Tk} (hl : TkOk l) (n : Nat) (hn : 0 < n) (IH : ∀ σ, Wf l σ → Fu l n 6 σ → TermC l n σ) (k a : Int) (σ : ST) (hw : Wf l σ) (hf : Fu l (n + 1) 4 σ) : TypedC l (n + 1) k a σ := by
 intro i0
 have h1 := Qag hl sPar hw
 have h2 := h1.trans (Qje hl h1.1).adv
 have h3 := h2.trans (Qag hl sCol h2.1).adv
 have h4 := h3.trans ((Qfb hl n).2.1 _ h3.1)
 have h5 := h4.trans (Qag hl sRap h4.1).adv
 have h6 := h5.trans (Qag hl sArr h5.1).adv
 have c1 := Qcu i0 l σ sPar hl.len hl.pos (Nat.le_trans (hw.le hl) (by decide))
 have c2 := variable_p i0 l _ hl.len hl.pos (Nat.le_trans (h1.1.le hl) (by decide))
 have c3 := Qcu i0 l _ sCol hl.len hl.pos (Nat.le_trans (h2.1.le hl) (by decide))
 have c4 := IH _ h3.1 (hf.next hw h3 hn (by omega)) i0
 have c5 := Qcu i0 l _ sRap hl.len hl.pos (Nat.le_trans (h4.1.le hl) (by decide))
 have c6 := Qcu i0 l _ sArr hl.len hl.pos (Nat.le_trans (h5.1.le hl) (by decide))
 have c7 := IH _ h6.1 (hf.next hw h6 hn (by omega)) i0
 have HT := Hh (show Qdg l (n + 1) k a σ = (.mk k a (Qbk l (Qaf l sPar σ)).1 0 [(Qav l n (Qaf l sCol (Qbk l (Qaf l sPar σ)).2)).1, (Qav l n (Qaf l sArr (Qaf l sRap (Qav l n (Qaf l sCol (Qbk l (Qaf l sPar σ)).2)).2))).1], (Qav l n (Qaf l sArr (Qaf l sRap (Qav l n (Qaf l sCol (Qbk l (Qaf l sPar σ)).2)).2))).2) from rfl)
 clear h1 h2 h3 h4 h5 h6 hf hw IH
 generalize Qaf l sPar σ = σ1 at *
 generalize (Qbk l σ1).1 = x at *
 generalize (Qbk l σ1).2 = σ2 at *
 generalize Qaf l sCol σ2 = σ3 at *
 generalize (Qav l n σ3).1 = A at *
 generalize (Qav l n σ3).2 = σ4 at *
 generalize Qaf l sRap σ4 = σ5 at *
 generalize Qaf l sArr σ5 = σ6 at *
 generalize (Qav l n σ6).1 = B at *
 generalize (Qav l n σ6).2 = σ7 at *
 simp only [aggD, Jg, List.map_cons, List.map_nil] at c4 c7
 unfold sPar at c1
 unfold sCol at c3
 unfold sRap at c5
 unfold sArr at c6
 have C1 := Hh c1
 have C2 := Hh c2
 have C3 := Hh c3
 have C4 := Hh c4
 have C5 := Hh c5
 have C6 := Hh c6
 have C7 := Hh c7
 clear c1 c2 c3 c4 c5 c6 c7
 rw [HT.out]
 clear HT
 refine pG Try.func82 Try.ntmps82 ?_
 refine Jd ?_
 intro i1 hi1
 simp only [prS, Rh, Rg] at hi1
 refine go_ ?_
 refine Jd ?_
 intro i2 hi2
 simp only [prS, Rh, Rg] at hi2
 refine go_ ?_
 refine Qaa ?_
 refine Rd 2 1 (C1.out) ?_
 rintro _ _ ⟨rfl, rfl⟩
 refine go_ ?_
 refine Rd 2 1 (C2.out) ?_
 rintro _ _ ⟨rfl, rfl⟩
 refine go_ ?_
 refine Qaa ?_
 refine Rd 2 1 (C3.out) ?_
 rintro _ _ ⟨rfl, rfl⟩
 refine go_ ?_
 refine Rd 2 1 (C4.out) ?_
 rintro _ _ ⟨rfl, rfl⟩
 refine go_ ?_
 refine Jd ?_
 intro i3 hi3
 simp only [prS, List.cons_append, List.nil_append, List.append_nil, Rh, Rg] at hi3
 refine go_ ?_
 refine Qaa ?_
 refine Rd 3 1 (C5.out) ?_
 rintro _ _ ⟨rfl, rfl⟩
 refine go_ ?_
 refine Rd 3 1 (C6.out) ?_
 rintro _ _ ⟨rfl, rfl⟩
 refine go_ ?_
 refine Qjf (J := Qdr [(i3, _)]) [(0, .a), (1, .a), (2, .e), (3, .a), (4, .a), (5, .e)] (by kernel_rfl) (by rfl) (by kernel_rfl) (by (repeat (first | exact Qce _ | refine Jt (by simp [St.box?, *] <;> rfl) ?_))) ?_
 refine lG ?_
 refine Qjx 3 1 (C7.out) ?_
 rintro _ _ ⟨rfl, rfl⟩
 refine ⟨.inr (by (repeat (first | exact Qce _ | refine Jt (by simp [St.box?, *] <;> rfl) ?_))), ?_⟩
 refine lG ?_
 refine PL_bs ?_ rfl (by decide) rfl (by simp; rfl) (by rfl) (by simp; rfl) (by rfl) (by decide) (by decide) eQ (by simp [Qdf, toDs, PV.toD]; rfl)
 refine lG ?_
 refine PLs ?_
 refine lG ?_
 refine go_ ?_
 refine Qaa ?_
 refine rS (st' := prS i0 l σ7) Try.results82 ?_
 exact ⟨by rw [Qfs]; simp only [List.map_cons, List.map_nil, Jg]; rfl, rfl⟩
theorem atom_w {l : List Tk} (hl : TkOk l) (n : Nat) (IH : ∀ σ, Wf l σ → Fu l n 6 σ → 0 < n → TermC l n σ) (σ : ST) (hw : Wf l σ) (hf : Fu l (n + 1) 3 σ) : AtomC l (n + 1) σ := by
  intro i0
  have b1 : σ.i ≤ 150000 := Nat.le_trans (hw.le hl) (by decide)
  have c1 := Hh (is_p i0 l σ 0 0 rfl sSet hl.len hl.pos (by omega) (by decide))
  have c2 := Hh (set_p i0 l σ hl.len hl.pos (hw.le hl))
  have c3 := Hh (is_p i0 l σ 0 0 rfl sPar hl.len hl.pos (by omega) (by decide))
  have c4 := Hh (Qct i0 l σ hl.len hl.pos b1)
  have c5 := Hh (name_p i0 l σ hl.len hl.pos b1)
  have HT := Hh (show Qbn l (n + 1) σ = (if σ.bad ≠ 0 then (zNd, σ) else if isS l σ 0 sSet then setS l σ else if isS l σ 0 sPar then ((Qav l n (incS σ)).1, Qaf l sRap (Qav l n (incS σ)).2) else (.mk 1 (tkg l σ.i).at_ (Qal l σ).1 0 [], (Qal l σ).2)) from by simp only [Qbn])
  have hin := Qez b1
  unfold sSet at c1
  unfold sPar at c3
  by_cases hz : σ.bad = 0
  rotate_left
  · rw [if_pos hz] at HT
    rw [HT.out]
    unfold prS
    refine pG Try.func86 Try.ntmps86 ?_
    refine Jd ?_
    intro i1 hi1
    simp only [prS, List.cons_append, List.nil_append, List.append_nil, List.drop_succ_cons, List.drop_zero, List.drop_nil, Rh, Rg, Rf, Ja] at hi1
    refine go_ ?_
    refine Qaa ?_
    refine rS (st' := prS i0 l σ) Try.results86 ?_
    exact ⟨by unfold zNd; rw [Qfs]; rfl, rfl⟩
  rw [if_neg (by simp [hz])] at HT
  cases hs : isS l σ 0 sSet with
  | true =>
    rw [hs, if_pos rfl] at HT
    unfold sSet at hs
    rw [HT.out]
    generalize (setS l σ).1 = A at *
    generalize (setS l σ).2 = σ1 at *
    simp only [aggD, Jg, List.map_cons, List.map_nil] at c2 ⊢
    unfold prS at *
    refine pG Try.func86 Try.ntmps86 ?_
    refine Jd ?_
    intro i1 hi1
    simp only [prS, List.cons_append, List.nil_append, List.append_nil, List.drop_succ_cons, List.drop_zero, List.drop_nil, Rh, Rg, Rf, Ja] at hi1
    refine go_ ?_
    refine Rd 1 1 (c1.out) ?_
    rintro _ _ ⟨rfl, rfl⟩
    refine go_ ?_
    refine Rd 1 1 (c2.out) ?_
    rintro _ _ ⟨rfl, rfl⟩
    refine go_ ?_
    refine Qaa ?_
    refine rS (st' := prS i0 l σ1) Try.results86 ?_
    exact ⟨rfl, rfl⟩
  | false =>
    rw [hs, if_neg (by decide)] at HT
    unfold sSet at hs
    cases hp : isS l σ 0 sPar with
    | true =>
      rw [hp, if_pos rfl] at HT
      have h1 := Qax hl (Qbw hp)
      unfold sPar at hp
      rw [HT.out]
      have hn : 0 < n := by
        have := hf.2 hz
        unfold Wf at hw; omega
      have c6 := IH _ h1.1 (hf.next hw h1 hn (by omega)) hn i0
      have c7 := Qcu i0 l _ sRap hl.len hl.pos (Nat.le_trans (((Qfb hl n).2.1 _ h1.1).1.le hl) (by decide))
      obtain ⟨i, a, b⟩ := σ
      simp only at hz hin b1
      subst hz
      clear HT hf IH c2 c4 c5
      generalize (Qav l n (incS ⟨i, a, 0⟩)).1 = A at *
      generalize (Qav l n (incS ⟨i, a, 0⟩)).2 = σ1 at *
      generalize Qaf l sRap σ1 = σ2 at *
      simp only [aggD, Jg, List.map_cons, List.map_nil] at c6 ⊢
      unfold sRap at c7
      have C6 := Hh c6
      have C7 := Hh c7
      clear c6 c7
      refine pG Try.func86 Try.ntmps86 ?_
      refine Jd ?_
      intro i1 hi1
      simp only [prS, List.cons_append, List.nil_append, List.append_nil, List.drop_succ_cons, List.drop_zero, List.drop_nil, Rh, Rg, Rf, Ja] at hi1
      unfold prS
      refine go_ ?_
      refine Rd 1 1 (c1.out) ?_
      rintro _ _ ⟨rfl, rfl⟩
      refine go_ ?_
      refine Rd 1 1 (c3.out) ?_
      rintro _ _ ⟨rfl, rfl⟩
      unfold prS
      refine go_ ?_
      refine Qaa ?_
      refine Rd 1 1 (C6.out) ?_
      rintro _ _ ⟨rfl, rfl⟩
      refine go_ ?_
      refine Jd ?_
      intro i2 hi2
      simp only [prS, List.cons_append, List.nil_append, List.append_nil, List.drop_succ_cons, List.drop_zero, List.drop_nil, Rh, Rg, Rf, Ja] at hi2
      refine go_ ?_
      refine Qaa ?_
      refine Rd 2 1 (C7.out) ?_
      rintro _ _ ⟨rfl, rfl⟩
      refine go_ ?_
      refine Qaa ?_
      refine rS (st' := prS i0 l σ2) Try.results86 ?_
      exact ⟨rfl, rfl⟩
    | false =>
      rw [hp, if_neg (by decide)] at HT
      unfold sPar at hp
      rw [HT.out]
      obtain ⟨i, a, b⟩ := σ
      simp only at hz hin b1
      subst hz
      clear HT hf IH c2 hin
      generalize (Qal l ⟨i, a, 0⟩).1 = x at *
      generalize (Qal l ⟨i, a, 0⟩).2 = σ1 at *
      refine pG Try.func86 Try.ntmps86 ?_
      refine Jd ?_
      intro i1 hi1
      simp only [prS, List.cons_append, List.nil_append, List.append_nil, List.drop_succ_cons, List.drop_zero, List.drop_nil, Rh, Rg, Rf, Ja] at hi1
      unfold prS
      refine go_ ?_
      refine Rd 1 1 (c1.out) ?_
      rintro _ _ ⟨rfl, rfl⟩
      refine go_ ?_
      refine Rd 1 1 (c3.out) ?_
      rintro _ _ ⟨rfl, rfl⟩
      refine go_ ?_
      refine Rd 1 1 (c4.out) ?_
      rintro _ _ ⟨rfl, rfl⟩
      refine go_ ?_
      refine Rd 1 1 (c5.out) ?_
      rintro _ _ ⟨rfl, rfl⟩
      refine go_ ?_
      refine Qaa ?_
      refine rS (st' := prS i0 l σ1) Try.results86 ?_
      exact ⟨by rw [Qfs]; rfl, rfl⟩
theorem app_w {l : List Tk} (hl : TkOk l) (n : Nat) (IA : ∀ m, m ≤ n → ∀ σ, Wf l σ → Fu l m 3 σ → AtomC l m σ) (σ : ST) (hw : Wf l σ) (hb : σ.bad = 0) (hf : Fu l (n + 1) 5 σ) : AppC l (n + 1) σ := by
  intro i0
  have hn : 0 < n := by
    have := hf.2 hb
    unfold Wf at hw; omega
  have hA := ((Qfb hl n).2.2.1 σ hw).2 hn
  have c1 := IA n (Nat.le_refl _) σ hw (hf.same hw (Adv.refl hw) hn (by omega)) i0
  have HT := Hh (show appS l (n + 1) σ = appL l n (Qbn l n σ).1 (Qbn l n σ).2 from by simp only [appS])
  have HF := Hh (hf.next hw hA hn (d := 5) (by omega))
  have HA := Hh hA.1
  rw [HT.out]
  clear HT hA hf hb hw
  generalize (Qbn l n σ).1 = G at *
  generalize (Qbn l n σ).2 = σ1 at *
  have HG : ∃ r, r = appL l n G σ1 := ⟨_, rfl⟩
  obtain ⟨r, hr⟩ := HG
  have HR := Hh hr.symm
  rw [← hr]
  clear hr
  simp only [aggD, Jg, List.map_cons, List.map_nil] at c1 ⊢
  have C1 := Hh c1
  clear c1
  refine pG Try.func84 Try.ntmps84 ?_
  refine Jd ?_
  intro i1 hi1
  simp only [prS, List.cons_append, List.nil_append, List.append_nil, List.drop_succ_cons, List.drop_zero, List.drop_nil, Rh, Rg, Rf, Ja] at hi1
  refine go_ ?_
  refine Rd 1 1 (C1.out) ?_
  rintro _ _ ⟨rfl, rfl⟩
  refine go_ ?_
  refine Jd ?_
  intro i2 hi2
  simp only [prS, List.cons_append, List.nil_append, List.append_nil, List.drop_succ_cons, List.drop_zero, List.drop_nil, Rh, Rg, Rf, Ja] at hi2
  refine go_ ?_
  refine Qaa ?_
  refine Qbc (ι := Nat × Nd × ST) (fun x => x.1 ≤ n ∧ Wf l x.2.2 ∧ Fu l x.1 5 x.2.2 ∧ appL l x.1 x.2.1 x.2.2 = r) (fun x => [(0, .ptr i0 0), (2, .ptr i1 0), (3, .ptr i2 0)])
    (fun x => .box i2 31 [.d (.v (.int .i64 x.2.1.kind)), .d (.v (.int .i64 x.2.1.at)), .d (.v (.string x.2.1.name)), .d (.v (.int .i64 x.2.1.num)), .d (.sl (x.2.1.sub.map encD))] :: .box i1 31 [.d (.v (.int .i64 0)), .d (.v (.int .i64 0)), .d (.v (.string ByteArray.empty)), .d (.v (.int .i64 0)), .nils] :: prS i0 l x.2.2)
    (fun x => x.1) (n, G, σ1) ⟨Nat.le_refl _, HA.out, HF.out, HR.out⟩ ?_ ?_ ?_
  · exact sU
  · exact dR
  · rintro ⟨m, g, τ⟩ ⟨hm, hw, hf, hr⟩
    simp only at hm hw hf hr ⊢
    have b1 : τ.i ≤ 150000 := Nat.le_trans (hw.le hl) (by decide)
    obtain ⟨m, rfl⟩ : ∃ q, m = q + 1 := ⟨m - 1, by have := hf.1; omega⟩
    simp only [appL] at hr
    have B0 := Hh (begins_p i0 l τ hl.len hl.pos b1)
    by_cases hz : τ.bad = 0
    · cases hbg : Qgc l τ with
      | true =>
        rw [if_pos ⟨hz, hbg⟩] at hr
        have hm0 : 0 < m := by
          have := hf.2 hz
          unfold Wf at hw; omega
        have hA := ((Qfb hl m).2.2.1 τ hw).2 hm0
        have c2 := IA m (by omega) τ hw (hf.same hw (Adv.refl hw) hm0 (by omega)) i0
        have HF2 := Hh (hf.next hw hA hm0 (d := 5) (by omega))
        have HA2 := Hh hA.1
        have HR2 := Hh hr
        clear hr hf hA hw
        generalize (Qbn l m τ).1 = X at *
        generalize (Qbn l m τ).2 = τ2 at *
        simp only [aggD, Jg, List.map_cons, List.map_nil] at c2
        have C2 := Hh c2
        clear c2
        unfold prS
        refine go_ ?_
        refine Rd 2 1 (B0.out) ?_
        rintro _ _ ⟨rfl, rfl⟩
        refine go_ ?_
        refine Qjf (J := Qdr [(i2, _)]) [(0, .a), (1, .a), (2, .a), (3, .a), (4, .e), (5, .a), (6, .a), (7, .e)] (by kernel_rfl) (by rfl) (by kernel_rfl) (by (repeat (first | exact Qce _ | refine Jt (by simp [St.box?, *] <;> rfl) ?_))) ?_
        refine lG ?_
        refine Qjx 2 1 (C2.out) ?_
        rintro _ _ ⟨rfl, rfl⟩
        refine ⟨.inr (by (repeat (first | exact Qce _ | refine Jt (by simp [St.box?, *] <;> rfl) ?_))), ?_⟩
        refine lG ?_
        refine PL_bs ?_ rfl (by decide) rfl (by simp; rfl) (by rfl) (by simp; rfl) (by rfl) (by decide) (by decide) eQ (by simp [Qdf, toDs, PV.toD]; rfl)
        refine lG ?_
        refine PLs ?_
        refine lG ?_
        refine go_ ?_
        refine ⟨(m, Nd.mk 5 g.at ⟨#[]⟩ 0 [g, X], τ2), ⟨by omega, HA2.out, HF2.out, HR2.out⟩, by simp only; omega, ?_, ?_⟩
        · exact sU
        · simp only [List.map_cons, List.map_nil, Jg, Nd.kind, Nd.at, Nd.name, Nd.num, Nd.sub]
          exact dR
      | false =>
        rw [if_neg (by rw [hbg]; simp)] at hr
        have HR2 := Hh hr
        clear hr hf
        unfold prS
        refine go_ ?_
        refine Rd 2 1 (B0.out) ?_
        rintro _ _ ⟨rfl, rfl⟩
        refine go_ ?_
        refine Qaa ?_
        refine rS (st' := prS i0 l τ) Try.results84 ?_
        exact ⟨by rw [← HR2.out]; rfl, by rw [← HR2.out]; rfl⟩
    · rw [if_neg (by simp [hz])] at hr
      have HR2 := Hh hr
      clear hr hf
      unfold prS
      refine go_ ?_
      refine Qaa ?_
      refine rS (st' := prS i0 l τ) Try.results84 ?_
      exact ⟨by rw [← HR2.out]; rfl, by rw [← HR2.out]; rfl⟩
theorem term_w {l : List Tk} (hl : TkOk l) (n : Nat) (IT : ∀ k a σ, Wf l σ → Fu l n 4 σ → σ.bad = 0 → TypedC l n k a σ) (IP : ∀ σ, Wf l σ → σ.bad = 0 → Fu l n 5 σ → AppC l n σ) (IH : ∀ σ, Wf l σ → Fu l n 6 σ → TermC l n σ) (σ : ST) (hw : Wf l σ) (hf : Fu l (n + 1) 6 σ) : TermC l (n + 1) σ := by
  intro i0
  have b1 : σ.i ≤ 150000 := Nat.le_trans (hw.le hl) (by decide)
  have c0 := Hh (Qct i0 l σ hl.len hl.pos b1)
  have c1 := Hh (is_p i0 l σ 0 0 rfl sLam hl.len hl.pos (by omega) (by decide))
  have c2 := Hh (binder_p i0 l σ hl.len hl.pos b1)
  have HT := Hh (show Qav l (n + 1) σ = (if σ.bad ≠ 0 then (zNd, σ) else if isS l σ 0 sLam then Qdg l n 4 (tkg l σ.i).at_ (incS σ) else if Qdi l σ then Qdg l n 3 (tkg l σ.i).at_ σ else
      (if (appS l n σ).2.bad = 0 ∧ isS l (appS l n σ).2 0 sArr then (.mk 3 (appS l n σ).1.at ⟨#[95]⟩ 0 [(appS l n σ).1, (Qav l n (incS (appS l n σ).2)).1], (Qav l n (incS (appS l n σ).2)).2) else appS l n σ)) from by simp only [Qav])
  have hin := Qez b1
  unfold sLam at c1
  by_cases hz : σ.bad = 0
  rotate_left
  · rw [if_pos hz] at HT
    rw [HT.out]
    refine pG Try.func45 Try.ntmps45 ?_
    refine Jd ?_
    intro i1 hi1
    simp only [prS, List.cons_append, List.nil_append, List.append_nil, List.drop_succ_cons, List.drop_zero, List.drop_nil, Rh, Rg, Rf, Ja] at hi1
    refine go_ ?_
    refine Rd 1 1 (c0.out) ?_
    rintro _ _ ⟨rfl, rfl⟩
    unfold prS
    refine go_ ?_
    refine Qaa ?_
    refine rS (st' := prS i0 l σ) Try.results45 ?_
    exact ⟨by unfold zNd; rw [Qfs]; rfl, rfl⟩
  rw [if_neg (by simp [hz])] at HT
  have hn : 0 < n := by
    have := hf.2 hz
    unfold Wf at hw; omega
  generalize (tkg l σ.i).at_ = at0 at *
  cases hs : isS l σ 0 sLam with
  | true =>
    rw [hs, if_pos rfl] at HT
    have h1 := Qax hl (Qbw hs)
    unfold sLam at hs
    rw [HT.out]
    have c3 := IT 4 at0 _ h1.1 (hf.next hw h1 hn (by omega)) hz i0
    clear HT hf IT IP IH c2 h1
    obtain ⟨i, a, b⟩ := σ
    simp only at hz hin b1
    subst hz
    generalize (Qdg l n 4 at0 (incS ⟨i, a, 0⟩)).1 = A at *
    generalize (Qdg l n 4 at0 (incS ⟨i, a, 0⟩)).2 = σ1 at *
    simp only [aggD, Jg, List.map_cons, List.map_nil] at c3 ⊢
    have C3 := Hh c3
    clear c3
    refine pG Try.func45 Try.ntmps45 ?_
    refine Jd ?_
    intro i1 hi1
    simp only [prS, List.cons_append, List.nil_append, List.append_nil, List.drop_succ_cons, List.drop_zero, List.drop_nil, Rh, Rg, Rf, Ja] at hi1
    refine go_ ?_
    refine Rd 1 1 (c0.out) ?_
    rintro _ _ ⟨rfl, rfl⟩
    unfold prS
    refine go_ ?_
    refine Rd 1 1 (c1.out) ?_
    rintro _ _ ⟨rfl, rfl⟩
    unfold prS
    refine go_ ?_
    refine Qaa ?_
    refine Rd 1 1 (C3.out) ?_
    rintro _ _ ⟨rfl, rfl⟩
    refine go_ ?_
    refine Qaa ?_
    refine rS (st' := prS i0 l σ1) Try.results45 ?_
    exact ⟨rfl, rfl⟩
  | false =>
    rw [hs, if_neg (by decide)] at HT
    unfold sLam at hs
    cases hbd : Qdi l σ with
    | true =>
      rw [hbd, if_pos rfl] at HT
      rw [HT.out]
      have c3 := IT 3 at0 _ hw (hf.same hw (Adv.refl hw) hn (by omega)) hz i0
      clear HT hf IT IP IH hin
      obtain ⟨i, a, b⟩ := σ
      simp only at hz b1
      subst hz
      generalize (Qdg l n 3 at0 ⟨i, a, 0⟩).1 = A at *
      generalize (Qdg l n 3 at0 ⟨i, a, 0⟩).2 = σ1 at *
      simp only [aggD, Jg, List.map_cons, List.map_nil] at c3 ⊢
      have C3 := Hh c3
      clear c3
      refine pG Try.func45 Try.ntmps45 ?_
      refine Jd ?_
      intro i1 hi1
      simp only [prS, List.cons_append, List.nil_append, List.append_nil, List.drop_succ_cons, List.drop_zero, List.drop_nil, Rh, Rg, Rf, Ja] at hi1
      refine go_ ?_
      refine Rd 1 1 (c0.out) ?_
      rintro _ _ ⟨rfl, rfl⟩
      unfold prS
      refine go_ ?_
      refine Rd 1 1 (c1.out) ?_
      rintro _ _ ⟨rfl, rfl⟩
      refine go_ ?_
      refine Rd 1 1 (c2.out) ?_
      rintro _ _ ⟨rfl, rfl⟩
      refine go_ ?_
      refine Rd 1 1 (C3.out) ?_
      rintro _ _ ⟨rfl, rfl⟩
      refine go_ ?_
      refine Qaa ?_
      refine rS (st' := prS i0 l σ1) Try.results45 ?_
      exact ⟨rfl, rfl⟩
    | false =>
      rw [hbd, if_neg (by decide)] at HT
      rw [HT.out]
      have c3 := IP σ hw hz (hf.same hw (Adv.refl hw) hn (by omega)) i0
      have hA := (Qfb hl n).2.2.2.1 σ hw
      have hfu : Fu l (n + 1) 6 σ := hf
      have NX := Hh (fun (h : isS l (appS l n σ).2 0 sArr = true) => And.intro (hA.transS (Qax hl (Qbw h))).1 (IH _ (hA.transS (Qax hl (Qbw h))).1 (hf.next hw (hA.transS (Qax hl (Qbw h))) hn (by omega)) i0))
      have hw1 : Wf l (appS l n σ).2 := hA.1
      clear HT hf IT IP IH hin hA hfu
      obtain ⟨i, a, b⟩ := σ
      simp only at hz b1
      subst hz
      generalize (appS l n ⟨i, a, 0⟩) = R at *
      obtain ⟨G, σ1⟩ := R
      simp only at NX hw1 c3 ⊢
      have b2 : σ1.i ≤ 150000 := Nat.le_trans (hw1.le hl) (by decide)
      have c4 := Hh (is_p i0 l σ1 0 0 rfl sArr hl.len hl.pos (by omega) (by decide))
      unfold sArr at c4 NX ⊢
      simp only [aggD, Jg, List.map_cons, List.map_nil] at c3
      have C3 := Hh c3
      clear c3
      by_cases hz1 : σ1.bad = 0
      · cases ha : isS l σ1 0 ⟨#[45, 62]⟩ with
        | true =>
          rw [if_pos ⟨hz1, rfl⟩]
          obtain ⟨i', a', b'⟩ := σ1
          simp only at hz1 b2
          subst hz1
          obtain ⟨-, c5⟩ := NX.out ha
          have hin := Qez b2
          clear NX
          generalize (Qav l n (incS ⟨i', a', 0⟩)).1 = B at *
          generalize (Qav l n (incS ⟨i', a', 0⟩)).2 = σ2 at *
          simp only [aggD, Jg, List.map_cons, List.map_nil] at c5
          have C5 := Hh c5
          clear c5
          refine pG Try.func45 Try.ntmps45 ?_
          refine Jd ?_
          intro i1 hi1
          simp only [prS, List.cons_append, List.nil_append, List.append_nil, List.drop_succ_cons, List.drop_zero, List.drop_nil, Rh, Rg, Rf, Ja] at hi1
          refine go_ ?_
          refine Rd 1 1 (c0.out) ?_
          rintro _ _ ⟨rfl, rfl⟩
          unfold prS
          refine go_ ?_
          refine Rd 1 1 (c1.out) ?_
          rintro _ _ ⟨rfl, rfl⟩
          refine go_ ?_
          refine Rd 1 1 (c2.out) ?_
          rintro _ _ ⟨rfl, rfl⟩
          refine go_ ?_
          refine Rd 1 1 (C3.out) ?_
          rintro _ _ ⟨rfl, rfl⟩
          refine go_ ?_
          refine Jd ?_
          intro i2 hi2
          simp only [prS, List.cons_append, List.nil_append, List.append_nil, List.drop_succ_cons, List.drop_zero, List.drop_nil, Rh, Rg, Rf, Ja] at hi2
          refine go_ ?_
          refine Rc ?_
          unfold prS
          refine go_ ?_
          refine Rd 2 1 (c4.out) ?_
          rintro _ _ ⟨rfl, rfl⟩
          unfold prS
          refine go_ ?_
          refine Qaa ?_
          refine Qjf (J := Qdr [(i2, _)]) [(0, .a), (1, .a), (2, .a), (3, .a), (4, .e), (5, .a), (6, .a), (7, .e)] (by kernel_rfl) (by rfl) (by kernel_rfl) (by (repeat (first | exact Qce _ | refine Jt (by simp [St.box?, *] <;> rfl) ?_))) ?_
          refine lG ?_
          refine Qjx 2 1 (C5.out) ?_
          rintro _ _ ⟨rfl, rfl⟩
          refine ⟨.inr (by (repeat (first | exact Qce _ | refine Jt (by simp [St.box?, *] <;> rfl) ?_))), ?_⟩
          refine lG ?_
          refine PL_bs ?_ rfl (by decide) rfl (by simp; rfl) (by rfl) (by simp; rfl) (by rfl) (by decide) (by decide) eQ (by simp [Qdf, toDs, PV.toD]; rfl)
          refine lG ?_
          refine PLs ?_
          refine lG ?_
          refine go_ ?_
          refine rS (st' := prS i0 l σ2) Try.results45 ?_
          exact ⟨by rw [Qfs]; simp only [List.map_cons, List.map_nil, Jg]; rfl, rfl⟩
        | false =>
          rw [if_neg (by simp)]
          clear NX
          simp only [aggD, Jg, List.map_cons, List.map_nil]
          refine pG Try.func45 Try.ntmps45 ?_
          refine Jd ?_
          intro i1 hi1
          simp only [prS, List.cons_append, List.nil_append, List.append_nil, List.drop_succ_cons, List.drop_zero, List.drop_nil, Rh, Rg, Rf, Ja] at hi1
          refine go_ ?_
          refine Rd 1 1 (c0.out) ?_
          rintro _ _ ⟨rfl, rfl⟩
          unfold prS
          refine go_ ?_
          refine Rd 1 1 (c1.out) ?_
          rintro _ _ ⟨rfl, rfl⟩
          refine go_ ?_
          refine Rd 1 1 (c2.out) ?_
          rintro _ _ ⟨rfl, rfl⟩
          refine go_ ?_
          refine Rd 1 1 (C3.out) ?_
          rintro _ _ ⟨rfl, rfl⟩
          refine go_ ?_
          refine Jd ?_
          intro i2 hi2
          simp only [prS, List.cons_append, List.nil_append, List.append_nil, List.drop_succ_cons, List.drop_zero, List.drop_nil, Rh, Rg, Rf, Ja] at hi2
          refine go_ ?_
          refine Rc ?_
          unfold prS
          refine go_ ?_
          refine Rd 2 1 (c4.out) ?_
          rintro _ _ ⟨rfl, rfl⟩
          refine go_ ?_
          refine Qaa ?_
          refine rS (st' := prS i0 l σ1) Try.results45 ?_
          exact ⟨rfl, rfl⟩
      · rw [if_neg (by simp [hz1])]
        clear NX
        simp only [aggD, Jg, List.map_cons, List.map_nil]
        refine pG Try.func45 Try.ntmps45 ?_
        refine Jd ?_
        intro i1 hi1
        simp only [prS, List.cons_append, List.nil_append, List.append_nil, List.drop_succ_cons, List.drop_zero, List.drop_nil, Rh, Rg, Rf, Ja] at hi1
        refine go_ ?_
        refine Rd 1 1 (c0.out) ?_
        rintro _ _ ⟨rfl, rfl⟩
        unfold prS
        refine go_ ?_
        refine Rd 1 1 (c1.out) ?_
        rintro _ _ ⟨rfl, rfl⟩
        refine go_ ?_
        refine Rd 1 1 (c2.out) ?_
        rintro _ _ ⟨rfl, rfl⟩
        refine go_ ?_
        refine Rd 1 1 (C3.out) ?_
        rintro _ _ ⟨rfl, rfl⟩
        refine go_ ?_
        refine Jd ?_
        intro i2 hi2
        simp only [prS, List.cons_append, List.nil_append, List.append_nil, List.drop_succ_cons, List.drop_zero, List.drop_nil, Rh, Rg, Rf, Ja] at hi2
        refine go_ ?_
        refine Rc ?_
        unfold prS
        refine go_ ?_
        refine Qaa ?_
        refine rS (st' := prS i0 l σ1) Try.results45 ?_
        exact ⟨rfl, rfl⟩
theorem parse_w {l : List Tk} (hl : TkOk l) : ∀ n, (∀ k a σ, Wf l σ → Fu l n 4 σ → σ.bad = 0 → TypedC l n k a σ) ∧ (∀ σ, Wf l σ → Fu l n 6 σ → TermC l n σ) ∧ (∀ σ, Wf l σ → Fu l n 3 σ → AtomC l n σ) ∧ (∀ σ, Wf l σ → σ.bad = 0 → Fu l n 5 σ → AppC l n σ) := by
  intro n
  induction n using Nat.strongRecOn with
  | _ n ih =>
    match n with
    | 0 => exact ⟨fun _ _ _ _ h => absurd h.1 (Nat.lt_irrefl 0), fun _ _ h => absurd h.1 (Nat.lt_irrefl 0), fun _ _ h => absurd h.1 (Nat.lt_irrefl 0), fun _ _ _ h => absurd h.1 (Nat.lt_irrefl 0)⟩
    | n + 1 =>
      have I := ih n (Nat.lt_succ_self n)
      refine ⟨fun k a σ hw hf hb => ?_, fun σ hw hf => term_w hl n I.1 I.2.2.2 I.2.1 σ hw hf, fun σ hw hf => atom_w hl n (fun σ hw hf _ => I.2.1 σ hw hf) σ hw hf, fun σ hw hb hf => app_w hl n (fun m hm σ hw hf => (ih m (by omega)).2.2.1 σ hw hf) σ hw hb hf⟩
      have hn : 0 < n := by
        have := hf.2 hb
        unfold Wf at hw; omega
      exact typed_w hl n hn I.2.1 k a σ hw hf
theorem depth_p (t : Nd) : PCalls Try.prog 80 [aggD t] [] fun p s => p = .d (.v (.int .i64 (Qcn t))) ∧ s = [] := PCalls.flat trivial fun K w vs ha => by
 obtain ⟨v, rfl, hv⟩ := ha.one
 obtain ⟨cs, rfl, hc⟩ := rep_rel hv
 exact depth_any t cs w (Rep.toC _ _ hc)
def Qbu (s : ByteArray) : List Tk := if (tokA s).2.2 ≠ 0 then [noTk] else (tokA s).1
def Qed (s : ByteArray) : ST := if (tokA s).2.2 ≠ 0 then ⟨0, (tokA s).2.1, (tokA s).2.2⟩ else ⟨0, 0, 0⟩
theorem cut_len (c : Nat) (r : List Int) (hc : c ≤ 8192) : (cutR c r).1.length + c ≤ 8192 := by
  cases h1 : (Qac r).2 with
  | false => rw [cut_a h1]; simpa using hc
  | true =>
    by_cases h2 : (Qac r).1 = []
    · rw [cut_b h1 h2]; simpa using hc
    · by_cases h3 : 8192 ≤ c
      · rw [cut_c h1 h2 h3]; simpa using hc
      · cases h4 : (Qai (Qac r).1).2.2.2 with
        | false => rw [cut_d h1 h2 h3 h4]; simpa using hc
        | true =>
          rw [cut_e h1 h2 h3 h4]
          have hlt : ((Qac r).1.drop (Qai (Qac r).1).2.2.1).length < r.length := by
            have h5 := (Qep r).length_le
            have h6 := Qig h4 h2
            have h7 : 0 < (Qac r).1.length := List.length_pos_iff.2 h2
            rw [List.length_drop]
            omega
          have := cut_len (c + 1) ((Qac r).1.drop (Qai (Qac r).1).2.2.1) (by omega)
          simp only [List.length_cons]
          omega
termination_by r.length
decreasing_by exact hlt
theorem cut_err (c : Nat) (r : List Int) (e : Int) (k : Nat) (h : (cutR c r).2 = some (e, k)) : e = 1 ∨ e = 2 := by
  cases h1 : (Qac r).2 with
  | false => rw [cut_a h1] at h; cases h; exact .inl rfl
  | true =>
    by_cases h2 : (Qac r).1 = []
    · rw [cut_b h1 h2] at h; cases h
    · by_cases h3 : 8192 ≤ c
      · rw [cut_c h1 h2 h3] at h; cases h; exact .inr rfl
      · cases h4 : (Qai (Qac r).1).2.2.2 with
        | false => rw [cut_d h1 h2 h3 h4] at h; cases h; exact .inl rfl
        | true =>
          rw [cut_e h1 h2 h3 h4] at h
          have hlt : ((Qac r).1.drop (Qai (Qac r).1).2.2.1).length < r.length := by
            have h5 := (Qep r).length_le
            have h6 := Qig h4 h2
            have h7 : 0 < (Qac r).1.length := List.length_pos_iff.2 h2
            rw [List.length_drop]
            omega
          exact cut_err (c + 1) ((Qac r).1.drop (Qai (Qac r).1).2.2.1) e k h
termination_by r.length
decreasing_by exact hlt
theorem Qjw (s : ByteArray) : TkOk (Qbu s) := by
 unfold Qbu
 split
 ·exact ⟨by decide, by decide, rfl⟩
 ·rename_i h
  have h : (tokA s).2.2 = 0 := by simpa using h
  unfold tokA at h ⊢
  split at h
  ·rename_i h1; exact absurd h h1
  ·rename_i h1
   rw [if_neg h1]
   unfold Qgb at h ⊢
   have hb := cut_len 0 (allS s) (by decide)
   split at h
   ·rename_i e k he
    exfalso
    rcases cut_err _ _ _ _ he with h2 | h2
    ·rw [h2] at h; cases h
    ·rw [h2] at h; cases h
   ·rename_i he
    simp only
    refine ⟨by simp; omega, by simp, ?_⟩
    rw [tkg_lt (by simp)]
    simp
theorem start_p (s : ByteArray) : PCalls Try.prog 24 [.d (.v (.string s))] [] fun p st => ∃ i0, p = .ptr i0 0 ∧ st = prS i0 (Qbu s) (Qed s) := by
 have H0 := Hh (tall_p s)
 unfold tokP at H0
 have HL := Hh (show Qbu s = if (tokA s).2.2 ≠ 0 then [noTk] else (tokA s).1 from rfl)
 have HS := Hh (show Qed s = if (tokA s).2.2 ≠ 0 then ⟨0, (tokA s).2.1, (tokA s).2.2⟩ else ⟨0, 0, 0⟩ from rfl)
 generalize (tokA s).1 = L at *
 generalize (tokA s).2.1 = a at *
 generalize (tokA s).2.2 = e at *
 refine pG Try.func24 Try.ntmps24 ?_
 refine Jb (H0.out) ?_
 by_cases hz : e = 0
 ·rw [if_neg (by simp [hz])] at HL HS
  refine go_ ?_
  refine Jc ?_
  intro i0 hi0
  refine go_ ?_
  refine Jl (st' := prS i0 (Qbu s) (Qed s)) (by simp) (by simp only [Try.results24]; rfl) (by simp [resP]; rfl) (by rw [HL.out, HS.out]; exact dR) ⟨i0, rfl, rfl⟩
 ·rw [if_pos hz] at HL HS
  refine go_ ?_
  refine Qjy ?_
  refine Jc ?_
  intro i0 hi0
  refine go_ ?_
  refine Jl (st' := prS i0 (Qbu s) (Qed s)) (by simp) (by simp only [Try.results24]; rfl) (by simp [resP]; rfl) (by rw [HL.out, HS.out]; exact dR) ⟨i0, rfl, rfl⟩
def Qcc (x : Nd) (a : Int) (σ : ST) : ST := if σ.bad = 0 ∧ 128 < Qcn x then Qbh 2 a σ else σ
def Qbg (l : List Tk) (n : Nat) (σ : ST) : Nd × ST := ((Qav l n σ).1, Qcc (Qav l n σ).1 (tkg l σ.i).at_ (Qav l n σ).2)
theorem checked_p (i0 : Nat) (l : List Tk) (x : Nd) (a : Int) (σ : ST) : PCalls Try.prog 44 [.ptr i0 0, aggD x, .d (.v (.int .i64 a))] (prS i0 l σ) fun p s => p = aggD x ∧ s = prS i0 l (Qcc x a σ) := by
 have H0 := Hh (depth_p x)
 have H1 := Hh (Qic i0 l σ 2 a)
 have HC := Hh (show Qcc x a σ = if σ.bad = 0 ∧ 128 < Qcn x then Qbh 2 a σ else σ from rfl)
 simp only [aggD, Jg, List.map_cons, List.map_nil] at H0 ⊢
 by_cases hz : σ.bad = 0
 ·by_cases hd : 128 < Qcn x
  ·rw [if_pos ⟨hz, hd⟩] at HC
   rw [HC.out]
   clear HC
   obtain ⟨i, b, c⟩ := σ
   simp only at hz
   subst hz
   generalize Qbh 2 a ⟨i, b, 0⟩ = σ1 at *
   refine pG Try.func44 Try.ntmps44 ?_
   refine Jc ?_
   intro i1 hi1
   simp only [prS, List.cons_append, List.nil_append, List.append_nil, List.drop_succ_cons, List.drop_zero, List.drop_nil, Rh, Rg, Rf, Ja] at hi1
   refine go_ ?_
   refine Jd ?_
   intro i2 hi2
   simp only [prS, List.cons_append, List.nil_append, List.append_nil, List.drop_succ_cons, List.drop_zero, List.drop_nil, Rh, Rg, Rf, Ja] at hi2
   unfold prS
   refine go_ ?_
   refine Qcl (H0.out) ?_
   refine Rd 2 1 (H1.out) ?_
   rintro _ _ ⟨rfl, rfl⟩
   refine go_ ?_
   refine Qaa ?_
   refine rS (st' := prS i0 l σ1) Try.results44 ?_
   exact ⟨rfl, rfl⟩
  ·rw [if_neg (fun h => hd h.2)] at HC
   rw [HC.out]
   clear HC
   obtain ⟨i, b, c⟩ := σ
   simp only at hz
   subst hz
   refine pG Try.func44 Try.ntmps44 ?_
   refine Jc ?_
   intro i1 hi1
   simp only [prS, List.cons_append, List.nil_append, List.append_nil, List.drop_succ_cons, List.drop_zero, List.drop_nil, Rh, Rg, Rf, Ja] at hi1
   refine go_ ?_
   refine Jd ?_
   intro i2 hi2
   simp only [prS, List.cons_append, List.nil_append, List.append_nil, List.drop_succ_cons, List.drop_zero, List.drop_nil, Rh, Rg, Rf, Ja] at hi2
   unfold prS
   refine go_ ?_
   refine Qcl (H0.out) ?_
   refine Qaa ?_
   refine rS (st' := prS i0 l ⟨i, b, 0⟩) Try.results44 ?_
   exact ⟨rfl, rfl⟩
 ·rw [if_neg (fun h => hz h.1)] at HC
  rw [HC.out]
  clear HC
  refine pG Try.func44 Try.ntmps44 ?_
  refine Jc ?_
  intro i1 hi1
  simp only [prS, List.cons_append, List.nil_append, List.append_nil, List.drop_succ_cons, List.drop_zero, List.drop_nil, Rh, Rg, Rf, Ja] at hi1
  refine go_ ?_
  refine Jd ?_
  intro i2 hi2
  simp only [prS, List.cons_append, List.nil_append, List.append_nil, List.drop_succ_cons, List.drop_zero, List.drop_nil, Rh, Rg, Rf, Ja] at hi2
  unfold prS
  refine go_ ?_
  refine Qaa ?_
  refine rS (st' := prS i0 l σ) Try.results44 ?_
  exact ⟨rfl, rfl⟩
theorem expr_p {l : List Tk} (hl : TkOk l) (i0 n : Nat) (σ : ST) (hw : Wf l σ) (hf : Fu l n 6 σ) : PCalls Try.prog 25 [.ptr i0 0] (prS i0 l σ) fun p s => p = aggD (Qbg l n σ).1 ∧ s = prS i0 l (Qbg l n σ).2 := by
 have c0 := Hh (Qct i0 l σ hl.len hl.pos (Nat.le_trans (hw.le hl) (by decide)))
 have c1 := (parse_w hl n).2.1 σ hw hf i0
 have c2 := checked_p i0 l (Qav l n σ).1 (tkg l σ.i).at_ (Qav l n σ).2
 unfold Qbg
 generalize (tkg l σ.i).at_ = a at *
 generalize (Qav l n σ).1 = x at *
 generalize (Qav l n σ).2 = σ1 at *
 simp only
 generalize Qcc x a σ1 = σ2 at *
 simp only [aggD, Jg, List.map_cons, List.map_nil] at c1 c2 ⊢
 have C1 := Hh c1
 have C2 := Hh c2
 clear c1 c2
 refine pG Try.func25 Try.ntmps25 ?_
 refine Jd ?_
 intro i1 hi1
 simp only [prS, List.cons_append, List.nil_append, List.append_nil, List.drop_succ_cons, List.drop_zero, List.drop_nil, Rh, Rg, Rf, Ja] at hi1
 refine go_ ?_
 refine Rd 1 1 (c0.out) ?_
 rintro _ _ ⟨rfl, rfl⟩
 refine go_ ?_
 refine Rd 1 1 (C1.out) ?_
 rintro _ _ ⟨rfl, rfl⟩
 refine go_ ?_
 refine Rd 1 1 (C2.out) ?_
 rintro _ _ ⟨rfl, rfl⟩
 refine go_ ?_
 refine Qaa ?_
 refine rS (st' := prS i0 l σ2) Try.results25 ?_
 exact ⟨rfl, rfl⟩
theorem startW (s : ByteArray) : Wf (Qbu s) (Qed s) := by
 have := (Qjw s).pos
 unfold Wf Qed
 split <;> exact this
theorem expr_adv {l : List Tk} (hl : TkOk l) (n : Nat) (σ : ST) (hw : Wf l σ) : Adv l σ (Qbg l n σ).2 := by
 have h1 := (Qfb hl n).2.1 σ hw
 unfold Qbg Qcc
 simp only
 split
 ·exact h1.trans (Qfd hl 2 _ (by decide) h1.1).adv
 ·exact h1
def Qdv (l : List Tk) (σ : ST) : Bool := (tkg l σ.i).kind == 1 || isS l σ 0 sDot || isS l σ 0 sPar
def Qes (l : List Tk) : Nat := 6 * l.length + 3
mutual
def Qdp (l : List Tk) : Nat → ST → Nd × ST
  | 0, σ => (zNd, σ)
  | n + 1, σ =>
    let at_ := (tkg l σ.i).at_
    let τ := incS σ
    if isS l τ 0 sRap then (.mk 9 at_ ⟨#[]⟩ 0 [], incS τ)
    else if !Qcy l τ 0 then ((patS l n τ).1, Qaf l sRap (patS l n τ).2)
    else
      let x := parL l n at_ (.mk 6 (tkg l τ.i).at_ (Qal l τ).1 0 []) (Qal l τ).2
      (x.1, Qaf l sRap x.2)
def parL (l : List Tk) : Nat → Int → Nd → ST → Nd × ST
  | 0, _, g, σ => (g, σ)
  | n + 1, at_, g, σ =>
    if σ.bad = 0 ∧ Qdv l σ then
      let x := patS l n σ
      parL l n at_ (.mk 8 at_ g.name g.num (g.sub ++ [x.1])) x.2
    else (g, σ)
def patS (l : List Tk) : Nat → ST → Nd × ST
  | 0, σ => (zNd, σ)
  | n + 1, σ =>
    let at_ := (tkg l σ.i).at_
    if σ.bad ≠ 0 then (zNd, σ)
    else if isS l σ 0 sPar then Qdp l n σ
    else if isS l σ 0 sDot then (.mk 10 at_ ⟨#[]⟩ 0 [(Qbn l (Qes l) (incS σ)).1], (Qbn l (Qes l) (incS σ)).2)
    else if (tkg l σ.i).kind == 1 && (tkg l σ.i).text.toList == [95] then (.mk 7 at_ ⟨#[]⟩ 0 [], incS σ)
    else (.mk 6 at_ (Qal l σ).1 0 [], (Qal l σ).2)
end
def patF (l : List Tk) : Nat := 6 * l.length + 6
def Qcr (l : List Tk) : Nat → List Nd → ST → List Nd × ST
  | 0, acc, σ => (acc, σ)
  | n + 1, acc, σ =>
    if σ.bad = 0 ∧ Qdv l σ then
      if 24 ≤ acc.length then (acc, Qbh 2 (tkg l σ.i).at_ σ)
      else
        let x := patS l (patF l) σ
        Qcr l n (acc ++ [x.1]) (Qcc x.1 (tkg l σ.i).at_ x.2)
    else (acc, σ)
def Qbf (l : List Tk) : Nat := 6 * l.length + 6
def conS (l : List Tk) (σ : ST) : Bd × ST :=
 let x := Qal l σ
 let e := Qbg l (Qbf l) (Qaf l sCol x.2)
 (⟨x.1, (tkg l σ.i).at_, e.1⟩, e.2)
def Qgd (l : List Tk) (σ : ST) : Bd × ST :=
 let x := conS l (Qaf l sPar σ)
 (x.1, Qaf l sRap x.2)
def Qgi (l : List Tk) (σ : ST) : Bd × ST :=
 let x := conS l σ
 (x.1, Qaf l sSem x.2)
def Qdc (l : List Tk) (most : Nat) (more : ST → Bool) (one : ST → Bd × ST) : Nat → List Bd → ST → List Bd × ST
  | 0, acc, σ => (acc, σ)
  | n + 1, acc, σ =>
    if σ.bad = 0 ∧ more σ then
      if most ≤ acc.length then (acc, Qbh 2 (tkg l σ.i).at_ σ)
      else
        let x := one σ
        Qdc l most more one n (acc ++ [x.1]) x.2
    else (acc, σ)
def Qeo (l : List Tk) (σ : ST) : Bool := !isS l σ 0 sKet
def Qex (l : List Tk) (σ : ST) : Bool := isS l σ 0 sPar
def rowS (l : List Tk) (σ : ST) : Rw × ST :=
 let p := Qcr l (l.length + 1) [] σ
 if p.2.bad = 0 ∧ isS l p.2 0 sEq then
  let e := Qbg l (Qbf l) (incS p.2)
  (⟨(tkg l σ.i).at_, p.1, true, e.1⟩, Qaf l sSem e.2)
 else (⟨(tkg l σ.i).at_, p.1, false, zNd⟩, Qaf l sSem p.2)
def Qdt (l : List Tk) : Nat → List Rw → ST → List Rw × ST
  | 0, acc, σ => (acc, σ)
  | n + 1, acc, σ =>
    if σ.bad = 0 ∧ Qeo l σ then
      if 32 ≤ acc.length then (acc, Qbh 2 (tkg l σ.i).at_ σ)
      else
        let x := rowS l σ
        Qdt l n (acc ++ [x.1]) x.2
    else (acc, σ)
def Qcx (l : List Tk) (σ : ST) : Int := if isS l σ 0 sData then 1 else if isS l σ 0 sRec then 2 else if isS l σ 0 sDef then 3 else 0
def Qet (l : List Tk) (σ : ST) : Dc × ST :=
 let k := Qcx l σ
 let at_ := (tkg l σ.i).at_
 if k = 0 then (⟨0, at_, ⟨#[]⟩, [], zNd, [], []⟩, Qbh 1 at_ σ)
 else
  let nm := Qal l (incS σ)
  let tl := if k = 3 then ([], nm.2) else Qdc l 24 (Qex l) (Qgd l) (l.length + 1) [] nm.2
  let ty := Qbg l (Qbf l) (Qaf l sCol tl.2)
  let σ1 := Qaf l sBra ty.2
  if k = 3 then
   let r := Qdt l (l.length + 1) [] σ1
   (⟨k, at_, nm.1, tl.1, ty.1, [], r.1⟩, Qaf l sKet r.2)
  else
   let c := Qdc l 16 (Qeo l) (Qgi l) (l.length + 1) [] σ1
   (⟨k, at_, nm.1, tl.1, ty.1, c.1, []⟩, Qaf l sKet c.2)
def Qdw (l : List Tk) : Nat → List Dc → ST → List Dc × ST
  | 0, acc, σ => (acc, σ)
  | n + 1, acc, σ =>
    if σ.bad = 0 ∧ (tkg l σ.i).kind ≠ 5 then
      let x := Qet l σ
      Qdw l n (acc ++ [x.1]) x.2
    else (acc, σ)
def Qcw (s : ByteArray) : List Dc × Int × Int :=
 let r := Qdw (Qbu s) ((Qbu s).length + 1) [] (Qed s)
 if r.2.bad = 0 then (r.1, (s.size : Int), 0) else ([], r.2.at_, r.2.bad)
section
variable {l : List Tk} (hl : TkOk l)
include hl
theorem Qju : ∀ (n : Nat),
    (∀ σ, Wf l σ → isS l σ 0 sPar = true → Adv l σ (Qdp l n σ).2 ∧ (0 < n → AdvS l σ (Qdp l n σ).2)) ∧ (∀ a g σ, Wf l σ → Adv l σ (parL l n a g σ).2) ∧ (∀ σ, Wf l σ → Adv l σ (patS l n σ).2 ∧ (1 < n → AdvS l σ (patS l n σ).2)) := by
  intro n
  induction n with
  | zero => exact ⟨fun _ h _ => ⟨Adv.refl h, fun h => absurd h (Nat.lt_irrefl 0)⟩, fun _ _ _ h => Adv.refl h, fun _ h => ⟨Adv.refl h, fun h => absurd h (by decide)⟩⟩
  | succ n ih =>
    obtain ⟨i1, i2, i3⟩ := ih
    refine ⟨fun σ h hp => ?_, fun a g σ h => ?_, fun σ h => ?_⟩
    · have h1 := Qax hl (Qbw hp)
      have : AdvS l σ (Qdp l (n + 1) σ).2 := by
        simp only [Qdp]
        split
        · rename_i hr
          exact h1.trans (Qax hl (Qbw hr)).adv
        · split
          · have h2 := h1.trans (i3 _ h1.1).1
            exact h2.trans (Qag hl sRap h2.1).adv
          · have h2 := h1.trans (Qdu hl h1.1).adv
            have h3 := h2.trans (i2 (tkg l σ.i).at_ (.mk 6 (tkg l (incS σ).i).at_ (Qal l (incS σ)).1 0 []) _ h2.1)
            exact h3.trans (Qag hl sRap h3.1).adv
      exact ⟨this.adv, fun _ => this⟩
    · simp only [parL]
      split
      · have h1 := (i3 σ h).1
        exact h1.trans (i2 _ _ _ h1.1)
      · exact Adv.refl h
    · simp only [patS]
      split
      · rename_i hb
        have : AdvS l σ σ := ⟨h, fun hb' => absurd hb' hb⟩
        exact ⟨this.adv, fun _ => this⟩
      · split
        · rename_i hp
          have h1 := i1 σ h hp
          exact ⟨h1.1, fun hn => h1.2 (by omega)⟩
        · split
          · rename_i hd
            have h1 := Qax hl (Qbw hd)
            have h2 := h1.trans ((Qfb hl (Qes l)).2.2.1 _ h1.1).1
            exact ⟨h2.adv, fun _ => h2⟩
          · split
            · rename_i hk
              simp only [Bool.and_eq_true, beq_iff_eq] at hk
              have h1 := Qax hl (σ := σ) (by rw [hk.1]; decide)
              exact ⟨h1.adv, fun _ => h1⟩
            · have h1 := Qdu hl h
              exact ⟨h1.adv, fun _ => h1⟩
end
mutual
def eNd : Nd → Nd
 | .mk k _ s n sub => .mk k 0 s n (eNds sub)
def eNds : List Nd → List Nd
 | [] => []
 | t :: ts => eNd t :: eNds ts
end
theorem Qkf (l : List Nd) : eNds l = l.map eNd := by
 induction l with
 | nil => rfl
 | cons t ts ih => simp only [eNds, ih, List.map_cons]
theorem sz_e : ∀ t : Nd, ∀ h, szT (eNd t) h = szT t h := by
  refine Nd.ind ?_
  intro k a s n sub ih h
  have : ∀ l : List Nd, (∀ x ∈ l, ∀ h, szT (eNd x) h = szT x h) → ∀ h, szL (eNds l) h = szL l h := by
    intro l
    induction l with
    | nil => intro _ _; rfl
    | cons t ts iht =>
      intro hl h
      simp only [eNds, szL]
      rw [hl t (by simp), iht (fun x hx => hl x (by simp [hx]))]
  simp only [eNd, szT]
  exact this sub ih _
theorem dp_e : ∀ t : Nd, ∀ h, dpT (eNd t) h = dpT t h := by
  refine Nd.ind ?_
  intro k a s n sub ih h
  have : ∀ l : List Nd, (∀ x ∈ l, ∀ h, dpT (eNd x) h = dpT x h) → ∀ h m, dpL (eNds l) h m = dpL l h m := by
    intro l
    induction l with
    | nil => intro _ _ _; rfl
    | cons t ts iht =>
      intro hl h m
      simp only [eNds, dpL]
      rw [hl t (by simp), iht (fun x hx => hl x (by simp [hx]))]
  simp only [eNd, dpT]
  rw [this sub ih]
theorem depth_e (t : Nd) : Qcn (eNd t) = Qcn t := by
 unfold Qcn sizeT
 rw [sz_e, dp_e]
def eBd (b : Bd) : Bd := ⟨b.name, 0, eNd b.ty⟩
def eRw (r : Rw) : Rw := ⟨0, r.pats.map eNd, r.has, eNd r.body⟩
def eDc (d : Dc) : Dc := ⟨d.kind, 0, d.name, d.tele.map eBd, eNd d.ty, d.cons.map eBd, d.rows.map eRw⟩
structure TokR (u : List Int) (k : Int) (x : ByteArray) : Prop where
 ne : u ≠ []
 join : x = Qas u
 ok : u.all right = true
 skip : ∀ w, Qac (u ++ 32 :: w) = (u ++ 32 :: w, true)
 next : ∀ w, Qai (u ++ 32 :: w) = (k, x, u.length, true)
theorem Qjv {a : Int} {r : List Int} (h1 : Qec a = false) (h2 : a = 45 → r.head? ≠ some 45) (h3 : a = 123 → r.head? ≠ some 45) : Qac (a :: r) = (a :: r, true) := by
 rw [Qac, if_neg (by simp [h1]), if_neg (fun h => h2 h.1 h.2), if_neg (fun h => h3 h.1 h.2)]
theorem letter_blank {n : Int} (h : (Qbo n || n == 95) = true) : Qec n = false ∧ n ≠ 45 ∧ n ≠ 123 := by
 unfold Qbo at h
 unfold Qec
 simp only [Bool.or_eq_true, decide_eq_true_eq, beq_iff_eq] at h
 simp
 omega
theorem digit_blank {n : Int} (h : Qar n = true) : Qec n = false ∧ n ≠ 45 ∧ n ≠ 123 := by
 unfold Qar at h
 unfold Qec
 simp only [decide_eq_true_eq] at h
 simp
 omega
theorem next_word {a : Int} {r : List Int} (h : (Qbo a || a == 95) = true) : Qai (a :: r) = (if kwB (Qas ((a :: r).takeWhile Qah)) then (2, Qas ((a :: r).takeWhile Qah), ((a :: r).takeWhile Qah).length, true) else (1, Qas ((a :: r).takeWhile Qah), ((a :: r).takeWhile Qah).length, (Qas ((a :: r).takeWhile Qah)).toList == [95] || Qaj (Qas ((a :: r).takeWhile Qah)))) := if_pos h
theorem next_digit {a : Int} {r : List Int} (hl : ¬ (Qbo a || a == 95) = true) (h : Qar a = true) : Qai (a :: r) = (3, Qas ((a :: r).takeWhile Qar), ((a :: r).takeWhile Qar).length, Qen (Qas ((a :: r).takeWhile Qar)) && !Qah (sgn (a :: r) ((a :: r).takeWhile Qar).length)) := (if_neg hl).trans (if_pos h)
theorem next_mark {a : Int} {r : List Int} (hl : ¬ (Qbo a || a == 95) = true) (h : ¬ Qar a = true) : Qai (a :: r) = (4, (Qck a (sgn (a :: r) 1)).1, (Qck a (sgn (a :: r) 1)).2, decide (0 < (Qck a (sgn (a :: r) 1)).2)) := (if_neg hl).trans (if_neg h)
theorem cut_skip {c : Nat} {l l' : List Int} (h : Qac l = Qac l') : cutR c l = cutR c l' := by
 conv => lhs; rw [cutR]
 conv => rhs; rw [cutR]
 rw [h]
inductive TokRs : List (List Int) → List (Int × ByteArray × Nat) → Prop
 | nil : TokRs [] []
 | cons {u : List Int} {t : Int × ByteArray × Nat} {us : List (List Int)} {ts : List (Int × ByteArray × Nat)} (h : TokR u t.1 t.2.1) (r : TokRs us ts) : TokRs (u :: us) (t :: ts)
theorem pattern_p (i0 : Nat) (l : List Tk) (σ : ST) (hl : l.length ≤ 100000) (h0 : 0 < l.length) (hi : σ.i ≤ 150000) : PCalls Try.prog 47 [.ptr i0 0] (prS i0 l σ) fun p st => p = .d (.v (.bool (Qdv l σ))) ∧ st = prS i0 l σ := by
  have H1 := Hh (Qct i0 l σ hl h0 hi)
  have H2 := Hh (is_p i0 l σ 0 0 rfl sDot hl h0 (by omega) (by decide))
  have H3 := Hh (is_p i0 l σ 0 0 rfl sPar hl h0 (by omega) (by decide))
  have HB := Hh (show Qdv l σ = ((tkg l σ.i).kind == 1 || isS l σ 0 sDot || isS l σ 0 sPar) from rfl)
  unfold sPar sDot at *
  generalize tkg l σ.i = t at *
  refine pG Try.func47 Try.ntmps47 ?_
  refine Re (H1.out) ?_
  rintro _ _ ⟨rfl, rfl⟩
  by_cases h1 : t.kind = 1
  · refine go_ ?_
    refine rS (st' := prS i0 l σ) Try.results47 ?_
    exact ⟨by rw [HB.out, h1]; rfl, rfl⟩
  · refine go_ ?_
    refine Re (H2.out) ?_
    rintro _ _ ⟨rfl, rfl⟩
    cases h2 : isS l σ 0 ⟨#[46]⟩ with
    | true =>
      refine go_ ?_
      refine rS (st' := prS i0 l σ) Try.results47 ?_
      exact ⟨by rw [HB.out, h2, show (t.kind == 1) = false by simpa using h1]; rfl, rfl⟩
    | false =>
      refine go_ ?_
      refine Re (H3.out) ?_
      rintro _ _ ⟨rfl, rfl⟩
      refine go_ ?_
      refine rS (st' := prS i0 l σ) Try.results47 ?_
      exact ⟨by rw [HB.out, h2, show (t.kind == 1) = false by simpa using h1]; rfl, rfl⟩
def PatC (l : List Tk) (n : Nat) (σ : ST) : Prop := ∀ i0, PCalls Try.prog 48 [.ptr i0 0] (prS i0 l σ) fun p s => p = aggD (patS l n σ).1 ∧ s = prS i0 l (patS l n σ).2
def ParenC (l : List Tk) (n : Nat) (σ : ST) : Prop := ∀ i0, PCalls Try.prog 85 [.ptr i0 0] (prS i0 l σ) fun p s => p = aggD (Qdp l n σ).1 ∧ s = prS i0 l (Qdp l n σ).2
theorem atom_full {l : List Tk} (hl : TkOk l) (σ : ST) (hw : Wf l σ) : AtomC l (Qes l) σ :=
 (parse_w hl (Qes l)).2.2.1 σ hw ⟨by unfold Qes; omega, fun _ => by unfold Qes; omega⟩
theorem pat_w {l : List Tk} (hl : TkOk l) (n : Nat) (IP : ∀ σ, Wf l σ → isS l σ 0 sPar = true → σ.bad = 0 → Fu l n 2 σ → ParenC l n σ) (σ : ST) (hw : Wf l σ) (hf : Fu l (n + 1) 3 σ) : PatC l (n + 1) σ := by
  intro i0
  have b1 : σ.i ≤ 150000 := Nat.le_trans (hw.le hl) (by decide)
  have c0 := Hh (Qct i0 l σ hl.len hl.pos b1)
  have c1 := Hh (is_p i0 l σ 0 0 rfl sPar hl.len hl.pos (by omega) (by decide))
  have c2 := Hh (is_p i0 l σ 0 0 rfl sDot hl.len hl.pos (by omega) (by decide))
  have c3 := Hh (name_p i0 l σ hl.len hl.pos b1)
  have HT := Hh (show patS l (n + 1) σ = (if σ.bad ≠ 0 then (zNd, σ) else if isS l σ 0 sPar then Qdp l n σ else if isS l σ 0 sDot then (.mk 10 (tkg l σ.i).at_ ⟨#[]⟩ 0 [(Qbn l (Qes l) (incS σ)).1], (Qbn l (Qes l) (incS σ)).2) else if (tkg l σ.i).kind == 1 && (tkg l σ.i).text.toList == [95] then (.mk 7 (tkg l σ.i).at_ ⟨#[]⟩ 0 [], incS σ) else (.mk 6 (tkg l σ.i).at_ (Qal l σ).1 0 [], (Qal l σ).2)) from by simp only [patS])
  have hin := Qez b1
  unfold sPar at c1
  unfold sDot at c2
  by_cases hz : σ.bad = 0
  rotate_left
  · rw [if_pos hz] at HT
    rw [HT.out]
    refine pG Try.func48 Try.ntmps48 ?_
    refine Jd ?_
    intro i1 hi1
    simp only [prS, List.cons_append, List.nil_append, List.append_nil, List.drop_succ_cons, List.drop_zero, List.drop_nil, Rh, Rg, Rf, Ja] at hi1
    refine go_ ?_
    refine Rd 1 1 (c0.out) ?_
    rintro _ _ ⟨rfl, rfl⟩
    unfold prS
    refine go_ ?_
    refine Qaa ?_
    refine rS (st' := prS i0 l σ) Try.results48 ?_
    exact ⟨by unfold zNd; rw [Qfs]; rfl, rfl⟩
  rw [if_neg (by simp [hz])] at HT
  have hn : 0 < n := by
    have := hf.2 hz
    unfold Wf at hw; omega
  generalize htk : tkg l σ.i = t at *
  cases hs : isS l σ 0 sPar with
  | true =>
    rw [hs, if_pos rfl] at HT
    have c4 := IP σ hw hs hz (hf.same hw (Adv.refl hw) hn (by omega)) i0
    unfold sPar at hs
    rw [HT.out]
    clear HT hf IP hin
    obtain ⟨i, a, b⟩ := σ
    simp only at hz b1
    subst hz
    generalize (Qdp l n ⟨i, a, 0⟩).1 = A at *
    generalize (Qdp l n ⟨i, a, 0⟩).2 = σ1 at *
    simp only [aggD, Jg, List.map_cons, List.map_nil] at c4 ⊢
    have C4 := Hh c4
    clear c4
    refine pG Try.func48 Try.ntmps48 ?_
    refine Jd ?_
    intro i1 hi1
    simp only [prS, List.cons_append, List.nil_append, List.append_nil, List.drop_succ_cons, List.drop_zero, List.drop_nil, Rh, Rg, Rf, Ja] at hi1
    refine go_ ?_
    refine Rd 1 1 (c0.out) ?_
    rintro _ _ ⟨rfl, rfl⟩
    unfold prS
    refine go_ ?_
    refine Rd 1 1 (c1.out) ?_
    rintro _ _ ⟨rfl, rfl⟩
    refine go_ ?_
    refine Rd 1 1 (C4.out) ?_
    rintro _ _ ⟨rfl, rfl⟩
    refine go_ ?_
    refine Qaa ?_
    refine rS (st' := prS i0 l σ1) Try.results48 ?_
    exact ⟨rfl, rfl⟩
  | false =>
    rw [hs, if_neg (by decide)] at HT
    unfold sPar at hs
    cases hd : isS l σ 0 sDot with
    | true =>
      rw [hd, if_pos rfl] at HT
      have h1 := Qax hl (Qbw hd)
      unfold sDot at hd
      rw [HT.out]
      have c4 := atom_full hl _ h1.1 i0
      clear HT hf IP
      obtain ⟨i, a, b⟩ := σ
      simp only at hz b1 hin
      subst hz
      generalize (Qbn l (Qes l) (incS ⟨i, a, 0⟩)).1 = A at *
      generalize (Qbn l (Qes l) (incS ⟨i, a, 0⟩)).2 = σ1 at *
      simp only [aggD, Jg, List.map_cons, List.map_nil] at c4
      have C4 := Hh c4
      clear c4
      refine pG Try.func48 Try.ntmps48 ?_
      refine Jd ?_
      intro i1 hi1
      simp only [prS, List.cons_append, List.nil_append, List.append_nil, List.drop_succ_cons, List.drop_zero, List.drop_nil, Rh, Rg, Rf, Ja] at hi1
      refine go_ ?_
      refine Rd 1 1 (c0.out) ?_
      rintro _ _ ⟨rfl, rfl⟩
      unfold prS
      refine go_ ?_
      refine Rd 1 1 (c1.out) ?_
      rintro _ _ ⟨rfl, rfl⟩
      refine go_ ?_
      refine Rd 1 1 (c2.out) ?_
      rintro _ _ ⟨rfl, rfl⟩
      unfold prS
      refine go_ ?_
      refine Qaa ?_
      refine Rd 1 1 (C4.out) ?_
      rintro _ _ ⟨rfl, rfl⟩
      refine go_ ?_
      refine Qjy ?_
      refine Qaa ?_
      refine rS (st' := prS i0 l σ1) Try.results48 ?_
      exact ⟨by rw [Qfs]; simp only [List.map_cons, List.map_nil, Jg]; rfl, rfl⟩
    | false =>
      rw [hd, if_neg (by decide)] at HT
      unfold sDot at hd
      cases hu : (t.kind == 1 && t.text.toList == [95]) with
      | true =>
        rw [hu, if_pos rfl] at HT
        rw [HT.out]
        simp only [Bool.and_eq_true, beq_iff_eq] at hu
        obtain ⟨hu1, hu2⟩ := hu
        clear HT hf IP c3
        obtain ⟨i, a, b⟩ := σ
        simp only at hz b1 hin
        subst hz
        refine pG Try.func48 Try.ntmps48 ?_
        refine Jd ?_
        intro i1 hi1
        simp only [prS, List.cons_append, List.nil_append, List.append_nil, List.drop_succ_cons, List.drop_zero, List.drop_nil, Rh, Rg, Rf, Ja] at hi1
        refine go_ ?_
        refine Rd 1 1 (c0.out) ?_
        rintro _ _ ⟨rfl, rfl⟩
        unfold prS
        refine go_ ?_
        refine Rd 1 1 (c1.out) ?_
        rintro _ _ ⟨rfl, rfl⟩
        refine go_ ?_
        refine Rd 1 1 (c2.out) ?_
        rintro _ _ ⟨rfl, rfl⟩
        refine go_ ?_
        refine Rd 1 1 (c0.out) ?_
        rintro _ _ ⟨rfl, rfl⟩
        refine go_ ?_
        refine Rd 1 1 (c0.out) ?_
        rintro _ _ ⟨rfl, rfl⟩
        unfold prS
        refine go_ ?_
        refine Qaa ?_
        refine Qaa ?_
        refine rS (st' := prS i0 l (incS ⟨i, a, 0⟩)) Try.results48 ?_
        exact ⟨by rw [Qfs]; rfl, rfl⟩
      | false =>
        rw [hu, if_neg (by decide)] at HT
        rw [HT.out]
        clear HT hf IP hin
        obtain ⟨i, a, b⟩ := σ
        simp only at hz b1
        subst hz
        generalize (Qal l ⟨i, a, 0⟩).1 = x at *
        generalize (Qal l ⟨i, a, 0⟩).2 = σ1 at *
        by_cases hu1 : t.kind = 1
        · have hu2 : ¬ t.text.toList = [95] := by
            intro e
            rw [hu1, e] at hu; cases hu
          clear hu
          refine pG Try.func48 Try.ntmps48 ?_
          refine Jd ?_
          intro i1 hi1
          simp only [prS, List.cons_append, List.nil_append, List.append_nil, List.drop_succ_cons, List.drop_zero, List.drop_nil, Rh, Rg, Rf, Ja] at hi1
          refine go_ ?_
          refine Rd 1 1 (c0.out) ?_
          rintro _ _ ⟨rfl, rfl⟩
          unfold prS
          refine go_ ?_
          refine Rd 1 1 (c1.out) ?_
          rintro _ _ ⟨rfl, rfl⟩
          refine go_ ?_
          refine Rd 1 1 (c2.out) ?_
          rintro _ _ ⟨rfl, rfl⟩
          refine go_ ?_
          refine Rd 1 1 (c0.out) ?_
          rintro _ _ ⟨rfl, rfl⟩
          refine go_ ?_
          refine Rd 1 1 (c0.out) ?_
          rintro _ _ ⟨rfl, rfl⟩
          refine go_ ?_
          refine Rd 1 1 (c3.out) ?_
          rintro _ _ ⟨rfl, rfl⟩
          refine go_ ?_
          refine Qaa ?_
          refine rS (st' := prS i0 l σ1) Try.results48 ?_
          exact ⟨by rw [Qfs]; rfl, rfl⟩
        · clear hu
          refine pG Try.func48 Try.ntmps48 ?_
          refine Jd ?_
          intro i1 hi1
          simp only [prS, List.cons_append, List.nil_append, List.append_nil, List.drop_succ_cons, List.drop_zero, List.drop_nil, Rh, Rg, Rf, Ja] at hi1
          refine go_ ?_
          refine Rd 1 1 (c0.out) ?_
          rintro _ _ ⟨rfl, rfl⟩
          unfold prS
          refine go_ ?_
          refine Rd 1 1 (c1.out) ?_
          rintro _ _ ⟨rfl, rfl⟩
          refine go_ ?_
          refine Rd 1 1 (c2.out) ?_
          rintro _ _ ⟨rfl, rfl⟩
          refine go_ ?_
          refine Rd 1 1 (c0.out) ?_
          rintro _ _ ⟨rfl, rfl⟩
          refine go_ ?_
          refine Rd 1 1 (c3.out) ?_
          rintro _ _ ⟨rfl, rfl⟩
          refine go_ ?_
          refine Qaa ?_
          refine rS (st' := prS i0 l σ1) Try.results48 ?_
          exact ⟨by rw [Qfs]; rfl, rfl⟩
end Go.Proofs.Ytahhgpafjiljfaa
