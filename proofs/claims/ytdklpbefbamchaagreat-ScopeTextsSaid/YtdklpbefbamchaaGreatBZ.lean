import Derived.Test.YtdklpbefbamchaaGreatBY
import Derived.Test.YtdklpbefbamchaaGreatBNd
import Derived.Test.YtdklpbefbamchaaGreatBA3
set_option linter.unusedSimpArgs false
set_option linter.unusedVariables false
set_option maxHeartbeats 16000000
set_option maxRecDepth 100000
namespace Go.Proofs.YtdklpbefbamchaaGreat
open Go.RowKit
structure ST where
 i : Nat
 at_ : Int
 bad : Int
def noTk : Tk := ⟨5, ⟨#[]⟩, 0⟩
def tkg (l : List Tk) (j : Nat) : Tk := (l[j]?).getD ((l[l.length - 1]?).getD noTk)
def Qby (e a : Int) (σ : ST) : ST := if σ.bad = 0 then ⟨σ.i, a, e⟩ else σ
def Qbo (t : Tk) (s : ByteArray) : Bool := (t.kind == 4 || t.kind == 2) && t.text.toList == s.toList
def isS (l : List Tk) (σ : ST) (k : Nat) (s : ByteArray) : Bool := Qbo (tkg l (σ.i + k)) s
def incS (σ : ST) : ST := ⟨σ.i + 1, σ.at_, σ.bad⟩
def Qbk (l : List Tk) (s : ByteArray) (σ : ST) : ST :=
 let τ := if isS l σ 0 s then σ else Qby 1 (tkg l σ.i).at_ σ
 if τ.bad = 0 then incS τ else τ
def Qfp (t : Tk) : Bool := t.kind == 1 && !(t.text.toList == [95])
def Qfg (l : List Tk) (σ : ST) (k : Nat) : Bool := Qfp (tkg l (σ.i + k))
def Qdl (l : List Tk) (σ : ST) : ByteArray × ST :=
 let τ := if Qfg l σ 0 then σ else Qby 1 (tkg l σ.i).at_ σ
 if τ.bad = 0 then ((tkg l τ.i).text, incS τ) else (⟨#[]⟩, τ)
def Qbs (l : List Tk) (σ : ST) : ByteArray × ST :=
 if (tkg l σ.i).kind == 1 && σ.bad == 0 then ((tkg l σ.i).text, incS σ) else Qdl l σ
def sPar : ByteArray := ⟨#[40]⟩
def sRap : ByteArray := ⟨#[41]⟩
def sCol : ByteArray := ⟨#[58]⟩
def sArr : ByteArray := ⟨#[45, 62]⟩
def sLam : ByteArray := ⟨#[92]⟩
def sSet : ByteArray := ⟨#[83, 101, 116]⟩
def Qef (l : List Tk) (σ : ST) : Bool := isS l σ 0 sPar && (tkg l (σ.i + 1)).kind == 1 && isS l σ 2 sCol
def setS (l : List Tk) (σ : ST) : Nd × ST :=
 let τ := incS σ
 let t := tkg l τ.i
 if t.kind == 3 then
  (.mk 2 (tkg l σ.i).at_ ⟨#[]⟩ (numT t.text) [], incS (if 7 < numT t.text then Qby 1 t.at_ τ else τ))
 else (.mk 2 (tkg l σ.i).at_ ⟨#[]⟩ 0 [], τ)
def Qgj (l : List Tk) (σ : ST) : Bool := Qfg l σ 0 || isS l σ 0 sSet || (isS l σ 0 sPar && !Qef l σ)
def zNd : Nd := .mk 0 0 ⟨#[]⟩ 0 []
mutual
def Qdp (l : List Tk) : Nat → Int → Int → ST → Nd × ST
  | 0, _, _, σ => (zNd, σ)
  | n + 1, kind, at_, σ =>
    let x := Qbs l (Qbk l sPar σ)
    let a := Qav l n (Qbk l sCol x.2)
    let b := Qav l n (Qbk l sArr (Qbk l sRap a.2))
    (.mk kind at_ x.1 0 [a.1, b.1], b.2)
def Qav (l : List Tk) : Nat → ST → Nd × ST
  | 0, σ => (zNd, σ)
  | n + 1, σ =>
    if σ.bad ≠ 0 then (zNd, σ)
    else if isS l σ 0 sLam then Qdp l n 4 (tkg l σ.i).at_ (incS σ)
    else if Qef l σ then Qdp l n 3 (tkg l σ.i).at_ σ
    else
      let g := appS l n σ
      if g.2.bad = 0 ∧ isS l g.2 0 sArr then
        let x := Qav l n (incS g.2)
        (.mk 3 g.1.at ⟨#[95]⟩ 0 [g.1, x.1], x.2)
      else g
def Qcs (l : List Tk) : Nat → ST → Nd × ST
  | 0, σ => (zNd, σ)
  | n + 1, σ =>
    if σ.bad ≠ 0 then (zNd, σ)
    else if isS l σ 0 sSet then setS l σ
    else if isS l σ 0 sPar then
      let x := Qav l n (incS σ)
      (x.1, Qbk l sRap x.2)
    else (.mk 1 (tkg l σ.i).at_ (Qdl l σ).1 0 [], (Qdl l σ).2)
def appS (l : List Tk) : Nat → ST → Nd × ST
  | 0, σ => (zNd, σ)
  | n + 1, σ =>
    let g := Qcs l n σ
    appL l n g.1 g.2
def appL (l : List Tk) : Nat → Nd → ST → Nd × ST
  | 0, g, σ => (g, σ)
  | n + 1, g, σ =>
    if σ.bad = 0 ∧ Qgj l σ then
      let x := Qcs l n σ
      appL l n (.mk 5 g.at ⟨#[]⟩ 0 [g, x.1]) x.2
    else (g, σ)
end
structure TkOk (l : List Tk) : Prop where
 len : l.length ≤ 100000
 pos : 0 < l.length
 last : (tkg l (l.length - 1)).kind = 5
def Wf (l : List Tk) (σ : ST) : Prop := σ.i < l.length
def prS (i0 : Nat) (l : List Tk) (σ : ST) : St := [.box i0 165 [.d (.sl (l.map encD)), .d (.v (.int .i64 σ.i)), .d (.v (.int .i64 σ.at_)), .d (.v (.int .i64 σ.bad))]]
theorem Qlc {l : List Tk} {j : Nat} (h : j < l.length) : tkg l j = l[j] := by unfold tkg; rw [List.getElem?_eq_getElem h]; rfl
theorem tkg_ge {l : List Tk} {j : Nat} (h : l.length ≤ j) (h0 : 0 < l.length) : tkg l j = l[l.length - 1]'(by omega) := by
 unfold tkg
 rw [List.getElem?_eq_none h, List.getElem?_eq_getElem (by omega)]; rfl
theorem tok_p (i0 : Nat) (l : List Tk) (σ : ST) (kk : Int) (j : Nat) (hj : (σ.i : Int) + kk = j) (hl : l.length ≤ 100000) (h0 : 0 < l.length) (hi : σ.i ≤ 200000) (hk1 : -5 ≤ kk) (hk2 : kk ≤ 5) : PCalls Tryz.prog 172 [.ptr i0 0, .d (.v (.int .i64 kk))] (prS i0 l σ) fun p s => p = aggD (tkg l j) ∧ s = prS i0 l σ := by
 have hw : IntKind.i64.wrap ((σ.i : Int) + kk) = (j : Int) := by rw [IntWalk.i64_in _ (by omega)]; exact hj
 clear hj hk1 hk2
 unfold prS
 obtain ⟨i, at_, bad⟩ := σ
 simp only at *
 refine pG Tryz.func172 Tryz.ntmps172 ?_
 refine Je ?_
 intro i1 hi1
 simp only [Ja, Rh] at hi1
 refine go_ ?_
 refine Qal [(0, .a), (1, .a), (2, .a), (3, .b), (4, .a), (5, .a), (6, .a), (7, .a), (8, .a), (9, .b), (10, .a), (11, .a)] (by kernel_rfl) (by rfl) (by kernel_rfl) ?_
 refine go_ ?_
 by_cases h : j < l.length
 ·have hc : ¬ ((l.length : Int) ≤ (j : Int)) := by omega
  have hc' : ¬ (l.length ≤ j) := by omega
  have hn : (0 : Int) ≤ (j : Int) := by omega
  have hx := Qaq h
  have he := Qaz l[j]
  have HT := Hh (Qlc h)
  refine go_ ?_
  refine Qal [(0, .a), (1, .a), (2, .a), (3, .b), (4, .a), (5, .a), (6, .a), (7, .b), (8, .a), (9, .a), (10, .a), (11, .a), (12, .e)] (by kernel_rfl) (by rfl) (by kernel_rfl) ?_
  refine go_ ?_
  refine Qck ?_
  refine go_ ?_
  refine rS (st' := [.box i0 165 [.d (.sl (l.map encD)), .d (.v (.int .i64 i)), .d (.v (.int .i64 at_)), .d (.v (.int .i64 bad))]]) Tryz.results172 ?_
  exact ⟨by rw [HT.out]; rfl, rfl⟩
 ·have hc : (l.length : Int) ≤ (j : Int) := by omega
  have hc' : l.length ≤ j := by omega
  have hm : l.length - 1 < l.length := by omega
  have hw2 : IntKind.i64.wrap ((l.length : Int) - 1) = ((l.length - 1 : Nat) : Int) := by rw [IntWalk.i64_in _ (by omega)]; omega
  have HT := Hh (tkg_ge hc' h0)
  obtain ⟨m, hme⟩ : ∃ m, m = l.length - 1 := ⟨_, rfl⟩
  rw [← hme] at hw2
  have hm' : m < l.length := by omega
  have hx := Qaq hm'
  have he := Qaz l[m]
  have hn : (0 : Int) ≤ (m : Int) := by omega
  have HE := Hh (show tkg l j = l[m] by rw [HT.out]; congr 1; exact hme.symm)
  clear HT hme hm
  refine go_ ?_
  refine Qal [(0, .a), (1, .a), (2, .a), (3, .b), (4, .a), (5, .a), (6, .a), (7, .b), (8, .a), (9, .a), (10, .a), (11, .a), (12, .e)] (by kernel_rfl) (by rfl) (by kernel_rfl) ?_
  refine go_ ?_
  refine Qck ?_
  refine go_ ?_
  refine rS (st' := [.box i0 165 [.d (.sl (l.map encD)), .d (.v (.int .i64 i)), .d (.v (.int .i64 at_)), .d (.v (.int .i64 bad))]]) Tryz.results172 ?_
  exact ⟨by rw [HE.out]; rfl, rfl⟩
theorem fail_p (i0 : Nat) (l : List Tk) (σ : ST) (e a : Int) : PCalls Tryz.prog 175 [.ptr i0 0, .d (.v (.int .i64 e)), .d (.v (.int .i64 a))] (prS i0 l σ) fun p s => p = .tup [] ∧ s = prS i0 l (Qby e a σ) := by
 unfold prS
 obtain ⟨i, at_, bad⟩ := σ
 by_cases h : bad = 0
 ·subst h
  refine pG Tryz.func175 Tryz.ntmps175 ?_
  refine Qaa ?_
  refine Qaa ?_
  refine Jm (st' := prS i0 l ⟨i, a, e⟩) (by simp) (by simp only [Tryz.results175]; rfl) (by simp [resP]; rfl) dR ⟨rfl, rfl⟩
 ·have HF := Hh (show Qby e a ⟨i, at_, bad⟩ = ⟨i, at_, bad⟩ by unfold Qby; rw [if_neg h])
  rw [HF.out]
  clear HF
  refine pG Tryz.func175 Tryz.ntmps175 ?_
  refine Jm (st' := prS i0 l ⟨i, at_, bad⟩) (by simp) (by simp only [Tryz.results175]; rfl) (by simp [resP]; rfl) dR ⟨rfl, rfl⟩
theorem is_p (i0 : Nat) (l : List Tk) (σ : ST) (kk : Int) (k : Nat) (hkk : kk = k) (s : ByteArray) (hl : l.length ≤ 100000) (h0 : 0 < l.length) (hi : σ.i ≤ 200000) (hk : k ≤ 5) : PCalls Tryz.prog 222 [.ptr i0 0, .d (.v (.int .i64 kk)), .d (.v (.string s))] (prS i0 l σ) fun p st => p = .d (.v (.bool (isS l σ k s))) ∧ st = prS i0 l σ := by
 have H0 := Hh (tok_p i0 l σ kk (σ.i + k) (by omega) hl h0 hi (by omega) (by omega))
 have HB := Hh (show isS l σ k s = Qbo (tkg l (σ.i + k)) s from rfl)
 clear hkk
 generalize tkg l (σ.i + k) = t at *
 have HM := Hh (show Qbo t s = ((t.kind == 4 || t.kind == 2) && t.text.toList == s.toList) from rfl)
 simp only [aggD, Qaz, List.map_cons, List.map_nil] at H0
 refine pG Tryz.func222 Tryz.ntmps222 ?_
 refine Rf (H0.out) ?_
 rintro _ _ ⟨rfl, rfl⟩
 refine go_ ?_
 refine Je ?_
 intro i1 hi1
 simp only [prS, Ja, Rh] at hi1
 refine go_ ?_
 refine Qaa ?_
 by_cases h4 : t.kind = 4
 ·refine go_ ?_
  refine rS (st' := prS i0 l σ) Tryz.results222 ?_
  exact ⟨by rw [HB.out, HM.out, h4]; simp [tupP]; rfl, rfl⟩
 ·by_cases h2 : t.kind = 2
  ·refine go_ ?_
   refine rS (st' := prS i0 l σ) Tryz.results222 ?_
   exact ⟨by rw [HB.out, HM.out, h2]; simp [tupP]; rfl, rfl⟩
  ·refine go_ ?_
   refine rS (st' := prS i0 l σ) Tryz.results222 ?_
   exact ⟨by rw [HB.out, HM.out, show (t.kind == 4) = false by simpa using h4, show (t.kind == 2) = false by simpa using h2]; rfl, rfl⟩
theorem Qjn (e a : Int) (σ : ST) (he : e ≠ 0) : ¬ (Qby e a σ).bad = 0 := by
 unfold Qby
 split
 ·exact he
 ·assumption
theorem failS_i (e a : Int) (σ : ST) : (Qby e a σ).i = σ.i := by unfold Qby; split <;> rfl
theorem Qhr (i0 : Nat) (l : List Tk) (σ : ST) (hl : l.length ≤ 100000) (h0 : 0 < l.length) (hi : σ.i ≤ 150000) : PCalls Tryz.prog 172 [.ptr i0 0, .d (.v (.int .i64 0))] (prS i0 l σ) fun p s => p = .agg [.d (.v (.int .i64 (tkg l σ.i).kind)), .d (.v (.string (tkg l σ.i).text)), .d (.v (.int .i64 (tkg l σ.i).at_))] ∧ s = prS i0 l σ :=
 tok_p i0 l σ 0 σ.i (by omega) hl h0 (by omega) (by omega) (by omega)
theorem tok1_p (i0 : Nat) (l : List Tk) (σ : ST) (hl : l.length ≤ 100000) (h0 : 0 < l.length) (hi : σ.i ≤ 150000) : PCalls Tryz.prog 172 [.ptr i0 0, .d (.v (.int .i64 1))] (prS i0 l σ) fun p s => p = .agg [.d (.v (.int .i64 (tkg l (σ.i + 1)).kind)), .d (.v (.string (tkg l (σ.i + 1)).text)), .d (.v (.int .i64 (tkg l (σ.i + 1)).at_))] ∧ s = prS i0 l σ :=
 tok_p i0 l σ 1 (σ.i + 1) (by omega) hl h0 (by omega) (by omega) (by omega)
theorem tokm_p (i0 : Nat) (l : List Tk) (σ : ST) (hl : l.length ≤ 100000) (h0 : 0 < l.length) (hi : σ.i ≤ 150000) : PCalls Tryz.prog 172 [.ptr i0 0, .d (.v (.int .i64 (-1)))] (prS i0 l (incS σ)) fun p s => p = .agg [.d (.v (.int .i64 (tkg l σ.i).kind)), .d (.v (.string (tkg l σ.i).text)), .d (.v (.int .i64 (tkg l σ.i).at_))] ∧ s = prS i0 l (incS σ) :=
 tok_p i0 l (incS σ) (-1) σ.i (by show ((σ.i + 1 : Nat) : Int) + -1 = σ.i; omega) hl h0 (by show σ.i + 1 ≤ _; omega) (by omega) (by omega)
theorem Qew {i : Nat} (h : i ≤ 150000) : IntKind.i64.wrap ((i : Int) + 1) = ((i + 1 : Nat) : Int) := IntWalk.i64_in _ (by omega)
theorem want_p (i0 : Nat) (l : List Tk) (σ : ST) (s : ByteArray) (hl : l.length ≤ 100000) (h0 : 0 < l.length) (hi : σ.i ≤ 150000) : PCalls Tryz.prog 277 [.ptr i0 0, .d (.v (.string s))] (prS i0 l σ) fun p st => p = .tup [] ∧ st = prS i0 l (Qbk l s σ) := by
  have H1 := Hh (is_p i0 l σ 0 0 rfl s hl h0 (by omega) (by decide))
  have H2 := Hh (Qhr i0 l σ hl h0 hi)
  have H3 := Hh (fail_p i0 l σ 1 (tkg l σ.i).at_)
  have HW := Hh (show Qbk l s σ = (if (if isS l σ 0 s then σ else Qby 1 (tkg l σ.i).at_ σ).bad = 0 then incS (if isS l σ 0 s then σ else Qby 1 (tkg l σ.i).at_ σ) else (if isS l σ 0 s then σ else Qby 1 (tkg l σ.i).at_ σ)) from rfl)
  have hin := Qew hi
  refine pG Tryz.func277 Tryz.ntmps277 ?_
  refine Rf (H1.out) ?_
  rintro _ _ ⟨rfl, rfl⟩
  cases hb : isS l σ 0 s with
  | true =>
    rw [hb] at HW
    simp only [if_true] at HW
    clear hb H1 H2 H3
    by_cases hz : σ.bad = 0
    · rw [if_pos hz] at HW
      obtain ⟨i, a, b⟩ := σ
      simp only at hz hi hin
      subst hz
      unfold prS
      simp only
      refine go_ ?_
      refine Qaa ?_
      refine Jm (st' := prS i0 l (incS ⟨i, a, 0⟩)) (by simp) (by simp only [Tryz.results277]; rfl) (by simp [resP]; rfl) dR ⟨rfl, by rw [HW.out]; rfl⟩
    · rw [if_neg hz] at HW
      unfold prS
      refine go_ ?_
      refine Jm (st' := prS i0 l σ) (by simp) (by simp only [Tryz.results277]; rfl) (by simp [resP]; rfl) dR ⟨rfl, by rw [HW.out]; rfl⟩
  | false =>
    rw [hb] at HW
    simp only [Bool.false_eq_true, if_false] at HW
    have hz := Qjn 1 (tkg l σ.i).at_ σ (by decide)
    rw [if_neg hz] at HW
    refine go_ ?_
    refine Rf (H2.out) ?_
    rintro _ _ ⟨rfl, rfl⟩
    refine go_ ?_
    refine Rf (H3.out) ?_
    rintro _ _ ⟨rfl, rfl⟩
    unfold prS
    refine go_ ?_
    refine Jm (st' := prS i0 l (Qby 1 (tkg l σ.i).at_ σ)) (by simp) (by simp only [Tryz.results277]; rfl) (by simp [resP]; rfl) dR ⟨rfl, by rw [HW.out]; rfl⟩
theorem named_p (i0 : Nat) (l : List Tk) (σ : ST) (hl : l.length ≤ 100000) (h0 : 0 < l.length) (hi : σ.i ≤ 150000) : PCalls Tryz.prog 301 [.ptr i0 0, .d (.v (.int .i64 0))] (prS i0 l σ) fun p st => p = .d (.v (.bool (Qfg l σ 0))) ∧ st = prS i0 l σ := by
 have H1 := Hh (Qhr i0 l σ hl h0 hi)
 have HN := Hh (show Qfg l σ 0 = ((tkg l σ.i).kind == 1 && !((tkg l σ.i).text.toList == [95])) from rfl)
 generalize tkg l σ.i = t at *
 refine pG Tryz.func301 Tryz.ntmps301 ?_
 refine Rf (H1.out) ?_
 rintro _ _ ⟨rfl, rfl⟩
 by_cases h1 : t.kind = 1
 ·refine go_ ?_
  refine Rf (H1.out) ?_
  rintro _ _ ⟨rfl, rfl⟩
  refine go_ ?_
  refine rS (st' := prS i0 l σ) Tryz.results301 ?_
  exact ⟨by rw [HN.out, h1]; simp [tupP]; rfl, rfl⟩
 ·refine go_ ?_
  refine rS (st' := prS i0 l σ) Tryz.results301 ?_
  exact ⟨by rw [HN.out, show (t.kind == 1) = false by simpa using h1]; rfl, rfl⟩
theorem name_p (i0 : Nat) (l : List Tk) (σ : ST) (hl : l.length ≤ 100000) (h0 : 0 < l.length) (hi : σ.i ≤ 150000) : PCalls Tryz.prog 299 [.ptr i0 0] (prS i0 l σ) fun p st => p = .d (.v (.string (Qdl l σ).1)) ∧ st = prS i0 l (Qdl l σ).2 := by
  have H1 := Hh (named_p i0 l σ hl h0 hi)
  have H2 := Hh (Qhr i0 l σ hl h0 hi)
  have H3 := Hh (fail_p i0 l σ 1 (tkg l σ.i).at_)
  have H4 := Hh (tokm_p i0 l σ hl h0 hi)
  have HW := Hh (show Qdl l σ = (if (if Qfg l σ 0 then σ else Qby 1 (tkg l σ.i).at_ σ).bad = 0 then ((tkg l (if Qfg l σ 0 then σ else Qby 1 (tkg l σ.i).at_ σ).i).text, incS (if Qfg l σ 0 then σ else Qby 1 (tkg l σ.i).at_ σ)) else (⟨#[]⟩, (if Qfg l σ 0 then σ else Qby 1 (tkg l σ.i).at_ σ))) from rfl)
  have hin := Qew hi
  refine pG Tryz.func299 Tryz.ntmps299 ?_
  refine Rf (H1.out) ?_
  rintro _ _ ⟨rfl, rfl⟩
  cases hb : Qfg l σ 0 with
  | true =>
    rw [hb] at HW
    simp only [if_true] at HW
    clear hb H1 H2 H3
    by_cases hz : σ.bad = 0
    · rw [if_pos hz] at HW
      obtain ⟨i, a, b⟩ := σ
      simp only at hz hi hin
      subst hz
      unfold prS
      simp only
      refine go_ ?_
      refine Qaa ?_
      refine Rf (H4.out) ?_
      rintro _ _ ⟨rfl, rfl⟩
      refine go_ ?_
      refine Jm (st' := prS i0 l (incS ⟨i, a, 0⟩)) (by simp) (by simp only [Tryz.results299]; rfl) (by simp [resP]; rfl) dR ⟨by rw [HW.out]; rfl, by rw [HW.out]; rfl⟩
    · rw [if_neg hz] at HW
      unfold prS
      refine go_ ?_
      refine Jm (st' := prS i0 l σ) (by simp) (by simp only [Tryz.results299]; rfl) (by simp [resP]; rfl) dR ⟨by rw [HW.out]; rfl, by rw [HW.out]; rfl⟩
  | false =>
    rw [hb] at HW
    simp only [Bool.false_eq_true, if_false] at HW
    have hz := Qjn 1 (tkg l σ.i).at_ σ (by decide)
    rw [if_neg hz] at HW
    refine go_ ?_
    refine Rf (H2.out) ?_
    rintro _ _ ⟨rfl, rfl⟩
    refine go_ ?_
    refine Rf (H3.out) ?_
    rintro _ _ ⟨rfl, rfl⟩
    unfold prS
    refine go_ ?_
    refine Jm (st' := prS i0 l (Qby 1 (tkg l σ.i).at_ σ)) (by simp) (by simp only [Tryz.results299]; rfl) (by simp [resP]; rfl) dR ⟨by rw [HW.out]; rfl, by rw [HW.out]; rfl⟩
theorem variable_p (i0 : Nat) (l : List Tk) (σ : ST) (hl : l.length ≤ 100000) (h0 : 0 < l.length) (hi : σ.i ≤ 150000) : PCalls Tryz.prog 278 [.ptr i0 0] (prS i0 l σ) fun p st => p = .d (.v (.string (Qbs l σ).1)) ∧ st = prS i0 l (Qbs l σ).2 := by
 have H2 := Hh (Qhr i0 l σ hl h0 hi)
 have H3 := Hh (name_p i0 l σ hl h0 hi)
 have H4 := Hh (tokm_p i0 l σ hl h0 hi)
 have HW := Hh (show Qbs l σ = (if (tkg l σ.i).kind == 1 && σ.bad == 0 then ((tkg l σ.i).text, incS σ) else Qdl l σ) from rfl)
 have hin := Qew hi
 generalize tkg l σ.i = t at *
 refine pG Tryz.func278 Tryz.ntmps278 ?_
 refine Rf (H2.out) ?_
 rintro _ _ ⟨rfl, rfl⟩
 by_cases h1 : t.kind = 1
 ·by_cases hz : σ.bad = 0
  ·rw [if_pos (by rw [h1, hz]; rfl)] at HW
   obtain ⟨i, a, b⟩ := σ
   simp only at hz hi hin
   subst hz
   unfold prS
   simp only
   refine go_ ?_
   refine Qaa ?_
   refine Rf (H4.out) ?_
   rintro _ _ ⟨rfl, rfl⟩
   refine go_ ?_
   refine Jm (st' := prS i0 l (incS ⟨i, a, 0⟩)) (by simp) (by simp only [Tryz.results278]; rfl) (by simp [resP]; rfl) dR ⟨by rw [HW.out]; rfl, by rw [HW.out]; rfl⟩
  ·rw [if_neg (by simp [hz])] at HW
   unfold prS
   refine go_ ?_
   refine Rf (H3.out) ?_
   rintro _ _ ⟨rfl, rfl⟩
   refine go_ ?_
   refine rS (st' := prS i0 l (Qdl l σ).2) Tryz.results278 ?_
   exact ⟨by rw [HW.out]; rfl, by rw [HW.out]; rfl⟩
 ·rw [if_neg (by simp [h1])] at HW
  refine go_ ?_
  refine Rf (H3.out) ?_
  rintro _ _ ⟨rfl, rfl⟩
  refine go_ ?_
  refine rS (st' := prS i0 l (Qdl l σ).2) Tryz.results278 ?_
  exact ⟨by rw [HW.out]; rfl, by rw [HW.out]⟩
theorem binder_p (i0 : Nat) (l : List Tk) (σ : ST) (hl : l.length ≤ 100000) (h0 : 0 < l.length) (hi : σ.i ≤ 150000) : PCalls Tryz.prog 224 [.ptr i0 0] (prS i0 l σ) fun p st => p = .d (.v (.bool (Qef l σ))) ∧ st = prS i0 l σ := by
  have H1 := Hh (is_p i0 l σ 0 0 rfl sPar hl h0 (by omega) (by decide))
  have H2 := Hh (tok1_p i0 l σ hl h0 hi)
  have H3 := Hh (is_p i0 l σ 2 2 rfl sCol hl h0 (by omega) (by decide))
  have HB := Hh (show Qef l σ = (isS l σ 0 sPar && (tkg l (σ.i + 1)).kind == 1 && isS l σ 2 sCol) from rfl)
  unfold sPar sCol at *
  generalize tkg l (σ.i + 1) = t at *
  refine pG Tryz.func224 Tryz.ntmps224 ?_
  refine Rf (H1.out) ?_
  rintro _ _ ⟨rfl, rfl⟩
  cases h1 : isS l σ 0 ⟨#[40]⟩ with
  | false =>
    refine go_ ?_
    refine rS (st' := prS i0 l σ) Tryz.results224 ?_
    exact ⟨by rw [HB.out, h1]; rfl, rfl⟩
  | true =>
    refine go_ ?_
    refine Rf (H2.out) ?_
    rintro _ _ ⟨rfl, rfl⟩
    by_cases h2 : t.kind = 1
    · refine go_ ?_
      refine Rf (H3.out) ?_
      rintro _ _ ⟨rfl, rfl⟩
      refine go_ ?_
      refine rS (st' := prS i0 l σ) Tryz.results224 ?_
      exact ⟨by rw [HB.out, h1, h2]; simp [tupP]; rfl, rfl⟩
    · refine go_ ?_
      refine rS (st' := prS i0 l σ) Tryz.results224 ?_
      exact ⟨by rw [HB.out, h1, show (t.kind == 1) = false by simpa using h2]; rfl, rfl⟩
theorem begins_p (i0 : Nat) (l : List Tk) (σ : ST) (hl : l.length ≤ 100000) (h0 : 0 < l.length) (hi : σ.i ≤ 150000) : PCalls Tryz.prog 280 [.ptr i0 0] (prS i0 l σ) fun p st => p = .d (.v (.bool (Qgj l σ))) ∧ st = prS i0 l σ := by
  have H1 := Hh (named_p i0 l σ hl h0 hi)
  have H2 := Hh (is_p i0 l σ 0 0 rfl sSet hl h0 (by omega) (by decide))
  have H3 := Hh (is_p i0 l σ 0 0 rfl sPar hl h0 (by omega) (by decide))
  have H4 := Hh (binder_p i0 l σ hl h0 hi)
  have HB := Hh (show Qgj l σ = (Qfg l σ 0 || isS l σ 0 sSet || (isS l σ 0 sPar && !Qef l σ)) from rfl)
  unfold sPar sSet at *
  refine pG Tryz.func280 Tryz.ntmps280 ?_
  refine Rf (H1.out) ?_
  rintro _ _ ⟨rfl, rfl⟩
  cases h1 : Qfg l σ 0 with
  | true =>
    refine go_ ?_
    refine rS (st' := prS i0 l σ) Tryz.results280 ?_
    exact ⟨by rw [HB.out, h1]; rfl, rfl⟩
  | false =>
    refine go_ ?_
    refine Rf (H2.out) ?_
    rintro _ _ ⟨rfl, rfl⟩
    cases h2 : isS l σ 0 ⟨#[83, 101, 116]⟩ with
    | true =>
      refine go_ ?_
      refine rS (st' := prS i0 l σ) Tryz.results280 ?_
      exact ⟨by rw [HB.out, h1, h2]; rfl, rfl⟩
    | false =>
      refine go_ ?_
      refine Rf (H3.out) ?_
      rintro _ _ ⟨rfl, rfl⟩
      cases h3 : isS l σ 0 ⟨#[40]⟩ with
      | false =>
        refine go_ ?_
        refine rS (st' := prS i0 l σ) Tryz.results280 ?_
        exact ⟨by rw [HB.out, h1, h2, h3]; rfl, rfl⟩
      | true =>
        refine go_ ?_
        refine Rf (H4.out) ?_
        rintro _ _ ⟨rfl, rfl⟩
        refine go_ ?_
        refine rS (st' := prS i0 l σ) Tryz.results280 ?_
        exact ⟨by rw [HB.out, h1, h2, h3]; rfl, rfl⟩
theorem set_p (i0 : Nat) (l : List Tk) (σ : ST) (hl : l.length ≤ 100000) (h0 : 0 < l.length) (hi : σ.i ≤ 100000) : PCalls Tryz.prog 300 [.ptr i0 0] (prS i0 l σ) fun p st => p = aggD (setS l σ).1 ∧ st = prS i0 l (setS l σ).2 := by
 have H1 := Hh (Qhr i0 l σ hl h0 (by omega))
 have H2 := Hh (Qhr i0 l (incS σ) hl h0 (by show σ.i + 1 ≤ _; omega))
 have H3 := Hh (fail_p i0 l (incS σ) 1 (tkg l (incS σ).i).at_)
 have HS := Hh (show setS l σ = (if (tkg l (incS σ).i).kind == 3 then
  (.mk 2 (tkg l σ.i).at_ ⟨#[]⟩ (numT (tkg l (incS σ).i).text) [], incS (if 7 < numT (tkg l (incS σ).i).text then Qby 1 (tkg l (incS σ).i).at_ (incS σ) else incS σ))
 else (.mk 2 (tkg l σ.i).at_ ⟨#[]⟩ 0 [], incS σ)) from rfl)
 have hin := Qew (show σ.i ≤ 150000 by omega)
 have hin2 : IntKind.i64.wrap (((incS σ).i : Int) + 1) = (((incS σ).i + 1 : Nat) : Int) := Qew (show σ.i + 1 ≤ 150000 by omega)
 have hii : ((incS σ).i : Int) = (σ.i : Int) + 1 := rfl
 have hfi := failS_i 1 (tkg l (incS σ).i).at_ (incS σ)
 have HFI := Hh hfi
 clear hfi hii
 generalize tkg l (incS σ).i = t at *
 refine pG Tryz.func300 Tryz.ntmps300 ?_
 refine Je ?_
 intro i1 hi1
 simp only [prS, Ja, Rh] at hi1
 refine go_ ?_
 refine Re 1 1 (H1.out) ?_
 rintro _ _ ⟨rfl, rfl⟩
 refine go_ ?_
 refine Je ?_
 intro i2 hi2
 simp only [prS, List.cons_append, List.nil_append, List.append_nil, Ja, Rh] at hi2
 refine go_ ?_
 refine Rd ?_
 unfold prS
 refine go_ ?_
 refine Qaa ?_
 refine Re 2 1 (H2.out) ?_
 rintro _ _ ⟨rfl, rfl⟩
 by_cases h3 : t.kind = 3
 ·rw [if_pos (by rw [h3]; rfl)] at HS
  refine go_ ?_
  refine Re 2 1 (H2.out) ?_
  rintro _ _ ⟨rfl, rfl⟩
  refine go_ ?_
  refine Jc (number_p t.text) ?_
  by_cases h7 : (7 : Int) < numT t.text
  ·rw [if_pos h7] at HS
   have hin3 : IntKind.i64.wrap (((Qby 1 t.at_ (incS σ)).i : Int) + 1) = (((Qby 1 t.at_ (incS σ)).i + 1 : Nat) : Int) := by rw [HFI.out]; exact hin2
   refine go_ ?_
   refine Re 2 1 (H2.out) ?_
   rintro _ _ ⟨rfl, rfl⟩
   refine go_ ?_
   refine Re 2 1 (H3.out) ?_
   rintro _ _ ⟨rfl, rfl⟩
   unfold prS
   refine go_ ?_
   refine Qaa ?_
   refine Qaa ?_
   refine Qaa ?_
   refine rS (st' := prS i0 l (incS (Qby 1 t.at_ (incS σ)))) Tryz.results300 ?_
   exact ⟨by rw [HS.out]; simp [aggD, Jh]; rfl, by rw [HS.out]; rfl⟩
  ·rw [if_neg h7] at HS
   unfold prS
   refine go_ ?_
   refine Qaa ?_
   refine Qaa ?_
   refine Qaa ?_
   refine rS (st' := prS i0 l (incS (incS σ))) Tryz.results300 ?_
   exact ⟨by rw [HS.out]; simp [aggD, Jh]; rfl, by rw [HS.out]; rfl⟩
 ·rw [if_neg (by simp [h3])] at HS
  refine go_ ?_
  refine Qaa ?_
  refine rS (st' := prS i0 l (incS σ)) Tryz.results300 ?_
  exact ⟨by rw [HS.out]; simp [aggD, Jh]; rfl, by rw [HS.out]; rfl⟩
theorem tk_lt {l : List Tk} (hl : TkOk l) {j : Nat} (h : (tkg l j).kind ≠ 5) : j + 1 < l.length := by
 rcases Nat.lt_or_ge (j + 1) l.length with h1 | h1
 ·exact h1
 ·exfalso
  apply h
  have hp := hl.pos
  rcases Nat.lt_or_ge j l.length with h2 | h2
  ·rw [show j = l.length - 1 by omega]; exact hl.last
  ·have := hl.last
   rw [Qlc (by omega)] at this
   rw [tkg_ge h2 hp]; exact this
theorem Qgz {t : Tk} {s : ByteArray} (h : Qbo t s = true) : t.kind ≠ 5 := by
 unfold Qbo at h
 simp only [Bool.and_eq_true, Bool.or_eq_true, beq_iff_eq] at h
 rcases h.1 with h | h <;> rw [h] <;> decide
theorem named_k {t : Tk} (h : Qfp t = true) : t.kind ≠ 5 := by
 unfold Qfp at h
 simp only [Bool.and_eq_true, beq_iff_eq] at h
 rw [h.1]; decide
def Adv (l : List Tk) (σ τ : ST) : Prop := Wf l τ ∧ (τ.bad = 0 → σ.bad = 0 ∧ σ.i ≤ τ.i)
def AdvS (l : List Tk) (σ τ : ST) : Prop := Wf l τ ∧ (τ.bad = 0 → σ.bad = 0 ∧ σ.i + 1 ≤ τ.i)
theorem AdvS.adv {l : List Tk} {σ τ : ST} (h : AdvS l σ τ) : Adv l σ τ := ⟨h.1, fun hb => ⟨(h.2 hb).1, by have := (h.2 hb).2; omega⟩⟩
theorem Adv.refl {l : List Tk} {σ : ST} (h : Wf l σ) : Adv l σ σ := ⟨h, fun hb => ⟨hb, Nat.le_refl _⟩⟩
theorem Adv.trans {l : List Tk} {σ τ ρ : ST} (h1 : Adv l σ τ) (h2 : Adv l τ ρ) : Adv l σ ρ := ⟨h2.1, fun hb => by
 obtain ⟨a, b⟩ := h2.2 hb
 obtain ⟨c, d⟩ := h1.2 a
 exact ⟨c, by omega⟩⟩
theorem AdvS.trans {l : List Tk} {σ τ ρ : ST} (h1 : AdvS l σ τ) (h2 : Adv l τ ρ) : AdvS l σ ρ := ⟨h2.1, fun hb => by
 obtain ⟨a, b⟩ := h2.2 hb
 obtain ⟨c, d⟩ := h1.2 a
 exact ⟨c, by omega⟩⟩
theorem Adv.transS {l : List Tk} {σ τ ρ : ST} (h1 : Adv l σ τ) (h2 : AdvS l τ ρ) : AdvS l σ ρ := ⟨h2.1, fun hb => by
 obtain ⟨a, b⟩ := h2.2 hb
 obtain ⟨c, d⟩ := h1.2 a
 exact ⟨c, by omega⟩⟩
section
variable {l : List Tk} (hl : TkOk l)
include hl
theorem Qei {σ : ST} (h : (tkg l σ.i).kind ≠ 5) : AdvS l σ (incS σ) := ⟨tk_lt hl h, fun hb => ⟨hb, Nat.le_refl _⟩⟩
theorem Qmd {σ : ST} (e a : Int) (he : e ≠ 0) (h : Wf l σ) : AdvS l σ (Qby e a σ) := by
 have _ := hl
 refine ⟨?_, fun hb => absurd hb (Qjn e a σ he)⟩
 unfold Wf; rw [failS_i]; exact h
theorem Qgf {σ : ST} (s : ByteArray) (h : Wf l σ) : AdvS l σ (Qbk l s σ) := by
  unfold Qbk
  cases hb : isS l σ 0 s with
  | true =>
    simp only [if_true]
    split
    · exact Qei hl (Qgz hb)
    · rename_i hz
      exact ⟨h, fun hb => absurd hb hz⟩
  | false =>
    simp only [Bool.false_eq_true, if_false]
    rw [if_neg (Qjn _ _ _ (by decide))]
    exact Qmd hl _ _ (by decide) h
theorem name_adv {σ : ST} (h : Wf l σ) : AdvS l σ (Qdl l σ).2 := by
  unfold Qdl
  cases hb : Qfg l σ 0 with
  | true =>
    simp only [if_true]
    split
    · exact Qei hl (named_k hb)
    · rename_i hz
      exact ⟨h, fun hb => absurd hb hz⟩
  | false =>
    simp only [Bool.false_eq_true, if_false]
    rw [if_neg (Qjn _ _ _ (by decide))]
    exact Qmd hl _ _ (by decide) h
theorem Qnq {σ : ST} (h : Wf l σ) : AdvS l σ (Qbs l σ).2 := by
 unfold Qbs
 split
 ·rename_i hk
  simp only [Bool.and_eq_true, beq_iff_eq] at hk
  exact Qei hl (by rw [hk.1]; decide)
 ·exact name_adv hl h
theorem set_adv {σ : ST} (h : isS l σ 0 sSet = true) : AdvS l σ (setS l σ).2 := by
 have h1 := Qei hl (Qgz h)
 unfold setS
 simp only
 split
 ·rename_i hk
  have hk : (tkg l (incS σ).i).kind = 3 := by simpa using hk
  split
  ·have h2 := h1.trans (Qmd hl 1 (tkg l (incS σ).i).at_ (by decide) h1.1).adv
   refine h2.trans (Qei hl ?_).adv
   rw [failS_i, hk]; decide
  ·exact h1.trans (Qei hl (by rw [hk]; decide)).adv
 ·exact h1
theorem Qet : ∀ (n : Nat),
    (∀ k a σ, Wf l σ → Adv l σ (Qdp l n k a σ).2) ∧ (∀ σ, Wf l σ → Adv l σ (Qav l n σ).2) ∧ (∀ σ, Wf l σ → Adv l σ (Qcs l n σ).2 ∧ (0 < n → AdvS l σ (Qcs l n σ).2)) ∧ (∀ σ, Wf l σ → Adv l σ (appS l n σ).2) ∧ (∀ g σ, Wf l σ → Adv l σ (appL l n g σ).2) := by
  intro n
  induction n with
  | zero => exact ⟨fun _ _ _ h => Adv.refl h, fun _ h => Adv.refl h, fun _ h => ⟨Adv.refl h, fun h => absurd h (Nat.lt_irrefl 0)⟩, fun _ h => Adv.refl h, fun _ _ h => Adv.refl h⟩
  | succ n ih =>
    obtain ⟨i1, i2, i3, i4, i5⟩ := ih
    refine ⟨fun k a σ h => ?_, fun σ h => ?_, fun σ h => ?_, fun σ h => ?_, fun g σ h => ?_⟩
    · simp only [Qdp]
      have h1 := Qgf hl sPar h
      have h2 := h1.trans (Qnq hl h1.1).adv
      have h3 := h2.trans (Qgf hl sCol h2.1).adv
      have h4 := h3.trans (i2 _ h3.1)
      have h5 := h4.trans (Qgf hl sRap h4.1).adv
      have h6 := h5.trans (Qgf hl sArr h5.1).adv
      exact (h6.trans (i2 _ h6.1)).adv
    · simp only [Qav]
      split
      · exact Adv.refl h
      · split
        · rename_i hi
          have h1 := Qei hl (Qgz hi)
          exact (h1.trans (i1 _ _ _ h1.1)).adv
        · split
          · exact i1 _ _ _ h
          · have h1 := i4 σ h
            split
            · rename_i hi
              have h2 := h1.transS (Qei hl (Qgz hi.2))
              exact (h2.trans (i2 _ h2.1)).adv
            · exact h1
    · have : AdvS l σ (Qcs l (n + 1) σ).2 := by
        simp only [Qcs]
        split
        · rename_i hb
          exact ⟨h, fun hb' => absurd hb' hb⟩
        · split
          · rename_i hs; exact set_adv hl hs
          · split
            · rename_i hi
              have h1 := Qei hl (Qgz hi)
              have h2 := h1.trans (i2 _ h1.1)
              exact h2.trans (Qgf hl sRap h2.1).adv
            · exact name_adv hl h
      exact ⟨this.adv, fun _ => this⟩
    · simp only [appS]
      have h1 := (i3 σ h).1
      exact h1.trans (i5 _ _ h1.1)
    · simp only [appL]
      split
      · have h1 := (i3 σ h).1
        exact h1.trans (i5 _ _ h1.1)
      · exact Adv.refl h
end
theorem agg_mk (k a n : Int) (s : ByteArray) (sub : List Nd) : aggD (Nd.mk k a s n sub) = .agg [.d (.v (.int .i64 k)), .d (.v (.int .i64 a)), .d (.v (.string s)), .d (.v (.int .i64 n)), .d (.sl (sub.map encD))] := by
 simp only [aggD, Jh, List.map_cons, List.map_nil, Nd.kind, Nd.at, Nd.name, Nd.num, Nd.sub]
def TermC (l : List Tk) (n : Nat) (σ : ST) : Prop := ∀ i0, PCalls Tryz.prog 174 [.ptr i0 0] (prS i0 l σ) fun p s => p = aggD (Qav l n σ).1 ∧ s = prS i0 l (Qav l n σ).2
def TypedC (l : List Tk) (n : Nat) (k a : Int) (σ : ST) : Prop := ∀ i0, PCalls Tryz.prog 223 [.ptr i0 0, .d (.v (.int .i64 k)), .d (.v (.int .i64 a))] (prS i0 l σ) fun p s => p = aggD (Qdp l n k a σ).1 ∧ s = prS i0 l (Qdp l n k a σ).2
def AtomC (l : List Tk) (n : Nat) (σ : ST) : Prop := ∀ i0, PCalls Tryz.prog 279 [.ptr i0 0] (prS i0 l σ) fun p s => p = aggD (Qcs l n σ).1 ∧ s = prS i0 l (Qcs l n σ).2
def AppC (l : List Tk) (n : Nat) (σ : ST) : Prop := ∀ i0, PCalls Tryz.prog 225 [.ptr i0 0] (prS i0 l σ) fun p s => p = aggD (appS l n σ).1 ∧ s = prS i0 l (appS l n σ).2
def Fu (l : List Tk) (n c : Nat) (σ : ST) : Prop := 0 < n ∧ (σ.bad = 0 → 6 * (l.length - σ.i) + c ≤ n)
theorem Fu.next {l : List Tk} {n c d : Nat} {σ τ : ST} (h : Fu l (n + 1) c σ) (hw : Wf l σ) (ha : AdvS l σ τ) (hn : 0 < n) (hc : d ≤ c + 5) : Fu l n d τ := ⟨hn, fun hb => by
 obtain ⟨h1, h2⟩ := ha.2 hb
 have h3 := h.2 h1
 have := ha.1
 unfold Wf at hw this
 omega⟩
theorem Fu.same {l : List Tk} {n c d : Nat} {σ τ : ST} (h : Fu l (n + 1) c σ) (hw : Wf l σ) (ha : Adv l σ τ) (hn : 0 < n) (hc : d + 1 ≤ c) : Fu l n d τ := ⟨hn, fun hb => by
 obtain ⟨h1, h2⟩ := ha.2 hb
 have h3 := h.2 h1
 have := ha.1
 unfold Wf at hw this
 omega⟩
theorem Wf.le {l : List Tk} (hl : TkOk l) {σ : ST} (h : Wf l σ) : σ.i ≤ 100000 := by
 have := hl.len
 unfold Wf at h; omega
theorem typed_w {l : List Tk} (hl : TkOk l) (n : Nat) (hn : 0 < n) (IH : ∀ σ, Wf l σ → Fu l n 6 σ → TermC l n σ) (k a : Int) (σ : ST) (hw : Wf l σ) (hf : Fu l (n + 1) 4 σ) : TypedC l (n + 1) k a σ := by
 intro i0
 have h1 := Qgf hl sPar hw
 have h2 := h1.trans (Qnq hl h1.1).adv
 have h3 := h2.trans (Qgf hl sCol h2.1).adv
 have h4 := h3.trans ((Qet hl n).2.1 _ h3.1)
 have h5 := h4.trans (Qgf hl sRap h4.1).adv
 have h6 := h5.trans (Qgf hl sArr h5.1).adv
 have c1 := want_p i0 l σ sPar hl.len hl.pos (Nat.le_trans (hw.le hl) (by decide))
 have c2 := variable_p i0 l _ hl.len hl.pos (Nat.le_trans (h1.1.le hl) (by decide))
 have c3 := want_p i0 l _ sCol hl.len hl.pos (Nat.le_trans (h2.1.le hl) (by decide))
 have c4 := IH _ h3.1 (hf.next hw h3 hn (by omega)) i0
 have c5 := want_p i0 l _ sRap hl.len hl.pos (Nat.le_trans (h4.1.le hl) (by decide))
 have c6 := want_p i0 l _ sArr hl.len hl.pos (Nat.le_trans (h5.1.le hl) (by decide))
 have c7 := IH _ h6.1 (hf.next hw h6 hn (by omega)) i0
 have HT := Hh (show Qdp l (n + 1) k a σ = (.mk k a (Qbs l (Qbk l sPar σ)).1 0 [(Qav l n (Qbk l sCol (Qbs l (Qbk l sPar σ)).2)).1, (Qav l n (Qbk l sArr (Qbk l sRap (Qav l n (Qbk l sCol (Qbs l (Qbk l sPar σ)).2)).2))).1], (Qav l n (Qbk l sArr (Qbk l sRap (Qav l n (Qbk l sCol (Qbs l (Qbk l sPar σ)).2)).2))).2) from rfl)
 clear h1 h2 h3 h4 h5 h6 hf hw IH
 generalize Qbk l sPar σ = σ1 at *
 generalize (Qbs l σ1).1 = x at *
 generalize (Qbs l σ1).2 = σ2 at *
 generalize Qbk l sCol σ2 = σ3 at *
 generalize (Qav l n σ3).1 = A at *
 generalize (Qav l n σ3).2 = σ4 at *
 generalize Qbk l sRap σ4 = σ5 at *
 generalize Qbk l sArr σ5 = σ6 at *
 generalize (Qav l n σ6).1 = B at *
 generalize (Qav l n σ6).2 = σ7 at *
 simp only [aggD, Jh, List.map_cons, List.map_nil] at c4 c7
 unfold sPar at c1
 unfold sCol at c3
 unfold sRap at c5
 unfold sArr at c6
 have C1 := Hh c1
 have C2 := Hh c2
 have C3 := Hh c3
 have C4 := Hh c4
 have C5 := Hh c5
 have C6 := Hh c6
 have C7 := Hh c7
 clear c1 c2 c3 c4 c5 c6 c7
 rw [HT.out]
 clear HT
 refine pG Tryz.func223 Tryz.ntmps223 ?_
 refine Je ?_
 intro i1 hi1
 simp only [prS, Ja, Rh] at hi1
 refine go_ ?_
 refine Je ?_
 intro i2 hi2
 simp only [prS, Ja, Rh] at hi2
 refine go_ ?_
 refine Qaa ?_
 refine Re 2 1 (C1.out) ?_
 rintro _ _ ⟨rfl, rfl⟩
 refine go_ ?_
 refine Re 2 1 (C2.out) ?_
 rintro _ _ ⟨rfl, rfl⟩
 refine go_ ?_
 refine Qaa ?_
 refine Re 2 1 (C3.out) ?_
 rintro _ _ ⟨rfl, rfl⟩
 refine go_ ?_
 refine Re 2 1 (C4.out) ?_
 rintro _ _ ⟨rfl, rfl⟩
 refine go_ ?_
 refine Je ?_
 intro i3 hi3
 simp only [prS, List.cons_append, List.nil_append, List.append_nil, Ja, Rh] at hi3
 refine go_ ?_
 refine Qaa ?_
 refine Re 3 1 (C5.out) ?_
 rintro _ _ ⟨rfl, rfl⟩
 refine go_ ?_
 refine Re 3 1 (C6.out) ?_
 rintro _ _ ⟨rfl, rfl⟩
 refine go_ ?_
 refine Qfu (J := Qcm [(i3, _)]) [(0, .a), (1, .a), (2, .e), (3, .a), (4, .a), (5, .e)] (by kernel_rfl) (by rfl) (by kernel_rfl) (by (repeat (first | exact Qat _ | refine Ju (by simp [St.box?, *] <;> rfl) ?_))) ?_
 refine lG ?_
 refine Qlw 3 1 (C7.out) ?_
 rintro _ _ ⟨rfl, rfl⟩
 refine ⟨.inr (by (repeat (first | exact Qat _ | refine Ju (by simp [St.box?, *] <;> rfl) ?_))), ?_⟩
 refine lG ?_
 refine PL_bs ?_ rfl (by decide) rfl (by simp; rfl) (by rfl) (by simp; rfl) (by rfl) (by decide) (by decide) eQ (by simp [Qde, toDs, PV.toD]; rfl)
 refine lG ?_
 refine PLs ?_
 refine lG ?_
 refine go_ ?_
 refine Qaa ?_
 refine rS (st' := prS i0 l σ7) Tryz.results223 ?_
 exact ⟨by rw [agg_mk]; simp only [List.map_cons, List.map_nil, Jh]; rfl, rfl⟩
theorem atom_w {l : List Tk} (hl : TkOk l) (n : Nat) (IH : ∀ σ, Wf l σ → Fu l n 6 σ → 0 < n → TermC l n σ) (σ : ST) (hw : Wf l σ) (hf : Fu l (n + 1) 3 σ) : AtomC l (n + 1) σ := by
  intro i0
  have b1 : σ.i ≤ 150000 := Nat.le_trans (hw.le hl) (by decide)
  have c1 := Hh (is_p i0 l σ 0 0 rfl sSet hl.len hl.pos (by omega) (by decide))
  have c2 := Hh (set_p i0 l σ hl.len hl.pos (hw.le hl))
  have c3 := Hh (is_p i0 l σ 0 0 rfl sPar hl.len hl.pos (by omega) (by decide))
  have c4 := Hh (Qhr i0 l σ hl.len hl.pos b1)
  have c5 := Hh (name_p i0 l σ hl.len hl.pos b1)
  have HT := Hh (show Qcs l (n + 1) σ = (if σ.bad ≠ 0 then (zNd, σ) else if isS l σ 0 sSet then setS l σ else if isS l σ 0 sPar then ((Qav l n (incS σ)).1, Qbk l sRap (Qav l n (incS σ)).2) else (.mk 1 (tkg l σ.i).at_ (Qdl l σ).1 0 [], (Qdl l σ).2)) from by simp only [Qcs])
  have hin := Qew b1
  unfold sSet at c1
  unfold sPar at c3
  by_cases hz : σ.bad = 0
  rotate_left
  · rw [if_pos hz] at HT
    rw [HT.out]
    unfold prS
    refine pG Tryz.func279 Tryz.ntmps279 ?_
    refine Je ?_
    intro i1 hi1
    simp only [prS, List.cons_append, List.nil_append, List.append_nil, List.drop_succ_cons, List.drop_zero, List.drop_nil, Ja, Rh, Rg, Jb] at hi1
    refine go_ ?_
    refine Qaa ?_
    refine rS (st' := prS i0 l σ) Tryz.results279 ?_
    exact ⟨by unfold zNd; rw [agg_mk]; rfl, rfl⟩
  rw [if_neg (by simp [hz])] at HT
  cases hs : isS l σ 0 sSet with
  | true =>
    rw [hs, if_pos rfl] at HT
    unfold sSet at hs
    rw [HT.out]
    generalize (setS l σ).1 = A at *
    generalize (setS l σ).2 = σ1 at *
    simp only [aggD, Jh, List.map_cons, List.map_nil] at c2 ⊢
    unfold prS at *
    refine pG Tryz.func279 Tryz.ntmps279 ?_
    refine Je ?_
    intro i1 hi1
    simp only [prS, List.cons_append, List.nil_append, List.append_nil, List.drop_succ_cons, List.drop_zero, List.drop_nil, Ja, Rh, Rg, Jb] at hi1
    refine go_ ?_
    refine Re 1 1 (c1.out) ?_
    rintro _ _ ⟨rfl, rfl⟩
    refine go_ ?_
    refine Re 1 1 (c2.out) ?_
    rintro _ _ ⟨rfl, rfl⟩
    refine go_ ?_
    refine Qaa ?_
    refine rS (st' := prS i0 l σ1) Tryz.results279 ?_
    exact ⟨rfl, rfl⟩
  | false =>
    rw [hs, if_neg (by decide)] at HT
    unfold sSet at hs
    cases hp : isS l σ 0 sPar with
    | true =>
      rw [hp, if_pos rfl] at HT
      have h1 := Qei hl (Qgz hp)
      unfold sPar at hp
      rw [HT.out]
      have hn : 0 < n := by
        have := hf.2 hz
        unfold Wf at hw; omega
      have c6 := IH _ h1.1 (hf.next hw h1 hn (by omega)) hn i0
      have c7 := want_p i0 l _ sRap hl.len hl.pos (Nat.le_trans (((Qet hl n).2.1 _ h1.1).1.le hl) (by decide))
      obtain ⟨i, a, b⟩ := σ
      simp only at hz hin b1
      subst hz
      clear HT hf IH c2 c4 c5
      generalize (Qav l n (incS ⟨i, a, 0⟩)).1 = A at *
      generalize (Qav l n (incS ⟨i, a, 0⟩)).2 = σ1 at *
      generalize Qbk l sRap σ1 = σ2 at *
      simp only [aggD, Jh, List.map_cons, List.map_nil] at c6 ⊢
      unfold sRap at c7
      have C6 := Hh c6
      have C7 := Hh c7
      clear c6 c7
      refine pG Tryz.func279 Tryz.ntmps279 ?_
      refine Je ?_
      intro i1 hi1
      simp only [prS, List.cons_append, List.nil_append, List.append_nil, List.drop_succ_cons, List.drop_zero, List.drop_nil, Ja, Rh, Rg, Jb] at hi1
      unfold prS
      refine go_ ?_
      refine Re 1 1 (c1.out) ?_
      rintro _ _ ⟨rfl, rfl⟩
      refine go_ ?_
      refine Re 1 1 (c3.out) ?_
      rintro _ _ ⟨rfl, rfl⟩
      unfold prS
      refine go_ ?_
      refine Qaa ?_
      refine Re 1 1 (C6.out) ?_
      rintro _ _ ⟨rfl, rfl⟩
      refine go_ ?_
      refine Je ?_
      intro i2 hi2
      simp only [prS, List.cons_append, List.nil_append, List.append_nil, List.drop_succ_cons, List.drop_zero, List.drop_nil, Ja, Rh, Rg, Jb] at hi2
      refine go_ ?_
      refine Qaa ?_
      refine Re 2 1 (C7.out) ?_
      rintro _ _ ⟨rfl, rfl⟩
      refine go_ ?_
      refine Qaa ?_
      refine rS (st' := prS i0 l σ2) Tryz.results279 ?_
      exact ⟨rfl, rfl⟩
    | false =>
      rw [hp, if_neg (by decide)] at HT
      unfold sPar at hp
      rw [HT.out]
      obtain ⟨i, a, b⟩ := σ
      simp only at hz hin b1
      subst hz
      clear HT hf IH c2 hin
      generalize (Qdl l ⟨i, a, 0⟩).1 = x at *
      generalize (Qdl l ⟨i, a, 0⟩).2 = σ1 at *
      refine pG Tryz.func279 Tryz.ntmps279 ?_
      refine Je ?_
      intro i1 hi1
      simp only [prS, List.cons_append, List.nil_append, List.append_nil, List.drop_succ_cons, List.drop_zero, List.drop_nil, Ja, Rh, Rg, Jb] at hi1
      unfold prS
      refine go_ ?_
      refine Re 1 1 (c1.out) ?_
      rintro _ _ ⟨rfl, rfl⟩
      refine go_ ?_
      refine Re 1 1 (c3.out) ?_
      rintro _ _ ⟨rfl, rfl⟩
      refine go_ ?_
      refine Re 1 1 (c4.out) ?_
      rintro _ _ ⟨rfl, rfl⟩
      refine go_ ?_
      refine Re 1 1 (c5.out) ?_
      rintro _ _ ⟨rfl, rfl⟩
      refine go_ ?_
      refine Qaa ?_
      refine rS (st' := prS i0 l σ1) Tryz.results279 ?_
      exact ⟨by rw [agg_mk]; rfl, rfl⟩
theorem app_w {l : List Tk} (hl : TkOk l) (n : Nat) (IA : ∀ m, m ≤ n → ∀ σ, Wf l σ → Fu l m 3 σ → AtomC l m σ) (σ : ST) (hw : Wf l σ) (hb : σ.bad = 0) (hf : Fu l (n + 1) 5 σ) : AppC l (n + 1) σ := by
  intro i0
  have hn : 0 < n := by
    have := hf.2 hb
    unfold Wf at hw; omega
  have hA := ((Qet hl n).2.2.1 σ hw).2 hn
  have c1 := IA n (Nat.le_refl _) σ hw (hf.same hw (Adv.refl hw) hn (by omega)) i0
  have HT := Hh (show appS l (n + 1) σ = appL l n (Qcs l n σ).1 (Qcs l n σ).2 from by simp only [appS])
  have HF := Hh (hf.next hw hA hn (d := 5) (by omega))
  have HA := Hh hA.1
  rw [HT.out]
  clear HT hA hf hb hw
  generalize (Qcs l n σ).1 = G at *
  generalize (Qcs l n σ).2 = σ1 at *
  have HG : ∃ r, r = appL l n G σ1 := ⟨_, rfl⟩
  obtain ⟨r, hr⟩ := HG
  have HR := Hh hr.symm
  rw [← hr]
  clear hr
  simp only [aggD, Jh, List.map_cons, List.map_nil] at c1 ⊢
  have C1 := Hh c1
  clear c1
  refine pG Tryz.func225 Tryz.ntmps225 ?_
  refine Je ?_
  intro i1 hi1
  simp only [prS, List.cons_append, List.nil_append, List.append_nil, List.drop_succ_cons, List.drop_zero, List.drop_nil, Ja, Rh, Rg, Jb] at hi1
  refine go_ ?_
  refine Re 1 1 (C1.out) ?_
  rintro _ _ ⟨rfl, rfl⟩
  refine go_ ?_
  refine Je ?_
  intro i2 hi2
  simp only [prS, List.cons_append, List.nil_append, List.append_nil, List.drop_succ_cons, List.drop_zero, List.drop_nil, Ja, Rh, Rg, Jb] at hi2
  refine go_ ?_
  refine Qaa ?_
  refine Qai (ι := Nat × Nd × ST) (fun x => x.1 ≤ n ∧ Wf l x.2.2 ∧ Fu l x.1 5 x.2.2 ∧ appL l x.1 x.2.1 x.2.2 = r) (fun x => [(0, .ptr i0 0), (2, .ptr i1 0), (3, .ptr i2 0)])
    (fun x => .box i2 68 [.d (.v (.int .i64 x.2.1.kind)), .d (.v (.int .i64 x.2.1.at)), .d (.v (.string x.2.1.name)), .d (.v (.int .i64 x.2.1.num)), .d (.sl (x.2.1.sub.map encD))] :: .box i1 68 [.d (.v (.int .i64 0)), .d (.v (.int .i64 0)), .d (.v (.string ByteArray.empty)), .d (.v (.int .i64 0)), .nils] :: prS i0 l x.2.2)
    (fun x => x.1) (n, G, σ1) ⟨Nat.le_refl _, HA.out, HF.out, HR.out⟩ ?_ ?_ ?_
  · exact sU
  · exact dR
  · rintro ⟨m, g, τ⟩ ⟨hm, hw, hf, hr⟩
    simp only at hm hw hf hr ⊢
    have b1 : τ.i ≤ 150000 := Nat.le_trans (hw.le hl) (by decide)
    obtain ⟨m, rfl⟩ : ∃ q, m = q + 1 := ⟨m - 1, by have := hf.1; omega⟩
    simp only [appL] at hr
    have B0 := Hh (begins_p i0 l τ hl.len hl.pos b1)
    by_cases hz : τ.bad = 0
    · cases hbg : Qgj l τ with
      | true =>
        rw [if_pos ⟨hz, hbg⟩] at hr
        have hm0 : 0 < m := by
          have := hf.2 hz
          unfold Wf at hw; omega
        have hA := ((Qet hl m).2.2.1 τ hw).2 hm0
        have c2 := IA m (by omega) τ hw (hf.same hw (Adv.refl hw) hm0 (by omega)) i0
        have HF2 := Hh (hf.next hw hA hm0 (d := 5) (by omega))
        have HA2 := Hh hA.1
        have HR2 := Hh hr
        clear hr hf hA hw
        generalize (Qcs l m τ).1 = X at *
        generalize (Qcs l m τ).2 = τ2 at *
        simp only [aggD, Jh, List.map_cons, List.map_nil] at c2
        have C2 := Hh c2
        clear c2
        unfold prS
        refine go_ ?_
        refine Re 2 1 (B0.out) ?_
        rintro _ _ ⟨rfl, rfl⟩
        refine go_ ?_
        refine Qfu (J := Qcm [(i2, _)]) [(0, .a), (1, .a), (2, .a), (3, .a), (4, .e), (5, .a), (6, .a), (7, .e)] (by kernel_rfl) (by rfl) (by kernel_rfl) (by (repeat (first | exact Qat _ | refine Ju (by simp [St.box?, *] <;> rfl) ?_))) ?_
        refine lG ?_
        refine Qlw 2 1 (C2.out) ?_
        rintro _ _ ⟨rfl, rfl⟩
        refine ⟨.inr (by (repeat (first | exact Qat _ | refine Ju (by simp [St.box?, *] <;> rfl) ?_))), ?_⟩
        refine lG ?_
        refine PL_bs ?_ rfl (by decide) rfl (by simp; rfl) (by rfl) (by simp; rfl) (by rfl) (by decide) (by decide) eQ (by simp [Qde, toDs, PV.toD]; rfl)
        refine lG ?_
        refine PLs ?_
        refine lG ?_
        refine go_ ?_
        refine ⟨(m, Nd.mk 5 g.at ⟨#[]⟩ 0 [g, X], τ2), ⟨by omega, HA2.out, HF2.out, HR2.out⟩, by simp only; omega, ?_, ?_⟩
        · exact sU
        · simp only [List.map_cons, List.map_nil, Jh, Nd.kind, Nd.at, Nd.name, Nd.num, Nd.sub]
          exact dR
      | false =>
        rw [if_neg (by rw [hbg]; simp)] at hr
        have HR2 := Hh hr
        clear hr hf
        unfold prS
        refine go_ ?_
        refine Re 2 1 (B0.out) ?_
        rintro _ _ ⟨rfl, rfl⟩
        refine go_ ?_
        refine Qaa ?_
        refine rS (st' := prS i0 l τ) Tryz.results225 ?_
        exact ⟨by rw [← HR2.out]; rfl, by rw [← HR2.out]; rfl⟩
    · rw [if_neg (by simp [hz])] at hr
      have HR2 := Hh hr
      clear hr hf
      unfold prS
      refine go_ ?_
      refine Qaa ?_
      refine rS (st' := prS i0 l τ) Tryz.results225 ?_
      exact ⟨by rw [← HR2.out]; rfl, by rw [← HR2.out]; rfl⟩
theorem term_w {l : List Tk} (hl : TkOk l) (n : Nat) (IT : ∀ k a σ, Wf l σ → Fu l n 4 σ → σ.bad = 0 → TypedC l n k a σ) (IP : ∀ σ, Wf l σ → σ.bad = 0 → Fu l n 5 σ → AppC l n σ) (IH : ∀ σ, Wf l σ → Fu l n 6 σ → TermC l n σ) (σ : ST) (hw : Wf l σ) (hf : Fu l (n + 1) 6 σ) : TermC l (n + 1) σ := by
  intro i0
  have b1 : σ.i ≤ 150000 := Nat.le_trans (hw.le hl) (by decide)
  have c0 := Hh (Qhr i0 l σ hl.len hl.pos b1)
  have c1 := Hh (is_p i0 l σ 0 0 rfl sLam hl.len hl.pos (by omega) (by decide))
  have c2 := Hh (binder_p i0 l σ hl.len hl.pos b1)
  have HT := Hh (show Qav l (n + 1) σ = (if σ.bad ≠ 0 then (zNd, σ) else if isS l σ 0 sLam then Qdp l n 4 (tkg l σ.i).at_ (incS σ) else if Qef l σ then Qdp l n 3 (tkg l σ.i).at_ σ else
      (if (appS l n σ).2.bad = 0 ∧ isS l (appS l n σ).2 0 sArr then (.mk 3 (appS l n σ).1.at ⟨#[95]⟩ 0 [(appS l n σ).1, (Qav l n (incS (appS l n σ).2)).1], (Qav l n (incS (appS l n σ).2)).2) else appS l n σ)) from by simp only [Qav])
  have hin := Qew b1
  unfold sLam at c1
  by_cases hz : σ.bad = 0
  rotate_left
  · rw [if_pos hz] at HT
    rw [HT.out]
    refine pG Tryz.func174 Tryz.ntmps174 ?_
    refine Je ?_
    intro i1 hi1
    simp only [prS, List.cons_append, List.nil_append, List.append_nil, List.drop_succ_cons, List.drop_zero, List.drop_nil, Ja, Rh, Rg, Jb] at hi1
    refine go_ ?_
    refine Re 1 1 (c0.out) ?_
    rintro _ _ ⟨rfl, rfl⟩
    unfold prS
    refine go_ ?_
    refine Qaa ?_
    refine rS (st' := prS i0 l σ) Tryz.results174 ?_
    exact ⟨by unfold zNd; rw [agg_mk]; rfl, rfl⟩
  rw [if_neg (by simp [hz])] at HT
  have hn : 0 < n := by
    have := hf.2 hz
    unfold Wf at hw; omega
  generalize (tkg l σ.i).at_ = at0 at *
  cases hs : isS l σ 0 sLam with
  | true =>
    rw [hs, if_pos rfl] at HT
    have h1 := Qei hl (Qgz hs)
    unfold sLam at hs
    rw [HT.out]
    have c3 := IT 4 at0 _ h1.1 (hf.next hw h1 hn (by omega)) hz i0
    clear HT hf IT IP IH c2 h1
    obtain ⟨i, a, b⟩ := σ
    simp only at hz hin b1
    subst hz
    generalize (Qdp l n 4 at0 (incS ⟨i, a, 0⟩)).1 = A at *
    generalize (Qdp l n 4 at0 (incS ⟨i, a, 0⟩)).2 = σ1 at *
    simp only [aggD, Jh, List.map_cons, List.map_nil] at c3 ⊢
    have C3 := Hh c3
    clear c3
    refine pG Tryz.func174 Tryz.ntmps174 ?_
    refine Je ?_
    intro i1 hi1
    simp only [prS, List.cons_append, List.nil_append, List.append_nil, List.drop_succ_cons, List.drop_zero, List.drop_nil, Ja, Rh, Rg, Jb] at hi1
    refine go_ ?_
    refine Re 1 1 (c0.out) ?_
    rintro _ _ ⟨rfl, rfl⟩
    unfold prS
    refine go_ ?_
    refine Re 1 1 (c1.out) ?_
    rintro _ _ ⟨rfl, rfl⟩
    unfold prS
    refine go_ ?_
    refine Qaa ?_
    refine Re 1 1 (C3.out) ?_
    rintro _ _ ⟨rfl, rfl⟩
    refine go_ ?_
    refine Qaa ?_
    refine rS (st' := prS i0 l σ1) Tryz.results174 ?_
    exact ⟨rfl, rfl⟩
  | false =>
    rw [hs, if_neg (by decide)] at HT
    unfold sLam at hs
    cases hbd : Qef l σ with
    | true =>
      rw [hbd, if_pos rfl] at HT
      rw [HT.out]
      have c3 := IT 3 at0 _ hw (hf.same hw (Adv.refl hw) hn (by omega)) hz i0
      clear HT hf IT IP IH hin
      obtain ⟨i, a, b⟩ := σ
      simp only at hz b1
      subst hz
      generalize (Qdp l n 3 at0 ⟨i, a, 0⟩).1 = A at *
      generalize (Qdp l n 3 at0 ⟨i, a, 0⟩).2 = σ1 at *
      simp only [aggD, Jh, List.map_cons, List.map_nil] at c3 ⊢
      have C3 := Hh c3
      clear c3
      refine pG Tryz.func174 Tryz.ntmps174 ?_
      refine Je ?_
      intro i1 hi1
      simp only [prS, List.cons_append, List.nil_append, List.append_nil, List.drop_succ_cons, List.drop_zero, List.drop_nil, Ja, Rh, Rg, Jb] at hi1
      refine go_ ?_
      refine Re 1 1 (c0.out) ?_
      rintro _ _ ⟨rfl, rfl⟩
      unfold prS
      refine go_ ?_
      refine Re 1 1 (c1.out) ?_
      rintro _ _ ⟨rfl, rfl⟩
      refine go_ ?_
      refine Re 1 1 (c2.out) ?_
      rintro _ _ ⟨rfl, rfl⟩
      refine go_ ?_
      refine Re 1 1 (C3.out) ?_
      rintro _ _ ⟨rfl, rfl⟩
      refine go_ ?_
      refine Qaa ?_
      refine rS (st' := prS i0 l σ1) Tryz.results174 ?_
      exact ⟨rfl, rfl⟩
    | false =>
      rw [hbd, if_neg (by decide)] at HT
      rw [HT.out]
      have c3 := IP σ hw hz (hf.same hw (Adv.refl hw) hn (by omega)) i0
      have hA := (Qet hl n).2.2.2.1 σ hw
      have hfu : Fu l (n + 1) 6 σ := hf
      have NX := Hh (fun (h : isS l (appS l n σ).2 0 sArr = true) => And.intro (hA.transS (Qei hl (Qgz h))).1 (IH _ (hA.transS (Qei hl (Qgz h))).1 (hf.next hw (hA.transS (Qei hl (Qgz h))) hn (by omega)) i0))
      have hw1 : Wf l (appS l n σ).2 := hA.1
      clear HT hf IT IP IH hin hA hfu
      obtain ⟨i, a, b⟩ := σ
      simp only at hz b1
      subst hz
      generalize (appS l n ⟨i, a, 0⟩) = R at *
      obtain ⟨G, σ1⟩ := R
      simp only at NX hw1 c3 ⊢
      have b2 : σ1.i ≤ 150000 := Nat.le_trans (hw1.le hl) (by decide)
      have c4 := Hh (is_p i0 l σ1 0 0 rfl sArr hl.len hl.pos (by omega) (by decide))
      unfold sArr at c4 NX ⊢
      simp only [aggD, Jh, List.map_cons, List.map_nil] at c3
      have C3 := Hh c3
      clear c3
      by_cases hz1 : σ1.bad = 0
      · cases ha : isS l σ1 0 ⟨#[45, 62]⟩ with
        | true =>
          rw [if_pos ⟨hz1, rfl⟩]
          obtain ⟨i', a', b'⟩ := σ1
          simp only at hz1 b2
          subst hz1
          obtain ⟨-, c5⟩ := NX.out ha
          have hin := Qew b2
          clear NX
          generalize (Qav l n (incS ⟨i', a', 0⟩)).1 = B at *
          generalize (Qav l n (incS ⟨i', a', 0⟩)).2 = σ2 at *
          simp only [aggD, Jh, List.map_cons, List.map_nil] at c5
          have C5 := Hh c5
          clear c5
          refine pG Tryz.func174 Tryz.ntmps174 ?_
          refine Je ?_
          intro i1 hi1
          simp only [prS, List.cons_append, List.nil_append, List.append_nil, List.drop_succ_cons, List.drop_zero, List.drop_nil, Ja, Rh, Rg, Jb] at hi1
          refine go_ ?_
          refine Re 1 1 (c0.out) ?_
          rintro _ _ ⟨rfl, rfl⟩
          unfold prS
          refine go_ ?_
          refine Re 1 1 (c1.out) ?_
          rintro _ _ ⟨rfl, rfl⟩
          refine go_ ?_
          refine Re 1 1 (c2.out) ?_
          rintro _ _ ⟨rfl, rfl⟩
          refine go_ ?_
          refine Re 1 1 (C3.out) ?_
          rintro _ _ ⟨rfl, rfl⟩
          refine go_ ?_
          refine Je ?_
          intro i2 hi2
          simp only [prS, List.cons_append, List.nil_append, List.append_nil, List.drop_succ_cons, List.drop_zero, List.drop_nil, Ja, Rh, Rg, Jb] at hi2
          refine go_ ?_
          refine Rd ?_
          unfold prS
          refine go_ ?_
          refine Re 2 1 (c4.out) ?_
          rintro _ _ ⟨rfl, rfl⟩
          unfold prS
          refine go_ ?_
          refine Qaa ?_
          refine Qfu (J := Qcm [(i2, _)]) [(0, .a), (1, .a), (2, .a), (3, .a), (4, .e), (5, .a), (6, .a), (7, .e)] (by kernel_rfl) (by rfl) (by kernel_rfl) (by (repeat (first | exact Qat _ | refine Ju (by simp [St.box?, *] <;> rfl) ?_))) ?_
          refine lG ?_
          refine Qlw 2 1 (C5.out) ?_
          rintro _ _ ⟨rfl, rfl⟩
          refine ⟨.inr (by (repeat (first | exact Qat _ | refine Ju (by simp [St.box?, *] <;> rfl) ?_))), ?_⟩
          refine lG ?_
          refine PL_bs ?_ rfl (by decide) rfl (by simp; rfl) (by rfl) (by simp; rfl) (by rfl) (by decide) (by decide) eQ (by simp [Qde, toDs, PV.toD]; rfl)
          refine lG ?_
          refine PLs ?_
          refine lG ?_
          refine go_ ?_
          refine rS (st' := prS i0 l σ2) Tryz.results174 ?_
          exact ⟨by rw [agg_mk]; simp only [List.map_cons, List.map_nil, Jh]; rfl, rfl⟩
        | false =>
          rw [if_neg (by simp)]
          clear NX
          simp only [aggD, Jh, List.map_cons, List.map_nil]
          refine pG Tryz.func174 Tryz.ntmps174 ?_
          refine Je ?_
          intro i1 hi1
          simp only [prS, List.cons_append, List.nil_append, List.append_nil, List.drop_succ_cons, List.drop_zero, List.drop_nil, Ja, Rh, Rg, Jb] at hi1
          refine go_ ?_
          refine Re 1 1 (c0.out) ?_
          rintro _ _ ⟨rfl, rfl⟩
          unfold prS
          refine go_ ?_
          refine Re 1 1 (c1.out) ?_
          rintro _ _ ⟨rfl, rfl⟩
          refine go_ ?_
          refine Re 1 1 (c2.out) ?_
          rintro _ _ ⟨rfl, rfl⟩
          refine go_ ?_
          refine Re 1 1 (C3.out) ?_
          rintro _ _ ⟨rfl, rfl⟩
          refine go_ ?_
          refine Je ?_
          intro i2 hi2
          simp only [prS, List.cons_append, List.nil_append, List.append_nil, List.drop_succ_cons, List.drop_zero, List.drop_nil, Ja, Rh, Rg, Jb] at hi2
          refine go_ ?_
          refine Rd ?_
          unfold prS
          refine go_ ?_
          refine Re 2 1 (c4.out) ?_
          rintro _ _ ⟨rfl, rfl⟩
          refine go_ ?_
          refine Qaa ?_
          refine rS (st' := prS i0 l σ1) Tryz.results174 ?_
          exact ⟨rfl, rfl⟩
      · rw [if_neg (by simp [hz1])]
        clear NX
        simp only [aggD, Jh, List.map_cons, List.map_nil]
        refine pG Tryz.func174 Tryz.ntmps174 ?_
        refine Je ?_
        intro i1 hi1
        simp only [prS, List.cons_append, List.nil_append, List.append_nil, List.drop_succ_cons, List.drop_zero, List.drop_nil, Ja, Rh, Rg, Jb] at hi1
        refine go_ ?_
        refine Re 1 1 (c0.out) ?_
        rintro _ _ ⟨rfl, rfl⟩
        unfold prS
        refine go_ ?_
        refine Re 1 1 (c1.out) ?_
        rintro _ _ ⟨rfl, rfl⟩
        refine go_ ?_
        refine Re 1 1 (c2.out) ?_
        rintro _ _ ⟨rfl, rfl⟩
        refine go_ ?_
        refine Re 1 1 (C3.out) ?_
        rintro _ _ ⟨rfl, rfl⟩
        refine go_ ?_
        refine Je ?_
        intro i2 hi2
        simp only [prS, List.cons_append, List.nil_append, List.append_nil, List.drop_succ_cons, List.drop_zero, List.drop_nil, Ja, Rh, Rg, Jb] at hi2
        refine go_ ?_
        refine Rd ?_
        unfold prS
        refine go_ ?_
        refine Qaa ?_
        refine rS (st' := prS i0 l σ1) Tryz.results174 ?_
        exact ⟨rfl, rfl⟩
theorem parse_w {l : List Tk} (hl : TkOk l) : ∀ n, (∀ k a σ, Wf l σ → Fu l n 4 σ → σ.bad = 0 → TypedC l n k a σ) ∧ (∀ σ, Wf l σ → Fu l n 6 σ → TermC l n σ) ∧ (∀ σ, Wf l σ → Fu l n 3 σ → AtomC l n σ) ∧ (∀ σ, Wf l σ → σ.bad = 0 → Fu l n 5 σ → AppC l n σ) := by
  intro n
  induction n using Nat.strongRecOn with
  | _ n ih =>
    match n with
    | 0 => exact ⟨fun _ _ _ _ h => absurd h.1 (Nat.lt_irrefl 0), fun _ _ h => absurd h.1 (Nat.lt_irrefl 0), fun _ _ h => absurd h.1 (Nat.lt_irrefl 0), fun _ _ _ h => absurd h.1 (Nat.lt_irrefl 0)⟩
    | n + 1 =>
      have I := ih n (Nat.lt_succ_self n)
      refine ⟨fun k a σ hw hf hb => ?_, fun σ hw hf => term_w hl n I.1 I.2.2.2 I.2.1 σ hw hf, fun σ hw hf => atom_w hl n (fun σ hw hf _ => I.2.1 σ hw hf) σ hw hf, fun σ hw hb hf => app_w hl n (fun m hm σ hw hf => (ih m (by omega)).2.2.1 σ hw hf) σ hw hb hf⟩
      have hn : 0 < n := by
        have := hf.2 hb
        unfold Wf at hw; omega
      exact typed_w hl n hn I.2.1 k a σ hw hf
theorem depth_p (t : Nd) : PCalls Tryz.prog 196 [aggD t] [] fun p s => p = .d (.v (.int .i64 (Qdc t))) ∧ s = [] := PCalls.flat trivial fun K w vs ha => by
 obtain ⟨v, rfl, hv⟩ := ha.one
 obtain ⟨cs, rfl, hc⟩ := Qlr hv
 exact depth_any t cs w (Rep.toC _ _ hc)
theorem bid_nodup {F : Fz} {K : Kp} {w : World} : ∀ {st : St}, (∀ e ∈ st, EntOk F K w e) → (st.filterMap (Ent.block K)).Nodup → (st.filterMap Ent.bid).Nodup := by
  intro st
  induction st with
  | nil => intro _ _; simp
  | cons e r ih =>
    intro he hn
    have hr : (r.filterMap (Ent.block K)).Nodup := by
      rw [List.filterMap_cons] at hn
      split at hn
      · exact hn
      · exact (List.nodup_cons.1 hn).2
    have h1 := ih (fun x hx => he x (List.mem_cons_of_mem _ hx)) hr
    have key : ∀ i, e.bid = some i → (∃ b, e.block K = some b ∧ K.box i = some b) → i ∉ r.filterMap Ent.bid := by
      rintro i hi ⟨b, hb, hk⟩ hm
      obtain ⟨x, hx, hxi⟩ := List.mem_filterMap.1 hm
      rw [List.filterMap_cons, hb] at hn
      have hnm := (List.nodup_cons.1 hn).1
      apply hnm
      refine List.mem_filterMap.2 ⟨x, hx, ?_⟩
      cases x with
      | box j U cs => simp only [Ent.bid, Option.some.injEq] at hxi; subst hxi; exact hk
      | tok => cases hxi
      | obj j ok => simp only [Ent.bid, Option.some.injEq] at hxi; subst hxi; exact hk
    have h2 := he e (List.mem_cons_self ..)
    cases e with
    | box i T cs =>
      obtain ⟨b, arr, e1, -⟩ := h2
      exact List.nodup_cons.2 ⟨key i rfl ⟨b, e1, e1⟩, h1⟩
    | tok g E sz n => exact h1
    | obj i ok =>
      obtain ⟨b, o, e1, -⟩ := h2
      exact List.nodup_cons.2 ⟨key i rfl ⟨b, e1, e1⟩, h1⟩
theorem PW_nodup {P : Program} {n : Nat} {c : Code} {Q : Exit → PF → St → Prop} {fr : PF} {st : St} (h : (st.filterMap Ent.bid).Nodup → PW P n c Q fr st) : PW P n c Q fr st :=
 fun F K w a hr hf => h (bid_nodup hr.ents hr.nb) F K w a hr hf
theorem bid_box (i : Nat) (T : TypeId) (cs : List PV) (r : St) : (Ent.box i T cs :: r).filterMap Ent.bid = i :: r.filterMap Ent.bid := rfl
theorem bid_nil : ([] : St).filterMap Ent.bid = [] := rfl
def Qcl (s : ByteArray) : List Tk := if (tokA s).2.2 ≠ 0 then [noTk] else (tokA s).1
def Qen (s : ByteArray) : ST := if (tokA s).2.2 ≠ 0 then ⟨0, (tokA s).2.1, (tokA s).2.2⟩ else ⟨0, 0, 0⟩
theorem cut_len (c : Nat) (r : List Int) (hc : c ≤ 8192) : (cutR c r).1.length + c ≤ 8192 := by
  cases h1 : (Qaf r).2 with
  | false => rw [cut_a h1]; simpa using hc
  | true =>
    by_cases h2 : (Qaf r).1 = []
    · rw [cut_b h1 h2]; simpa using hc
    · by_cases h3 : 8192 ≤ c
      · rw [cut_c h1 h2 h3]; simpa using hc
      · cases h4 : (Qaj (Qaf r).1).2.2.2 with
        | false => rw [cut_d h1 h2 h3 h4]; simpa using hc
        | true =>
          rw [cut_e h1 h2 h3 h4]
          have hlt : ((Qaf r).1.drop (Qaj (Qaf r).1).2.2.1).length < r.length := by
            have h5 := (Qed r).length_le
            have h6 := Qia h4 h2
            have h7 : 0 < (Qaf r).1.length := List.length_pos_iff.2 h2
            rw [List.length_drop]
            omega
          have := cut_len (c + 1) ((Qaf r).1.drop (Qaj (Qaf r).1).2.2.1) (by omega)
          simp only [List.length_cons]
          omega
termination_by r.length
decreasing_by exact hlt
theorem cut_err (c : Nat) (r : List Int) (e : Int) (k : Nat) (h : (cutR c r).2 = some (e, k)) : e = 1 ∨ e = 2 := by
  cases h1 : (Qaf r).2 with
  | false => rw [cut_a h1] at h; cases h; exact .inl rfl
  | true =>
    by_cases h2 : (Qaf r).1 = []
    · rw [cut_b h1 h2] at h; cases h
    · by_cases h3 : 8192 ≤ c
      · rw [cut_c h1 h2 h3] at h; cases h; exact .inr rfl
      · cases h4 : (Qaj (Qaf r).1).2.2.2 with
        | false => rw [cut_d h1 h2 h3 h4] at h; cases h; exact .inl rfl
        | true =>
          rw [cut_e h1 h2 h3 h4] at h
          have hlt : ((Qaf r).1.drop (Qaj (Qaf r).1).2.2.1).length < r.length := by
            have h5 := (Qed r).length_le
            have h6 := Qia h4 h2
            have h7 : 0 < (Qaf r).1.length := List.length_pos_iff.2 h2
            rw [List.length_drop]
            omega
          exact cut_err (c + 1) ((Qaf r).1.drop (Qaj (Qaf r).1).2.2.1) e k h
termination_by r.length
decreasing_by exact hlt
theorem startOk (s : ByteArray) : TkOk (Qcl s) := by
 unfold Qcl
 split
 ·exact ⟨by decide, by decide, rfl⟩
 ·rename_i h
  have h : (tokA s).2.2 = 0 := by simpa using h
  unfold tokA at h ⊢
  split at h
  ·rename_i h1; exact absurd h h1
  ·rename_i h1
   rw [if_neg h1]
   unfold Qiu at h ⊢
   have hb := cut_len 0 (allS s) (by decide)
   split at h
   ·rename_i e k he
    exfalso
    rcases cut_err _ _ _ _ he with h2 | h2
    ·rw [h2] at h; cases h
    ·rw [h2] at h; cases h
   ·rename_i he
    simp only
    refine ⟨by simp; omega, by simp, ?_⟩
    rw [Qlc (by simp)]
    simp
theorem start_p (s : ByteArray) : PCalls Tryz.prog 111 [.d (.v (.string s))] [] fun p st => ∃ i0, p = .ptr i0 0 ∧ st = prS i0 (Qcl s) (Qen s) := by
 have H0 := Hh (tall_p s)
 unfold tokP at H0
 have HL := Hh (show Qcl s = if (tokA s).2.2 ≠ 0 then [noTk] else (tokA s).1 from rfl)
 have HS := Hh (show Qen s = if (tokA s).2.2 ≠ 0 then ⟨0, (tokA s).2.1, (tokA s).2.2⟩ else ⟨0, 0, 0⟩ from rfl)
 generalize (tokA s).1 = L at *
 generalize (tokA s).2.1 = a at *
 generalize (tokA s).2.2 = e at *
 refine pG Tryz.func111 Tryz.ntmps111 ?_
 refine Jc (H0.out) ?_
 by_cases hz : e = 0
 ·rw [if_neg (by simp [hz])] at HL HS
  refine go_ ?_
  refine Jd ?_
  intro i0 hi0
  refine go_ ?_
  refine Jm (st' := prS i0 (Qcl s) (Qen s)) (by simp) (by simp only [Tryz.results111]; rfl) (by simp [resP]; rfl) (by rw [HL.out, HS.out]; exact dR) ⟨i0, rfl, rfl⟩
 ·rw [if_pos hz] at HL HS
  refine go_ ?_
  refine Qao ?_
  refine Jd ?_
  intro i0 hi0
  refine go_ ?_
  refine Jm (st' := prS i0 (Qcl s) (Qen s)) (by simp) (by simp only [Tryz.results111]; rfl) (by simp [resP]; rfl) (by rw [HL.out, HS.out]; exact dR) ⟨i0, rfl, rfl⟩
def Qgu (x : Nd) (a : Int) (σ : ST) : ST := if σ.bad = 0 ∧ 128 < Qdc x then Qby 2 a σ else σ
def Qik (l : List Tk) (n : Nat) (σ : ST) : Nd × ST := ((Qav l n σ).1, Qgu (Qav l n σ).1 (tkg l σ.i).at_ (Qav l n σ).2)
def endS (l : List Tk) (σ : ST) : ST := if (tkg l σ.i).kind = 5 then σ else Qby 1 (tkg l σ.i).at_ σ
theorem checked_p (i0 : Nat) (l : List Tk) (x : Nd) (a : Int) (σ : ST) : PCalls Tryz.prog 173 [.ptr i0 0, aggD x, .d (.v (.int .i64 a))] (prS i0 l σ) fun p s => p = aggD x ∧ s = prS i0 l (Qgu x a σ) := by
 have H0 := Hh (depth_p x)
 have H1 := Hh (fail_p i0 l σ 2 a)
 have HC := Hh (show Qgu x a σ = if σ.bad = 0 ∧ 128 < Qdc x then Qby 2 a σ else σ from rfl)
 simp only [aggD, Jh, List.map_cons, List.map_nil] at H0 ⊢
 by_cases hz : σ.bad = 0
 ·by_cases hd : 128 < Qdc x
  ·rw [if_pos ⟨hz, hd⟩] at HC
   rw [HC.out]
   clear HC
   obtain ⟨i, b, c⟩ := σ
   simp only at hz
   subst hz
   generalize Qby 2 a ⟨i, b, 0⟩ = σ1 at *
   refine pG Tryz.func173 Tryz.ntmps173 ?_
   refine Jd ?_
   intro i1 hi1
   simp only [prS, List.cons_append, List.nil_append, List.append_nil, List.drop_succ_cons, List.drop_zero, List.drop_nil, Ja, Rh, Rg, Jb] at hi1
   refine go_ ?_
   refine Je ?_
   intro i2 hi2
   simp only [prS, List.cons_append, List.nil_append, List.append_nil, List.drop_succ_cons, List.drop_zero, List.drop_nil, Ja, Rh, Rg, Jb] at hi2
   unfold prS
   refine go_ ?_
   refine Qad (H0.out) ?_
   refine Re 2 1 (H1.out) ?_
   rintro _ _ ⟨rfl, rfl⟩
   refine go_ ?_
   refine Qaa ?_
   refine rS (st' := prS i0 l σ1) Tryz.results173 ?_
   exact ⟨rfl, rfl⟩
  ·rw [if_neg (fun h => hd h.2)] at HC
   rw [HC.out]
   clear HC
   obtain ⟨i, b, c⟩ := σ
   simp only at hz
   subst hz
   refine pG Tryz.func173 Tryz.ntmps173 ?_
   refine Jd ?_
   intro i1 hi1
   simp only [prS, List.cons_append, List.nil_append, List.append_nil, List.drop_succ_cons, List.drop_zero, List.drop_nil, Ja, Rh, Rg, Jb] at hi1
   refine go_ ?_
   refine Je ?_
   intro i2 hi2
   simp only [prS, List.cons_append, List.nil_append, List.append_nil, List.drop_succ_cons, List.drop_zero, List.drop_nil, Ja, Rh, Rg, Jb] at hi2
   unfold prS
   refine go_ ?_
   refine Qad (H0.out) ?_
   refine Qaa ?_
   refine rS (st' := prS i0 l ⟨i, b, 0⟩) Tryz.results173 ?_
   exact ⟨rfl, rfl⟩
 ·rw [if_neg (fun h => hz h.1)] at HC
  rw [HC.out]
  clear HC
  refine pG Tryz.func173 Tryz.ntmps173 ?_
  refine Jd ?_
  intro i1 hi1
  simp only [prS, List.cons_append, List.nil_append, List.append_nil, List.drop_succ_cons, List.drop_zero, List.drop_nil, Ja, Rh, Rg, Jb] at hi1
  refine go_ ?_
  refine Je ?_
  intro i2 hi2
  simp only [prS, List.cons_append, List.nil_append, List.append_nil, List.drop_succ_cons, List.drop_zero, List.drop_nil, Ja, Rh, Rg, Jb] at hi2
  unfold prS
  refine go_ ?_
  refine Qaa ?_
  refine rS (st' := prS i0 l σ) Tryz.results173 ?_
  exact ⟨rfl, rfl⟩
theorem expr_p {l : List Tk} (hl : TkOk l) (i0 n : Nat) (σ : ST) (hw : Wf l σ) (hf : Fu l n 6 σ) : PCalls Tryz.prog 112 [.ptr i0 0] (prS i0 l σ) fun p s => p = aggD (Qik l n σ).1 ∧ s = prS i0 l (Qik l n σ).2 := by
 have c0 := Hh (Qhr i0 l σ hl.len hl.pos (Nat.le_trans (hw.le hl) (by decide)))
 have c1 := (parse_w hl n).2.1 σ hw hf i0
 have c2 := checked_p i0 l (Qav l n σ).1 (tkg l σ.i).at_ (Qav l n σ).2
 unfold Qik
 generalize (tkg l σ.i).at_ = a at *
 generalize (Qav l n σ).1 = x at *
 generalize (Qav l n σ).2 = σ1 at *
 simp only
 generalize Qgu x a σ1 = σ2 at *
 simp only [aggD, Jh, List.map_cons, List.map_nil] at c1 c2 ⊢
 have C1 := Hh c1
 have C2 := Hh c2
 clear c1 c2
 refine pG Tryz.func112 Tryz.ntmps112 ?_
 refine Je ?_
 intro i1 hi1
 simp only [prS, List.cons_append, List.nil_append, List.append_nil, List.drop_succ_cons, List.drop_zero, List.drop_nil, Ja, Rh, Rg, Jb] at hi1
 refine go_ ?_
 refine Re 1 1 (c0.out) ?_
 rintro _ _ ⟨rfl, rfl⟩
 refine go_ ?_
 refine Re 1 1 (C1.out) ?_
 rintro _ _ ⟨rfl, rfl⟩
 refine go_ ?_
 refine Re 1 1 (C2.out) ?_
 rintro _ _ ⟨rfl, rfl⟩
 refine go_ ?_
 refine Qaa ?_
 refine rS (st' := prS i0 l σ2) Tryz.results112 ?_
 exact ⟨rfl, rfl⟩
theorem end_p' {l : List Tk} (hl : TkOk l) (i0 : Nat) (σ : ST) (hw : Wf l σ) : PCalls Tryz.prog 113 [.ptr i0 0] (prS i0 l σ) fun p s => p = .tup [] ∧ s = prS i0 l (endS l σ) := by
 have c0 := Hh (Qhr i0 l σ hl.len hl.pos (Nat.le_trans (hw.le hl) (by decide)))
 have c1 := Hh (fail_p i0 l σ 1 (tkg l σ.i).at_)
 have HE := Hh (show endS l σ = if (tkg l σ.i).kind = 5 then σ else Qby 1 (tkg l σ.i).at_ σ from rfl)
 generalize tkg l σ.i = t at *
 by_cases h5 : t.kind = 5
 ·rw [if_pos h5] at HE
  rw [HE.out]
  refine pG Tryz.func113 Tryz.ntmps113 ?_
  refine Rf (c0.out) ?_
  rintro _ _ ⟨rfl, rfl⟩
  refine go_ ?_
  refine Jm (st' := prS i0 l σ) (by simp) (by simp only [Tryz.results113]; rfl) (by simp [resP]; rfl) dR ⟨rfl, rfl⟩
 ·rw [if_neg h5] at HE
  rw [HE.out]
  refine pG Tryz.func113 Tryz.ntmps113 ?_
  refine Rf (c0.out) ?_
  rintro _ _ ⟨rfl, rfl⟩
  refine go_ ?_
  refine Rf (c0.out) ?_
  rintro _ _ ⟨rfl, rfl⟩
  refine go_ ?_
  refine Rf (c1.out) ?_
  rintro _ _ ⟨rfl, rfl⟩
  refine go_ ?_
  refine Jm (st' := prS i0 l (Qby 1 t.at_ σ)) (by simp) (by simp only [Tryz.results113]; rfl) (by simp [resP]; rfl) dR ⟨rfl, rfl⟩
def fuelS (s : ByteArray) : Nat := 6 * (Qcl s).length + 6
def Qeg (s : ByteArray) : Nd × ST := Qik (Qcl s) (fuelS s) (Qen s)
def Qhs (s : ByteArray) : Nd × Int × Int :=
 let τ := endS (Qcl s) (Qeg s).2
 if τ.bad = 0 then ((Qeg s).1, (s.size : Int), 0) else (zNd, τ.at_, τ.bad)
theorem startW (s : ByteArray) : Wf (Qcl s) (Qen s) := by
 have := (startOk s).pos
 unfold Wf Qen
 split <;> exact this
theorem expr_adv {l : List Tk} (hl : TkOk l) (n : Nat) (σ : ST) (hw : Wf l σ) : Adv l σ (Qik l n σ).2 := by
 have h1 := (Qet hl n).2.1 σ hw
 unfold Qik Qgu
 simp only
 split
 ·exact h1.trans (Qmd hl 2 _ (by decide) h1.1).adv
 ·exact h1
theorem pexprs_p (s : ByteArray) : PCalls Tryz.prog 57 [.d (.v (.string s))] [] fun p st => p = .tup [aggD (Qhs s).1, .d (.v (.int .i64 (Qhs s).2.1)), .d (.v (.int .i64 (Qhs s).2.2))] ∧ st = [] := by
 have hl := startOk s
 have hw := startW s
 have H0 := Hh (start_p s)
 have hf : Fu (Qcl s) (fuelS s) 6 (Qen s) := ⟨by unfold fuelS; omega, fun _ => by unfold fuelS; omega⟩
 have hE := expr_adv hl (fuelS s) (Qen s) hw
 have HE := Hh (fun i0 => expr_p hl i0 (fuelS s) (Qen s) hw hf)
 have HD := Hh (fun i0 => end_p' hl i0 (Qeg s).2 hE.1)
 have HA := Hh (show Qhs s = if (endS (Qcl s) (Qeg s).2).bad = 0 then ((Qeg s).1, (s.size : Int), 0) else (zNd, (endS (Qcl s) (Qeg s).2).at_, (endS (Qcl s) (Qeg s).2).bad) from rfl)
 change Hid (∀ i0, PCalls Tryz.prog 112 [.ptr i0 0] (prS i0 (Qcl s) (Qen s)) fun p st => p = aggD (Qeg s).1 ∧ st = prS i0 (Qcl s) (Qeg s).2) at HE
 clear hl hw hf hE
 generalize Qen s = σ at *
 generalize Qcl s = l at *
 generalize (Qeg s).1 = x at *
 generalize (Qeg s).2 = σ1 at *
 generalize endS l σ1 = σ2 at *
 rw [HA.out]
 clear HA
 simp only [aggD, Jh, List.map_cons, List.map_nil] at HE
 refine pG Tryz.func57 Tryz.ntmps57 ?_
 refine Je ?_
 intro i1 hi1
 refine go_ ?_
 refine Re 1 0 (H0.out) ?_
 rintro _ _ ⟨i0, rfl, rfl⟩
 refine Qq ?_
 refine Qh ?_
 refine Qj ?_
 refine PW_nodup fun hnd => ?_
 simp only [prS, List.cons_append, List.nil_append, List.append_nil, List.drop_succ_cons, List.drop_zero, List.drop_nil, bid_box, bid_nil, List.nodup_cons, List.mem_cons, List.not_mem_nil, or_false, List.nodup_nil, and_true, not_false_iff] at hnd
 have hne : ¬ i0 = i1 := fun e => hnd e.symm
 refine go_ ?_
 refine Re 1 1 (HE.out i0) ?_
 rintro _ _ ⟨rfl, rfl⟩
 refine go_ ?_
 refine Je ?_
 intro i2 hi2
 simp only [prS, List.cons_append, List.nil_append, List.append_nil, List.drop_succ_cons, List.drop_zero, List.drop_nil, Ja, Rh, Rg, Jb] at hi2
 refine go_ ?_
 refine Qaa ?_
 refine Re 2 1 (HD.out i0) ?_
 rintro _ _ ⟨rfl, rfl⟩
 by_cases hz : σ2.bad = 0
 ·rw [if_pos hz]
  unfold prS
  refine go_ ?_
  refine Qaa ?_
  refine rT Tryz.results57 ?_
  exact ⟨by simp only [aggD, Jh, List.map_cons, List.map_nil]; rfl, rfl⟩
 ·rw [if_neg hz]
  unfold prS
  refine go_ ?_
  refine Qfu (J := Qcm [(i0, _)]) [(0, .a), (1, .a), (2, .a), (3, .a), (4, .a), (5, .a), (6, .a), (7, .a), (8, .a), (9, .e), (10, .a), (11, .a)] (by kernel_rfl) (by rfl) (by kernel_rfl) (by (repeat (first | exact Qat _ | refine Ju (by simp [St.box?, *] <;> rfl) ?_))) ?_
  refine lG ?_
  refine PLs ?_
  refine lG ?_
  refine go_ ?_
  refine rT Tryz.results57 ?_
  exact ⟨by unfold zNd; rw [agg_mk]; rfl, rfl⟩
end Go.Proofs.YtdklpbefbamchaaGreat
