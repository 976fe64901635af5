import Derived.Test.YtahhgpafjiljfaaBY
import Derived.Test.YtahhgpafjiljfaaBNd
import Derived.Test.YtahhgpafjiljfaaBA1
import Derived.Test.YtahhgpafjiljfaaT32
set_option linter.unusedSimpArgs false
set_option linter.unusedVariables false
namespace Go.Proofs.Ytahhgpafjiljfaa
open Go.RowKit
set_option maxRecDepth 100000
/-- where a reader of tokens stands: the place, the error's offset, the error -/
structure ST where
  i : Nat
  at_ : Int
  bad : Int
def noTk : Tk := ⟨5, ⟨#[]⟩, 0⟩
/-- the token at a place; behind all the last one -/
def tkg (l : List Tk) (j : Nat) : Tk := (l[j]?).getD ((l[l.length - 1]?).getD noTk)
def failS (e a : Int) (σ : ST) : ST := if σ.bad = 0 then ⟨σ.i, a, e⟩ else σ
def markB' (t : Tk) (s : ByteArray) : Bool := (t.kind == 4 || t.kind == 2) && t.text.toList == s.toList
def isS (l : List Tk) (σ : ST) (k : Nat) (s : ByteArray) : Bool := markB' (tkg l (σ.i + k)) s
def incS (σ : ST) : ST := ⟨σ.i + 1, σ.at_, σ.bad⟩
def wantS (l : List Tk) (s : ByteArray) (σ : ST) : ST :=
  let τ := if isS l σ 0 s then σ else failS 1 (tkg l σ.i).at_ σ
  if τ.bad = 0 then incS τ else τ
def namedK (t : Tk) : Bool := t.kind == 1 && !(t.text.toList == [95])
def namedS (l : List Tk) (σ : ST) (k : Nat) : Bool := namedK (tkg l (σ.i + k))
def nameS (l : List Tk) (σ : ST) : ByteArray × ST :=
  let τ := if namedS l σ 0 then σ else failS 1 (tkg l σ.i).at_ σ
  if τ.bad = 0 then ((tkg l τ.i).text, incS τ) else (⟨#[]⟩, τ)
def variableS (l : List Tk) (σ : ST) : ByteArray × ST :=
  if (tkg l σ.i).kind == 1 && σ.bad == 0 then ((tkg l σ.i).text, incS σ) else nameS l σ
def sPar : ByteArray := ⟨#[40]⟩
def sRap : ByteArray := ⟨#[41]⟩
def sCol : ByteArray := ⟨#[58]⟩
def sArr : ByteArray := ⟨#[45, 62]⟩
def sLam : ByteArray := ⟨#[92]⟩
def sSet : ByteArray := ⟨#[83, 101, 116]⟩
def sDot : ByteArray := ⟨#[46]⟩
def sEq : ByteArray := ⟨#[61]⟩
def sSem : ByteArray := ⟨#[59]⟩
def sBra : ByteArray := ⟨#[123]⟩
def sKet : ByteArray := ⟨#[125]⟩
def sData : ByteArray := ⟨#[100, 97, 116, 97]⟩
def sRec : ByteArray := ⟨#[114, 101, 99, 111, 114, 100]⟩
def sDef : ByteArray := ⟨#[100, 101, 102]⟩
def binderS (l : List Tk) (σ : ST) : Bool := isS l σ 0 sPar && (tkg l (σ.i + 1)).kind == 1 && isS l σ 2 sCol
def setS (l : List Tk) (σ : ST) : Nd × ST :=
  let τ := incS σ
  let t := tkg l τ.i
  if t.kind == 3 then
    (.mk 2 (tkg l σ.i).at_ ⟨#[]⟩ (numT t.text) [], incS (if 7 < numT t.text then failS 1 t.at_ τ else τ))
  else (.mk 2 (tkg l σ.i).at_ ⟨#[]⟩ 0 [], τ)
def beginsS (l : List Tk) (σ : ST) : Bool := namedS l σ 0 || isS l σ 0 sSet || (isS l σ 0 sPar && !binderS l σ)
def zNd : Nd := .mk 0 0 ⟨#[]⟩ 0 []
mutual
def typedS (l : List Tk) : Nat → Int → Int → ST → Nd × ST
  | 0, _, _, σ => (zNd, σ)
  | n + 1, kind, at_, σ =>
    let x := variableS l (wantS l sPar σ)
    let a := termS l n (wantS l sCol x.2)
    let b := termS l n (wantS l sArr (wantS l sRap a.2))
    (.mk kind at_ x.1 0 [a.1, b.1], b.2)
def termS (l : List Tk) : Nat → ST → Nd × ST
  | 0, σ => (zNd, σ)
  | n + 1, σ =>
    if σ.bad ≠ 0 then (zNd, σ)
    else if isS l σ 0 sLam then typedS l n 4 (tkg l σ.i).at_ (incS σ)
    else if binderS l σ then typedS l n 3 (tkg l σ.i).at_ σ
    else
      let g := appS l n σ
      if g.2.bad = 0 ∧ isS l g.2 0 sArr then
        let x := termS l n (incS g.2)
        (.mk 3 g.1.at ⟨#[95]⟩ 0 [g.1, x.1], x.2)
      else g
def atomS (l : List Tk) : Nat → ST → Nd × ST
  | 0, σ => (zNd, σ)
  | n + 1, σ =>
    if σ.bad ≠ 0 then (zNd, σ)
    else if isS l σ 0 sSet then setS l σ
    else if isS l σ 0 sPar then
      let x := termS l n (incS σ)
      (x.1, wantS l sRap x.2)
    else (.mk 1 (tkg l σ.i).at_ (nameS l σ).1 0 [], (nameS l σ).2)
def appS (l : List Tk) : Nat → ST → Nd × ST
  | 0, σ => (zNd, σ)
  | n + 1, σ =>
    let g := atomS l n σ
    appL l n g.1 g.2
def appL (l : List Tk) : Nat → Nd → ST → Nd × ST
  | 0, g, σ => (g, σ)
  | n + 1, g, σ =>
    if σ.bad = 0 ∧ beginsS l σ then
      let x := atomS l n σ
      appL l n (.mk 5 g.at ⟨#[]⟩ 0 [g, x.1]) x.2
    else (g, σ)
end
/-- the tokens end with the end; texts and numbers are not too great -/
structure TkOk (l : List Tk) : Prop where
  len : l.length ≤ 100000
  pos : 0 < l.length
  last : (tkg l (l.length - 1)).kind = 5
/-- the reader stands at a token -/
def Wf (l : List Tk) (σ : ST) : Prop := σ.i < l.length
end Go.Proofs.Ytahhgpafjiljfaa

namespace Go.Proofs.Ytahhgpafjiljfaa
open Go.RowKit
set_option maxRecDepth 100000
/-- a reader's variable -/
def prS (i0 : Nat) (l : List Tk) (σ : ST) : St := [.box i0 61 [.d (.sl (l.map encD)), .d (.v (.int .i64 σ.i)), .d (.v (.int .i64 σ.at_)), .d (.v (.int .i64 σ.bad))]]
theorem tkg_lt {l : List Tk} {j : Nat} (h : j < l.length) : tkg l j = l[j] := by unfold tkg; rw [List.getElem?_eq_getElem h]; rfl
theorem tkg_ge {l : List Tk} {j : Nat} (h : l.length ≤ j) (h0 : 0 < l.length) : tkg l j = l[l.length - 1]'(by omega) := by
  unfold tkg
  rw [List.getElem?_eq_none h, List.getElem?_eq_getElem (by omega)]; rfl
set_option maxHeartbeats 2000000 in
theorem tok_p (i0 : Nat) (l : List Tk) (σ : ST) (kk : Int) (j : Nat) (hj : (σ.i : Int) + kk = j) (hl : l.length ≤ 100000) (h0 : 0 < l.length) (hi : σ.i ≤ 200000) (hk1 : -5 ≤ kk) (hk2 : kk ≤ 5) : PCalls Try.prog 28 [.ptr i0 0, .d (.v (.int .i64 kk))] (prS i0 l σ) fun p s => p = aggD (tkg l j) ∧ s = prS i0 l σ := by
  have hw : IntKind.i64.wrap ((σ.i : Int) + kk) = (j : Int) := by rw [IntWalk.i64_in _ (by omega)]; exact hj
  clear hj hk1 hk2
  unfold prS
  obtain ⟨i, at_, bad⟩ := σ
  simp only at *
  refine PCalls.enter Try.func28 rfl Try.ntmps28 (by simp) ?_
  simp only [argsF]
  refine go_ ?_
  refine POps_alloc_a ?_
  intro i1 hi1
  simp only [St.freshB_box, St.freshB_nil] at hi1
  refine go_ ?_
  refine PW_drawn [(0, .a), (1, .a), (2, .a), (3, .b), (4, .a), (5, .a), (6, .a), (7, .a), (8, .a), (9, .b), (10, .a), (11, .a)] (by kernel_rfl) (by rfl) (by kernel_rfl) ?_
  refine go_ ?_
  by_cases h : j < l.length
  · have hc : ¬ ((l.length : Int) ≤ (j : Int)) := by omega
    have hc' : ¬ (l.length ≤ j) := by omega
    have hn : (0 : Int) ≤ (j : Int) := by omega
    have hx := get_enc h
    have he := encD_tk l[j]
    have HT := Lib.hid (tkg_lt h)
    refine go_ ?_
    refine PW_drawn [(0, .a), (1, .a), (2, .a), (3, .b), (4, .a), (5, .a), (6, .a), (7, .b), (8, .a), (9, .a), (10, .a), (11, .a), (12, .e)] (by kernel_rfl) (by rfl) (by kernel_rfl) ?_
    refine go_ ?_
    refine POrd_store_a ?_
    refine go_ ?_
    refine retP_ok (st' := [.box i0 61 [.d (.sl (l.map encD)), .d (.v (.int .i64 i)), .d (.v (.int .i64 at_)), .d (.v (.int .i64 bad))]]) (by simp) (by simp only [Try.results28]; rfl) (by simp [resP, St.box?, PF.get, loadB, TyK.agg, *]; rfl) (by repeat (first | exact List.Sublist.refl _ | exact List.nil_sublist _ | refine List.Sublist.cons_cons _ ?_ | refine List.Sublist.cons _ ?_)) ?_
    exact ⟨by rw [HT.out]; rfl, rfl⟩
  · have hc : (l.length : Int) ≤ (j : Int) := by omega
    have hc' : l.length ≤ j := by omega
    have hm : l.length - 1 < l.length := by omega
    have hw2 : IntKind.i64.wrap ((l.length : Int) - 1) = ((l.length - 1 : Nat) : Int) := by rw [IntWalk.i64_in _ (by omega)]; omega
    have HT := Lib.hid (tkg_ge hc' h0)
    obtain ⟨m, hme⟩ : ∃ m, m = l.length - 1 := ⟨_, rfl⟩
    rw [← hme] at hw2
    have hm' : m < l.length := by omega
    have hx := get_enc hm'
    have he := encD_tk l[m]
    have hn : (0 : Int) ≤ (m : Int) := by omega
    have HE := Lib.hid (show tkg l j = l[m] by rw [HT.out]; congr 1; exact hme.symm)
    clear HT hme hm
    refine go_ ?_
    refine PW_drawn [(0, .a), (1, .a), (2, .a), (3, .b), (4, .a), (5, .a), (6, .a), (7, .b), (8, .a), (9, .a), (10, .a), (11, .a), (12, .e)] (by kernel_rfl) (by rfl) (by kernel_rfl) ?_
    refine go_ ?_
    refine POrd_store_a ?_
    refine go_ ?_
    refine retP_ok (st' := [.box i0 61 [.d (.sl (l.map encD)), .d (.v (.int .i64 i)), .d (.v (.int .i64 at_)), .d (.v (.int .i64 bad))]]) (by simp) (by simp only [Try.results28]; rfl) (by simp [resP, St.box?, PF.get, loadB, TyK.agg, *]; rfl) (by repeat (first | exact List.Sublist.refl _ | exact List.nil_sublist _ | refine List.Sublist.cons_cons _ ?_ | refine List.Sublist.cons _ ?_)) ?_
    exact ⟨by rw [HE.out]; rfl, rfl⟩
theorem fail_p (i0 : Nat) (l : List Tk) (σ : ST) (e a : Int) : PCalls Try.prog 46 [.ptr i0 0, .d (.v (.int .i64 e)), .d (.v (.int .i64 a))] (prS i0 l σ) fun p s => p = .tup [] ∧ s = prS i0 l (failS e a σ) := by
  unfold prS
  obtain ⟨i, at_, bad⟩ := σ
  by_cases h : bad = 0
  · subst h
    refine PCalls.enter Try.func46 rfl Try.ntmps46 (by simp) ?_
    simp only [argsF]
    refine go_ ?_
    refine Rc ?_
    refine go_ ?_
    refine Rc ?_
    refine go_ ?_
    refine retP_ok (st' := prS i0 l ⟨i, a, e⟩) (by simp) (by simp only [Try.results46]; rfl) (by simp [resP]; rfl) (by repeat (first | exact List.Sublist.refl _ | exact List.nil_sublist _ | refine List.Sublist.cons_cons _ ?_ | refine List.Sublist.cons _ ?_)) ⟨rfl, rfl⟩
  · have HF := Lib.hid (show failS e a ⟨i, at_, bad⟩ = ⟨i, at_, bad⟩ by unfold failS; rw [if_neg h])
    rw [HF.out]
    clear HF
    refine PCalls.enter Try.func46 rfl Try.ntmps46 (by simp) ?_
    simp only [argsF]
    refine go_ ?_
    refine retP_ok (st' := prS i0 l ⟨i, at_, bad⟩) (by simp) (by simp only [Try.results46]; rfl) (by simp [resP]; rfl) (by repeat (first | exact List.Sublist.refl _ | exact List.nil_sublist _ | refine List.Sublist.cons_cons _ ?_ | refine List.Sublist.cons _ ?_)) ⟨rfl, rfl⟩
theorem is_p (i0 : Nat) (l : List Tk) (σ : ST) (kk : Int) (k : Nat) (hkk : kk = k) (s : ByteArray) (hl : l.length ≤ 100000) (h0 : 0 < l.length) (hi : σ.i ≤ 200000) (hk : k ≤ 5) : PCalls Try.prog 81 [.ptr i0 0, .d (.v (.int .i64 kk)), .d (.v (.string s))] (prS i0 l σ) fun p st => p = .d (.v (.bool (isS l σ k s))) ∧ st = prS i0 l σ := by
  have H0 := Lib.hid (tok_p i0 l σ kk (σ.i + k) (by omega) hl h0 hi (by omega) (by omega))
  have HB := Lib.hid (show isS l σ k s = markB' (tkg l (σ.i + k)) s from rfl)
  clear hkk
  generalize tkg l (σ.i + k) = t at *
  have HM := Lib.hid (show markB' t s = ((t.kind == 4 || t.kind == 2) && t.text.toList == s.toList) from rfl)
  simp only [aggD, encD_tk, List.map_cons, List.map_nil] at H0
  refine PCalls.enter Try.func81 rfl Try.ntmps81 (by simp) ?_
  simp only [argsF]
  refine go_ ?_
  refine Re (H0.out) ?_
  rintro _ _ ⟨rfl, rfl⟩
  refine go_ ?_
  refine POps_alloc_a ?_
  intro i1 hi1
  simp only [prS, St.freshB_box, St.freshB_nil] at hi1
  refine go_ ?_
  refine Rc ?_
  refine go_ ?_
  by_cases h4 : t.kind = 4
  · refine go_ ?_
    refine retP_ok (st' := prS i0 l σ) (by simp) (by simp only [Try.results81]; rfl) (by simp [resP, St.box?, PF.get, loadB, TyK.agg, *]; rfl) (by repeat (first | exact List.Sublist.refl _ | exact List.nil_sublist _ | refine List.Sublist.cons_cons _ ?_ | refine List.Sublist.cons _ ?_)) ?_
    exact ⟨by rw [HB.out, HM.out, h4]; simp [tupP]; rfl, rfl⟩
  · by_cases h2 : t.kind = 2
    · refine go_ ?_
      refine retP_ok (st' := prS i0 l σ) (by simp) (by simp only [Try.results81]; rfl) (by simp [resP, St.box?, PF.get, loadB, TyK.agg, *]; rfl) (by repeat (first | exact List.Sublist.refl _ | exact List.nil_sublist _ | refine List.Sublist.cons_cons _ ?_ | refine List.Sublist.cons _ ?_)) ?_
      exact ⟨by rw [HB.out, HM.out, h2]; simp [tupP]; rfl, rfl⟩
    · refine go_ ?_
      refine retP_ok (st' := prS i0 l σ) (by simp) (by simp only [Try.results81]; rfl) (by simp [resP, St.box?, PF.get, loadB, TyK.agg, *]; rfl) (by repeat (first | exact List.Sublist.refl _ | exact List.nil_sublist _ | refine List.Sublist.cons_cons _ ?_ | refine List.Sublist.cons _ ?_)) ?_
      exact ⟨by rw [HB.out, HM.out, show (t.kind == 4) = false by simpa using h4, show (t.kind == 2) = false by simpa using h2]; rfl, rfl⟩
end Go.Proofs.Ytahhgpafjiljfaa

namespace Go.Proofs.Ytahhgpafjiljfaa
open Go.RowKit
set_option maxRecDepth 100000
theorem failS_bad (e a : Int) (σ : ST) (he : e ≠ 0) : ¬ (failS e a σ).bad = 0 := by
  unfold failS
  split
  · exact he
  · assumption
theorem failS_i (e a : Int) (σ : ST) : (failS e a σ).i = σ.i := by unfold failS; split <;> rfl
theorem tok0_p (i0 : Nat) (l : List Tk) (σ : ST) (hl : l.length ≤ 100000) (h0 : 0 < l.length) (hi : σ.i ≤ 150000) : PCalls Try.prog 28 [.ptr i0 0, .d (.v (.int .i64 0))] (prS i0 l σ) fun p s => p = .agg [.d (.v (.int .i64 (tkg l σ.i).kind)), .d (.v (.string (tkg l σ.i).text)), .d (.v (.int .i64 (tkg l σ.i).at_))] ∧ s = prS i0 l σ :=
  tok_p i0 l σ 0 σ.i (by omega) hl h0 (by omega) (by omega) (by omega)
theorem tok1_p (i0 : Nat) (l : List Tk) (σ : ST) (hl : l.length ≤ 100000) (h0 : 0 < l.length) (hi : σ.i ≤ 150000) : PCalls Try.prog 28 [.ptr i0 0, .d (.v (.int .i64 1))] (prS i0 l σ) fun p s => p = .agg [.d (.v (.int .i64 (tkg l (σ.i + 1)).kind)), .d (.v (.string (tkg l (σ.i + 1)).text)), .d (.v (.int .i64 (tkg l (σ.i + 1)).at_))] ∧ s = prS i0 l σ :=
  tok_p i0 l σ 1 (σ.i + 1) (by omega) hl h0 (by omega) (by omega) (by omega)
theorem tokm_p (i0 : Nat) (l : List Tk) (σ : ST) (hl : l.length ≤ 100000) (h0 : 0 < l.length) (hi : σ.i ≤ 150000) : PCalls Try.prog 28 [.ptr i0 0, .d (.v (.int .i64 (-1)))] (prS i0 l (incS σ)) fun p s => p = .agg [.d (.v (.int .i64 (tkg l σ.i).kind)), .d (.v (.string (tkg l σ.i).text)), .d (.v (.int .i64 (tkg l σ.i).at_))] ∧ s = prS i0 l (incS σ) :=
  tok_p i0 l (incS σ) (-1) σ.i (by show ((σ.i + 1 : Nat) : Int) + -1 = σ.i; omega) hl h0 (by show σ.i + 1 ≤ _; omega) (by omega) (by omega)
theorem wrap_i {i : Nat} (h : i ≤ 150000) : IntKind.i64.wrap ((i : Int) + 1) = ((i + 1 : Nat) : Int) := IntWalk.i64_in _ (by omega)
theorem want_p (i0 : Nat) (l : List Tk) (σ : ST) (s : ByteArray) (hl : l.length ≤ 100000) (h0 : 0 < l.length) (hi : σ.i ≤ 150000) : PCalls Try.prog 54 [.ptr i0 0, .d (.v (.string s))] (prS i0 l σ) fun p st => p = .tup [] ∧ st = prS i0 l (wantS l s σ) := by
  have H1 := Lib.hid (is_p i0 l σ 0 0 rfl s hl h0 (by omega) (by decide))
  have H2 := Lib.hid (tok0_p i0 l σ hl h0 hi)
  have H3 := Lib.hid (fail_p i0 l σ 1 (tkg l σ.i).at_)
  have HW := Lib.hid (show wantS l s σ = (if (if isS l σ 0 s then σ else failS 1 (tkg l σ.i).at_ σ).bad = 0 then incS (if isS l σ 0 s then σ else failS 1 (tkg l σ.i).at_ σ) else (if isS l σ 0 s then σ else failS 1 (tkg l σ.i).at_ σ)) from rfl)
  have hin := wrap_i hi
  refine PCalls.enter Try.func54 rfl Try.ntmps54 (by simp) ?_
  simp only [argsF]
  refine go_ ?_
  refine Re (H1.out) ?_
  rintro _ _ ⟨rfl, rfl⟩
  cases hb : isS l σ 0 s with
  | true =>
    rw [hb] at HW
    simp only [if_true] at HW
    clear hb H1 H2 H3
    by_cases hz : σ.bad = 0
    · rw [if_pos hz] at HW
      obtain ⟨i, a, b⟩ := σ
      simp only at hz hi hin
      subst hz
      unfold prS
      simp only
      refine go_ ?_
      refine Rc ?_
      refine go_ ?_
      refine retP_ok (st' := prS i0 l (incS ⟨i, a, 0⟩)) (by simp) (by simp only [Try.results54]; rfl) (by simp [resP]; rfl) (by repeat (first | exact List.Sublist.refl _ | exact List.nil_sublist _ | refine List.Sublist.cons_cons _ ?_ | refine List.Sublist.cons _ ?_)) ⟨rfl, by rw [HW.out]; rfl⟩
    · rw [if_neg hz] at HW
      unfold prS
      refine go_ ?_
      refine retP_ok (st' := prS i0 l σ) (by simp) (by simp only [Try.results54]; rfl) (by simp [resP]; rfl) (by repeat (first | exact List.Sublist.refl _ | exact List.nil_sublist _ | refine List.Sublist.cons_cons _ ?_ | refine List.Sublist.cons _ ?_)) ⟨rfl, by rw [HW.out]; rfl⟩
  | false =>
    rw [hb] at HW
    simp only [Bool.false_eq_true, if_false] at HW
    have hz := failS_bad 1 (tkg l σ.i).at_ σ (by decide)
    rw [if_neg hz] at HW
    refine go_ ?_
    refine Re (H2.out) ?_
    rintro _ _ ⟨rfl, rfl⟩
    refine go_ ?_
    refine Re (H3.out) ?_
    rintro _ _ ⟨rfl, rfl⟩
    unfold prS
    refine go_ ?_
    refine retP_ok (st' := prS i0 l (failS 1 (tkg l σ.i).at_ σ)) (by simp) (by simp only [Try.results54]; rfl) (by simp [resP]; rfl) (by repeat (first | exact List.Sublist.refl _ | exact List.nil_sublist _ | refine List.Sublist.cons_cons _ ?_ | refine List.Sublist.cons _ ?_)) ⟨rfl, by rw [HW.out]; rfl⟩
theorem named_p (i0 : Nat) (l : List Tk) (σ : ST) (hl : l.length ≤ 100000) (h0 : 0 < l.length) (hi : σ.i ≤ 150000) : PCalls Try.prog 87 [.ptr i0 0, .d (.v (.int .i64 0))] (prS i0 l σ) fun p st => p = .d (.v (.bool (namedS l σ 0))) ∧ st = prS i0 l σ := by
  have H1 := Lib.hid (tok0_p i0 l σ hl h0 hi)
  have HN := Lib.hid (show namedS l σ 0 = ((tkg l σ.i).kind == 1 && !((tkg l σ.i).text.toList == [95])) from rfl)
  generalize tkg l σ.i = t at *
  refine PCalls.enter Try.func87 rfl Try.ntmps87 (by simp) ?_
  simp only [argsF]
  refine go_ ?_
  refine Re (H1.out) ?_
  rintro _ _ ⟨rfl, rfl⟩
  by_cases h1 : t.kind = 1
  · refine go_ ?_
    refine Re (H1.out) ?_
    rintro _ _ ⟨rfl, rfl⟩
    refine go_ ?_
    refine retP_ok (st' := prS i0 l σ) (by simp) (by simp only [Try.results87]; rfl) (by simp [resP, St.box?, PF.get, loadB, TyK.agg, *]; rfl) (by repeat (first | exact List.Sublist.refl _ | exact List.nil_sublist _ | refine List.Sublist.cons_cons _ ?_ | refine List.Sublist.cons _ ?_)) ?_
    exact ⟨by rw [HN.out, h1]; simp [tupP]; rfl, rfl⟩
  · refine go_ ?_
    refine retP_ok (st' := prS i0 l σ) (by simp) (by simp only [Try.results87]; rfl) (by simp [resP, St.box?, PF.get, loadB, TyK.agg, *]; rfl) (by repeat (first | exact List.Sublist.refl _ | exact List.nil_sublist _ | refine List.Sublist.cons_cons _ ?_ | refine List.Sublist.cons _ ?_)) ?_
    exact ⟨by rw [HN.out, show (t.kind == 1) = false by simpa using h1]; rfl, rfl⟩
theorem name_p (i0 : Nat) (l : List Tk) (σ : ST) (hl : l.length ≤ 100000) (h0 : 0 < l.length) (hi : σ.i ≤ 150000) : PCalls Try.prog 50 [.ptr i0 0] (prS i0 l σ) fun p st => p = .d (.v (.string (nameS l σ).1)) ∧ st = prS i0 l (nameS l σ).2 := by
  have H1 := Lib.hid (named_p i0 l σ hl h0 hi)
  have H2 := Lib.hid (tok0_p i0 l σ hl h0 hi)
  have H3 := Lib.hid (fail_p i0 l σ 1 (tkg l σ.i).at_)
  have H4 := Lib.hid (tokm_p i0 l σ hl h0 hi)
  have HW := Lib.hid (show nameS l σ = (if (if namedS l σ 0 then σ else failS 1 (tkg l σ.i).at_ σ).bad = 0 then ((tkg l (if namedS l σ 0 then σ else failS 1 (tkg l σ.i).at_ σ).i).text, incS (if namedS l σ 0 then σ else failS 1 (tkg l σ.i).at_ σ)) else (⟨#[]⟩, (if namedS l σ 0 then σ else failS 1 (tkg l σ.i).at_ σ))) from rfl)
  have hin := wrap_i hi
  refine PCalls.enter Try.func50 rfl Try.ntmps50 (by simp) ?_
  simp only [argsF]
  refine go_ ?_
  refine Re (H1.out) ?_
  rintro _ _ ⟨rfl, rfl⟩
  cases hb : namedS l σ 0 with
  | true =>
    rw [hb] at HW
    simp only [if_true] at HW
    clear hb H1 H2 H3
    by_cases hz : σ.bad = 0
    · rw [if_pos hz] at HW
      obtain ⟨i, a, b⟩ := σ
      simp only at hz hi hin
      subst hz
      unfold prS
      simp only
      refine go_ ?_
      refine Rc ?_
      refine go_ ?_
      refine Re (H4.out) ?_
      rintro _ _ ⟨rfl, rfl⟩
      refine go_ ?_
      refine retP_ok (st' := prS i0 l (incS ⟨i, a, 0⟩)) (by simp) (by simp only [Try.results50]; rfl) (by simp [resP]; rfl) (by repeat (first | exact List.Sublist.refl _ | exact List.nil_sublist _ | refine List.Sublist.cons_cons _ ?_ | refine List.Sublist.cons _ ?_)) ⟨by rw [HW.out]; rfl, by rw [HW.out]; rfl⟩
    · rw [if_neg hz] at HW
      unfold prS
      refine go_ ?_
      refine retP_ok (st' := prS i0 l σ) (by simp) (by simp only [Try.results50]; rfl) (by simp [resP]; rfl) (by repeat (first | exact List.Sublist.refl _ | exact List.nil_sublist _ | refine List.Sublist.cons_cons _ ?_ | refine List.Sublist.cons _ ?_)) ⟨by rw [HW.out]; rfl, by rw [HW.out]; rfl⟩
  | false =>
    rw [hb] at HW
    simp only [Bool.false_eq_true, if_false] at HW
    have hz := failS_bad 1 (tkg l σ.i).at_ σ (by decide)
    rw [if_neg hz] at HW
    refine go_ ?_
    refine Re (H2.out) ?_
    rintro _ _ ⟨rfl, rfl⟩
    refine go_ ?_
    refine Re (H3.out) ?_
    rintro _ _ ⟨rfl, rfl⟩
    unfold prS
    refine go_ ?_
    refine retP_ok (st' := prS i0 l (failS 1 (tkg l σ.i).at_ σ)) (by simp) (by simp only [Try.results50]; rfl) (by simp [resP]; rfl) (by repeat (first | exact List.Sublist.refl _ | exact List.nil_sublist _ | refine List.Sublist.cons_cons _ ?_ | refine List.Sublist.cons _ ?_)) ⟨by rw [HW.out]; rfl, by rw [HW.out]; rfl⟩
theorem variable_p (i0 : Nat) (l : List Tk) (σ : ST) (hl : l.length ≤ 100000) (h0 : 0 < l.length) (hi : σ.i ≤ 150000) : PCalls Try.prog 103 [.ptr i0 0] (prS i0 l σ) fun p st => p = .d (.v (.string (variableS l σ).1)) ∧ st = prS i0 l (variableS l σ).2 := by
  have H2 := Lib.hid (tok0_p i0 l σ hl h0 hi)
  have H3 := Lib.hid (name_p i0 l σ hl h0 hi)
  have H4 := Lib.hid (tokm_p i0 l σ hl h0 hi)
  have HW := Lib.hid (show variableS l σ = (if (tkg l σ.i).kind == 1 && σ.bad == 0 then ((tkg l σ.i).text, incS σ) else nameS l σ) from rfl)
  have hin := wrap_i hi
  generalize tkg l σ.i = t at *
  refine PCalls.enter Try.func103 rfl Try.ntmps103 (by simp) ?_
  simp only [argsF]
  refine go_ ?_
  refine Re (H2.out) ?_
  rintro _ _ ⟨rfl, rfl⟩
  by_cases h1 : t.kind = 1
  · by_cases hz : σ.bad = 0
    · rw [if_pos (by rw [h1, hz]; rfl)] at HW
      obtain ⟨i, a, b⟩ := σ
      simp only at hz hi hin
      subst hz
      unfold prS
      simp only
      refine go_ ?_
      refine Rc ?_
      refine go_ ?_
      refine Re (H4.out) ?_
      rintro _ _ ⟨rfl, rfl⟩
      refine go_ ?_
      refine retP_ok (st' := prS i0 l (incS ⟨i, a, 0⟩)) (by simp) (by simp only [Try.results103]; rfl) (by simp [resP]; rfl) (by repeat (first | exact List.Sublist.refl _ | exact List.nil_sublist _ | refine List.Sublist.cons_cons _ ?_ | refine List.Sublist.cons _ ?_)) ⟨by rw [HW.out]; rfl, by rw [HW.out]; rfl⟩
    · rw [if_neg (by simp [hz])] at HW
      unfold prS
      refine go_ ?_
      refine Re (H3.out) ?_
      rintro _ _ ⟨rfl, rfl⟩
      refine go_ ?_
      refine retP_ok (st' := prS i0 l (nameS l σ).2) (by simp) (by simp only [Try.results103]; rfl) (by simp [resP, St.box?, PF.get, loadB, TyK.agg, *]; rfl) (by repeat (first | exact List.Sublist.refl _ | exact List.nil_sublist _ | refine List.Sublist.cons_cons _ ?_ | refine List.Sublist.cons _ ?_)) ?_
      exact ⟨by rw [HW.out]; rfl, by rw [HW.out]; rfl⟩
  · rw [if_neg (by simp [h1])] at HW
    refine go_ ?_
    refine Re (H3.out) ?_
    rintro _ _ ⟨rfl, rfl⟩
    refine go_ ?_
    refine retP_ok (st' := prS i0 l (nameS l σ).2) (by simp) (by simp only [Try.results103]; rfl) (by simp [resP, St.box?, PF.get, loadB, TyK.agg, *]; rfl) (by repeat (first | exact List.Sublist.refl _ | exact List.nil_sublist _ | refine List.Sublist.cons_cons _ ?_ | refine List.Sublist.cons _ ?_)) ?_
    exact ⟨by rw [HW.out]; rfl, by rw [HW.out]⟩
end Go.Proofs.Ytahhgpafjiljfaa

namespace Go.Proofs.Ytahhgpafjiljfaa
open Go.RowKit
set_option maxRecDepth 100000
theorem binder_p (i0 : Nat) (l : List Tk) (σ : ST) (hl : l.length ≤ 100000) (h0 : 0 < l.length) (hi : σ.i ≤ 150000) : PCalls Try.prog 83 [.ptr i0 0] (prS i0 l σ) fun p st => p = .d (.v (.bool (binderS l σ))) ∧ st = prS i0 l σ := by
  have H1 := Lib.hid (is_p i0 l σ 0 0 rfl sPar hl h0 (by omega) (by decide))
  have H2 := Lib.hid (tok1_p i0 l σ hl h0 hi)
  have H3 := Lib.hid (is_p i0 l σ 2 2 rfl sCol hl h0 (by omega) (by decide))
  have HB := Lib.hid (show binderS l σ = (isS l σ 0 sPar && (tkg l (σ.i + 1)).kind == 1 && isS l σ 2 sCol) from rfl)
  unfold sPar sCol at *
  generalize tkg l (σ.i + 1) = t at *
  refine PCalls.enter Try.func83 rfl Try.ntmps83 (by simp) ?_
  simp only [argsF]
  refine go_ ?_
  refine Re (H1.out) ?_
  rintro _ _ ⟨rfl, rfl⟩
  cases h1 : isS l σ 0 ⟨#[40]⟩ with
  | false =>
    refine go_ ?_
    refine retP_ok (st' := prS i0 l σ) (by simp) (by simp only [Try.results83]; rfl) (by simp [resP, St.box?, PF.get, loadB, TyK.agg, *]; rfl) (by repeat (first | exact List.Sublist.refl _ | exact List.nil_sublist _ | refine List.Sublist.cons_cons _ ?_ | refine List.Sublist.cons _ ?_)) ?_
    exact ⟨by rw [HB.out, h1]; rfl, rfl⟩
  | true =>
    refine go_ ?_
    refine Re (H2.out) ?_
    rintro _ _ ⟨rfl, rfl⟩
    by_cases h2 : t.kind = 1
    · refine go_ ?_
      refine Re (H3.out) ?_
      rintro _ _ ⟨rfl, rfl⟩
      refine go_ ?_
      refine retP_ok (st' := prS i0 l σ) (by simp) (by simp only [Try.results83]; rfl) (by simp [resP, St.box?, PF.get, loadB, TyK.agg, *]; rfl) (by repeat (first | exact List.Sublist.refl _ | exact List.nil_sublist _ | refine List.Sublist.cons_cons _ ?_ | refine List.Sublist.cons _ ?_)) ?_
      exact ⟨by rw [HB.out, h1, h2]; simp [tupP]; rfl, rfl⟩
    · refine go_ ?_
      refine retP_ok (st' := prS i0 l σ) (by simp) (by simp only [Try.results83]; rfl) (by simp [resP, St.box?, PF.get, loadB, TyK.agg, *]; rfl) (by repeat (first | exact List.Sublist.refl _ | exact List.nil_sublist _ | refine List.Sublist.cons_cons _ ?_ | refine List.Sublist.cons _ ?_)) ?_
      exact ⟨by rw [HB.out, h1, show (t.kind == 1) = false by simpa using h2]; rfl, rfl⟩
theorem begins_p (i0 : Nat) (l : List Tk) (σ : ST) (hl : l.length ≤ 100000) (h0 : 0 < l.length) (hi : σ.i ≤ 150000) : PCalls Try.prog 104 [.ptr i0 0] (prS i0 l σ) fun p st => p = .d (.v (.bool (beginsS l σ))) ∧ st = prS i0 l σ := by
  have H1 := Lib.hid (named_p i0 l σ hl h0 hi)
  have H2 := Lib.hid (is_p i0 l σ 0 0 rfl sSet hl h0 (by omega) (by decide))
  have H3 := Lib.hid (is_p i0 l σ 0 0 rfl sPar hl h0 (by omega) (by decide))
  have H4 := Lib.hid (binder_p i0 l σ hl h0 hi)
  have HB := Lib.hid (show beginsS l σ = (namedS l σ 0 || isS l σ 0 sSet || (isS l σ 0 sPar && !binderS l σ)) from rfl)
  unfold sPar sSet at *
  refine PCalls.enter Try.func104 rfl Try.ntmps104 (by simp) ?_
  simp only [argsF]
  refine go_ ?_
  refine Re (H1.out) ?_
  rintro _ _ ⟨rfl, rfl⟩
  cases h1 : namedS l σ 0 with
  | true =>
    refine go_ ?_
    refine retP_ok (st' := prS i0 l σ) (by simp) (by simp only [Try.results104]; rfl) (by simp [resP, St.box?, PF.get, loadB, TyK.agg, *]; rfl) (by repeat (first | exact List.Sublist.refl _ | exact List.nil_sublist _ | refine List.Sublist.cons_cons _ ?_ | refine List.Sublist.cons _ ?_)) ?_
    exact ⟨by rw [HB.out, h1]; rfl, rfl⟩
  | false =>
    refine go_ ?_
    refine Re (H2.out) ?_
    rintro _ _ ⟨rfl, rfl⟩
    cases h2 : isS l σ 0 ⟨#[83, 101, 116]⟩ with
    | true =>
      refine go_ ?_
      refine retP_ok (st' := prS i0 l σ) (by simp) (by simp only [Try.results104]; rfl) (by simp [resP, St.box?, PF.get, loadB, TyK.agg, *]; rfl) (by repeat (first | exact List.Sublist.refl _ | exact List.nil_sublist _ | refine List.Sublist.cons_cons _ ?_ | refine List.Sublist.cons _ ?_)) ?_
      exact ⟨by rw [HB.out, h1, h2]; rfl, rfl⟩
    | false =>
      refine go_ ?_
      refine Re (H3.out) ?_
      rintro _ _ ⟨rfl, rfl⟩
      cases h3 : isS l σ 0 ⟨#[40]⟩ with
      | false =>
        refine go_ ?_
        refine retP_ok (st' := prS i0 l σ) (by simp) (by simp only [Try.results104]; rfl) (by simp [resP, St.box?, PF.get, loadB, TyK.agg, *]; rfl) (by repeat (first | exact List.Sublist.refl _ | exact List.nil_sublist _ | refine List.Sublist.cons_cons _ ?_ | refine List.Sublist.cons _ ?_)) ?_
        exact ⟨by rw [HB.out, h1, h2, h3]; rfl, rfl⟩
      | true =>
        refine go_ ?_
        refine Re (H4.out) ?_
        rintro _ _ ⟨rfl, rfl⟩
        refine go_ ?_
        refine retP_ok (st' := prS i0 l σ) (by simp) (by simp only [Try.results104]; rfl) (by simp [resP, St.box?, PF.get, loadB, TyK.agg, *]; rfl) (by repeat (first | exact List.Sublist.refl _ | exact List.nil_sublist _ | refine List.Sublist.cons_cons _ ?_ | refine List.Sublist.cons _ ?_)) ?_
        exact ⟨by rw [HB.out, h1, h2, h3]; rfl, rfl⟩
theorem set_p (i0 : Nat) (l : List Tk) (σ : ST) (hl : l.length ≤ 100000) (h0 : 0 < l.length) (hi : σ.i ≤ 100000) : PCalls Try.prog 105 [.ptr i0 0] (prS i0 l σ) fun p st => p = aggD (setS l σ).1 ∧ st = prS i0 l (setS l σ).2 := by
  have H1 := Lib.hid (tok0_p i0 l σ hl h0 (by omega))
  have H2 := Lib.hid (tok0_p i0 l (incS σ) hl h0 (by show σ.i + 1 ≤ _; omega))
  have H3 := Lib.hid (fail_p i0 l (incS σ) 1 (tkg l (incS σ).i).at_)
  have HS := Lib.hid (show setS l σ = (if (tkg l (incS σ).i).kind == 3 then
    (.mk 2 (tkg l σ.i).at_ ⟨#[]⟩ (numT (tkg l (incS σ).i).text) [], incS (if 7 < numT (tkg l (incS σ).i).text then failS 1 (tkg l (incS σ).i).at_ (incS σ) else incS σ))
  else (.mk 2 (tkg l σ.i).at_ ⟨#[]⟩ 0 [], incS σ)) from rfl)
  have hin := wrap_i (show σ.i ≤ 150000 by omega)
  have hin2 : IntKind.i64.wrap (((incS σ).i : Int) + 1) = (((incS σ).i + 1 : Nat) : Int) := wrap_i (show σ.i + 1 ≤ 150000 by omega)
  have hii : ((incS σ).i : Int) = (σ.i : Int) + 1 := rfl
  have hfi := failS_i 1 (tkg l (incS σ).i).at_ (incS σ)
  have HFI := Lib.hid hfi
  clear hfi hii
  generalize tkg l (incS σ).i = t at *
  refine PCalls.enter Try.func105 rfl Try.ntmps105 (by simp) ?_
  simp only [argsF]
  refine go_ ?_
  refine POps_alloc_a ?_
  intro i1 hi1
  simp only [prS, St.freshB_box, St.freshB_nil] at hi1
  refine go_ ?_
  refine Rd 1 1 (H1.out) ?_
  rintro _ _ ⟨rfl, rfl⟩
  refine go_ ?_
  refine POps_alloc_a ?_
  intro i2 hi2
  simp only [prS, List.cons_append, List.nil_append, List.append_nil, St.freshB_box, St.freshB_nil] at hi2
  refine go_ ?_
  refine Rc ?_
  unfold prS
  refine go_ ?_
  refine Rc ?_
  refine go_ ?_
  refine Rd 2 1 (H2.out) ?_
  rintro _ _ ⟨rfl, rfl⟩
  by_cases h3 : t.kind = 3
  · rw [if_pos (by rw [h3]; rfl)] at HS
    refine go_ ?_
    refine Rd 2 1 (H2.out) ?_
    rintro _ _ ⟨rfl, rfl⟩
    refine go_ ?_
    refine POps_call_a (number_p t.text) ?_
    by_cases h7 : (7 : Int) < numT t.text
    · rw [if_pos h7] at HS
      have hin3 : IntKind.i64.wrap (((failS 1 t.at_ (incS σ)).i : Int) + 1) = (((failS 1 t.at_ (incS σ)).i + 1 : Nat) : Int) := by rw [HFI.out]; exact hin2
      refine go_ ?_
      refine Rd 2 1 (H2.out) ?_
      rintro _ _ ⟨rfl, rfl⟩
      refine go_ ?_
      refine Rd 2 1 (H3.out) ?_
      rintro _ _ ⟨rfl, rfl⟩
      unfold prS
      refine go_ ?_
      refine Rc ?_
      refine go_ ?_
      refine Rc ?_
      refine go_ ?_
      refine Rc ?_
      refine go_ ?_
      refine retP_ok (st' := prS i0 l (incS (failS 1 t.at_ (incS σ)))) (by simp) (by simp only [Try.results105]; rfl) (by simp [resP, St.box?, PF.get, loadB, TyK.agg, *]; rfl) (by repeat (first | exact List.Sublist.refl _ | exact List.nil_sublist _ | refine List.Sublist.cons_cons _ ?_ | refine List.Sublist.cons _ ?_)) ?_
      exact ⟨by rw [HS.out]; simp [aggD, encD_nd]; rfl, by rw [HS.out]; rfl⟩
    · rw [if_neg h7] at HS
      unfold prS
      refine go_ ?_
      refine Rc ?_
      refine go_ ?_
      refine Rc ?_
      refine go_ ?_
      refine Rc ?_
      refine go_ ?_
      refine retP_ok (st' := prS i0 l (incS (incS σ))) (by simp) (by simp only [Try.results105]; rfl) (by simp [resP, St.box?, PF.get, loadB, TyK.agg, *]; rfl) (by repeat (first | exact List.Sublist.refl _ | exact List.nil_sublist _ | refine List.Sublist.cons_cons _ ?_ | refine List.Sublist.cons _ ?_)) ?_
      exact ⟨by rw [HS.out]; simp [aggD, encD_nd]; rfl, by rw [HS.out]; rfl⟩
  · rw [if_neg (by simp [h3])] at HS
    refine go_ ?_
    refine Rc ?_
    refine go_ ?_
    refine retP_ok (st' := prS i0 l (incS σ)) (by simp) (by simp only [Try.results105]; rfl) (by simp [resP, St.box?, PF.get, loadB, TyK.agg, *]; rfl) (by repeat (first | exact List.Sublist.refl _ | exact List.nil_sublist _ | refine List.Sublist.cons_cons _ ?_ | refine List.Sublist.cons _ ?_)) ?_
    exact ⟨by rw [HS.out]; simp [aggD, encD_nd]; rfl, by rw [HS.out]; rfl⟩
end Go.Proofs.Ytahhgpafjiljfaa

namespace Go.Proofs.Ytahhgpafjiljfaa
open Go.RowKit
set_option maxRecDepth 100000
theorem tk_lt {l : List Tk} (hl : TkOk l) {j : Nat} (h : (tkg l j).kind ≠ 5) : j + 1 < l.length := by
  rcases Nat.lt_or_ge (j + 1) l.length with h1 | h1
  · exact h1
  · exfalso
    apply h
    have hp := hl.pos
    rcases Nat.lt_or_ge j l.length with h2 | h2
    · rw [show j = l.length - 1 by omega]; exact hl.last
    · have := hl.last
      rw [tkg_lt (by omega)] at this
      rw [tkg_ge h2 hp]; exact this
theorem mark_k {t : Tk} {s : ByteArray} (h : markB' t s = true) : t.kind ≠ 5 := by
  unfold markB' at h
  simp only [Bool.and_eq_true, Bool.or_eq_true, beq_iff_eq] at h
  rcases h.1 with h | h <;> rw [h] <;> decide
theorem named_k {t : Tk} (h : namedK t = true) : t.kind ≠ 5 := by
  unfold namedK at h
  simp only [Bool.and_eq_true, beq_iff_eq] at h
  rw [h.1]; decide
/-- it stands at a token, no more are left than before -/
def Adv (l : List Tk) (σ τ : ST) : Prop := Wf l τ ∧ (τ.bad = 0 → σ.bad = 0 ∧ σ.i ≤ τ.i)
/-- it stands at a token, fewer are left than before -/
def AdvS (l : List Tk) (σ τ : ST) : Prop := Wf l τ ∧ (τ.bad = 0 → σ.bad = 0 ∧ σ.i + 1 ≤ τ.i)
theorem AdvS.adv {l : List Tk} {σ τ : ST} (h : AdvS l σ τ) : Adv l σ τ := ⟨h.1, fun hb => ⟨(h.2 hb).1, by have := (h.2 hb).2; omega⟩⟩
theorem Adv.refl {l : List Tk} {σ : ST} (h : Wf l σ) : Adv l σ σ := ⟨h, fun hb => ⟨hb, Nat.le_refl _⟩⟩
theorem Adv.trans {l : List Tk} {σ τ ρ : ST} (h1 : Adv l σ τ) (h2 : Adv l τ ρ) : Adv l σ ρ := ⟨h2.1, fun hb => by
  obtain ⟨a, b⟩ := h2.2 hb
  obtain ⟨c, d⟩ := h1.2 a
  exact ⟨c, by omega⟩⟩
theorem AdvS.trans {l : List Tk} {σ τ ρ : ST} (h1 : AdvS l σ τ) (h2 : Adv l τ ρ) : AdvS l σ ρ := ⟨h2.1, fun hb => by
  obtain ⟨a, b⟩ := h2.2 hb
  obtain ⟨c, d⟩ := h1.2 a
  exact ⟨c, by omega⟩⟩
theorem Adv.transS {l : List Tk} {σ τ ρ : ST} (h1 : Adv l σ τ) (h2 : AdvS l τ ρ) : AdvS l σ ρ := ⟨h2.1, fun hb => by
  obtain ⟨a, b⟩ := h2.2 hb
  obtain ⟨c, d⟩ := h1.2 a
  exact ⟨c, by omega⟩⟩
section
variable {l : List Tk} (hl : TkOk l)
include hl
theorem inc_adv {σ : ST} (h : (tkg l σ.i).kind ≠ 5) : AdvS l σ (incS σ) := ⟨tk_lt hl h, fun hb => ⟨hb, Nat.le_refl _⟩⟩
theorem fail_adv {σ : ST} (e a : Int) (he : e ≠ 0) (h : Wf l σ) : AdvS l σ (failS e a σ) := by
  have _ := hl
  refine ⟨?_, fun hb => absurd hb (failS_bad e a σ he)⟩
  unfold Wf; rw [failS_i]; exact h
theorem want_adv {σ : ST} (s : ByteArray) (h : Wf l σ) : AdvS l σ (wantS l s σ) := by
  unfold wantS
  cases hb : isS l σ 0 s with
  | true =>
    simp only [if_true]
    split
    · exact inc_adv hl (mark_k hb)
    · rename_i hz
      exact ⟨h, fun hb => absurd hb hz⟩
  | false =>
    simp only [Bool.false_eq_true, if_false]
    rw [if_neg (failS_bad _ _ _ (by decide))]
    exact fail_adv hl _ _ (by decide) h
theorem name_adv {σ : ST} (h : Wf l σ) : AdvS l σ (nameS l σ).2 := by
  unfold nameS
  cases hb : namedS l σ 0 with
  | true =>
    simp only [if_true]
    split
    · exact inc_adv hl (named_k hb)
    · rename_i hz
      exact ⟨h, fun hb => absurd hb hz⟩
  | false =>
    simp only [Bool.false_eq_true, if_false]
    rw [if_neg (failS_bad _ _ _ (by decide))]
    exact fail_adv hl _ _ (by decide) h
theorem variable_adv {σ : ST} (h : Wf l σ) : AdvS l σ (variableS l σ).2 := by
  unfold variableS
  split
  · rename_i hk
    simp only [Bool.and_eq_true, beq_iff_eq] at hk
    exact inc_adv hl (by rw [hk.1]; decide)
  · exact name_adv hl h
theorem set_adv {σ : ST} (h : isS l σ 0 sSet = true) : AdvS l σ (setS l σ).2 := by
  have h1 := inc_adv hl (mark_k h)
  unfold setS
  simp only
  split
  · rename_i hk
    have hk : (tkg l (incS σ).i).kind = 3 := by simpa using hk
    split
    · have h2 := h1.trans (fail_adv hl 1 (tkg l (incS σ).i).at_ (by decide) h1.1).adv
      refine h2.trans (inc_adv hl ?_).adv
      rw [failS_i, hk]; decide
    · exact h1.trans (inc_adv hl (by rw [hk]; decide)).adv
  · exact h1
theorem parse_adv : ∀ (n : Nat),
    (∀ k a σ, Wf l σ → Adv l σ (typedS l n k a σ).2) ∧ (∀ σ, Wf l σ → Adv l σ (termS l n σ).2) ∧ (∀ σ, Wf l σ → Adv l σ (atomS l n σ).2 ∧ (0 < n → AdvS l σ (atomS l n σ).2)) ∧ (∀ σ, Wf l σ → Adv l σ (appS l n σ).2) ∧ (∀ g σ, Wf l σ → Adv l σ (appL l n g σ).2) := by
  intro n
  induction n with
  | zero => exact ⟨fun _ _ _ h => Adv.refl h, fun _ h => Adv.refl h, fun _ h => ⟨Adv.refl h, fun h => absurd h (Nat.lt_irrefl 0)⟩, fun _ h => Adv.refl h, fun _ _ h => Adv.refl h⟩
  | succ n ih =>
    obtain ⟨i1, i2, i3, i4, i5⟩ := ih
    refine ⟨fun k a σ h => ?_, fun σ h => ?_, fun σ h => ?_, fun σ h => ?_, fun g σ h => ?_⟩
    · simp only [typedS]
      have h1 := want_adv hl sPar h
      have h2 := h1.trans (variable_adv hl h1.1).adv
      have h3 := h2.trans (want_adv hl sCol h2.1).adv
      have h4 := h3.trans (i2 _ h3.1)
      have h5 := h4.trans (want_adv hl sRap h4.1).adv
      have h6 := h5.trans (want_adv hl sArr h5.1).adv
      exact (h6.trans (i2 _ h6.1)).adv
    · simp only [termS]
      split
      · exact Adv.refl h
      · split
        · rename_i hi
          have h1 := inc_adv hl (mark_k hi)
          exact (h1.trans (i1 _ _ _ h1.1)).adv
        · split
          · exact i1 _ _ _ h
          · have h1 := i4 σ h
            split
            · rename_i hi
              have h2 := h1.transS (inc_adv hl (mark_k hi.2))
              exact (h2.trans (i2 _ h2.1)).adv
            · exact h1
    · have : AdvS l σ (atomS l (n + 1) σ).2 := by
        simp only [atomS]
        split
        · rename_i hb
          exact ⟨h, fun hb' => absurd hb' hb⟩
        · split
          · rename_i hs; exact set_adv hl hs
          · split
            · rename_i hi
              have h1 := inc_adv hl (mark_k hi)
              have h2 := h1.trans (i2 _ h1.1)
              exact h2.trans (want_adv hl sRap h2.1).adv
            · exact name_adv hl h
      exact ⟨this.adv, fun _ => this⟩
    · simp only [appS]
      have h1 := (i3 σ h).1
      exact h1.trans (i5 _ _ h1.1)
    · simp only [appL]
      split
      · have h1 := (i3 σ h).1
        exact h1.trans (i5 _ _ h1.1)
      · exact Adv.refl h
end
end Go.Proofs.Ytahhgpafjiljfaa

namespace Go.Proofs.Ytahhgpafjiljfaa
open Go.RowKit
set_option maxRecDepth 100000
theorem agg_mk (k a n : Int) (s : ByteArray) (sub : List Nd) : aggD (Nd.mk k a s n sub) = .agg [.d (.v (.int .i64 k)), .d (.v (.int .i64 a)), .d (.v (.string s)), .d (.v (.int .i64 n)), .d (.sl (sub.map encD))] := by
  simp only [aggD, encD_nd, List.map_cons, List.map_nil, Nd.kind, Nd.at, Nd.name, Nd.num, Nd.sub]
def TermC (l : List Tk) (n : Nat) (σ : ST) : Prop := ∀ i0, PCalls Try.prog 45 [.ptr i0 0] (prS i0 l σ) fun p s => p = aggD (termS l n σ).1 ∧ s = prS i0 l (termS l n σ).2
def TypedC (l : List Tk) (n : Nat) (k a : Int) (σ : ST) : Prop := ∀ i0, PCalls Try.prog 82 [.ptr i0 0, .d (.v (.int .i64 k)), .d (.v (.int .i64 a))] (prS i0 l σ) fun p s => p = aggD (typedS l n k a σ).1 ∧ s = prS i0 l (typedS l n k a σ).2
def AtomC (l : List Tk) (n : Nat) (σ : ST) : Prop := ∀ i0, PCalls Try.prog 86 [.ptr i0 0] (prS i0 l σ) fun p s => p = aggD (atomS l n σ).1 ∧ s = prS i0 l (atomS l n σ).2
def AppC (l : List Tk) (n : Nat) (σ : ST) : Prop := ∀ i0, PCalls Try.prog 84 [.ptr i0 0] (prS i0 l σ) fun p s => p = aggD (appS l n σ).1 ∧ s = prS i0 l (appS l n σ).2
def Fu (l : List Tk) (n c : Nat) (σ : ST) : Prop := 0 < n ∧ (σ.bad = 0 → 6 * (l.length - σ.i) + c ≤ n)
theorem Fu.next {l : List Tk} {n c d : Nat} {σ τ : ST} (h : Fu l (n + 1) c σ) (hw : Wf l σ) (ha : AdvS l σ τ) (hn : 0 < n) (hc : d ≤ c + 5) : Fu l n d τ := ⟨hn, fun hb => by
  obtain ⟨h1, h2⟩ := ha.2 hb
  have h3 := h.2 h1
  have := ha.1
  unfold Wf at hw this
  omega⟩
theorem Fu.same {l : List Tk} {n c d : Nat} {σ τ : ST} (h : Fu l (n + 1) c σ) (hw : Wf l σ) (ha : Adv l σ τ) (hn : 0 < n) (hc : d + 1 ≤ c) : Fu l n d τ := ⟨hn, fun hb => by
  obtain ⟨h1, h2⟩ := ha.2 hb
  have h3 := h.2 h1
  have := ha.1
  unfold Wf at hw this
  omega⟩
theorem Wf.le {l : List Tk} (hl : TkOk l) {σ : ST} (h : Wf l σ) : σ.i ≤ 100000 := by
  have := hl.len
  unfold Wf at h; omega
set_option maxHeartbeats 4000000 in
theorem typed_w {l : List Tk} (hl : TkOk l) (n : Nat) (hn : 0 < n) (IH : ∀ σ, Wf l σ → Fu l n 6 σ → TermC l n σ) (k a : Int) (σ : ST) (hw : Wf l σ) (hf : Fu l (n + 1) 4 σ) : TypedC l (n + 1) k a σ := by
  intro i0
  have h1 := want_adv hl sPar hw
  have h2 := h1.trans (variable_adv hl h1.1).adv
  have h3 := h2.trans (want_adv hl sCol h2.1).adv
  have h4 := h3.trans ((parse_adv hl n).2.1 _ h3.1)
  have h5 := h4.trans (want_adv hl sRap h4.1).adv
  have h6 := h5.trans (want_adv hl sArr h5.1).adv
  have c1 := want_p i0 l σ sPar hl.len hl.pos (Nat.le_trans (hw.le hl) (by decide))
  have c2 := variable_p i0 l _ hl.len hl.pos (Nat.le_trans (h1.1.le hl) (by decide))
  have c3 := want_p i0 l _ sCol hl.len hl.pos (Nat.le_trans (h2.1.le hl) (by decide))
  have c4 := IH _ h3.1 (hf.next hw h3 hn (by omega)) i0
  have c5 := want_p i0 l _ sRap hl.len hl.pos (Nat.le_trans (h4.1.le hl) (by decide))
  have c6 := want_p i0 l _ sArr hl.len hl.pos (Nat.le_trans (h5.1.le hl) (by decide))
  have c7 := IH _ h6.1 (hf.next hw h6 hn (by omega)) i0
  have HT := Lib.hid (show typedS l (n + 1) k a σ = (.mk k a (variableS l (wantS l sPar σ)).1 0 [(termS l n (wantS l sCol (variableS l (wantS l sPar σ)).2)).1, (termS l n (wantS l sArr (wantS l sRap (termS l n (wantS l sCol (variableS l (wantS l sPar σ)).2)).2))).1], (termS l n (wantS l sArr (wantS l sRap (termS l n (wantS l sCol (variableS l (wantS l sPar σ)).2)).2))).2) from rfl)
  clear h1 h2 h3 h4 h5 h6 hf hw IH
  generalize wantS l sPar σ = σ1 at *
  generalize (variableS l σ1).1 = x at *
  generalize (variableS l σ1).2 = σ2 at *
  generalize wantS l sCol σ2 = σ3 at *
  generalize (termS l n σ3).1 = A at *
  generalize (termS l n σ3).2 = σ4 at *
  generalize wantS l sRap σ4 = σ5 at *
  generalize wantS l sArr σ5 = σ6 at *
  generalize (termS l n σ6).1 = B at *
  generalize (termS l n σ6).2 = σ7 at *
  simp only [aggD, encD_nd, List.map_cons, List.map_nil] at c4 c7
  unfold sPar at c1
  unfold sCol at c3
  unfold sRap at c5
  unfold sArr at c6
  have C1 := Lib.hid c1
  have C2 := Lib.hid c2
  have C3 := Lib.hid c3
  have C4 := Lib.hid c4
  have C5 := Lib.hid c5
  have C6 := Lib.hid c6
  have C7 := Lib.hid c7
  clear c1 c2 c3 c4 c5 c6 c7
  rw [HT.out]
  clear HT
  refine PCalls.enter Try.func82 rfl Try.ntmps82 (by simp) ?_
  simp only [argsF]
  refine go_ ?_
  refine POps_alloc_a ?_
  intro i1 hi1
  simp only [prS, St.freshB_box, St.freshB_nil] at hi1
  refine go_ ?_
  refine POps_alloc_a ?_
  intro i2 hi2
  simp only [prS, St.freshB_box, St.freshB_nil] at hi2
  refine go_ ?_
  refine Rc ?_
  refine go_ ?_
  refine Rd 2 1 (C1.out) ?_
  rintro _ _ ⟨rfl, rfl⟩
  refine go_ ?_
  refine Rd 2 1 (C2.out) ?_
  rintro _ _ ⟨rfl, rfl⟩
  refine go_ ?_
  refine Rc ?_
  refine go_ ?_
  refine Rd 2 1 (C3.out) ?_
  rintro _ _ ⟨rfl, rfl⟩
  refine go_ ?_
  refine Rd 2 1 (C4.out) ?_
  rintro _ _ ⟨rfl, rfl⟩
  refine go_ ?_
  refine POps_alloc_a ?_
  intro i3 hi3
  simp only [prS, List.cons_append, List.nil_append, List.append_nil, St.freshB_box, St.freshB_nil] at hi3
  refine go_ ?_
  refine Rc ?_
  refine go_ ?_
  refine Rd 3 1 (C5.out) ?_
  rintro _ _ ⟨rfl, rfl⟩
  refine go_ ?_
  refine Rd 3 1 (C6.out) ?_
  rintro _ _ ⟨rfl, rfl⟩
  refine go_ ?_
  refine PW_drawnL (J := keepJ [(i3, _)]) [(0, .a), (1, .a), (2, .e), (3, .a), (4, .a), (5, .e)] (by kernel_rfl) (by rfl) (by kernel_rfl) (by (repeat (first | exact keepJ_nil _ | refine keepJ_cons (by simp [St.box?, *] <;> rfl) ?_))) ?_
  repeat (first | with_reducible refine PL_nil ?_ | refine PL_gn2 ?_ | refine PL_s2 ?_ | refine PL_b2 ?_)
  refine PL_callX 3 1 (C7.out) ?_
  rintro _ _ ⟨rfl, rfl⟩
  refine ⟨.inr (by (repeat (first | exact keepJ_nil _ | refine keepJ_cons (by simp [St.box?, *] <;> rfl) ?_))), ?_⟩
  repeat (first | with_reducible refine PL_nil ?_ | refine PL_gn2 ?_ | refine PL_s2 ?_ | refine PL_b2 ?_)
  refine PL_bs ?_ rfl (by decide) rfl (by simp; rfl) (by rfl) (by simp; rfl) (by rfl) (by decide) (by decide) (by simp [nev, nevA, nevB, evBuild, PF.eval, PF.get, PF.wants, cPV, cCell, PV.rows, evBin, evUn, evConv, evLen, loadA, loadB, TyK.agg, partA, St.box?, St.tok?, St.setBox, St.setTok, fillO, spl, PV.ps, PV.one, evalArgs, aggD, slD, encD_nd, encD_bd, encD_rw, encD_dc, encD_str, encD_int, *]; rfl) (by simp [rowsOf, toDs, PV.toD]; rfl)
  repeat (first | with_reducible refine PL_nil ?_ | refine PL_gn2 ?_ | refine PL_s2 ?_ | refine PL_b2 ?_)
  refine PL_store rfl rfl (by simp [nev, nevA, nevB, evBuild, PF.eval, PF.get, PF.wants, cPV, cCell, PV.rows, evBin, evUn, evConv, evLen, loadA, loadB, TyK.agg, partA, St.box?, St.tok?, St.setBox, St.setTok, fillO, spl, PV.ps, PV.one, evalArgs, aggD, slD, encD_nd, encD_bd, encD_rw, encD_dc, encD_str, encD_int, *]; rfl) (by rfl) (by simp [nev, nevA, nevB, evBuild, PF.eval, PF.get, PF.wants, cPV, cCell, PV.rows, evBin, evUn, evConv, evLen, loadA, loadB, TyK.agg, partA, St.box?, St.tok?, St.setBox, St.setTok, fillO, spl, PV.ps, PV.one, evalArgs, aggD, slD, encD_nd, encD_bd, encD_rw, encD_dc, encD_str, encD_int, *]; rfl) (by simp [PV.ps, aggD, slD, encD_nd, encD_bd, encD_rw, encD_dc, encD_str, encD_int]; rfl) (by first | rfl | (simp [*]; done) | (simp [PV.one, *]; done) | fail) (by simp; rfl) (by first | (simp; done) | fail) (by simp [nev, nevA, nevB, evBuild, PF.eval, PF.get, PF.wants, cPV, cCell, PV.rows, evBin, evUn, evConv, evLen, loadA, loadB, TyK.agg, partA, St.box?, St.tok?, St.setBox, St.setTok, fillO, spl, PV.ps, PV.one, evalArgs, aggD, slD, encD_nd, encD_bd, encD_rw, encD_dc, encD_str, encD_int, *]; rfl) (by rfl) (by first | (simp; done) | fail) (by simp [St.setBox, spl, *]; rfl) (by first | exact .inl (by decide +kernel) | exact .inr (by (repeat (first | exact keepJ_nil _ | refine keepJ_cons (by simp [St.box?, *] <;> rfl) ?_)))) ?_
  repeat (first | with_reducible refine PL_nil ?_ | refine PL_gn2 ?_ | refine PL_s2 ?_ | refine PL_b2 ?_)
  refine go_ ?_
  refine Rc ?_
  refine go_ ?_
  refine retP_ok (st' := prS i0 l σ7) (by simp) (by simp only [Try.results82]; rfl) (by simp [resP, St.box?, PF.get, loadB, TyK.agg, *]; rfl) (by repeat (first | exact List.Sublist.refl _ | exact List.nil_sublist _ | refine List.Sublist.cons_cons _ ?_ | refine List.Sublist.cons _ ?_)) ?_
  exact ⟨by rw [agg_mk]; simp only [List.map_cons, List.map_nil, encD_nd]; rfl, rfl⟩
theorem atom_w {l : List Tk} (hl : TkOk l) (n : Nat) (IH : ∀ σ, Wf l σ → Fu l n 6 σ → 0 < n → TermC l n σ) (σ : ST) (hw : Wf l σ) (hf : Fu l (n + 1) 3 σ) : AtomC l (n + 1) σ := by
  intro i0
  have b1 : σ.i ≤ 150000 := Nat.le_trans (hw.le hl) (by decide)
  have c1 := Lib.hid (is_p i0 l σ 0 0 rfl sSet hl.len hl.pos (by omega) (by decide))
  have c2 := Lib.hid (set_p i0 l σ hl.len hl.pos (hw.le hl))
  have c3 := Lib.hid (is_p i0 l σ 0 0 rfl sPar hl.len hl.pos (by omega) (by decide))
  have c4 := Lib.hid (tok0_p i0 l σ hl.len hl.pos b1)
  have c5 := Lib.hid (name_p i0 l σ hl.len hl.pos b1)
  have HT := Lib.hid (show atomS l (n + 1) σ = (if σ.bad ≠ 0 then (zNd, σ) else if isS l σ 0 sSet then setS l σ else if isS l σ 0 sPar then ((termS l n (incS σ)).1, wantS l sRap (termS l n (incS σ)).2) else (.mk 1 (tkg l σ.i).at_ (nameS l σ).1 0 [], (nameS l σ).2)) from by simp only [atomS])
  have hin := wrap_i b1
  unfold sSet at c1
  unfold sPar at c3
  by_cases hz : σ.bad = 0
  rotate_left
  · rw [if_pos hz] at HT
    rw [HT.out]
    unfold prS
    refine PCalls.enter Try.func86 rfl Try.ntmps86 (by simp) ?_
    simp only [argsF]
    refine go_ ?_
    refine POps_alloc_a ?_
    intro i1 hi1
    simp only [prS, List.cons_append, List.nil_append, List.append_nil, List.drop_succ_cons, List.drop_zero, List.drop_nil, St.freshB_box, St.freshB_nil, St.freshB_tok, St.freshB_obj] at hi1
    refine go_ ?_
    refine Rc ?_
    refine go_ ?_
    refine retP_ok (st' := prS i0 l σ) (by simp) (by simp only [Try.results86]; rfl) (by simp [resP, St.box?, PF.get, loadB, TyK.agg, *]; rfl) (by repeat (first | exact List.Sublist.refl _ | exact List.nil_sublist _ | refine List.Sublist.cons_cons _ ?_ | refine List.Sublist.cons _ ?_)) ?_
    exact ⟨by unfold zNd; rw [agg_mk]; rfl, rfl⟩
  rw [if_neg (by simp [hz])] at HT
  cases hs : isS l σ 0 sSet with
  | true =>
    rw [hs, if_pos rfl] at HT
    unfold sSet at hs
    rw [HT.out]
    generalize (setS l σ).1 = A at *
    generalize (setS l σ).2 = σ1 at *
    simp only [aggD, encD_nd, List.map_cons, List.map_nil] at c2 ⊢
    unfold prS at *
    refine PCalls.enter Try.func86 rfl Try.ntmps86 (by simp) ?_
    simp only [argsF]
    refine go_ ?_
    refine POps_alloc_a ?_
    intro i1 hi1
    simp only [prS, List.cons_append, List.nil_append, List.append_nil, List.drop_succ_cons, List.drop_zero, List.drop_nil, St.freshB_box, St.freshB_nil, St.freshB_tok, St.freshB_obj] at hi1
    refine go_ ?_
    refine Rd 1 1 (c1.out) ?_
    rintro _ _ ⟨rfl, rfl⟩
    refine go_ ?_
    refine Rd 1 1 (c2.out) ?_
    rintro _ _ ⟨rfl, rfl⟩
    refine go_ ?_
    refine Rc ?_
    refine go_ ?_
    refine retP_ok (st' := prS i0 l σ1) (by simp) (by simp only [Try.results86]; rfl) (by simp [resP, St.box?, PF.get, loadB, TyK.agg, *]; rfl) (by repeat (first | exact List.Sublist.refl _ | exact List.nil_sublist _ | refine List.Sublist.cons_cons _ ?_ | refine List.Sublist.cons _ ?_)) ?_
    exact ⟨rfl, rfl⟩
  | false =>
    rw [hs, if_neg (by decide)] at HT
    unfold sSet at hs
    cases hp : isS l σ 0 sPar with
    | true =>
      rw [hp, if_pos rfl] at HT
      have h1 := inc_adv hl (mark_k hp)
      unfold sPar at hp
      rw [HT.out]
      have hn : 0 < n := by
        have := hf.2 hz
        unfold Wf at hw; omega
      have c6 := IH _ h1.1 (hf.next hw h1 hn (by omega)) hn i0
      have c7 := want_p i0 l _ sRap hl.len hl.pos (Nat.le_trans (((parse_adv hl n).2.1 _ h1.1).1.le hl) (by decide))
      obtain ⟨i, a, b⟩ := σ
      simp only at hz hin b1
      subst hz
      clear HT hf IH c2 c4 c5
      generalize (termS l n (incS ⟨i, a, 0⟩)).1 = A at *
      generalize (termS l n (incS ⟨i, a, 0⟩)).2 = σ1 at *
      generalize wantS l sRap σ1 = σ2 at *
      simp only [aggD, encD_nd, List.map_cons, List.map_nil] at c6 ⊢
      unfold sRap at c7
      have C6 := Lib.hid c6
      have C7 := Lib.hid c7
      clear c6 c7
      refine PCalls.enter Try.func86 rfl Try.ntmps86 (by simp) ?_
      simp only [argsF]
      refine go_ ?_
      refine POps_alloc_a ?_
      intro i1 hi1
      simp only [prS, List.cons_append, List.nil_append, List.append_nil, List.drop_succ_cons, List.drop_zero, List.drop_nil, St.freshB_box, St.freshB_nil, St.freshB_tok, St.freshB_obj] at hi1
      unfold prS
      refine go_ ?_
      refine Rd 1 1 (c1.out) ?_
      rintro _ _ ⟨rfl, rfl⟩
      refine go_ ?_
      refine Rd 1 1 (c3.out) ?_
      rintro _ _ ⟨rfl, rfl⟩
      unfold prS
      refine go_ ?_
      refine Rc ?_
      refine go_ ?_
      refine Rd 1 1 (C6.out) ?_
      rintro _ _ ⟨rfl, rfl⟩
      refine go_ ?_
      refine POps_alloc_a ?_
      intro i2 hi2
      simp only [prS, List.cons_append, List.nil_append, List.append_nil, List.drop_succ_cons, List.drop_zero, List.drop_nil, St.freshB_box, St.freshB_nil, St.freshB_tok, St.freshB_obj] at hi2
      refine go_ ?_
      refine Rc ?_
      refine go_ ?_
      refine Rd 2 1 (C7.out) ?_
      rintro _ _ ⟨rfl, rfl⟩
      refine go_ ?_
      refine Rc ?_
      refine go_ ?_
      refine retP_ok (st' := prS i0 l σ2) (by simp) (by simp only [Try.results86]; rfl) (by simp [resP, St.box?, PF.get, loadB, TyK.agg, *]; rfl) (by repeat (first | exact List.Sublist.refl _ | exact List.nil_sublist _ | refine List.Sublist.cons_cons _ ?_ | refine List.Sublist.cons _ ?_)) ?_
      exact ⟨rfl, rfl⟩
    | false =>
      rw [hp, if_neg (by decide)] at HT
      unfold sPar at hp
      rw [HT.out]
      obtain ⟨i, a, b⟩ := σ
      simp only at hz hin b1
      subst hz
      clear HT hf IH c2 hin
      generalize (nameS l ⟨i, a, 0⟩).1 = x at *
      generalize (nameS l ⟨i, a, 0⟩).2 = σ1 at *
      refine PCalls.enter Try.func86 rfl Try.ntmps86 (by simp) ?_
      simp only [argsF]
      refine go_ ?_
      refine POps_alloc_a ?_
      intro i1 hi1
      simp only [prS, List.cons_append, List.nil_append, List.append_nil, List.drop_succ_cons, List.drop_zero, List.drop_nil, St.freshB_box, St.freshB_nil, St.freshB_tok, St.freshB_obj] at hi1
      unfold prS
      refine go_ ?_
      refine Rd 1 1 (c1.out) ?_
      rintro _ _ ⟨rfl, rfl⟩
      refine go_ ?_
      refine Rd 1 1 (c3.out) ?_
      rintro _ _ ⟨rfl, rfl⟩
      refine go_ ?_
      refine Rd 1 1 (c4.out) ?_
      rintro _ _ ⟨rfl, rfl⟩
      refine go_ ?_
      refine Rd 1 1 (c5.out) ?_
      rintro _ _ ⟨rfl, rfl⟩
      refine go_ ?_
      refine Rc ?_
      refine go_ ?_
      refine retP_ok (st' := prS i0 l σ1) (by simp) (by simp only [Try.results86]; rfl) (by simp [resP, St.box?, PF.get, loadB, TyK.agg, *]; rfl) (by repeat (first | exact List.Sublist.refl _ | exact List.nil_sublist _ | refine List.Sublist.cons_cons _ ?_ | refine List.Sublist.cons _ ?_)) ?_
      exact ⟨by rw [agg_mk]; rfl, rfl⟩
set_option maxHeartbeats 4000000 in
theorem app_w {l : List Tk} (hl : TkOk l) (n : Nat) (IA : ∀ m, m ≤ n → ∀ σ, Wf l σ → Fu l m 3 σ → AtomC l m σ) (σ : ST) (hw : Wf l σ) (hb : σ.bad = 0) (hf : Fu l (n + 1) 5 σ) : AppC l (n + 1) σ := by
  intro i0
  have hn : 0 < n := by
    have := hf.2 hb
    unfold Wf at hw; omega
  have hA := ((parse_adv hl n).2.2.1 σ hw).2 hn
  have c1 := IA n (Nat.le_refl _) σ hw (hf.same hw (Adv.refl hw) hn (by omega)) i0
  have HT := Lib.hid (show appS l (n + 1) σ = appL l n (atomS l n σ).1 (atomS l n σ).2 from by simp only [appS])
  have HF := Lib.hid (hf.next hw hA hn (d := 5) (by omega))
  have HA := Lib.hid hA.1
  rw [HT.out]
  clear HT hA hf hb hw
  generalize (atomS l n σ).1 = G at *
  generalize (atomS l n σ).2 = σ1 at *
  have HG : ∃ r, r = appL l n G σ1 := ⟨_, rfl⟩
  obtain ⟨r, hr⟩ := HG
  have HR := Lib.hid hr.symm
  rw [← hr]
  clear hr
  simp only [aggD, encD_nd, List.map_cons, List.map_nil] at c1 ⊢
  have C1 := Lib.hid c1
  clear c1
  refine PCalls.enter Try.func84 rfl Try.ntmps84 (by simp) ?_
  simp only [argsF]
  refine go_ ?_
  refine POps_alloc_a ?_
  intro i1 hi1
  simp only [prS, List.cons_append, List.nil_append, List.append_nil, List.drop_succ_cons, List.drop_zero, List.drop_nil, St.freshB_box, St.freshB_nil, St.freshB_tok, St.freshB_obj] at hi1
  refine go_ ?_
  refine Rd 1 1 (C1.out) ?_
  rintro _ _ ⟨rfl, rfl⟩
  refine go_ ?_
  refine POps_alloc_a ?_
  intro i2 hi2
  simp only [prS, List.cons_append, List.nil_append, List.append_nil, List.drop_succ_cons, List.drop_zero, List.drop_nil, St.freshB_box, St.freshB_nil, St.freshB_tok, St.freshB_obj] at hi2
  refine go_ ?_
  refine Rc ?_
  refine go_ ?_
  refine PW_loop (ι := Nat × Nd × ST) (fun x => x.1 ≤ n ∧ Wf l x.2.2 ∧ Fu l x.1 5 x.2.2 ∧ appL l x.1 x.2.1 x.2.2 = r) (fun x => [(0, .ptr i0 0), (2, .ptr i1 0), (3, .ptr i2 0)])
    (fun x => .box i2 31 [.d (.v (.int .i64 x.2.1.kind)), .d (.v (.int .i64 x.2.1.at)), .d (.v (.string x.2.1.name)), .d (.v (.int .i64 x.2.1.num)), .d (.sl (x.2.1.sub.map encD))] :: .box i1 31 [.d (.v (.int .i64 0)), .d (.v (.int .i64 0)), .d (.v (.string ByteArray.empty)), .d (.v (.int .i64 0)), .nils] :: prS i0 l x.2.2)
    (fun x => x.1) (n, G, σ1) ⟨Nat.le_refl _, HA.out, HF.out, HR.out⟩ ?_ ?_ ?_
  · repeat (first | exact sub_nil _ | refine sub_cons (by simp [PF.get]; rfl) (by first | rfl | (simp [*]; done) | fail) ?_)
  · repeat (first | exact List.Sublist.refl _ | exact List.nil_sublist _ | refine List.Sublist.cons_cons _ ?_ | refine List.Sublist.cons _ ?_)
  · rintro ⟨m, g, τ⟩ ⟨hm, hw, hf, hr⟩
    simp only at hm hw hf hr ⊢
    have b1 : τ.i ≤ 150000 := Nat.le_trans (hw.le hl) (by decide)
    obtain ⟨m, rfl⟩ : ∃ q, m = q + 1 := ⟨m - 1, by have := hf.1; omega⟩
    simp only [appL] at hr
    have B0 := Lib.hid (begins_p i0 l τ hl.len hl.pos b1)
    by_cases hz : τ.bad = 0
    · cases hbg : beginsS l τ with
      | true =>
        rw [if_pos ⟨hz, hbg⟩] at hr
        have hm0 : 0 < m := by
          have := hf.2 hz
          unfold Wf at hw; omega
        have hA := ((parse_adv hl m).2.2.1 τ hw).2 hm0
        have c2 := IA m (by omega) τ hw (hf.same hw (Adv.refl hw) hm0 (by omega)) i0
        have HF2 := Lib.hid (hf.next hw hA hm0 (d := 5) (by omega))
        have HA2 := Lib.hid hA.1
        have HR2 := Lib.hid hr
        clear hr hf hA hw
        generalize (atomS l m τ).1 = X at *
        generalize (atomS l m τ).2 = τ2 at *
        simp only [aggD, encD_nd, List.map_cons, List.map_nil] at c2
        have C2 := Lib.hid c2
        clear c2
        unfold prS
        refine go_ ?_
        refine Rd 2 1 (B0.out) ?_
        rintro _ _ ⟨rfl, rfl⟩
        refine go_ ?_
        refine PW_drawnL (J := keepJ [(i2, _)]) [(0, .a), (1, .a), (2, .a), (3, .a), (4, .e), (5, .a), (6, .a), (7, .e)] (by kernel_rfl) (by rfl) (by kernel_rfl) (by (repeat (first | exact keepJ_nil _ | refine keepJ_cons (by simp [St.box?, *] <;> rfl) ?_))) ?_
        repeat (first | with_reducible refine PL_nil ?_ | refine PL_gn2 ?_ | refine PL_s2 ?_ | refine PL_b2 ?_)
        refine PL_callX 2 1 (C2.out) ?_
        rintro _ _ ⟨rfl, rfl⟩
        refine ⟨.inr (by (repeat (first | exact keepJ_nil _ | refine keepJ_cons (by simp [St.box?, *] <;> rfl) ?_))), ?_⟩
        repeat (first | with_reducible refine PL_nil ?_ | refine PL_gn2 ?_ | refine PL_s2 ?_ | refine PL_b2 ?_)
        refine PL_bs ?_ rfl (by decide) rfl (by simp; rfl) (by rfl) (by simp; rfl) (by rfl) (by decide) (by decide) (by simp [nev, nevA, nevB, evBuild, PF.eval, PF.get, PF.wants, cPV, cCell, PV.rows, evBin, evUn, evConv, evLen, loadA, loadB, TyK.agg, partA, St.box?, St.tok?, St.setBox, St.setTok, fillO, spl, PV.ps, PV.one, evalArgs, aggD, slD, encD_nd, encD_bd, encD_rw, encD_dc, encD_str, encD_int, *]; rfl) (by simp [rowsOf, toDs, PV.toD]; rfl)
        repeat (first | with_reducible refine PL_nil ?_ | refine PL_gn2 ?_ | refine PL_s2 ?_ | refine PL_b2 ?_)
        refine PL_store rfl rfl (by simp [nev, nevA, nevB, evBuild, PF.eval, PF.get, PF.wants, cPV, cCell, PV.rows, evBin, evUn, evConv, evLen, loadA, loadB, TyK.agg, partA, St.box?, St.tok?, St.setBox, St.setTok, fillO, spl, PV.ps, PV.one, evalArgs, aggD, slD, encD_nd, encD_bd, encD_rw, encD_dc, encD_str, encD_int, *]; rfl) (by rfl) (by simp [nev, nevA, nevB, evBuild, PF.eval, PF.get, PF.wants, cPV, cCell, PV.rows, evBin, evUn, evConv, evLen, loadA, loadB, TyK.agg, partA, St.box?, St.tok?, St.setBox, St.setTok, fillO, spl, PV.ps, PV.one, evalArgs, aggD, slD, encD_nd, encD_bd, encD_rw, encD_dc, encD_str, encD_int, *]; rfl) (by simp [PV.ps, aggD, slD, encD_nd, encD_bd, encD_rw, encD_dc, encD_str, encD_int]; rfl) (by first | rfl | (simp [*]; done) | (simp [PV.one, *]; done) | fail) (by simp; rfl) (by first | (simp; done) | fail) (by simp [nev, nevA, nevB, evBuild, PF.eval, PF.get, PF.wants, cPV, cCell, PV.rows, evBin, evUn, evConv, evLen, loadA, loadB, TyK.agg, partA, St.box?, St.tok?, St.setBox, St.setTok, fillO, spl, PV.ps, PV.one, evalArgs, aggD, slD, encD_nd, encD_bd, encD_rw, encD_dc, encD_str, encD_int, *]; rfl) (by rfl) (by first | (simp; done) | fail) (by simp [St.setBox, spl, *]; rfl) (by first | exact .inl (by decide +kernel) | exact .inr (by (repeat (first | exact keepJ_nil _ | refine keepJ_cons (by simp [St.box?, *] <;> rfl) ?_)))) ?_
        repeat (first | with_reducible refine PL_nil ?_ | refine PL_gn2 ?_ | refine PL_s2 ?_ | refine PL_b2 ?_)
        refine go_ ?_
        refine ⟨(m, Nd.mk 5 g.at ⟨#[]⟩ 0 [g, X], τ2), ⟨by omega, HA2.out, HF2.out, HR2.out⟩, by simp only; omega, ?_, ?_⟩
        · repeat (first | exact sub_nil _ | refine sub_cons (by simp [PF.get]; rfl) (by first | rfl | (simp [*]; done) | fail) ?_)
        · simp only [List.map_cons, List.map_nil, encD_nd, Nd.kind, Nd.at, Nd.name, Nd.num, Nd.sub]
          repeat (first | exact List.Sublist.refl _ | exact List.nil_sublist _ | refine List.Sublist.cons_cons _ ?_ | refine List.Sublist.cons _ ?_)
      | false =>
        rw [if_neg (by rw [hbg]; simp)] at hr
        have HR2 := Lib.hid hr
        clear hr hf
        unfold prS
        refine go_ ?_
        refine Rd 2 1 (B0.out) ?_
        rintro _ _ ⟨rfl, rfl⟩
        refine go_ ?_
        refine Rc ?_
        refine go_ ?_
        refine retP_ok (st' := prS i0 l τ) (by simp) (by simp only [Try.results84]; rfl) (by simp [resP, St.box?, PF.get, loadB, TyK.agg, *]; rfl) (by repeat (first | exact List.Sublist.refl _ | exact List.nil_sublist _ | refine List.Sublist.cons_cons _ ?_ | refine List.Sublist.cons _ ?_)) ?_
        exact ⟨by rw [← HR2.out]; rfl, by rw [← HR2.out]; rfl⟩
    · rw [if_neg (by simp [hz])] at hr
      have HR2 := Lib.hid hr
      clear hr hf
      unfold prS
      refine go_ ?_
      refine Rc ?_
      refine go_ ?_
      refine retP_ok (st' := prS i0 l τ) (by simp) (by simp only [Try.results84]; rfl) (by simp [resP, St.box?, PF.get, loadB, TyK.agg, *]; rfl) (by repeat (first | exact List.Sublist.refl _ | exact List.nil_sublist _ | refine List.Sublist.cons_cons _ ?_ | refine List.Sublist.cons _ ?_)) ?_
      exact ⟨by rw [← HR2.out]; rfl, by rw [← HR2.out]; rfl⟩
end Go.Proofs.Ytahhgpafjiljfaa

namespace Go.Proofs.Ytahhgpafjiljfaa
open Go.RowKit
set_option maxRecDepth 100000
set_option maxHeartbeats 4000000 in
theorem term_w {l : List Tk} (hl : TkOk l) (n : Nat) (IT : ∀ k a σ, Wf l σ → Fu l n 4 σ → σ.bad = 0 → TypedC l n k a σ) (IP : ∀ σ, Wf l σ → σ.bad = 0 → Fu l n 5 σ → AppC l n σ) (IH : ∀ σ, Wf l σ → Fu l n 6 σ → TermC l n σ) (σ : ST) (hw : Wf l σ) (hf : Fu l (n + 1) 6 σ) : TermC l (n + 1) σ := by
  intro i0
  have b1 : σ.i ≤ 150000 := Nat.le_trans (hw.le hl) (by decide)
  have c0 := Lib.hid (tok0_p i0 l σ hl.len hl.pos b1)
  have c1 := Lib.hid (is_p i0 l σ 0 0 rfl sLam hl.len hl.pos (by omega) (by decide))
  have c2 := Lib.hid (binder_p i0 l σ hl.len hl.pos b1)
  have HT := Lib.hid (show termS l (n + 1) σ = (if σ.bad ≠ 0 then (zNd, σ) else if isS l σ 0 sLam then typedS l n 4 (tkg l σ.i).at_ (incS σ) else if binderS l σ then typedS l n 3 (tkg l σ.i).at_ σ else
      (if (appS l n σ).2.bad = 0 ∧ isS l (appS l n σ).2 0 sArr then (.mk 3 (appS l n σ).1.at ⟨#[95]⟩ 0 [(appS l n σ).1, (termS l n (incS (appS l n σ).2)).1], (termS l n (incS (appS l n σ).2)).2) else appS l n σ)) from by simp only [termS])
  have hin := wrap_i b1
  unfold sLam at c1
  by_cases hz : σ.bad = 0
  rotate_left
  · rw [if_pos hz] at HT
    rw [HT.out]
    refine PCalls.enter Try.func45 rfl Try.ntmps45 (by simp) ?_
    simp only [argsF]
    refine go_ ?_
    refine POps_alloc_a ?_
    intro i1 hi1
    simp only [prS, List.cons_append, List.nil_append, List.append_nil, List.drop_succ_cons, List.drop_zero, List.drop_nil, St.freshB_box, St.freshB_nil, St.freshB_tok, St.freshB_obj] at hi1
    refine go_ ?_
    refine Rd 1 1 (c0.out) ?_
    rintro _ _ ⟨rfl, rfl⟩
    unfold prS
    refine go_ ?_
    refine Rc ?_
    refine go_ ?_
    refine retP_ok (st' := prS i0 l σ) (by simp) (by simp only [Try.results45]; rfl) (by simp [resP, St.box?, PF.get, loadB, TyK.agg, *]; rfl) (by repeat (first | exact List.Sublist.refl _ | exact List.nil_sublist _ | refine List.Sublist.cons_cons _ ?_ | refine List.Sublist.cons _ ?_)) ?_
    exact ⟨by unfold zNd; rw [agg_mk]; rfl, rfl⟩
  rw [if_neg (by simp [hz])] at HT
  have hn : 0 < n := by
    have := hf.2 hz
    unfold Wf at hw; omega
  generalize (tkg l σ.i).at_ = at0 at *
  cases hs : isS l σ 0 sLam with
  | true =>
    rw [hs, if_pos rfl] at HT
    have h1 := inc_adv hl (mark_k hs)
    unfold sLam at hs
    rw [HT.out]
    have c3 := IT 4 at0 _ h1.1 (hf.next hw h1 hn (by omega)) hz i0
    clear HT hf IT IP IH c2 h1
    obtain ⟨i, a, b⟩ := σ
    simp only at hz hin b1
    subst hz
    generalize (typedS l n 4 at0 (incS ⟨i, a, 0⟩)).1 = A at *
    generalize (typedS l n 4 at0 (incS ⟨i, a, 0⟩)).2 = σ1 at *
    simp only [aggD, encD_nd, List.map_cons, List.map_nil] at c3 ⊢
    have C3 := Lib.hid c3
    clear c3
    refine PCalls.enter Try.func45 rfl Try.ntmps45 (by simp) ?_
    simp only [argsF]
    refine go_ ?_
    refine POps_alloc_a ?_
    intro i1 hi1
    simp only [prS, List.cons_append, List.nil_append, List.append_nil, List.drop_succ_cons, List.drop_zero, List.drop_nil, St.freshB_box, St.freshB_nil, St.freshB_tok, St.freshB_obj] at hi1
    refine go_ ?_
    refine Rd 1 1 (c0.out) ?_
    rintro _ _ ⟨rfl, rfl⟩
    unfold prS
    refine go_ ?_
    refine Rd 1 1 (c1.out) ?_
    rintro _ _ ⟨rfl, rfl⟩
    unfold prS
    refine go_ ?_
    refine Rc ?_
    refine go_ ?_
    refine Rd 1 1 (C3.out) ?_
    rintro _ _ ⟨rfl, rfl⟩
    refine go_ ?_
    refine Rc ?_
    refine go_ ?_
    refine retP_ok (st' := prS i0 l σ1) (by simp) (by simp only [Try.results45]; rfl) (by simp [resP, St.box?, PF.get, loadB, TyK.agg, *]; rfl) (by repeat (first | exact List.Sublist.refl _ | exact List.nil_sublist _ | refine List.Sublist.cons_cons _ ?_ | refine List.Sublist.cons _ ?_)) ?_
    exact ⟨rfl, rfl⟩
  | false =>
    rw [hs, if_neg (by decide)] at HT
    unfold sLam at hs
    cases hbd : binderS l σ with
    | true =>
      rw [hbd, if_pos rfl] at HT
      rw [HT.out]
      have c3 := IT 3 at0 _ hw (hf.same hw (Adv.refl hw) hn (by omega)) hz i0
      clear HT hf IT IP IH hin
      obtain ⟨i, a, b⟩ := σ
      simp only at hz b1
      subst hz
      generalize (typedS l n 3 at0 ⟨i, a, 0⟩).1 = A at *
      generalize (typedS l n 3 at0 ⟨i, a, 0⟩).2 = σ1 at *
      simp only [aggD, encD_nd, List.map_cons, List.map_nil] at c3 ⊢
      have C3 := Lib.hid c3
      clear c3
      refine PCalls.enter Try.func45 rfl Try.ntmps45 (by simp) ?_
      simp only [argsF]
      refine go_ ?_
      refine POps_alloc_a ?_
      intro i1 hi1
      simp only [prS, List.cons_append, List.nil_append, List.append_nil, List.drop_succ_cons, List.drop_zero, List.drop_nil, St.freshB_box, St.freshB_nil, St.freshB_tok, St.freshB_obj] at hi1
      refine go_ ?_
      refine Rd 1 1 (c0.out) ?_
      rintro _ _ ⟨rfl, rfl⟩
      unfold prS
      refine go_ ?_
      refine Rd 1 1 (c1.out) ?_
      rintro _ _ ⟨rfl, rfl⟩
      refine go_ ?_
      refine Rd 1 1 (c2.out) ?_
      rintro _ _ ⟨rfl, rfl⟩
      refine go_ ?_
      refine Rd 1 1 (C3.out) ?_
      rintro _ _ ⟨rfl, rfl⟩
      refine go_ ?_
      refine Rc ?_
      refine go_ ?_
      refine retP_ok (st' := prS i0 l σ1) (by simp) (by simp only [Try.results45]; rfl) (by simp [resP, St.box?, PF.get, loadB, TyK.agg, *]; rfl) (by repeat (first | exact List.Sublist.refl _ | exact List.nil_sublist _ | refine List.Sublist.cons_cons _ ?_ | refine List.Sublist.cons _ ?_)) ?_
      exact ⟨rfl, rfl⟩
    | false =>
      rw [hbd, if_neg (by decide)] at HT
      rw [HT.out]
      have c3 := IP σ hw hz (hf.same hw (Adv.refl hw) hn (by omega)) i0
      have hA := (parse_adv hl n).2.2.2.1 σ hw
      have hfu : Fu l (n + 1) 6 σ := hf
      have NX := Lib.hid (fun (h : isS l (appS l n σ).2 0 sArr = true) => And.intro (hA.transS (inc_adv hl (mark_k h))).1 (IH _ (hA.transS (inc_adv hl (mark_k h))).1 (hf.next hw (hA.transS (inc_adv hl (mark_k h))) hn (by omega)) i0))
      have hw1 : Wf l (appS l n σ).2 := hA.1
      clear HT hf IT IP IH hin hA hfu
      obtain ⟨i, a, b⟩ := σ
      simp only at hz b1
      subst hz
      generalize (appS l n ⟨i, a, 0⟩) = R at *
      obtain ⟨G, σ1⟩ := R
      simp only at NX hw1 c3 ⊢
      have b2 : σ1.i ≤ 150000 := Nat.le_trans (hw1.le hl) (by decide)
      have c4 := Lib.hid (is_p i0 l σ1 0 0 rfl sArr hl.len hl.pos (by omega) (by decide))
      unfold sArr at c4 NX ⊢
      simp only [aggD, encD_nd, List.map_cons, List.map_nil] at c3
      have C3 := Lib.hid c3
      clear c3
      by_cases hz1 : σ1.bad = 0
      · cases ha : isS l σ1 0 ⟨#[45, 62]⟩ with
        | true =>
          rw [if_pos ⟨hz1, rfl⟩]
          obtain ⟨i', a', b'⟩ := σ1
          simp only at hz1 b2
          subst hz1
          obtain ⟨-, c5⟩ := NX.out ha
          have hin := wrap_i b2
          clear NX
          generalize (termS l n (incS ⟨i', a', 0⟩)).1 = B at *
          generalize (termS l n (incS ⟨i', a', 0⟩)).2 = σ2 at *
          simp only [aggD, encD_nd, List.map_cons, List.map_nil] at c5
          have C5 := Lib.hid c5
          clear c5
          refine PCalls.enter Try.func45 rfl Try.ntmps45 (by simp) ?_
          simp only [argsF]
          refine go_ ?_
          refine POps_alloc_a ?_
          intro i1 hi1
          simp only [prS, List.cons_append, List.nil_append, List.append_nil, List.drop_succ_cons, List.drop_zero, List.drop_nil, St.freshB_box, St.freshB_nil, St.freshB_tok, St.freshB_obj] at hi1
          refine go_ ?_
          refine Rd 1 1 (c0.out) ?_
          rintro _ _ ⟨rfl, rfl⟩
          unfold prS
          refine go_ ?_
          refine Rd 1 1 (c1.out) ?_
          rintro _ _ ⟨rfl, rfl⟩
          refine go_ ?_
          refine Rd 1 1 (c2.out) ?_
          rintro _ _ ⟨rfl, rfl⟩
          refine go_ ?_
          refine Rd 1 1 (C3.out) ?_
          rintro _ _ ⟨rfl, rfl⟩
          refine go_ ?_
          refine POps_alloc_a ?_
          intro i2 hi2
          simp only [prS, List.cons_append, List.nil_append, List.append_nil, List.drop_succ_cons, List.drop_zero, List.drop_nil, St.freshB_box, St.freshB_nil, St.freshB_tok, St.freshB_obj] at hi2
          refine go_ ?_
          refine Rc ?_
          unfold prS
          refine go_ ?_
          refine Rd 2 1 (c4.out) ?_
          rintro _ _ ⟨rfl, rfl⟩
          unfold prS
          refine go_ ?_
          refine Rc ?_
          refine go_ ?_
          refine PW_drawnL (J := keepJ [(i2, _)]) [(0, .a), (1, .a), (2, .a), (3, .a), (4, .e), (5, .a), (6, .a), (7, .e)] (by kernel_rfl) (by rfl) (by kernel_rfl) (by (repeat (first | exact keepJ_nil _ | refine keepJ_cons (by simp [St.box?, *] <;> rfl) ?_))) ?_
          repeat (first | with_reducible refine PL_nil ?_ | refine PL_gn2 ?_ | refine PL_s2 ?_ | refine PL_b2 ?_)
          refine PL_callX 2 1 (C5.out) ?_
          rintro _ _ ⟨rfl, rfl⟩
          refine ⟨.inr (by (repeat (first | exact keepJ_nil _ | refine keepJ_cons (by simp [St.box?, *] <;> rfl) ?_))), ?_⟩
          repeat (first | with_reducible refine PL_nil ?_ | refine PL_gn2 ?_ | refine PL_s2 ?_ | refine PL_b2 ?_)
          refine PL_bs ?_ rfl (by decide) rfl (by simp; rfl) (by rfl) (by simp; rfl) (by rfl) (by decide) (by decide) (by simp [nev, nevA, nevB, evBuild, PF.eval, PF.get, PF.wants, cPV, cCell, PV.rows, evBin, evUn, evConv, evLen, loadA, loadB, TyK.agg, partA, St.box?, St.tok?, St.setBox, St.setTok, fillO, spl, PV.ps, PV.one, evalArgs, aggD, slD, encD_nd, encD_bd, encD_rw, encD_dc, encD_str, encD_int, *]; rfl) (by simp [rowsOf, toDs, PV.toD]; rfl)
          repeat (first | with_reducible refine PL_nil ?_ | refine PL_gn2 ?_ | refine PL_s2 ?_ | refine PL_b2 ?_)
          refine PL_store rfl rfl (by simp [nev, nevA, nevB, evBuild, PF.eval, PF.get, PF.wants, cPV, cCell, PV.rows, evBin, evUn, evConv, evLen, loadA, loadB, TyK.agg, partA, St.box?, St.tok?, St.setBox, St.setTok, fillO, spl, PV.ps, PV.one, evalArgs, aggD, slD, encD_nd, encD_bd, encD_rw, encD_dc, encD_str, encD_int, *]; rfl) (by rfl) (by simp [nev, nevA, nevB, evBuild, PF.eval, PF.get, PF.wants, cPV, cCell, PV.rows, evBin, evUn, evConv, evLen, loadA, loadB, TyK.agg, partA, St.box?, St.tok?, St.setBox, St.setTok, fillO, spl, PV.ps, PV.one, evalArgs, aggD, slD, encD_nd, encD_bd, encD_rw, encD_dc, encD_str, encD_int, *]; rfl) (by simp [PV.ps, aggD, slD, encD_nd, encD_bd, encD_rw, encD_dc, encD_str, encD_int]; rfl) (by first | rfl | (simp [*]; done) | (simp [PV.one, *]; done) | fail) (by simp; rfl) (by first | (simp; done) | fail) (by simp [nev, nevA, nevB, evBuild, PF.eval, PF.get, PF.wants, cPV, cCell, PV.rows, evBin, evUn, evConv, evLen, loadA, loadB, TyK.agg, partA, St.box?, St.tok?, St.setBox, St.setTok, fillO, spl, PV.ps, PV.one, evalArgs, aggD, slD, encD_nd, encD_bd, encD_rw, encD_dc, encD_str, encD_int, *]; rfl) (by rfl) (by first | (simp; done) | fail) (by simp [St.setBox, spl, *]; rfl) (by first | exact .inl (by decide +kernel) | exact .inr (by (repeat (first | exact keepJ_nil _ | refine keepJ_cons (by simp [St.box?, *] <;> rfl) ?_)))) ?_
          repeat (first | with_reducible refine PL_nil ?_ | refine PL_gn2 ?_ | refine PL_s2 ?_ | refine PL_b2 ?_)
          refine go_ ?_
          refine retP_ok (st' := prS i0 l σ2) (by simp) (by simp only [Try.results45]; rfl) (by simp [resP, St.box?, PF.get, loadB, TyK.agg, *]; rfl) (by repeat (first | exact List.Sublist.refl _ | exact List.nil_sublist _ | refine List.Sublist.cons_cons _ ?_ | refine List.Sublist.cons _ ?_)) ?_
          exact ⟨by rw [agg_mk]; simp only [List.map_cons, List.map_nil, encD_nd]; rfl, rfl⟩
        | false =>
          rw [if_neg (by simp)]
          clear NX
          simp only [aggD, encD_nd, List.map_cons, List.map_nil]
          refine PCalls.enter Try.func45 rfl Try.ntmps45 (by simp) ?_
          simp only [argsF]
          refine go_ ?_
          refine POps_alloc_a ?_
          intro i1 hi1
          simp only [prS, List.cons_append, List.nil_append, List.append_nil, List.drop_succ_cons, List.drop_zero, List.drop_nil, St.freshB_box, St.freshB_nil, St.freshB_tok, St.freshB_obj] at hi1
          refine go_ ?_
          refine Rd 1 1 (c0.out) ?_
          rintro _ _ ⟨rfl, rfl⟩
          unfold prS
          refine go_ ?_
          refine Rd 1 1 (c1.out) ?_
          rintro _ _ ⟨rfl, rfl⟩
          refine go_ ?_
          refine Rd 1 1 (c2.out) ?_
          rintro _ _ ⟨rfl, rfl⟩
          refine go_ ?_
          refine Rd 1 1 (C3.out) ?_
          rintro _ _ ⟨rfl, rfl⟩
          refine go_ ?_
          refine POps_alloc_a ?_
          intro i2 hi2
          simp only [prS, List.cons_append, List.nil_append, List.append_nil, List.drop_succ_cons, List.drop_zero, List.drop_nil, St.freshB_box, St.freshB_nil, St.freshB_tok, St.freshB_obj] at hi2
          refine go_ ?_
          refine Rc ?_
          unfold prS
          refine go_ ?_
          refine Rd 2 1 (c4.out) ?_
          rintro _ _ ⟨rfl, rfl⟩
          refine go_ ?_
          refine Rc ?_
          refine go_ ?_
          refine retP_ok (st' := prS i0 l σ1) (by simp) (by simp only [Try.results45]; rfl) (by simp [resP, St.box?, PF.get, loadB, TyK.agg, *]; rfl) (by repeat (first | exact List.Sublist.refl _ | exact List.nil_sublist _ | refine List.Sublist.cons_cons _ ?_ | refine List.Sublist.cons _ ?_)) ?_
          exact ⟨rfl, rfl⟩
      · rw [if_neg (by simp [hz1])]
        clear NX
        simp only [aggD, encD_nd, List.map_cons, List.map_nil]
        refine PCalls.enter Try.func45 rfl Try.ntmps45 (by simp) ?_
        simp only [argsF]
        refine go_ ?_
        refine POps_alloc_a ?_
        intro i1 hi1
        simp only [prS, List.cons_append, List.nil_append, List.append_nil, List.drop_succ_cons, List.drop_zero, List.drop_nil, St.freshB_box, St.freshB_nil, St.freshB_tok, St.freshB_obj] at hi1
        refine go_ ?_
        refine Rd 1 1 (c0.out) ?_
        rintro _ _ ⟨rfl, rfl⟩
        unfold prS
        refine go_ ?_
        refine Rd 1 1 (c1.out) ?_
        rintro _ _ ⟨rfl, rfl⟩
        refine go_ ?_
        refine Rd 1 1 (c2.out) ?_
        rintro _ _ ⟨rfl, rfl⟩
        refine go_ ?_
        refine Rd 1 1 (C3.out) ?_
        rintro _ _ ⟨rfl, rfl⟩
        refine go_ ?_
        refine POps_alloc_a ?_
        intro i2 hi2
        simp only [prS, List.cons_append, List.nil_append, List.append_nil, List.drop_succ_cons, List.drop_zero, List.drop_nil, St.freshB_box, St.freshB_nil, St.freshB_tok, St.freshB_obj] at hi2
        refine go_ ?_
        refine Rc ?_
        unfold prS
        refine go_ ?_
        refine Rc ?_
        refine go_ ?_
        refine retP_ok (st' := prS i0 l σ1) (by simp) (by simp only [Try.results45]; rfl) (by simp [resP, St.box?, PF.get, loadB, TyK.agg, *]; rfl) (by repeat (first | exact List.Sublist.refl _ | exact List.nil_sublist _ | refine List.Sublist.cons_cons _ ?_ | refine List.Sublist.cons _ ?_)) ?_
        exact ⟨rfl, rfl⟩
theorem parse_w {l : List Tk} (hl : TkOk l) : ∀ n, (∀ k a σ, Wf l σ → Fu l n 4 σ → σ.bad = 0 → TypedC l n k a σ) ∧ (∀ σ, Wf l σ → Fu l n 6 σ → TermC l n σ) ∧ (∀ σ, Wf l σ → Fu l n 3 σ → AtomC l n σ) ∧ (∀ σ, Wf l σ → σ.bad = 0 → Fu l n 5 σ → AppC l n σ) := by
  intro n
  induction n using Nat.strongRecOn with
  | _ n ih =>
    match n with
    | 0 => exact ⟨fun _ _ _ _ h => absurd h.1 (Nat.lt_irrefl 0), fun _ _ h => absurd h.1 (Nat.lt_irrefl 0), fun _ _ h => absurd h.1 (Nat.lt_irrefl 0), fun _ _ _ h => absurd h.1 (Nat.lt_irrefl 0)⟩
    | n + 1 =>
      have I := ih n (Nat.lt_succ_self n)
      refine ⟨fun k a σ hw hf hb => ?_, fun σ hw hf => term_w hl n I.1 I.2.2.2 I.2.1 σ hw hf, fun σ hw hf => atom_w hl n (fun σ hw hf _ => I.2.1 σ hw hf) σ hw hf, fun σ hw hb hf => app_w hl n (fun m hm σ hw hf => (ih m (by omega)).2.2.1 σ hw hf) σ hw hb hf⟩
      have hn : 0 < n := by
        have := hf.2 hb
        unfold Wf at hw; omega
      exact typed_w hl n hn I.2.1 k a σ hw hf
theorem depth_p (t : Nd) : PCalls Try.prog 80 [aggD t] [] fun p s => p = .d (.v (.int .i64 (depthT t))) ∧ s = [] := PCalls.flat trivial fun K w vs ha => by
  obtain ⟨v, rfl, hv⟩ := ha.one
  obtain ⟨cs, rfl, hc⟩ := rep_rel hv
  exact depth_any t cs w (Rep.toC _ _ hc)
end Go.Proofs.Ytahhgpafjiljfaa

namespace Go.Proofs.Ytahhgpafjiljfaa
open Go.RowKit
set_option maxRecDepth 100000
theorem bid_nodup {F : Fz} {K : Kp} {w : World} : ∀ {st : St}, (∀ e ∈ st, EntOk F K w e) → (st.filterMap (Ent.block K)).Nodup → (st.filterMap Ent.bid).Nodup := by
  intro st
  induction st with
  | nil => intro _ _; simp
  | cons e r ih =>
    intro he hn
    have hr : (r.filterMap (Ent.block K)).Nodup := by
      rw [List.filterMap_cons] at hn
      split at hn
      · exact hn
      · exact (List.nodup_cons.1 hn).2
    have h1 := ih (fun x hx => he x (List.mem_cons_of_mem _ hx)) hr
    have key : ∀ i, e.bid = some i → (∃ b, e.block K = some b ∧ K.box i = some b) → i ∉ r.filterMap Ent.bid := by
      rintro i hi ⟨b, hb, hk⟩ hm
      obtain ⟨x, hx, hxi⟩ := List.mem_filterMap.1 hm
      rw [List.filterMap_cons, hb] at hn
      have hnm := (List.nodup_cons.1 hn).1
      apply hnm
      refine List.mem_filterMap.2 ⟨x, hx, ?_⟩
      cases x with
      | box j U cs => simp only [Ent.bid, Option.some.injEq] at hxi; subst hxi; exact hk
      | tok => cases hxi
      | obj j ok => simp only [Ent.bid, Option.some.injEq] at hxi; subst hxi; exact hk
    have h2 := he e (List.mem_cons_self ..)
    cases e with
    | box i T cs =>
      obtain ⟨b, arr, e1, -⟩ := h2
      exact List.nodup_cons.2 ⟨key i rfl ⟨b, e1, e1⟩, h1⟩
    | tok g E sz n => exact h1
    | obj i ok =>
      obtain ⟨b, o, e1, -⟩ := h2
      exact List.nodup_cons.2 ⟨key i rfl ⟨b, e1, e1⟩, h1⟩
/-- no two variables are one -/
theorem PW_nodup {P : Program} {n : Nat} {c : Code} {Q : Exit → PF → St → Prop} {fr : PF} {st : St} (h : (st.filterMap Ent.bid).Nodup → PW P n c Q fr st) : PW P n c Q fr st :=
  fun F K w a hr hf => h (bid_nodup hr.ents hr.nb) F K w a hr hf
theorem bid_box (i : Nat) (T : TypeId) (cs : List PV) (r : St) : (Ent.box i T cs :: r).filterMap Ent.bid = i :: r.filterMap Ent.bid := rfl
theorem bid_nil : ([] : St).filterMap Ent.bid = [] := rfl
def startL (s : ByteArray) : List Tk := if (tokA s).2.2 ≠ 0 then [noTk] else (tokA s).1
def startS (s : ByteArray) : ST := if (tokA s).2.2 ≠ 0 then ⟨0, (tokA s).2.1, (tokA s).2.2⟩ else ⟨0, 0, 0⟩
theorem cut_len (c : Nat) (r : List Int) (hc : c ≤ 8192) : (cutR c r).1.length + c ≤ 8192 := by
  cases h1 : (skipR r).2 with
  | false => rw [cut_a h1]; simpa using hc
  | true =>
    by_cases h2 : (skipR r).1 = []
    · rw [cut_b h1 h2]; simpa using hc
    · by_cases h3 : 8192 ≤ c
      · rw [cut_c h1 h2 h3]; simpa using hc
      · cases h4 : (nextR (skipR r).1).2.2.2 with
        | false => rw [cut_d h1 h2 h3 h4]; simpa using hc
        | true =>
          rw [cut_e h1 h2 h3 h4]
          have hlt : ((skipR r).1.drop (nextR (skipR r).1).2.2.1).length < r.length := by
            have h5 := (skipR_suf r).length_le
            have h6 := nextR_pos h4 h2
            have h7 : 0 < (skipR r).1.length := List.length_pos_iff.2 h2
            rw [List.length_drop]
            omega
          have := cut_len (c + 1) ((skipR r).1.drop (nextR (skipR r).1).2.2.1) (by omega)
          simp only [List.length_cons]
          omega
termination_by r.length
decreasing_by exact hlt
theorem cut_err (c : Nat) (r : List Int) (e : Int) (k : Nat) (h : (cutR c r).2 = some (e, k)) : e = 1 ∨ e = 2 := by
  cases h1 : (skipR r).2 with
  | false => rw [cut_a h1] at h; cases h; exact .inl rfl
  | true =>
    by_cases h2 : (skipR r).1 = []
    · rw [cut_b h1 h2] at h; cases h
    · by_cases h3 : 8192 ≤ c
      · rw [cut_c h1 h2 h3] at h; cases h; exact .inr rfl
      · cases h4 : (nextR (skipR r).1).2.2.2 with
        | false => rw [cut_d h1 h2 h3 h4] at h; cases h; exact .inl rfl
        | true =>
          rw [cut_e h1 h2 h3 h4] at h
          have hlt : ((skipR r).1.drop (nextR (skipR r).1).2.2.1).length < r.length := by
            have h5 := (skipR_suf r).length_le
            have h6 := nextR_pos h4 h2
            have h7 : 0 < (skipR r).1.length := List.length_pos_iff.2 h2
            rw [List.length_drop]
            omega
          exact cut_err (c + 1) ((skipR r).1.drop (nextR (skipR r).1).2.2.1) e k h
termination_by r.length
decreasing_by exact hlt
theorem startOk (s : ByteArray) : TkOk (startL s) := by
  unfold startL
  split
  · exact ⟨by decide, by decide, rfl⟩
  · rename_i h
    have h : (tokA s).2.2 = 0 := by simpa using h
    unfold tokA at h ⊢
    split at h
    · rename_i h1; exact absurd h h1
    · rename_i h1
      rw [if_neg h1]
      unfold toksOf at h ⊢
      have hb := cut_len 0 (allS s) (by decide)
      split at h
      · rename_i e k he
        exfalso
        rcases cut_err _ _ _ _ he with h2 | h2
        · rw [h2] at h; cases h
        · rw [h2] at h; cases h
      · rename_i he
        simp only
        refine ⟨by simp; omega, by simp, ?_⟩
        rw [tkg_lt (by simp)]
        simp
theorem start_p (s : ByteArray) : PCalls Try.prog 24 [.d (.v (.string s))] [] fun p st => ∃ i0, p = .ptr i0 0 ∧ st = prS i0 (startL s) (startS s) := by
  have H0 := Lib.hid (tall_p s)
  unfold tokP at H0
  have HL := Lib.hid (show startL s = if (tokA s).2.2 ≠ 0 then [noTk] else (tokA s).1 from rfl)
  have HS := Lib.hid (show startS s = if (tokA s).2.2 ≠ 0 then ⟨0, (tokA s).2.1, (tokA s).2.2⟩ else ⟨0, 0, 0⟩ from rfl)
  generalize (tokA s).1 = L at *
  generalize (tokA s).2.1 = a at *
  generalize (tokA s).2.2 = e at *
  refine PCalls.enter Try.func24 rfl Try.ntmps24 (by simp) ?_
  simp only [argsF]
  refine go_ ?_
  refine POps_call_a (H0.out) ?_
  by_cases hz : e = 0
  · rw [if_neg (by simp [hz])] at HL HS
    refine go_ ?_
    refine POps_box_a ?_
    intro i0 hi0
    refine go_ ?_
    refine retP_ok (st' := prS i0 (startL s) (startS s)) (by simp) (by simp only [Try.results24]; rfl) (by simp [resP]; rfl) (by rw [HL.out, HS.out]; repeat (first | exact List.Sublist.refl _ | exact List.nil_sublist _ | refine List.Sublist.cons_cons _ ?_ | refine List.Sublist.cons _ ?_)) ⟨i0, rfl, rfl⟩
  · rw [if_pos hz] at HL HS
    refine go_ ?_
    refine POps_bs_a ?_
    refine go_ ?_
    refine POps_box_a ?_
    intro i0 hi0
    refine go_ ?_
    refine retP_ok (st' := prS i0 (startL s) (startS s)) (by simp) (by simp only [Try.results24]; rfl) (by simp [resP]; rfl) (by rw [HL.out, HS.out]; repeat (first | exact List.Sublist.refl _ | exact List.nil_sublist _ | refine List.Sublist.cons_cons _ ?_ | refine List.Sublist.cons _ ?_)) ⟨i0, rfl, rfl⟩
def checkedS (x : Nd) (a : Int) (σ : ST) : ST := if σ.bad = 0 ∧ 128 < depthT x then failS 2 a σ else σ
def exprS (l : List Tk) (n : Nat) (σ : ST) : Nd × ST := ((termS l n σ).1, checkedS (termS l n σ).1 (tkg l σ.i).at_ (termS l n σ).2)
def endS (l : List Tk) (σ : ST) : ST := if (tkg l σ.i).kind = 5 then σ else failS 1 (tkg l σ.i).at_ σ
theorem checked_p (i0 : Nat) (l : List Tk) (x : Nd) (a : Int) (σ : ST) : PCalls Try.prog 44 [.ptr i0 0, aggD x, .d (.v (.int .i64 a))] (prS i0 l σ) fun p s => p = aggD x ∧ s = prS i0 l (checkedS x a σ) := by
  have H0 := Lib.hid (depth_p x)
  have H1 := Lib.hid (fail_p i0 l σ 2 a)
  have HC := Lib.hid (show checkedS x a σ = if σ.bad = 0 ∧ 128 < depthT x then failS 2 a σ else σ from rfl)
  simp only [aggD, encD_nd, List.map_cons, List.map_nil] at H0 ⊢
  by_cases hz : σ.bad = 0
  · by_cases hd : 128 < depthT x
    · rw [if_pos ⟨hz, hd⟩] at HC
      rw [HC.out]
      clear HC
      obtain ⟨i, b, c⟩ := σ
      simp only at hz
      subst hz
      generalize failS 2 a ⟨i, b, 0⟩ = σ1 at *
      refine PCalls.enter Try.func44 rfl Try.ntmps44 (by simp) ?_
      simp only [argsF]
      refine go_ ?_
      refine POps_box_a ?_
      intro i1 hi1
      simp only [prS, List.cons_append, List.nil_append, List.append_nil, List.drop_succ_cons, List.drop_zero, List.drop_nil, St.freshB_box, St.freshB_nil, St.freshB_tok, St.freshB_obj] at hi1
      refine go_ ?_
      refine POps_alloc_a ?_
      intro i2 hi2
      simp only [prS, List.cons_append, List.nil_append, List.append_nil, List.drop_succ_cons, List.drop_zero, List.drop_nil, St.freshB_box, St.freshB_nil, St.freshB_tok, St.freshB_obj] at hi2
      unfold prS
      refine go_ ?_
      refine POps_call_b (H0.out) ?_
      refine go_ ?_
      refine Rd 2 1 (H1.out) ?_
      rintro _ _ ⟨rfl, rfl⟩
      refine go_ ?_
      refine Rc ?_
      refine go_ ?_
      refine retP_ok (st' := prS i0 l σ1) (by simp) (by simp only [Try.results44]; rfl) (by simp [resP, St.box?, PF.get, loadB, TyK.agg, *]; rfl) (by repeat (first | exact List.Sublist.refl _ | exact List.nil_sublist _ | refine List.Sublist.cons_cons _ ?_ | refine List.Sublist.cons _ ?_)) ?_
      exact ⟨rfl, rfl⟩
    · rw [if_neg (fun h => hd h.2)] at HC
      rw [HC.out]
      clear HC
      obtain ⟨i, b, c⟩ := σ
      simp only at hz
      subst hz
      refine PCalls.enter Try.func44 rfl Try.ntmps44 (by simp) ?_
      simp only [argsF]
      refine go_ ?_
      refine POps_box_a ?_
      intro i1 hi1
      simp only [prS, List.cons_append, List.nil_append, List.append_nil, List.drop_succ_cons, List.drop_zero, List.drop_nil, St.freshB_box, St.freshB_nil, St.freshB_tok, St.freshB_obj] at hi1
      refine go_ ?_
      refine POps_alloc_a ?_
      intro i2 hi2
      simp only [prS, List.cons_append, List.nil_append, List.append_nil, List.drop_succ_cons, List.drop_zero, List.drop_nil, St.freshB_box, St.freshB_nil, St.freshB_tok, St.freshB_obj] at hi2
      unfold prS
      refine go_ ?_
      refine POps_call_b (H0.out) ?_
      refine go_ ?_
      refine Rc ?_
      refine go_ ?_
      refine retP_ok (st' := prS i0 l ⟨i, b, 0⟩) (by simp) (by simp only [Try.results44]; rfl) (by simp [resP, St.box?, PF.get, loadB, TyK.agg, *]; rfl) (by repeat (first | exact List.Sublist.refl _ | exact List.nil_sublist _ | refine List.Sublist.cons_cons _ ?_ | refine List.Sublist.cons _ ?_)) ?_
      exact ⟨rfl, rfl⟩
  · rw [if_neg (fun h => hz h.1)] at HC
    rw [HC.out]
    clear HC
    refine PCalls.enter Try.func44 rfl Try.ntmps44 (by simp) ?_
    simp only [argsF]
    refine go_ ?_
    refine POps_box_a ?_
    intro i1 hi1
    simp only [prS, List.cons_append, List.nil_append, List.append_nil, List.drop_succ_cons, List.drop_zero, List.drop_nil, St.freshB_box, St.freshB_nil, St.freshB_tok, St.freshB_obj] at hi1
    refine go_ ?_
    refine POps_alloc_a ?_
    intro i2 hi2
    simp only [prS, List.cons_append, List.nil_append, List.append_nil, List.drop_succ_cons, List.drop_zero, List.drop_nil, St.freshB_box, St.freshB_nil, St.freshB_tok, St.freshB_obj] at hi2
    unfold prS
    refine go_ ?_
    refine Rc ?_
    refine go_ ?_
    refine retP_ok (st' := prS i0 l σ) (by simp) (by simp only [Try.results44]; rfl) (by simp [resP, St.box?, PF.get, loadB, TyK.agg, *]; rfl) (by repeat (first | exact List.Sublist.refl _ | exact List.nil_sublist _ | refine List.Sublist.cons_cons _ ?_ | refine List.Sublist.cons _ ?_)) ?_
    exact ⟨rfl, rfl⟩
theorem expr_p {l : List Tk} (hl : TkOk l) (i0 n : Nat) (σ : ST) (hw : Wf l σ) (hf : Fu l n 6 σ) : PCalls Try.prog 25 [.ptr i0 0] (prS i0 l σ) fun p s => p = aggD (exprS l n σ).1 ∧ s = prS i0 l (exprS l n σ).2 := by
  have c0 := Lib.hid (tok0_p i0 l σ hl.len hl.pos (Nat.le_trans (hw.le hl) (by decide)))
  have c1 := (parse_w hl n).2.1 σ hw hf i0
  have c2 := checked_p i0 l (termS l n σ).1 (tkg l σ.i).at_ (termS l n σ).2
  unfold exprS
  generalize (tkg l σ.i).at_ = a at *
  generalize (termS l n σ).1 = x at *
  generalize (termS l n σ).2 = σ1 at *
  simp only
  generalize checkedS x a σ1 = σ2 at *
  simp only [aggD, encD_nd, List.map_cons, List.map_nil] at c1 c2 ⊢
  have C1 := Lib.hid c1
  have C2 := Lib.hid c2
  clear c1 c2
  refine PCalls.enter Try.func25 rfl Try.ntmps25 (by simp) ?_
  simp only [argsF]
  refine go_ ?_
  refine POps_alloc_a ?_
  intro i1 hi1
  simp only [prS, List.cons_append, List.nil_append, List.append_nil, List.drop_succ_cons, List.drop_zero, List.drop_nil, St.freshB_box, St.freshB_nil, St.freshB_tok, St.freshB_obj] at hi1
  refine go_ ?_
  refine Rd 1 1 (c0.out) ?_
  rintro _ _ ⟨rfl, rfl⟩
  refine go_ ?_
  refine Rd 1 1 (C1.out) ?_
  rintro _ _ ⟨rfl, rfl⟩
  refine go_ ?_
  refine Rd 1 1 (C2.out) ?_
  rintro _ _ ⟨rfl, rfl⟩
  refine go_ ?_
  refine Rc ?_
  refine go_ ?_
  refine retP_ok (st' := prS i0 l σ2) (by simp) (by simp only [Try.results25]; rfl) (by simp [resP, St.box?, PF.get, loadB, TyK.agg, *]; rfl) (by repeat (first | exact List.Sublist.refl _ | exact List.nil_sublist _ | refine List.Sublist.cons_cons _ ?_ | refine List.Sublist.cons _ ?_)) ?_
  exact ⟨rfl, rfl⟩
theorem end_p' {l : List Tk} (hl : TkOk l) (i0 : Nat) (σ : ST) (hw : Wf l σ) : PCalls Try.prog 26 [.ptr i0 0] (prS i0 l σ) fun p s => p = .tup [] ∧ s = prS i0 l (endS l σ) := by
  have c0 := Lib.hid (tok0_p i0 l σ hl.len hl.pos (Nat.le_trans (hw.le hl) (by decide)))
  have c1 := Lib.hid (fail_p i0 l σ 1 (tkg l σ.i).at_)
  have HE := Lib.hid (show endS l σ = if (tkg l σ.i).kind = 5 then σ else failS 1 (tkg l σ.i).at_ σ from rfl)
  generalize tkg l σ.i = t at *
  by_cases h5 : t.kind = 5
  · rw [if_pos h5] at HE
    rw [HE.out]
    refine PCalls.enter Try.func26 rfl Try.ntmps26 (by simp) ?_
    simp only [argsF]
    refine go_ ?_
    refine Re (c0.out) ?_
    rintro _ _ ⟨rfl, rfl⟩
    refine go_ ?_
    refine retP_ok (st' := prS i0 l σ) (by simp) (by simp only [Try.results26]; rfl) (by simp [resP]; rfl) (by repeat (first | exact List.Sublist.refl _ | exact List.nil_sublist _ | refine List.Sublist.cons_cons _ ?_ | refine List.Sublist.cons _ ?_)) ⟨rfl, rfl⟩
  · rw [if_neg h5] at HE
    rw [HE.out]
    refine PCalls.enter Try.func26 rfl Try.ntmps26 (by simp) ?_
    simp only [argsF]
    refine go_ ?_
    refine Re (c0.out) ?_
    rintro _ _ ⟨rfl, rfl⟩
    refine go_ ?_
    refine Re (c0.out) ?_
    rintro _ _ ⟨rfl, rfl⟩
    refine go_ ?_
    refine Re (c1.out) ?_
    rintro _ _ ⟨rfl, rfl⟩
    refine go_ ?_
    refine retP_ok (st' := prS i0 l (failS 1 t.at_ σ)) (by simp) (by simp only [Try.results26]; rfl) (by simp [resP]; rfl) (by repeat (first | exact List.Sublist.refl _ | exact List.nil_sublist _ | refine List.Sublist.cons_cons _ ?_ | refine List.Sublist.cons _ ?_)) ⟨rfl, rfl⟩
/-- what is read of a text -/
def fuelS (s : ByteArray) : Nat := 6 * (startL s).length + 6
def exprE (s : ByteArray) : Nd × ST := exprS (startL s) (fuelS s) (startS s)
def exprA (s : ByteArray) : Nd × Int × Int :=
  let τ := endS (startL s) (exprE s).2
  if τ.bad = 0 then ((exprE s).1, (s.size : Int), 0) else (zNd, τ.at_, τ.bad)
theorem startW (s : ByteArray) : Wf (startL s) (startS s) := by
  have := (startOk s).pos
  unfold Wf startS
  split <;> exact this
theorem expr_adv {l : List Tk} (hl : TkOk l) (n : Nat) (σ : ST) (hw : Wf l σ) : Adv l σ (exprS l n σ).2 := by
  have h1 := (parse_adv hl n).2.1 σ hw
  unfold exprS checkedS
  simp only
  split
  · exact h1.trans (fail_adv hl 2 _ (by decide) h1.1).adv
  · exact h1
set_option maxHeartbeats 4000000 in
theorem pexprs_p (s : ByteArray) : PCalls Try.prog 13 [.d (.v (.string s))] [] fun p st => p = .tup [aggD (exprA s).1, .d (.v (.int .i64 (exprA s).2.1)), .d (.v (.int .i64 (exprA s).2.2))] ∧ st = [] := by
  have hl := startOk s
  have hw := startW s
  have H0 := Lib.hid (start_p s)
  have hf : Fu (startL s) (fuelS s) 6 (startS s) := ⟨by unfold fuelS; omega, fun _ => by unfold fuelS; omega⟩
  have hE := expr_adv hl (fuelS s) (startS s) hw
  have HE := Lib.hid (fun i0 => expr_p hl i0 (fuelS s) (startS s) hw hf)
  have HD := Lib.hid (fun i0 => end_p' hl i0 (exprE s).2 hE.1)
  have HA := Lib.hid (show exprA s = if (endS (startL s) (exprE s).2).bad = 0 then ((exprE s).1, (s.size : Int), 0) else (zNd, (endS (startL s) (exprE s).2).at_, (endS (startL s) (exprE s).2).bad) from rfl)
  change Hid (∀ i0, PCalls Try.prog 25 [.ptr i0 0] (prS i0 (startL s) (startS s)) fun p st => p = aggD (exprE s).1 ∧ st = prS i0 (startL s) (exprE s).2) at HE
  clear hl hw hf hE
  generalize startS s = σ at *
  generalize startL s = l at *
  generalize (exprE s).1 = x at *
  generalize (exprE s).2 = σ1 at *
  generalize endS l σ1 = σ2 at *
  rw [HA.out]
  clear HA
  simp only [aggD, encD_nd, List.map_cons, List.map_nil] at HE
  refine PCalls.enter Try.func13 rfl Try.ntmps13 (by simp) ?_
  simp only [argsF]
  refine go_ ?_
  refine POps_alloc_a ?_
  intro i1 hi1
  refine go_ ?_
  refine Rd 1 0 (H0.out) ?_
  rintro _ _ ⟨i0, rfl, rfl⟩
  refine Qq ?_
  refine Qh ?_
  refine Qj ?_
  refine PW_nodup fun hnd => ?_
  simp only [prS, List.cons_append, List.nil_append, List.append_nil, List.drop_succ_cons, List.drop_zero, List.drop_nil, bid_box, bid_nil, List.nodup_cons, List.mem_cons, List.not_mem_nil, or_false, List.nodup_nil, and_true, not_false_iff] at hnd
  have hne : ¬ i0 = i1 := fun e => hnd e.symm
  refine go_ ?_
  refine Rd 1 1 (HE.out i0) ?_
  rintro _ _ ⟨rfl, rfl⟩
  refine go_ ?_
  refine POps_alloc_a ?_
  intro i2 hi2
  simp only [prS, List.cons_append, List.nil_append, List.append_nil, List.drop_succ_cons, List.drop_zero, List.drop_nil, St.freshB_box, St.freshB_nil, St.freshB_tok, St.freshB_obj] at hi2
  refine go_ ?_
  refine Rc ?_
  refine go_ ?_
  refine Rd 2 1 (HD.out i0) ?_
  rintro _ _ ⟨rfl, rfl⟩
  by_cases hz : σ2.bad = 0
  · rw [if_pos hz]
    unfold prS
    refine go_ ?_
    refine Rc ?_
    refine go_ ?_
    refine retP_ok (by simp) (by simp only [Try.results13]; rfl) (by simp [resP, St.box?, PF.get, loadB, TyK.agg, *]; rfl) (List.nil_sublist _) ?_
    exact ⟨by simp only [aggD, encD_nd, List.map_cons, List.map_nil]; rfl, rfl⟩
  · rw [if_neg hz]
    unfold prS
    refine go_ ?_
    refine PW_drawnL (J := keepJ [(i0, _)]) [(0, .a), (1, .a), (2, .a), (3, .a), (4, .a), (5, .a), (6, .a), (7, .a), (8, .a), (9, .e), (10, .a), (11, .a)] (by kernel_rfl) (by rfl) (by kernel_rfl) (by (repeat (first | exact keepJ_nil _ | refine keepJ_cons (by simp [St.box?, *] <;> rfl) ?_))) ?_
    repeat (first | with_reducible refine PL_nil ?_ | refine PL_gn2 ?_ | refine PL_s2 ?_ | refine PL_b2 ?_)
    refine PL_store rfl rfl (by simp [nev, nevA, nevB, evBuild, PF.eval, PF.get, PF.wants, cPV, cCell, PV.rows, evBin, evUn, evConv, evLen, loadA, loadB, TyK.agg, partA, St.box?, St.tok?, St.setBox, St.setTok, fillO, spl, PV.ps, PV.one, evalArgs, aggD, slD, encD_nd, encD_bd, encD_rw, encD_dc, encD_str, encD_int, *]; rfl) (by rfl) (by simp [nev, nevA, nevB, evBuild, PF.eval, PF.get, PF.wants, cPV, cCell, PV.rows, evBin, evUn, evConv, evLen, loadA, loadB, TyK.agg, partA, St.box?, St.tok?, St.setBox, St.setTok, fillO, spl, PV.ps, PV.one, evalArgs, aggD, slD, encD_nd, encD_bd, encD_rw, encD_dc, encD_str, encD_int, *]; rfl) (by simp [PV.ps, aggD, slD, encD_nd, encD_bd, encD_rw, encD_dc, encD_str, encD_int]; rfl) (by first | rfl | (simp [*]; done) | (simp [PV.one, *]; done) | fail) (by simp; rfl) (by first | (simp; done) | fail) (by simp [nev, nevA, nevB, evBuild, PF.eval, PF.get, PF.wants, cPV, cCell, PV.rows, evBin, evUn, evConv, evLen, loadA, loadB, TyK.agg, partA, St.box?, St.tok?, St.setBox, St.setTok, fillO, spl, PV.ps, PV.one, evalArgs, aggD, slD, encD_nd, encD_bd, encD_rw, encD_dc, encD_str, encD_int, *]; rfl) (by rfl) (by first | (simp; done) | fail) (by simp [St.setBox, spl, *]; rfl) (by first | exact .inl (by decide +kernel) | exact .inr (by (repeat (first | exact keepJ_nil _ | refine keepJ_cons (by simp [St.box?, *] <;> rfl) ?_)))) ?_
    repeat (first | with_reducible refine PL_nil ?_ | refine PL_gn2 ?_ | refine PL_s2 ?_ | refine PL_b2 ?_)
    refine go_ ?_
    refine retP_ok (by simp) (by simp only [Try.results13]; rfl) (by simp [resP, St.box?, PF.get, loadB, TyK.agg, *]; rfl) (List.nil_sublist _) ?_
    exact ⟨by unfold zNd; rw [agg_mk]; rfl, rfl⟩
end Go.Proofs.Ytahhgpafjiljfaa

namespace Go.Proofs.Ytahhgpafjiljfaa
open Go.RowKit
set_option maxRecDepth 100000
/-- may a pattern begin there? -/
def patternS (l : List Tk) (σ : ST) : Bool := (tkg l σ.i).kind == 1 || isS l σ 0 sDot || isS l σ 0 sPar
def atomF (l : List Tk) : Nat := 6 * l.length + 3
mutual
def parenS (l : List Tk) : Nat → ST → Nd × ST
  | 0, σ => (zNd, σ)
  | n + 1, σ =>
    let at_ := (tkg l σ.i).at_
    let τ := incS σ
    if isS l τ 0 sRap then (.mk 9 at_ ⟨#[]⟩ 0 [], incS τ)
    else if !namedS l τ 0 then ((patS l n τ).1, wantS l sRap (patS l n τ).2)
    else
      let x := parL l n at_ (.mk 6 (tkg l τ.i).at_ (nameS l τ).1 0 []) (nameS l τ).2
      (x.1, wantS l sRap x.2)
def parL (l : List Tk) : Nat → Int → Nd → ST → Nd × ST
  | 0, _, g, σ => (g, σ)
  | n + 1, at_, g, σ =>
    if σ.bad = 0 ∧ patternS l σ then
      let x := patS l n σ
      parL l n at_ (.mk 8 at_ g.name g.num (g.sub ++ [x.1])) x.2
    else (g, σ)
def patS (l : List Tk) : Nat → ST → Nd × ST
  | 0, σ => (zNd, σ)
  | n + 1, σ =>
    let at_ := (tkg l σ.i).at_
    if σ.bad ≠ 0 then (zNd, σ)
    else if isS l σ 0 sPar then parenS l n σ
    else if isS l σ 0 sDot then (.mk 10 at_ ⟨#[]⟩ 0 [(atomS l (atomF l) (incS σ)).1], (atomS l (atomF l) (incS σ)).2)
    else if (tkg l σ.i).kind == 1 && (tkg l σ.i).text.toList == [95] then (.mk 7 at_ ⟨#[]⟩ 0 [], incS σ)
    else (.mk 6 at_ (nameS l σ).1 0 [], (nameS l σ).2)
end
def patF (l : List Tk) : Nat := 6 * l.length + 6
def patsS (l : List Tk) : Nat → List Nd → ST → List Nd × ST
  | 0, acc, σ => (acc, σ)
  | n + 1, acc, σ =>
    if σ.bad = 0 ∧ patternS l σ then
      if 24 ≤ acc.length then (acc, failS 2 (tkg l σ.i).at_ σ)
      else
        let x := patS l (patF l) σ
        patsS l n (acc ++ [x.1]) (checkedS x.1 (tkg l σ.i).at_ x.2)
    else (acc, σ)
def exprF (l : List Tk) : Nat := 6 * l.length + 6
def conS (l : List Tk) (σ : ST) : Bd × ST :=
  let x := nameS l σ
  let e := exprS l (exprF l) (wantS l sCol x.2)
  (⟨x.1, (tkg l σ.i).at_, e.1⟩, e.2)
def bindS (l : List Tk) (σ : ST) : Bd × ST :=
  let x := conS l (wantS l sPar σ)
  (x.1, wantS l sRap x.2)
def lineS (l : List Tk) (σ : ST) : Bd × ST :=
  let x := conS l σ
  (x.1, wantS l sSem x.2)
/-- bindings, at most so many, as long as something says that there are more -/
def listS (l : List Tk) (most : Nat) (more : ST → Bool) (one : ST → Bd × ST) : Nat → List Bd → ST → List Bd × ST
  | 0, acc, σ => (acc, σ)
  | n + 1, acc, σ =>
    if σ.bad = 0 ∧ more σ then
      if most ≤ acc.length then (acc, failS 2 (tkg l σ.i).at_ σ)
      else
        let x := one σ
        listS l most more one n (acc ++ [x.1]) x.2
    else (acc, σ)
def openS (l : List Tk) (σ : ST) : Bool := !isS l σ 0 sKet
def paren0S (l : List Tk) (σ : ST) : Bool := isS l σ 0 sPar
def rowS (l : List Tk) (σ : ST) : Rw × ST :=
  let p := patsS l (l.length + 1) [] σ
  if p.2.bad = 0 ∧ isS l p.2 0 sEq then
    let e := exprS l (exprF l) (incS p.2)
    (⟨(tkg l σ.i).at_, p.1, true, e.1⟩, wantS l sSem e.2)
  else (⟨(tkg l σ.i).at_, p.1, false, zNd⟩, wantS l sSem p.2)
def rowsS (l : List Tk) : Nat → List Rw → ST → List Rw × ST
  | 0, acc, σ => (acc, σ)
  | n + 1, acc, σ =>
    if σ.bad = 0 ∧ openS l σ then
      if 32 ≤ acc.length then (acc, failS 2 (tkg l σ.i).at_ σ)
      else
        let x := rowS l σ
        rowsS l n (acc ++ [x.1]) x.2
    else (acc, σ)
def kindS (l : List Tk) (σ : ST) : Int := if isS l σ 0 sData then 1 else if isS l σ 0 sRec then 2 else if isS l σ 0 sDef then 3 else 0
def declS (l : List Tk) (σ : ST) : Dc × ST :=
  let k := kindS l σ
  let at_ := (tkg l σ.i).at_
  if k = 0 then (⟨0, at_, ⟨#[]⟩, [], zNd, [], []⟩, failS 1 at_ σ)
  else
    let nm := nameS l (incS σ)
    let tl := if k = 3 then ([], nm.2) else listS l 24 (paren0S l) (bindS l) (l.length + 1) [] nm.2
    let ty := exprS l (exprF l) (wantS l sCol tl.2)
    let σ1 := wantS l sBra ty.2
    if k = 3 then
      let r := rowsS l (l.length + 1) [] σ1
      (⟨k, at_, nm.1, tl.1, ty.1, [], r.1⟩, wantS l sKet r.2)
    else
      let c := listS l 16 (openS l) (lineS l) (l.length + 1) [] σ1
      (⟨k, at_, nm.1, tl.1, ty.1, c.1, []⟩, wantS l sKet c.2)
def fileS (l : List Tk) : Nat → List Dc → ST → List Dc × ST
  | 0, acc, σ => (acc, σ)
  | n + 1, acc, σ =>
    if σ.bad = 0 ∧ (tkg l σ.i).kind ≠ 5 then
      let x := declS l σ
      fileS l n (acc ++ [x.1]) x.2
    else (acc, σ)
def fileA (s : ByteArray) : List Dc × Int × Int :=
  let r := fileS (startL s) ((startL s).length + 1) [] (startS s)
  if r.2.bad = 0 then (r.1, (s.size : Int), 0) else ([], r.2.at_, r.2.bad)
def patsA (s : ByteArray) : List Nd × Int × Int :=
  let p := patsS (startL s) ((startL s).length + 1) [] (startS s)
  let τ := endS (startL s) p.2
  if τ.bad = 0 then (p.1, (s.size : Int), 0) else ([], τ.at_, τ.bad)
section
variable {l : List Tk} (hl : TkOk l)
include hl
theorem pat_adv : ∀ (n : Nat),
    (∀ σ, Wf l σ → isS l σ 0 sPar = true → Adv l σ (parenS l n σ).2 ∧ (0 < n → AdvS l σ (parenS l n σ).2)) ∧ (∀ a g σ, Wf l σ → Adv l σ (parL l n a g σ).2) ∧ (∀ σ, Wf l σ → Adv l σ (patS l n σ).2 ∧ (1 < n → AdvS l σ (patS l n σ).2)) := by
  intro n
  induction n with
  | zero => exact ⟨fun _ h _ => ⟨Adv.refl h, fun h => absurd h (Nat.lt_irrefl 0)⟩, fun _ _ _ h => Adv.refl h, fun _ h => ⟨Adv.refl h, fun h => absurd h (by decide)⟩⟩
  | succ n ih =>
    obtain ⟨i1, i2, i3⟩ := ih
    refine ⟨fun σ h hp => ?_, fun a g σ h => ?_, fun σ h => ?_⟩
    · have h1 := inc_adv hl (mark_k hp)
      have : AdvS l σ (parenS l (n + 1) σ).2 := by
        simp only [parenS]
        split
        · rename_i hr
          exact h1.trans (inc_adv hl (mark_k hr)).adv
        · split
          · have h2 := h1.trans (i3 _ h1.1).1
            exact h2.trans (want_adv hl sRap h2.1).adv
          · have h2 := h1.trans (name_adv hl h1.1).adv
            have h3 := h2.trans (i2 (tkg l σ.i).at_ (.mk 6 (tkg l (incS σ).i).at_ (nameS l (incS σ)).1 0 []) _ h2.1)
            exact h3.trans (want_adv hl sRap h3.1).adv
      exact ⟨this.adv, fun _ => this⟩
    · simp only [parL]
      split
      · have h1 := (i3 σ h).1
        exact h1.trans (i2 _ _ _ h1.1)
      · exact Adv.refl h
    · simp only [patS]
      split
      · rename_i hb
        have : AdvS l σ σ := ⟨h, fun hb' => absurd hb' hb⟩
        exact ⟨this.adv, fun _ => this⟩
      · split
        · rename_i hp
          have h1 := i1 σ h hp
          exact ⟨h1.1, fun hn => h1.2 (by omega)⟩
        · split
          · rename_i hd
            have h1 := inc_adv hl (mark_k hd)
            have h2 := h1.trans ((parse_adv hl (atomF l)).2.2.1 _ h1.1).1
            exact ⟨h2.adv, fun _ => h2⟩
          · split
            · rename_i hk
              simp only [Bool.and_eq_true, beq_iff_eq] at hk
              have h1 := inc_adv hl (σ := σ) (by rw [hk.1]; decide)
              exact ⟨h1.adv, fun _ => h1⟩
            · have h1 := name_adv hl h
              exact ⟨h1.adv, fun _ => h1⟩
end
end Go.Proofs.Ytahhgpafjiljfaa

namespace Go.Proofs.Ytahhgpafjiljfaa
open Go.RowKit
set_option maxRecDepth 100000
-- offsets forgotten
mutual
def eNd : Nd → Nd
  | .mk k _ s n sub => .mk k 0 s n (eNds sub)
def eNds : List Nd → List Nd
  | [] => []
  | t :: ts => eNd t :: eNds ts
end
theorem eNds_map (l : List Nd) : eNds l = l.map eNd := by
  induction l with
  | nil => rfl
  | cons t ts ih => simp only [eNds, ih, List.map_cons]
def eT (t : Tk) : Tk := ⟨t.kind, t.text, 0⟩
def erL (l : List Tk) : List Tk := l.map eT
def eS (σ : ST) : ST := ⟨σ.i, 0, σ.bad⟩
theorem tkg_er (l : List Tk) (j : Nat) : tkg (erL l) j = eT (tkg l j) := by
  unfold tkg erL
  rw [List.length_map, List.getElem?_map, List.getElem?_map]
  cases l[j]? <;> cases l[l.length - 1]? <;> rfl
theorem isS_er (l : List Tk) (σ : ST) (k : Nat) (s : ByteArray) : isS (erL l) (eS σ) k s = isS l σ k s := by
  unfold isS
  rw [tkg_er]; rfl
theorem namedS_er (l : List Tk) (σ : ST) (k : Nat) : namedS (erL l) (eS σ) k = namedS l σ k := by
  unfold namedS
  rw [tkg_er]; rfl
theorem failS_er (e a : Int) (σ : ST) : failS e 0 (eS σ) = eS (failS e a σ) := by
  unfold failS eS
  simp only
  split <;> rfl
theorem inc_er (σ : ST) : incS (eS σ) = eS (incS σ) := rfl
theorem at_er (l : List Tk) (j : Nat) : (tkg (erL l) j).at_ = 0 := by rw [tkg_er]; rfl
theorem kind_er (l : List Tk) (j : Nat) : (tkg (erL l) j).kind = (tkg l j).kind := by rw [tkg_er]; rfl
theorem text_er (l : List Tk) (j : Nat) : (tkg (erL l) j).text = (tkg l j).text := by rw [tkg_er]; rfl
theorem eS_i (σ : ST) : (eS σ).i = σ.i := rfl
theorem eS_bad (σ : ST) : (eS σ).bad = σ.bad := rfl
theorem want_er (l : List Tk) (s : ByteArray) (σ : ST) : wantS (erL l) s (eS σ) = eS (wantS l s σ) := by
  unfold wantS
  rw [isS_er, eS_i, at_er, failS_er 1 (tkg l σ.i).at_ σ]
  cases isS l σ 0 s with
  | true =>
    simp only [if_true]
    rw [eS_bad]
    split <;> rfl
  | false =>
    simp only [Bool.false_eq_true, if_false]
    rw [eS_bad]
    split <;> rfl
theorem name_er (l : List Tk) (σ : ST) : nameS (erL l) (eS σ) = ((nameS l σ).1, eS (nameS l σ).2) := by
  unfold nameS
  rw [namedS_er, eS_i, at_er, failS_er 1 (tkg l σ.i).at_ σ]
  cases namedS l σ 0 with
  | true =>
    simp only [if_true]
    rw [eS_bad, eS_i, text_er]
    split <;> rfl
  | false =>
    simp only [Bool.false_eq_true, if_false]
    rw [eS_bad, eS_i, text_er]
    split <;> rfl
theorem variable_er (l : List Tk) (σ : ST) : variableS (erL l) (eS σ) = ((variableS l σ).1, eS (variableS l σ).2) := by
  unfold variableS
  rw [eS_i, kind_er, eS_bad, text_er, name_er]
  split <;> rfl
theorem binder_er (l : List Tk) (σ : ST) : binderS (erL l) (eS σ) = binderS l σ := by
  unfold binderS
  rw [isS_er, isS_er, eS_i, kind_er]
theorem begins_er (l : List Tk) (σ : ST) : beginsS (erL l) (eS σ) = beginsS l σ := by
  unfold beginsS
  rw [isS_er, isS_er, namedS_er, binder_er]
theorem set_er (l : List Tk) (σ : ST) : setS (erL l) (eS σ) = (eNd (setS l σ).1, eS (setS l σ).2) := by
  unfold setS
  simp only [inc_er, eS_i, kind_er, text_er, at_er]
  split
  · split
    · rw [failS_er 1 (tkg l (incS σ).i).at_]; rfl
    · rfl
  · rfl
theorem zNd_e : eNd zNd = zNd := rfl
theorem parse_er (l : List Tk) : ∀ n : Nat,
    (∀ k a σ, typedS (erL l) n k 0 (eS σ) = (eNd (typedS l n k a σ).1, eS (typedS l n k a σ).2)) ∧ (∀ σ, termS (erL l) n (eS σ) = (eNd (termS l n σ).1, eS (termS l n σ).2)) ∧ (∀ σ, atomS (erL l) n (eS σ) = (eNd (atomS l n σ).1, eS (atomS l n σ).2)) ∧ (∀ σ, appS (erL l) n (eS σ) = (eNd (appS l n σ).1, eS (appS l n σ).2)) ∧ (∀ g σ, appL (erL l) n (eNd g) (eS σ) = (eNd (appL l n g σ).1, eS (appL l n g σ).2)) := by
  intro n
  induction n with
  | zero =>
    refine ⟨fun _ _ _ => ?_, fun _ => ?_, fun _ => ?_, fun _ => ?_, fun _ _ => ?_⟩ <;> simp only [typedS, termS, atomS, appS, appL, zNd_e]
  | succ n ih =>
    obtain ⟨i1, i2, i3, i4, i5⟩ := ih
    refine ⟨fun k a σ => ?_, fun σ => ?_, fun σ => ?_, fun σ => ?_, fun g σ => ?_⟩
    · simp only [typedS, want_er, variable_er, i2]
      rfl
    · simp only [termS, eS_bad, isS_er, binder_er, i4, inc_er, eS_i, at_er]
      split
      · rfl
      · split
        · exact i1 4 (tkg l σ.i).at_ (incS σ)
        · split
          · exact i1 3 (tkg l σ.i).at_ σ
          · split
            · rw [i2]
              generalize (appS l n σ).1 = G
              cases G
              rfl
            · rfl
    · simp only [atomS, eS_bad, isS_er, inc_er, eS_i, at_er, set_er, name_er, i2, want_er]
      split
      · rfl
      · split
        · rfl
        · split
          · rfl
          · rfl
    · simp only [appS, i3]
      exact i5 _ _
    · simp only [appL, eS_bad, begins_er, i3]
      split
      · have h := i5 (.mk 5 g.at ⟨#[]⟩ 0 [g, (atomS l n σ).1]) (atomS l n σ).2
        rw [← h]
        cases g
        rfl
      · rfl
end Go.Proofs.Ytahhgpafjiljfaa

namespace Go.Proofs.Ytahhgpafjiljfaa
open Go.RowKit
set_option maxRecDepth 100000
theorem sz_e : ∀ t : Nd, ∀ h, szT (eNd t) h = szT t h := by
  refine Nd.ind ?_
  intro k a s n sub ih h
  have : ∀ l : List Nd, (∀ x ∈ l, ∀ h, szT (eNd x) h = szT x h) → ∀ h, szL (eNds l) h = szL l h := by
    intro l
    induction l with
    | nil => intro _ _; rfl
    | cons t ts iht =>
      intro hl h
      simp only [eNds, szL]
      rw [hl t (by simp), iht (fun x hx => hl x (by simp [hx]))]
  simp only [eNd, szT]
  exact this sub ih _
theorem dp_e : ∀ t : Nd, ∀ h, dpT (eNd t) h = dpT t h := by
  refine Nd.ind ?_
  intro k a s n sub ih h
  have : ∀ l : List Nd, (∀ x ∈ l, ∀ h, dpT (eNd x) h = dpT x h) → ∀ h m, dpL (eNds l) h m = dpL l h m := by
    intro l
    induction l with
    | nil => intro _ _ _; rfl
    | cons t ts iht =>
      intro hl h m
      simp only [eNds, dpL]
      rw [hl t (by simp), iht (fun x hx => hl x (by simp [hx]))]
  simp only [eNd, dpT]
  rw [this sub ih]
theorem depth_e (t : Nd) : depthT (eNd t) = depthT t := by
  unfold depthT sizeT
  rw [sz_e, dp_e]
def eBd (b : Bd) : Bd := ⟨b.name, 0, eNd b.ty⟩
def eRw (r : Rw) : Rw := ⟨0, r.pats.map eNd, r.has, eNd r.body⟩
def eDc (d : Dc) : Dc := ⟨d.kind, 0, d.name, d.tele.map eBd, eNd d.ty, d.cons.map eBd, d.rows.map eRw⟩
theorem checked_er (x : Nd) (a : Int) (σ : ST) : checkedS (eNd x) 0 (eS σ) = eS (checkedS x a σ) := by
  unfold checkedS
  rw [depth_e, eS_bad, failS_er 2 a]
  split <;> rfl
theorem expr_er (l : List Tk) (n : Nat) (σ : ST) : exprS (erL l) n (eS σ) = (eNd (exprS l n σ).1, eS (exprS l n σ).2) := by
  unfold exprS
  rw [(parse_er l n).2.1, eS_i, at_er]
  simp only
  rw [checked_er _ (tkg l σ.i).at_]
theorem len_er (l : List Tk) : (erL l).length = l.length := by unfold erL; rw [List.length_map]
theorem exprF_er (l : List Tk) : exprF (erL l) = exprF l := by unfold exprF; rw [len_er]
theorem patF_er (l : List Tk) : patF (erL l) = patF l := by unfold patF; rw [len_er]
theorem atomF_er (l : List Tk) : atomF (erL l) = atomF l := by unfold atomF; rw [len_er]
theorem pattern_er (l : List Tk) (σ : ST) : patternS (erL l) (eS σ) = patternS l σ := by
  unfold patternS
  rw [isS_er, isS_er, eS_i, kind_er]
theorem pat_er (l : List Tk) : ∀ n : Nat,
    (∀ σ, parenS (erL l) n (eS σ) = (eNd (parenS l n σ).1, eS (parenS l n σ).2)) ∧ (∀ a g σ, parL (erL l) n 0 (eNd g) (eS σ) = (eNd (parL l n a g σ).1, eS (parL l n a g σ).2)) ∧ (∀ σ, patS (erL l) n (eS σ) = (eNd (patS l n σ).1, eS (patS l n σ).2)) := by
  intro n
  induction n with
  | zero => refine ⟨fun _ => ?_, fun _ _ _ => ?_, fun _ => ?_⟩ <;> simp only [parenS, parL, patS, zNd_e]
  | succ n ih =>
    obtain ⟨i1, i2, i3⟩ := ih
    refine ⟨fun σ => ?_, fun a g σ => ?_, fun σ => ?_⟩
    · simp only [parenS, inc_er, isS_er, namedS_er, i3, eS_i, at_er, name_er, want_er]
      split
      · rfl
      · split
        · rfl
        · have h := i2 (tkg l σ.i).at_ (.mk 6 (tkg l (incS σ).i).at_ (nameS l (incS σ)).1 0 []) (nameS l (incS σ)).2
          change parL (erL l) n 0 (.mk 6 0 (nameS l (incS σ)).1 0 []) (eS (nameS l (incS σ)).2) = _ at h
          rw [h]
          simp only [want_er]
    · simp only [parL, eS_bad, pattern_er, i3]
      split
      · have h := i2 a (.mk 8 a g.name g.num (g.sub ++ [(patS l n σ).1])) (patS l n σ).2
        rw [← h]
        cases g
        simp only [eNd, eNds_map, List.map_append, List.map_cons, List.map_nil, Nd.name, Nd.num, Nd.sub]
      · rfl
    · simp only [patS, eS_bad, isS_er, i1, inc_er, eS_i, at_er, kind_er, text_er, name_er, (parse_er l _).2.2.1, atomF_er]
      split
      · rfl
      · split
        · rfl
        · split
          · rfl
          · split <;> rfl
theorem pats_er (l : List Tk) : ∀ (n : Nat) (acc : List Nd) (σ : ST), patsS (erL l) n (acc.map eNd) (eS σ) = ((patsS l n acc σ).1.map eNd, eS (patsS l n acc σ).2) := by
  intro n
  induction n with
  | zero => intro acc σ; rfl
  | succ n ih =>
    intro acc σ
    simp only [patsS, eS_bad, pattern_er, List.length_map, eS_i, at_er, patF_er, (pat_er l _).2.2]
    split
    · split
      · rw [failS_er 2 (tkg l σ.i).at_]
      · rw [checked_er _ (tkg l σ.i).at_, ← ih]
        simp only [List.map_append, List.map_cons, List.map_nil]
    · rfl
theorem con_er (l : List Tk) (σ : ST) : conS (erL l) (eS σ) = (eBd (conS l σ).1, eS (conS l σ).2) := by
  simp only [conS, name_er, want_er, exprF_er, expr_er, eS_i, at_er]
  rfl
theorem bind_er (l : List Tk) (σ : ST) : bindS (erL l) (eS σ) = (eBd (bindS l σ).1, eS (bindS l σ).2) := by
  simp only [bindS, want_er, con_er]
theorem line_er (l : List Tk) (σ : ST) : lineS (erL l) (eS σ) = (eBd (lineS l σ).1, eS (lineS l σ).2) := by
  simp only [lineS, want_er, con_er]
theorem list_er (l : List Tk) (most : Nat) {more more' : ST → Bool} {one one' : ST → Bd × ST} (hm : ∀ σ, more' (eS σ) = more σ) (ho : ∀ σ, one' (eS σ) = (eBd (one σ).1, eS (one σ).2)) : ∀ (n : Nat) (acc : List Bd) (σ : ST), listS (erL l) most more' one' n (acc.map eBd) (eS σ) = ((listS l most more one n acc σ).1.map eBd, eS (listS l most more one n acc σ).2) := by
  intro n
  induction n with
  | zero => intro acc σ; rfl
  | succ n ih =>
    intro acc σ
    simp only [listS, eS_bad, hm, ho, List.length_map, eS_i, at_er]
    split
    · split
      · rw [failS_er 2 (tkg l σ.i).at_]
      · rw [← ih]
        simp only [List.map_append, List.map_cons, List.map_nil]
    · rfl
theorem open_er (l : List Tk) (σ : ST) : openS (erL l) (eS σ) = openS l σ := by unfold openS; rw [isS_er]
theorem paren0_er (l : List Tk) (σ : ST) : paren0S (erL l) (eS σ) = paren0S l σ := by unfold paren0S; rw [isS_er]
theorem row_er (l : List Tk) (σ : ST) : rowS (erL l) (eS σ) = (eRw (rowS l σ).1, eS (rowS l σ).2) := by
  have h := pats_er l (l.length + 1) [] σ
  simp only [List.map_nil] at h
  simp only [rowS, len_er, h, eS_bad, isS_er, inc_er, exprF_er, expr_er, want_er, eS_i, at_er]
  split <;> rfl
theorem rows_er (l : List Tk) : ∀ (n : Nat) (acc : List Rw) (σ : ST), rowsS (erL l) n (acc.map eRw) (eS σ) = ((rowsS l n acc σ).1.map eRw, eS (rowsS l n acc σ).2) := by
  intro n
  induction n with
  | zero => intro acc σ; rfl
  | succ n ih =>
    intro acc σ
    simp only [rowsS, eS_bad, open_er, row_er, List.length_map, eS_i, at_er]
    split
    · split
      · rw [failS_er 2 (tkg l σ.i).at_]
      · rw [← ih]
        simp only [List.map_append, List.map_cons, List.map_nil]
    · rfl
theorem kindS_er (l : List Tk) (σ : ST) : kindS (erL l) (eS σ) = kindS l σ := by
  unfold kindS
  rw [isS_er, isS_er, isS_er]
theorem decl_er (l : List Tk) (σ : ST) : declS (erL l) (eS σ) = (eDc (declS l σ).1, eS (declS l σ).2) := by
  have h1 := fun τ => list_er l 24 (paren0_er l) (bind_er l) (l.length + 1) [] τ
  have h2 := fun τ => list_er l 16 (open_er l) (line_er l) (l.length + 1) [] τ
  have h3 := fun τ => rows_er l (l.length + 1) [] τ
  simp only [List.map_nil] at h1 h2 h3
  simp only [declS, kindS_er, eS_i, at_er, inc_er, name_er, len_er, h1, exprF_er, expr_er, want_er]
  by_cases h0 : kindS l σ = 0
  · simp only [if_pos h0]
    rw [failS_er 1 (tkg l σ.i).at_]
    rfl
  · simp only [if_neg h0]
    by_cases hk : kindS l σ = 3
    · simp only [if_pos hk, exprF_er, expr_er, want_er, h3]
      rfl
    · simp only [if_neg hk, exprF_er, expr_er, want_er, h2]
      rfl
theorem file_er (l : List Tk) : ∀ (n : Nat) (acc : List Dc) (σ : ST), fileS (erL l) n (acc.map eDc) (eS σ) = ((fileS l n acc σ).1.map eDc, eS (fileS l n acc σ).2) := by
  intro n
  induction n with
  | zero => intro acc σ; rfl
  | succ n ih =>
    intro acc σ
    simp only [fileS, eS_bad, eS_i, kind_er, decl_er]
    split
    · rw [← ih]
      simp only [List.map_append, List.map_cons, List.map_nil]
    · rfl
/-- texts of alike tokens are read alike -/
theorem file_like {s t : ByteArray} (h : erL (startL s) = erL (startL t)) (h2 : eS (startS s) = eS (startS t)) : (fileA s).2.2 = (fileA t).2.2 ∧ (fileA s).1.map eDc = (fileA t).1.map eDc := by
  have hl : (startL s).length = (startL t).length := by rw [← len_er, h, len_er]
  have a := file_er (startL s) ((startL s).length + 1) [] (startS s)
  have b := file_er (startL t) ((startL t).length + 1) [] (startS t)
  rw [h, h2, hl, b] at a
  have e1 := congrArg Prod.fst a
  have e2 := congrArg (fun x => x.2.bad) a
  simp only [eS_bad] at e1 e2
  rw [← hl] at e1 e2 
  unfold fileA
  simp only
  rw [← hl]
  rw [← e2]
  split
  · exact ⟨rfl, e1.symm⟩
  · exact ⟨rfl, rfl⟩
end Go.Proofs.Ytahhgpafjiljfaa

namespace Go.Proofs.Ytahhgpafjiljfaa
open Go.RowKit
set_option maxRecDepth 100000
def firstR : List Int := [123, 45, 32, 102, 105, 114, 115, 116, 32, 45, 125]
def sepR : List Int := [32, 45, 45, 32, 40, 10, 9]
theorem nest_first (w : List Int) : nestR 1 (32 :: 102 :: 105 :: 114 :: 115 :: 116 :: 32 :: 45 :: 125 :: w) = (w, true) := by
  rw [nestR, if_neg (by simp), if_neg (by simp)]
  rw [nestR, if_neg (by simp), if_neg (by simp)]
  rw [nestR, if_neg (by simp), if_neg (by simp)]
  rw [nestR, if_neg (by simp), if_neg (by simp)]
  rw [nestR, if_neg (by simp), if_neg (by simp)]
  rw [nestR, if_neg (by simp), if_neg (by simp)]
  rw [nestR, if_neg (by simp), if_neg (by simp)]
  rw [nestR, if_neg (by simp), if_pos (by simp), if_pos (by simp)]
  rfl
theorem skip_first (w : List Int) : skipR (firstR ++ w) = skipR w := by
  simp only [firstR, List.cons_append, List.nil_append]
  rw [skipR]
  rw [if_neg (by decide), if_neg (by simp), if_pos (by simp)]
  simp only [List.drop_succ_cons, List.drop_zero, nest_first, if_true]
theorem skip_sep (w : List Int) : skipR (sepR ++ w) = skipR w := by
  simp only [sepR, List.cons_append, List.nil_append]
  rw [skipR, if_pos (by decide)]
  rw [skipR, if_neg (by decide), if_pos (by simp)]
  rw [show lineR (45 :: 32 :: 40 :: 10 :: 9 :: w) = 10 :: 9 :: w from by simp [lineR]]
  rw [skipR, if_pos (by decide)]
  rw [skipR, if_pos (by decide)]
/-- signs that begin a token, with a blank behind it -/
structure TokR (u : List Int) (k : Int) (x : ByteArray) : Prop where
  ne : u ≠ []
  join : x = joinS u
  ok : u.all right = true
  skip : ∀ w, skipR (u ++ 32 :: w) = (u ++ 32 :: w, true)
  next : ∀ w, nextR (u ++ 32 :: w) = (k, x, u.length, true)
theorem tw_blank {p : Int → Bool} {l : List Int} (h : p 32 = false) (w : List Int) : (l.takeWhile p ++ 32 :: w).takeWhile p = l.takeWhile p := by
  induction l with
  | nil => simp [h]
  | cons a r ih =>
    by_cases ha : p a = true
    · rw [List.takeWhile_cons_of_pos ha, List.cons_append, List.takeWhile_cons_of_pos ha, ih]
    · rw [List.takeWhile_cons_of_neg ha]
      simp [h]
theorem skip_at {a : Int} {r : List Int} (h1 : blankB a = false) (h2 : a = 45 → r.head? ≠ some 45) (h3 : a = 123 → r.head? ≠ some 45) : skipR (a :: r) = (a :: r, true) := by
  rw [skipR, if_neg (by simp [h1]), if_neg (fun h => h2 h.1 h.2), if_neg (fun h => h3 h.1 h.2)]
theorem sgn_app (u w : List Int) : sgn (u ++ 32 :: w) u.length = 32 := by simp [sgn]
theorem letter_blank {n : Int} (h : (letterB n || n == 95) = true) : blankB n = false ∧ n ≠ 45 ∧ n ≠ 123 := by
  unfold letterB at h
  unfold blankB
  simp only [Bool.or_eq_true, decide_eq_true_eq, beq_iff_eq] at h
  simp
  omega
theorem digit_blank {n : Int} (h : digitB n = true) : blankB n = false ∧ n ≠ 45 ∧ n ≠ 123 := by
  unfold digitB at h
  unfold blankB
  simp only [decide_eq_true_eq] at h
  simp
  omega
theorem all_tw {p q : Int → Bool} {l : List Int} (h : l.all q = true) : (l.takeWhile p).all q = true := by
  rw [List.all_eq_true] at h ⊢
  intro x hx
  exact h x ((List.takeWhile_prefix p).mem hx)
theorem next_word {a : Int} {r : List Int} (h : (letterB a || a == 95) = true) : nextR (a :: r) = (if kwB (joinS ((a :: r).takeWhile innerB)) then (2, joinS ((a :: r).takeWhile innerB), ((a :: r).takeWhile innerB).length, true) else (1, joinS ((a :: r).takeWhile innerB), ((a :: r).takeWhile innerB).length, (joinS ((a :: r).takeWhile innerB)).toList == [95] || rightN (joinS ((a :: r).takeWhile innerB)))) := if_pos h
theorem next_digit {a : Int} {r : List Int} (hl : ¬ (letterB a || a == 95) = true) (h : digitB a = true) : nextR (a :: r) = (3, joinS ((a :: r).takeWhile digitB), ((a :: r).takeWhile digitB).length, numOK (joinS ((a :: r).takeWhile digitB)) && !innerB (sgn (a :: r) ((a :: r).takeWhile digitB).length)) := (if_neg hl).trans (if_pos h)
theorem next_mark {a : Int} {r : List Int} (hl : ¬ (letterB a || a == 95) = true) (h : ¬ digitB a = true) : nextR (a :: r) = (4, (markR a (sgn (a :: r) 1)).1, (markR a (sgn (a :: r) 1)).2, decide (0 < (markR a (sgn (a :: r) 1)).2)) := (if_neg hl).trans (if_neg h)
theorem tokR_word {a : Int} {r : List Int} (hr : (a :: r).all right = true) (h : (letterB a || a == 95) = true) (hx : (nextR (a :: r)).2.2.2 = true) : TokR ((a :: r).takeWhile innerB) (nextR (a :: r)).1 (nextR (a :: r)).2.1 := by
  have hi : innerB a = true := innerB_letter h
  have hu : (a :: r).takeWhile innerB = a :: r.takeWhile innerB := List.takeWhile_cons_of_pos hi
  have htw : ∀ w, ((a :: r).takeWhile innerB ++ 32 :: w).takeWhile innerB = (a :: r).takeWhile innerB := tw_blank (by decide)
  obtain ⟨b1, b2, b3⟩ := letter_blank h
  have hn : ∀ w, nextR ((a :: r).takeWhile innerB ++ 32 :: w) = (if kwB (joinS ((a :: r).takeWhile innerB)) then (2, joinS ((a :: r).takeWhile innerB), ((a :: r).takeWhile innerB).length, true) else (1, joinS ((a :: r).takeWhile innerB), ((a :: r).takeWhile innerB).length, (joinS ((a :: r).takeWhile innerB)).toList == [95] || rightN (joinS ((a :: r).takeWhile innerB)))) := by
    intro w
    have e := htw w
    have e2 := next_word (r := r.takeWhile innerB ++ 32 :: w) h
    rw [← List.cons_append, ← hu, e] at e2
    exact e2
  have ha : (a :: r).all right = true → ((a :: r).takeWhile innerB).all right = true := all_tw
  rw [next_word h] at hx ⊢
  generalize (a :: r).takeWhile innerB = u at *
  refine ⟨by rw [hu]; simp, ?_, ha hr, fun w => ?_, fun w => ?_⟩
  · split <;> rfl
  · rw [hu, List.cons_append]
    exact skip_at b1 (fun e => absurd e b2) (fun e => absurd e b3)
  · rw [hn]
    split
    · rfl
    · rename_i hk
      rw [if_neg hk] at hx
      simp only at hx
      rw [hx]
theorem tokR_digit {a : Int} {r : List Int} (hr : (a :: r).all right = true) (hl : ¬ (letterB a || a == 95) = true) (h : digitB a = true) (hx : (nextR (a :: r)).2.2.2 = true) : TokR ((a :: r).takeWhile digitB) (nextR (a :: r)).1 (nextR (a :: r)).2.1 := by
  have hu : (a :: r).takeWhile digitB = a :: r.takeWhile digitB := List.takeWhile_cons_of_pos h
  have htw : ∀ w, ((a :: r).takeWhile digitB ++ 32 :: w).takeWhile digitB = (a :: r).takeWhile digitB := tw_blank (by decide)
  obtain ⟨b1, b2, b3⟩ := digit_blank h
  have hn : ∀ w, nextR ((a :: r).takeWhile digitB ++ 32 :: w) = (3, joinS ((a :: r).takeWhile digitB), ((a :: r).takeWhile digitB).length, numOK (joinS ((a :: r).takeWhile digitB)) && !innerB 32) := by
    intro w
    have e := htw w
    have e2 := next_digit (r := r.takeWhile digitB ++ 32 :: w) hl h
    rw [← List.cons_append, ← hu, e, sgn_app] at e2
    exact e2
  have ha : (a :: r).all right = true → ((a :: r).takeWhile digitB).all right = true := all_tw
  rw [next_digit hl h] at hx ⊢
  refine ⟨by rw [hu]; simp, rfl, ha hr, fun w => ?_, fun w => ?_⟩
  · rw [hu, List.cons_append]
    exact skip_at b1 (fun e => absurd e b2) (fun e => absurd e b3)
  · rw [hn]
    simp only at hx
    rw [Bool.and_eq_true] at hx
    rw [hx.1]
    rfl
theorem tokR_one {n : Int} (h : mk1B n = true) : TokR [n] 4 (strOfNums [n]) := by
  have hn : n = 40 ∨ n = 41 ∨ n = 123 ∨ n = 125 ∨ n = 58 ∨ n = 61 ∨ n = 46 ∨ n = 44 ∨ n = 59 ∨ n = 124 ∨ n = 92 := by
    unfold mk1B at h
    simpa using h
  rcases hn with rfl | rfl | rfl | rfl | rfl | rfl | rfl | rfl | rfl | rfl | rfl
  all_goals exact ⟨by simp, by decide +kernel, by decide +kernel, fun w => skip_at (by decide) (fun _ => by simp) (fun _ => by simp), fun w => by simp [nextR, sgn, letterB, digitB, markR, mk1B]⟩
theorem tokR_arr : TokR [45, 62] 4 ⟨#[45, 62]⟩ :=
  ⟨by simp, by decide +kernel, by decide +kernel, fun w => skip_at (by decide) (fun _ => by simp) (fun _ => by simp), fun w => by simp [nextR, sgn, letterB, digitB, markR, mk1B]⟩
end Go.Proofs.Ytahhgpafjiljfaa

namespace Go.Proofs.Ytahhgpafjiljfaa
open Go.RowKit
set_option maxRecDepth 100000
theorem cut_skip {c : Nat} {l l' : List Int} (h : skipR l = skipR l') : cutR c l = cutR c l' := by
  conv => lhs; rw [cutR]
  conv => rhs; rw [cutR]
  rw [h]
def madeR (us : List (List Int)) : List Int := us.flatMap fun u => u ++ sepR
inductive TokRs : List (List Int) → List (Int × ByteArray × Nat) → Prop
  | nil : TokRs [] []
  | cons {u : List Int} {t : Int × ByteArray × Nat} {us : List (List Int)} {ts : List (Int × ByteArray × Nat)} (h : TokR u t.1 t.2.1) (r : TokRs us ts) : TokRs (u :: us) (t :: ts)
end Go.Proofs.Ytahhgpafjiljfaa

namespace Go.Proofs.Ytahhgpafjiljfaa
open Go.RowKit
set_option maxRecDepth 100000
theorem jB_app (a b : List Int) : joinB (a ++ b) = joinB a ++ joinB b := List.flatMap_append
theorem nums_app (a b : List Int) : strOfNums a ++ strOfNums b = strOfNums (a ++ b) := by
  apply ByteArray.ext
  simp [strOfNums]
theorem joinE_0 {l : List Int} (hr : l.all right = true) (hs : (joinB l).length ≤ 65535) : joinE l = 0 := by
  unfold joinE; rw [if_pos hr, if_neg (by omega)]
theorem joinS_of {l : List Int} (hr : l.all right = true) (hs : (joinB l).length ≤ 65535) : joinS l = strOfNums (joinB l) := by
  unfold joinS; rw [if_pos (joinE_0 hr hs)]
theorem eL_pos (n : Int) : 1 ≤ (encL n).length := by
  unfold encL
  split
  · simp
  · split
    · simp
    · split <;> simp
theorem jB_le : ∀ l : List Int, l.length ≤ (joinB l).length := by
  intro l
  induction l with
  | nil => simp
  | cons a r ih =>
    have := eL_pos a
    have e : joinB (a :: r) = encL a ++ joinB r := by unfold joinB; rw [List.flatMap_cons]
    rw [e, List.length_append, List.length_cons]
    omega
theorem take_tw (p : Int → Bool) (l : List Int) : l.take (l.takeWhile p).length = l.takeWhile p := by
  obtain ⟨t, ht⟩ := List.takeWhile_prefix p (l := l)
  conv => lhs; arg 2; rw [← ht]
  rw [List.take_left]
theorem tokR_of2 {l : List Int} (hl : l ≠ []) (hr : l.all right = true) (hx : (nextR l).2.2.2 = true) : ∃ u, TokR u (nextR l).1 (nextR l).2.1 ∧ (joinB u).length ≤ (joinB (l.take (nextR l).2.2.1)).length := by
  obtain ⟨a, r, rfl⟩ := List.exists_cons_of_ne_nil hl
  by_cases h1 : (letterB a || a == 95) = true
  · refine ⟨_, tokR_word hr h1 hx, ?_⟩
    have : (nextR (a :: r)).2.2.1 = ((a :: r).takeWhile innerB).length := by rw [next_word h1]; split <;> rfl
    rw [this, take_tw]
    exact Nat.le_refl _
  · by_cases h2 : digitB a = true
    · refine ⟨_, tokR_digit hr h1 h2 hx, ?_⟩
      have : (nextR (a :: r)).2.2.1 = ((a :: r).takeWhile digitB).length := by rw [next_digit h1 h2]
      rw [this, take_tw]
      exact Nat.le_refl _
    · have e := next_mark (r := r) h1 h2
      rw [e] at hx ⊢
      simp only [decide_eq_true_eq] at hx ⊢
      unfold markR at hx ⊢
      by_cases h3 : mk1B a = true
      · rw [if_pos h3]
        exact ⟨_, tokR_one h3, by simp⟩
      · rw [if_neg h3] at hx ⊢
        by_cases h4 : a = 955
        · rw [if_pos h4]
          have := tokR_one (n := 92) (by decide)
          rw [show strOfNums [92] = (⟨#[92]⟩ : ByteArray) from by decide +kernel] at this
          refine ⟨[92], this, ?_⟩
          subst h4
          rw [List.take_succ_cons, List.take_zero]
          decide +kernel
        · rw [if_neg h4] at hx ⊢
          by_cases h5 : a = 8594
          · rw [if_pos h5]
            refine ⟨_, tokR_arr, ?_⟩
            subst h5
            rw [List.take_succ_cons, List.take_zero]
            decide +kernel
          · rw [if_neg h5] at hx ⊢
            by_cases h6 : a = 45 ∧ sgn (a :: r) 1 = 62
            · rw [if_pos h6]
              refine ⟨_, tokR_arr, ?_⟩
              obtain ⟨rfl, h7⟩ := h6
              cases r with
              | nil => exact absurd h7 (by decide)
              | cons b r =>
                have : b = 62 := h7
                subst this
                simp
            · rw [if_neg h6] at hx
              exact absurd hx (by simp)
def sizeR (us : List (List Int)) : Nat := (us.map fun u => (joinB u).length).sum
theorem cut_us2 (c : Nat) (r : List Int) (hr : r.all right = true) (h : (cutR c r).2 = none) : ∃ us, TokRs us (cutR c r).1 ∧ sizeR us ≤ (joinB r).length := by
  cases h1 : (skipR r).2 with
  | false => rw [cut_a h1] at h; cases h
  | true =>
    by_cases h2 : (skipR r).1 = []
    · rw [cut_b h1 h2]; exact ⟨[], .nil, Nat.zero_le _⟩
    · by_cases h3 : 8192 ≤ c
      · rw [cut_c h1 h2 h3] at h; cases h
      · cases h4 : (nextR (skipR r).1).2.2.2 with
        | false => rw [cut_d h1 h2 h3 h4] at h; cases h
        | true =>
          rw [cut_e h1 h2 h3 h4] at h ⊢
          have hs : (skipR r).1.all right = true := by
            rw [List.all_eq_true] at hr ⊢
            exact fun x hx => hr x ((skipR_suf r).mem hx)
          have hd : ((skipR r).1.drop (nextR (skipR r).1).2.2.1).all right = true := by
            rw [List.all_eq_true] at hs ⊢
            exact fun x hx => hs x ((List.drop_suffix _ _).mem hx)
          obtain ⟨u, hu, hsz⟩ := tokR_of2 h2 hs h4
          have hlt : ((skipR r).1.drop (nextR (skipR r).1).2.2.1).length < r.length := by
            have h5 := (skipR_suf r).length_le
            have h6 := nextR_pos h4 h2
            have h7 : 0 < (skipR r).1.length := List.length_pos_iff.2 h2
            rw [List.length_drop]
            omega
          obtain ⟨us, hus, hss⟩ := cut_us2 (c + 1) _ hd h
          refine ⟨u :: us, .cons hu hus, ?_⟩
          have e1 : (joinB (skipR r).1).length = (joinB ((skipR r).1.take (nextR (skipR r).1).2.2.1)).length + (joinB ((skipR r).1.drop (nextR (skipR r).1).2.2.1)).length := by
            rw [← List.length_append, ← jB_app, List.take_append_drop]
          have e2 : (joinB (skipR r).1).length ≤ (joinB r).length := by
            obtain ⟨t, ht⟩ := skipR_suf r
            have e3 := congrArg (fun x => (joinB x).length) ht
            simp only [jB_app, List.length_append] at e3
            omega
          unfold sizeR at hss ⊢
          rw [List.map_cons, List.sum_cons]
          omega
termination_by r.length
decreasing_by exact hlt
end Go.Proofs.Ytahhgpafjiljfaa

namespace Go.Proofs.Ytahhgpafjiljfaa
open Go.RowKit
set_option maxRecDepth 100000
/-- with a blank for the end -/
def madeE (us : List (List Int)) : List Int := madeR us ++ sepR
theorem madeE_cons (u : List Int) (us : List (List Int)) : madeE (u :: us) = u ++ 32 :: ([45, 45, 32, 40, 10, 9] ++ madeE us) := by
  unfold madeE madeR
  simp [sepR]
theorem cut_madeE : ∀ (us : List (List Int)) (ts : List (Int × ByteArray × Nat)) (c : Nat), TokRs us ts → c + us.length ≤ 8192 → (cutR c (madeE us)).2 = none ∧ (cutR c (madeE us)).1.map (fun t => (t.1, t.2.1)) = ts.map (fun t => (t.1, t.2.1)) := by
  intro us
  induction us with
  | nil =>
    intro ts c hf _
    cases hf
    have h1 : skipR (madeE []) = ([], true) := by
      have := skip_sep []
      rw [List.append_nil] at this
      unfold madeE madeR
      rw [List.flatMap_nil, List.nil_append, this, skipR]
    rw [cut_b (by rw [h1]) (by rw [h1])]
    exact ⟨rfl, rfl⟩
  | cons u us ih =>
    intro ts c hf hc
    cases hf with
    | cons ht hr =>
      rename_i t ts
      have hs := ht.skip ([45, 45, 32, 40, 10, 9] ++ madeE us)
      have hn := ht.next ([45, 45, 32, 40, 10, 9] ++ madeE us)
      rw [← madeE_cons] at hs hn
      have hl : ¬ 8192 ≤ c := by simp only [List.length_cons] at hc; omega
      have hne : madeE (u :: us) ≠ [] := by rw [madeE_cons]; simp
      rw [cut_e (by rw [hs]) (by rw [hs]; exact hne) hl (by rw [hs]; rw [hn])]
      rw [hs, hn]
      have hd : (madeE (u :: us)).drop u.length = sepR ++ madeE us := by
        rw [madeE_cons, List.drop_left]
        rfl
      simp only [hd]
      rw [cut_skip (skip_sep (madeE us))]
      have := ih ts (c + 1) hr (by simp only [List.length_cons] at hc; omega)
      refine ⟨this.1, ?_⟩
      simp only [List.map_cons, this.2]
def addT (a x : ByteArray) : ByteArray := a ++ x ++ ⟨#[32, 45, 45, 32, 40, 10, 9]⟩
theorem sep_bytes : (⟨#[32, 45, 45, 32, 40, 10, 9]⟩ : ByteArray) = strOfNums (joinB sepR) := by decide +kernel
theorem first_bytes : (⟨#[123, 45, 32, 102, 105, 114, 115, 116, 32, 45, 125]⟩ : ByteArray) = strOfNums (joinB firstR) := by decide +kernel
theorem right_app {a b : List Int} (h : a.all right = true) (h2 : b.all right = true) : (a ++ b).all right = true := by rw [List.all_append, h, h2]; rfl
theorem fold_made {us : List (List Int)} {ts : List (Int × ByteArray × Nat)} (h : TokRs us ts) : ∀ acc : List Int, acc.all right = true → (joinB acc).length + sizeR us + 7 * us.length ≤ 65535 → (ts.map fun t => t.2.1).foldl addT (strOfNums (joinB acc)) = strOfNums (joinB (acc ++ madeR us)) ∧ (acc ++ madeR us).all right = true ∧ (joinB (acc ++ madeR us)).length = (joinB acc).length + sizeR us + 7 * us.length := by
  induction h with
  | nil =>
    intro acc ha _
    have : madeR [] = [] := rfl
    rw [this, List.append_nil]
    exact ⟨rfl, ha, rfl⟩
  | cons ht hr ih =>
    rename_i u t us ts
    intro acc ha hs
    have e0 : sizeR (u :: us) = (joinB u).length + sizeR us := by unfold sizeR; rw [List.map_cons, List.sum_cons]
    have e1 : (joinB (acc ++ u ++ sepR)).length = (joinB acc).length + (joinB u).length + 7 := by
      rw [jB_app, jB_app, List.length_append, List.length_append, show (joinB sepR).length = 7 from by decide]
    have e2 : acc ++ madeR (u :: us) = (acc ++ u ++ sepR) ++ madeR us := by
      unfold madeR
      rw [List.flatMap_cons]
      simp only [List.append_assoc]
    rw [e0, List.length_cons] at hs
    have hx : t.2.1 = strOfNums (joinB u) := by rw [ht.join, joinS_of ht.ok (by omega)]
    have hI := ih (acc ++ u ++ sepR) (right_app (right_app ha ht.ok) (by decide)) (by omega)
    rw [e2, List.map_cons, List.foldl_cons, e0, List.length_cons]
    have e3 : addT (strOfNums (joinB acc)) t.2.1 = strOfNums (joinB (acc ++ u ++ sepR)) := by
      unfold addT
      rw [hx, sep_bytes, nums_app, nums_app, ← jB_app, ← jB_app]
    rw [e3]
    exact ⟨hI.1, hI.2.1, by omega⟩
theorem toks_len {us : List (List Int)} {ts : List (Int × ByteArray × Nat)} (h : TokRs us ts) : us.length = ts.length ∧ us.length ≤ sizeR us := by
  induction h with
  | nil => exact ⟨rfl, Nat.le_refl _⟩
  | cons ht hr ih =>
    rename_i u t us ts
    have e0 : sizeR (u :: us) = (joinB u).length + sizeR us := by unfold sizeR; rw [List.map_cons, List.sum_cons]
    have h1 := jB_le u
    have h2 : 0 < u.length := List.length_pos_iff.2 ht.ne
    simp only [List.length_cons, e0]
    omega
end Go.Proofs.Ytahhgpafjiljfaa

namespace Go.Proofs.Ytahhgpafjiljfaa
open Go.RowKit
set_option maxRecDepth 100000
def mText (ts : List ByteArray) : ByteArray := ts.foldl addT ⟨#[123, 45, 32, 102, 105, 114, 115, 116, 32, 45, 125]⟩
theorem nums_size (l : List Int) : (strOfNums l).size = l.length := by simp [strOfNums, ByteArray.size]
theorem joinE_all {l : List Int} (h : joinE l = 0) : l.all right = true ∧ (joinB l).length ≤ 65535 := by
  unfold joinE at h
  split at h
  · rename_i h1
    refine ⟨h1, ?_⟩
    split at h
    · cases h
    · omega
  · cases h
theorem er_map (f g : Int × ByteArray × Nat → Int) (a b : List (Int × ByteArray × Nat)) (h : a.map (fun t => (t.1, t.2.1)) = b.map (fun t => (t.1, t.2.1))) : erL (a.map fun x => (⟨x.1, x.2.1, f x⟩ : Tk)) = erL (b.map fun x => (⟨x.1, x.2.1, g x⟩ : Tk)) := by
  unfold erL
  rw [List.map_map, List.map_map]
  have := congrArg (List.map fun p : Int × ByteArray => (⟨p.1, p.2, 0⟩ : Tk)) h
  rw [List.map_map, List.map_map] at this
  exact this
theorem made_toks (s : ByteArray) (hs : s.size ≤ 2000) (h0 : (tokA s).2.2 = 0) : (tokA (mText ((tokA s).1.map Tk.text))).2.2 = 0 ∧ erL (tokA (mText ((tokA s).1.map Tk.text))).1 = erL (tokA s).1 ∧ (mText ((tokA s).1.map Tk.text)).size ≤ 65535 := by
  have hE : allE s = 0 := by
    unfold tokA at h0
    split at h0
    · exact h0
    · rename_i h; exact Decidable.not_not.1 h
  have hT : tokA s = toksOf (allS s) s.size := by unfold tokA; rw [if_neg (by rw [hE]; simp)]
  have hC : (cutR 0 (allS s)).2 = none := by
    rw [hT] at h0
    unfold toksOf at h0
    split at h0
    · rename_i e k he
      rcases cut_err _ _ _ _ he with h2 | h2
      · rw [h2] at h0; cases h0
      · rw [h2] at h0; cases h0
    · assumption
  obtain ⟨j1, j2⟩ := back_text s hE
  obtain ⟨j3, j4⟩ := joinE_all j1
  have j5 : (joinB (allS s)).length = s.size := by
    have := congrArg ByteArray.size j2
    rw [joinS_of j3 j4, nums_size] at this
    exact this
  obtain ⟨us, hu, hsz⟩ := cut_us2 0 (allS s) j3 hC
  obtain ⟨l1, l2⟩ := toks_len hu
  have hF := fold_made hu firstR (by decide) (by rw [show (joinB firstR).length = 11 from by decide]; omega)
  rw [← first_bytes, show (joinB firstR).length = 11 from by decide] at hF
  have hts : (tokA s).1 = (cutR 0 (allS s)).1.map (fun x => (⟨x.1, x.2.1, offN (allS s) ((allS s).length - x.2.2)⟩ : Tk)) ++ [⟨5, ⟨#[]⟩, s.size⟩] := by
    rw [hT]; unfold toksOf; rw [hC]
  have hx : (tokA s).1.map Tk.text = ((cutR 0 (allS s)).1.map fun t => t.2.1) ++ [⟨#[]⟩] := by
    rw [hts, List.map_append, List.map_map]; rfl
  have hm : mText ((tokA s).1.map Tk.text) = joinS (firstR ++ madeE us) := by
    unfold mText
    rw [hx, List.foldl_append, hF.1]
    have e : firstR ++ madeE us = (firstR ++ madeR us) ++ sepR := by unfold madeE; rw [List.append_assoc]
    have e2 : (joinB ((firstR ++ madeR us) ++ sepR)).length ≤ 65535 := by
      rw [jB_app, List.length_append, hF.2.2, show (joinB sepR).length = 7 from by decide]; omega
    have e3 : strOfNums (joinB ((firstR ++ madeR us) ++ sepR)) = strOfNums (joinB (firstR ++ madeR us)) ++ strOfNums (joinB sepR) := by rw [jB_app (firstR ++ madeR us) sepR, nums_app]
    rw [e, joinS_of (right_app hF.2.1 (by decide)) e2, e3]
    simp only [List.foldl_cons, List.foldl_nil]
    unfold addT
    rw [sep_bytes]
    congr 1
    apply ByteArray.ext
    simp
  have hz : (mText ((tokA s).1.map Tk.text)).size ≤ 65535 := by
    have e : firstR ++ madeE us = (firstR ++ madeR us) ++ sepR := by unfold madeE; rw [List.append_assoc]
    have e2 : (joinB ((firstR ++ madeR us) ++ sepR)).length ≤ 65535 := by
      rw [jB_app, List.length_append, hF.2.2, show (joinB sepR).length = 7 from by decide]; omega
    rw [hm, e, joinS_of (right_app hF.2.1 (by decide)) e2, nums_size]
    exact e2
  have hj : joinE (firstR ++ madeE us) = 0 := by
    have e : firstR ++ madeE us = (firstR ++ madeR us) ++ sepR := by unfold madeE; rw [List.append_assoc]
    rw [e]
    refine joinE_0 (right_app hF.2.1 (by decide)) ?_
    rw [jB_app, List.length_append, hF.2.2, show (joinB sepR).length = 7 from by decide]; omega
  obtain ⟨b1, b2⟩ := back_signs _ hj
  obtain ⟨c1, c2⟩ := cut_madeE us _ 0 hu (by omega)
  have c3 : cutR 0 (firstR ++ madeE us) = cutR 0 (madeE us) := cut_skip (skip_first _)
  suffices hh : (tokA (mText ((tokA s).1.map Tk.text))).2.2 = 0 ∧ erL (tokA (mText ((tokA s).1.map Tk.text))).1 = erL (tokA s).1 from ⟨hh.1, hh.2, hz⟩
  rw [hm, hts]
  unfold tokA
  rw [if_neg (by rw [b1]; simp), b2]
  unfold toksOf
  rw [c3, c1]
  refine ⟨rfl, ?_⟩
  simp only
  have e := er_map (fun x => offN (firstR ++ madeE us) ((firstR ++ madeE us).length - x.2.2)) (fun x => offN (allS s) ((allS s).length - x.2.2)) _ _ c2
  unfold erL at e ⊢
  rw [List.map_append, List.map_append, e]
  rfl
/-- blanks and remarks change nothing but offsets -/
theorem blanks_like (s : ByteArray) (hs : s.size ≤ 2000) (h0 : (tokA s).2.2 = 0) : (fileA s).2.2 = (fileA (mText ((tokA s).1.map Tk.text))).2.2 ∧ (fileA s).1.map eDc = (fileA (mText ((tokA s).1.map Tk.text))).1.map eDc := by
  obtain ⟨h1, h2, -⟩ := made_toks s hs h0
  have a1 : startL s = (tokA s).1 := by unfold startL; rw [if_neg (by simp [h0])]
  have a2 : startL (mText ((tokA s).1.map Tk.text)) = (tokA (mText ((tokA s).1.map Tk.text))).1 := by unfold startL; rw [if_neg (by simp [h1])]
  refine file_like ?_ ?_
  · rw [a1, a2, h2]
  · unfold startS
    rw [if_neg (by simp [h0]), if_neg (by simp [h1])]
end Go.Proofs.Ytahhgpafjiljfaa

namespace Go.Proofs.Ytahhgpafjiljfaa
open Go.RowKit
set_option maxRecDepth 100000
theorem eqT_e : ∀ a b : Nd, eNd a = eNd b → eqT a b = true := by
  refine Nd.ind ?_
  intro k at_ s n sub ih b h
  obtain ⟨k', at', s', n', sub'⟩ := b
  simp only [eNd, Nd.mk.injEq] at h
  obtain ⟨rfl, -, rfl, rfl, h⟩ := h
  have : ∀ l l' : List Nd, (∀ x ∈ l, ∀ b, eNd x = eNd b → eqT x b = true) → eNds l = eNds l' → eqL l l' = true := by
    intro l
    induction l with
    | nil =>
      intro l' _ h
      cases l' with
      | nil => rfl
      | cons t ts => cases h
    | cons t ts iht =>
      intro l' hl h
      cases l' with
      | nil => cases h
      | cons t' ts' =>
        simp only [eNds, List.cons.injEq] at h
        simp only [eqL]
        rw [hl t (by simp) t' h.1, iht ts' (fun x hx => hl x (by simp [hx])) h.2]
        rfl
  simp only [eqT, this sub sub' ih h, beq_self_eq_true, Bool.and_self]
theorem sameB_e {a b : Nd} (h : eNd a = eNd b) (hs : depthT a ≤ 128) : sameB a b = true := by
  have hb : depthT b ≤ 128 := by rw [← depth_e b, ← h, depth_e]; exact hs
  unfold sameB smallB
  rw [eqT_e a b h, decide_eq_true hs, decide_eq_true hb]
  rfl
end Go.Proofs.Ytahhgpafjiljfaa

namespace Go.Proofs.Ytahhgpafjiljfaa
open Go.RowKit
set_option maxRecDepth 100000
theorem eqA_e {α : Type} {p : α → α → Bool} {e : α → α} : ∀ {l m : List α}, (∀ x ∈ l, ∀ y, e x = e y → p x y = true) → l.map e = m.map e → eqA p l m = true := by
  intro l
  induction l with
  | nil =>
    intro m _ h
    cases m with
    | nil => rfl
    | cons t ts => cases h
  | cons t ts ih =>
    intro m hl h
    cases m with
    | nil => cases h
    | cons t' ts' =>
      simp only [List.map_cons, List.cons.injEq] at h
      simp only [eqA]
      rw [hl t (by simp) t' h.1, ih (fun x hx => hl x (by simp [hx])) h.2]
      rfl
def smBd (b : Bd) : Prop := depthT b.ty ≤ 128
def smRw (r : Rw) : Prop := depthT r.body ≤ 128 ∧ ∀ p ∈ r.pats, depthT p ≤ 128
def smDc (d : Dc) : Prop := depthT d.ty ≤ 128 ∧ (∀ b ∈ d.tele, smBd b) ∧ (∀ b ∈ d.cons, smBd b) ∧ ∀ r ∈ d.rows, smRw r
theorem bind_e {a b : Bd} (hs : smBd a) (h : eBd a = eBd b) : bindEq a b = true := by
  unfold eBd at h
  simp only [Bd.mk.injEq] at h
  unfold bindEq
  rw [sameB_e h.2.2 hs, h.1]
  simp
theorem row_e {a b : Rw} (hs : smRw a) (h : eRw a = eRw b) : rowEq a b = true := by
  unfold eRw at h
  simp only [Rw.mk.injEq] at h
  unfold rowEq
  rw [sameB_e h.2.2.2 hs.1, h.2.2.1, eqA_e (e := eNd) (fun x hx y hy => sameB_e hy (hs.2 x hx)) h.2.1]
  simp
theorem decl_e {a b : Dc} (hs : smDc a) (h : eDc a = eDc b) : declEq a b = true := by
  unfold eDc at h
  simp only [Dc.mk.injEq] at h
  obtain ⟨h1, -, h2, h3, h4, h5, h6⟩ := h
  unfold declEq
  rw [h1, h2, sameB_e h4 hs.1, eqA_e (e := eBd) (fun x hx y hy => bind_e (hs.2.1 x hx) hy) h3, eqA_e (e := eBd) (fun x hx y hy => bind_e (hs.2.2.1 x hx) hy) h5, eqA_e (e := eRw) (fun x hx y hy => row_e (hs.2.2.2 x hx) hy) h6]
  simp
end Go.Proofs.Ytahhgpafjiljfaa

namespace Go.Proofs.Ytahhgpafjiljfaa
open Go.RowKit
set_option maxRecDepth 100000
theorem pattern_p (i0 : Nat) (l : List Tk) (σ : ST) (hl : l.length ≤ 100000) (h0 : 0 < l.length) (hi : σ.i ≤ 150000) : PCalls Try.prog 47 [.ptr i0 0] (prS i0 l σ) fun p st => p = .d (.v (.bool (patternS l σ))) ∧ st = prS i0 l σ := by
  have H1 := Lib.hid (tok0_p i0 l σ hl h0 hi)
  have H2 := Lib.hid (is_p i0 l σ 0 0 rfl sDot hl h0 (by omega) (by decide))
  have H3 := Lib.hid (is_p i0 l σ 0 0 rfl sPar hl h0 (by omega) (by decide))
  have HB := Lib.hid (show patternS l σ = ((tkg l σ.i).kind == 1 || isS l σ 0 sDot || isS l σ 0 sPar) from rfl)
  unfold sPar sDot at *
  generalize tkg l σ.i = t at *
  refine PCalls.enter Try.func47 rfl Try.ntmps47 (by simp) ?_
  simp only [argsF]
  refine go_ ?_
  refine Re (H1.out) ?_
  rintro _ _ ⟨rfl, rfl⟩
  by_cases h1 : t.kind = 1
  · refine go_ ?_
    refine retP_ok (st' := prS i0 l σ) (by simp) (by simp only [Try.results47]; rfl) (by simp [resP, St.box?, PF.get, loadB, TyK.agg, *]; rfl) (by repeat (first | exact List.Sublist.refl _ | exact List.nil_sublist _ | refine List.Sublist.cons_cons _ ?_ | refine List.Sublist.cons _ ?_)) ?_
    exact ⟨by rw [HB.out, h1]; rfl, rfl⟩
  · refine go_ ?_
    refine Re (H2.out) ?_
    rintro _ _ ⟨rfl, rfl⟩
    cases h2 : isS l σ 0 ⟨#[46]⟩ with
    | true =>
      refine go_ ?_
      refine retP_ok (st' := prS i0 l σ) (by simp) (by simp only [Try.results47]; rfl) (by simp [resP, St.box?, PF.get, loadB, TyK.agg, *]; rfl) (by repeat (first | exact List.Sublist.refl _ | exact List.nil_sublist _ | refine List.Sublist.cons_cons _ ?_ | refine List.Sublist.cons _ ?_)) ?_
      exact ⟨by rw [HB.out, h2, show (t.kind == 1) = false by simpa using h1]; rfl, rfl⟩
    | false =>
      refine go_ ?_
      refine Re (H3.out) ?_
      rintro _ _ ⟨rfl, rfl⟩
      refine go_ ?_
      refine retP_ok (st' := prS i0 l σ) (by simp) (by simp only [Try.results47]; rfl) (by simp [resP, St.box?, PF.get, loadB, TyK.agg, *]; rfl) (by repeat (first | exact List.Sublist.refl _ | exact List.nil_sublist _ | refine List.Sublist.cons_cons _ ?_ | refine List.Sublist.cons _ ?_)) ?_
      exact ⟨by rw [HB.out, h2, show (t.kind == 1) = false by simpa using h1]; rfl, rfl⟩
def PatC (l : List Tk) (n : Nat) (σ : ST) : Prop := ∀ i0, PCalls Try.prog 48 [.ptr i0 0] (prS i0 l σ) fun p s => p = aggD (patS l n σ).1 ∧ s = prS i0 l (patS l n σ).2
def ParenC (l : List Tk) (n : Nat) (σ : ST) : Prop := ∀ i0, PCalls Try.prog 85 [.ptr i0 0] (prS i0 l σ) fun p s => p = aggD (parenS l n σ).1 ∧ s = prS i0 l (parenS l n σ).2
theorem atom_full {l : List Tk} (hl : TkOk l) (σ : ST) (hw : Wf l σ) : AtomC l (atomF l) σ :=
  (parse_w hl (atomF l)).2.2.1 σ hw ⟨by unfold atomF; omega, fun _ => by unfold atomF; omega⟩
set_option maxHeartbeats 4000000 in
theorem pat_w {l : List Tk} (hl : TkOk l) (n : Nat) (IP : ∀ σ, Wf l σ → isS l σ 0 sPar = true → σ.bad = 0 → Fu l n 2 σ → ParenC l n σ) (σ : ST) (hw : Wf l σ) (hf : Fu l (n + 1) 3 σ) : PatC l (n + 1) σ := by
  intro i0
  have b1 : σ.i ≤ 150000 := Nat.le_trans (hw.le hl) (by decide)
  have c0 := Lib.hid (tok0_p i0 l σ hl.len hl.pos b1)
  have c1 := Lib.hid (is_p i0 l σ 0 0 rfl sPar hl.len hl.pos (by omega) (by decide))
  have c2 := Lib.hid (is_p i0 l σ 0 0 rfl sDot hl.len hl.pos (by omega) (by decide))
  have c3 := Lib.hid (name_p i0 l σ hl.len hl.pos b1)
  have HT := Lib.hid (show patS l (n + 1) σ = (if σ.bad ≠ 0 then (zNd, σ) else if isS l σ 0 sPar then parenS l n σ else if isS l σ 0 sDot then (.mk 10 (tkg l σ.i).at_ ⟨#[]⟩ 0 [(atomS l (atomF l) (incS σ)).1], (atomS l (atomF l) (incS σ)).2) else if (tkg l σ.i).kind == 1 && (tkg l σ.i).text.toList == [95] then (.mk 7 (tkg l σ.i).at_ ⟨#[]⟩ 0 [], incS σ) else (.mk 6 (tkg l σ.i).at_ (nameS l σ).1 0 [], (nameS l σ).2)) from by simp only [patS])
  have hin := wrap_i b1
  unfold sPar at c1
  unfold sDot at c2
  by_cases hz : σ.bad = 0
  rotate_left
  · rw [if_pos hz] at HT
    rw [HT.out]
    refine PCalls.enter Try.func48 rfl Try.ntmps48 (by simp) ?_
    simp only [argsF]
    refine go_ ?_
    refine POps_alloc_a ?_
    intro i1 hi1
    simp only [prS, List.cons_append, List.nil_append, List.append_nil, List.drop_succ_cons, List.drop_zero, List.drop_nil, St.freshB_box, St.freshB_nil, St.freshB_tok, St.freshB_obj] at hi1
    refine go_ ?_
    refine Rd 1 1 (c0.out) ?_
    rintro _ _ ⟨rfl, rfl⟩
    unfold prS
    refine go_ ?_
    refine Rc ?_
    refine go_ ?_
    refine retP_ok (st' := prS i0 l σ) (by simp) (by simp only [Try.results48]; rfl) (by simp [resP, St.box?, PF.get, loadB, TyK.agg, *]; rfl) (by repeat (first | exact List.Sublist.refl _ | exact List.nil_sublist _ | refine List.Sublist.cons_cons _ ?_ | refine List.Sublist.cons _ ?_)) ?_
    exact ⟨by unfold zNd; rw [agg_mk]; rfl, rfl⟩
  rw [if_neg (by simp [hz])] at HT
  have hn : 0 < n := by
    have := hf.2 hz
    unfold Wf at hw; omega
  generalize htk : tkg l σ.i = t at *
  cases hs : isS l σ 0 sPar with
  | true =>
    rw [hs, if_pos rfl] at HT
    have c4 := IP σ hw hs hz (hf.same hw (Adv.refl hw) hn (by omega)) i0
    unfold sPar at hs
    rw [HT.out]
    clear HT hf IP hin
    obtain ⟨i, a, b⟩ := σ
    simp only at hz b1
    subst hz
    generalize (parenS l n ⟨i, a, 0⟩).1 = A at *
    generalize (parenS l n ⟨i, a, 0⟩).2 = σ1 at *
    simp only [aggD, encD_nd, List.map_cons, List.map_nil] at c4 ⊢
    have C4 := Lib.hid c4
    clear c4
    refine PCalls.enter Try.func48 rfl Try.ntmps48 (by simp) ?_
    simp only [argsF]
    refine go_ ?_
    refine POps_alloc_a ?_
    intro i1 hi1
    simp only [prS, List.cons_append, List.nil_append, List.append_nil, List.drop_succ_cons, List.drop_zero, List.drop_nil, St.freshB_box, St.freshB_nil, St.freshB_tok, St.freshB_obj] at hi1
    refine go_ ?_
    refine Rd 1 1 (c0.out) ?_
    rintro _ _ ⟨rfl, rfl⟩
    unfold prS
    refine go_ ?_
    refine Rd 1 1 (c1.out) ?_
    rintro _ _ ⟨rfl, rfl⟩
    refine go_ ?_
    refine Rd 1 1 (C4.out) ?_
    rintro _ _ ⟨rfl, rfl⟩
    refine go_ ?_
    refine Rc ?_
    refine go_ ?_
    refine retP_ok (st' := prS i0 l σ1) (by simp) (by simp only [Try.results48]; rfl) (by simp [resP, St.box?, PF.get, loadB, TyK.agg, *]; rfl) (by repeat (first | exact List.Sublist.refl _ | exact List.nil_sublist _ | refine List.Sublist.cons_cons _ ?_ | refine List.Sublist.cons _ ?_)) ?_
    exact ⟨rfl, rfl⟩
  | false =>
    rw [hs, if_neg (by decide)] at HT
    unfold sPar at hs
    cases hd : isS l σ 0 sDot with
    | true =>
      rw [hd, if_pos rfl] at HT
      have h1 := inc_adv hl (mark_k hd)
      unfold sDot at hd
      rw [HT.out]
      have c4 := atom_full hl _ h1.1 i0
      clear HT hf IP
      obtain ⟨i, a, b⟩ := σ
      simp only at hz b1 hin
      subst hz
      generalize (atomS l (atomF l) (incS ⟨i, a, 0⟩)).1 = A at *
      generalize (atomS l (atomF l) (incS ⟨i, a, 0⟩)).2 = σ1 at *
      simp only [aggD, encD_nd, List.map_cons, List.map_nil] at c4
      have C4 := Lib.hid c4
      clear c4
      refine PCalls.enter Try.func48 rfl Try.ntmps48 (by simp) ?_
      simp only [argsF]
      refine go_ ?_
      refine POps_alloc_a ?_
      intro i1 hi1
      simp only [prS, List.cons_append, List.nil_append, List.append_nil, List.drop_succ_cons, List.drop_zero, List.drop_nil, St.freshB_box, St.freshB_nil, St.freshB_tok, St.freshB_obj] at hi1
      refine go_ ?_
      refine Rd 1 1 (c0.out) ?_
      rintro _ _ ⟨rfl, rfl⟩
      unfold prS
      refine go_ ?_
      refine Rd 1 1 (c1.out) ?_
      rintro _ _ ⟨rfl, rfl⟩
      refine go_ ?_
      refine Rd 1 1 (c2.out) ?_
      rintro _ _ ⟨rfl, rfl⟩
      unfold prS
      refine go_ ?_
      refine Rc ?_
      refine go_ ?_
      refine Rd 1 1 (C4.out) ?_
      rintro _ _ ⟨rfl, rfl⟩
      refine go_ ?_
      refine POps_bs_a ?_
      refine go_ ?_
      refine Rc ?_
      refine go_ ?_
      refine retP_ok (st' := prS i0 l σ1) (by simp) (by simp only [Try.results48]; rfl) (by simp [resP, St.box?, PF.get, loadB, TyK.agg, *]; rfl) (by repeat (first | exact List.Sublist.refl _ | exact List.nil_sublist _ | refine List.Sublist.cons_cons _ ?_ | refine List.Sublist.cons _ ?_)) ?_
      exact ⟨by rw [agg_mk]; simp only [List.map_cons, List.map_nil, encD_nd]; rfl, rfl⟩
    | false =>
      rw [hd, if_neg (by decide)] at HT
      unfold sDot at hd
      cases hu : (t.kind == 1 && t.text.toList == [95]) with
      | true =>
        rw [hu, if_pos rfl] at HT
        rw [HT.out]
        simp only [Bool.and_eq_true, beq_iff_eq] at hu
        obtain ⟨hu1, hu2⟩ := hu
        clear HT hf IP c3
        obtain ⟨i, a, b⟩ := σ
        simp only at hz b1 hin
        subst hz
        refine PCalls.enter Try.func48 rfl Try.ntmps48 (by simp) ?_
        simp only [argsF]
        refine go_ ?_
        refine POps_alloc_a ?_
        intro i1 hi1
        simp only [prS, List.cons_append, List.nil_append, List.append_nil, List.drop_succ_cons, List.drop_zero, List.drop_nil, St.freshB_box, St.freshB_nil, St.freshB_tok, St.freshB_obj] at hi1
        refine go_ ?_
        refine Rd 1 1 (c0.out) ?_
        rintro _ _ ⟨rfl, rfl⟩
        unfold prS
        refine go_ ?_
        refine Rd 1 1 (c1.out) ?_
        rintro _ _ ⟨rfl, rfl⟩
        refine go_ ?_
        refine Rd 1 1 (c2.out) ?_
        rintro _ _ ⟨rfl, rfl⟩
        refine go_ ?_
        refine Rd 1 1 (c0.out) ?_
        rintro _ _ ⟨rfl, rfl⟩
        refine go_ ?_
        refine Rd 1 1 (c0.out) ?_
        rintro _ _ ⟨rfl, rfl⟩
        unfold prS
        refine go_ ?_
        refine Rc ?_
        refine go_ ?_
        refine Rc ?_
        refine go_ ?_
        refine retP_ok (st' := prS i0 l (incS ⟨i, a, 0⟩)) (by simp) (by simp only [Try.results48]; rfl) (by simp [resP, St.box?, PF.get, loadB, TyK.agg, *]; rfl) (by repeat (first | exact List.Sublist.refl _ | exact List.nil_sublist _ | refine List.Sublist.cons_cons _ ?_ | refine List.Sublist.cons _ ?_)) ?_
        exact ⟨by rw [agg_mk]; rfl, rfl⟩
      | false =>
        rw [hu, if_neg (by decide)] at HT
        rw [HT.out]
        clear HT hf IP hin
        obtain ⟨i, a, b⟩ := σ
        simp only at hz b1
        subst hz
        generalize (nameS l ⟨i, a, 0⟩).1 = x at *
        generalize (nameS l ⟨i, a, 0⟩).2 = σ1 at *
        by_cases hu1 : t.kind = 1
        · have hu2 : ¬ t.text.toList = [95] := by
            intro e
            rw [hu1, e] at hu; cases hu
          clear hu
          refine PCalls.enter Try.func48 rfl Try.ntmps48 (by simp) ?_
          simp only [argsF]
          refine go_ ?_
          refine POps_alloc_a ?_
          intro i1 hi1
          simp only [prS, List.cons_append, List.nil_append, List.append_nil, List.drop_succ_cons, List.drop_zero, List.drop_nil, St.freshB_box, St.freshB_nil, St.freshB_tok, St.freshB_obj] at hi1
          refine go_ ?_
          refine Rd 1 1 (c0.out) ?_
          rintro _ _ ⟨rfl, rfl⟩
          unfold prS
          refine go_ ?_
          refine Rd 1 1 (c1.out) ?_
          rintro _ _ ⟨rfl, rfl⟩
          refine go_ ?_
          refine Rd 1 1 (c2.out) ?_
          rintro _ _ ⟨rfl, rfl⟩
          refine go_ ?_
          refine Rd 1 1 (c0.out) ?_
          rintro _ _ ⟨rfl, rfl⟩
          refine go_ ?_
          refine Rd 1 1 (c0.out) ?_
          rintro _ _ ⟨rfl, rfl⟩
          refine go_ ?_
          refine Rd 1 1 (c3.out) ?_
          rintro _ _ ⟨rfl, rfl⟩
          refine go_ ?_
          refine Rc ?_
          refine go_ ?_
          refine retP_ok (st' := prS i0 l σ1) (by simp) (by simp only [Try.results48]; rfl) (by simp [resP, St.box?, PF.get, loadB, TyK.agg, *]; rfl) (by repeat (first | exact List.Sublist.refl _ | exact List.nil_sublist _ | refine List.Sublist.cons_cons _ ?_ | refine List.Sublist.cons _ ?_)) ?_
          exact ⟨by rw [agg_mk]; rfl, rfl⟩
        · clear hu
          refine PCalls.enter Try.func48 rfl Try.ntmps48 (by simp) ?_
          simp only [argsF]
          refine go_ ?_
          refine POps_alloc_a ?_
          intro i1 hi1
          simp only [prS, List.cons_append, List.nil_append, List.append_nil, List.drop_succ_cons, List.drop_zero, List.drop_nil, St.freshB_box, St.freshB_nil, St.freshB_tok, St.freshB_obj] at hi1
          refine go_ ?_
          refine Rd 1 1 (c0.out) ?_
          rintro _ _ ⟨rfl, rfl⟩
          unfold prS
          refine go_ ?_
          refine Rd 1 1 (c1.out) ?_
          rintro _ _ ⟨rfl, rfl⟩
          refine go_ ?_
          refine Rd 1 1 (c2.out) ?_
          rintro _ _ ⟨rfl, rfl⟩
          refine go_ ?_
          refine Rd 1 1 (c0.out) ?_
          rintro _ _ ⟨rfl, rfl⟩
          refine go_ ?_
          refine Rd 1 1 (c3.out) ?_
          rintro _ _ ⟨rfl, rfl⟩
          refine go_ ?_
          refine Rc ?_
          refine go_ ?_
          refine retP_ok (st' := prS i0 l σ1) (by simp) (by simp only [Try.results48]; rfl) (by simp [resP, St.box?, PF.get, loadB, TyK.agg, *]; rfl) (by repeat (first | exact List.Sublist.refl _ | exact List.nil_sublist _ | refine List.Sublist.cons_cons _ ?_ | refine List.Sublist.cons _ ?_)) ?_
          exact ⟨by rw [agg_mk]; rfl, rfl⟩
end Go.Proofs.Ytahhgpafjiljfaa

namespace Go.Proofs.Ytahhgpafjiljfaa
open Go.RowKit
set_option maxRecDepth 100000
set_option maxHeartbeats 4000000 in
theorem paren_w {l : List Tk} (hl : TkOk l) (n : Nat) (IH : ∀ m, m ≤ n → ∀ σ, Wf l σ → Fu l m 3 σ → PatC l m σ) (σ : ST) (hw : Wf l σ) (hp : isS l σ 0 sPar = true) (hz : σ.bad = 0) (hf : Fu l (n + 1) 2 σ) : ParenC l (n + 1) σ := by
  intro i0
  have b1 : σ.i ≤ 150000 := Nat.le_trans (hw.le hl) (by decide)
  have hn : 0 < n := by
    have := hf.2 hz
    unfold Wf at hw; omega
  have c0 := Lib.hid (tok0_p i0 l σ hl.len hl.pos b1)
  have hin := wrap_i b1
  have h1 := inc_adv hl (mark_k hp)
  clear hp
  have b2 : (incS σ).i ≤ 150000 := Nat.le_trans (h1.1.le hl) (by decide)
  have c1 := Lib.hid (is_p i0 l (incS σ) 0 0 rfl sRap hl.len hl.pos (by omega) (by decide))
  have c2 := Lib.hid (named_p i0 l (incS σ) hl.len hl.pos b2)
  have HT := Lib.hid (show parenS l (n + 1) σ = (if isS l (incS σ) 0 sRap then (.mk 9 (tkg l σ.i).at_ ⟨#[]⟩ 0 [], incS (incS σ)) else if !namedS l (incS σ) 0 then ((patS l n (incS σ)).1, wantS l sRap (patS l n (incS σ)).2) else ((parL l n (tkg l σ.i).at_ (.mk 6 (tkg l (incS σ).i).at_ (nameS l (incS σ)).1 0 []) (nameS l (incS σ)).2).1, wantS l sRap (parL l n (tkg l σ.i).at_ (.mk 6 (tkg l (incS σ).i).at_ (nameS l (incS σ)).1 0 []) (nameS l (incS σ)).2).2)) from by simp only [parenS])
  have hin3 : IntKind.i64.wrap (((incS σ).i : Int) + 1) = (((incS σ).i + 1 : Nat) : Int) := wrap_i b2
  obtain ⟨i, a, b⟩ := σ
  simp only at hz hin
  subst hz
  generalize (tkg l i).at_ = at0 at *
  unfold sRap at c1
  cases hr : isS l (incS ⟨i, a, 0⟩) 0 sRap with
  | true =>
    rw [hr, if_pos rfl] at HT
    unfold sRap at hr
    rw [HT.out]
    clear HT hf IH c2 h1
    refine PCalls.enter Try.func85 rfl Try.ntmps85 (by simp) ?_
    simp only [argsF]
    refine go_ ?_
    refine POps_alloc_a ?_
    intro i1 hi1
    simp only [prS, List.cons_append, List.nil_append, List.append_nil, List.drop_succ_cons, List.drop_zero, List.drop_nil, St.freshB_box, St.freshB_nil, St.freshB_tok, St.freshB_obj] at hi1
    refine go_ ?_
    refine Rd 1 1 (c0.out) ?_
    rintro _ _ ⟨rfl, rfl⟩
    unfold prS
    refine go_ ?_
    refine Rc ?_
    refine go_ ?_
    refine Rd 1 1 (c1.out) ?_
    rintro _ _ ⟨rfl, rfl⟩
    unfold prS
    refine go_ ?_
    refine Rc ?_
    refine go_ ?_
    refine Rc ?_
    refine go_ ?_
    refine retP_ok (st' := prS i0 l (incS (incS ⟨i, a, 0⟩))) (by simp) (by simp only [Try.results85]; rfl) (by simp [resP, St.box?, PF.get, loadB, TyK.agg, *]; rfl) (by repeat (first | exact List.Sublist.refl _ | exact List.nil_sublist _ | refine List.Sublist.cons_cons _ ?_ | refine List.Sublist.cons _ ?_)) ?_
    exact ⟨by rw [agg_mk]; rfl, rfl⟩
  | false =>
    rw [hr, if_neg (by decide)] at HT
    unfold sRap at hr
    cases hnm : namedS l (incS ⟨i, a, 0⟩) 0 with
    | false =>
      rw [hnm, if_pos (show (!false) = true from rfl)] at HT
      rw [HT.out]
      have c3 := IH n (Nat.le_refl _) _ h1.1 (hf.next hw h1 hn (by omega)) i0
      have c4 := want_p i0 l _ sRap hl.len hl.pos (Nat.le_trans (((pat_adv hl n).2.2 _ h1.1).1.1.le hl) (by decide))
      clear HT hf IH h1 hin3
      generalize (patS l n (incS ⟨i, a, 0⟩)).1 = A at *
      generalize (patS l n (incS ⟨i, a, 0⟩)).2 = σ1 at *
      generalize wantS l sRap σ1 = σ2 at *
      simp only [aggD, encD_nd, List.map_cons, List.map_nil] at c3 ⊢
      unfold sRap at c4
      have C3 := Lib.hid c3
      have C4 := Lib.hid c4
      clear c3 c4
      refine PCalls.enter Try.func85 rfl Try.ntmps85 (by simp) ?_
      simp only [argsF]
      refine go_ ?_
      refine POps_alloc_a ?_
      intro i1 hi1
      simp only [prS, List.cons_append, List.nil_append, List.append_nil, List.drop_succ_cons, List.drop_zero, List.drop_nil, St.freshB_box, St.freshB_nil, St.freshB_tok, St.freshB_obj] at hi1
      refine go_ ?_
      refine Rd 1 1 (c0.out) ?_
      rintro _ _ ⟨rfl, rfl⟩
      unfold prS
      refine go_ ?_
      refine Rc ?_
      refine go_ ?_
      refine Rd 1 1 (c1.out) ?_
      rintro _ _ ⟨rfl, rfl⟩
      refine go_ ?_
      refine Rd 1 1 (c2.out) ?_
      rintro _ _ ⟨rfl, rfl⟩
      refine go_ ?_
      refine Rd 1 1 (C3.out) ?_
      rintro _ _ ⟨rfl, rfl⟩
      refine go_ ?_
      refine POps_alloc_a ?_
      intro i2 hi2
      simp only [prS, List.cons_append, List.nil_append, List.append_nil, List.drop_succ_cons, List.drop_zero, List.drop_nil, St.freshB_box, St.freshB_nil, St.freshB_tok, St.freshB_obj] at hi2
      refine go_ ?_
      refine Rc ?_
      refine go_ ?_
      refine Rd 2 1 (C4.out) ?_
      rintro _ _ ⟨rfl, rfl⟩
      refine go_ ?_
      refine Rc ?_
      refine go_ ?_
      refine retP_ok (st' := prS i0 l σ2) (by simp) (by simp only [Try.results85]; rfl) (by simp [resP, St.box?, PF.get, loadB, TyK.agg, *]; rfl) (by repeat (first | exact List.Sublist.refl _ | exact List.nil_sublist _ | refine List.Sublist.cons_cons _ ?_ | refine List.Sublist.cons _ ?_)) ?_
      exact ⟨rfl, rfl⟩
    | true =>
      rw [hnm, if_neg (by decide)] at HT
      rw [HT.out]
      have h2 := h1.trans (name_adv hl h1.1).adv
      have c3 := Lib.hid (tok0_p i0 l (incS ⟨i, a, 0⟩) hl.len hl.pos b2)
      have c4 := Lib.hid (name_p i0 l (incS ⟨i, a, 0⟩) hl.len hl.pos b2)
      have HF := Lib.hid (hf.next hw h2 hn (d := 4) (by omega))
      have HW := Lib.hid h2.1
      clear HT hf h1 h2 hin3
      generalize (tkg l (incS ⟨i, a, 0⟩).i) = t1 at *
      generalize (nameS l (incS ⟨i, a, 0⟩)).1 = x at *
      generalize (nameS l (incS ⟨i, a, 0⟩)).2 = σ1 at *
      have HG : ∃ r, r = parL l n at0 (.mk 6 t1.at_ x 0 []) σ1 := ⟨_, rfl⟩
      obtain ⟨r, hr2⟩ := HG
      have HR := Lib.hid hr2.symm
      rw [← hr2]
      clear hr2
      refine PCalls.enter Try.func85 rfl Try.ntmps85 (by simp) ?_
      simp only [argsF]
      refine go_ ?_
      refine POps_alloc_a ?_
      intro i1 hi1
      simp only [prS, List.cons_append, List.nil_append, List.append_nil, List.drop_succ_cons, List.drop_zero, List.drop_nil, St.freshB_box, St.freshB_nil, St.freshB_tok, St.freshB_obj] at hi1
      refine go_ ?_
      refine Rd 1 1 (c0.out) ?_
      rintro _ _ ⟨rfl, rfl⟩
      unfold prS
      refine go_ ?_
      refine Rc ?_
      refine go_ ?_
      refine Rd 1 1 (c1.out) ?_
      rintro _ _ ⟨rfl, rfl⟩
      refine go_ ?_
      refine Rd 1 1 (c2.out) ?_
      rintro _ _ ⟨rfl, rfl⟩
      refine go_ ?_
      refine Rd 1 1 (c3.out) ?_
      rintro _ _ ⟨rfl, rfl⟩
      refine go_ ?_
      refine Rd 1 1 (c4.out) ?_
      rintro _ _ ⟨rfl, rfl⟩
      refine go_ ?_
      refine POps_alloc_a ?_
      intro i2 hi2
      simp only [prS, List.cons_append, List.nil_append, List.append_nil, List.drop_succ_cons, List.drop_zero, List.drop_nil, St.freshB_box, St.freshB_nil, St.freshB_tok, St.freshB_obj] at hi2
      refine go_ ?_
      refine Rc ?_
      refine go_ ?_
      refine PW_ownB i2 4 31 5 (by simp [nev, nevA, nevB, evBuild, PF.eval, PF.get, PF.wants, cPV, cCell, PV.rows, evBin, evUn, evConv, evLen, loadA, loadB, TyK.agg, partA, St.box?, St.tok?, St.setBox, St.setTok, fillO, spl, PV.ps, PV.one, evalArgs, aggD, slD, encD_nd, encD_bd, encD_rw, encD_dc, encD_str, encD_int, *]; rfl) (by rfl) (by rfl) (by intro g; simp [St.setBox, *]; rfl) (by decide) ?_
      intro g2 hg2
      refine PW_loop (ι := Nat × Nd × ST) (fun y => y.1 ≤ n ∧ Wf l y.2.2 ∧ Fu l y.1 4 y.2.2 ∧ parL l y.1 at0 y.2.1 y.2.2 = r ∧ (y.2.2.bad = 0 → y.2.1.sub.length ≤ y.2.2.i)) (fun y => [(0, .ptr i0 0), (2, .ptr i1 0), (3, .d (.v (.int .i64 at0))), (5, .ptr i2 0)])
        (fun y => .tok g2 31 5 y.2.1.sub.length :: .box i2 31 [.d (.v (.int .i64 y.2.1.kind)), .d (.v (.int .i64 y.2.1.at)), .d (.v (.string y.2.1.name)), .d (.v (.int .i64 y.2.1.num)), .own g2 (y.2.1.sub.map encD)] :: .box i1 31 [.d (.v (.int .i64 0)), .d (.v (.int .i64 0)), .d (.v (.string ByteArray.empty)), .d (.v (.int .i64 0)), .nils] :: prS i0 l y.2.2)
        (fun y => y.1) (n, .mk 6 t1.at_ x 0 [], σ1) ⟨Nat.le_refl _, HW.out, HF.out, HR.out, fun _ => Nat.zero_le _⟩ ?_ ?_ ?_
      · repeat (first | exact sub_nil _ | refine sub_cons (by simp [PF.get]; rfl) (by first | rfl | (simp [*]; done) | fail) ?_)
      · repeat (first | exact List.Sublist.refl _ | exact List.nil_sublist _ | refine List.Sublist.cons_cons _ ?_ | refine List.Sublist.cons _ ?_)
      · rintro ⟨m, q, τ⟩ ⟨hm, hw, hf, hr, hsub⟩
        simp only at hm hw hf hr hsub ⊢
        have b3 : τ.i ≤ 150000 := Nat.le_trans (hw.le hl) (by decide)
        obtain ⟨m, rfl⟩ : ∃ k, m = k + 1 := ⟨m - 1, by have := hf.1; omega⟩
        simp only [parL] at hr
        have B0 := Lib.hid (pattern_p i0 l τ hl.len hl.pos b3)
        have B1 := want_p i0 l τ sRap hl.len hl.pos b3
        unfold sRap at B1
        have B1 := Lib.hid B1
        by_cases hz : τ.bad = 0
        · cases hbg : patternS l τ with
          | true =>
            rw [if_pos ⟨hz, hbg⟩] at hr
            have hm0 : 1 < m := by
              have := hf.2 hz
              unfold Wf at hw; omega
            have hA := ((pat_adv hl m).2.2 τ hw).2 hm0
            have c5 := IH m (by omega) τ hw (hf.same hw (Adv.refl hw) (by omega) (by omega)) i0
            have HF2 := Lib.hid (hf.next hw hA (by omega) (d := 4) (by omega))
            have HA2 := Lib.hid hA
            have HR2 := Lib.hid hr
            have hsl : q.sub.length ≤ 150000 := Nat.le_trans (hsub hz) b3
            have HS := Lib.hid hsub
            clear hr hf hA hw hsub
            generalize (patS l m τ).1 = X at *
            generalize (patS l m τ).2 = τ2 at *
            simp only [aggD, encD_nd, List.map_cons, List.map_nil] at c5
            have C5 := Lib.hid c5
            clear c5
            unfold prS
            refine go_ ?_
            refine Rd 3 1 (B0.out) ?_
            rintro _ _ ⟨rfl, rfl⟩
            refine go_ ?_
            refine Rc ?_
            refine go_ ?_
            refine Rc ?_
            refine go_ ?_
            refine PW_drawnL (J := keepJ [(i2, _)]) [(0, .a), (1, .a), (2, .a), (3, .e), (4, .a), (5, .e), (6, .a), (7, .e)] (by kernel_rfl) (by rfl) (by kernel_rfl) (by (repeat (first | exact keepJ_nil _ | refine keepJ_cons (by simp [St.box?, *] <;> rfl) ?_))) ?_
            repeat (first | with_reducible refine PL_nil ?_ | refine PL_gn2 ?_ | refine PL_s2 ?_ | refine PL_b2 ?_)
            refine PL_callX 3 1 (C5.out) ?_
            rintro _ _ ⟨rfl, rfl⟩
            refine ⟨.inr (by (repeat (first | exact keepJ_nil _ | refine keepJ_cons (by simp [St.box?, *] <;> rfl) ?_))), ?_⟩
            repeat (first | with_reducible refine PL_nil ?_ | refine PL_gn2 ?_ | refine PL_s2 ?_ | refine PL_b2 ?_)
            refine PL_bs ?_ rfl (by decide) rfl (by simp; rfl) (by rfl) (by simp; rfl) (by rfl) (by decide) (by decide) (by simp [nev, nevA, nevB, evBuild, PF.eval, PF.get, PF.wants, cPV, cCell, PV.rows, evBin, evUn, evConv, evLen, loadA, loadB, TyK.agg, partA, St.box?, St.tok?, St.setBox, St.setTok, fillO, spl, PV.ps, PV.one, evalArgs, aggD, slD, encD_nd, encD_bd, encD_rw, encD_dc, encD_str, encD_int, *]; rfl) (by simp [rowsOf, toDs, PV.toD]; rfl)
            refine PL_app (q.sub.length + 1) ?_ ?_ ?_ ?_ ?_
            rotate_left
            · exact rows_map fun _ => encD_len _
            · exact rows_one rfl
            · simp
            · exact .inr (by (repeat (first | exact keepJ_nil _ | refine keepJ_cons (by simp [St.box?, *] <;> rfl) ?_)))
            repeat (first | with_reducible refine PL_nil ?_ | refine PL_gn2 ?_ | refine PL_s2 ?_ | refine PL_b2 ?_)
            refine PL_store rfl rfl (by simp [nev, nevA, nevB, evBuild, PF.eval, PF.get, PF.wants, cPV, cCell, PV.rows, evBin, evUn, evConv, evLen, loadA, loadB, TyK.agg, partA, St.box?, St.tok?, St.setBox, St.setTok, fillO, spl, PV.ps, PV.one, evalArgs, aggD, slD, encD_nd, encD_bd, encD_rw, encD_dc, encD_str, encD_int, *]; rfl) (by rfl) (by simp [nev, nevA, nevB, evBuild, PF.eval, PF.get, PF.wants, cPV, cCell, PV.rows, evBin, evUn, evConv, evLen, loadA, loadB, TyK.agg, partA, St.box?, St.tok?, St.setBox, St.setTok, fillO, spl, PV.ps, PV.one, evalArgs, aggD, slD, encD_nd, encD_bd, encD_rw, encD_dc, encD_str, encD_int, *]; rfl) (by simp [PV.ps, aggD, slD, encD_nd, encD_bd, encD_rw, encD_dc, encD_str, encD_int]; rfl) (by first | rfl | (simp [*]; done) | (simp [PV.one, *]; done) | fail) (by simp; rfl) (by first | (simp; done) | fail) (by simp [nev, nevA, nevB, evBuild, PF.eval, PF.get, PF.wants, cPV, cCell, PV.rows, evBin, evUn, evConv, evLen, loadA, loadB, TyK.agg, partA, St.box?, St.tok?, St.setBox, St.setTok, fillO, spl, PV.ps, PV.one, evalArgs, aggD, slD, encD_nd, encD_bd, encD_rw, encD_dc, encD_str, encD_int, *]; rfl) (by rfl) (by first | (simp; done) | fail) (by simp [St.setBox, spl, *]; rfl) (by first | exact .inl (by decide +kernel) | exact .inr (by (repeat (first | exact keepJ_nil _ | refine keepJ_cons (by simp [St.box?, *] <;> rfl) ?_)))) ?_
            repeat (first | with_reducible refine PL_nil ?_ | refine PL_gn2 ?_ | refine PL_s2 ?_ | refine PL_b2 ?_)
            refine go_ ?_
            refine ⟨(m, Nd.mk 8 at0 q.name q.num (q.sub ++ [X]), τ2), ⟨by omega, HA2.out.1, HF2.out, HR2.out, fun hb => ?_⟩, by simp only; omega, ?_, ?_⟩
            · have h3 := (HA2.out.2 hb).2
              have h4 := HS.out hz
              show (q.sub ++ [X]).length ≤ τ2.i
              rw [List.length_append]
              simp only [List.length_cons, List.length_nil]
              omega
            · repeat (first | exact sub_nil _ | refine sub_cons (by simp [PF.get]; rfl) (by first | rfl | (simp [*]; done) | fail) ?_)
            · simp only [Nd.kind, Nd.at, Nd.name, Nd.num, Nd.sub, List.length_append, List.length_cons, List.length_nil, Nat.zero_add, List.map_append, List.map_cons, List.map_nil, encD_nd X]
              repeat (first | exact List.Sublist.refl _ | exact List.nil_sublist _ | refine List.Sublist.cons_cons _ ?_ | refine List.Sublist.cons _ ?_)
          | false =>
            rw [if_neg (by rw [hbg]; simp)] at hr
            have HR2 := Lib.hid hr
            clear hr hf
            unfold prS
            refine go_ ?_
            refine Rd 3 1 (B0.out) ?_
            rintro _ _ ⟨rfl, rfl⟩
            refine go_ ?_
            refine Rd 3 1 (B1.out) ?_
            rintro _ _ ⟨rfl, rfl⟩
            refine go_ ?_
            refine Rc ?_
            refine go_ ?_
            refine retP_ok (st' := prS i0 l (wantS l sRap τ)) (by simp) (by simp only [Try.results85]; rfl) (by simp [resP, St.box?, PF.get, loadB, TyK.agg, *]; rfl) (by repeat (first | exact List.Sublist.refl _ | exact List.nil_sublist _ | refine List.Sublist.cons_cons _ ?_ | refine List.Sublist.cons _ ?_)) ?_
            exact ⟨by rw [← HR2.out]; simp only [aggD, encD_nd, List.map_cons, List.map_nil]; rfl, by rw [← HR2.out]; rfl⟩
        · rw [if_neg (by simp [hz])] at hr
          have HR2 := Lib.hid hr
          clear hr hf
          unfold prS
          refine go_ ?_
          refine Rd 3 1 (B1.out) ?_
          rintro _ _ ⟨rfl, rfl⟩
          refine go_ ?_
          refine Rc ?_
          refine go_ ?_
          refine retP_ok (st' := prS i0 l (wantS l sRap τ)) (by simp) (by simp only [Try.results85]; rfl) (by simp [resP, St.box?, PF.get, loadB, TyK.agg, *]; rfl) (by repeat (first | exact List.Sublist.refl _ | exact List.nil_sublist _ | refine List.Sublist.cons_cons _ ?_ | refine List.Sublist.cons _ ?_)) ?_
          exact ⟨by rw [← HR2.out]; simp only [aggD, encD_nd, List.map_cons, List.map_nil]; rfl, by rw [← HR2.out]; rfl⟩
theorem patterns_w {l : List Tk} (hl : TkOk l) : ∀ n, (∀ σ, Wf l σ → isS l σ 0 sPar = true → σ.bad = 0 → Fu l n 2 σ → ParenC l n σ) ∧ (∀ σ, Wf l σ → Fu l n 3 σ → PatC l n σ) := by
  intro n
  induction n using Nat.strongRecOn with
  | _ n ih =>
    match n with
    | 0 => exact ⟨fun _ _ _ _ h => absurd h.1 (Nat.lt_irrefl 0), fun _ _ h => absurd h.1 (Nat.lt_irrefl 0)⟩
    | n + 1 => exact ⟨fun σ hw hp hz hf => paren_w hl n (fun m hm σ hw hf => (ih m (by omega)).2 σ hw hf) σ hw hp hz hf, fun σ hw hf => pat_w hl n (ih n (Nat.lt_succ_self n)).1 σ hw hf⟩
end Go.Proofs.Ytahhgpafjiljfaa

namespace Go.Proofs.Ytahhgpafjiljfaa
open Go.RowKit
set_option maxRecDepth 100000
section
variable {l : List Tk} (hl : TkOk l)
include hl
theorem checked_adv {σ : ST} (x : Nd) (a : Int) (h : Wf l σ) : Adv l σ (checkedS x a σ) := by
  unfold checkedS
  split
  · exact (fail_adv hl 2 a (by decide) h).adv
  · exact Adv.refl h
theorem patF_adv {σ : ST} (h : Wf l σ) : AdvS l σ (patS l (patF l) σ).2 := ((pat_adv hl (patF l)).2.2 σ h).2 (by unfold patF; omega)
theorem pats_adv : ∀ (n : Nat) (acc : List Nd) (σ : ST), Wf l σ → Adv l σ (patsS l n acc σ).2 := by
  intro n
  induction n with
  | zero => intro acc σ h; exact Adv.refl h
  | succ n ih =>
    intro acc σ h
    simp only [patsS]
    split
    · split
      · exact (fail_adv hl 2 _ (by decide) h).adv
      · have h1 := patF_adv hl h
        have h2 := h1.adv.trans (checked_adv hl (patS l (patF l) σ).1 (tkg l σ.i).at_ h1.1)
        exact h2.trans (ih _ _ h2.1)
    · exact Adv.refl h
theorem exprF_adv {σ : ST} (h : Wf l σ) : Adv l σ (exprS l (exprF l) σ).2 := expr_adv hl (exprF l) σ h
theorem con_adv {σ : ST} (h : Wf l σ) : AdvS l σ (conS l σ).2 := by
  unfold conS
  have h1 := name_adv hl h
  have h2 := h1.trans (want_adv hl sCol h1.1).adv
  exact h2.trans (exprF_adv hl h2.1)
theorem bind_adv {σ : ST} (h : Wf l σ) : AdvS l σ (bindS l σ).2 := by
  unfold bindS
  have h1 := want_adv hl sPar h
  have h2 := h1.trans (con_adv hl h1.1).adv
  exact h2.trans (want_adv hl sRap h2.1).adv
theorem line_adv {σ : ST} (h : Wf l σ) : AdvS l σ (lineS l σ).2 := by
  unfold lineS
  have h1 := con_adv hl h
  exact h1.trans (want_adv hl sSem h1.1).adv
end
theorem expr_full {l : List Tk} (hl : TkOk l) (i0 : Nat) (σ : ST) (hw : Wf l σ) : PCalls Try.prog 25 [.ptr i0 0] (prS i0 l σ) fun p s => p = aggD (exprS l (exprF l) σ).1 ∧ s = prS i0 l (exprS l (exprF l) σ).2 :=
  expr_p hl i0 (exprF l) σ hw ⟨by unfold exprF; omega, fun _ => by unfold exprF; omega⟩
theorem open_p {l : List Tk} (hl : TkOk l) (i0 : Nat) (σ : ST) (hw : Wf l σ) : PCalls Try.prog 56 [.ptr i0 0] (prS i0 l σ) fun p s => p = .d (.v (.bool (openS l σ))) ∧ s = prS i0 l σ := by
  have c1 := Lib.hid (is_p i0 l σ 0 0 rfl sKet hl.len hl.pos (by have := hw.le hl; omega) (by decide))
  have HO := Lib.hid (show openS l σ = !isS l σ 0 sKet from rfl)
  unfold sKet at c1
  refine PCalls.enter Try.func56 rfl Try.ntmps56 (by simp) ?_
  simp only [argsF]
  refine go_ ?_
  refine Re (c1.out) ?_
  rintro _ _ ⟨rfl, rfl⟩
  refine go_ ?_
  refine retP_ok (st' := prS i0 l σ) (by simp) (by simp only [Try.results56]; rfl) (by simp [resP, St.box?, PF.get, loadB, TyK.agg, *]; rfl) (by repeat (first | exact List.Sublist.refl _ | exact List.nil_sublist _ | refine List.Sublist.cons_cons _ ?_ | refine List.Sublist.cons _ ?_)) ?_
  exact ⟨by rw [HO.out]; rfl, rfl⟩
theorem paren0_p {l : List Tk} (hl : TkOk l) (i0 : Nat) (σ : ST) (hw : Wf l σ) : PCalls Try.prog 52 [.ptr i0 0] (prS i0 l σ) fun p s => p = .d (.v (.bool (paren0S l σ))) ∧ s = prS i0 l σ := by
  have c1 := Lib.hid (is_p i0 l σ 0 0 rfl sPar hl.len hl.pos (by have := hw.le hl; omega) (by decide))
  have HO := Lib.hid (show paren0S l σ = isS l σ 0 sPar from rfl)
  unfold sPar at c1
  refine PCalls.enter Try.func52 rfl Try.ntmps52 (by simp) ?_
  simp only [argsF]
  refine go_ ?_
  refine Re (c1.out) ?_
  rintro _ _ ⟨rfl, rfl⟩
  refine go_ ?_
  refine retP_ok (st' := prS i0 l σ) (by simp) (by simp only [Try.results52]; rfl) (by simp [resP, St.box?, PF.get, loadB, TyK.agg, *]; rfl) (by repeat (first | exact List.Sublist.refl _ | exact List.nil_sublist _ | refine List.Sublist.cons_cons _ ?_ | refine List.Sublist.cons _ ?_)) ?_
  exact ⟨by rw [HO.out]; rfl, rfl⟩
set_option maxHeartbeats 2000000 in
theorem con_p {l : List Tk} (hl : TkOk l) (i0 : Nat) (σ : ST) (hw : Wf l σ) : PCalls Try.prog 88 [.ptr i0 0] (prS i0 l σ) fun p s => p = aggD (conS l σ).1 ∧ s = prS i0 l (conS l σ).2 := by
  have b1 : σ.i ≤ 150000 := Nat.le_trans (hw.le hl) (by decide)
  have h1 := name_adv hl hw
  have h2 := h1.trans (want_adv hl sCol h1.1).adv
  have c0 := Lib.hid (tok0_p i0 l σ hl.len hl.pos b1)
  have c1 := Lib.hid (name_p i0 l σ hl.len hl.pos b1)
  have c2 := want_p i0 l _ sCol hl.len hl.pos (Nat.le_trans (h1.1.le hl) (by decide))
  have c3 := expr_full hl i0 _ h2.1
  have HT := Lib.hid (show conS l σ = (⟨(nameS l σ).1, (tkg l σ.i).at_, (exprS l (exprF l) (wantS l sCol (nameS l σ).2)).1⟩, (exprS l (exprF l) (wantS l sCol (nameS l σ).2)).2) from rfl)
  rw [HT.out]
  clear HT h1 h2
  unfold sCol at c2
  generalize (nameS l σ).1 = x at *
  generalize (nameS l σ).2 = σ1 at *
  change PCalls _ _ _ _ (fun p st => p = PV.tup [] ∧ st = prS i0 l (wantS l sCol σ1)) at c2
  generalize wantS l sCol σ1 = σ2 at *
  generalize (exprS l (exprF l) σ2).1 = A at *
  generalize (exprS l (exprF l) σ2).2 = σ3 at *
  simp only [aggD, encD_nd, encD_bd, List.map_cons, List.map_nil] at c3 ⊢
  have C2 := Lib.hid c2
  have C3 := Lib.hid c3
  clear c2 c3
  refine PCalls.enter Try.func88 rfl Try.ntmps88 (by simp) ?_
  simp only [argsF]
  refine go_ ?_
  refine POps_alloc_a ?_
  intro i1 hi1
  simp only [prS, List.cons_append, List.nil_append, List.append_nil, List.drop_succ_cons, List.drop_zero, List.drop_nil, St.freshB_box, St.freshB_nil, St.freshB_tok, St.freshB_obj] at hi1
  refine go_ ?_
  refine Rd 1 1 (c0.out) ?_
  rintro _ _ ⟨rfl, rfl⟩
  refine go_ ?_
  refine Rd 1 1 (c1.out) ?_
  rintro _ _ ⟨rfl, rfl⟩
  refine go_ ?_
  refine POps_alloc_a ?_
  intro i2 hi2
  simp only [prS, List.cons_append, List.nil_append, List.append_nil, List.drop_succ_cons, List.drop_zero, List.drop_nil, St.freshB_box, St.freshB_nil, St.freshB_tok, St.freshB_obj] at hi2
  refine go_ ?_
  refine Rc ?_
  refine go_ ?_
  refine Rd 2 1 (C2.out) ?_
  rintro _ _ ⟨rfl, rfl⟩
  refine go_ ?_
  refine Rd 2 1 (C3.out) ?_
  rintro _ _ ⟨rfl, rfl⟩
  refine go_ ?_
  refine Rc ?_
  refine go_ ?_
  refine Rc ?_
  refine go_ ?_
  refine retP_ok (st' := prS i0 l σ3) (by simp) (by simp only [Try.results88]; rfl) (by simp [resP, St.box?, PF.get, loadB, TyK.agg, *]; rfl) (by repeat (first | exact List.Sublist.refl _ | exact List.nil_sublist _ | refine List.Sublist.cons_cons _ ?_ | refine List.Sublist.cons _ ?_)) ?_
  exact ⟨rfl, rfl⟩
theorem bind_p {l : List Tk} (hl : TkOk l) (i0 : Nat) (σ : ST) (hw : Wf l σ) : PCalls Try.prog 53 [.ptr i0 0] (prS i0 l σ) fun p s => p = aggD (bindS l σ).1 ∧ s = prS i0 l (bindS l σ).2 := by
  have b1 : σ.i ≤ 150000 := Nat.le_trans (hw.le hl) (by decide)
  have h1 := want_adv hl sPar hw
  have h2 := h1.trans (con_adv hl h1.1).adv
  have c1 := want_p i0 l σ sPar hl.len hl.pos b1
  have c2 := con_p hl i0 _ h1.1
  have c3 := want_p i0 l _ sRap hl.len hl.pos (Nat.le_trans (h2.1.le hl) (by decide))
  have HT := Lib.hid (show bindS l σ = ((conS l (wantS l sPar σ)).1, wantS l sRap (conS l (wantS l sPar σ)).2) from rfl)
  rw [HT.out]
  clear HT h1 h2
  generalize wantS l sPar σ = σ1 at *
  generalize (conS l σ1).1 = A at *
  generalize (conS l σ1).2 = σ2 at *
  generalize wantS l sRap σ2 = σ3 at *
  unfold sPar at c1
  unfold sRap at c3
  simp only [aggD, encD_nd, encD_bd, List.map_cons, List.map_nil] at c2 ⊢
  have C1 := Lib.hid c1
  have C2 := Lib.hid c2
  have C3 := Lib.hid c3
  clear c1 c2 c3
  refine PCalls.enter Try.func53 rfl Try.ntmps53 (by simp) ?_
  simp only [argsF]
  refine go_ ?_
  refine POps_alloc_a ?_
  intro i1 hi1
  simp only [prS, List.cons_append, List.nil_append, List.append_nil, List.drop_succ_cons, List.drop_zero, List.drop_nil, St.freshB_box, St.freshB_nil, St.freshB_tok, St.freshB_obj] at hi1
  refine go_ ?_
  refine Rd 1 1 (C1.out) ?_
  rintro _ _ ⟨rfl, rfl⟩
  refine go_ ?_
  refine Rd 1 1 (C2.out) ?_
  rintro _ _ ⟨rfl, rfl⟩
  refine go_ ?_
  refine POps_alloc_a ?_
  intro i2 hi2
  simp only [prS, List.cons_append, List.nil_append, List.append_nil, List.drop_succ_cons, List.drop_zero, List.drop_nil, St.freshB_box, St.freshB_nil, St.freshB_tok, St.freshB_obj] at hi2
  refine go_ ?_
  refine Rc ?_
  refine go_ ?_
  refine Rd 2 1 (C3.out) ?_
  rintro _ _ ⟨rfl, rfl⟩
  refine go_ ?_
  refine Rc ?_
  refine go_ ?_
  refine retP_ok (st' := prS i0 l σ3) (by simp) (by simp only [Try.results53]; rfl) (by simp [resP, St.box?, PF.get, loadB, TyK.agg, *]; rfl) (by repeat (first | exact List.Sublist.refl _ | exact List.nil_sublist _ | refine List.Sublist.cons_cons _ ?_ | refine List.Sublist.cons _ ?_)) ?_
  exact ⟨rfl, rfl⟩
theorem line_p' {l : List Tk} (hl : TkOk l) (i0 : Nat) (σ : ST) (hw : Wf l σ) : PCalls Try.prog 57 [.ptr i0 0] (prS i0 l σ) fun p s => p = aggD (lineS l σ).1 ∧ s = prS i0 l (lineS l σ).2 := by
  have h1 := con_adv hl hw
  have c2 := con_p hl i0 _ hw
  have c3 := want_p i0 l _ sSem hl.len hl.pos (Nat.le_trans (h1.1.le hl) (by decide))
  have HT := Lib.hid (show lineS l σ = ((conS l σ).1, wantS l sSem (conS l σ).2) from rfl)
  rw [HT.out]
  clear HT h1
  generalize (conS l σ).1 = A at *
  generalize (conS l σ).2 = σ2 at *
  generalize wantS l sSem σ2 = σ3 at *
  unfold sSem at c3
  simp only [aggD, encD_nd, encD_bd, List.map_cons, List.map_nil] at c2 ⊢
  have C2 := Lib.hid c2
  have C3 := Lib.hid c3
  clear c2 c3
  refine PCalls.enter Try.func57 rfl Try.ntmps57 (by simp) ?_
  simp only [argsF]
  refine go_ ?_
  refine POps_alloc_a ?_
  intro i1 hi1
  simp only [prS, List.cons_append, List.nil_append, List.append_nil, List.drop_succ_cons, List.drop_zero, List.drop_nil, St.freshB_box, St.freshB_nil, St.freshB_tok, St.freshB_obj] at hi1
  refine go_ ?_
  refine Rd 1 1 (C2.out) ?_
  rintro _ _ ⟨rfl, rfl⟩
  refine go_ ?_
  refine POps_alloc_a ?_
  intro i2 hi2
  simp only [prS, List.cons_append, List.nil_append, List.append_nil, List.drop_succ_cons, List.drop_zero, List.drop_nil, St.freshB_box, St.freshB_nil, St.freshB_tok, St.freshB_obj] at hi2
  refine go_ ?_
  refine Rc ?_
  refine go_ ?_
  refine Rd 2 1 (C3.out) ?_
  rintro _ _ ⟨rfl, rfl⟩
  refine go_ ?_
  refine Rc ?_
  refine go_ ?_
  refine retP_ok (st' := prS i0 l σ3) (by simp) (by simp only [Try.results57]; rfl) (by simp [resP, St.box?, PF.get, loadB, TyK.agg, *]; rfl) (by repeat (first | exact List.Sublist.refl _ | exact List.nil_sublist _ | refine List.Sublist.cons_cons _ ?_ | refine List.Sublist.cons _ ?_)) ?_
  exact ⟨rfl, rfl⟩
set_option maxHeartbeats 4000000 in
theorem pats_p {l : List Tk} (hl : TkOk l) (i0 : Nat) (σ : ST) (hw : Wf l σ) : PCalls Try.prog 27 [.ptr i0 0] (prS i0 l σ) fun p s => p = .d (slD (patsS l (l.length + 1) [] σ).1) ∧ s = prS i0 l (patsS l (l.length + 1) [] σ).2 := by
  have HG : ∃ r, r = patsS l (l.length + 1) [] σ := ⟨_, rfl⟩
  obtain ⟨r, hr⟩ := HG
  have HR := Lib.hid hr.symm
  rw [← hr]
  clear hr
  have HW := Lib.hid hw
  clear hw
  unfold slD
  refine PCalls.enter Try.func27 rfl Try.ntmps27 (by simp) ?_
  simp only [argsF]
  refine go_ ?_
  refine PW_own 3 31 5 (by decide) (by simp [PF.get] <;> rfl) fun g hg => ?_
  refine PW_loop (ι := Nat × List Nd × ST) (fun y => Wf l y.2.2 ∧ 0 < y.1 ∧ (y.2.2.bad = 0 → l.length - y.2.2.i + 1 ≤ y.1) ∧ patsS l y.1 y.2.1 y.2.2 = r ∧ y.2.1.length ≤ 24) (fun y => [(0, .ptr i0 0), (3, .own g (y.2.1.map encD))])
    (fun y => .tok g 31 5 y.2.1.length :: prS i0 l y.2.2) (fun y => y.1) (l.length + 1, [], σ) ⟨HW.out, Nat.succ_pos _, fun _ => by simp only; omega, HR.out, Nat.zero_le _⟩ ?_ ?_ ?_
  · repeat (first | exact sub_nil _ | refine sub_cons (by simp [PF.get]; rfl) (by first | rfl | (simp [*]; done) | fail) ?_)
  · repeat (first | exact List.Sublist.refl _ | exact List.nil_sublist _ | refine List.Sublist.cons_cons _ ?_ | refine List.Sublist.cons _ ?_)
  · rintro ⟨m, acc, τ⟩ ⟨hw, hm0, hm, hr, hacc⟩
    simp only at hw hm0 hm hr hacc ⊢
    obtain ⟨m, rfl⟩ : ∃ k, m = k + 1 := ⟨m - 1, by omega⟩
    have b3 : τ.i ≤ 150000 := Nat.le_trans (hw.le hl) (by decide)
    have B0 := Lib.hid (pattern_p i0 l τ hl.len hl.pos b3)
    have B1 := Lib.hid (tok0_p i0 l τ hl.len hl.pos b3)
    simp only [patsS] at hr
    by_cases hz : τ.bad = 0
    · cases hbg : patternS l τ with
      | true =>
        rw [if_pos ⟨hz, hbg⟩] at hr
        by_cases h24 : 24 ≤ acc.length
        · rw [if_pos h24] at hr
          have hc24 : (24 : Int) ≤ (acc.length : Int) := by omega
          have B2 := Lib.hid (fail_p i0 l τ 2 (tkg l τ.i).at_)
          have HR2 := Lib.hid hr
          clear hr hm
          unfold prS
          refine go_ ?_
          refine Rd 1 1 (B0.out) ?_
          rintro _ _ ⟨rfl, rfl⟩
          refine go_ ?_
          refine Rd 1 1 (B1.out) ?_
          rintro _ _ ⟨rfl, rfl⟩
          refine go_ ?_
          refine Rd 1 1 (B2.out) ?_
          rintro _ _ ⟨rfl, rfl⟩
          refine go_ ?_
          refine retP_ok (st' := prS i0 l (failS 2 (tkg l τ.i).at_ τ)) (by simp) (by simp only [Try.results27]; rfl) (by simp [resP, St.box?, PF.get, loadB, TyK.agg, *]; rfl) (by repeat (first | exact List.Sublist.refl _ | exact List.nil_sublist _ | refine List.Sublist.cons_cons _ ?_ | refine List.Sublist.cons _ ?_)) ?_
          exact ⟨by rw [← HR2.out]; rfl, by rw [← HR2.out]; rfl⟩
        · rw [if_neg h24] at hr
          have hc24 : ¬ (24 : Int) ≤ (acc.length : Int) := by omega
          have hA := patF_adv hl hw
          have hA2 := hA.trans (checked_adv hl (patS l (patF l) τ).1 (tkg l τ.i).at_ hA.1)
          have c2 := (patterns_w hl (patF l)).2 τ hw ⟨by unfold patF; omega, fun _ => by unfold patF; omega⟩ i0
          have c3 := checked_p i0 l (patS l (patF l) τ).1 (tkg l τ.i).at_ (patS l (patF l) τ).2
          have HA := Lib.hid hA2
          have HM := Lib.hid hm
          have HR2 := Lib.hid hr
          clear hr hm hA hA2
          generalize (tkg l τ.i).at_ = at0 at *
          generalize (patS l (patF l) τ).1 = X at *
          generalize (patS l (patF l) τ).2 = τ1 at *
          generalize checkedS X at0 τ1 = τ2 at *
          simp only [aggD, encD_nd, List.map_cons, List.map_nil] at c2 c3
          have C2 := Lib.hid c2
          have C3 := Lib.hid c3
          clear c2 c3
          unfold prS
          refine go_ ?_
          refine Rd 1 1 (B0.out) ?_
          rintro _ _ ⟨rfl, rfl⟩
          refine go_ ?_
          refine Rd 1 1 (B1.out) ?_
          rintro _ _ ⟨rfl, rfl⟩
          refine go_ ?_
          refine Rd 1 1 (C2.out) ?_
          rintro _ _ ⟨rfl, rfl⟩
          refine go_ ?_
          refine Rd 1 1 (C3.out) ?_
          rintro _ _ ⟨rfl, rfl⟩
          refine go_ ?_
          refine POps_bs_a ?_
          refine POps_app_a (acc.length + 1) ?_ ?_ ?_ ?_
          · simp
          · exact rows_map fun _ => encD_len _
          · exact rows_one rfl
          refine go_ ?_
          refine ⟨(m, acc ++ [X], τ2), ⟨HA.out.1, ?_, fun hb => ?_, HR2.out, by simp only [List.length_append, List.length_cons, List.length_nil]; omega⟩, by simp only; omega, ?_, ?_⟩
          · have h1 := HM.out hz
            have h2 := hw
            unfold Wf at h2
            simp only
            omega
          · have h1 := HM.out hz
            have h2 := (HA.out.2 hb).2
            have h3 := HA.out.1
            unfold Wf at h3
            simp only
            omega
          · refine sub_cons (by simp [PF.get] <;> rfl) rfl ?_
            refine sub_cons (by simp [PF.get] <;> rfl) (by simp only [List.map_append, List.map_cons, List.map_nil, encD_nd X]) ?_
            repeat (first | exact sub_nil _ | refine sub_cons (by simp [PF.get]; rfl) (by first | rfl | (simp [*]; done) | fail) ?_)
          · simp only [List.length_append, List.length_cons, List.length_nil, Nat.zero_add]
            repeat (first | exact List.Sublist.refl _ | exact List.nil_sublist _ | refine List.Sublist.cons_cons _ ?_ | refine List.Sublist.cons _ ?_)
      | false =>
        rw [if_neg (by rw [hbg]; simp)] at hr
        have HR2 := Lib.hid hr
        clear hr hm
        unfold prS
        refine go_ ?_
        refine Rd 1 1 (B0.out) ?_
        rintro _ _ ⟨rfl, rfl⟩
        refine go_ ?_
        refine retP_ok (st' := prS i0 l τ) (by simp) (by simp only [Try.results27]; rfl) (by simp [resP, St.box?, PF.get, loadB, TyK.agg, *]; rfl) (by repeat (first | exact List.Sublist.refl _ | exact List.nil_sublist _ | refine List.Sublist.cons_cons _ ?_ | refine List.Sublist.cons _ ?_)) ?_
        exact ⟨by rw [← HR2.out]; rfl, by rw [← HR2.out]; rfl⟩
    · rw [if_neg (by simp [hz])] at hr
      have HR2 := Lib.hid hr
      clear hr hm
      unfold prS
      refine go_ ?_
      refine retP_ok (st' := prS i0 l τ) (by simp) (by simp only [Try.results27]; rfl) (by simp [resP, St.box?, PF.get, loadB, TyK.agg, *]; rfl) (by repeat (first | exact List.Sublist.refl _ | exact List.nil_sublist _ | refine List.Sublist.cons_cons _ ?_ | refine List.Sublist.cons _ ?_)) ?_
      exact ⟨by rw [← HR2.out]; rfl, by rw [← HR2.out]; rfl⟩
end Go.Proofs.Ytahhgpafjiljfaa

namespace Go.Proofs.Ytahhgpafjiljfaa
open Go.RowKit
set_option maxRecDepth 100000
section
variable {l : List Tk} (hl : TkOk l)
include hl
theorem row_adv {σ : ST} (h : Wf l σ) : AdvS l σ (rowS l σ).2 := by
  unfold rowS
  have h1 := pats_adv hl (l.length + 1) [] σ h
  simp only
  split
  · rename_i he
    have h2 := h1.trans (inc_adv hl (mark_k he.2)).adv
    have h3 := h2.trans (exprF_adv hl h2.1)
    exact h3.transS (want_adv hl sSem h3.1)
  · exact h1.transS (want_adv hl sSem h1.1)
theorem rows_adv : ∀ (n : Nat) (acc : List Rw) (σ : ST), Wf l σ → Adv l σ (rowsS l n acc σ).2 := by
  intro n
  induction n with
  | zero => intro acc σ h; exact Adv.refl h
  | succ n ih =>
    intro acc σ h
    simp only [rowsS]
    split
    · split
      · exact (fail_adv hl 2 _ (by decide) h).adv
      · have h1 := row_adv hl h
        exact h1.adv.trans (ih _ _ h1.1)
    · exact Adv.refl h
theorem list_adv {most : Nat} {more : ST → Bool} {one : ST → Bd × ST} (ho : ∀ σ, Wf l σ → AdvS l σ (one σ).2) : ∀ (n : Nat) (acc : List Bd) (σ : ST), Wf l σ → Adv l σ (listS l most more one n acc σ).2 := by
  intro n
  induction n with
  | zero => intro acc σ h; exact Adv.refl h
  | succ n ih =>
    intro acc σ h
    simp only [listS]
    split
    · split
      · exact (fail_adv hl 2 _ (by decide) h).adv
      · have h1 := ho σ h
        exact h1.adv.trans (ih _ _ h1.1)
    · exact Adv.refl h
end
set_option maxHeartbeats 2000000 in
theorem row_p' {l : List Tk} (hl : TkOk l) (i0 : Nat) (σ : ST) (hw : Wf l σ) : PCalls Try.prog 89 [.ptr i0 0] (prS i0 l σ) fun p s => p = aggD (rowS l σ).1 ∧ s = prS i0 l (rowS l σ).2 := by
  have b1 : σ.i ≤ 150000 := Nat.le_trans (hw.le hl) (by decide)
  have h1 := pats_adv hl (l.length + 1) [] σ hw
  have c0 := Lib.hid (tok0_p i0 l σ hl.len hl.pos b1)
  have c1 := pats_p hl i0 σ hw
  have HT := Lib.hid (show rowS l σ = (if (patsS l (l.length + 1) [] σ).2.bad = 0 ∧ isS l (patsS l (l.length + 1) [] σ).2 0 sEq then (⟨(tkg l σ.i).at_, (patsS l (l.length + 1) [] σ).1, true, (exprS l (exprF l) (incS (patsS l (l.length + 1) [] σ).2)).1⟩, wantS l sSem (exprS l (exprF l) (incS (patsS l (l.length + 1) [] σ).2)).2) else (⟨(tkg l σ.i).at_, (patsS l (l.length + 1) [] σ).1, false, zNd⟩, wantS l sSem (patsS l (l.length + 1) [] σ).2)) from rfl)
  rw [HT.out]
  clear HT
  generalize (patsS l (l.length + 1) [] σ).1 = ps at *
  generalize (patsS l (l.length + 1) [] σ).2 = σ1 at *
  generalize (tkg l σ.i).at_ = at0 at *
  have hw1 := h1.1
  clear h1
  have b2 : σ1.i ≤ 150000 := Nat.le_trans (hw1.le hl) (by decide)
  have c2 := Lib.hid (is_p i0 l σ1 0 0 rfl sEq hl.len hl.pos (by omega) (by decide))
  unfold sEq at c2
  unfold slD at c1
  have C1 := Lib.hid c1
  clear c1
  by_cases hz : σ1.bad = 0
  · cases he : isS l σ1 0 sEq with
    | true =>
      have h2 := inc_adv hl (mark_k he)
      unfold sEq at he
      rw [if_pos ⟨hz, rfl⟩]
      have c3 := expr_full hl i0 _ h2.1
      have c4 := want_p i0 l _ sSem hl.len hl.pos (Nat.le_trans ((exprF_adv hl h2.1).1.le hl) (by decide))
      have hin := wrap_i b2
      clear h2
      obtain ⟨i, a, b⟩ := σ1
      simp only at hz hin b2
      subst hz
      generalize (exprS l (exprF l) (incS ⟨i, a, 0⟩)).1 = A at *
      generalize (exprS l (exprF l) (incS ⟨i, a, 0⟩)).2 = σ3 at *
      generalize wantS l sSem σ3 = σ4 at *
      unfold sSem at c4
      simp only [aggD, encD_nd, encD_rw, List.map_cons, List.map_nil] at c3 ⊢
      have C3 := Lib.hid c3
      have C4 := Lib.hid c4
      clear c3 c4
      refine PCalls.enter Try.func89 rfl Try.ntmps89 (by simp) ?_
      simp only [argsF]
      refine go_ ?_
      refine POps_alloc_a ?_
      intro i1 hi1
      simp only [prS, List.cons_append, List.nil_append, List.append_nil, List.drop_succ_cons, List.drop_zero, List.drop_nil, St.freshB_box, St.freshB_nil, St.freshB_tok, St.freshB_obj] at hi1
      refine go_ ?_
      refine Rd 1 1 (c0.out) ?_
      rintro _ _ ⟨rfl, rfl⟩
      refine go_ ?_
      refine Rd 1 1 (C1.out) ?_
      rintro _ _ ⟨rfl, rfl⟩
      refine go_ ?_
      refine POps_alloc_a ?_
      intro i2 hi2
      simp only [prS, List.cons_append, List.nil_append, List.append_nil, List.drop_succ_cons, List.drop_zero, List.drop_nil, St.freshB_box, St.freshB_nil, St.freshB_tok, St.freshB_obj] at hi2
      refine go_ ?_
      refine Rc ?_
      unfold prS
      refine go_ ?_
      refine Rd 2 1 (c2.out) ?_
      rintro _ _ ⟨rfl, rfl⟩
      unfold prS
      refine go_ ?_
      refine Rc ?_
      refine go_ ?_
      refine Rd 2 1 (C3.out) ?_
      rintro _ _ ⟨rfl, rfl⟩
      refine go_ ?_
      refine Rc ?_
      refine go_ ?_
      refine Rc ?_
      refine go_ ?_
      refine Rd 2 1 (C4.out) ?_
      rintro _ _ ⟨rfl, rfl⟩
      refine go_ ?_
      refine Rc ?_
      refine go_ ?_
      refine retP_ok (st' := prS i0 l σ4) (by simp) (by simp only [Try.results89]; rfl) (by simp [resP, St.box?, PF.get, loadB, TyK.agg, *]; rfl) (by repeat (first | exact List.Sublist.refl _ | exact List.nil_sublist _ | refine List.Sublist.cons_cons _ ?_ | refine List.Sublist.cons _ ?_)) ?_
      exact ⟨rfl, rfl⟩
    | false =>
      unfold sEq at he
      rw [if_neg (by simp)]
      have c4 := want_p i0 l σ1 sSem hl.len hl.pos b2
      generalize wantS l sSem σ1 = σ4 at *
      unfold sSem at c4
      unfold zNd
      simp only [aggD, encD_nd, encD_rw, List.map_cons, List.map_nil, Nd.kind, Nd.at, Nd.name, Nd.num, Nd.sub]
      have C4 := Lib.hid c4
      clear c4
      refine PCalls.enter Try.func89 rfl Try.ntmps89 (by simp) ?_
      simp only [argsF]
      refine go_ ?_
      refine POps_alloc_a ?_
      intro i1 hi1
      simp only [prS, List.cons_append, List.nil_append, List.append_nil, List.drop_succ_cons, List.drop_zero, List.drop_nil, St.freshB_box, St.freshB_nil, St.freshB_tok, St.freshB_obj] at hi1
      refine go_ ?_
      refine Rd 1 1 (c0.out) ?_
      rintro _ _ ⟨rfl, rfl⟩
      refine go_ ?_
      refine Rd 1 1 (C1.out) ?_
      rintro _ _ ⟨rfl, rfl⟩
      refine go_ ?_
      refine POps_alloc_a ?_
      intro i2 hi2
      simp only [prS, List.cons_append, List.nil_append, List.append_nil, List.drop_succ_cons, List.drop_zero, List.drop_nil, St.freshB_box, St.freshB_nil, St.freshB_tok, St.freshB_obj] at hi2
      refine go_ ?_
      refine Rc ?_
      unfold prS
      refine go_ ?_
      refine Rd 2 1 (c2.out) ?_
      rintro _ _ ⟨rfl, rfl⟩
      refine go_ ?_
      refine Rd 2 1 (C4.out) ?_
      rintro _ _ ⟨rfl, rfl⟩
      refine go_ ?_
      refine Rc ?_
      refine go_ ?_
      refine retP_ok (st' := prS i0 l σ4) (by simp) (by simp only [Try.results89]; rfl) (by simp [resP, St.box?, PF.get, loadB, TyK.agg, *]; rfl) (by repeat (first | exact List.Sublist.refl _ | exact List.nil_sublist _ | refine List.Sublist.cons_cons _ ?_ | refine List.Sublist.cons _ ?_)) ?_
      exact ⟨rfl, rfl⟩
  · rw [if_neg (by simp [hz])]
    have c4 := want_p i0 l σ1 sSem hl.len hl.pos b2
    generalize wantS l sSem σ1 = σ4 at *
    unfold sSem at c4
    unfold zNd
    simp only [aggD, encD_nd, encD_rw, List.map_cons, List.map_nil, Nd.kind, Nd.at, Nd.name, Nd.num, Nd.sub]
    have C4 := Lib.hid c4
    clear c4
    refine PCalls.enter Try.func89 rfl Try.ntmps89 (by simp) ?_
    simp only [argsF]
    refine go_ ?_
    refine POps_alloc_a ?_
    intro i1 hi1
    simp only [prS, List.cons_append, List.nil_append, List.append_nil, List.drop_succ_cons, List.drop_zero, List.drop_nil, St.freshB_box, St.freshB_nil, St.freshB_tok, St.freshB_obj] at hi1
    refine go_ ?_
    refine Rd 1 1 (c0.out) ?_
    rintro _ _ ⟨rfl, rfl⟩
    refine go_ ?_
    refine Rd 1 1 (C1.out) ?_
    rintro _ _ ⟨rfl, rfl⟩
    refine go_ ?_
    refine POps_alloc_a ?_
    intro i2 hi2
    simp only [prS, List.cons_append, List.nil_append, List.append_nil, List.drop_succ_cons, List.drop_zero, List.drop_nil, St.freshB_box, St.freshB_nil, St.freshB_tok, St.freshB_obj] at hi2
    refine go_ ?_
    refine Rc ?_
    unfold prS
    refine go_ ?_
    refine Rd 2 1 (C4.out) ?_
    rintro _ _ ⟨rfl, rfl⟩
    refine go_ ?_
    refine Rc ?_
    refine go_ ?_
    refine retP_ok (st' := prS i0 l σ4) (by simp) (by simp only [Try.results89]; rfl) (by simp [resP, St.box?, PF.get, loadB, TyK.agg, *]; rfl) (by repeat (first | exact List.Sublist.refl _ | exact List.nil_sublist _ | refine List.Sublist.cons_cons _ ?_ | refine List.Sublist.cons _ ?_)) ?_
    exact ⟨rfl, rfl⟩
theorem kind_p {l : List Tk} (hl : TkOk l) (i0 : Nat) (σ : ST) (hw : Wf l σ) : PCalls Try.prog 49 [.ptr i0 0] (prS i0 l σ) fun p s => p = .d (.v (.int .i64 (kindS l σ))) ∧ s = prS i0 l σ := by
  have b1 : σ.i ≤ 200000 := Nat.le_trans (hw.le hl) (by decide)
  have c1 := Lib.hid (is_p i0 l σ 0 0 rfl sData hl.len hl.pos b1 (by decide))
  have c2 := Lib.hid (is_p i0 l σ 0 0 rfl sRec hl.len hl.pos b1 (by decide))
  have c3 := Lib.hid (is_p i0 l σ 0 0 rfl sDef hl.len hl.pos b1 (by decide))
  have HK := Lib.hid (show kindS l σ = if isS l σ 0 sData then 1 else if isS l σ 0 sRec then 2 else if isS l σ 0 sDef then 3 else 0 from rfl)
  unfold sData sRec sDef at *
  refine PCalls.enter Try.func49 rfl Try.ntmps49 (by simp) ?_
  simp only [argsF]
  refine go_ ?_
  refine Re (c1.out) ?_
  rintro _ _ ⟨rfl, rfl⟩
  cases h1 : isS l σ 0 ⟨#[100, 97, 116, 97]⟩ with
  | true =>
    rw [h1] at HK
    refine go_ ?_
    refine retP_ok (st' := prS i0 l σ) (by simp) (by simp only [Try.results49]; rfl) (by simp [resP, St.box?, PF.get, loadB, TyK.agg, *]; rfl) (by repeat (first | exact List.Sublist.refl _ | exact List.nil_sublist _ | refine List.Sublist.cons_cons _ ?_ | refine List.Sublist.cons _ ?_)) ?_
    exact ⟨by rw [HK.out]; rfl, rfl⟩
  | false =>
    rw [h1] at HK
    refine go_ ?_
    refine Re (c2.out) ?_
    rintro _ _ ⟨rfl, rfl⟩
    cases h2 : isS l σ 0 ⟨#[114, 101, 99, 111, 114, 100]⟩ with
    | true =>
      rw [h2] at HK
      refine go_ ?_
      refine retP_ok (st' := prS i0 l σ) (by simp) (by simp only [Try.results49]; rfl) (by simp [resP, St.box?, PF.get, loadB, TyK.agg, *]; rfl) (by repeat (first | exact List.Sublist.refl _ | exact List.nil_sublist _ | refine List.Sublist.cons_cons _ ?_ | refine List.Sublist.cons _ ?_)) ?_
      exact ⟨by rw [HK.out]; rfl, rfl⟩
    | false =>
      rw [h2] at HK
      refine go_ ?_
      refine Re (c3.out) ?_
      rintro _ _ ⟨rfl, rfl⟩
      cases h3 : isS l σ 0 ⟨#[100, 101, 102]⟩ with
      | true =>
        rw [h3] at HK
        refine go_ ?_
        refine retP_ok (st' := prS i0 l σ) (by simp) (by simp only [Try.results49]; rfl) (by simp [resP, St.box?, PF.get, loadB, TyK.agg, *]; rfl) (by repeat (first | exact List.Sublist.refl _ | exact List.nil_sublist _ | refine List.Sublist.cons_cons _ ?_ | refine List.Sublist.cons _ ?_)) ?_
        exact ⟨by rw [HK.out]; rfl, rfl⟩
      | false =>
        rw [h3] at HK
        refine go_ ?_
        refine retP_ok (st' := prS i0 l σ) (by simp) (by simp only [Try.results49]; rfl) (by simp [resP, St.box?, PF.get, loadB, TyK.agg, *]; rfl) (by repeat (first | exact List.Sublist.refl _ | exact List.nil_sublist _ | refine List.Sublist.cons_cons _ ?_ | refine List.Sublist.cons _ ?_)) ?_
        exact ⟨by rw [HK.out]; rfl, rfl⟩
end Go.Proofs.Ytahhgpafjiljfaa

namespace Go.Proofs.Ytahhgpafjiljfaa
open Go.RowKit
set_option maxRecDepth 100000
set_option maxHeartbeats 4000000 in
theorem rows_p {l : List Tk} (hl : TkOk l) (i0 : Nat) (σ : ST) (hw : Wf l σ) : PCalls Try.prog 55 [.ptr i0 0] (prS i0 l σ) fun p s => p = .d (slD (rowsS l (l.length + 1) [] σ).1) ∧ s = prS i0 l (rowsS l (l.length + 1) [] σ).2 := by
  have HG : ∃ r, r = rowsS l (l.length + 1) [] σ := ⟨_, rfl⟩
  obtain ⟨r, hr⟩ := HG
  have HR := Lib.hid hr.symm
  rw [← hr]
  clear hr
  have HW := Lib.hid hw
  clear hw
  unfold slD
  refine PCalls.enter Try.func55 rfl Try.ntmps55 (by simp) ?_
  simp only [argsF]
  refine go_ ?_
  refine PW_own 3 66 8 (by decide) (by simp [PF.get] <;> rfl) fun g hg => ?_
  refine PW_loop (ι := Nat × List Rw × ST) (fun y => Wf l y.2.2 ∧ 0 < y.1 ∧ (y.2.2.bad = 0 → l.length - y.2.2.i + 1 ≤ y.1) ∧ rowsS l y.1 y.2.1 y.2.2 = r ∧ y.2.1.length ≤ 32) (fun y => [(0, .ptr i0 0), (3, .own g (y.2.1.map encD))])
    (fun y => .tok g 66 8 y.2.1.length :: prS i0 l y.2.2) (fun y => y.1) (l.length + 1, [], σ) ⟨HW.out, Nat.succ_pos _, fun _ => by simp only; omega, HR.out, Nat.zero_le _⟩ ?_ ?_ ?_
  · repeat (first | exact sub_nil _ | refine sub_cons (by simp [PF.get]; rfl) (by first | rfl | (simp [*]; done) | fail) ?_)
  · repeat (first | exact List.Sublist.refl _ | exact List.nil_sublist _ | refine List.Sublist.cons_cons _ ?_ | refine List.Sublist.cons _ ?_)
  · rintro ⟨m, acc, τ⟩ ⟨hw, hm0, hm, hr, hacc⟩
    simp only at hw hm0 hm hr hacc ⊢
    obtain ⟨m, rfl⟩ : ∃ k, m = k + 1 := ⟨m - 1, by omega⟩
    have b3 : τ.i ≤ 150000 := Nat.le_trans (hw.le hl) (by decide)
    have B0 := Lib.hid (open_p hl i0 τ hw)
    have B1 := Lib.hid (tok0_p i0 l τ hl.len hl.pos b3)
    simp only [rowsS] at hr
    by_cases hz : τ.bad = 0
    · cases hbg : openS l τ with
      | true =>
        rw [if_pos ⟨hz, hbg⟩] at hr
        by_cases h24 : 32 ≤ acc.length
        · rw [if_pos h24] at hr
          have hc24 : (32 : Int) ≤ (acc.length : Int) := by omega
          have B2 := Lib.hid (fail_p i0 l τ 2 (tkg l τ.i).at_)
          have HR2 := Lib.hid hr
          clear hr hm
          unfold prS
          refine go_ ?_
          refine Rd 1 1 (B0.out) ?_
          rintro _ _ ⟨rfl, rfl⟩
          refine go_ ?_
          refine Rd 1 1 (B1.out) ?_
          rintro _ _ ⟨rfl, rfl⟩
          refine go_ ?_
          refine Rd 1 1 (B2.out) ?_
          rintro _ _ ⟨rfl, rfl⟩
          refine go_ ?_
          refine retP_ok (st' := prS i0 l (failS 2 (tkg l τ.i).at_ τ)) (by simp) (by simp only [Try.results55]; rfl) (by simp [resP, St.box?, PF.get, loadB, TyK.agg, *]; rfl) (by repeat (first | exact List.Sublist.refl _ | exact List.nil_sublist _ | refine List.Sublist.cons_cons _ ?_ | refine List.Sublist.cons _ ?_)) ?_
          exact ⟨by rw [← HR2.out]; rfl, by rw [← HR2.out]; rfl⟩
        · rw [if_neg h24] at hr
          have hc24 : ¬ (32 : Int) ≤ (acc.length : Int) := by omega
          have hA := row_adv hl hw
          have c2 := row_p' hl i0 τ hw
          have HA := Lib.hid hA
          have HM := Lib.hid hm
          have HR2 := Lib.hid hr
          clear hr hm hA
          generalize (rowS l τ).1 = X at *
          generalize (rowS l τ).2 = τ2 at *
          simp only [aggD, encD_rw, encD_nd, List.map_cons, List.map_nil] at c2
          have C2 := Lib.hid c2
          clear c2
          unfold prS
          refine go_ ?_
          refine Rd 1 1 (B0.out) ?_
          rintro _ _ ⟨rfl, rfl⟩
          refine go_ ?_
          refine Rd 1 1 (C2.out) ?_
          rintro _ _ ⟨rfl, rfl⟩
          refine go_ ?_
          refine POps_bs_a ?_
          refine POps_app_a (acc.length + 1) ?_ ?_ ?_ ?_
          · simp
          · exact rows_map fun _ => encD_len _
          · exact rows_one rfl
          refine go_ ?_
          refine ⟨(m, acc ++ [X], τ2), ⟨HA.out.1, ?_, fun hb => ?_, HR2.out, by simp only [List.length_append, List.length_cons, List.length_nil]; omega⟩, by simp only; omega, ?_, ?_⟩
          · have h1 := HM.out hz
            have h2 := hw
            unfold Wf at h2
            simp only
            omega
          · have h1 := HM.out hz
            have h2 := (HA.out.2 hb).2
            have h3 := HA.out.1
            unfold Wf at h3
            simp only
            omega
          · refine sub_cons (by simp [PF.get] <;> rfl) rfl ?_
            refine sub_cons (by simp [PF.get] <;> rfl) (by simp only [List.map_append, List.map_cons, List.map_nil, encD_rw X]) ?_
            repeat (first | exact sub_nil _ | refine sub_cons (by simp [PF.get]; rfl) (by first | rfl | (simp [*]; done) | fail) ?_)
          · simp only [List.length_append, List.length_cons, List.length_nil, Nat.zero_add]
            repeat (first | exact List.Sublist.refl _ | exact List.nil_sublist _ | refine List.Sublist.cons_cons _ ?_ | refine List.Sublist.cons _ ?_)
      | false =>
        rw [if_neg (by rw [hbg]; simp)] at hr
        have HR2 := Lib.hid hr
        clear hr hm
        unfold prS
        refine go_ ?_
        refine Rd 1 1 (B0.out) ?_
        rintro _ _ ⟨rfl, rfl⟩
        refine go_ ?_
        refine retP_ok (st' := prS i0 l τ) (by simp) (by simp only [Try.results55]; rfl) (by simp [resP, St.box?, PF.get, loadB, TyK.agg, *]; rfl) (by repeat (first | exact List.Sublist.refl _ | exact List.nil_sublist _ | refine List.Sublist.cons_cons _ ?_ | refine List.Sublist.cons _ ?_)) ?_
        exact ⟨by rw [← HR2.out]; rfl, by rw [← HR2.out]; rfl⟩
    · rw [if_neg (by simp [hz])] at hr
      have HR2 := Lib.hid hr
      clear hr hm
      unfold prS
      refine go_ ?_
      refine retP_ok (st' := prS i0 l τ) (by simp) (by simp only [Try.results55]; rfl) (by simp [resP, St.box?, PF.get, loadB, TyK.agg, *]; rfl) (by repeat (first | exact List.Sublist.refl _ | exact List.nil_sublist _ | refine List.Sublist.cons_cons _ ?_ | refine List.Sublist.cons _ ?_)) ?_
      exact ⟨by rw [← HR2.out]; rfl, by rw [← HR2.out]; rfl⟩
set_option maxHeartbeats 4000000 in
theorem list_p {l : List Tk} (hl : TkOk l) (i0 most f1 f2 : Nat) (hmost : most ≤ 24) (more : ST → Bool) (one : ST → Bd × ST) (hca1 : callable Try.prog f1 = true) (hca2 : callable Try.prog f2 = true) (hmo : ∀ σ, Wf l σ → PCalls Try.prog f1 [.ptr i0 0] (prS i0 l σ) fun p s => p = .d (.v (.bool (more σ))) ∧ s = prS i0 l σ) (hon : ∀ σ, Wf l σ → PCalls Try.prog f2 [.ptr i0 0] (prS i0 l σ) fun p s => p = aggD (one σ).1 ∧ s = prS i0 l (one σ).2) (hadv : ∀ σ, Wf l σ → AdvS l σ (one σ).2) (σ : ST) (hw : Wf l σ) : PCalls Try.prog 51 [.ptr i0 0, .d (.v (.int .i64 (most : Int))), .fn (.func f1) [.ptr i0 0] [], .fn (.func f2) [.ptr i0 0] []] (prS i0 l σ) fun p s => p = .d (slD (listS l most more one (l.length + 1) [] σ).1) ∧ s = prS i0 l (listS l most more one (l.length + 1) [] σ).2 := by
  have HG : ∃ r, r = listS l most more one (l.length + 1) [] σ := ⟨_, rfl⟩
  obtain ⟨r, hr⟩ := HG
  have HR := Lib.hid hr.symm
  rw [← hr]
  clear hr
  have HW := Lib.hid hw
  clear hw
  unfold slD
  refine PCalls.enter Try.func51 rfl Try.ntmps51 (by simp) ?_
  simp only [argsF]
  refine go_ ?_
  refine PW_own 9 109 7 (by decide) (by simp [PF.get] <;> rfl) fun g hg => ?_
  refine PW_loop (ι := Nat × List Bd × ST) (fun y => Wf l y.2.2 ∧ 0 < y.1 ∧ (y.2.2.bad = 0 → l.length - y.2.2.i + 1 ≤ y.1) ∧ listS l most more one y.1 y.2.1 y.2.2 = r ∧ y.2.1.length ≤ most) (fun y => [(0, .ptr i0 0), (1, .d (.v (.int .i64 (most : Int)))), (2, .fn (.func f1) [.ptr i0 0] []), (3, .fn (.func f2) [.ptr i0 0] []), (9, .own g (y.2.1.map encD))])
    (fun y => .tok g 109 7 y.2.1.length :: prS i0 l y.2.2) (fun y => y.1) (l.length + 1, [], σ) ⟨HW.out, Nat.succ_pos _, fun _ => by simp only; omega, HR.out, Nat.zero_le _⟩ ?_ ?_ ?_
  · repeat (first | exact sub_nil _ | refine sub_cons (by simp [PF.get]; rfl) (by first | rfl | (simp [*]; done) | fail) ?_)
  · repeat (first | exact List.Sublist.refl _ | exact List.nil_sublist _ | refine List.Sublist.cons_cons _ ?_ | refine List.Sublist.cons _ ?_)
  · rintro ⟨m, acc, τ⟩ ⟨hw, hm0, hm, hr, hacc⟩
    simp only at hw hm0 hm hr hacc ⊢
    obtain ⟨m, rfl⟩ : ∃ k, m = k + 1 := ⟨m - 1, by omega⟩
    have b3 : τ.i ≤ 150000 := Nat.le_trans (hw.le hl) (by decide)
    have B0 := Lib.hid (hmo τ hw)
    have B1 := Lib.hid (tok0_p i0 l τ hl.len hl.pos b3)
    simp only [listS] at hr
    by_cases hz : τ.bad = 0
    · cases hbg : more τ with
      | true =>
        rw [if_pos ⟨hz, hbg⟩] at hr
        by_cases h24 : most ≤ acc.length
        · rw [if_pos h24] at hr
          have hc24 : (most : Int) ≤ (acc.length : Int) := by omega
          have B2 := Lib.hid (fail_p i0 l τ 2 (tkg l τ.i).at_)
          have HR2 := Lib.hid hr
          clear hr hm
          unfold prS
          refine go_ ?_
          refine POps_callB 1 1 (B0.out) ?_ (hca1)
          rintro _ _ ⟨rfl, rfl⟩
          refine go_ ?_
          refine Rd 1 1 (B1.out) ?_
          rintro _ _ ⟨rfl, rfl⟩
          refine go_ ?_
          refine Rd 1 1 (B2.out) ?_
          rintro _ _ ⟨rfl, rfl⟩
          refine go_ ?_
          refine retP_ok (st' := prS i0 l (failS 2 (tkg l τ.i).at_ τ)) (by simp) (by simp only [Try.results51]; rfl) (by simp [resP, St.box?, PF.get, loadB, TyK.agg, *]; rfl) (by repeat (first | exact List.Sublist.refl _ | exact List.nil_sublist _ | refine List.Sublist.cons_cons _ ?_ | refine List.Sublist.cons _ ?_)) ?_
          exact ⟨by rw [← HR2.out]; rfl, by rw [← HR2.out]; rfl⟩
        · rw [if_neg h24] at hr
          have hc24 : ¬ (most : Int) ≤ (acc.length : Int) := by omega
          have hA := hadv τ hw
          have c2 := hon τ hw
          have HA := Lib.hid hA
          have HM := Lib.hid hm
          have HR2 := Lib.hid hr
          clear hr hm hA
          generalize (one τ).1 = X at *
          generalize (one τ).2 = τ2 at *
          simp only [aggD, encD_bd, encD_nd, List.map_cons, List.map_nil] at c2
          have C2 := Lib.hid c2
          clear c2
          unfold prS
          refine go_ ?_
          refine POps_callB 1 1 (B0.out) ?_ (hca1)
          rintro _ _ ⟨rfl, rfl⟩
          refine go_ ?_
          refine POps_callB 1 1 (C2.out) ?_ (hca2)
          rintro _ _ ⟨rfl, rfl⟩
          refine go_ ?_
          refine POps_bs_a ?_
          refine POps_app_a (acc.length + 1) ?_ ?_ ?_ ?_
          · simp
          · exact rows_map fun _ => encD_len _
          · exact rows_one rfl
          refine go_ ?_
          refine ⟨(m, acc ++ [X], τ2), ⟨HA.out.1, ?_, fun hb => ?_, HR2.out, by simp only [List.length_append, List.length_cons, List.length_nil]; omega⟩, by simp only; omega, ?_, ?_⟩
          · have h1 := HM.out hz
            have h2 := hw
            unfold Wf at h2
            simp only
            omega
          · have h1 := HM.out hz
            have h2 := (HA.out.2 hb).2
            have h3 := HA.out.1
            unfold Wf at h3
            simp only
            omega
          · refine sub_cons (by simp [PF.get] <;> rfl) rfl ?_
            refine sub_cons (by simp [PF.get] <;> rfl) rfl ?_
            refine sub_cons (by simp [PF.get] <;> rfl) rfl ?_
            refine sub_cons (by simp [PF.get] <;> rfl) rfl ?_
            refine sub_cons (by simp [PF.get] <;> rfl) (by simp only [List.map_append, List.map_cons, List.map_nil, encD_bd X]) ?_
            repeat (first | exact sub_nil _ | refine sub_cons (by simp [PF.get]; rfl) (by first | rfl | (simp [*]; done) | fail) ?_)
          · simp only [List.length_append, List.length_cons, List.length_nil, Nat.zero_add]
            repeat (first | exact List.Sublist.refl _ | exact List.nil_sublist _ | refine List.Sublist.cons_cons _ ?_ | refine List.Sublist.cons _ ?_)
      | false =>
        rw [if_neg (by rw [hbg]; simp)] at hr
        have HR2 := Lib.hid hr
        clear hr hm
        unfold prS
        refine go_ ?_
        refine POps_callB 1 1 (B0.out) ?_ (hca1)
        rintro _ _ ⟨rfl, rfl⟩
        refine go_ ?_
        refine retP_ok (st' := prS i0 l τ) (by simp) (by simp only [Try.results51]; rfl) (by simp [resP, St.box?, PF.get, loadB, TyK.agg, *]; rfl) (by repeat (first | exact List.Sublist.refl _ | exact List.nil_sublist _ | refine List.Sublist.cons_cons _ ?_ | refine List.Sublist.cons _ ?_)) ?_
        exact ⟨by rw [← HR2.out]; rfl, by rw [← HR2.out]; rfl⟩
    · rw [if_neg (by simp [hz])] at hr
      have HR2 := Lib.hid hr
      clear hr hm
      unfold prS
      refine go_ ?_
      refine retP_ok (st' := prS i0 l τ) (by simp) (by simp only [Try.results51]; rfl) (by simp [resP, St.box?, PF.get, loadB, TyK.agg, *]; rfl) (by repeat (first | exact List.Sublist.refl _ | exact List.nil_sublist _ | refine List.Sublist.cons_cons _ ?_ | refine List.Sublist.cons _ ?_)) ?_
      exact ⟨by rw [← HR2.out]; rfl, by rw [← HR2.out]; rfl⟩
end Go.Proofs.Ytahhgpafjiljfaa

namespace Go.Proofs.Ytahhgpafjiljfaa
open Go.RowKit
set_option maxRecDepth 100000
theorem kind_k {l : List Tk} {σ : ST} (h : ¬ kindS l σ = 0) : (tkg l σ.i).kind ≠ 5 := by
  unfold kindS at h
  split at h
  · exact mark_k ‹_›
  · split at h
    · exact mark_k ‹_›
    · split at h
      · exact mark_k ‹_›
      · exact absurd rfl h
theorem decl_0 {l : List Tk} {σ : ST} (hk : kindS l σ = 0) : declS l σ = (⟨0, (tkg l σ.i).at_, ⟨#[]⟩, [], zNd, [], []⟩, failS 1 (tkg l σ.i).at_ σ) := by
  simp only [declS, hk, if_true]
theorem decl_3 {l : List Tk} {σ : ST} (hk : kindS l σ = 3) : declS l σ = (⟨3, (tkg l σ.i).at_, (nameS l (incS σ)).1, [], (exprS l (exprF l) (wantS l sCol (nameS l (incS σ)).2)).1, [], (rowsS l (l.length + 1) [] (wantS l sBra (exprS l (exprF l) (wantS l sCol (nameS l (incS σ)).2)).2)).1⟩, wantS l sKet (rowsS l (l.length + 1) [] (wantS l sBra (exprS l (exprF l) (wantS l sCol (nameS l (incS σ)).2)).2)).2) := by
  simp only [declS, hk]
  rfl
def teleS (l : List Tk) (σ : ST) : List Bd × ST := listS l 24 (paren0S l) (bindS l) (l.length + 1) [] σ
def consS (l : List Tk) (σ : ST) : List Bd × ST := listS l 16 (openS l) (lineS l) (l.length + 1) [] σ
theorem decl_1 {l : List Tk} {σ : ST} (h0 : ¬ kindS l σ = 0) (h3 : ¬ kindS l σ = 3) : declS l σ = (⟨kindS l σ, (tkg l σ.i).at_, (nameS l (incS σ)).1, (teleS l (nameS l (incS σ)).2).1, (exprS l (exprF l) (wantS l sCol (teleS l (nameS l (incS σ)).2).2)).1, (consS l (wantS l sBra (exprS l (exprF l) (wantS l sCol (teleS l (nameS l (incS σ)).2).2)).2)).1, []⟩, wantS l sKet (consS l (wantS l sBra (exprS l (exprF l) (wantS l sCol (teleS l (nameS l (incS σ)).2).2)).2)).2) := by
  simp only [declS, if_neg h0, if_neg h3]
  rfl
section
variable {l : List Tk} (hl : TkOk l)
include hl
theorem tele_adv {σ : ST} (h : Wf l σ) : Adv l σ (teleS l σ).2 := list_adv hl (fun _ h => bind_adv hl h) _ _ _ h
theorem cons_adv {σ : ST} (h : Wf l σ) : Adv l σ (consS l σ).2 := list_adv hl (fun _ h => line_adv hl h) _ _ _ h
theorem decl_adv {σ : ST} (h : Wf l σ) : AdvS l σ (declS l σ).2 := by
  by_cases h0 : kindS l σ = 0
  · rw [decl_0 h0]
    exact fail_adv hl 1 _ (by decide) h
  · have a0 := inc_adv hl (kind_k h0)
    have a1 := a0.trans (name_adv hl a0.1).adv
    by_cases h3 : kindS l σ = 3
    · rw [decl_3 h3]
      have a3 := a1.trans (want_adv hl sCol a1.1).adv
      have a4 := a3.trans (exprF_adv hl a3.1)
      have a5 := a4.trans (want_adv hl sBra a4.1).adv
      have a6 := a5.trans (rows_adv hl (l.length + 1) [] _ a5.1)
      exact a6.trans (want_adv hl sKet a6.1).adv
    · rw [decl_1 h0 h3]
      have a2 := a1.trans (tele_adv hl a1.1)
      have a3 := a2.trans (want_adv hl sCol a2.1).adv
      have a4 := a3.trans (exprF_adv hl a3.1)
      have a5 := a4.trans (want_adv hl sBra a4.1).adv
      have a6 := a5.trans (cons_adv hl a5.1)
      exact a6.trans (want_adv hl sKet a6.1).adv
end
theorem tele_p {l : List Tk} (hl : TkOk l) (i0 : Nat) (σ : ST) (hw : Wf l σ) : PCalls Try.prog 51 [.ptr i0 0, .d (.v (.int .i64 24)), .fn (.func 52) [.ptr i0 0] [], .fn (.func 53) [.ptr i0 0] []] (prS i0 l σ) fun p s => p = .d (slD (teleS l σ).1) ∧ s = prS i0 l (teleS l σ).2 :=
  list_p hl i0 24 52 53 (by decide) (paren0S l) (bindS l) rfl rfl (fun σ h => paren0_p hl i0 σ h) (fun σ h => bind_p hl i0 σ h) (fun σ h => bind_adv hl h) σ hw
theorem cons_p {l : List Tk} (hl : TkOk l) (i0 : Nat) (σ : ST) (hw : Wf l σ) : PCalls Try.prog 51 [.ptr i0 0, .d (.v (.int .i64 16)), .fn (.func 56) [.ptr i0 0] [], .fn (.func 57) [.ptr i0 0] []] (prS i0 l σ) fun p s => p = .d (slD (consS l σ).1) ∧ s = prS i0 l (consS l σ).2 :=
  list_p hl i0 16 56 57 (by decide) (openS l) (lineS l) rfl rfl (fun σ h => open_p hl i0 σ h) (fun σ h => line_p' hl i0 σ h) (fun σ h => line_adv hl h) σ hw
set_option maxHeartbeats 4000000 in
theorem decl_p' {l : List Tk} (hl : TkOk l) (i0 : Nat) (σ : ST) (hw : Wf l σ) : PCalls Try.prog 29 [.ptr i0 0] (prS i0 l σ) fun p s => p = aggD (declS l σ).1 ∧ s = prS i0 l (declS l σ).2 := by
  have b1 : σ.i ≤ 150000 := Nat.le_trans (hw.le hl) (by decide)
  have ck := Lib.hid (kind_p hl i0 σ hw)
  have ct := Lib.hid (tok0_p i0 l σ hl.len hl.pos b1)
  by_cases h0 : kindS l σ = 0
  · rw [decl_0 h0]
    have cf := fail_p i0 l σ 1 (tkg l σ.i).at_
    rw [h0] at ck
    clear h0
    generalize (tkg l σ.i).at_ = at0 at *
    generalize failS 1 at0 σ = σ1 at *
    unfold zNd
    simp only [aggD, encD_dc, List.map_cons, List.map_nil, Nd.kind, Nd.at, Nd.name, Nd.num, Nd.sub]
    have CF := Lib.hid cf
    clear cf
    refine PCalls.enter Try.func29 rfl Try.ntmps29 (by simp) ?_
    simp only [argsF]
    refine go_ ?_
    refine POps_alloc_a ?_
    intro i1 hi1
    simp only [prS, List.cons_append, List.nil_append, List.append_nil, List.drop_succ_cons, List.drop_zero, List.drop_nil, St.freshB_box, St.freshB_nil, St.freshB_tok, St.freshB_obj] at hi1
    refine go_ ?_
    refine Rd 1 1 (ck.out) ?_
    rintro _ _ ⟨rfl, rfl⟩
    refine go_ ?_
    refine Rd 1 1 (ct.out) ?_
    rintro _ _ ⟨rfl, rfl⟩
    refine go_ ?_
    refine POps_alloc_a ?_
    intro i2 hi2
    simp only [prS, List.cons_append, List.nil_append, List.append_nil, List.drop_succ_cons, List.drop_zero, List.drop_nil, St.freshB_box, St.freshB_nil, St.freshB_tok, St.freshB_obj] at hi2
    refine go_ ?_
    refine Rc ?_
    refine go_ ?_
    refine Rd 2 1 (CF.out) ?_
    rintro _ _ ⟨rfl, rfl⟩
    refine go_ ?_
    refine Rc ?_
    refine go_ ?_
    refine retP_ok (st' := prS i0 l σ1) (by simp) (by simp only [Try.results29]; rfl) (by simp [resP, St.box?, PF.get, loadB, TyK.agg, *]; rfl) (by repeat (first | exact List.Sublist.refl _ | exact List.nil_sublist _ | refine List.Sublist.cons_cons _ ?_ | refine List.Sublist.cons _ ?_)) ?_
    exact ⟨rfl, rfl⟩
  · have a0 := inc_adv hl (kind_k h0)
    have a1 := a0.trans (name_adv hl a0.1).adv
    have cn := name_p i0 l (incS σ) hl.len hl.pos (Nat.le_trans (a0.1.le hl) (by decide))
    have hin := wrap_i b1
    by_cases h3 : kindS l σ = 3
    · rw [decl_3 h3]
      have a3 := a1.trans (want_adv hl sCol a1.1).adv
      have a4 := a3.trans (exprF_adv hl a3.1)
      have a5 := a4.trans (want_adv hl sBra a4.1).adv
      have a6 := a5.trans (rows_adv hl (l.length + 1) [] _ a5.1)
      have c1 := want_p i0 l _ sCol hl.len hl.pos (Nat.le_trans (a1.1.le hl) (by decide))
      have c2 := expr_full hl i0 _ a3.1
      have c3 := want_p i0 l _ sBra hl.len hl.pos (Nat.le_trans (a4.1.le hl) (by decide))
      have c4 := rows_p hl i0 _ a5.1
      have c5 := want_p i0 l _ sKet hl.len hl.pos (Nat.le_trans (a6.1.le hl) (by decide))
      rw [h3] at ck
      clear h0 h3 a0 a1 a3 a4 a5 a6 hw
      generalize (tkg l σ.i).at_ = at0 at *
      obtain ⟨i, a, b⟩ := σ
      simp only at hin b1
      generalize (nameS l (incS ⟨i, a, b⟩)).1 = x at *
      generalize (nameS l (incS ⟨i, a, b⟩)).2 = σ1 at *
      generalize wantS l sCol σ1 = σ2 at *
      generalize (exprS l (exprF l) σ2).1 = A at *
      generalize (exprS l (exprF l) σ2).2 = σ3 at *
      generalize wantS l sBra σ3 = σ4 at *
      generalize (rowsS l (l.length + 1) [] σ4).1 = R at *
      generalize (rowsS l (l.length + 1) [] σ4).2 = σ5 at *
      generalize wantS l sKet σ5 = σ6 at *
      unfold sCol at c1
      unfold sBra at c3
      unfold sKet at c5
      unfold slD at c4
      simp only [aggD, encD_nd, encD_dc, List.map_cons, List.map_nil] at c2 ⊢
      have CN := Lib.hid cn
      have C1 := Lib.hid c1
      have C2 := Lib.hid c2
      have C3 := Lib.hid c3
      have C4 := Lib.hid c4
      have C5 := Lib.hid c5
      clear cn c1 c2 c3 c4 c5
      refine PCalls.enter Try.func29 rfl Try.ntmps29 (by simp) ?_
      simp only [argsF]
      refine go_ ?_
      refine POps_alloc_a ?_
      intro i1 hi1
      simp only [prS, List.cons_append, List.nil_append, List.append_nil, List.drop_succ_cons, List.drop_zero, List.drop_nil, St.freshB_box, St.freshB_nil, St.freshB_tok, St.freshB_obj] at hi1
      refine go_ ?_
      refine Rd 1 1 (ck.out) ?_
      rintro _ _ ⟨rfl, rfl⟩
      refine go_ ?_
      refine Rd 1 1 (ct.out) ?_
      rintro _ _ ⟨rfl, rfl⟩
      refine go_ ?_
      refine POps_alloc_a ?_
      intro i2 hi2
      simp only [prS, List.cons_append, List.nil_append, List.append_nil, List.drop_succ_cons, List.drop_zero, List.drop_nil, St.freshB_box, St.freshB_nil, St.freshB_tok, St.freshB_obj] at hi2
      refine go_ ?_
      refine Rc ?_
      unfold prS
      refine go_ ?_
      refine Rc ?_
      refine go_ ?_
      refine Rd 2 1 (CN.out) ?_
      rintro _ _ ⟨rfl, rfl⟩
      refine go_ ?_
      refine Rc ?_
      refine go_ ?_
      refine Rd 2 1 (C1.out) ?_
      rintro _ _ ⟨rfl, rfl⟩
      refine go_ ?_
      refine Rd 2 1 (C2.out) ?_
      rintro _ _ ⟨rfl, rfl⟩
      refine go_ ?_
      refine Rc ?_
      refine go_ ?_
      refine Rd 2 1 (C3.out) ?_
      rintro _ _ ⟨rfl, rfl⟩
      refine go_ ?_
      refine Rd 2 1 (C4.out) ?_
      rintro _ _ ⟨rfl, rfl⟩
      refine go_ ?_
      refine Rc ?_
      refine go_ ?_
      refine Rd 2 1 (C5.out) ?_
      rintro _ _ ⟨rfl, rfl⟩
      refine go_ ?_
      refine Rc ?_
      refine go_ ?_
      refine retP_ok (st' := prS i0 l σ6) (by simp) (by simp only [Try.results29]; rfl) (by simp [resP, St.box?, PF.get, loadB, TyK.agg, *]; rfl) (by repeat (first | exact List.Sublist.refl _ | exact List.nil_sublist _ | refine List.Sublist.cons_cons _ ?_ | refine List.Sublist.cons _ ?_)) ?_
      exact ⟨rfl, rfl⟩
    · rw [decl_1 h0 h3]
      have a2 := a1.trans (tele_adv hl a1.1)
      have a3 := a2.trans (want_adv hl sCol a2.1).adv
      have a4 := a3.trans (exprF_adv hl a3.1)
      have a5 := a4.trans (want_adv hl sBra a4.1).adv
      have a6 := a5.trans (cons_adv hl a5.1)
      have c0 := tele_p hl i0 _ a1.1
      have c1 := want_p i0 l _ sCol hl.len hl.pos (Nat.le_trans (a2.1.le hl) (by decide))
      have c2 := expr_full hl i0 _ a3.1
      have c3 := want_p i0 l _ sBra hl.len hl.pos (Nat.le_trans (a4.1.le hl) (by decide))
      have c4 := cons_p hl i0 _ a5.1
      have c5 := want_p i0 l _ sKet hl.len hl.pos (Nat.le_trans (a6.1.le hl) (by decide))
      clear a0 a1 a2 a3 a4 a5 a6 hw
      generalize kindS l σ = k at *
      generalize (tkg l σ.i).at_ = at0 at *
      obtain ⟨i, a, b⟩ := σ
      simp only at hin b1
      generalize (nameS l (incS ⟨i, a, b⟩)).1 = x at *
      generalize (nameS l (incS ⟨i, a, b⟩)).2 = σ0 at *
      generalize (teleS l σ0).1 = T at *
      generalize (teleS l σ0).2 = σ1 at *
      generalize wantS l sCol σ1 = σ2 at *
      generalize (exprS l (exprF l) σ2).1 = A at *
      generalize (exprS l (exprF l) σ2).2 = σ3 at *
      generalize wantS l sBra σ3 = σ4 at *
      generalize (consS l σ4).1 = R at *
      generalize (consS l σ4).2 = σ5 at *
      generalize wantS l sKet σ5 = σ6 at *
      unfold sCol at c1
      unfold sBra at c3
      unfold sKet at c5
      unfold slD at c4 c0
      simp only [aggD, encD_nd, encD_dc, List.map_cons, List.map_nil] at c2 ⊢
      have CN := Lib.hid cn
      have C0 := Lib.hid c0
      have C1 := Lib.hid c1
      have C2 := Lib.hid c2
      have C3 := Lib.hid c3
      have C4 := Lib.hid c4
      have C5 := Lib.hid c5
      clear cn c0 c1 c2 c3 c4 c5
      refine PCalls.enter Try.func29 rfl Try.ntmps29 (by simp) ?_
      simp only [argsF]
      refine go_ ?_
      refine POps_alloc_a ?_
      intro i1 hi1
      simp only [prS, List.cons_append, List.nil_append, List.append_nil, List.drop_succ_cons, List.drop_zero, List.drop_nil, St.freshB_box, St.freshB_nil, St.freshB_tok, St.freshB_obj] at hi1
      refine go_ ?_
      refine Rd 1 1 (ck.out) ?_
      rintro _ _ ⟨rfl, rfl⟩
      refine go_ ?_
      refine Rd 1 1 (ct.out) ?_
      rintro _ _ ⟨rfl, rfl⟩
      refine go_ ?_
      refine POps_alloc_a ?_
      intro i2 hi2
      simp only [prS, List.cons_append, List.nil_append, List.append_nil, List.drop_succ_cons, List.drop_zero, List.drop_nil, St.freshB_box, St.freshB_nil, St.freshB_tok, St.freshB_obj] at hi2
      refine go_ ?_
      refine Rc ?_
      unfold prS
      refine go_ ?_
      refine Rc ?_
      refine go_ ?_
      refine Rd 2 1 (CN.out) ?_
      rintro _ _ ⟨rfl, rfl⟩
      refine go_ ?_
      refine Rc ?_
      refine go_ ?_
      refine POps_makeFunc ?_
      refine go_ ?_
      refine POps_makeFunc ?_
      refine go_ ?_
      refine Rd 2 1 (C0.out) ?_
      rintro _ _ ⟨rfl, rfl⟩
      refine go_ ?_
      refine Rc ?_
      refine go_ ?_
      refine Rd 2 1 (C1.out) ?_
      rintro _ _ ⟨rfl, rfl⟩
      refine go_ ?_
      refine Rd 2 1 (C2.out) ?_
      rintro _ _ ⟨rfl, rfl⟩
      refine go_ ?_
      refine Rc ?_
      refine go_ ?_
      refine Rd 2 1 (C3.out) ?_
      rintro _ _ ⟨rfl, rfl⟩
      refine go_ ?_
      refine POps_makeFunc ?_
      refine go_ ?_
      refine POps_makeFunc ?_
      refine go_ ?_
      refine Rd 2 1 (C4.out) ?_
      rintro _ _ ⟨rfl, rfl⟩
      refine go_ ?_
      refine Rc ?_
      refine go_ ?_
      refine Rd 2 1 (C5.out) ?_
      rintro _ _ ⟨rfl, rfl⟩
      refine go_ ?_
      refine Rc ?_
      refine go_ ?_
      refine retP_ok (st' := prS i0 l σ6) (by simp) (by simp only [Try.results29]; rfl) (by simp [resP, St.box?, PF.get, loadB, TyK.agg, *]; rfl) (by repeat (first | exact List.Sublist.refl _ | exact List.nil_sublist _ | refine List.Sublist.cons_cons _ ?_ | refine List.Sublist.cons _ ?_)) ?_
      exact ⟨rfl, rfl⟩
end Go.Proofs.Ytahhgpafjiljfaa

namespace Go.Proofs.Ytahhgpafjiljfaa
open Go.RowKit
set_option maxRecDepth 100000
theorem checked_sm {x : Nd} {a : Int} {σ : ST} (h : (checkedS x a σ).bad = 0) : depthT x ≤ 128 := by
  unfold checkedS at h
  split at h
  · exact absurd h (failS_bad 2 a σ (by decide))
  · rename_i h1
    exact Int.not_lt.1 fun h2 => h1 ⟨h, h2⟩
theorem zNd_sm : depthT zNd ≤ 128 := by decide +kernel
theorem expr_sm {l : List Tk} {n : Nat} {σ : ST} (h : (exprS l n σ).2.bad = 0) : depthT (exprS l n σ).1 ≤ 128 := checked_sm h
section
variable {l : List Tk} (hl : TkOk l)
include hl
theorem pats_sm : ∀ (n : Nat) (acc : List Nd) (σ : ST), Wf l σ → (∀ x ∈ acc, depthT x ≤ 128) → (patsS l n acc σ).2.bad = 0 → ∀ x ∈ (patsS l n acc σ).1, depthT x ≤ 128 := by
  intro n
  induction n with
  | zero => intro acc σ _ ha _; exact ha
  | succ n ih =>
    intro acc σ hw ha hb
    simp only [patsS] at hb ⊢
    split at hb
    · rename_i hc
      rw [if_pos hc]
      split at hb
      · exact absurd hb (failS_bad 2 _ σ (by decide))
      · rename_i hn
        rw [if_neg hn]
        have h1 := patF_adv hl hw
        have h2 := h1.trans (checked_adv hl (patS l (patF l) σ).1 (tkg l σ.i).at_ h1.1)
        have h3 := pats_adv hl n (acc ++ [(patS l (patF l) σ).1]) _ h2.1
        refine ih _ _ h2.1 (fun x hx => ?_) hb
        rcases List.mem_append.1 hx with hx | hx
        · exact ha x hx
        · rw [List.mem_singleton.1 hx]
          exact checked_sm (h3.2 hb).1
    · rename_i hc
      rw [if_neg hc]
      exact ha
theorem con_sm {σ : ST} (h : (conS l σ).2.bad = 0) : smBd (conS l σ).1 := by
  have _ := hl
  exact expr_sm h
theorem bind_sm {σ : ST} (hw : Wf l σ) (h : (bindS l σ).2.bad = 0) : smBd (bindS l σ).1 := by
  have h1 := want_adv hl sPar hw
  have h2 := con_adv hl h1.1
  exact con_sm hl ((want_adv hl sRap h2.1).2 h).1
theorem line_sm {σ : ST} (hw : Wf l σ) (h : (lineS l σ).2.bad = 0) : smBd (lineS l σ).1 := by
  have h2 := con_adv hl hw
  exact con_sm hl ((want_adv hl sSem h2.1).2 h).1
theorem list_sm {most : Nat} {more : ST → Bool} {one : ST → Bd × ST} (ho : ∀ σ, Wf l σ → AdvS l σ (one σ).2) (hs : ∀ σ, Wf l σ → (one σ).2.bad = 0 → smBd (one σ).1) : ∀ (n : Nat) (acc : List Bd) (σ : ST), Wf l σ → (∀ x ∈ acc, smBd x) → (listS l most more one n acc σ).2.bad = 0 → ∀ x ∈ (listS l most more one n acc σ).1, smBd x := by
  intro n
  induction n with
  | zero => intro acc σ _ ha _; exact ha
  | succ n ih =>
    intro acc σ hw ha hb
    simp only [listS] at hb ⊢
    split at hb
    · rename_i hc
      rw [if_pos hc]
      split at hb
      · exact absurd hb (failS_bad 2 _ σ (by decide))
      · rename_i hn
        rw [if_neg hn]
        have h1 := ho σ hw
        have h3 := list_adv hl (most := most) (more := more) ho n (acc ++ [(one σ).1]) _ h1.1
        refine ih _ _ h1.1 (fun x hx => ?_) hb
        rcases List.mem_append.1 hx with hx | hx
        · exact ha x hx
        · rw [List.mem_singleton.1 hx]
          exact hs σ hw (h3.2 hb).1
    · rename_i hc
      rw [if_neg hc]
      exact ha
theorem fileS_adv : ∀ (n : Nat) (acc : List Dc) (σ : ST), Wf l σ → Adv l σ (fileS l n acc σ).2 := by
  intro n
  induction n with
  | zero => intro acc σ h; exact Adv.refl h
  | succ n ih =>
    intro acc σ h
    simp only [fileS]
    split
    · have h1 := decl_adv hl h
      exact h1.adv.trans (ih _ _ h1.1)
    · exact Adv.refl h
theorem row_sm {σ : ST} (hw : Wf l σ) (h : (rowS l σ).2.bad = 0) : smRw (rowS l σ).1 := by
  have hp := pats_adv hl (l.length + 1) [] σ hw
  have hq := fun hb => pats_sm hl (l.length + 1) [] σ hw (fun _ h => by cases h) hb
  unfold rowS at h ⊢
  simp only at h ⊢
  split
  · rename_i hc
    rw [if_pos hc] at h
    have h1 := inc_adv hl (mark_k hc.2)
    have h2 := exprF_adv hl h1.1
    have h3 := (want_adv hl sSem h2.1).2 h
    exact ⟨expr_sm h3.1, hq hc.1⟩
  · rename_i hc
    rw [if_neg hc] at h
    have h3 := (want_adv hl sSem hp.1).2 h
    exact ⟨zNd_sm, hq h3.1⟩
theorem rows_sm : ∀ (n : Nat) (acc : List Rw) (σ : ST), Wf l σ → (∀ x ∈ acc, smRw x) → (rowsS l n acc σ).2.bad = 0 → ∀ x ∈ (rowsS l n acc σ).1, smRw x := by
  intro n
  induction n with
  | zero => intro acc σ _ ha _; exact ha
  | succ n ih =>
    intro acc σ hw ha hb
    simp only [rowsS] at hb ⊢
    split at hb
    · rename_i hc
      rw [if_pos hc]
      split at hb
      · exact absurd hb (failS_bad 2 _ σ (by decide))
      · rename_i hn
        rw [if_neg hn]
        have h1 := row_adv hl hw
        have h3 := rows_adv hl n (acc ++ [(rowS l σ).1]) _ h1.1
        refine ih _ _ h1.1 (fun x hx => ?_) hb
        rcases List.mem_append.1 hx with hx | hx
        · exact ha x hx
        · rw [List.mem_singleton.1 hx]
          exact row_sm hl hw (h3.2 hb).1
    · rename_i hc
      rw [if_neg hc]
      exact ha
theorem decl_sm {σ : ST} (h : Wf l σ) (hb : (declS l σ).2.bad = 0) : smDc (declS l σ).1 := by
  by_cases h0 : kindS l σ = 0
  · rw [decl_0 h0] at hb
    exact absurd hb (failS_bad 1 _ σ (by decide))
  · have a0 := inc_adv hl (kind_k h0)
    have a1 := a0.trans (name_adv hl a0.1).adv
    by_cases h3 : kindS l σ = 3
    · rw [decl_3 h3] at hb ⊢
      have a3 := want_adv hl sCol a1.1
      have a4 := exprF_adv hl a3.1
      have a5 := want_adv hl sBra a4.1
      have a6 := rows_adv hl (l.length + 1) [] _ a5.1
      have b6 := ((want_adv hl sKet a6.1).2 hb).1
      have b5 := (a6.2 b6).1
      have b4 := (a5.2 b5).1
      exact ⟨expr_sm b4, (fun _ h => by cases h), (fun _ h => by cases h), rows_sm hl _ _ _ a5.1 (fun _ h => by cases h) b6⟩
    · rw [decl_1 h0 h3] at hb ⊢
      have a2 := tele_adv hl a1.1
      have a3 := want_adv hl sCol a2.1
      have a4 := exprF_adv hl a3.1
      have a5 := want_adv hl sBra a4.1
      have a6 := cons_adv hl a5.1
      have b6 := ((want_adv hl sKet a6.1).2 hb).1
      have b5 := (a6.2 b6).1
      have b4 := (a5.2 b5).1
      have b3 := (a4.2 b4).1
      have b2 := (a3.2 b3).1
      exact ⟨expr_sm b4, list_sm hl (fun _ h => bind_adv hl h) (fun _ h hb => bind_sm hl h hb) _ _ _ a1.1 (fun _ h => by cases h) b2, list_sm hl (fun _ h => line_adv hl h) (fun _ h hb => line_sm hl h hb) _ _ _ a5.1 (fun _ h => by cases h) b6, (fun _ h => by cases h)⟩
theorem file_sm : ∀ (n : Nat) (acc : List Dc) (σ : ST), Wf l σ → (∀ x ∈ acc, smDc x) → (fileS l n acc σ).2.bad = 0 → ∀ x ∈ (fileS l n acc σ).1, smDc x := by
  intro n
  induction n with
  | zero => intro acc σ _ ha _; exact ha
  | succ n ih =>
    intro acc σ hw ha hb
    simp only [fileS] at hb ⊢
    split at hb
    · rename_i hc
      rw [if_pos hc]
      have h1 := decl_adv hl hw
      have h3 := fileS_adv hl n (acc ++ [(declS l σ).1]) _ h1.1
      refine ih _ _ h1.1 (fun x hx => ?_) hb
      rcases List.mem_append.1 hx with hx | hx
      · exact ha x hx
      · rw [List.mem_singleton.1 hx]
        exact decl_sm hl hw (h3.2 hb).1
    · rename_i hc
      rw [if_neg hc]
      exact ha
end
/-- a file read without an error has small trees alone -/
theorem fileA_sm (s : ByteArray) (h : (fileA s).2.2 = 0) : ∀ d ∈ (fileA s).1, smDc d := by
  have hs := file_sm (startOk s) ((startL s).length + 1) [] (startS s) (startW s) (fun _ h => by cases h)
  unfold fileA at h ⊢
  simp only at h ⊢
  split at h
  · rename_i hb
    rw [if_pos hb]
    exact hs hb
  · rename_i hb
    exact absurd h hb
theorem fileA_err (s : ByteArray) (h : (fileA s).2.2 ≠ 0) : (fileA s).1 = [] := by
  unfold fileA at h ⊢
  simp only at h ⊢
  split at h
  · exact absurd rfl h
  · rename_i hb
    rw [if_neg hb]
end Go.Proofs.Ytahhgpafjiljfaa

namespace Go.Proofs.Ytahhgpafjiljfaa
open Go.RowKit
set_option maxRecDepth 100000
set_option maxHeartbeats 4000000 in
theorem ppats_p (s : ByteArray) : PCalls Try.prog 14 [.d (.v (.string s))] [] fun p st => p = .tup [.d (slD (patsA s).1), .d (.v (.int .i64 (patsA s).2.1)), .d (.v (.int .i64 (patsA s).2.2))] ∧ st = [] := by
  have hl := startOk s
  have hw := startW s
  have H0 := Lib.hid (start_p s)
  have hE := pats_adv hl ((startL s).length + 1) [] (startS s) hw
  have HE := Lib.hid (fun i0 => pats_p hl i0 (startS s) hw)
  have HD := Lib.hid (fun i0 => end_p' hl i0 (patsS (startL s) ((startL s).length + 1) [] (startS s)).2 hE.1)
  have HA := Lib.hid (show patsA s = if (endS (startL s) (patsS (startL s) ((startL s).length + 1) [] (startS s)).2).bad = 0 then ((patsS (startL s) ((startL s).length + 1) [] (startS s)).1, (s.size : Int), 0) else ([], (endS (startL s) (patsS (startL s) ((startL s).length + 1) [] (startS s)).2).at_, (endS (startL s) (patsS (startL s) ((startL s).length + 1) [] (startS s)).2).bad) from rfl)
  clear hl hw hE
  generalize startS s = σ at *
  generalize startL s = l at *
  generalize (patsS l (l.length + 1) [] σ).1 = x at *
  generalize (patsS l (l.length + 1) [] σ).2 = σ1 at *
  generalize endS l σ1 = σ2 at *
  rw [HA.out]
  clear HA
  unfold slD at HE
  refine PCalls.enter Try.func14 rfl Try.ntmps14 (by simp) ?_
  simp only [argsF]
  refine go_ ?_
  refine Rd 0 0 (H0.out) ?_
  rintro _ _ ⟨i0, rfl, rfl⟩
  refine Qq ?_
  refine Qh ?_
  refine Qj ?_
  refine go_ ?_
  refine Rd 0 1 (HE.out i0) ?_
  rintro _ _ ⟨rfl, rfl⟩
  refine go_ ?_
  refine Rd 0 1 (HD.out i0) ?_
  rintro _ _ ⟨rfl, rfl⟩
  by_cases hz : σ2.bad = 0
  · rw [if_pos hz]
    unfold prS
    refine go_ ?_
    refine retP_ok (by simp) (by simp only [Try.results14]; rfl) (by simp [resP, St.box?, PF.get, loadB, TyK.agg, *]; rfl) (List.nil_sublist _) ?_
    exact ⟨rfl, rfl⟩
  · rw [if_neg hz]
    unfold prS
    refine go_ ?_
    refine PW_drawn [(0, .a), (1, .a), (2, .a), (3, .b), (4, .a), (5, .a), (6, .a), (7, .b), (8, .a), (9, .a), (10, .a)] (by kernel_rfl) (by rfl) (by kernel_rfl) ?_
    refine go_ ?_
    refine retP_ok (by simp) (by simp only [Try.results14]; rfl) (by simp [resP, St.box?, PF.get, loadB, TyK.agg, *]; rfl) (List.nil_sublist _) ?_
    exact ⟨rfl, rfl⟩
set_option maxHeartbeats 4000000 in
theorem file_p (s : ByteArray) : PCalls Try.prog 15 [.d (.v (.string s))] [] fun p st => p = .tup [.d (slD (fileA s).1), .d (.v (.int .i64 (fileA s).2.1)), .d (.v (.int .i64 (fileA s).2.2))] ∧ st = [] := by
  have hl := startOk s
  have hw0 := startW s
  have H0 := Lib.hid (start_p s)
  have HA := Lib.hid (show fileA s = if (fileS (startL s) ((startL s).length + 1) [] (startS s)).2.bad = 0 then ((fileS (startL s) ((startL s).length + 1) [] (startS s)).1, (s.size : Int), 0) else ([], (fileS (startL s) ((startL s).length + 1) [] (startS s)).2.at_, (fileS (startL s) ((startL s).length + 1) [] (startS s)).2.bad) from rfl)
  generalize startS s = σ at *
  generalize startL s = l at *
  have HG : ∃ r, r = fileS l (l.length + 1) [] σ := ⟨_, rfl⟩
  obtain ⟨r, hr⟩ := HG
  have HR := Lib.hid hr.symm
  rw [← hr] at HA
  clear hr
  rw [HA.out]
  clear HA
  have HW := Lib.hid hw0
  clear hw0
  unfold slD
  refine PCalls.enter Try.func15 rfl Try.ntmps15 (by simp) ?_
  simp only [argsF]
  refine go_ ?_
  refine Rd 0 0 (H0.out) ?_
  rintro _ _ ⟨i0, rfl, rfl⟩
  refine Qq ?_
  refine Qh ?_
  refine Qj ?_
  refine go_ ?_
  refine PW_own 6 43 11 (by decide) (by simp [PF.get] <;> rfl) fun g hg => ?_
  refine PW_loop (ι := Nat × List Dc × ST) (fun y => Wf l y.2.2 ∧ 0 < y.1 ∧ (y.2.2.bad = 0 → l.length - y.2.2.i + 1 ≤ y.1) ∧ fileS l y.1 y.2.1 y.2.2 = r ∧ y.2.1.length + y.1 ≤ l.length + 1) (fun y => [(0, .d (.v (.string s))), (5, .ptr i0 0), (6, .own g (y.2.1.map encD))])
    (fun y => .tok g 43 11 y.2.1.length :: prS i0 l y.2.2) (fun y => y.1) (l.length + 1, [], σ) ⟨HW.out, Nat.succ_pos _, fun _ => by simp only; omega, HR.out, by simp⟩ ?_ ?_ ?_
  · repeat (first | exact sub_nil _ | refine sub_cons (by simp [PF.get]; rfl) (by first | rfl | (simp [*]; done) | fail) ?_)
  · repeat (first | exact List.Sublist.refl _ | exact List.nil_sublist _ | refine List.Sublist.cons_cons _ ?_ | refine List.Sublist.cons _ ?_)
  · rintro ⟨m, acc, τ⟩ ⟨hw, hm0, hm, hr, hacc⟩
    simp only at hw hm0 hm hr hacc ⊢
    obtain ⟨m, rfl⟩ : ∃ k, m = k + 1 := ⟨m - 1, by omega⟩
    have b3 : τ.i ≤ 150000 := Nat.le_trans (hw.le hl) (by decide)
    have b4 := hl.len
    have B1 := Lib.hid (tok0_p i0 l τ hl.len hl.pos b3)
    simp only [fileS] at hr
    by_cases hz : τ.bad = 0
    · by_cases hk : (tkg l τ.i).kind = 5
      · rw [if_neg (fun h => h.2 hk)] at hr
        have HR2 := Lib.hid hr
        clear hr hm
        have hk5 := hk
        rw [← HR2.out]
        simp only
        rw [if_pos hz]
        generalize tkg l τ.i = t at *
        unfold prS
        refine go_ ?_
        refine Rd 1 1 (B1.out) ?_
        rintro _ _ ⟨rfl, rfl⟩
        unfold prS
        refine go_ ?_
        refine retP_ok (by simp) (by simp only [Try.results15]; rfl) (by simp [resP, St.box?, PF.get, loadB, TyK.agg, *]; rfl) (List.nil_sublist _) ?_
        exact ⟨rfl, rfl⟩
      · rw [if_pos ⟨hz, hk⟩] at hr
        have hA := decl_adv hl hw
        have c2 := decl_p' hl i0 τ hw
        have HA := Lib.hid hA
        have HM := Lib.hid hm
        have HR2 := Lib.hid hr
        clear hr hm hA
        generalize (declS l τ).1 = X at *
        generalize (declS l τ).2 = τ2 at *
        simp only [aggD, encD_dc, List.map_cons, List.map_nil] at c2
        have C2 := Lib.hid c2
        clear c2
        unfold prS
        refine go_ ?_
        refine Rd 1 1 (B1.out) ?_
        rintro _ _ ⟨rfl, rfl⟩
        refine go_ ?_
        refine Rd 1 1 (C2.out) ?_
        rintro _ _ ⟨rfl, rfl⟩
        refine go_ ?_
        refine POps_bs_a ?_
        refine POps_app_a (acc.length + 1) ?_ ?_ ?_ ?_
        · simp
        · exact rows_map fun _ => encD_len _
        · exact rows_one rfl
        refine go_ ?_
        refine ⟨(m, acc ++ [X], τ2), ⟨HA.out.1, ?_, fun hb => ?_, HR2.out, by simp only [List.length_append, List.length_cons, List.length_nil]; omega⟩, by simp only; omega, ?_, ?_⟩
        · have h1 := HM.out hz
          have h2 := hw
          unfold Wf at h2
          simp only
          omega
        · have h1 := HM.out hz
          have h2 := (HA.out.2 hb).2
          have h3 := HA.out.1
          unfold Wf at h3
          simp only
          omega
        · refine sub_cons (by simp [PF.get] <;> rfl) rfl ?_
          refine sub_cons (by simp [PF.get] <;> rfl) rfl ?_
          refine sub_cons (by simp [PF.get] <;> rfl) (by simp only [List.map_append, List.map_cons, List.map_nil, encD_dc X]) ?_
          repeat (first | exact sub_nil _ | refine sub_cons (by simp [PF.get]; rfl) (by first | rfl | (simp [*]; done) | fail) ?_)
        · simp only [List.length_append, List.length_cons, List.length_nil, Nat.zero_add]
          repeat (first | exact List.Sublist.refl _ | exact List.nil_sublist _ | refine List.Sublist.cons_cons _ ?_ | refine List.Sublist.cons _ ?_)
    · rw [if_neg (fun h => hz h.1)] at hr
      have HR2 := Lib.hid hr
      clear hr hm
      rw [← HR2.out]
      simp only
      rw [if_neg hz]
      unfold prS
      refine go_ ?_
      refine PW_drawn [(0, .a), (1, .a), (2, .a), (3, .b), (4, .a), (5, .a), (6, .a), (7, .b), (8, .a), (9, .a), (10, .a)] (by kernel_rfl) (by rfl) (by kernel_rfl) ?_
      refine go_ ?_
      refine retP_ok (by simp) (by simp only [Try.results15]; rfl) (by simp [resP, St.box?, PF.get, loadB, TyK.agg, *]; rfl) (List.nil_sublist _) ?_
      exact ⟨rfl, rfl⟩
end Go.Proofs.Ytahhgpafjiljfaa

namespace Go.Proofs.Ytahhgpafjiljfaa
open Go.RowKit
set_option maxRecDepth 100000
def aw5T : ByteArray := ⟨(List.append [100, 97, 116, 97, 32, 78, 32, 58, 32, 83, 101, 116, 32, 123, 32, 122, 32, 58, 32, 78, 59, 32, 115, 32, 58, 32, 78, 32, 45, 62, 32, 78, 59, 32, 125, 32] [100, 101, 102, 32, 112, 32, 58, 32, 78, 32, 45, 62, 32, 78, 32, 123, 32, 122, 32, 61, 32, 122, 59, 32, 40, 115, 32, 110, 41, 32, 61, 32, 110, 59, 32, 125]).toArray⟩
def aw5B (x : List Dc × Int × Int) : Bool :=
  x.2.2 == 0 && (match x.1 with
  | [d0, d1] => d0.cons.length == 2 && (match d1.rows with
    | [_, r1] => (match r1.pats with
      | [p0] => p0.kind == 8
      | _ => false)
    | _ => false)
  | _ => false)
theorem aw5B_ok : aw5B (fileA aw5T) = true := by decide +kernel
theorem aw5_get {x : List Dc × Int × Int} (h : aw5B x = true) : x.2.2 = 0 ∧ ∃ d0 d1 r0 r1 p0, x.1 = [d0, d1] ∧ d0.cons.length = 2 ∧ d1.rows = [r0, r1] ∧ r1.pats = [p0] ∧ p0.kind = 8 := by
  unfold aw5B at h
  rw [Bool.and_eq_true] at h
  obtain ⟨h1, h2⟩ := h
  split at h2
  · rename_i d0 d1 e1
    rw [Bool.and_eq_true] at h2
    obtain ⟨h2, h3⟩ := h2
    split at h3
    · rename_i r0 r1 e2
      split at h3
      · rename_i p0 e3
        exact ⟨by simpa using h1, d0, d1, r0, r1, p0, e1, by simpa using h2, e2, e3, by simpa using h3⟩
      · cases h3
    · cases h3
  · cases h2
set_option maxHeartbeats 4000000 in
theorem awake5_p : PCalls Try.prog 16 [] [] fun p st => p = .d (.v (.bool true)) ∧ st = [] := by
  have h0 := file_p aw5T
  obtain ⟨h1, d0, d1, r0, r1, p0, e1, e2, e3, e4, e5⟩ := aw5_get aw5B_ok
  rw [e1, h1] at h0
  generalize (fileA aw5T).2.1 = z at h0
  obtain ⟨k0, a0, n0, t0, ty0, cs0, rw0⟩ := d0
  obtain ⟨k1, a1, n1, t1, ty1, cs1, rw1⟩ := d1
  obtain ⟨ra, ps, hs, bd⟩ := r1
  simp only at e2 e3 e4
  subst e3 e4
  obtain ⟨pk, pa, pn, pm, psb⟩ := p0
  simp only [Nd.kind] at e5
  subst e5
  match cs0, e2 with
  | [c0, c1], _ =>
  simp only [aggD, slD, encD_dc, encD_rw, encD_nd, Nd.kind, Nd.at, Nd.name, Nd.num, Nd.sub, List.map_cons, List.map_nil] at h0
  have H0 := Lib.hid h0
  clear h0 e1 h1 e2
  unfold aw5T at H0
  refine PCalls.enter Try.func16 rfl Try.ntmps16 (by simp) ?_
  simp only [argsF]
  refine go_ ?_
  refine POps_call_a (H0.out) ?_
  refine go_ ?_
  refine retP_ok (by simp) (by simp only [Try.results16]; rfl) (by simp [resP, St.box?, PF.get, loadB, TyK.agg, *]; rfl) (List.nil_sublist _) ?_
  exact ⟨rfl, rfl⟩
end Go.Proofs.Ytahhgpafjiljfaa
