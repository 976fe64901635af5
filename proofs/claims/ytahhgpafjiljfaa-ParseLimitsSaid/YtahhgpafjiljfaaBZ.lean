import Derived.Test.YtahhgpafjiljfaaBY
import Derived.Test.YtahhgpafjiljfaaBNd
import Derived.Test.YtahhgpafjiljfaaBA1
set_option linter.unusedSimpArgs false
set_option linter.unusedVariables false
namespace Go.Proofs.Ytahhgpafjiljfaa
open Go.RowKit
set_option maxRecDepth 100000
/-- where a reader of tokens stands: the place, the error's offset, the error -/
structure ST where
  i : Nat
  at_ : Int
  bad : Int
def noTk : Tk := ⟨5, ⟨#[]⟩, 0⟩
/-- the token at a place; behind all the last one -/
def tkg (l : List Tk) (j : Nat) : Tk := (l[j]?).getD ((l[l.length - 1]?).getD noTk)
def failS (e a : Int) (σ : ST) : ST := if σ.bad = 0 then ⟨σ.i, a, e⟩ else σ
def markB' (t : Tk) (s : ByteArray) : Bool := (t.kind == 4 || t.kind == 2) && t.text.toList == s.toList
def isS (l : List Tk) (σ : ST) (k : Nat) (s : ByteArray) : Bool := markB' (tkg l (σ.i + k)) s
def incS (σ : ST) : ST := ⟨σ.i + 1, σ.at_, σ.bad⟩
def wantS (l : List Tk) (s : ByteArray) (σ : ST) : ST :=
  let τ := if isS l σ 0 s then σ else failS 1 (tkg l σ.i).at_ σ
  if τ.bad = 0 then incS τ else τ
def namedK (t : Tk) : Bool := t.kind == 1 && !(t.text.toList == [95])
def namedS (l : List Tk) (σ : ST) (k : Nat) : Bool := namedK (tkg l (σ.i + k))
def nameS (l : List Tk) (σ : ST) : ByteArray × ST :=
  let τ := if namedS l σ 0 then σ else failS 1 (tkg l σ.i).at_ σ
  if τ.bad = 0 then ((tkg l τ.i).text, incS τ) else (⟨#[]⟩, τ)
def variableS (l : List Tk) (σ : ST) : ByteArray × ST :=
  if (tkg l σ.i).kind == 1 && σ.bad == 0 then ((tkg l σ.i).text, incS σ) else nameS l σ
def sPar : ByteArray := ⟨#[40]⟩
def sRap : ByteArray := ⟨#[41]⟩
def sCol : ByteArray := ⟨#[58]⟩
def sArr : ByteArray := ⟨#[45, 62]⟩
def sLam : ByteArray := ⟨#[92]⟩
def sSet : ByteArray := ⟨#[83, 101, 116]⟩
def sDot : ByteArray := ⟨#[46]⟩
def sEq : ByteArray := ⟨#[61]⟩
def sSem : ByteArray := ⟨#[59]⟩
def sBra : ByteArray := ⟨#[123]⟩
def sKet : ByteArray := ⟨#[125]⟩
def sData : ByteArray := ⟨#[100, 97, 116, 97]⟩
def sRec : ByteArray := ⟨#[114, 101, 99, 111, 114, 100]⟩
def sDef : ByteArray := ⟨#[100, 101, 102]⟩
def sAny : ByteArray := ⟨#[95]⟩
def binderS (l : List Tk) (σ : ST) : Bool := isS l σ 0 sPar && (tkg l (σ.i + 1)).kind == 1 && isS l σ 2 sCol
def setS (l : List Tk) (σ : ST) : Nd × ST :=
  let τ := incS σ
  let t := tkg l τ.i
  if t.kind == 3 then
    (.mk 2 (tkg l σ.i).at_ ⟨#[]⟩ (numT t.text) [], incS (if 7 < numT t.text then failS 1 t.at_ τ else τ))
  else (.mk 2 (tkg l σ.i).at_ ⟨#[]⟩ 0 [], τ)
def beginsS (l : List Tk) (σ : ST) : Bool := namedS l σ 0 || isS l σ 0 sSet || (isS l σ 0 sPar && !binderS l σ)
def zNd : Nd := .mk 0 0 ⟨#[]⟩ 0 []
mutual
def typedS (l : List Tk) : Nat → Int → Int → ST → Nd × ST
  | 0, _, _, σ => (zNd, σ)
  | n + 1, kind, at_, σ =>
    let x := variableS l (wantS l sPar σ)
    let a := termS l n (wantS l sCol x.2)
    let b := termS l n (wantS l sArr (wantS l sRap a.2))
    (.mk kind at_ x.1 0 [a.1, b.1], b.2)
def termS (l : List Tk) : Nat → ST → Nd × ST
  | 0, σ => (zNd, σ)
  | n + 1, σ =>
    if σ.bad ≠ 0 then (zNd, σ)
    else if isS l σ 0 sLam then typedS l n 4 (tkg l σ.i).at_ (incS σ)
    else if binderS l σ then typedS l n 3 (tkg l σ.i).at_ σ
    else
      let g := appS l n σ
      if g.2.bad = 0 ∧ isS l g.2 0 sArr then
        let x := termS l n (incS g.2)
        (.mk 3 g.1.at ⟨#[95]⟩ 0 [g.1, x.1], x.2)
      else g
def atomS (l : List Tk) : Nat → ST → Nd × ST
  | 0, σ => (zNd, σ)
  | n + 1, σ =>
    if σ.bad ≠ 0 then (zNd, σ)
    else if isS l σ 0 sSet then setS l σ
    else if isS l σ 0 sPar then
      let x := termS l n (incS σ)
      (x.1, wantS l sRap x.2)
    else (.mk 1 (tkg l σ.i).at_ (nameS l σ).1 0 [], (nameS l σ).2)
def appS (l : List Tk) : Nat → ST → Nd × ST
  | 0, σ => (zNd, σ)
  | n + 1, σ =>
    let g := atomS l n σ
    appL l n g.1 g.2
def appL (l : List Tk) : Nat → Nd → ST → Nd × ST
  | 0, g, σ => (g, σ)
  | n + 1, g, σ =>
    if σ.bad = 0 ∧ beginsS l σ then
      let x := atomS l n σ
      appL l n (.mk 5 g.at ⟨#[]⟩ 0 [g, x.1]) x.2
    else (g, σ)
end
/-- the tokens end with the end; texts and numbers are not too great -/
structure TkOk (l : List Tk) : Prop where
  len : l.length ≤ 100000
  pos : 0 < l.length
  last : (tkg l (l.length - 1)).kind = 5
/-- the reader stands at a token -/
def Wf (l : List Tk) (σ : ST) : Prop := σ.i < l.length
/-- how many tokens are left, where there is no error -/
def muS (l : List Tk) (σ : ST) : Nat := if σ.bad = 0 then l.length - σ.i else 0
end Go.Proofs.Ytahhgpafjiljfaa

namespace Go.Proofs.Ytahhgpafjiljfaa
open Go.RowKit
set_option maxRecDepth 100000
/-- a reader's variable -/
def prS (i0 : Nat) (l : List Tk) (σ : ST) : St := [.box i0 61 [.d (.sl (l.map encD)), .d (.v (.int .i64 σ.i)), .d (.v (.int .i64 σ.at_)), .d (.v (.int .i64 σ.bad))]]
theorem tkg_lt {l : List Tk} {j : Nat} (h : j < l.length) : tkg l j = l[j] := by unfold tkg; rw [List.getElem?_eq_getElem h]; rfl
theorem tkg_ge {l : List Tk} {j : Nat} (h : l.length ≤ j) (h0 : 0 < l.length) : tkg l j = l[l.length - 1]'(by omega) := by
  unfold tkg
  rw [List.getElem?_eq_none h, List.getElem?_eq_getElem (by omega)]; rfl
set_option maxHeartbeats 2000000 in
theorem tok_p (i0 : Nat) (l : List Tk) (σ : ST) (kk : Int) (j : Nat) (hj : (σ.i : Int) + kk = j) (hl : l.length ≤ 100000) (h0 : 0 < l.length) (hi : σ.i ≤ 200000) (hk1 : -5 ≤ kk) (hk2 : kk ≤ 5) : PCalls Try.prog 28 [.ptr i0 0, .d (.v (.int .i64 kk))] (prS i0 l σ) fun p s => p = aggD (tkg l j) ∧ s = prS i0 l σ := by
  have hw : IntKind.i64.wrap ((σ.i : Int) + kk) = (j : Int) := by rw [IntWalk.i64_in _ (by omega)]; exact hj
  clear hj hk1 hk2
  unfold prS
  obtain ⟨i, at_, bad⟩ := σ
  simp only at *
  refine PCalls.enter Try.func28 rfl Try.ntmps28 (by simp) ?_
  simp only [argsF]
  repeat (first | (with_reducible first | refine Qa ?_ | refine Qb ?_ | refine Qc ?_ | refine Qd ?_ | refine Qe ?_ | refine Qf ?_ | refine Qg ?_ | refine Qh ?_ | refine Qi ?_ | refine Qj ?_ | refine Qk ?_ | refine Ql ?_ | refine Qm ?_ | refine Qn ?_ | refine Qo ?_ | refine Qp rfl ?_) | (first | refine Qq ?_ | refine Qr ?_) | (first | refine Qs ?_ | refine Qt ?_ | refine Qu ?_) | (first | refine Qv ?_ | refine Qw ?_) | (first | refine Qx ?_ | refine Qy ?_) | (first | refine Qz ?_ | refine Ra ?_ | refine Rb ?_))
  refine POps_alloc_a ?_
  intro i1 hi1
  simp only [St.freshB_box, St.freshB_nil] at hi1
  repeat (first | (with_reducible first | refine Qa ?_ | refine Qb ?_ | refine Qc ?_ | refine Qd ?_ | refine Qe ?_ | refine Qf ?_ | refine Qg ?_ | refine Qh ?_ | refine Qi ?_ | refine Qj ?_ | refine Qk ?_ | refine Ql ?_ | refine Qm ?_ | refine Qn ?_ | refine Qo ?_ | refine Qp rfl ?_) | (first | refine Qq ?_ | refine Qr ?_) | (first | refine Qs ?_ | refine Qt ?_ | refine Qu ?_) | (first | refine Qv ?_ | refine Qw ?_) | (first | refine Qx ?_ | refine Qy ?_) | (first | refine Qz ?_ | refine Ra ?_ | refine Rb ?_))
  refine PW_drawn [(0, .a), (1, .a), (2, .a), (3, .b), (4, .a), (5, .a), (6, .a), (7, .a), (8, .a), (9, .b), (10, .a), (11, .a)] (by kernel_rfl) (by rfl) (by kernel_rfl) ?_
  repeat (first | (with_reducible first | refine Qa ?_ | refine Qb ?_ | refine Qc ?_ | refine Qd ?_ | refine Qe ?_ | refine Qf ?_ | refine Qg ?_ | refine Qh ?_ | refine Qi ?_ | refine Qj ?_ | refine Qk ?_ | refine Ql ?_ | refine Qm ?_ | refine Qn ?_ | refine Qo ?_ | refine Qp rfl ?_) | (first | refine Qq ?_ | refine Qr ?_) | (first | refine Qs ?_ | refine Qt ?_ | refine Qu ?_) | (first | refine Qv ?_ | refine Qw ?_) | (first | refine Qx ?_ | refine Qy ?_) | (first | refine Qz ?_ | refine Ra ?_ | refine Rb ?_))
  by_cases h : j < l.length
  · have hc : ¬ ((l.length : Int) ≤ (j : Int)) := by omega
    have hc' : ¬ (l.length ≤ j) := by omega
    have hn : (0 : Int) ≤ (j : Int) := by omega
    have hx := get_enc h
    have he := encD_tk l[j]
    have HT := Lib.hid (tkg_lt h)
    repeat (first | (with_reducible first | refine Qa ?_ | refine Qb ?_ | refine Qc ?_ | refine Qd ?_ | refine Qe ?_ | refine Qf ?_ | refine Qg ?_ | refine Qh ?_ | refine Qi ?_ | refine Qj ?_ | refine Qk ?_ | refine Ql ?_ | refine Qm ?_ | refine Qn ?_ | refine Qo ?_ | refine Qp rfl ?_) | (first | refine Qq ?_ | refine Qr ?_) | (first | refine Qs ?_ | refine Qt ?_ | refine Qu ?_) | (first | refine Qv ?_ | refine Qw ?_) | (first | refine Qx ?_ | refine Qy ?_) | (first | refine Qz ?_ | refine Ra ?_ | refine Rb ?_))
    refine PW_drawn [(0, .a), (1, .a), (2, .a), (3, .b), (4, .a), (5, .a), (6, .a), (7, .b), (8, .a), (9, .a), (10, .a), (11, .a), (12, .e)] (by kernel_rfl) (by rfl) (by kernel_rfl) ?_
    repeat (first | (with_reducible first | refine Qa ?_ | refine Qb ?_ | refine Qc ?_ | refine Qd ?_ | refine Qe ?_ | refine Qf ?_ | refine Qg ?_ | refine Qh ?_ | refine Qi ?_ | refine Qj ?_ | refine Qk ?_ | refine Ql ?_ | refine Qm ?_ | refine Qn ?_ | refine Qo ?_ | refine Qp rfl ?_) | (first | refine Qq ?_ | refine Qr ?_) | (first | refine Qs ?_ | refine Qt ?_ | refine Qu ?_) | (first | refine Qv ?_ | refine Qw ?_) | (first | refine Qx ?_ | refine Qy ?_) | (first | refine Qz ?_ | refine Ra ?_ | refine Rb ?_))
    refine POrd_store_a ?_
    repeat (first | (with_reducible first | refine Qa ?_ | refine Qb ?_ | refine Qc ?_ | refine Qd ?_ | refine Qe ?_ | refine Qf ?_ | refine Qg ?_ | refine Qh ?_ | refine Qi ?_ | refine Qj ?_ | refine Qk ?_ | refine Ql ?_ | refine Qm ?_ | refine Qn ?_ | refine Qo ?_ | refine Qp rfl ?_) | (first | refine Qq ?_ | refine Qr ?_) | (first | refine Qs ?_ | refine Qt ?_ | refine Qu ?_) | (first | refine Qv ?_ | refine Qw ?_) | (first | refine Qx ?_ | refine Qy ?_) | (first | refine Qz ?_ | refine Ra ?_ | refine Rb ?_))
    refine retP_ok (st' := [.box i0 61 [.d (.sl (l.map encD)), .d (.v (.int .i64 i)), .d (.v (.int .i64 at_)), .d (.v (.int .i64 bad))]]) (by simp) (by simp only [Try.results28]; rfl) (by simp [resP, St.box?, PF.get, loadB, TyK.agg, *]; rfl) (by repeat (first | exact List.Sublist.refl _ | exact List.nil_sublist _ | refine List.Sublist.cons_cons _ ?_ | refine List.Sublist.cons _ ?_)) ?_
    exact ⟨by rw [HT.out]; rfl, rfl⟩
  · have hc : (l.length : Int) ≤ (j : Int) := by omega
    have hc' : l.length ≤ j := by omega
    have hm : l.length - 1 < l.length := by omega
    have hw2 : IntKind.i64.wrap ((l.length : Int) - 1) = ((l.length - 1 : Nat) : Int) := by rw [IntWalk.i64_in _ (by omega)]; omega
    have HT := Lib.hid (tkg_ge hc' h0)
    obtain ⟨m, hme⟩ : ∃ m, m = l.length - 1 := ⟨_, rfl⟩
    rw [← hme] at hw2
    have hm' : m < l.length := by omega
    have hx := get_enc hm'
    have he := encD_tk l[m]
    have hn : (0 : Int) ≤ (m : Int) := by omega
    have HE := Lib.hid (show tkg l j = l[m] by rw [HT.out]; congr 1; exact hme.symm)
    clear HT hme hm
    repeat (first | (with_reducible first | refine Qa ?_ | refine Qb ?_ | refine Qc ?_ | refine Qd ?_ | refine Qe ?_ | refine Qf ?_ | refine Qg ?_ | refine Qh ?_ | refine Qi ?_ | refine Qj ?_ | refine Qk ?_ | refine Ql ?_ | refine Qm ?_ | refine Qn ?_ | refine Qo ?_ | refine Qp rfl ?_) | (first | refine Qq ?_ | refine Qr ?_) | (first | refine Qs ?_ | refine Qt ?_ | refine Qu ?_) | (first | refine Qv ?_ | refine Qw ?_) | (first | refine Qx ?_ | refine Qy ?_) | (first | refine Qz ?_ | refine Ra ?_ | refine Rb ?_))
    refine PW_drawn [(0, .a), (1, .a), (2, .a), (3, .b), (4, .a), (5, .a), (6, .a), (7, .b), (8, .a), (9, .a), (10, .a), (11, .a), (12, .e)] (by kernel_rfl) (by rfl) (by kernel_rfl) ?_
    repeat (first | (with_reducible first | refine Qa ?_ | refine Qb ?_ | refine Qc ?_ | refine Qd ?_ | refine Qe ?_ | refine Qf ?_ | refine Qg ?_ | refine Qh ?_ | refine Qi ?_ | refine Qj ?_ | refine Qk ?_ | refine Ql ?_ | refine Qm ?_ | refine Qn ?_ | refine Qo ?_ | refine Qp rfl ?_) | (first | refine Qq ?_ | refine Qr ?_) | (first | refine Qs ?_ | refine Qt ?_ | refine Qu ?_) | (first | refine Qv ?_ | refine Qw ?_) | (first | refine Qx ?_ | refine Qy ?_) | (first | refine Qz ?_ | refine Ra ?_ | refine Rb ?_))
    refine POrd_store_a ?_
    repeat (first | (with_reducible first | refine Qa ?_ | refine Qb ?_ | refine Qc ?_ | refine Qd ?_ | refine Qe ?_ | refine Qf ?_ | refine Qg ?_ | refine Qh ?_ | refine Qi ?_ | refine Qj ?_ | refine Qk ?_ | refine Ql ?_ | refine Qm ?_ | refine Qn ?_ | refine Qo ?_ | refine Qp rfl ?_) | (first | refine Qq ?_ | refine Qr ?_) | (first | refine Qs ?_ | refine Qt ?_ | refine Qu ?_) | (first | refine Qv ?_ | refine Qw ?_) | (first | refine Qx ?_ | refine Qy ?_) | (first | refine Qz ?_ | refine Ra ?_ | refine Rb ?_))
    refine retP_ok (st' := [.box i0 61 [.d (.sl (l.map encD)), .d (.v (.int .i64 i)), .d (.v (.int .i64 at_)), .d (.v (.int .i64 bad))]]) (by simp) (by simp only [Try.results28]; rfl) (by simp [resP, St.box?, PF.get, loadB, TyK.agg, *]; rfl) (by repeat (first | exact List.Sublist.refl _ | exact List.nil_sublist _ | refine List.Sublist.cons_cons _ ?_ | refine List.Sublist.cons _ ?_)) ?_
    exact ⟨by rw [HE.out]; rfl, rfl⟩
theorem fail_p (i0 : Nat) (l : List Tk) (σ : ST) (e a : Int) : PCalls Try.prog 46 [.ptr i0 0, .d (.v (.int .i64 e)), .d (.v (.int .i64 a))] (prS i0 l σ) fun p s => p = .tup [] ∧ s = prS i0 l (failS e a σ) := by
  unfold prS
  obtain ⟨i, at_, bad⟩ := σ
  by_cases h : bad = 0
  · subst h
    refine PCalls.enter Try.func46 rfl Try.ntmps46 (by simp) ?_
    simp only [argsF]
    repeat (first | (with_reducible first | refine Qa ?_ | refine Qb ?_ | refine Qc ?_ | refine Qd ?_ | refine Qe ?_ | refine Qf ?_ | refine Qg ?_ | refine Qh ?_ | refine Qi ?_ | refine Qj ?_ | refine Qk ?_ | refine Ql ?_ | refine Qm ?_ | refine Qn ?_ | refine Qo ?_ | refine Qp rfl ?_) | (first | refine Qq ?_ | refine Qr ?_) | (first | refine Qs ?_ | refine Qt ?_ | refine Qu ?_) | (first | refine Qv ?_ | refine Qw ?_) | (first | refine Qx ?_ | refine Qy ?_) | (first | refine Qz ?_ | refine Ra ?_ | refine Rb ?_))
    refine Rc ?_
    repeat (first | (with_reducible first | refine Qa ?_ | refine Qb ?_ | refine Qc ?_ | refine Qd ?_ | refine Qe ?_ | refine Qf ?_ | refine Qg ?_ | refine Qh ?_ | refine Qi ?_ | refine Qj ?_ | refine Qk ?_ | refine Ql ?_ | refine Qm ?_ | refine Qn ?_ | refine Qo ?_ | refine Qp rfl ?_) | (first | refine Qq ?_ | refine Qr ?_) | (first | refine Qs ?_ | refine Qt ?_ | refine Qu ?_) | (first | refine Qv ?_ | refine Qw ?_) | (first | refine Qx ?_ | refine Qy ?_) | (first | refine Qz ?_ | refine Ra ?_ | refine Rb ?_))
    refine Rc ?_
    repeat (first | (with_reducible first | refine Qa ?_ | refine Qb ?_ | refine Qc ?_ | refine Qd ?_ | refine Qe ?_ | refine Qf ?_ | refine Qg ?_ | refine Qh ?_ | refine Qi ?_ | refine Qj ?_ | refine Qk ?_ | refine Ql ?_ | refine Qm ?_ | refine Qn ?_ | refine Qo ?_ | refine Qp rfl ?_) | (first | refine Qq ?_ | refine Qr ?_) | (first | refine Qs ?_ | refine Qt ?_ | refine Qu ?_) | (first | refine Qv ?_ | refine Qw ?_) | (first | refine Qx ?_ | refine Qy ?_) | (first | refine Qz ?_ | refine Ra ?_ | refine Rb ?_))
    refine retP_ok (st' := prS i0 l ⟨i, a, e⟩) (by simp) (by simp only [Try.results46]; rfl) (by simp [resP]; rfl) (by repeat (first | exact List.Sublist.refl _ | exact List.nil_sublist _ | refine List.Sublist.cons_cons _ ?_ | refine List.Sublist.cons _ ?_)) ⟨rfl, rfl⟩
  · have HF := Lib.hid (show failS e a ⟨i, at_, bad⟩ = ⟨i, at_, bad⟩ by unfold failS; rw [if_neg h])
    rw [HF.out]
    clear HF
    refine PCalls.enter Try.func46 rfl Try.ntmps46 (by simp) ?_
    simp only [argsF]
    repeat (first | (with_reducible first | refine Qa ?_ | refine Qb ?_ | refine Qc ?_ | refine Qd ?_ | refine Qe ?_ | refine Qf ?_ | refine Qg ?_ | refine Qh ?_ | refine Qi ?_ | refine Qj ?_ | refine Qk ?_ | refine Ql ?_ | refine Qm ?_ | refine Qn ?_ | refine Qo ?_ | refine Qp rfl ?_) | (first | refine Qq ?_ | refine Qr ?_) | (first | refine Qs ?_ | refine Qt ?_ | refine Qu ?_) | (first | refine Qv ?_ | refine Qw ?_) | (first | refine Qx ?_ | refine Qy ?_) | (first | refine Qz ?_ | refine Ra ?_ | refine Rb ?_))
    refine retP_ok (st' := prS i0 l ⟨i, at_, bad⟩) (by simp) (by simp only [Try.results46]; rfl) (by simp [resP]; rfl) (by repeat (first | exact List.Sublist.refl _ | exact List.nil_sublist _ | refine List.Sublist.cons_cons _ ?_ | refine List.Sublist.cons _ ?_)) ⟨rfl, rfl⟩
theorem is_p (i0 : Nat) (l : List Tk) (σ : ST) (kk : Int) (k : Nat) (hkk : kk = k) (s : ByteArray) (hl : l.length ≤ 100000) (h0 : 0 < l.length) (hi : σ.i ≤ 200000) (hk : k ≤ 5) : PCalls Try.prog 81 [.ptr i0 0, .d (.v (.int .i64 kk)), .d (.v (.string s))] (prS i0 l σ) fun p st => p = .d (.v (.bool (isS l σ k s))) ∧ st = prS i0 l σ := by
  have H0 := Lib.hid (tok_p i0 l σ kk (σ.i + k) (by omega) hl h0 hi (by omega) (by omega))
  have HB := Lib.hid (show isS l σ k s = markB' (tkg l (σ.i + k)) s from rfl)
  clear hkk
  generalize tkg l (σ.i + k) = t at *
  have HM := Lib.hid (show markB' t s = ((t.kind == 4 || t.kind == 2) && t.text.toList == s.toList) from rfl)
  simp only [aggD, encD_tk, List.map_cons, List.map_nil] at H0
  refine PCalls.enter Try.func81 rfl Try.ntmps81 (by simp) ?_
  simp only [argsF]
  repeat (first | (with_reducible first | refine Qa ?_ | refine Qb ?_ | refine Qc ?_ | refine Qd ?_ | refine Qe ?_ | refine Qf ?_ | refine Qg ?_ | refine Qh ?_ | refine Qi ?_ | refine Qj ?_ | refine Qk ?_ | refine Ql ?_ | refine Qm ?_ | refine Qn ?_ | refine Qo ?_ | refine Qp rfl ?_) | (first | refine Qq ?_ | refine Qr ?_) | (first | refine Qs ?_ | refine Qt ?_ | refine Qu ?_) | (first | refine Qv ?_ | refine Qw ?_) | (first | refine Qx ?_ | refine Qy ?_) | (first | refine Qz ?_ | refine Ra ?_ | refine Rb ?_))
  refine Re (H0.out) ?_
  rintro _ _ ⟨rfl, rfl⟩
  repeat (first | (with_reducible first | refine Qa ?_ | refine Qb ?_ | refine Qc ?_ | refine Qd ?_ | refine Qe ?_ | refine Qf ?_ | refine Qg ?_ | refine Qh ?_ | refine Qi ?_ | refine Qj ?_ | refine Qk ?_ | refine Ql ?_ | refine Qm ?_ | refine Qn ?_ | refine Qo ?_ | refine Qp rfl ?_) | (first | refine Qq ?_ | refine Qr ?_) | (first | refine Qs ?_ | refine Qt ?_ | refine Qu ?_) | (first | refine Qv ?_ | refine Qw ?_) | (first | refine Qx ?_ | refine Qy ?_) | (first | refine Qz ?_ | refine Ra ?_ | refine Rb ?_))
  refine POps_alloc_a ?_
  intro i1 hi1
  simp only [prS, St.freshB_box, St.freshB_nil] at hi1
  repeat (first | (with_reducible first | refine Qa ?_ | refine Qb ?_ | refine Qc ?_ | refine Qd ?_ | refine Qe ?_ | refine Qf ?_ | refine Qg ?_ | refine Qh ?_ | refine Qi ?_ | refine Qj ?_ | refine Qk ?_ | refine Ql ?_ | refine Qm ?_ | refine Qn ?_ | refine Qo ?_ | refine Qp rfl ?_) | (first | refine Qq ?_ | refine Qr ?_) | (first | refine Qs ?_ | refine Qt ?_ | refine Qu ?_) | (first | refine Qv ?_ | refine Qw ?_) | (first | refine Qx ?_ | refine Qy ?_) | (first | refine Qz ?_ | refine Ra ?_ | refine Rb ?_))
  refine Rc ?_
  repeat (first | (with_reducible first | refine Qa ?_ | refine Qb ?_ | refine Qc ?_ | refine Qd ?_ | refine Qe ?_ | refine Qf ?_ | refine Qg ?_ | refine Qh ?_ | refine Qi ?_ | refine Qj ?_ | refine Qk ?_ | refine Ql ?_ | refine Qm ?_ | refine Qn ?_ | refine Qo ?_ | refine Qp rfl ?_) | (first | refine Qq ?_ | refine Qr ?_) | (first | refine Qs ?_ | refine Qt ?_ | refine Qu ?_) | (first | refine Qv ?_ | refine Qw ?_) | (first | refine Qx ?_ | refine Qy ?_) | (first | refine Qz ?_ | refine Ra ?_ | refine Rb ?_))
  by_cases h4 : t.kind = 4
  · repeat (first | (with_reducible first | refine Qa ?_ | refine Qb ?_ | refine Qc ?_ | refine Qd ?_ | refine Qe ?_ | refine Qf ?_ | refine Qg ?_ | refine Qh ?_ | refine Qi ?_ | refine Qj ?_ | refine Qk ?_ | refine Ql ?_ | refine Qm ?_ | refine Qn ?_ | refine Qo ?_ | refine Qp rfl ?_) | (first | refine Qq ?_ | refine Qr ?_) | (first | refine Qs ?_ | refine Qt ?_ | refine Qu ?_) | (first | refine Qv ?_ | refine Qw ?_) | (first | refine Qx ?_ | refine Qy ?_) | (first | refine Qz ?_ | refine Ra ?_ | refine Rb ?_))
    refine retP_ok (st' := prS i0 l σ) (by simp) (by simp only [Try.results81]; rfl) (by simp [resP, St.box?, PF.get, loadB, TyK.agg, *]; rfl) (by repeat (first | exact List.Sublist.refl _ | exact List.nil_sublist _ | refine List.Sublist.cons_cons _ ?_ | refine List.Sublist.cons _ ?_)) ?_
    exact ⟨by rw [HB.out, HM.out, h4]; simp [tupP]; rfl, rfl⟩
  · by_cases h2 : t.kind = 2
    · repeat (first | (with_reducible first | refine Qa ?_ | refine Qb ?_ | refine Qc ?_ | refine Qd ?_ | refine Qe ?_ | refine Qf ?_ | refine Qg ?_ | refine Qh ?_ | refine Qi ?_ | refine Qj ?_ | refine Qk ?_ | refine Ql ?_ | refine Qm ?_ | refine Qn ?_ | refine Qo ?_ | refine Qp rfl ?_) | (first | refine Qq ?_ | refine Qr ?_) | (first | refine Qs ?_ | refine Qt ?_ | refine Qu ?_) | (first | refine Qv ?_ | refine Qw ?_) | (first | refine Qx ?_ | refine Qy ?_) | (first | refine Qz ?_ | refine Ra ?_ | refine Rb ?_))
      refine retP_ok (st' := prS i0 l σ) (by simp) (by simp only [Try.results81]; rfl) (by simp [resP, St.box?, PF.get, loadB, TyK.agg, *]; rfl) (by repeat (first | exact List.Sublist.refl _ | exact List.nil_sublist _ | refine List.Sublist.cons_cons _ ?_ | refine List.Sublist.cons _ ?_)) ?_
      exact ⟨by rw [HB.out, HM.out, h2]; simp [tupP]; rfl, rfl⟩
    · repeat (first | (with_reducible first | refine Qa ?_ | refine Qb ?_ | refine Qc ?_ | refine Qd ?_ | refine Qe ?_ | refine Qf ?_ | refine Qg ?_ | refine Qh ?_ | refine Qi ?_ | refine Qj ?_ | refine Qk ?_ | refine Ql ?_ | refine Qm ?_ | refine Qn ?_ | refine Qo ?_ | refine Qp rfl ?_) | (first | refine Qq ?_ | refine Qr ?_) | (first | refine Qs ?_ | refine Qt ?_ | refine Qu ?_) | (first | refine Qv ?_ | refine Qw ?_) | (first | refine Qx ?_ | refine Qy ?_) | (first | refine Qz ?_ | refine Ra ?_ | refine Rb ?_))
      refine retP_ok (st' := prS i0 l σ) (by simp) (by simp only [Try.results81]; rfl) (by simp [resP, St.box?, PF.get, loadB, TyK.agg, *]; rfl) (by repeat (first | exact List.Sublist.refl _ | exact List.nil_sublist _ | refine List.Sublist.cons_cons _ ?_ | refine List.Sublist.cons _ ?_)) ?_
      exact ⟨by rw [HB.out, HM.out, show (t.kind == 4) = false by simpa using h4, show (t.kind == 2) = false by simpa using h2]; rfl, rfl⟩
end Go.Proofs.Ytahhgpafjiljfaa

namespace Go.Proofs.Ytahhgpafjiljfaa
open Go.RowKit
set_option maxRecDepth 100000
theorem failS_bad (e a : Int) (σ : ST) (he : e ≠ 0) : ¬ (failS e a σ).bad = 0 := by
  unfold failS
  split
  · exact he
  · assumption
theorem failS_i (e a : Int) (σ : ST) : (failS e a σ).i = σ.i := by unfold failS; split <;> rfl
theorem tok0_p (i0 : Nat) (l : List Tk) (σ : ST) (hl : l.length ≤ 100000) (h0 : 0 < l.length) (hi : σ.i ≤ 150000) : PCalls Try.prog 28 [.ptr i0 0, .d (.v (.int .i64 0))] (prS i0 l σ) fun p s => p = .agg [.d (.v (.int .i64 (tkg l σ.i).kind)), .d (.v (.string (tkg l σ.i).text)), .d (.v (.int .i64 (tkg l σ.i).at_))] ∧ s = prS i0 l σ :=
  tok_p i0 l σ 0 σ.i (by omega) hl h0 (by omega) (by omega) (by omega)
theorem tok1_p (i0 : Nat) (l : List Tk) (σ : ST) (hl : l.length ≤ 100000) (h0 : 0 < l.length) (hi : σ.i ≤ 150000) : PCalls Try.prog 28 [.ptr i0 0, .d (.v (.int .i64 1))] (prS i0 l σ) fun p s => p = .agg [.d (.v (.int .i64 (tkg l (σ.i + 1)).kind)), .d (.v (.string (tkg l (σ.i + 1)).text)), .d (.v (.int .i64 (tkg l (σ.i + 1)).at_))] ∧ s = prS i0 l σ :=
  tok_p i0 l σ 1 (σ.i + 1) (by omega) hl h0 (by omega) (by omega) (by omega)
theorem tokm_p (i0 : Nat) (l : List Tk) (σ : ST) (hl : l.length ≤ 100000) (h0 : 0 < l.length) (hi : σ.i ≤ 150000) : PCalls Try.prog 28 [.ptr i0 0, .d (.v (.int .i64 (-1)))] (prS i0 l (incS σ)) fun p s => p = .agg [.d (.v (.int .i64 (tkg l σ.i).kind)), .d (.v (.string (tkg l σ.i).text)), .d (.v (.int .i64 (tkg l σ.i).at_))] ∧ s = prS i0 l (incS σ) :=
  tok_p i0 l (incS σ) (-1) σ.i (by show ((σ.i + 1 : Nat) : Int) + -1 = σ.i; omega) hl h0 (by show σ.i + 1 ≤ _; omega) (by omega) (by omega)
theorem wrap_i {i : Nat} (h : i ≤ 150000) : IntKind.i64.wrap ((i : Int) + 1) = ((i + 1 : Nat) : Int) := IntWalk.i64_in _ (by omega)
theorem want_p (i0 : Nat) (l : List Tk) (σ : ST) (s : ByteArray) (hl : l.length ≤ 100000) (h0 : 0 < l.length) (hi : σ.i ≤ 150000) : PCalls Try.prog 54 [.ptr i0 0, .d (.v (.string s))] (prS i0 l σ) fun p st => p = .tup [] ∧ st = prS i0 l (wantS l s σ) := by
  have H1 := Lib.hid (is_p i0 l σ 0 0 rfl s hl h0 (by omega) (by decide))
  have H2 := Lib.hid (tok0_p i0 l σ hl h0 hi)
  have H3 := Lib.hid (fail_p i0 l σ 1 (tkg l σ.i).at_)
  have HW := Lib.hid (show wantS l s σ = (if (if isS l σ 0 s then σ else failS 1 (tkg l σ.i).at_ σ).bad = 0 then incS (if isS l σ 0 s then σ else failS 1 (tkg l σ.i).at_ σ) else (if isS l σ 0 s then σ else failS 1 (tkg l σ.i).at_ σ)) from rfl)
  have hin := wrap_i hi
  refine PCalls.enter Try.func54 rfl Try.ntmps54 (by simp) ?_
  simp only [argsF]
  repeat (first | (with_reducible first | refine Qa ?_ | refine Qb ?_ | refine Qc ?_ | refine Qd ?_ | refine Qe ?_ | refine Qf ?_ | refine Qg ?_ | refine Qh ?_ | refine Qi ?_ | refine Qj ?_ | refine Qk ?_ | refine Ql ?_ | refine Qm ?_ | refine Qn ?_ | refine Qo ?_ | refine Qp rfl ?_) | (first | refine Qq ?_ | refine Qr ?_) | (first | refine Qs ?_ | refine Qt ?_ | refine Qu ?_) | (first | refine Qv ?_ | refine Qw ?_) | (first | refine Qx ?_ | refine Qy ?_) | (first | refine Qz ?_ | refine Ra ?_ | refine Rb ?_))
  refine Re (H1.out) ?_
  rintro _ _ ⟨rfl, rfl⟩
  cases hb : isS l σ 0 s with
  | true =>
    rw [hb] at HW
    simp only [if_true] at HW
    clear hb H1 H2 H3
    by_cases hz : σ.bad = 0
    · rw [if_pos hz] at HW
      obtain ⟨i, a, b⟩ := σ
      simp only at hz hi hin
      subst hz
      unfold prS
      simp only
      repeat (first | (with_reducible first | refine Qa ?_ | refine Qb ?_ | refine Qc ?_ | refine Qd ?_ | refine Qe ?_ | refine Qf ?_ | refine Qg ?_ | refine Qh ?_ | refine Qi ?_ | refine Qj ?_ | refine Qk ?_ | refine Ql ?_ | refine Qm ?_ | refine Qn ?_ | refine Qo ?_ | refine Qp rfl ?_) | (first | refine Qq ?_ | refine Qr ?_) | (first | refine Qs ?_ | refine Qt ?_ | refine Qu ?_) | (first | refine Qv ?_ | refine Qw ?_) | (first | refine Qx ?_ | refine Qy ?_) | (first | refine Qz ?_ | refine Ra ?_ | refine Rb ?_))
      refine Rc ?_
      repeat (first | (with_reducible first | refine Qa ?_ | refine Qb ?_ | refine Qc ?_ | refine Qd ?_ | refine Qe ?_ | refine Qf ?_ | refine Qg ?_ | refine Qh ?_ | refine Qi ?_ | refine Qj ?_ | refine Qk ?_ | refine Ql ?_ | refine Qm ?_ | refine Qn ?_ | refine Qo ?_ | refine Qp rfl ?_) | (first | refine Qq ?_ | refine Qr ?_) | (first | refine Qs ?_ | refine Qt ?_ | refine Qu ?_) | (first | refine Qv ?_ | refine Qw ?_) | (first | refine Qx ?_ | refine Qy ?_) | (first | refine Qz ?_ | refine Ra ?_ | refine Rb ?_))
      refine retP_ok (st' := prS i0 l (incS ⟨i, a, 0⟩)) (by simp) (by simp only [Try.results54]; rfl) (by simp [resP]; rfl) (by repeat (first | exact List.Sublist.refl _ | exact List.nil_sublist _ | refine List.Sublist.cons_cons _ ?_ | refine List.Sublist.cons _ ?_)) ⟨rfl, by rw [HW.out]; rfl⟩
    · rw [if_neg hz] at HW
      unfold prS
      repeat (first | (with_reducible first | refine Qa ?_ | refine Qb ?_ | refine Qc ?_ | refine Qd ?_ | refine Qe ?_ | refine Qf ?_ | refine Qg ?_ | refine Qh ?_ | refine Qi ?_ | refine Qj ?_ | refine Qk ?_ | refine Ql ?_ | refine Qm ?_ | refine Qn ?_ | refine Qo ?_ | refine Qp rfl ?_) | (first | refine Qq ?_ | refine Qr ?_) | (first | refine Qs ?_ | refine Qt ?_ | refine Qu ?_) | (first | refine Qv ?_ | refine Qw ?_) | (first | refine Qx ?_ | refine Qy ?_) | (first | refine Qz ?_ | refine Ra ?_ | refine Rb ?_))
      refine retP_ok (st' := prS i0 l σ) (by simp) (by simp only [Try.results54]; rfl) (by simp [resP]; rfl) (by repeat (first | exact List.Sublist.refl _ | exact List.nil_sublist _ | refine List.Sublist.cons_cons _ ?_ | refine List.Sublist.cons _ ?_)) ⟨rfl, by rw [HW.out]; rfl⟩
  | false =>
    rw [hb] at HW
    simp only [Bool.false_eq_true, if_false] at HW
    have hz := failS_bad 1 (tkg l σ.i).at_ σ (by decide)
    rw [if_neg hz] at HW
    repeat (first | (with_reducible first | refine Qa ?_ | refine Qb ?_ | refine Qc ?_ | refine Qd ?_ | refine Qe ?_ | refine Qf ?_ | refine Qg ?_ | refine Qh ?_ | refine Qi ?_ | refine Qj ?_ | refine Qk ?_ | refine Ql ?_ | refine Qm ?_ | refine Qn ?_ | refine Qo ?_ | refine Qp rfl ?_) | (first | refine Qq ?_ | refine Qr ?_) | (first | refine Qs ?_ | refine Qt ?_ | refine Qu ?_) | (first | refine Qv ?_ | refine Qw ?_) | (first | refine Qx ?_ | refine Qy ?_) | (first | refine Qz ?_ | refine Ra ?_ | refine Rb ?_))
    refine Re (H2.out) ?_
    rintro _ _ ⟨rfl, rfl⟩
    repeat (first | (with_reducible first | refine Qa ?_ | refine Qb ?_ | refine Qc ?_ | refine Qd ?_ | refine Qe ?_ | refine Qf ?_ | refine Qg ?_ | refine Qh ?_ | refine Qi ?_ | refine Qj ?_ | refine Qk ?_ | refine Ql ?_ | refine Qm ?_ | refine Qn ?_ | refine Qo ?_ | refine Qp rfl ?_) | (first | refine Qq ?_ | refine Qr ?_) | (first | refine Qs ?_ | refine Qt ?_ | refine Qu ?_) | (first | refine Qv ?_ | refine Qw ?_) | (first | refine Qx ?_ | refine Qy ?_) | (first | refine Qz ?_ | refine Ra ?_ | refine Rb ?_))
    refine Re (H3.out) ?_
    rintro _ _ ⟨rfl, rfl⟩
    unfold prS
    repeat (first | (with_reducible first | refine Qa ?_ | refine Qb ?_ | refine Qc ?_ | refine Qd ?_ | refine Qe ?_ | refine Qf ?_ | refine Qg ?_ | refine Qh ?_ | refine Qi ?_ | refine Qj ?_ | refine Qk ?_ | refine Ql ?_ | refine Qm ?_ | refine Qn ?_ | refine Qo ?_ | refine Qp rfl ?_) | (first | refine Qq ?_ | refine Qr ?_) | (first | refine Qs ?_ | refine Qt ?_ | refine Qu ?_) | (first | refine Qv ?_ | refine Qw ?_) | (first | refine Qx ?_ | refine Qy ?_) | (first | refine Qz ?_ | refine Ra ?_ | refine Rb ?_))
    refine retP_ok (st' := prS i0 l (failS 1 (tkg l σ.i).at_ σ)) (by simp) (by simp only [Try.results54]; rfl) (by simp [resP]; rfl) (by repeat (first | exact List.Sublist.refl _ | exact List.nil_sublist _ | refine List.Sublist.cons_cons _ ?_ | refine List.Sublist.cons _ ?_)) ⟨rfl, by rw [HW.out]; rfl⟩
theorem named_p (i0 : Nat) (l : List Tk) (σ : ST) (hl : l.length ≤ 100000) (h0 : 0 < l.length) (hi : σ.i ≤ 150000) : PCalls Try.prog 87 [.ptr i0 0, .d (.v (.int .i64 0))] (prS i0 l σ) fun p st => p = .d (.v (.bool (namedS l σ 0))) ∧ st = prS i0 l σ := by
  have H1 := Lib.hid (tok0_p i0 l σ hl h0 hi)
  have HN := Lib.hid (show namedS l σ 0 = ((tkg l σ.i).kind == 1 && !((tkg l σ.i).text.toList == [95])) from rfl)
  generalize tkg l σ.i = t at *
  refine PCalls.enter Try.func87 rfl Try.ntmps87 (by simp) ?_
  simp only [argsF]
  repeat (first | (with_reducible first | refine Qa ?_ | refine Qb ?_ | refine Qc ?_ | refine Qd ?_ | refine Qe ?_ | refine Qf ?_ | refine Qg ?_ | refine Qh ?_ | refine Qi ?_ | refine Qj ?_ | refine Qk ?_ | refine Ql ?_ | refine Qm ?_ | refine Qn ?_ | refine Qo ?_ | refine Qp rfl ?_) | (first | refine Qq ?_ | refine Qr ?_) | (first | refine Qs ?_ | refine Qt ?_ | refine Qu ?_) | (first | refine Qv ?_ | refine Qw ?_) | (first | refine Qx ?_ | refine Qy ?_) | (first | refine Qz ?_ | refine Ra ?_ | refine Rb ?_))
  refine Re (H1.out) ?_
  rintro _ _ ⟨rfl, rfl⟩
  by_cases h1 : t.kind = 1
  · repeat (first | (with_reducible first | refine Qa ?_ | refine Qb ?_ | refine Qc ?_ | refine Qd ?_ | refine Qe ?_ | refine Qf ?_ | refine Qg ?_ | refine Qh ?_ | refine Qi ?_ | refine Qj ?_ | refine Qk ?_ | refine Ql ?_ | refine Qm ?_ | refine Qn ?_ | refine Qo ?_ | refine Qp rfl ?_) | (first | refine Qq ?_ | refine Qr ?_) | (first | refine Qs ?_ | refine Qt ?_ | refine Qu ?_) | (first | refine Qv ?_ | refine Qw ?_) | (first | refine Qx ?_ | refine Qy ?_) | (first | refine Qz ?_ | refine Ra ?_ | refine Rb ?_))
    refine Re (H1.out) ?_
    rintro _ _ ⟨rfl, rfl⟩
    repeat (first | (with_reducible first | refine Qa ?_ | refine Qb ?_ | refine Qc ?_ | refine Qd ?_ | refine Qe ?_ | refine Qf ?_ | refine Qg ?_ | refine Qh ?_ | refine Qi ?_ | refine Qj ?_ | refine Qk ?_ | refine Ql ?_ | refine Qm ?_ | refine Qn ?_ | refine Qo ?_ | refine Qp rfl ?_) | (first | refine Qq ?_ | refine Qr ?_) | (first | refine Qs ?_ | refine Qt ?_ | refine Qu ?_) | (first | refine Qv ?_ | refine Qw ?_) | (first | refine Qx ?_ | refine Qy ?_) | (first | refine Qz ?_ | refine Ra ?_ | refine Rb ?_))
    refine retP_ok (st' := prS i0 l σ) (by simp) (by simp only [Try.results87]; rfl) (by simp [resP, St.box?, PF.get, loadB, TyK.agg, *]; rfl) (by repeat (first | exact List.Sublist.refl _ | exact List.nil_sublist _ | refine List.Sublist.cons_cons _ ?_ | refine List.Sublist.cons _ ?_)) ?_
    exact ⟨by rw [HN.out, h1]; simp [tupP]; rfl, rfl⟩
  · repeat (first | (with_reducible first | refine Qa ?_ | refine Qb ?_ | refine Qc ?_ | refine Qd ?_ | refine Qe ?_ | refine Qf ?_ | refine Qg ?_ | refine Qh ?_ | refine Qi ?_ | refine Qj ?_ | refine Qk ?_ | refine Ql ?_ | refine Qm ?_ | refine Qn ?_ | refine Qo ?_ | refine Qp rfl ?_) | (first | refine Qq ?_ | refine Qr ?_) | (first | refine Qs ?_ | refine Qt ?_ | refine Qu ?_) | (first | refine Qv ?_ | refine Qw ?_) | (first | refine Qx ?_ | refine Qy ?_) | (first | refine Qz ?_ | refine Ra ?_ | refine Rb ?_))
    refine retP_ok (st' := prS i0 l σ) (by simp) (by simp only [Try.results87]; rfl) (by simp [resP, St.box?, PF.get, loadB, TyK.agg, *]; rfl) (by repeat (first | exact List.Sublist.refl _ | exact List.nil_sublist _ | refine List.Sublist.cons_cons _ ?_ | refine List.Sublist.cons _ ?_)) ?_
    exact ⟨by rw [HN.out, show (t.kind == 1) = false by simpa using h1]; rfl, rfl⟩
theorem name_p (i0 : Nat) (l : List Tk) (σ : ST) (hl : l.length ≤ 100000) (h0 : 0 < l.length) (hi : σ.i ≤ 150000) : PCalls Try.prog 50 [.ptr i0 0] (prS i0 l σ) fun p st => p = .d (.v (.string (nameS l σ).1)) ∧ st = prS i0 l (nameS l σ).2 := by
  have H1 := Lib.hid (named_p i0 l σ hl h0 hi)
  have H2 := Lib.hid (tok0_p i0 l σ hl h0 hi)
  have H3 := Lib.hid (fail_p i0 l σ 1 (tkg l σ.i).at_)
  have H4 := Lib.hid (tokm_p i0 l σ hl h0 hi)
  have HW := Lib.hid (show nameS l σ = (if (if namedS l σ 0 then σ else failS 1 (tkg l σ.i).at_ σ).bad = 0 then ((tkg l (if namedS l σ 0 then σ else failS 1 (tkg l σ.i).at_ σ).i).text, incS (if namedS l σ 0 then σ else failS 1 (tkg l σ.i).at_ σ)) else (⟨#[]⟩, (if namedS l σ 0 then σ else failS 1 (tkg l σ.i).at_ σ))) from rfl)
  have hin := wrap_i hi
  refine PCalls.enter Try.func50 rfl Try.ntmps50 (by simp) ?_
  simp only [argsF]
  repeat (first | (with_reducible first | refine Qa ?_ | refine Qb ?_ | refine Qc ?_ | refine Qd ?_ | refine Qe ?_ | refine Qf ?_ | refine Qg ?_ | refine Qh ?_ | refine Qi ?_ | refine Qj ?_ | refine Qk ?_ | refine Ql ?_ | refine Qm ?_ | refine Qn ?_ | refine Qo ?_ | refine Qp rfl ?_) | (first | refine Qq ?_ | refine Qr ?_) | (first | refine Qs ?_ | refine Qt ?_ | refine Qu ?_) | (first | refine Qv ?_ | refine Qw ?_) | (first | refine Qx ?_ | refine Qy ?_) | (first | refine Qz ?_ | refine Ra ?_ | refine Rb ?_))
  refine Re (H1.out) ?_
  rintro _ _ ⟨rfl, rfl⟩
  cases hb : namedS l σ 0 with
  | true =>
    rw [hb] at HW
    simp only [if_true] at HW
    clear hb H1 H2 H3
    by_cases hz : σ.bad = 0
    · rw [if_pos hz] at HW
      obtain ⟨i, a, b⟩ := σ
      simp only at hz hi hin
      subst hz
      unfold prS
      simp only
      repeat (first | (with_reducible first | refine Qa ?_ | refine Qb ?_ | refine Qc ?_ | refine Qd ?_ | refine Qe ?_ | refine Qf ?_ | refine Qg ?_ | refine Qh ?_ | refine Qi ?_ | refine Qj ?_ | refine Qk ?_ | refine Ql ?_ | refine Qm ?_ | refine Qn ?_ | refine Qo ?_ | refine Qp rfl ?_) | (first | refine Qq ?_ | refine Qr ?_) | (first | refine Qs ?_ | refine Qt ?_ | refine Qu ?_) | (first | refine Qv ?_ | refine Qw ?_) | (first | refine Qx ?_ | refine Qy ?_) | (first | refine Qz ?_ | refine Ra ?_ | refine Rb ?_))
      refine Rc ?_
      repeat (first | (with_reducible first | refine Qa ?_ | refine Qb ?_ | refine Qc ?_ | refine Qd ?_ | refine Qe ?_ | refine Qf ?_ | refine Qg ?_ | refine Qh ?_ | refine Qi ?_ | refine Qj ?_ | refine Qk ?_ | refine Ql ?_ | refine Qm ?_ | refine Qn ?_ | refine Qo ?_ | refine Qp rfl ?_) | (first | refine Qq ?_ | refine Qr ?_) | (first | refine Qs ?_ | refine Qt ?_ | refine Qu ?_) | (first | refine Qv ?_ | refine Qw ?_) | (first | refine Qx ?_ | refine Qy ?_) | (first | refine Qz ?_ | refine Ra ?_ | refine Rb ?_))
      refine Re (H4.out) ?_
      rintro _ _ ⟨rfl, rfl⟩
      repeat (first | (with_reducible first | refine Qa ?_ | refine Qb ?_ | refine Qc ?_ | refine Qd ?_ | refine Qe ?_ | refine Qf ?_ | refine Qg ?_ | refine Qh ?_ | refine Qi ?_ | refine Qj ?_ | refine Qk ?_ | refine Ql ?_ | refine Qm ?_ | refine Qn ?_ | refine Qo ?_ | refine Qp rfl ?_) | (first | refine Qq ?_ | refine Qr ?_) | (first | refine Qs ?_ | refine Qt ?_ | refine Qu ?_) | (first | refine Qv ?_ | refine Qw ?_) | (first | refine Qx ?_ | refine Qy ?_) | (first | refine Qz ?_ | refine Ra ?_ | refine Rb ?_))
      refine retP_ok (st' := prS i0 l (incS ⟨i, a, 0⟩)) (by simp) (by simp only [Try.results50]; rfl) (by simp [resP]; rfl) (by repeat (first | exact List.Sublist.refl _ | exact List.nil_sublist _ | refine List.Sublist.cons_cons _ ?_ | refine List.Sublist.cons _ ?_)) ⟨by rw [HW.out]; rfl, by rw [HW.out]; rfl⟩
    · rw [if_neg hz] at HW
      unfold prS
      repeat (first | (with_reducible first | refine Qa ?_ | refine Qb ?_ | refine Qc ?_ | refine Qd ?_ | refine Qe ?_ | refine Qf ?_ | refine Qg ?_ | refine Qh ?_ | refine Qi ?_ | refine Qj ?_ | refine Qk ?_ | refine Ql ?_ | refine Qm ?_ | refine Qn ?_ | refine Qo ?_ | refine Qp rfl ?_) | (first | refine Qq ?_ | refine Qr ?_) | (first | refine Qs ?_ | refine Qt ?_ | refine Qu ?_) | (first | refine Qv ?_ | refine Qw ?_) | (first | refine Qx ?_ | refine Qy ?_) | (first | refine Qz ?_ | refine Ra ?_ | refine Rb ?_))
      refine retP_ok (st' := prS i0 l σ) (by simp) (by simp only [Try.results50]; rfl) (by simp [resP]; rfl) (by repeat (first | exact List.Sublist.refl _ | exact List.nil_sublist _ | refine List.Sublist.cons_cons _ ?_ | refine List.Sublist.cons _ ?_)) ⟨by rw [HW.out]; rfl, by rw [HW.out]; rfl⟩
  | false =>
    rw [hb] at HW
    simp only [Bool.false_eq_true, if_false] at HW
    have hz := failS_bad 1 (tkg l σ.i).at_ σ (by decide)
    rw [if_neg hz] at HW
    repeat (first | (with_reducible first | refine Qa ?_ | refine Qb ?_ | refine Qc ?_ | refine Qd ?_ | refine Qe ?_ | refine Qf ?_ | refine Qg ?_ | refine Qh ?_ | refine Qi ?_ | refine Qj ?_ | refine Qk ?_ | refine Ql ?_ | refine Qm ?_ | refine Qn ?_ | refine Qo ?_ | refine Qp rfl ?_) | (first | refine Qq ?_ | refine Qr ?_) | (first | refine Qs ?_ | refine Qt ?_ | refine Qu ?_) | (first | refine Qv ?_ | refine Qw ?_) | (first | refine Qx ?_ | refine Qy ?_) | (first | refine Qz ?_ | refine Ra ?_ | refine Rb ?_))
    refine Re (H2.out) ?_
    rintro _ _ ⟨rfl, rfl⟩
    repeat (first | (with_reducible first | refine Qa ?_ | refine Qb ?_ | refine Qc ?_ | refine Qd ?_ | refine Qe ?_ | refine Qf ?_ | refine Qg ?_ | refine Qh ?_ | refine Qi ?_ | refine Qj ?_ | refine Qk ?_ | refine Ql ?_ | refine Qm ?_ | refine Qn ?_ | refine Qo ?_ | refine Qp rfl ?_) | (first | refine Qq ?_ | refine Qr ?_) | (first | refine Qs ?_ | refine Qt ?_ | refine Qu ?_) | (first | refine Qv ?_ | refine Qw ?_) | (first | refine Qx ?_ | refine Qy ?_) | (first | refine Qz ?_ | refine Ra ?_ | refine Rb ?_))
    refine Re (H3.out) ?_
    rintro _ _ ⟨rfl, rfl⟩
    unfold prS
    repeat (first | (with_reducible first | refine Qa ?_ | refine Qb ?_ | refine Qc ?_ | refine Qd ?_ | refine Qe ?_ | refine Qf ?_ | refine Qg ?_ | refine Qh ?_ | refine Qi ?_ | refine Qj ?_ | refine Qk ?_ | refine Ql ?_ | refine Qm ?_ | refine Qn ?_ | refine Qo ?_ | refine Qp rfl ?_) | (first | refine Qq ?_ | refine Qr ?_) | (first | refine Qs ?_ | refine Qt ?_ | refine Qu ?_) | (first | refine Qv ?_ | refine Qw ?_) | (first | refine Qx ?_ | refine Qy ?_) | (first | refine Qz ?_ | refine Ra ?_ | refine Rb ?_))
    refine retP_ok (st' := prS i0 l (failS 1 (tkg l σ.i).at_ σ)) (by simp) (by simp only [Try.results50]; rfl) (by simp [resP]; rfl) (by repeat (first | exact List.Sublist.refl _ | exact List.nil_sublist _ | refine List.Sublist.cons_cons _ ?_ | refine List.Sublist.cons _ ?_)) ⟨by rw [HW.out]; rfl, by rw [HW.out]; rfl⟩
theorem variable_p (i0 : Nat) (l : List Tk) (σ : ST) (hl : l.length ≤ 100000) (h0 : 0 < l.length) (hi : σ.i ≤ 150000) : PCalls Try.prog 103 [.ptr i0 0] (prS i0 l σ) fun p st => p = .d (.v (.string (variableS l σ).1)) ∧ st = prS i0 l (variableS l σ).2 := by
  have H2 := Lib.hid (tok0_p i0 l σ hl h0 hi)
  have H3 := Lib.hid (name_p i0 l σ hl h0 hi)
  have H4 := Lib.hid (tokm_p i0 l σ hl h0 hi)
  have HW := Lib.hid (show variableS l σ = (if (tkg l σ.i).kind == 1 && σ.bad == 0 then ((tkg l σ.i).text, incS σ) else nameS l σ) from rfl)
  have hin := wrap_i hi
  generalize tkg l σ.i = t at *
  refine PCalls.enter Try.func103 rfl Try.ntmps103 (by simp) ?_
  simp only [argsF]
  repeat (first | (with_reducible first | refine Qa ?_ | refine Qb ?_ | refine Qc ?_ | refine Qd ?_ | refine Qe ?_ | refine Qf ?_ | refine Qg ?_ | refine Qh ?_ | refine Qi ?_ | refine Qj ?_ | refine Qk ?_ | refine Ql ?_ | refine Qm ?_ | refine Qn ?_ | refine Qo ?_ | refine Qp rfl ?_) | (first | refine Qq ?_ | refine Qr ?_) | (first | refine Qs ?_ | refine Qt ?_ | refine Qu ?_) | (first | refine Qv ?_ | refine Qw ?_) | (first | refine Qx ?_ | refine Qy ?_) | (first | refine Qz ?_ | refine Ra ?_ | refine Rb ?_))
  refine Re (H2.out) ?_
  rintro _ _ ⟨rfl, rfl⟩
  by_cases h1 : t.kind = 1
  · by_cases hz : σ.bad = 0
    · rw [if_pos (by rw [h1, hz]; rfl)] at HW
      obtain ⟨i, a, b⟩ := σ
      simp only at hz hi hin
      subst hz
      unfold prS
      simp only
      repeat (first | (with_reducible first | refine Qa ?_ | refine Qb ?_ | refine Qc ?_ | refine Qd ?_ | refine Qe ?_ | refine Qf ?_ | refine Qg ?_ | refine Qh ?_ | refine Qi ?_ | refine Qj ?_ | refine Qk ?_ | refine Ql ?_ | refine Qm ?_ | refine Qn ?_ | refine Qo ?_ | refine Qp rfl ?_) | (first | refine Qq ?_ | refine Qr ?_) | (first | refine Qs ?_ | refine Qt ?_ | refine Qu ?_) | (first | refine Qv ?_ | refine Qw ?_) | (first | refine Qx ?_ | refine Qy ?_) | (first | refine Qz ?_ | refine Ra ?_ | refine Rb ?_))
      refine Rc ?_
      repeat (first | (with_reducible first | refine Qa ?_ | refine Qb ?_ | refine Qc ?_ | refine Qd ?_ | refine Qe ?_ | refine Qf ?_ | refine Qg ?_ | refine Qh ?_ | refine Qi ?_ | refine Qj ?_ | refine Qk ?_ | refine Ql ?_ | refine Qm ?_ | refine Qn ?_ | refine Qo ?_ | refine Qp rfl ?_) | (first | refine Qq ?_ | refine Qr ?_) | (first | refine Qs ?_ | refine Qt ?_ | refine Qu ?_) | (first | refine Qv ?_ | refine Qw ?_) | (first | refine Qx ?_ | refine Qy ?_) | (first | refine Qz ?_ | refine Ra ?_ | refine Rb ?_))
      refine Re (H4.out) ?_
      rintro _ _ ⟨rfl, rfl⟩
      repeat (first | (with_reducible first | refine Qa ?_ | refine Qb ?_ | refine Qc ?_ | refine Qd ?_ | refine Qe ?_ | refine Qf ?_ | refine Qg ?_ | refine Qh ?_ | refine Qi ?_ | refine Qj ?_ | refine Qk ?_ | refine Ql ?_ | refine Qm ?_ | refine Qn ?_ | refine Qo ?_ | refine Qp rfl ?_) | (first | refine Qq ?_ | refine Qr ?_) | (first | refine Qs ?_ | refine Qt ?_ | refine Qu ?_) | (first | refine Qv ?_ | refine Qw ?_) | (first | refine Qx ?_ | refine Qy ?_) | (first | refine Qz ?_ | refine Ra ?_ | refine Rb ?_))
      refine retP_ok (st' := prS i0 l (incS ⟨i, a, 0⟩)) (by simp) (by simp only [Try.results103]; rfl) (by simp [resP]; rfl) (by repeat (first | exact List.Sublist.refl _ | exact List.nil_sublist _ | refine List.Sublist.cons_cons _ ?_ | refine List.Sublist.cons _ ?_)) ⟨by rw [HW.out]; rfl, by rw [HW.out]; rfl⟩
    · rw [if_neg (by simp [hz])] at HW
      unfold prS
      repeat (first | (with_reducible first | refine Qa ?_ | refine Qb ?_ | refine Qc ?_ | refine Qd ?_ | refine Qe ?_ | refine Qf ?_ | refine Qg ?_ | refine Qh ?_ | refine Qi ?_ | refine Qj ?_ | refine Qk ?_ | refine Ql ?_ | refine Qm ?_ | refine Qn ?_ | refine Qo ?_ | refine Qp rfl ?_) | (first | refine Qq ?_ | refine Qr ?_) | (first | refine Qs ?_ | refine Qt ?_ | refine Qu ?_) | (first | refine Qv ?_ | refine Qw ?_) | (first | refine Qx ?_ | refine Qy ?_) | (first | refine Qz ?_ | refine Ra ?_ | refine Rb ?_))
      refine Re (H3.out) ?_
      rintro _ _ ⟨rfl, rfl⟩
      repeat (first | (with_reducible first | refine Qa ?_ | refine Qb ?_ | refine Qc ?_ | refine Qd ?_ | refine Qe ?_ | refine Qf ?_ | refine Qg ?_ | refine Qh ?_ | refine Qi ?_ | refine Qj ?_ | refine Qk ?_ | refine Ql ?_ | refine Qm ?_ | refine Qn ?_ | refine Qo ?_ | refine Qp rfl ?_) | (first | refine Qq ?_ | refine Qr ?_) | (first | refine Qs ?_ | refine Qt ?_ | refine Qu ?_) | (first | refine Qv ?_ | refine Qw ?_) | (first | refine Qx ?_ | refine Qy ?_) | (first | refine Qz ?_ | refine Ra ?_ | refine Rb ?_))
      refine retP_ok (st' := prS i0 l (nameS l σ).2) (by simp) (by simp only [Try.results103]; rfl) (by simp [resP, St.box?, PF.get, loadB, TyK.agg, *]; rfl) (by repeat (first | exact List.Sublist.refl _ | exact List.nil_sublist _ | refine List.Sublist.cons_cons _ ?_ | refine List.Sublist.cons _ ?_)) ?_
      exact ⟨by rw [HW.out]; rfl, by rw [HW.out]; rfl⟩
  · rw [if_neg (by simp [h1])] at HW
    repeat (first | (with_reducible first | refine Qa ?_ | refine Qb ?_ | refine Qc ?_ | refine Qd ?_ | refine Qe ?_ | refine Qf ?_ | refine Qg ?_ | refine Qh ?_ | refine Qi ?_ | refine Qj ?_ | refine Qk ?_ | refine Ql ?_ | refine Qm ?_ | refine Qn ?_ | refine Qo ?_ | refine Qp rfl ?_) | (first | refine Qq ?_ | refine Qr ?_) | (first | refine Qs ?_ | refine Qt ?_ | refine Qu ?_) | (first | refine Qv ?_ | refine Qw ?_) | (first | refine Qx ?_ | refine Qy ?_) | (first | refine Qz ?_ | refine Ra ?_ | refine Rb ?_))
    refine Re (H3.out) ?_
    rintro _ _ ⟨rfl, rfl⟩
    repeat (first | (with_reducible first | refine Qa ?_ | refine Qb ?_ | refine Qc ?_ | refine Qd ?_ | refine Qe ?_ | refine Qf ?_ | refine Qg ?_ | refine Qh ?_ | refine Qi ?_ | refine Qj ?_ | refine Qk ?_ | refine Ql ?_ | refine Qm ?_ | refine Qn ?_ | refine Qo ?_ | refine Qp rfl ?_) | (first | refine Qq ?_ | refine Qr ?_) | (first | refine Qs ?_ | refine Qt ?_ | refine Qu ?_) | (first | refine Qv ?_ | refine Qw ?_) | (first | refine Qx ?_ | refine Qy ?_) | (first | refine Qz ?_ | refine Ra ?_ | refine Rb ?_))
    refine retP_ok (st' := prS i0 l (nameS l σ).2) (by simp) (by simp only [Try.results103]; rfl) (by simp [resP, St.box?, PF.get, loadB, TyK.agg, *]; rfl) (by repeat (first | exact List.Sublist.refl _ | exact List.nil_sublist _ | refine List.Sublist.cons_cons _ ?_ | refine List.Sublist.cons _ ?_)) ?_
    exact ⟨by rw [HW.out]; rfl, by rw [HW.out]⟩
end Go.Proofs.Ytahhgpafjiljfaa

namespace Go.Proofs.Ytahhgpafjiljfaa
open Go.RowKit
set_option maxRecDepth 100000
theorem binder_p (i0 : Nat) (l : List Tk) (σ : ST) (hl : l.length ≤ 100000) (h0 : 0 < l.length) (hi : σ.i ≤ 150000) : PCalls Try.prog 83 [.ptr i0 0] (prS i0 l σ) fun p st => p = .d (.v (.bool (binderS l σ))) ∧ st = prS i0 l σ := by
  have H1 := Lib.hid (is_p i0 l σ 0 0 rfl sPar hl h0 (by omega) (by decide))
  have H2 := Lib.hid (tok1_p i0 l σ hl h0 hi)
  have H3 := Lib.hid (is_p i0 l σ 2 2 rfl sCol hl h0 (by omega) (by decide))
  have HB := Lib.hid (show binderS l σ = (isS l σ 0 sPar && (tkg l (σ.i + 1)).kind == 1 && isS l σ 2 sCol) from rfl)
  unfold sPar sCol at *
  generalize tkg l (σ.i + 1) = t at *
  refine PCalls.enter Try.func83 rfl Try.ntmps83 (by simp) ?_
  simp only [argsF]
  repeat (first | (with_reducible first | refine Qa ?_ | refine Qb ?_ | refine Qc ?_ | refine Qd ?_ | refine Qe ?_ | refine Qf ?_ | refine Qg ?_ | refine Qh ?_ | refine Qi ?_ | refine Qj ?_ | refine Qk ?_ | refine Ql ?_ | refine Qm ?_ | refine Qn ?_ | refine Qo ?_ | refine Qp rfl ?_) | (first | refine Qq ?_ | refine Qr ?_) | (first | refine Qs ?_ | refine Qt ?_ | refine Qu ?_) | (first | refine Qv ?_ | refine Qw ?_) | (first | refine Qx ?_ | refine Qy ?_) | (first | refine Qz ?_ | refine Ra ?_ | refine Rb ?_))
  refine Re (H1.out) ?_
  rintro _ _ ⟨rfl, rfl⟩
  cases h1 : isS l σ 0 ⟨#[40]⟩ with
  | false =>
    repeat (first | (with_reducible first | refine Qa ?_ | refine Qb ?_ | refine Qc ?_ | refine Qd ?_ | refine Qe ?_ | refine Qf ?_ | refine Qg ?_ | refine Qh ?_ | refine Qi ?_ | refine Qj ?_ | refine Qk ?_ | refine Ql ?_ | refine Qm ?_ | refine Qn ?_ | refine Qo ?_ | refine Qp rfl ?_) | (first | refine Qq ?_ | refine Qr ?_) | (first | refine Qs ?_ | refine Qt ?_ | refine Qu ?_) | (first | refine Qv ?_ | refine Qw ?_) | (first | refine Qx ?_ | refine Qy ?_) | (first | refine Qz ?_ | refine Ra ?_ | refine Rb ?_))
    refine retP_ok (st' := prS i0 l σ) (by simp) (by simp only [Try.results83]; rfl) (by simp [resP, St.box?, PF.get, loadB, TyK.agg, *]; rfl) (by repeat (first | exact List.Sublist.refl _ | exact List.nil_sublist _ | refine List.Sublist.cons_cons _ ?_ | refine List.Sublist.cons _ ?_)) ?_
    exact ⟨by rw [HB.out, h1]; rfl, rfl⟩
  | true =>
    repeat (first | (with_reducible first | refine Qa ?_ | refine Qb ?_ | refine Qc ?_ | refine Qd ?_ | refine Qe ?_ | refine Qf ?_ | refine Qg ?_ | refine Qh ?_ | refine Qi ?_ | refine Qj ?_ | refine Qk ?_ | refine Ql ?_ | refine Qm ?_ | refine Qn ?_ | refine Qo ?_ | refine Qp rfl ?_) | (first | refine Qq ?_ | refine Qr ?_) | (first | refine Qs ?_ | refine Qt ?_ | refine Qu ?_) | (first | refine Qv ?_ | refine Qw ?_) | (first | refine Qx ?_ | refine Qy ?_) | (first | refine Qz ?_ | refine Ra ?_ | refine Rb ?_))
    refine Re (H2.out) ?_
    rintro _ _ ⟨rfl, rfl⟩
    by_cases h2 : t.kind = 1
    · repeat (first | (with_reducible first | refine Qa ?_ | refine Qb ?_ | refine Qc ?_ | refine Qd ?_ | refine Qe ?_ | refine Qf ?_ | refine Qg ?_ | refine Qh ?_ | refine Qi ?_ | refine Qj ?_ | refine Qk ?_ | refine Ql ?_ | refine Qm ?_ | refine Qn ?_ | refine Qo ?_ | refine Qp rfl ?_) | (first | refine Qq ?_ | refine Qr ?_) | (first | refine Qs ?_ | refine Qt ?_ | refine Qu ?_) | (first | refine Qv ?_ | refine Qw ?_) | (first | refine Qx ?_ | refine Qy ?_) | (first | refine Qz ?_ | refine Ra ?_ | refine Rb ?_))
      refine Re (H3.out) ?_
      rintro _ _ ⟨rfl, rfl⟩
      repeat (first | (with_reducible first | refine Qa ?_ | refine Qb ?_ | refine Qc ?_ | refine Qd ?_ | refine Qe ?_ | refine Qf ?_ | refine Qg ?_ | refine Qh ?_ | refine Qi ?_ | refine Qj ?_ | refine Qk ?_ | refine Ql ?_ | refine Qm ?_ | refine Qn ?_ | refine Qo ?_ | refine Qp rfl ?_) | (first | refine Qq ?_ | refine Qr ?_) | (first | refine Qs ?_ | refine Qt ?_ | refine Qu ?_) | (first | refine Qv ?_ | refine Qw ?_) | (first | refine Qx ?_ | refine Qy ?_) | (first | refine Qz ?_ | refine Ra ?_ | refine Rb ?_))
      refine retP_ok (st' := prS i0 l σ) (by simp) (by simp only [Try.results83]; rfl) (by simp [resP, St.box?, PF.get, loadB, TyK.agg, *]; rfl) (by repeat (first | exact List.Sublist.refl _ | exact List.nil_sublist _ | refine List.Sublist.cons_cons _ ?_ | refine List.Sublist.cons _ ?_)) ?_
      exact ⟨by rw [HB.out, h1, h2]; simp [tupP]; rfl, rfl⟩
    · repeat (first | (with_reducible first | refine Qa ?_ | refine Qb ?_ | refine Qc ?_ | refine Qd ?_ | refine Qe ?_ | refine Qf ?_ | refine Qg ?_ | refine Qh ?_ | refine Qi ?_ | refine Qj ?_ | refine Qk ?_ | refine Ql ?_ | refine Qm ?_ | refine Qn ?_ | refine Qo ?_ | refine Qp rfl ?_) | (first | refine Qq ?_ | refine Qr ?_) | (first | refine Qs ?_ | refine Qt ?_ | refine Qu ?_) | (first | refine Qv ?_ | refine Qw ?_) | (first | refine Qx ?_ | refine Qy ?_) | (first | refine Qz ?_ | refine Ra ?_ | refine Rb ?_))
      refine retP_ok (st' := prS i0 l σ) (by simp) (by simp only [Try.results83]; rfl) (by simp [resP, St.box?, PF.get, loadB, TyK.agg, *]; rfl) (by repeat (first | exact List.Sublist.refl _ | exact List.nil_sublist _ | refine List.Sublist.cons_cons _ ?_ | refine List.Sublist.cons _ ?_)) ?_
      exact ⟨by rw [HB.out, h1, show (t.kind == 1) = false by simpa using h2]; rfl, rfl⟩
theorem begins_p (i0 : Nat) (l : List Tk) (σ : ST) (hl : l.length ≤ 100000) (h0 : 0 < l.length) (hi : σ.i ≤ 150000) : PCalls Try.prog 104 [.ptr i0 0] (prS i0 l σ) fun p st => p = .d (.v (.bool (beginsS l σ))) ∧ st = prS i0 l σ := by
  have H1 := Lib.hid (named_p i0 l σ hl h0 hi)
  have H2 := Lib.hid (is_p i0 l σ 0 0 rfl sSet hl h0 (by omega) (by decide))
  have H3 := Lib.hid (is_p i0 l σ 0 0 rfl sPar hl h0 (by omega) (by decide))
  have H4 := Lib.hid (binder_p i0 l σ hl h0 hi)
  have HB := Lib.hid (show beginsS l σ = (namedS l σ 0 || isS l σ 0 sSet || (isS l σ 0 sPar && !binderS l σ)) from rfl)
  unfold sPar sSet at *
  refine PCalls.enter Try.func104 rfl Try.ntmps104 (by simp) ?_
  simp only [argsF]
  repeat (first | (with_reducible first | refine Qa ?_ | refine Qb ?_ | refine Qc ?_ | refine Qd ?_ | refine Qe ?_ | refine Qf ?_ | refine Qg ?_ | refine Qh ?_ | refine Qi ?_ | refine Qj ?_ | refine Qk ?_ | refine Ql ?_ | refine Qm ?_ | refine Qn ?_ | refine Qo ?_ | refine Qp rfl ?_) | (first | refine Qq ?_ | refine Qr ?_) | (first | refine Qs ?_ | refine Qt ?_ | refine Qu ?_) | (first | refine Qv ?_ | refine Qw ?_) | (first | refine Qx ?_ | refine Qy ?_) | (first | refine Qz ?_ | refine Ra ?_ | refine Rb ?_))
  refine Re (H1.out) ?_
  rintro _ _ ⟨rfl, rfl⟩
  cases h1 : namedS l σ 0 with
  | true =>
    repeat (first | (with_reducible first | refine Qa ?_ | refine Qb ?_ | refine Qc ?_ | refine Qd ?_ | refine Qe ?_ | refine Qf ?_ | refine Qg ?_ | refine Qh ?_ | refine Qi ?_ | refine Qj ?_ | refine Qk ?_ | refine Ql ?_ | refine Qm ?_ | refine Qn ?_ | refine Qo ?_ | refine Qp rfl ?_) | (first | refine Qq ?_ | refine Qr ?_) | (first | refine Qs ?_ | refine Qt ?_ | refine Qu ?_) | (first | refine Qv ?_ | refine Qw ?_) | (first | refine Qx ?_ | refine Qy ?_) | (first | refine Qz ?_ | refine Ra ?_ | refine Rb ?_))
    refine retP_ok (st' := prS i0 l σ) (by simp) (by simp only [Try.results104]; rfl) (by simp [resP, St.box?, PF.get, loadB, TyK.agg, *]; rfl) (by repeat (first | exact List.Sublist.refl _ | exact List.nil_sublist _ | refine List.Sublist.cons_cons _ ?_ | refine List.Sublist.cons _ ?_)) ?_
    exact ⟨by rw [HB.out, h1]; rfl, rfl⟩
  | false =>
    repeat (first | (with_reducible first | refine Qa ?_ | refine Qb ?_ | refine Qc ?_ | refine Qd ?_ | refine Qe ?_ | refine Qf ?_ | refine Qg ?_ | refine Qh ?_ | refine Qi ?_ | refine Qj ?_ | refine Qk ?_ | refine Ql ?_ | refine Qm ?_ | refine Qn ?_ | refine Qo ?_ | refine Qp rfl ?_) | (first | refine Qq ?_ | refine Qr ?_) | (first | refine Qs ?_ | refine Qt ?_ | refine Qu ?_) | (first | refine Qv ?_ | refine Qw ?_) | (first | refine Qx ?_ | refine Qy ?_) | (first | refine Qz ?_ | refine Ra ?_ | refine Rb ?_))
    refine Re (H2.out) ?_
    rintro _ _ ⟨rfl, rfl⟩
    cases h2 : isS l σ 0 ⟨#[83, 101, 116]⟩ with
    | true =>
      repeat (first | (with_reducible first | refine Qa ?_ | refine Qb ?_ | refine Qc ?_ | refine Qd ?_ | refine Qe ?_ | refine Qf ?_ | refine Qg ?_ | refine Qh ?_ | refine Qi ?_ | refine Qj ?_ | refine Qk ?_ | refine Ql ?_ | refine Qm ?_ | refine Qn ?_ | refine Qo ?_ | refine Qp rfl ?_) | (first | refine Qq ?_ | refine Qr ?_) | (first | refine Qs ?_ | refine Qt ?_ | refine Qu ?_) | (first | refine Qv ?_ | refine Qw ?_) | (first | refine Qx ?_ | refine Qy ?_) | (first | refine Qz ?_ | refine Ra ?_ | refine Rb ?_))
      refine retP_ok (st' := prS i0 l σ) (by simp) (by simp only [Try.results104]; rfl) (by simp [resP, St.box?, PF.get, loadB, TyK.agg, *]; rfl) (by repeat (first | exact List.Sublist.refl _ | exact List.nil_sublist _ | refine List.Sublist.cons_cons _ ?_ | refine List.Sublist.cons _ ?_)) ?_
      exact ⟨by rw [HB.out, h1, h2]; rfl, rfl⟩
    | false =>
      repeat (first | (with_reducible first | refine Qa ?_ | refine Qb ?_ | refine Qc ?_ | refine Qd ?_ | refine Qe ?_ | refine Qf ?_ | refine Qg ?_ | refine Qh ?_ | refine Qi ?_ | refine Qj ?_ | refine Qk ?_ | refine Ql ?_ | refine Qm ?_ | refine Qn ?_ | refine Qo ?_ | refine Qp rfl ?_) | (first | refine Qq ?_ | refine Qr ?_) | (first | refine Qs ?_ | refine Qt ?_ | refine Qu ?_) | (first | refine Qv ?_ | refine Qw ?_) | (first | refine Qx ?_ | refine Qy ?_) | (first | refine Qz ?_ | refine Ra ?_ | refine Rb ?_))
      refine Re (H3.out) ?_
      rintro _ _ ⟨rfl, rfl⟩
      cases h3 : isS l σ 0 ⟨#[40]⟩ with
      | false =>
        repeat (first | (with_reducible first | refine Qa ?_ | refine Qb ?_ | refine Qc ?_ | refine Qd ?_ | refine Qe ?_ | refine Qf ?_ | refine Qg ?_ | refine Qh ?_ | refine Qi ?_ | refine Qj ?_ | refine Qk ?_ | refine Ql ?_ | refine Qm ?_ | refine Qn ?_ | refine Qo ?_ | refine Qp rfl ?_) | (first | refine Qq ?_ | refine Qr ?_) | (first | refine Qs ?_ | refine Qt ?_ | refine Qu ?_) | (first | refine Qv ?_ | refine Qw ?_) | (first | refine Qx ?_ | refine Qy ?_) | (first | refine Qz ?_ | refine Ra ?_ | refine Rb ?_))
        refine retP_ok (st' := prS i0 l σ) (by simp) (by simp only [Try.results104]; rfl) (by simp [resP, St.box?, PF.get, loadB, TyK.agg, *]; rfl) (by repeat (first | exact List.Sublist.refl _ | exact List.nil_sublist _ | refine List.Sublist.cons_cons _ ?_ | refine List.Sublist.cons _ ?_)) ?_
        exact ⟨by rw [HB.out, h1, h2, h3]; rfl, rfl⟩
      | true =>
        repeat (first | (with_reducible first | refine Qa ?_ | refine Qb ?_ | refine Qc ?_ | refine Qd ?_ | refine Qe ?_ | refine Qf ?_ | refine Qg ?_ | refine Qh ?_ | refine Qi ?_ | refine Qj ?_ | refine Qk ?_ | refine Ql ?_ | refine Qm ?_ | refine Qn ?_ | refine Qo ?_ | refine Qp rfl ?_) | (first | refine Qq ?_ | refine Qr ?_) | (first | refine Qs ?_ | refine Qt ?_ | refine Qu ?_) | (first | refine Qv ?_ | refine Qw ?_) | (first | refine Qx ?_ | refine Qy ?_) | (first | refine Qz ?_ | refine Ra ?_ | refine Rb ?_))
        refine Re (H4.out) ?_
        rintro _ _ ⟨rfl, rfl⟩
        repeat (first | (with_reducible first | refine Qa ?_ | refine Qb ?_ | refine Qc ?_ | refine Qd ?_ | refine Qe ?_ | refine Qf ?_ | refine Qg ?_ | refine Qh ?_ | refine Qi ?_ | refine Qj ?_ | refine Qk ?_ | refine Ql ?_ | refine Qm ?_ | refine Qn ?_ | refine Qo ?_ | refine Qp rfl ?_) | (first | refine Qq ?_ | refine Qr ?_) | (first | refine Qs ?_ | refine Qt ?_ | refine Qu ?_) | (first | refine Qv ?_ | refine Qw ?_) | (first | refine Qx ?_ | refine Qy ?_) | (first | refine Qz ?_ | refine Ra ?_ | refine Rb ?_))
        refine retP_ok (st' := prS i0 l σ) (by simp) (by simp only [Try.results104]; rfl) (by simp [resP, St.box?, PF.get, loadB, TyK.agg, *]; rfl) (by repeat (first | exact List.Sublist.refl _ | exact List.nil_sublist _ | refine List.Sublist.cons_cons _ ?_ | refine List.Sublist.cons _ ?_)) ?_
        exact ⟨by rw [HB.out, h1, h2, h3]; rfl, rfl⟩
theorem set_p (i0 : Nat) (l : List Tk) (σ : ST) (hl : l.length ≤ 100000) (h0 : 0 < l.length) (hi : σ.i ≤ 100000) : PCalls Try.prog 105 [.ptr i0 0] (prS i0 l σ) fun p st => p = aggD (setS l σ).1 ∧ st = prS i0 l (setS l σ).2 := by
  have H1 := Lib.hid (tok0_p i0 l σ hl h0 (by omega))
  have H2 := Lib.hid (tok0_p i0 l (incS σ) hl h0 (by show σ.i + 1 ≤ _; omega))
  have H3 := Lib.hid (fail_p i0 l (incS σ) 1 (tkg l (incS σ).i).at_)
  have HS := Lib.hid (show setS l σ = (if (tkg l (incS σ).i).kind == 3 then
    (.mk 2 (tkg l σ.i).at_ ⟨#[]⟩ (numT (tkg l (incS σ).i).text) [], incS (if 7 < numT (tkg l (incS σ).i).text then failS 1 (tkg l (incS σ).i).at_ (incS σ) else incS σ))
  else (.mk 2 (tkg l σ.i).at_ ⟨#[]⟩ 0 [], incS σ)) from rfl)
  have hin := wrap_i (show σ.i ≤ 150000 by omega)
  have hin2 : IntKind.i64.wrap (((incS σ).i : Int) + 1) = (((incS σ).i + 1 : Nat) : Int) := wrap_i (show σ.i + 1 ≤ 150000 by omega)
  have hii : ((incS σ).i : Int) = (σ.i : Int) + 1 := rfl
  have hfi := failS_i 1 (tkg l (incS σ).i).at_ (incS σ)
  have HFI := Lib.hid hfi
  clear hfi hii
  generalize tkg l (incS σ).i = t at *
  refine PCalls.enter Try.func105 rfl Try.ntmps105 (by simp) ?_
  simp only [argsF]
  repeat (first | (with_reducible first | refine Qa ?_ | refine Qb ?_ | refine Qc ?_ | refine Qd ?_ | refine Qe ?_ | refine Qf ?_ | refine Qg ?_ | refine Qh ?_ | refine Qi ?_ | refine Qj ?_ | refine Qk ?_ | refine Ql ?_ | refine Qm ?_ | refine Qn ?_ | refine Qo ?_ | refine Qp rfl ?_) | (first | refine Qq ?_ | refine Qr ?_) | (first | refine Qs ?_ | refine Qt ?_ | refine Qu ?_) | (first | refine Qv ?_ | refine Qw ?_) | (first | refine Qx ?_ | refine Qy ?_) | (first | refine Qz ?_ | refine Ra ?_ | refine Rb ?_))
  refine POps_alloc_a ?_
  intro i1 hi1
  simp only [prS, St.freshB_box, St.freshB_nil] at hi1
  repeat (first | (with_reducible first | refine Qa ?_ | refine Qb ?_ | refine Qc ?_ | refine Qd ?_ | refine Qe ?_ | refine Qf ?_ | refine Qg ?_ | refine Qh ?_ | refine Qi ?_ | refine Qj ?_ | refine Qk ?_ | refine Ql ?_ | refine Qm ?_ | refine Qn ?_ | refine Qo ?_ | refine Qp rfl ?_) | (first | refine Qq ?_ | refine Qr ?_) | (first | refine Qs ?_ | refine Qt ?_ | refine Qu ?_) | (first | refine Qv ?_ | refine Qw ?_) | (first | refine Qx ?_ | refine Qy ?_) | (first | refine Qz ?_ | refine Ra ?_ | refine Rb ?_))
  refine Rd 1 1 (H1.out) ?_
  rintro _ _ ⟨rfl, rfl⟩
  repeat (first | (with_reducible first | refine Qa ?_ | refine Qb ?_ | refine Qc ?_ | refine Qd ?_ | refine Qe ?_ | refine Qf ?_ | refine Qg ?_ | refine Qh ?_ | refine Qi ?_ | refine Qj ?_ | refine Qk ?_ | refine Ql ?_ | refine Qm ?_ | refine Qn ?_ | refine Qo ?_ | refine Qp rfl ?_) | (first | refine Qq ?_ | refine Qr ?_) | (first | refine Qs ?_ | refine Qt ?_ | refine Qu ?_) | (first | refine Qv ?_ | refine Qw ?_) | (first | refine Qx ?_ | refine Qy ?_) | (first | refine Qz ?_ | refine Ra ?_ | refine Rb ?_))
  refine POps_alloc_a ?_
  intro i2 hi2
  simp only [prS, List.cons_append, List.nil_append, List.append_nil, St.freshB_box, St.freshB_nil] at hi2
  repeat (first | (with_reducible first | refine Qa ?_ | refine Qb ?_ | refine Qc ?_ | refine Qd ?_ | refine Qe ?_ | refine Qf ?_ | refine Qg ?_ | refine Qh ?_ | refine Qi ?_ | refine Qj ?_ | refine Qk ?_ | refine Ql ?_ | refine Qm ?_ | refine Qn ?_ | refine Qo ?_ | refine Qp rfl ?_) | (first | refine Qq ?_ | refine Qr ?_) | (first | refine Qs ?_ | refine Qt ?_ | refine Qu ?_) | (first | refine Qv ?_ | refine Qw ?_) | (first | refine Qx ?_ | refine Qy ?_) | (first | refine Qz ?_ | refine Ra ?_ | refine Rb ?_))
  refine Rc ?_
  unfold prS
  repeat (first | (with_reducible first | refine Qa ?_ | refine Qb ?_ | refine Qc ?_ | refine Qd ?_ | refine Qe ?_ | refine Qf ?_ | refine Qg ?_ | refine Qh ?_ | refine Qi ?_ | refine Qj ?_ | refine Qk ?_ | refine Ql ?_ | refine Qm ?_ | refine Qn ?_ | refine Qo ?_ | refine Qp rfl ?_) | (first | refine Qq ?_ | refine Qr ?_) | (first | refine Qs ?_ | refine Qt ?_ | refine Qu ?_) | (first | refine Qv ?_ | refine Qw ?_) | (first | refine Qx ?_ | refine Qy ?_) | (first | refine Qz ?_ | refine Ra ?_ | refine Rb ?_))
  refine Rc ?_
  repeat (first | (with_reducible first | refine Qa ?_ | refine Qb ?_ | refine Qc ?_ | refine Qd ?_ | refine Qe ?_ | refine Qf ?_ | refine Qg ?_ | refine Qh ?_ | refine Qi ?_ | refine Qj ?_ | refine Qk ?_ | refine Ql ?_ | refine Qm ?_ | refine Qn ?_ | refine Qo ?_ | refine Qp rfl ?_) | (first | refine Qq ?_ | refine Qr ?_) | (first | refine Qs ?_ | refine Qt ?_ | refine Qu ?_) | (first | refine Qv ?_ | refine Qw ?_) | (first | refine Qx ?_ | refine Qy ?_) | (first | refine Qz ?_ | refine Ra ?_ | refine Rb ?_))
  refine Rd 2 1 (H2.out) ?_
  rintro _ _ ⟨rfl, rfl⟩
  by_cases h3 : t.kind = 3
  · rw [if_pos (by rw [h3]; rfl)] at HS
    repeat (first | (with_reducible first | refine Qa ?_ | refine Qb ?_ | refine Qc ?_ | refine Qd ?_ | refine Qe ?_ | refine Qf ?_ | refine Qg ?_ | refine Qh ?_ | refine Qi ?_ | refine Qj ?_ | refine Qk ?_ | refine Ql ?_ | refine Qm ?_ | refine Qn ?_ | refine Qo ?_ | refine Qp rfl ?_) | (first | refine Qq ?_ | refine Qr ?_) | (first | refine Qs ?_ | refine Qt ?_ | refine Qu ?_) | (first | refine Qv ?_ | refine Qw ?_) | (first | refine Qx ?_ | refine Qy ?_) | (first | refine Qz ?_ | refine Ra ?_ | refine Rb ?_))
    refine Rd 2 1 (H2.out) ?_
    rintro _ _ ⟨rfl, rfl⟩
    repeat (first | (with_reducible first | refine Qa ?_ | refine Qb ?_ | refine Qc ?_ | refine Qd ?_ | refine Qe ?_ | refine Qf ?_ | refine Qg ?_ | refine Qh ?_ | refine Qi ?_ | refine Qj ?_ | refine Qk ?_ | refine Ql ?_ | refine Qm ?_ | refine Qn ?_ | refine Qo ?_ | refine Qp rfl ?_) | (first | refine Qq ?_ | refine Qr ?_) | (first | refine Qs ?_ | refine Qt ?_ | refine Qu ?_) | (first | refine Qv ?_ | refine Qw ?_) | (first | refine Qx ?_ | refine Qy ?_) | (first | refine Qz ?_ | refine Ra ?_ | refine Rb ?_))
    refine POps_call_a (number_p t.text) ?_
    by_cases h7 : (7 : Int) < numT t.text
    · rw [if_pos h7] at HS
      have hin3 : IntKind.i64.wrap (((failS 1 t.at_ (incS σ)).i : Int) + 1) = (((failS 1 t.at_ (incS σ)).i + 1 : Nat) : Int) := by rw [HFI.out]; exact hin2
      repeat (first | (with_reducible first | refine Qa ?_ | refine Qb ?_ | refine Qc ?_ | refine Qd ?_ | refine Qe ?_ | refine Qf ?_ | refine Qg ?_ | refine Qh ?_ | refine Qi ?_ | refine Qj ?_ | refine Qk ?_ | refine Ql ?_ | refine Qm ?_ | refine Qn ?_ | refine Qo ?_ | refine Qp rfl ?_) | (first | refine Qq ?_ | refine Qr ?_) | (first | refine Qs ?_ | refine Qt ?_ | refine Qu ?_) | (first | refine Qv ?_ | refine Qw ?_) | (first | refine Qx ?_ | refine Qy ?_) | (first | refine Qz ?_ | refine Ra ?_ | refine Rb ?_))
      refine Rd 2 1 (H2.out) ?_
      rintro _ _ ⟨rfl, rfl⟩
      repeat (first | (with_reducible first | refine Qa ?_ | refine Qb ?_ | refine Qc ?_ | refine Qd ?_ | refine Qe ?_ | refine Qf ?_ | refine Qg ?_ | refine Qh ?_ | refine Qi ?_ | refine Qj ?_ | refine Qk ?_ | refine Ql ?_ | refine Qm ?_ | refine Qn ?_ | refine Qo ?_ | refine Qp rfl ?_) | (first | refine Qq ?_ | refine Qr ?_) | (first | refine Qs ?_ | refine Qt ?_ | refine Qu ?_) | (first | refine Qv ?_ | refine Qw ?_) | (first | refine Qx ?_ | refine Qy ?_) | (first | refine Qz ?_ | refine Ra ?_ | refine Rb ?_))
      refine Rd 2 1 (H3.out) ?_
      rintro _ _ ⟨rfl, rfl⟩
      unfold prS
      repeat (first | (with_reducible first | refine Qa ?_ | refine Qb ?_ | refine Qc ?_ | refine Qd ?_ | refine Qe ?_ | refine Qf ?_ | refine Qg ?_ | refine Qh ?_ | refine Qi ?_ | refine Qj ?_ | refine Qk ?_ | refine Ql ?_ | refine Qm ?_ | refine Qn ?_ | refine Qo ?_ | refine Qp rfl ?_) | (first | refine Qq ?_ | refine Qr ?_) | (first | refine Qs ?_ | refine Qt ?_ | refine Qu ?_) | (first | refine Qv ?_ | refine Qw ?_) | (first | refine Qx ?_ | refine Qy ?_) | (first | refine Qz ?_ | refine Ra ?_ | refine Rb ?_))
      refine Rc ?_
      repeat (first | (with_reducible first | refine Qa ?_ | refine Qb ?_ | refine Qc ?_ | refine Qd ?_ | refine Qe ?_ | refine Qf ?_ | refine Qg ?_ | refine Qh ?_ | refine Qi ?_ | refine Qj ?_ | refine Qk ?_ | refine Ql ?_ | refine Qm ?_ | refine Qn ?_ | refine Qo ?_ | refine Qp rfl ?_) | (first | refine Qq ?_ | refine Qr ?_) | (first | refine Qs ?_ | refine Qt ?_ | refine Qu ?_) | (first | refine Qv ?_ | refine Qw ?_) | (first | refine Qx ?_ | refine Qy ?_) | (first | refine Qz ?_ | refine Ra ?_ | refine Rb ?_))
      refine Rc ?_
      repeat (first | (with_reducible first | refine Qa ?_ | refine Qb ?_ | refine Qc ?_ | refine Qd ?_ | refine Qe ?_ | refine Qf ?_ | refine Qg ?_ | refine Qh ?_ | refine Qi ?_ | refine Qj ?_ | refine Qk ?_ | refine Ql ?_ | refine Qm ?_ | refine Qn ?_ | refine Qo ?_ | refine Qp rfl ?_) | (first | refine Qq ?_ | refine Qr ?_) | (first | refine Qs ?_ | refine Qt ?_ | refine Qu ?_) | (first | refine Qv ?_ | refine Qw ?_) | (first | refine Qx ?_ | refine Qy ?_) | (first | refine Qz ?_ | refine Ra ?_ | refine Rb ?_))
      refine Rc ?_
      repeat (first | (with_reducible first | refine Qa ?_ | refine Qb ?_ | refine Qc ?_ | refine Qd ?_ | refine Qe ?_ | refine Qf ?_ | refine Qg ?_ | refine Qh ?_ | refine Qi ?_ | refine Qj ?_ | refine Qk ?_ | refine Ql ?_ | refine Qm ?_ | refine Qn ?_ | refine Qo ?_ | refine Qp rfl ?_) | (first | refine Qq ?_ | refine Qr ?_) | (first | refine Qs ?_ | refine Qt ?_ | refine Qu ?_) | (first | refine Qv ?_ | refine Qw ?_) | (first | refine Qx ?_ | refine Qy ?_) | (first | refine Qz ?_ | refine Ra ?_ | refine Rb ?_))
      refine retP_ok (st' := prS i0 l (incS (failS 1 t.at_ (incS σ)))) (by simp) (by simp only [Try.results105]; rfl) (by simp [resP, St.box?, PF.get, loadB, TyK.agg, *]; rfl) (by repeat (first | exact List.Sublist.refl _ | exact List.nil_sublist _ | refine List.Sublist.cons_cons _ ?_ | refine List.Sublist.cons _ ?_)) ?_
      exact ⟨by rw [HS.out]; simp [aggD, encD_nd]; rfl, by rw [HS.out]; rfl⟩
    · rw [if_neg h7] at HS
      unfold prS
      repeat (first | (with_reducible first | refine Qa ?_ | refine Qb ?_ | refine Qc ?_ | refine Qd ?_ | refine Qe ?_ | refine Qf ?_ | refine Qg ?_ | refine Qh ?_ | refine Qi ?_ | refine Qj ?_ | refine Qk ?_ | refine Ql ?_ | refine Qm ?_ | refine Qn ?_ | refine Qo ?_ | refine Qp rfl ?_) | (first | refine Qq ?_ | refine Qr ?_) | (first | refine Qs ?_ | refine Qt ?_ | refine Qu ?_) | (first | refine Qv ?_ | refine Qw ?_) | (first | refine Qx ?_ | refine Qy ?_) | (first | refine Qz ?_ | refine Ra ?_ | refine Rb ?_))
      refine Rc ?_
      repeat (first | (with_reducible first | refine Qa ?_ | refine Qb ?_ | refine Qc ?_ | refine Qd ?_ | refine Qe ?_ | refine Qf ?_ | refine Qg ?_ | refine Qh ?_ | refine Qi ?_ | refine Qj ?_ | refine Qk ?_ | refine Ql ?_ | refine Qm ?_ | refine Qn ?_ | refine Qo ?_ | refine Qp rfl ?_) | (first | refine Qq ?_ | refine Qr ?_) | (first | refine Qs ?_ | refine Qt ?_ | refine Qu ?_) | (first | refine Qv ?_ | refine Qw ?_) | (first | refine Qx ?_ | refine Qy ?_) | (first | refine Qz ?_ | refine Ra ?_ | refine Rb ?_))
      refine Rc ?_
      repeat (first | (with_reducible first | refine Qa ?_ | refine Qb ?_ | refine Qc ?_ | refine Qd ?_ | refine Qe ?_ | refine Qf ?_ | refine Qg ?_ | refine Qh ?_ | refine Qi ?_ | refine Qj ?_ | refine Qk ?_ | refine Ql ?_ | refine Qm ?_ | refine Qn ?_ | refine Qo ?_ | refine Qp rfl ?_) | (first | refine Qq ?_ | refine Qr ?_) | (first | refine Qs ?_ | refine Qt ?_ | refine Qu ?_) | (first | refine Qv ?_ | refine Qw ?_) | (first | refine Qx ?_ | refine Qy ?_) | (first | refine Qz ?_ | refine Ra ?_ | refine Rb ?_))
      refine Rc ?_
      repeat (first | (with_reducible first | refine Qa ?_ | refine Qb ?_ | refine Qc ?_ | refine Qd ?_ | refine Qe ?_ | refine Qf ?_ | refine Qg ?_ | refine Qh ?_ | refine Qi ?_ | refine Qj ?_ | refine Qk ?_ | refine Ql ?_ | refine Qm ?_ | refine Qn ?_ | refine Qo ?_ | refine Qp rfl ?_) | (first | refine Qq ?_ | refine Qr ?_) | (first | refine Qs ?_ | refine Qt ?_ | refine Qu ?_) | (first | refine Qv ?_ | refine Qw ?_) | (first | refine Qx ?_ | refine Qy ?_) | (first | refine Qz ?_ | refine Ra ?_ | refine Rb ?_))
      refine retP_ok (st' := prS i0 l (incS (incS σ))) (by simp) (by simp only [Try.results105]; rfl) (by simp [resP, St.box?, PF.get, loadB, TyK.agg, *]; rfl) (by repeat (first | exact List.Sublist.refl _ | exact List.nil_sublist _ | refine List.Sublist.cons_cons _ ?_ | refine List.Sublist.cons _ ?_)) ?_
      exact ⟨by rw [HS.out]; simp [aggD, encD_nd]; rfl, by rw [HS.out]; rfl⟩
  · rw [if_neg (by simp [h3])] at HS
    repeat (first | (with_reducible first | refine Qa ?_ | refine Qb ?_ | refine Qc ?_ | refine Qd ?_ | refine Qe ?_ | refine Qf ?_ | refine Qg ?_ | refine Qh ?_ | refine Qi ?_ | refine Qj ?_ | refine Qk ?_ | refine Ql ?_ | refine Qm ?_ | refine Qn ?_ | refine Qo ?_ | refine Qp rfl ?_) | (first | refine Qq ?_ | refine Qr ?_) | (first | refine Qs ?_ | refine Qt ?_ | refine Qu ?_) | (first | refine Qv ?_ | refine Qw ?_) | (first | refine Qx ?_ | refine Qy ?_) | (first | refine Qz ?_ | refine Ra ?_ | refine Rb ?_))
    refine Rc ?_
    repeat (first | (with_reducible first | refine Qa ?_ | refine Qb ?_ | refine Qc ?_ | refine Qd ?_ | refine Qe ?_ | refine Qf ?_ | refine Qg ?_ | refine Qh ?_ | refine Qi ?_ | refine Qj ?_ | refine Qk ?_ | refine Ql ?_ | refine Qm ?_ | refine Qn ?_ | refine Qo ?_ | refine Qp rfl ?_) | (first | refine Qq ?_ | refine Qr ?_) | (first | refine Qs ?_ | refine Qt ?_ | refine Qu ?_) | (first | refine Qv ?_ | refine Qw ?_) | (first | refine Qx ?_ | refine Qy ?_) | (first | refine Qz ?_ | refine Ra ?_ | refine Rb ?_))
    refine retP_ok (st' := prS i0 l (incS σ)) (by simp) (by simp only [Try.results105]; rfl) (by simp [resP, St.box?, PF.get, loadB, TyK.agg, *]; rfl) (by repeat (first | exact List.Sublist.refl _ | exact List.nil_sublist _ | refine List.Sublist.cons_cons _ ?_ | refine List.Sublist.cons _ ?_)) ?_
    exact ⟨by rw [HS.out]; simp [aggD, encD_nd]; rfl, by rw [HS.out]; rfl⟩
end Go.Proofs.Ytahhgpafjiljfaa

namespace Go.Proofs.Ytahhgpafjiljfaa
open Go.RowKit
set_option maxRecDepth 100000
theorem tk_lt {l : List Tk} (hl : TkOk l) {j : Nat} (h : (tkg l j).kind ≠ 5) : j + 1 < l.length := by
  rcases Nat.lt_or_ge (j + 1) l.length with h1 | h1
  · exact h1
  · exfalso
    apply h
    have hp := hl.pos
    rcases Nat.lt_or_ge j l.length with h2 | h2
    · rw [show j = l.length - 1 by omega]; exact hl.last
    · have := hl.last
      rw [tkg_lt (by omega)] at this
      rw [tkg_ge h2 hp]; exact this
theorem mark_k {t : Tk} {s : ByteArray} (h : markB' t s = true) : t.kind ≠ 5 := by
  unfold markB' at h
  simp only [Bool.and_eq_true, Bool.or_eq_true, beq_iff_eq] at h
  rcases h.1 with h | h <;> rw [h] <;> decide
theorem named_k {t : Tk} (h : namedK t = true) : t.kind ≠ 5 := by
  unfold namedK at h
  simp only [Bool.and_eq_true, beq_iff_eq] at h
  rw [h.1]; decide
/-- it stands at a token, no more are left than before -/
def Adv (l : List Tk) (σ τ : ST) : Prop := Wf l τ ∧ (τ.bad = 0 → σ.bad = 0 ∧ σ.i ≤ τ.i)
/-- it stands at a token, fewer are left than before -/
def AdvS (l : List Tk) (σ τ : ST) : Prop := Wf l τ ∧ (τ.bad = 0 → σ.bad = 0 ∧ σ.i + 1 ≤ τ.i)
theorem AdvS.adv {l : List Tk} {σ τ : ST} (h : AdvS l σ τ) : Adv l σ τ := ⟨h.1, fun hb => ⟨(h.2 hb).1, by have := (h.2 hb).2; omega⟩⟩
theorem Adv.refl {l : List Tk} {σ : ST} (h : Wf l σ) : Adv l σ σ := ⟨h, fun hb => ⟨hb, Nat.le_refl _⟩⟩
theorem Adv.trans {l : List Tk} {σ τ ρ : ST} (h1 : Adv l σ τ) (h2 : Adv l τ ρ) : Adv l σ ρ := ⟨h2.1, fun hb => by
  obtain ⟨a, b⟩ := h2.2 hb
  obtain ⟨c, d⟩ := h1.2 a
  exact ⟨c, by omega⟩⟩
theorem AdvS.trans {l : List Tk} {σ τ ρ : ST} (h1 : AdvS l σ τ) (h2 : Adv l τ ρ) : AdvS l σ ρ := ⟨h2.1, fun hb => by
  obtain ⟨a, b⟩ := h2.2 hb
  obtain ⟨c, d⟩ := h1.2 a
  exact ⟨c, by omega⟩⟩
theorem Adv.transS {l : List Tk} {σ τ ρ : ST} (h1 : Adv l σ τ) (h2 : AdvS l τ ρ) : AdvS l σ ρ := ⟨h2.1, fun hb => by
  obtain ⟨a, b⟩ := h2.2 hb
  obtain ⟨c, d⟩ := h1.2 a
  exact ⟨c, by omega⟩⟩
section
variable {l : List Tk} (hl : TkOk l)
include hl
theorem inc_adv {σ : ST} (h : (tkg l σ.i).kind ≠ 5) : AdvS l σ (incS σ) := ⟨tk_lt hl h, fun hb => ⟨hb, Nat.le_refl _⟩⟩
theorem fail_adv {σ : ST} (e a : Int) (he : e ≠ 0) (h : Wf l σ) : AdvS l σ (failS e a σ) := by
  have _ := hl
  refine ⟨?_, fun hb => absurd hb (failS_bad e a σ he)⟩
  unfold Wf; rw [failS_i]; exact h
theorem want_adv {σ : ST} (s : ByteArray) (h : Wf l σ) : AdvS l σ (wantS l s σ) := by
  unfold wantS
  cases hb : isS l σ 0 s with
  | true =>
    simp only [if_true]
    split
    · exact inc_adv hl (mark_k hb)
    · rename_i hz
      exact ⟨h, fun hb => absurd hb hz⟩
  | false =>
    simp only [Bool.false_eq_true, if_false]
    rw [if_neg (failS_bad _ _ _ (by decide))]
    exact fail_adv hl _ _ (by decide) h
theorem name_adv {σ : ST} (h : Wf l σ) : AdvS l σ (nameS l σ).2 := by
  unfold nameS
  cases hb : namedS l σ 0 with
  | true =>
    simp only [if_true]
    split
    · exact inc_adv hl (named_k hb)
    · rename_i hz
      exact ⟨h, fun hb => absurd hb hz⟩
  | false =>
    simp only [Bool.false_eq_true, if_false]
    rw [if_neg (failS_bad _ _ _ (by decide))]
    exact fail_adv hl _ _ (by decide) h
theorem variable_adv {σ : ST} (h : Wf l σ) : AdvS l σ (variableS l σ).2 := by
  unfold variableS
  split
  · rename_i hk
    simp only [Bool.and_eq_true, beq_iff_eq] at hk
    exact inc_adv hl (by rw [hk.1]; decide)
  · exact name_adv hl h
theorem set_adv {σ : ST} (h : isS l σ 0 sSet = true) : AdvS l σ (setS l σ).2 := by
  have h1 := inc_adv hl (mark_k h)
  unfold setS
  simp only
  split
  · rename_i hk
    have hk : (tkg l (incS σ).i).kind = 3 := by simpa using hk
    split
    · have h2 := h1.trans (fail_adv hl 1 (tkg l (incS σ).i).at_ (by decide) h1.1).adv
      refine h2.trans (inc_adv hl ?_).adv
      rw [failS_i, hk]; decide
    · exact h1.trans (inc_adv hl (by rw [hk]; decide)).adv
  · exact h1
theorem parse_adv : ∀ (n : Nat),
    (∀ k a σ, Wf l σ → Adv l σ (typedS l n k a σ).2) ∧ (∀ σ, Wf l σ → Adv l σ (termS l n σ).2) ∧ (∀ σ, Wf l σ → Adv l σ (atomS l n σ).2 ∧ (0 < n → AdvS l σ (atomS l n σ).2)) ∧ (∀ σ, Wf l σ → Adv l σ (appS l n σ).2) ∧ (∀ g σ, Wf l σ → Adv l σ (appL l n g σ).2) := by
  intro n
  induction n with
  | zero => exact ⟨fun _ _ _ h => Adv.refl h, fun _ h => Adv.refl h, fun _ h => ⟨Adv.refl h, fun h => absurd h (Nat.lt_irrefl 0)⟩, fun _ h => Adv.refl h, fun _ _ h => Adv.refl h⟩
  | succ n ih =>
    obtain ⟨i1, i2, i3, i4, i5⟩ := ih
    refine ⟨fun k a σ h => ?_, fun σ h => ?_, fun σ h => ?_, fun σ h => ?_, fun g σ h => ?_⟩
    · simp only [typedS]
      have h1 := want_adv hl sPar h
      have h2 := h1.trans (variable_adv hl h1.1).adv
      have h3 := h2.trans (want_adv hl sCol h2.1).adv
      have h4 := h3.trans (i2 _ h3.1)
      have h5 := h4.trans (want_adv hl sRap h4.1).adv
      have h6 := h5.trans (want_adv hl sArr h5.1).adv
      exact (h6.trans (i2 _ h6.1)).adv
    · simp only [termS]
      split
      · exact Adv.refl h
      · split
        · rename_i hi
          have h1 := inc_adv hl (mark_k hi)
          exact (h1.trans (i1 _ _ _ h1.1)).adv
        · split
          · exact i1 _ _ _ h
          · have h1 := i4 σ h
            split
            · rename_i hi
              have h2 := h1.transS (inc_adv hl (mark_k hi.2))
              exact (h2.trans (i2 _ h2.1)).adv
            · exact h1
    · have : AdvS l σ (atomS l (n + 1) σ).2 := by
        simp only [atomS]
        split
        · rename_i hb
          exact ⟨h, fun hb' => absurd hb' hb⟩
        · split
          · rename_i hs; exact set_adv hl hs
          · split
            · rename_i hi
              have h1 := inc_adv hl (mark_k hi)
              have h2 := h1.trans (i2 _ h1.1)
              exact h2.trans (want_adv hl sRap h2.1).adv
            · exact name_adv hl h
      exact ⟨this.adv, fun _ => this⟩
    · simp only [appS]
      have h1 := (i3 σ h).1
      exact h1.trans (i5 _ _ h1.1)
    · simp only [appL]
      split
      · have h1 := (i3 σ h).1
        exact h1.trans (i5 _ _ h1.1)
      · exact Adv.refl h
end
end Go.Proofs.Ytahhgpafjiljfaa

namespace Go.Proofs.Ytahhgpafjiljfaa
open Go.RowKit
set_option maxRecDepth 100000
theorem agg_mk (k a n : Int) (s : ByteArray) (sub : List Nd) : aggD (Nd.mk k a s n sub) = .agg [.d (.v (.int .i64 k)), .d (.v (.int .i64 a)), .d (.v (.string s)), .d (.v (.int .i64 n)), .d (.sl (sub.map encD))] := by
  simp only [aggD, encD_nd, List.map_cons, List.map_nil, Nd.kind, Nd.at, Nd.name, Nd.num, Nd.sub]
def TermC (l : List Tk) (n : Nat) (σ : ST) : Prop := ∀ i0, PCalls Try.prog 45 [.ptr i0 0] (prS i0 l σ) fun p s => p = aggD (termS l n σ).1 ∧ s = prS i0 l (termS l n σ).2
def TypedC (l : List Tk) (n : Nat) (k a : Int) (σ : ST) : Prop := ∀ i0, PCalls Try.prog 82 [.ptr i0 0, .d (.v (.int .i64 k)), .d (.v (.int .i64 a))] (prS i0 l σ) fun p s => p = aggD (typedS l n k a σ).1 ∧ s = prS i0 l (typedS l n k a σ).2
def AtomC (l : List Tk) (n : Nat) (σ : ST) : Prop := ∀ i0, PCalls Try.prog 86 [.ptr i0 0] (prS i0 l σ) fun p s => p = aggD (atomS l n σ).1 ∧ s = prS i0 l (atomS l n σ).2
def AppC (l : List Tk) (n : Nat) (σ : ST) : Prop := ∀ i0, PCalls Try.prog 84 [.ptr i0 0] (prS i0 l σ) fun p s => p = aggD (appS l n σ).1 ∧ s = prS i0 l (appS l n σ).2
def Fu (l : List Tk) (n c : Nat) (σ : ST) : Prop := 0 < n ∧ (σ.bad = 0 → 6 * (l.length - σ.i) + c ≤ n)
theorem Fu.next {l : List Tk} {n c d : Nat} {σ τ : ST} (h : Fu l (n + 1) c σ) (hw : Wf l σ) (ha : AdvS l σ τ) (hn : 0 < n) (hc : d ≤ c + 5) : Fu l n d τ := ⟨hn, fun hb => by
  obtain ⟨h1, h2⟩ := ha.2 hb
  have h3 := h.2 h1
  have := ha.1
  unfold Wf at hw this
  omega⟩
theorem Fu.same {l : List Tk} {n c d : Nat} {σ τ : ST} (h : Fu l (n + 1) c σ) (hw : Wf l σ) (ha : Adv l σ τ) (hn : 0 < n) (hc : d + 1 ≤ c) : Fu l n d τ := ⟨hn, fun hb => by
  obtain ⟨h1, h2⟩ := ha.2 hb
  have h3 := h.2 h1
  have := ha.1
  unfold Wf at hw this
  omega⟩
theorem Wf.le {l : List Tk} (hl : TkOk l) {σ : ST} (h : Wf l σ) : σ.i ≤ 100000 := by
  have := hl.len
  unfold Wf at h; omega
set_option maxHeartbeats 4000000 in
theorem typed_w {l : List Tk} (hl : TkOk l) (n : Nat) (hn : 0 < n) (IH : ∀ σ, Wf l σ → Fu l n 6 σ → TermC l n σ) (k a : Int) (σ : ST) (hw : Wf l σ) (hf : Fu l (n + 1) 4 σ) : TypedC l (n + 1) k a σ := by
  intro i0
  have h1 := want_adv hl sPar hw
  have h2 := h1.trans (variable_adv hl h1.1).adv
  have h3 := h2.trans (want_adv hl sCol h2.1).adv
  have h4 := h3.trans ((parse_adv hl n).2.1 _ h3.1)
  have h5 := h4.trans (want_adv hl sRap h4.1).adv
  have h6 := h5.trans (want_adv hl sArr h5.1).adv
  have c1 := want_p i0 l σ sPar hl.len hl.pos (Nat.le_trans (hw.le hl) (by decide))
  have c2 := variable_p i0 l _ hl.len hl.pos (Nat.le_trans (h1.1.le hl) (by decide))
  have c3 := want_p i0 l _ sCol hl.len hl.pos (Nat.le_trans (h2.1.le hl) (by decide))
  have c4 := IH _ h3.1 (hf.next hw h3 hn (by omega)) i0
  have c5 := want_p i0 l _ sRap hl.len hl.pos (Nat.le_trans (h4.1.le hl) (by decide))
  have c6 := want_p i0 l _ sArr hl.len hl.pos (Nat.le_trans (h5.1.le hl) (by decide))
  have c7 := IH _ h6.1 (hf.next hw h6 hn (by omega)) i0
  have HT := Lib.hid (show typedS l (n + 1) k a σ = (.mk k a (variableS l (wantS l sPar σ)).1 0 [(termS l n (wantS l sCol (variableS l (wantS l sPar σ)).2)).1, (termS l n (wantS l sArr (wantS l sRap (termS l n (wantS l sCol (variableS l (wantS l sPar σ)).2)).2))).1], (termS l n (wantS l sArr (wantS l sRap (termS l n (wantS l sCol (variableS l (wantS l sPar σ)).2)).2))).2) from rfl)
  clear h1 h2 h3 h4 h5 h6 hf hw IH
  generalize wantS l sPar σ = σ1 at *
  generalize (variableS l σ1).1 = x at *
  generalize (variableS l σ1).2 = σ2 at *
  generalize wantS l sCol σ2 = σ3 at *
  generalize (termS l n σ3).1 = A at *
  generalize (termS l n σ3).2 = σ4 at *
  generalize wantS l sRap σ4 = σ5 at *
  generalize wantS l sArr σ5 = σ6 at *
  generalize (termS l n σ6).1 = B at *
  generalize (termS l n σ6).2 = σ7 at *
  simp only [aggD, encD_nd, List.map_cons, List.map_nil] at c4 c7
  unfold sPar at c1
  unfold sCol at c3
  unfold sRap at c5
  unfold sArr at c6
  have C1 := Lib.hid c1
  have C2 := Lib.hid c2
  have C3 := Lib.hid c3
  have C4 := Lib.hid c4
  have C5 := Lib.hid c5
  have C6 := Lib.hid c6
  have C7 := Lib.hid c7
  clear c1 c2 c3 c4 c5 c6 c7
  rw [HT.out]
  clear HT
  refine PCalls.enter Try.func82 rfl Try.ntmps82 (by simp) ?_
  simp only [argsF]
  repeat (first | (with_reducible first | refine Qa ?_ | refine Qb ?_ | refine Qc ?_ | refine Qd ?_ | refine Qe ?_ | refine Qf ?_ | refine Qg ?_ | refine Qh ?_ | refine Qi ?_ | refine Qj ?_ | refine Qk ?_ | refine Ql ?_ | refine Qm ?_ | refine Qn ?_ | refine Qo ?_ | refine Qp rfl ?_) | (first | refine Qq ?_ | refine Qr ?_) | (first | refine Qs ?_ | refine Qt ?_ | refine Qu ?_) | (first | refine Qv ?_ | refine Qw ?_) | (first | refine Qx ?_ | refine Qy ?_) | (first | refine Qz ?_ | refine Ra ?_ | refine Rb ?_))
  refine POps_alloc_a ?_
  intro i1 hi1
  simp only [prS, St.freshB_box, St.freshB_nil] at hi1
  repeat (first | (with_reducible first | refine Qa ?_ | refine Qb ?_ | refine Qc ?_ | refine Qd ?_ | refine Qe ?_ | refine Qf ?_ | refine Qg ?_ | refine Qh ?_ | refine Qi ?_ | refine Qj ?_ | refine Qk ?_ | refine Ql ?_ | refine Qm ?_ | refine Qn ?_ | refine Qo ?_ | refine Qp rfl ?_) | (first | refine Qq ?_ | refine Qr ?_) | (first | refine Qs ?_ | refine Qt ?_ | refine Qu ?_) | (first | refine Qv ?_ | refine Qw ?_) | (first | refine Qx ?_ | refine Qy ?_) | (first | refine Qz ?_ | refine Ra ?_ | refine Rb ?_))
  refine POps_alloc_a ?_
  intro i2 hi2
  simp only [prS, St.freshB_box, St.freshB_nil] at hi2
  repeat (first | (with_reducible first | refine Qa ?_ | refine Qb ?_ | refine Qc ?_ | refine Qd ?_ | refine Qe ?_ | refine Qf ?_ | refine Qg ?_ | refine Qh ?_ | refine Qi ?_ | refine Qj ?_ | refine Qk ?_ | refine Ql ?_ | refine Qm ?_ | refine Qn ?_ | refine Qo ?_ | refine Qp rfl ?_) | (first | refine Qq ?_ | refine Qr ?_) | (first | refine Qs ?_ | refine Qt ?_ | refine Qu ?_) | (first | refine Qv ?_ | refine Qw ?_) | (first | refine Qx ?_ | refine Qy ?_) | (first | refine Qz ?_ | refine Ra ?_ | refine Rb ?_))
  refine Rc ?_
  repeat (first | (with_reducible first | refine Qa ?_ | refine Qb ?_ | refine Qc ?_ | refine Qd ?_ | refine Qe ?_ | refine Qf ?_ | refine Qg ?_ | refine Qh ?_ | refine Qi ?_ | refine Qj ?_ | refine Qk ?_ | refine Ql ?_ | refine Qm ?_ | refine Qn ?_ | refine Qo ?_ | refine Qp rfl ?_) | (first | refine Qq ?_ | refine Qr ?_) | (first | refine Qs ?_ | refine Qt ?_ | refine Qu ?_) | (first | refine Qv ?_ | refine Qw ?_) | (first | refine Qx ?_ | refine Qy ?_) | (first | refine Qz ?_ | refine Ra ?_ | refine Rb ?_))
  refine Rd 2 1 (C1.out) ?_
  rintro _ _ ⟨rfl, rfl⟩
  repeat (first | (with_reducible first | refine Qa ?_ | refine Qb ?_ | refine Qc ?_ | refine Qd ?_ | refine Qe ?_ | refine Qf ?_ | refine Qg ?_ | refine Qh ?_ | refine Qi ?_ | refine Qj ?_ | refine Qk ?_ | refine Ql ?_ | refine Qm ?_ | refine Qn ?_ | refine Qo ?_ | refine Qp rfl ?_) | (first | refine Qq ?_ | refine Qr ?_) | (first | refine Qs ?_ | refine Qt ?_ | refine Qu ?_) | (first | refine Qv ?_ | refine Qw ?_) | (first | refine Qx ?_ | refine Qy ?_) | (first | refine Qz ?_ | refine Ra ?_ | refine Rb ?_))
  refine Rd 2 1 (C2.out) ?_
  rintro _ _ ⟨rfl, rfl⟩
  repeat (first | (with_reducible first | refine Qa ?_ | refine Qb ?_ | refine Qc ?_ | refine Qd ?_ | refine Qe ?_ | refine Qf ?_ | refine Qg ?_ | refine Qh ?_ | refine Qi ?_ | refine Qj ?_ | refine Qk ?_ | refine Ql ?_ | refine Qm ?_ | refine Qn ?_ | refine Qo ?_ | refine Qp rfl ?_) | (first | refine Qq ?_ | refine Qr ?_) | (first | refine Qs ?_ | refine Qt ?_ | refine Qu ?_) | (first | refine Qv ?_ | refine Qw ?_) | (first | refine Qx ?_ | refine Qy ?_) | (first | refine Qz ?_ | refine Ra ?_ | refine Rb ?_))
  refine Rc ?_
  repeat (first | (with_reducible first | refine Qa ?_ | refine Qb ?_ | refine Qc ?_ | refine Qd ?_ | refine Qe ?_ | refine Qf ?_ | refine Qg ?_ | refine Qh ?_ | refine Qi ?_ | refine Qj ?_ | refine Qk ?_ | refine Ql ?_ | refine Qm ?_ | refine Qn ?_ | refine Qo ?_ | refine Qp rfl ?_) | (first | refine Qq ?_ | refine Qr ?_) | (first | refine Qs ?_ | refine Qt ?_ | refine Qu ?_) | (first | refine Qv ?_ | refine Qw ?_) | (first | refine Qx ?_ | refine Qy ?_) | (first | refine Qz ?_ | refine Ra ?_ | refine Rb ?_))
  refine Rd 2 1 (C3.out) ?_
  rintro _ _ ⟨rfl, rfl⟩
  repeat (first | (with_reducible first | refine Qa ?_ | refine Qb ?_ | refine Qc ?_ | refine Qd ?_ | refine Qe ?_ | refine Qf ?_ | refine Qg ?_ | refine Qh ?_ | refine Qi ?_ | refine Qj ?_ | refine Qk ?_ | refine Ql ?_ | refine Qm ?_ | refine Qn ?_ | refine Qo ?_ | refine Qp rfl ?_) | (first | refine Qq ?_ | refine Qr ?_) | (first | refine Qs ?_ | refine Qt ?_ | refine Qu ?_) | (first | refine Qv ?_ | refine Qw ?_) | (first | refine Qx ?_ | refine Qy ?_) | (first | refine Qz ?_ | refine Ra ?_ | refine Rb ?_))
  refine Rd 2 1 (C4.out) ?_
  rintro _ _ ⟨rfl, rfl⟩
  repeat (first | (with_reducible first | refine Qa ?_ | refine Qb ?_ | refine Qc ?_ | refine Qd ?_ | refine Qe ?_ | refine Qf ?_ | refine Qg ?_ | refine Qh ?_ | refine Qi ?_ | refine Qj ?_ | refine Qk ?_ | refine Ql ?_ | refine Qm ?_ | refine Qn ?_ | refine Qo ?_ | refine Qp rfl ?_) | (first | refine Qq ?_ | refine Qr ?_) | (first | refine Qs ?_ | refine Qt ?_ | refine Qu ?_) | (first | refine Qv ?_ | refine Qw ?_) | (first | refine Qx ?_ | refine Qy ?_) | (first | refine Qz ?_ | refine Ra ?_ | refine Rb ?_))
  refine POps_alloc_a ?_
  intro i3 hi3
  simp only [prS, List.cons_append, List.nil_append, List.append_nil, St.freshB_box, St.freshB_nil] at hi3
  repeat (first | (with_reducible first | refine Qa ?_ | refine Qb ?_ | refine Qc ?_ | refine Qd ?_ | refine Qe ?_ | refine Qf ?_ | refine Qg ?_ | refine Qh ?_ | refine Qi ?_ | refine Qj ?_ | refine Qk ?_ | refine Ql ?_ | refine Qm ?_ | refine Qn ?_ | refine Qo ?_ | refine Qp rfl ?_) | (first | refine Qq ?_ | refine Qr ?_) | (first | refine Qs ?_ | refine Qt ?_ | refine Qu ?_) | (first | refine Qv ?_ | refine Qw ?_) | (first | refine Qx ?_ | refine Qy ?_) | (first | refine Qz ?_ | refine Ra ?_ | refine Rb ?_))
  refine Rc ?_
  repeat (first | (with_reducible first | refine Qa ?_ | refine Qb ?_ | refine Qc ?_ | refine Qd ?_ | refine Qe ?_ | refine Qf ?_ | refine Qg ?_ | refine Qh ?_ | refine Qi ?_ | refine Qj ?_ | refine Qk ?_ | refine Ql ?_ | refine Qm ?_ | refine Qn ?_ | refine Qo ?_ | refine Qp rfl ?_) | (first | refine Qq ?_ | refine Qr ?_) | (first | refine Qs ?_ | refine Qt ?_ | refine Qu ?_) | (first | refine Qv ?_ | refine Qw ?_) | (first | refine Qx ?_ | refine Qy ?_) | (first | refine Qz ?_ | refine Ra ?_ | refine Rb ?_))
  refine Rd 3 1 (C5.out) ?_
  rintro _ _ ⟨rfl, rfl⟩
  repeat (first | (with_reducible first | refine Qa ?_ | refine Qb ?_ | refine Qc ?_ | refine Qd ?_ | refine Qe ?_ | refine Qf ?_ | refine Qg ?_ | refine Qh ?_ | refine Qi ?_ | refine Qj ?_ | refine Qk ?_ | refine Ql ?_ | refine Qm ?_ | refine Qn ?_ | refine Qo ?_ | refine Qp rfl ?_) | (first | refine Qq ?_ | refine Qr ?_) | (first | refine Qs ?_ | refine Qt ?_ | refine Qu ?_) | (first | refine Qv ?_ | refine Qw ?_) | (first | refine Qx ?_ | refine Qy ?_) | (first | refine Qz ?_ | refine Ra ?_ | refine Rb ?_))
  refine Rd 3 1 (C6.out) ?_
  rintro _ _ ⟨rfl, rfl⟩
  repeat (first | (with_reducible first | refine Qa ?_ | refine Qb ?_ | refine Qc ?_ | refine Qd ?_ | refine Qe ?_ | refine Qf ?_ | refine Qg ?_ | refine Qh ?_ | refine Qi ?_ | refine Qj ?_ | refine Qk ?_ | refine Ql ?_ | refine Qm ?_ | refine Qn ?_ | refine Qo ?_ | refine Qp rfl ?_) | (first | refine Qq ?_ | refine Qr ?_) | (first | refine Qs ?_ | refine Qt ?_ | refine Qu ?_) | (first | refine Qv ?_ | refine Qw ?_) | (first | refine Qx ?_ | refine Qy ?_) | (first | refine Qz ?_ | refine Ra ?_ | refine Rb ?_))
  refine PW_drawnL (J := keepJ [(i3, _)]) [(0, .a), (1, .a), (2, .e), (3, .a), (4, .a), (5, .e)] (by kernel_rfl) (by rfl) (by kernel_rfl) (by (repeat (first | exact keepJ_nil _ | refine keepJ_cons (by simp [St.box?, *] <;> rfl) ?_))) ?_
  repeat (first | with_reducible refine PL_nil ?_ | refine PL_gn2 ?_ | refine PL_s2 ?_ | refine PL_b2 ?_)
  refine PL_callX 3 1 (C7.out) ?_
  rintro _ _ ⟨rfl, rfl⟩
  refine ⟨.inr (by (repeat (first | exact keepJ_nil _ | refine keepJ_cons (by simp [St.box?, *] <;> rfl) ?_))), ?_⟩
  repeat (first | with_reducible refine PL_nil ?_ | refine PL_gn2 ?_ | refine PL_s2 ?_ | refine PL_b2 ?_)
  refine PL_bs ?_ rfl (by decide) rfl (by simp; rfl) (by rfl) (by simp; rfl) (by rfl) (by decide) (by decide) (by simp [nev, nevA, nevB, evBuild, PF.eval, PF.get, PF.wants, cPV, cCell, PV.rows, evBin, evUn, evConv, evLen, loadA, loadB, TyK.agg, partA, St.box?, St.tok?, St.setBox, St.setTok, fillO, spl, PV.ps, PV.one, evalArgs, aggD, slD, encD_nd, encD_bd, encD_rw, encD_dc, encD_str, encD_int, *]; rfl) (by simp [rowsOf, toDs, PV.toD]; rfl)
  repeat (first | with_reducible refine PL_nil ?_ | refine PL_gn2 ?_ | refine PL_s2 ?_ | refine PL_b2 ?_)
  refine PL_store rfl rfl (by simp [nev, nevA, nevB, evBuild, PF.eval, PF.get, PF.wants, cPV, cCell, PV.rows, evBin, evUn, evConv, evLen, loadA, loadB, TyK.agg, partA, St.box?, St.tok?, St.setBox, St.setTok, fillO, spl, PV.ps, PV.one, evalArgs, aggD, slD, encD_nd, encD_bd, encD_rw, encD_dc, encD_str, encD_int, *]; rfl) (by rfl) (by simp [nev, nevA, nevB, evBuild, PF.eval, PF.get, PF.wants, cPV, cCell, PV.rows, evBin, evUn, evConv, evLen, loadA, loadB, TyK.agg, partA, St.box?, St.tok?, St.setBox, St.setTok, fillO, spl, PV.ps, PV.one, evalArgs, aggD, slD, encD_nd, encD_bd, encD_rw, encD_dc, encD_str, encD_int, *]; rfl) (by simp [PV.ps, aggD, slD, encD_nd, encD_bd, encD_rw, encD_dc, encD_str, encD_int]; rfl) (by first | rfl | (simp [*]; done) | (simp [PV.one, *]; done) | fail) (by simp; rfl) (by first | (simp; done) | fail) (by simp [nev, nevA, nevB, evBuild, PF.eval, PF.get, PF.wants, cPV, cCell, PV.rows, evBin, evUn, evConv, evLen, loadA, loadB, TyK.agg, partA, St.box?, St.tok?, St.setBox, St.setTok, fillO, spl, PV.ps, PV.one, evalArgs, aggD, slD, encD_nd, encD_bd, encD_rw, encD_dc, encD_str, encD_int, *]; rfl) (by rfl) (by first | (simp; done) | fail) (by simp [St.setBox, spl, *]; rfl) (by first | exact .inl (by decide +kernel) | exact .inr (by (repeat (first | exact keepJ_nil _ | refine keepJ_cons (by simp [St.box?, *] <;> rfl) ?_)))) ?_
  repeat (first | with_reducible refine PL_nil ?_ | refine PL_gn2 ?_ | refine PL_s2 ?_ | refine PL_b2 ?_)
  repeat (first | (with_reducible first | refine Qa ?_ | refine Qb ?_ | refine Qc ?_ | refine Qd ?_ | refine Qe ?_ | refine Qf ?_ | refine Qg ?_ | refine Qh ?_ | refine Qi ?_ | refine Qj ?_ | refine Qk ?_ | refine Ql ?_ | refine Qm ?_ | refine Qn ?_ | refine Qo ?_ | refine Qp rfl ?_) | (first | refine Qq ?_ | refine Qr ?_) | (first | refine Qs ?_ | refine Qt ?_ | refine Qu ?_) | (first | refine Qv ?_ | refine Qw ?_) | (first | refine Qx ?_ | refine Qy ?_) | (first | refine Qz ?_ | refine Ra ?_ | refine Rb ?_))
  refine Rc ?_
  repeat (first | (with_reducible first | refine Qa ?_ | refine Qb ?_ | refine Qc ?_ | refine Qd ?_ | refine Qe ?_ | refine Qf ?_ | refine Qg ?_ | refine Qh ?_ | refine Qi ?_ | refine Qj ?_ | refine Qk ?_ | refine Ql ?_ | refine Qm ?_ | refine Qn ?_ | refine Qo ?_ | refine Qp rfl ?_) | (first | refine Qq ?_ | refine Qr ?_) | (first | refine Qs ?_ | refine Qt ?_ | refine Qu ?_) | (first | refine Qv ?_ | refine Qw ?_) | (first | refine Qx ?_ | refine Qy ?_) | (first | refine Qz ?_ | refine Ra ?_ | refine Rb ?_))
  refine retP_ok (st' := prS i0 l σ7) (by simp) (by simp only [Try.results82]; rfl) (by simp [resP, St.box?, PF.get, loadB, TyK.agg, *]; rfl) (by repeat (first | exact List.Sublist.refl _ | exact List.nil_sublist _ | refine List.Sublist.cons_cons _ ?_ | refine List.Sublist.cons _ ?_)) ?_
  exact ⟨by rw [agg_mk]; simp only [List.map_cons, List.map_nil, encD_nd]; rfl, rfl⟩
theorem atom_w {l : List Tk} (hl : TkOk l) (n : Nat) (IH : ∀ σ, Wf l σ → Fu l n 6 σ → 0 < n → TermC l n σ) (σ : ST) (hw : Wf l σ) (hf : Fu l (n + 1) 3 σ) : AtomC l (n + 1) σ := by
  intro i0
  have b1 : σ.i ≤ 150000 := Nat.le_trans (hw.le hl) (by decide)
  have c1 := Lib.hid (is_p i0 l σ 0 0 rfl sSet hl.len hl.pos (by omega) (by decide))
  have c2 := Lib.hid (set_p i0 l σ hl.len hl.pos (hw.le hl))
  have c3 := Lib.hid (is_p i0 l σ 0 0 rfl sPar hl.len hl.pos (by omega) (by decide))
  have c4 := Lib.hid (tok0_p i0 l σ hl.len hl.pos b1)
  have c5 := Lib.hid (name_p i0 l σ hl.len hl.pos b1)
  have HT := Lib.hid (show atomS l (n + 1) σ = (if σ.bad ≠ 0 then (zNd, σ) else if isS l σ 0 sSet then setS l σ else if isS l σ 0 sPar then ((termS l n (incS σ)).1, wantS l sRap (termS l n (incS σ)).2) else (.mk 1 (tkg l σ.i).at_ (nameS l σ).1 0 [], (nameS l σ).2)) from by simp only [atomS])
  have hin := wrap_i b1
  unfold sSet at c1
  unfold sPar at c3
  by_cases hz : σ.bad = 0
  rotate_left
  · rw [if_pos hz] at HT
    rw [HT.out]
    unfold prS
    refine PCalls.enter Try.func86 rfl Try.ntmps86 (by simp) ?_
    simp only [argsF]
    repeat (first | (with_reducible first | refine Qa ?_ | refine Qb ?_ | refine Qc ?_ | refine Qd ?_ | refine Qe ?_ | refine Qf ?_ | refine Qg ?_ | refine Qh ?_ | refine Qi ?_ | refine Qj ?_ | refine Qk ?_ | refine Ql ?_ | refine Qm ?_ | refine Qn ?_ | refine Qo ?_ | refine Qp rfl ?_) | (first | refine Qq ?_ | refine Qr ?_) | (first | refine Qs ?_ | refine Qt ?_ | refine Qu ?_) | (first | refine Qv ?_ | refine Qw ?_) | (first | refine Qx ?_ | refine Qy ?_) | (first | refine Qz ?_ | refine Ra ?_ | refine Rb ?_))
    refine POps_alloc_a ?_
    intro i1 hi1
    simp only [prS, List.cons_append, List.nil_append, List.append_nil, List.drop_succ_cons, List.drop_zero, List.drop_nil, St.freshB_box, St.freshB_nil, St.freshB_tok, St.freshB_obj] at hi1
    repeat (first | (with_reducible first | refine Qa ?_ | refine Qb ?_ | refine Qc ?_ | refine Qd ?_ | refine Qe ?_ | refine Qf ?_ | refine Qg ?_ | refine Qh ?_ | refine Qi ?_ | refine Qj ?_ | refine Qk ?_ | refine Ql ?_ | refine Qm ?_ | refine Qn ?_ | refine Qo ?_ | refine Qp rfl ?_) | (first | refine Qq ?_ | refine Qr ?_) | (first | refine Qs ?_ | refine Qt ?_ | refine Qu ?_) | (first | refine Qv ?_ | refine Qw ?_) | (first | refine Qx ?_ | refine Qy ?_) | (first | refine Qz ?_ | refine Ra ?_ | refine Rb ?_))
    refine Rc ?_
    repeat (first | (with_reducible first | refine Qa ?_ | refine Qb ?_ | refine Qc ?_ | refine Qd ?_ | refine Qe ?_ | refine Qf ?_ | refine Qg ?_ | refine Qh ?_ | refine Qi ?_ | refine Qj ?_ | refine Qk ?_ | refine Ql ?_ | refine Qm ?_ | refine Qn ?_ | refine Qo ?_ | refine Qp rfl ?_) | (first | refine Qq ?_ | refine Qr ?_) | (first | refine Qs ?_ | refine Qt ?_ | refine Qu ?_) | (first | refine Qv ?_ | refine Qw ?_) | (first | refine Qx ?_ | refine Qy ?_) | (first | refine Qz ?_ | refine Ra ?_ | refine Rb ?_))
    refine retP_ok (st' := prS i0 l σ) (by simp) (by simp only [Try.results86]; rfl) (by simp [resP, St.box?, PF.get, loadB, TyK.agg, *]; rfl) (by repeat (first | exact List.Sublist.refl _ | exact List.nil_sublist _ | refine List.Sublist.cons_cons _ ?_ | refine List.Sublist.cons _ ?_)) ?_
    exact ⟨by unfold zNd; rw [agg_mk]; rfl, rfl⟩
  rw [if_neg (by simp [hz])] at HT
  cases hs : isS l σ 0 sSet with
  | true =>
    rw [hs, if_pos rfl] at HT
    unfold sSet at hs
    rw [HT.out]
    generalize (setS l σ).1 = A at *
    generalize (setS l σ).2 = σ1 at *
    simp only [aggD, encD_nd, List.map_cons, List.map_nil] at c2 ⊢
    unfold prS at *
    refine PCalls.enter Try.func86 rfl Try.ntmps86 (by simp) ?_
    simp only [argsF]
    repeat (first | (with_reducible first | refine Qa ?_ | refine Qb ?_ | refine Qc ?_ | refine Qd ?_ | refine Qe ?_ | refine Qf ?_ | refine Qg ?_ | refine Qh ?_ | refine Qi ?_ | refine Qj ?_ | refine Qk ?_ | refine Ql ?_ | refine Qm ?_ | refine Qn ?_ | refine Qo ?_ | refine Qp rfl ?_) | (first | refine Qq ?_ | refine Qr ?_) | (first | refine Qs ?_ | refine Qt ?_ | refine Qu ?_) | (first | refine Qv ?_ | refine Qw ?_) | (first | refine Qx ?_ | refine Qy ?_) | (first | refine Qz ?_ | refine Ra ?_ | refine Rb ?_))
    refine POps_alloc_a ?_
    intro i1 hi1
    simp only [prS, List.cons_append, List.nil_append, List.append_nil, List.drop_succ_cons, List.drop_zero, List.drop_nil, St.freshB_box, St.freshB_nil, St.freshB_tok, St.freshB_obj] at hi1
    repeat (first | (with_reducible first | refine Qa ?_ | refine Qb ?_ | refine Qc ?_ | refine Qd ?_ | refine Qe ?_ | refine Qf ?_ | refine Qg ?_ | refine Qh ?_ | refine Qi ?_ | refine Qj ?_ | refine Qk ?_ | refine Ql ?_ | refine Qm ?_ | refine Qn ?_ | refine Qo ?_ | refine Qp rfl ?_) | (first | refine Qq ?_ | refine Qr ?_) | (first | refine Qs ?_ | refine Qt ?_ | refine Qu ?_) | (first | refine Qv ?_ | refine Qw ?_) | (first | refine Qx ?_ | refine Qy ?_) | (first | refine Qz ?_ | refine Ra ?_ | refine Rb ?_))
    refine Rd 1 1 (c1.out) ?_
    rintro _ _ ⟨rfl, rfl⟩
    repeat (first | (with_reducible first | refine Qa ?_ | refine Qb ?_ | refine Qc ?_ | refine Qd ?_ | refine Qe ?_ | refine Qf ?_ | refine Qg ?_ | refine Qh ?_ | refine Qi ?_ | refine Qj ?_ | refine Qk ?_ | refine Ql ?_ | refine Qm ?_ | refine Qn ?_ | refine Qo ?_ | refine Qp rfl ?_) | (first | refine Qq ?_ | refine Qr ?_) | (first | refine Qs ?_ | refine Qt ?_ | refine Qu ?_) | (first | refine Qv ?_ | refine Qw ?_) | (first | refine Qx ?_ | refine Qy ?_) | (first | refine Qz ?_ | refine Ra ?_ | refine Rb ?_))
    refine Rd 1 1 (c2.out) ?_
    rintro _ _ ⟨rfl, rfl⟩
    repeat (first | (with_reducible first | refine Qa ?_ | refine Qb ?_ | refine Qc ?_ | refine Qd ?_ | refine Qe ?_ | refine Qf ?_ | refine Qg ?_ | refine Qh ?_ | refine Qi ?_ | refine Qj ?_ | refine Qk ?_ | refine Ql ?_ | refine Qm ?_ | refine Qn ?_ | refine Qo ?_ | refine Qp rfl ?_) | (first | refine Qq ?_ | refine Qr ?_) | (first | refine Qs ?_ | refine Qt ?_ | refine Qu ?_) | (first | refine Qv ?_ | refine Qw ?_) | (first | refine Qx ?_ | refine Qy ?_) | (first | refine Qz ?_ | refine Ra ?_ | refine Rb ?_))
    refine Rc ?_
    repeat (first | (with_reducible first | refine Qa ?_ | refine Qb ?_ | refine Qc ?_ | refine Qd ?_ | refine Qe ?_ | refine Qf ?_ | refine Qg ?_ | refine Qh ?_ | refine Qi ?_ | refine Qj ?_ | refine Qk ?_ | refine Ql ?_ | refine Qm ?_ | refine Qn ?_ | refine Qo ?_ | refine Qp rfl ?_) | (first | refine Qq ?_ | refine Qr ?_) | (first | refine Qs ?_ | refine Qt ?_ | refine Qu ?_) | (first | refine Qv ?_ | refine Qw ?_) | (first | refine Qx ?_ | refine Qy ?_) | (first | refine Qz ?_ | refine Ra ?_ | refine Rb ?_))
    refine retP_ok (st' := prS i0 l σ1) (by simp) (by simp only [Try.results86]; rfl) (by simp [resP, St.box?, PF.get, loadB, TyK.agg, *]; rfl) (by repeat (first | exact List.Sublist.refl _ | exact List.nil_sublist _ | refine List.Sublist.cons_cons _ ?_ | refine List.Sublist.cons _ ?_)) ?_
    exact ⟨rfl, rfl⟩
  | false =>
    rw [hs, if_neg (by decide)] at HT
    unfold sSet at hs
    cases hp : isS l σ 0 sPar with
    | true =>
      rw [hp, if_pos rfl] at HT
      have h1 := inc_adv hl (mark_k hp)
      unfold sPar at hp
      rw [HT.out]
      have hn : 0 < n := by
        have := hf.2 hz
        unfold Wf at hw; omega
      have c6 := IH _ h1.1 (hf.next hw h1 hn (by omega)) hn i0
      have c7 := want_p i0 l _ sRap hl.len hl.pos (Nat.le_trans (((parse_adv hl n).2.1 _ h1.1).1.le hl) (by decide))
      obtain ⟨i, a, b⟩ := σ
      simp only at hz hin b1
      subst hz
      clear HT hf IH c2 c4 c5
      generalize (termS l n (incS ⟨i, a, 0⟩)).1 = A at *
      generalize (termS l n (incS ⟨i, a, 0⟩)).2 = σ1 at *
      generalize wantS l sRap σ1 = σ2 at *
      simp only [aggD, encD_nd, List.map_cons, List.map_nil] at c6 ⊢
      unfold sRap at c7
      have C6 := Lib.hid c6
      have C7 := Lib.hid c7
      clear c6 c7
      refine PCalls.enter Try.func86 rfl Try.ntmps86 (by simp) ?_
      simp only [argsF]
      repeat (first | (with_reducible first | refine Qa ?_ | refine Qb ?_ | refine Qc ?_ | refine Qd ?_ | refine Qe ?_ | refine Qf ?_ | refine Qg ?_ | refine Qh ?_ | refine Qi ?_ | refine Qj ?_ | refine Qk ?_ | refine Ql ?_ | refine Qm ?_ | refine Qn ?_ | refine Qo ?_ | refine Qp rfl ?_) | (first | refine Qq ?_ | refine Qr ?_) | (first | refine Qs ?_ | refine Qt ?_ | refine Qu ?_) | (first | refine Qv ?_ | refine Qw ?_) | (first | refine Qx ?_ | refine Qy ?_) | (first | refine Qz ?_ | refine Ra ?_ | refine Rb ?_))
      refine POps_alloc_a ?_
      intro i1 hi1
      simp only [prS, List.cons_append, List.nil_append, List.append_nil, List.drop_succ_cons, List.drop_zero, List.drop_nil, St.freshB_box, St.freshB_nil, St.freshB_tok, St.freshB_obj] at hi1
      unfold prS
      repeat (first | (with_reducible first | refine Qa ?_ | refine Qb ?_ | refine Qc ?_ | refine Qd ?_ | refine Qe ?_ | refine Qf ?_ | refine Qg ?_ | refine Qh ?_ | refine Qi ?_ | refine Qj ?_ | refine Qk ?_ | refine Ql ?_ | refine Qm ?_ | refine Qn ?_ | refine Qo ?_ | refine Qp rfl ?_) | (first | refine Qq ?_ | refine Qr ?_) | (first | refine Qs ?_ | refine Qt ?_ | refine Qu ?_) | (first | refine Qv ?_ | refine Qw ?_) | (first | refine Qx ?_ | refine Qy ?_) | (first | refine Qz ?_ | refine Ra ?_ | refine Rb ?_))
      refine Rd 1 1 (c1.out) ?_
      rintro _ _ ⟨rfl, rfl⟩
      repeat (first | (with_reducible first | refine Qa ?_ | refine Qb ?_ | refine Qc ?_ | refine Qd ?_ | refine Qe ?_ | refine Qf ?_ | refine Qg ?_ | refine Qh ?_ | refine Qi ?_ | refine Qj ?_ | refine Qk ?_ | refine Ql ?_ | refine Qm ?_ | refine Qn ?_ | refine Qo ?_ | refine Qp rfl ?_) | (first | refine Qq ?_ | refine Qr ?_) | (first | refine Qs ?_ | refine Qt ?_ | refine Qu ?_) | (first | refine Qv ?_ | refine Qw ?_) | (first | refine Qx ?_ | refine Qy ?_) | (first | refine Qz ?_ | refine Ra ?_ | refine Rb ?_))
      refine Rd 1 1 (c3.out) ?_
      rintro _ _ ⟨rfl, rfl⟩
      unfold prS
      repeat (first | (with_reducible first | refine Qa ?_ | refine Qb ?_ | refine Qc ?_ | refine Qd ?_ | refine Qe ?_ | refine Qf ?_ | refine Qg ?_ | refine Qh ?_ | refine Qi ?_ | refine Qj ?_ | refine Qk ?_ | refine Ql ?_ | refine Qm ?_ | refine Qn ?_ | refine Qo ?_ | refine Qp rfl ?_) | (first | refine Qq ?_ | refine Qr ?_) | (first | refine Qs ?_ | refine Qt ?_ | refine Qu ?_) | (first | refine Qv ?_ | refine Qw ?_) | (first | refine Qx ?_ | refine Qy ?_) | (first | refine Qz ?_ | refine Ra ?_ | refine Rb ?_))
      refine Rc ?_
      repeat (first | (with_reducible first | refine Qa ?_ | refine Qb ?_ | refine Qc ?_ | refine Qd ?_ | refine Qe ?_ | refine Qf ?_ | refine Qg ?_ | refine Qh ?_ | refine Qi ?_ | refine Qj ?_ | refine Qk ?_ | refine Ql ?_ | refine Qm ?_ | refine Qn ?_ | refine Qo ?_ | refine Qp rfl ?_) | (first | refine Qq ?_ | refine Qr ?_) | (first | refine Qs ?_ | refine Qt ?_ | refine Qu ?_) | (first | refine Qv ?_ | refine Qw ?_) | (first | refine Qx ?_ | refine Qy ?_) | (first | refine Qz ?_ | refine Ra ?_ | refine Rb ?_))
      refine Rd 1 1 (C6.out) ?_
      rintro _ _ ⟨rfl, rfl⟩
      repeat (first | (with_reducible first | refine Qa ?_ | refine Qb ?_ | refine Qc ?_ | refine Qd ?_ | refine Qe ?_ | refine Qf ?_ | refine Qg ?_ | refine Qh ?_ | refine Qi ?_ | refine Qj ?_ | refine Qk ?_ | refine Ql ?_ | refine Qm ?_ | refine Qn ?_ | refine Qo ?_ | refine Qp rfl ?_) | (first | refine Qq ?_ | refine Qr ?_) | (first | refine Qs ?_ | refine Qt ?_ | refine Qu ?_) | (first | refine Qv ?_ | refine Qw ?_) | (first | refine Qx ?_ | refine Qy ?_) | (first | refine Qz ?_ | refine Ra ?_ | refine Rb ?_))
      refine POps_alloc_a ?_
      intro i2 hi2
      simp only [prS, List.cons_append, List.nil_append, List.append_nil, List.drop_succ_cons, List.drop_zero, List.drop_nil, St.freshB_box, St.freshB_nil, St.freshB_tok, St.freshB_obj] at hi2
      repeat (first | (with_reducible first | refine Qa ?_ | refine Qb ?_ | refine Qc ?_ | refine Qd ?_ | refine Qe ?_ | refine Qf ?_ | refine Qg ?_ | refine Qh ?_ | refine Qi ?_ | refine Qj ?_ | refine Qk ?_ | refine Ql ?_ | refine Qm ?_ | refine Qn ?_ | refine Qo ?_ | refine Qp rfl ?_) | (first | refine Qq ?_ | refine Qr ?_) | (first | refine Qs ?_ | refine Qt ?_ | refine Qu ?_) | (first | refine Qv ?_ | refine Qw ?_) | (first | refine Qx ?_ | refine Qy ?_) | (first | refine Qz ?_ | refine Ra ?_ | refine Rb ?_))
      refine Rc ?_
      repeat (first | (with_reducible first | refine Qa ?_ | refine Qb ?_ | refine Qc ?_ | refine Qd ?_ | refine Qe ?_ | refine Qf ?_ | refine Qg ?_ | refine Qh ?_ | refine Qi ?_ | refine Qj ?_ | refine Qk ?_ | refine Ql ?_ | refine Qm ?_ | refine Qn ?_ | refine Qo ?_ | refine Qp rfl ?_) | (first | refine Qq ?_ | refine Qr ?_) | (first | refine Qs ?_ | refine Qt ?_ | refine Qu ?_) | (first | refine Qv ?_ | refine Qw ?_) | (first | refine Qx ?_ | refine Qy ?_) | (first | refine Qz ?_ | refine Ra ?_ | refine Rb ?_))
      refine Rd 2 1 (C7.out) ?_
      rintro _ _ ⟨rfl, rfl⟩
      repeat (first | (with_reducible first | refine Qa ?_ | refine Qb ?_ | refine Qc ?_ | refine Qd ?_ | refine Qe ?_ | refine Qf ?_ | refine Qg ?_ | refine Qh ?_ | refine Qi ?_ | refine Qj ?_ | refine Qk ?_ | refine Ql ?_ | refine Qm ?_ | refine Qn ?_ | refine Qo ?_ | refine Qp rfl ?_) | (first | refine Qq ?_ | refine Qr ?_) | (first | refine Qs ?_ | refine Qt ?_ | refine Qu ?_) | (first | refine Qv ?_ | refine Qw ?_) | (first | refine Qx ?_ | refine Qy ?_) | (first | refine Qz ?_ | refine Ra ?_ | refine Rb ?_))
      refine Rc ?_
      repeat (first | (with_reducible first | refine Qa ?_ | refine Qb ?_ | refine Qc ?_ | refine Qd ?_ | refine Qe ?_ | refine Qf ?_ | refine Qg ?_ | refine Qh ?_ | refine Qi ?_ | refine Qj ?_ | refine Qk ?_ | refine Ql ?_ | refine Qm ?_ | refine Qn ?_ | refine Qo ?_ | refine Qp rfl ?_) | (first | refine Qq ?_ | refine Qr ?_) | (first | refine Qs ?_ | refine Qt ?_ | refine Qu ?_) | (first | refine Qv ?_ | refine Qw ?_) | (first | refine Qx ?_ | refine Qy ?_) | (first | refine Qz ?_ | refine Ra ?_ | refine Rb ?_))
      refine retP_ok (st' := prS i0 l σ2) (by simp) (by simp only [Try.results86]; rfl) (by simp [resP, St.box?, PF.get, loadB, TyK.agg, *]; rfl) (by repeat (first | exact List.Sublist.refl _ | exact List.nil_sublist _ | refine List.Sublist.cons_cons _ ?_ | refine List.Sublist.cons _ ?_)) ?_
      exact ⟨rfl, rfl⟩
    | false =>
      rw [hp, if_neg (by decide)] at HT
      unfold sPar at hp
      rw [HT.out]
      obtain ⟨i, a, b⟩ := σ
      simp only at hz hin b1
      subst hz
      clear HT hf IH c2 hin
      generalize (nameS l ⟨i, a, 0⟩).1 = x at *
      generalize (nameS l ⟨i, a, 0⟩).2 = σ1 at *
      refine PCalls.enter Try.func86 rfl Try.ntmps86 (by simp) ?_
      simp only [argsF]
      repeat (first | (with_reducible first | refine Qa ?_ | refine Qb ?_ | refine Qc ?_ | refine Qd ?_ | refine Qe ?_ | refine Qf ?_ | refine Qg ?_ | refine Qh ?_ | refine Qi ?_ | refine Qj ?_ | refine Qk ?_ | refine Ql ?_ | refine Qm ?_ | refine Qn ?_ | refine Qo ?_ | refine Qp rfl ?_) | (first | refine Qq ?_ | refine Qr ?_) | (first | refine Qs ?_ | refine Qt ?_ | refine Qu ?_) | (first | refine Qv ?_ | refine Qw ?_) | (first | refine Qx ?_ | refine Qy ?_) | (first | refine Qz ?_ | refine Ra ?_ | refine Rb ?_))
      refine POps_alloc_a ?_
      intro i1 hi1
      simp only [prS, List.cons_append, List.nil_append, List.append_nil, List.drop_succ_cons, List.drop_zero, List.drop_nil, St.freshB_box, St.freshB_nil, St.freshB_tok, St.freshB_obj] at hi1
      unfold prS
      repeat (first | (with_reducible first | refine Qa ?_ | refine Qb ?_ | refine Qc ?_ | refine Qd ?_ | refine Qe ?_ | refine Qf ?_ | refine Qg ?_ | refine Qh ?_ | refine Qi ?_ | refine Qj ?_ | refine Qk ?_ | refine Ql ?_ | refine Qm ?_ | refine Qn ?_ | refine Qo ?_ | refine Qp rfl ?_) | (first | refine Qq ?_ | refine Qr ?_) | (first | refine Qs ?_ | refine Qt ?_ | refine Qu ?_) | (first | refine Qv ?_ | refine Qw ?_) | (first | refine Qx ?_ | refine Qy ?_) | (first | refine Qz ?_ | refine Ra ?_ | refine Rb ?_))
      refine Rd 1 1 (c1.out) ?_
      rintro _ _ ⟨rfl, rfl⟩
      repeat (first | (with_reducible first | refine Qa ?_ | refine Qb ?_ | refine Qc ?_ | refine Qd ?_ | refine Qe ?_ | refine Qf ?_ | refine Qg ?_ | refine Qh ?_ | refine Qi ?_ | refine Qj ?_ | refine Qk ?_ | refine Ql ?_ | refine Qm ?_ | refine Qn ?_ | refine Qo ?_ | refine Qp rfl ?_) | (first | refine Qq ?_ | refine Qr ?_) | (first | refine Qs ?_ | refine Qt ?_ | refine Qu ?_) | (first | refine Qv ?_ | refine Qw ?_) | (first | refine Qx ?_ | refine Qy ?_) | (first | refine Qz ?_ | refine Ra ?_ | refine Rb ?_))
      refine Rd 1 1 (c3.out) ?_
      rintro _ _ ⟨rfl, rfl⟩
      repeat (first | (with_reducible first | refine Qa ?_ | refine Qb ?_ | refine Qc ?_ | refine Qd ?_ | refine Qe ?_ | refine Qf ?_ | refine Qg ?_ | refine Qh ?_ | refine Qi ?_ | refine Qj ?_ | refine Qk ?_ | refine Ql ?_ | refine Qm ?_ | refine Qn ?_ | refine Qo ?_ | refine Qp rfl ?_) | (first | refine Qq ?_ | refine Qr ?_) | (first | refine Qs ?_ | refine Qt ?_ | refine Qu ?_) | (first | refine Qv ?_ | refine Qw ?_) | (first | refine Qx ?_ | refine Qy ?_) | (first | refine Qz ?_ | refine Ra ?_ | refine Rb ?_))
      refine Rd 1 1 (c4.out) ?_
      rintro _ _ ⟨rfl, rfl⟩
      repeat (first | (with_reducible first | refine Qa ?_ | refine Qb ?_ | refine Qc ?_ | refine Qd ?_ | refine Qe ?_ | refine Qf ?_ | refine Qg ?_ | refine Qh ?_ | refine Qi ?_ | refine Qj ?_ | refine Qk ?_ | refine Ql ?_ | refine Qm ?_ | refine Qn ?_ | refine Qo ?_ | refine Qp rfl ?_) | (first | refine Qq ?_ | refine Qr ?_) | (first | refine Qs ?_ | refine Qt ?_ | refine Qu ?_) | (first | refine Qv ?_ | refine Qw ?_) | (first | refine Qx ?_ | refine Qy ?_) | (first | refine Qz ?_ | refine Ra ?_ | refine Rb ?_))
      refine Rd 1 1 (c5.out) ?_
      rintro _ _ ⟨rfl, rfl⟩
      repeat (first | (with_reducible first | refine Qa ?_ | refine Qb ?_ | refine Qc ?_ | refine Qd ?_ | refine Qe ?_ | refine Qf ?_ | refine Qg ?_ | refine Qh ?_ | refine Qi ?_ | refine Qj ?_ | refine Qk ?_ | refine Ql ?_ | refine Qm ?_ | refine Qn ?_ | refine Qo ?_ | refine Qp rfl ?_) | (first | refine Qq ?_ | refine Qr ?_) | (first | refine Qs ?_ | refine Qt ?_ | refine Qu ?_) | (first | refine Qv ?_ | refine Qw ?_) | (first | refine Qx ?_ | refine Qy ?_) | (first | refine Qz ?_ | refine Ra ?_ | refine Rb ?_))
      refine Rc ?_
      repeat (first | (with_reducible first | refine Qa ?_ | refine Qb ?_ | refine Qc ?_ | refine Qd ?_ | refine Qe ?_ | refine Qf ?_ | refine Qg ?_ | refine Qh ?_ | refine Qi ?_ | refine Qj ?_ | refine Qk ?_ | refine Ql ?_ | refine Qm ?_ | refine Qn ?_ | refine Qo ?_ | refine Qp rfl ?_) | (first | refine Qq ?_ | refine Qr ?_) | (first | refine Qs ?_ | refine Qt ?_ | refine Qu ?_) | (first | refine Qv ?_ | refine Qw ?_) | (first | refine Qx ?_ | refine Qy ?_) | (first | refine Qz ?_ | refine Ra ?_ | refine Rb ?_))
      refine retP_ok (st' := prS i0 l σ1) (by simp) (by simp only [Try.results86]; rfl) (by simp [resP, St.box?, PF.get, loadB, TyK.agg, *]; rfl) (by repeat (first | exact List.Sublist.refl _ | exact List.nil_sublist _ | refine List.Sublist.cons_cons _ ?_ | refine List.Sublist.cons _ ?_)) ?_
      exact ⟨by rw [agg_mk]; rfl, rfl⟩
set_option maxHeartbeats 4000000 in
theorem app_w {l : List Tk} (hl : TkOk l) (n : Nat) (IA : ∀ m, m ≤ n → ∀ σ, Wf l σ → Fu l m 3 σ → AtomC l m σ) (σ : ST) (hw : Wf l σ) (hb : σ.bad = 0) (hf : Fu l (n + 1) 5 σ) : AppC l (n + 1) σ := by
  intro i0
  have hn : 0 < n := by
    have := hf.2 hb
    unfold Wf at hw; omega
  have hA := ((parse_adv hl n).2.2.1 σ hw).2 hn
  have c1 := IA n (Nat.le_refl _) σ hw (hf.same hw (Adv.refl hw) hn (by omega)) i0
  have HT := Lib.hid (show appS l (n + 1) σ = appL l n (atomS l n σ).1 (atomS l n σ).2 from by simp only [appS])
  have HF := Lib.hid (hf.next hw hA hn (d := 5) (by omega))
  have HA := Lib.hid hA.1
  rw [HT.out]
  clear HT hA hf hb hw
  generalize (atomS l n σ).1 = G at *
  generalize (atomS l n σ).2 = σ1 at *
  have HG : ∃ r, r = appL l n G σ1 := ⟨_, rfl⟩
  obtain ⟨r, hr⟩ := HG
  have HR := Lib.hid hr.symm
  rw [← hr]
  clear hr
  simp only [aggD, encD_nd, List.map_cons, List.map_nil] at c1 ⊢
  have C1 := Lib.hid c1
  clear c1
  refine PCalls.enter Try.func84 rfl Try.ntmps84 (by simp) ?_
  simp only [argsF]
  repeat (first | (with_reducible first | refine Qa ?_ | refine Qb ?_ | refine Qc ?_ | refine Qd ?_ | refine Qe ?_ | refine Qf ?_ | refine Qg ?_ | refine Qh ?_ | refine Qi ?_ | refine Qj ?_ | refine Qk ?_ | refine Ql ?_ | refine Qm ?_ | refine Qn ?_ | refine Qo ?_ | refine Qp rfl ?_) | (first | refine Qq ?_ | refine Qr ?_) | (first | refine Qs ?_ | refine Qt ?_ | refine Qu ?_) | (first | refine Qv ?_ | refine Qw ?_) | (first | refine Qx ?_ | refine Qy ?_) | (first | refine Qz ?_ | refine Ra ?_ | refine Rb ?_))
  refine POps_alloc_a ?_
  intro i1 hi1
  simp only [prS, List.cons_append, List.nil_append, List.append_nil, List.drop_succ_cons, List.drop_zero, List.drop_nil, St.freshB_box, St.freshB_nil, St.freshB_tok, St.freshB_obj] at hi1
  repeat (first | (with_reducible first | refine Qa ?_ | refine Qb ?_ | refine Qc ?_ | refine Qd ?_ | refine Qe ?_ | refine Qf ?_ | refine Qg ?_ | refine Qh ?_ | refine Qi ?_ | refine Qj ?_ | refine Qk ?_ | refine Ql ?_ | refine Qm ?_ | refine Qn ?_ | refine Qo ?_ | refine Qp rfl ?_) | (first | refine Qq ?_ | refine Qr ?_) | (first | refine Qs ?_ | refine Qt ?_ | refine Qu ?_) | (first | refine Qv ?_ | refine Qw ?_) | (first | refine Qx ?_ | refine Qy ?_) | (first | refine Qz ?_ | refine Ra ?_ | refine Rb ?_))
  refine Rd 1 1 (C1.out) ?_
  rintro _ _ ⟨rfl, rfl⟩
  repeat (first | (with_reducible first | refine Qa ?_ | refine Qb ?_ | refine Qc ?_ | refine Qd ?_ | refine Qe ?_ | refine Qf ?_ | refine Qg ?_ | refine Qh ?_ | refine Qi ?_ | refine Qj ?_ | refine Qk ?_ | refine Ql ?_ | refine Qm ?_ | refine Qn ?_ | refine Qo ?_ | refine Qp rfl ?_) | (first | refine Qq ?_ | refine Qr ?_) | (first | refine Qs ?_ | refine Qt ?_ | refine Qu ?_) | (first | refine Qv ?_ | refine Qw ?_) | (first | refine Qx ?_ | refine Qy ?_) | (first | refine Qz ?_ | refine Ra ?_ | refine Rb ?_))
  refine POps_alloc_a ?_
  intro i2 hi2
  simp only [prS, List.cons_append, List.nil_append, List.append_nil, List.drop_succ_cons, List.drop_zero, List.drop_nil, St.freshB_box, St.freshB_nil, St.freshB_tok, St.freshB_obj] at hi2
  repeat (first | (with_reducible first | refine Qa ?_ | refine Qb ?_ | refine Qc ?_ | refine Qd ?_ | refine Qe ?_ | refine Qf ?_ | refine Qg ?_ | refine Qh ?_ | refine Qi ?_ | refine Qj ?_ | refine Qk ?_ | refine Ql ?_ | refine Qm ?_ | refine Qn ?_ | refine Qo ?_ | refine Qp rfl ?_) | (first | refine Qq ?_ | refine Qr ?_) | (first | refine Qs ?_ | refine Qt ?_ | refine Qu ?_) | (first | refine Qv ?_ | refine Qw ?_) | (first | refine Qx ?_ | refine Qy ?_) | (first | refine Qz ?_ | refine Ra ?_ | refine Rb ?_))
  refine Rc ?_
  repeat (first | (with_reducible first | refine Qa ?_ | refine Qb ?_ | refine Qc ?_ | refine Qd ?_ | refine Qe ?_ | refine Qf ?_ | refine Qg ?_ | refine Qh ?_ | refine Qi ?_ | refine Qj ?_ | refine Qk ?_ | refine Ql ?_ | refine Qm ?_ | refine Qn ?_ | refine Qo ?_ | refine Qp rfl ?_) | (first | refine Qq ?_ | refine Qr ?_) | (first | refine Qs ?_ | refine Qt ?_ | refine Qu ?_) | (first | refine Qv ?_ | refine Qw ?_) | (first | refine Qx ?_ | refine Qy ?_) | (first | refine Qz ?_ | refine Ra ?_ | refine Rb ?_))
  refine PW_loop (ι := Nat × Nd × ST) (fun x => x.1 ≤ n ∧ Wf l x.2.2 ∧ Fu l x.1 5 x.2.2 ∧ appL l x.1 x.2.1 x.2.2 = r) (fun x => [(0, .ptr i0 0), (2, .ptr i1 0), (3, .ptr i2 0)])
    (fun x => .box i2 31 [.d (.v (.int .i64 x.2.1.kind)), .d (.v (.int .i64 x.2.1.at)), .d (.v (.string x.2.1.name)), .d (.v (.int .i64 x.2.1.num)), .d (.sl (x.2.1.sub.map encD))] :: .box i1 31 [.d (.v (.int .i64 0)), .d (.v (.int .i64 0)), .d (.v (.string ByteArray.empty)), .d (.v (.int .i64 0)), .nils] :: prS i0 l x.2.2)
    (fun x => x.1) (n, G, σ1) ⟨Nat.le_refl _, HA.out, HF.out, HR.out⟩ ?_ ?_ ?_
  · repeat (first | exact sub_nil _ | refine sub_cons (by simp [PF.get]; rfl) (by first | rfl | (simp [*]; done) | fail) ?_)
  · repeat (first | exact List.Sublist.refl _ | exact List.nil_sublist _ | refine List.Sublist.cons_cons _ ?_ | refine List.Sublist.cons _ ?_)
  · rintro ⟨m, g, τ⟩ ⟨hm, hw, hf, hr⟩
    simp only at hm hw hf hr ⊢
    have b1 : τ.i ≤ 150000 := Nat.le_trans (hw.le hl) (by decide)
    obtain ⟨m, rfl⟩ : ∃ q, m = q + 1 := ⟨m - 1, by have := hf.1; omega⟩
    simp only [appL] at hr
    have B0 := Lib.hid (begins_p i0 l τ hl.len hl.pos b1)
    by_cases hz : τ.bad = 0
    · cases hbg : beginsS l τ with
      | true =>
        rw [if_pos ⟨hz, hbg⟩] at hr
        have hm0 : 0 < m := by
          have := hf.2 hz
          unfold Wf at hw; omega
        have hA := ((parse_adv hl m).2.2.1 τ hw).2 hm0
        have c2 := IA m (by omega) τ hw (hf.same hw (Adv.refl hw) hm0 (by omega)) i0
        have HF2 := Lib.hid (hf.next hw hA hm0 (d := 5) (by omega))
        have HA2 := Lib.hid hA.1
        have HR2 := Lib.hid hr
        clear hr hf hA hw
        generalize (atomS l m τ).1 = X at *
        generalize (atomS l m τ).2 = τ2 at *
        simp only [aggD, encD_nd, List.map_cons, List.map_nil] at c2
        have C2 := Lib.hid c2
        clear c2
        unfold prS
        repeat (first | (with_reducible first | refine Qa ?_ | refine Qb ?_ | refine Qc ?_ | refine Qd ?_ | refine Qe ?_ | refine Qf ?_ | refine Qg ?_ | refine Qh ?_ | refine Qi ?_ | refine Qj ?_ | refine Qk ?_ | refine Ql ?_ | refine Qm ?_ | refine Qn ?_ | refine Qo ?_ | refine Qp rfl ?_) | (first | refine Qq ?_ | refine Qr ?_) | (first | refine Qs ?_ | refine Qt ?_ | refine Qu ?_) | (first | refine Qv ?_ | refine Qw ?_) | (first | refine Qx ?_ | refine Qy ?_) | (first | refine Qz ?_ | refine Ra ?_ | refine Rb ?_))
        refine Rd 2 1 (B0.out) ?_
        rintro _ _ ⟨rfl, rfl⟩
        repeat (first | (with_reducible first | refine Qa ?_ | refine Qb ?_ | refine Qc ?_ | refine Qd ?_ | refine Qe ?_ | refine Qf ?_ | refine Qg ?_ | refine Qh ?_ | refine Qi ?_ | refine Qj ?_ | refine Qk ?_ | refine Ql ?_ | refine Qm ?_ | refine Qn ?_ | refine Qo ?_ | refine Qp rfl ?_) | (first | refine Qq ?_ | refine Qr ?_) | (first | refine Qs ?_ | refine Qt ?_ | refine Qu ?_) | (first | refine Qv ?_ | refine Qw ?_) | (first | refine Qx ?_ | refine Qy ?_) | (first | refine Qz ?_ | refine Ra ?_ | refine Rb ?_))
        refine PW_drawnL (J := keepJ [(i2, _)]) [(0, .a), (1, .a), (2, .a), (3, .a), (4, .e), (5, .a), (6, .a), (7, .e)] (by kernel_rfl) (by rfl) (by kernel_rfl) (by (repeat (first | exact keepJ_nil _ | refine keepJ_cons (by simp [St.box?, *] <;> rfl) ?_))) ?_
        repeat (first | with_reducible refine PL_nil ?_ | refine PL_gn2 ?_ | refine PL_s2 ?_ | refine PL_b2 ?_)
        refine PL_callX 2 1 (C2.out) ?_
        rintro _ _ ⟨rfl, rfl⟩
        refine ⟨.inr (by (repeat (first | exact keepJ_nil _ | refine keepJ_cons (by simp [St.box?, *] <;> rfl) ?_))), ?_⟩
        repeat (first | with_reducible refine PL_nil ?_ | refine PL_gn2 ?_ | refine PL_s2 ?_ | refine PL_b2 ?_)
        refine PL_bs ?_ rfl (by decide) rfl (by simp; rfl) (by rfl) (by simp; rfl) (by rfl) (by decide) (by decide) (by simp [nev, nevA, nevB, evBuild, PF.eval, PF.get, PF.wants, cPV, cCell, PV.rows, evBin, evUn, evConv, evLen, loadA, loadB, TyK.agg, partA, St.box?, St.tok?, St.setBox, St.setTok, fillO, spl, PV.ps, PV.one, evalArgs, aggD, slD, encD_nd, encD_bd, encD_rw, encD_dc, encD_str, encD_int, *]; rfl) (by simp [rowsOf, toDs, PV.toD]; rfl)
        repeat (first | with_reducible refine PL_nil ?_ | refine PL_gn2 ?_ | refine PL_s2 ?_ | refine PL_b2 ?_)
        refine PL_store rfl rfl (by simp [nev, nevA, nevB, evBuild, PF.eval, PF.get, PF.wants, cPV, cCell, PV.rows, evBin, evUn, evConv, evLen, loadA, loadB, TyK.agg, partA, St.box?, St.tok?, St.setBox, St.setTok, fillO, spl, PV.ps, PV.one, evalArgs, aggD, slD, encD_nd, encD_bd, encD_rw, encD_dc, encD_str, encD_int, *]; rfl) (by rfl) (by simp [nev, nevA, nevB, evBuild, PF.eval, PF.get, PF.wants, cPV, cCell, PV.rows, evBin, evUn, evConv, evLen, loadA, loadB, TyK.agg, partA, St.box?, St.tok?, St.setBox, St.setTok, fillO, spl, PV.ps, PV.one, evalArgs, aggD, slD, encD_nd, encD_bd, encD_rw, encD_dc, encD_str, encD_int, *]; rfl) (by simp [PV.ps, aggD, slD, encD_nd, encD_bd, encD_rw, encD_dc, encD_str, encD_int]; rfl) (by first | rfl | (simp [*]; done) | (simp [PV.one, *]; done) | fail) (by simp; rfl) (by first | (simp; done) | fail) (by simp [nev, nevA, nevB, evBuild, PF.eval, PF.get, PF.wants, cPV, cCell, PV.rows, evBin, evUn, evConv, evLen, loadA, loadB, TyK.agg, partA, St.box?, St.tok?, St.setBox, St.setTok, fillO, spl, PV.ps, PV.one, evalArgs, aggD, slD, encD_nd, encD_bd, encD_rw, encD_dc, encD_str, encD_int, *]; rfl) (by rfl) (by first | (simp; done) | fail) (by simp [St.setBox, spl, *]; rfl) (by first | exact .inl (by decide +kernel) | exact .inr (by (repeat (first | exact keepJ_nil _ | refine keepJ_cons (by simp [St.box?, *] <;> rfl) ?_)))) ?_
        repeat (first | with_reducible refine PL_nil ?_ | refine PL_gn2 ?_ | refine PL_s2 ?_ | refine PL_b2 ?_)
        repeat (first | (with_reducible first | refine Qa ?_ | refine Qb ?_ | refine Qc ?_ | refine Qd ?_ | refine Qe ?_ | refine Qf ?_ | refine Qg ?_ | refine Qh ?_ | refine Qi ?_ | refine Qj ?_ | refine Qk ?_ | refine Ql ?_ | refine Qm ?_ | refine Qn ?_ | refine Qo ?_ | refine Qp rfl ?_) | (first | refine Qq ?_ | refine Qr ?_) | (first | refine Qs ?_ | refine Qt ?_ | refine Qu ?_) | (first | refine Qv ?_ | refine Qw ?_) | (first | refine Qx ?_ | refine Qy ?_) | (first | refine Qz ?_ | refine Ra ?_ | refine Rb ?_))
        refine ⟨(m, Nd.mk 5 g.at ⟨#[]⟩ 0 [g, X], τ2), ⟨by omega, HA2.out, HF2.out, HR2.out⟩, by simp only; omega, ?_, ?_⟩
        · repeat (first | exact sub_nil _ | refine sub_cons (by simp [PF.get]; rfl) (by first | rfl | (simp [*]; done) | fail) ?_)
        · simp only [List.map_cons, List.map_nil, encD_nd, Nd.kind, Nd.at, Nd.name, Nd.num, Nd.sub]
          repeat (first | exact List.Sublist.refl _ | exact List.nil_sublist _ | refine List.Sublist.cons_cons _ ?_ | refine List.Sublist.cons _ ?_)
      | false =>
        rw [if_neg (by rw [hbg]; simp)] at hr
        have HR2 := Lib.hid hr
        clear hr hf
        unfold prS
        repeat (first | (with_reducible first | refine Qa ?_ | refine Qb ?_ | refine Qc ?_ | refine Qd ?_ | refine Qe ?_ | refine Qf ?_ | refine Qg ?_ | refine Qh ?_ | refine Qi ?_ | refine Qj ?_ | refine Qk ?_ | refine Ql ?_ | refine Qm ?_ | refine Qn ?_ | refine Qo ?_ | refine Qp rfl ?_) | (first | refine Qq ?_ | refine Qr ?_) | (first | refine Qs ?_ | refine Qt ?_ | refine Qu ?_) | (first | refine Qv ?_ | refine Qw ?_) | (first | refine Qx ?_ | refine Qy ?_) | (first | refine Qz ?_ | refine Ra ?_ | refine Rb ?_))
        refine Rd 2 1 (B0.out) ?_
        rintro _ _ ⟨rfl, rfl⟩
        repeat (first | (with_reducible first | refine Qa ?_ | refine Qb ?_ | refine Qc ?_ | refine Qd ?_ | refine Qe ?_ | refine Qf ?_ | refine Qg ?_ | refine Qh ?_ | refine Qi ?_ | refine Qj ?_ | refine Qk ?_ | refine Ql ?_ | refine Qm ?_ | refine Qn ?_ | refine Qo ?_ | refine Qp rfl ?_) | (first | refine Qq ?_ | refine Qr ?_) | (first | refine Qs ?_ | refine Qt ?_ | refine Qu ?_) | (first | refine Qv ?_ | refine Qw ?_) | (first | refine Qx ?_ | refine Qy ?_) | (first | refine Qz ?_ | refine Ra ?_ | refine Rb ?_))
        refine Rc ?_
        repeat (first | (with_reducible first | refine Qa ?_ | refine Qb ?_ | refine Qc ?_ | refine Qd ?_ | refine Qe ?_ | refine Qf ?_ | refine Qg ?_ | refine Qh ?_ | refine Qi ?_ | refine Qj ?_ | refine Qk ?_ | refine Ql ?_ | refine Qm ?_ | refine Qn ?_ | refine Qo ?_ | refine Qp rfl ?_) | (first | refine Qq ?_ | refine Qr ?_) | (first | refine Qs ?_ | refine Qt ?_ | refine Qu ?_) | (first | refine Qv ?_ | refine Qw ?_) | (first | refine Qx ?_ | refine Qy ?_) | (first | refine Qz ?_ | refine Ra ?_ | refine Rb ?_))
        refine retP_ok (st' := prS i0 l τ) (by simp) (by simp only [Try.results84]; rfl) (by simp [resP, St.box?, PF.get, loadB, TyK.agg, *]; rfl) (by repeat (first | exact List.Sublist.refl _ | exact List.nil_sublist _ | refine List.Sublist.cons_cons _ ?_ | refine List.Sublist.cons _ ?_)) ?_
        exact ⟨by rw [← HR2.out]; rfl, by rw [← HR2.out]; rfl⟩
    · rw [if_neg (by simp [hz])] at hr
      have HR2 := Lib.hid hr
      clear hr hf
      unfold prS
      repeat (first | (with_reducible first | refine Qa ?_ | refine Qb ?_ | refine Qc ?_ | refine Qd ?_ | refine Qe ?_ | refine Qf ?_ | refine Qg ?_ | refine Qh ?_ | refine Qi ?_ | refine Qj ?_ | refine Qk ?_ | refine Ql ?_ | refine Qm ?_ | refine Qn ?_ | refine Qo ?_ | refine Qp rfl ?_) | (first | refine Qq ?_ | refine Qr ?_) | (first | refine Qs ?_ | refine Qt ?_ | refine Qu ?_) | (first | refine Qv ?_ | refine Qw ?_) | (first | refine Qx ?_ | refine Qy ?_) | (first | refine Qz ?_ | refine Ra ?_ | refine Rb ?_))
      refine Rc ?_
      repeat (first | (with_reducible first | refine Qa ?_ | refine Qb ?_ | refine Qc ?_ | refine Qd ?_ | refine Qe ?_ | refine Qf ?_ | refine Qg ?_ | refine Qh ?_ | refine Qi ?_ | refine Qj ?_ | refine Qk ?_ | refine Ql ?_ | refine Qm ?_ | refine Qn ?_ | refine Qo ?_ | refine Qp rfl ?_) | (first | refine Qq ?_ | refine Qr ?_) | (first | refine Qs ?_ | refine Qt ?_ | refine Qu ?_) | (first | refine Qv ?_ | refine Qw ?_) | (first | refine Qx ?_ | refine Qy ?_) | (first | refine Qz ?_ | refine Ra ?_ | refine Rb ?_))
      refine retP_ok (st' := prS i0 l τ) (by simp) (by simp only [Try.results84]; rfl) (by simp [resP, St.box?, PF.get, loadB, TyK.agg, *]; rfl) (by repeat (first | exact List.Sublist.refl _ | exact List.nil_sublist _ | refine List.Sublist.cons_cons _ ?_ | refine List.Sublist.cons _ ?_)) ?_
      exact ⟨by rw [← HR2.out]; rfl, by rw [← HR2.out]; rfl⟩
end Go.Proofs.Ytahhgpafjiljfaa

namespace Go.Proofs.Ytahhgpafjiljfaa
open Go.RowKit
set_option maxRecDepth 100000
set_option maxHeartbeats 4000000 in
theorem term_w {l : List Tk} (hl : TkOk l) (n : Nat) (IT : ∀ k a σ, Wf l σ → Fu l n 4 σ → σ.bad = 0 → TypedC l n k a σ) (IP : ∀ σ, Wf l σ → σ.bad = 0 → Fu l n 5 σ → AppC l n σ) (IH : ∀ σ, Wf l σ → Fu l n 6 σ → TermC l n σ) (σ : ST) (hw : Wf l σ) (hf : Fu l (n + 1) 6 σ) : TermC l (n + 1) σ := by
  intro i0
  have b1 : σ.i ≤ 150000 := Nat.le_trans (hw.le hl) (by decide)
  have c0 := Lib.hid (tok0_p i0 l σ hl.len hl.pos b1)
  have c1 := Lib.hid (is_p i0 l σ 0 0 rfl sLam hl.len hl.pos (by omega) (by decide))
  have c2 := Lib.hid (binder_p i0 l σ hl.len hl.pos b1)
  have HT := Lib.hid (show termS l (n + 1) σ = (if σ.bad ≠ 0 then (zNd, σ) else if isS l σ 0 sLam then typedS l n 4 (tkg l σ.i).at_ (incS σ) else if binderS l σ then typedS l n 3 (tkg l σ.i).at_ σ else
      (if (appS l n σ).2.bad = 0 ∧ isS l (appS l n σ).2 0 sArr then (.mk 3 (appS l n σ).1.at ⟨#[95]⟩ 0 [(appS l n σ).1, (termS l n (incS (appS l n σ).2)).1], (termS l n (incS (appS l n σ).2)).2) else appS l n σ)) from by simp only [termS])
  have hin := wrap_i b1
  unfold sLam at c1
  by_cases hz : σ.bad = 0
  rotate_left
  · rw [if_pos hz] at HT
    rw [HT.out]
    refine PCalls.enter Try.func45 rfl Try.ntmps45 (by simp) ?_
    simp only [argsF]
    repeat (first | (with_reducible first | refine Qa ?_ | refine Qb ?_ | refine Qc ?_ | refine Qd ?_ | refine Qe ?_ | refine Qf ?_ | refine Qg ?_ | refine Qh ?_ | refine Qi ?_ | refine Qj ?_ | refine Qk ?_ | refine Ql ?_ | refine Qm ?_ | refine Qn ?_ | refine Qo ?_ | refine Qp rfl ?_) | (first | refine Qq ?_ | refine Qr ?_) | (first | refine Qs ?_ | refine Qt ?_ | refine Qu ?_) | (first | refine Qv ?_ | refine Qw ?_) | (first | refine Qx ?_ | refine Qy ?_) | (first | refine Qz ?_ | refine Ra ?_ | refine Rb ?_))
    refine POps_alloc_a ?_
    intro i1 hi1
    simp only [prS, List.cons_append, List.nil_append, List.append_nil, List.drop_succ_cons, List.drop_zero, List.drop_nil, St.freshB_box, St.freshB_nil, St.freshB_tok, St.freshB_obj] at hi1
    repeat (first | (with_reducible first | refine Qa ?_ | refine Qb ?_ | refine Qc ?_ | refine Qd ?_ | refine Qe ?_ | refine Qf ?_ | refine Qg ?_ | refine Qh ?_ | refine Qi ?_ | refine Qj ?_ | refine Qk ?_ | refine Ql ?_ | refine Qm ?_ | refine Qn ?_ | refine Qo ?_ | refine Qp rfl ?_) | (first | refine Qq ?_ | refine Qr ?_) | (first | refine Qs ?_ | refine Qt ?_ | refine Qu ?_) | (first | refine Qv ?_ | refine Qw ?_) | (first | refine Qx ?_ | refine Qy ?_) | (first | refine Qz ?_ | refine Ra ?_ | refine Rb ?_))
    refine Rd 1 1 (c0.out) ?_
    rintro _ _ ⟨rfl, rfl⟩
    unfold prS
    repeat (first | (with_reducible first | refine Qa ?_ | refine Qb ?_ | refine Qc ?_ | refine Qd ?_ | refine Qe ?_ | refine Qf ?_ | refine Qg ?_ | refine Qh ?_ | refine Qi ?_ | refine Qj ?_ | refine Qk ?_ | refine Ql ?_ | refine Qm ?_ | refine Qn ?_ | refine Qo ?_ | refine Qp rfl ?_) | (first | refine Qq ?_ | refine Qr ?_) | (first | refine Qs ?_ | refine Qt ?_ | refine Qu ?_) | (first | refine Qv ?_ | refine Qw ?_) | (first | refine Qx ?_ | refine Qy ?_) | (first | refine Qz ?_ | refine Ra ?_ | refine Rb ?_))
    refine Rc ?_
    repeat (first | (with_reducible first | refine Qa ?_ | refine Qb ?_ | refine Qc ?_ | refine Qd ?_ | refine Qe ?_ | refine Qf ?_ | refine Qg ?_ | refine Qh ?_ | refine Qi ?_ | refine Qj ?_ | refine Qk ?_ | refine Ql ?_ | refine Qm ?_ | refine Qn ?_ | refine Qo ?_ | refine Qp rfl ?_) | (first | refine Qq ?_ | refine Qr ?_) | (first | refine Qs ?_ | refine Qt ?_ | refine Qu ?_) | (first | refine Qv ?_ | refine Qw ?_) | (first | refine Qx ?_ | refine Qy ?_) | (first | refine Qz ?_ | refine Ra ?_ | refine Rb ?_))
    refine retP_ok (st' := prS i0 l σ) (by simp) (by simp only [Try.results45]; rfl) (by simp [resP, St.box?, PF.get, loadB, TyK.agg, *]; rfl) (by repeat (first | exact List.Sublist.refl _ | exact List.nil_sublist _ | refine List.Sublist.cons_cons _ ?_ | refine List.Sublist.cons _ ?_)) ?_
    exact ⟨by unfold zNd; rw [agg_mk]; rfl, rfl⟩
  rw [if_neg (by simp [hz])] at HT
  have hn : 0 < n := by
    have := hf.2 hz
    unfold Wf at hw; omega
  generalize (tkg l σ.i).at_ = at0 at *
  cases hs : isS l σ 0 sLam with
  | true =>
    rw [hs, if_pos rfl] at HT
    have h1 := inc_adv hl (mark_k hs)
    unfold sLam at hs
    rw [HT.out]
    have c3 := IT 4 at0 _ h1.1 (hf.next hw h1 hn (by omega)) hz i0
    clear HT hf IT IP IH c2 h1
    obtain ⟨i, a, b⟩ := σ
    simp only at hz hin b1
    subst hz
    generalize (typedS l n 4 at0 (incS ⟨i, a, 0⟩)).1 = A at *
    generalize (typedS l n 4 at0 (incS ⟨i, a, 0⟩)).2 = σ1 at *
    simp only [aggD, encD_nd, List.map_cons, List.map_nil] at c3 ⊢
    have C3 := Lib.hid c3
    clear c3
    refine PCalls.enter Try.func45 rfl Try.ntmps45 (by simp) ?_
    simp only [argsF]
    repeat (first | (with_reducible first | refine Qa ?_ | refine Qb ?_ | refine Qc ?_ | refine Qd ?_ | refine Qe ?_ | refine Qf ?_ | refine Qg ?_ | refine Qh ?_ | refine Qi ?_ | refine Qj ?_ | refine Qk ?_ | refine Ql ?_ | refine Qm ?_ | refine Qn ?_ | refine Qo ?_ | refine Qp rfl ?_) | (first | refine Qq ?_ | refine Qr ?_) | (first | refine Qs ?_ | refine Qt ?_ | refine Qu ?_) | (first | refine Qv ?_ | refine Qw ?_) | (first | refine Qx ?_ | refine Qy ?_) | (first | refine Qz ?_ | refine Ra ?_ | refine Rb ?_))
    refine POps_alloc_a ?_
    intro i1 hi1
    simp only [prS, List.cons_append, List.nil_append, List.append_nil, List.drop_succ_cons, List.drop_zero, List.drop_nil, St.freshB_box, St.freshB_nil, St.freshB_tok, St.freshB_obj] at hi1
    repeat (first | (with_reducible first | refine Qa ?_ | refine Qb ?_ | refine Qc ?_ | refine Qd ?_ | refine Qe ?_ | refine Qf ?_ | refine Qg ?_ | refine Qh ?_ | refine Qi ?_ | refine Qj ?_ | refine Qk ?_ | refine Ql ?_ | refine Qm ?_ | refine Qn ?_ | refine Qo ?_ | refine Qp rfl ?_) | (first | refine Qq ?_ | refine Qr ?_) | (first | refine Qs ?_ | refine Qt ?_ | refine Qu ?_) | (first | refine Qv ?_ | refine Qw ?_) | (first | refine Qx ?_ | refine Qy ?_) | (first | refine Qz ?_ | refine Ra ?_ | refine Rb ?_))
    refine Rd 1 1 (c0.out) ?_
    rintro _ _ ⟨rfl, rfl⟩
    unfold prS
    repeat (first | (with_reducible first | refine Qa ?_ | refine Qb ?_ | refine Qc ?_ | refine Qd ?_ | refine Qe ?_ | refine Qf ?_ | refine Qg ?_ | refine Qh ?_ | refine Qi ?_ | refine Qj ?_ | refine Qk ?_ | refine Ql ?_ | refine Qm ?_ | refine Qn ?_ | refine Qo ?_ | refine Qp rfl ?_) | (first | refine Qq ?_ | refine Qr ?_) | (first | refine Qs ?_ | refine Qt ?_ | refine Qu ?_) | (first | refine Qv ?_ | refine Qw ?_) | (first | refine Qx ?_ | refine Qy ?_) | (first | refine Qz ?_ | refine Ra ?_ | refine Rb ?_))
    refine Rd 1 1 (c1.out) ?_
    rintro _ _ ⟨rfl, rfl⟩
    unfold prS
    repeat (first | (with_reducible first | refine Qa ?_ | refine Qb ?_ | refine Qc ?_ | refine Qd ?_ | refine Qe ?_ | refine Qf ?_ | refine Qg ?_ | refine Qh ?_ | refine Qi ?_ | refine Qj ?_ | refine Qk ?_ | refine Ql ?_ | refine Qm ?_ | refine Qn ?_ | refine Qo ?_ | refine Qp rfl ?_) | (first | refine Qq ?_ | refine Qr ?_) | (first | refine Qs ?_ | refine Qt ?_ | refine Qu ?_) | (first | refine Qv ?_ | refine Qw ?_) | (first | refine Qx ?_ | refine Qy ?_) | (first | refine Qz ?_ | refine Ra ?_ | refine Rb ?_))
    refine Rc ?_
    repeat (first | (with_reducible first | refine Qa ?_ | refine Qb ?_ | refine Qc ?_ | refine Qd ?_ | refine Qe ?_ | refine Qf ?_ | refine Qg ?_ | refine Qh ?_ | refine Qi ?_ | refine Qj ?_ | refine Qk ?_ | refine Ql ?_ | refine Qm ?_ | refine Qn ?_ | refine Qo ?_ | refine Qp rfl ?_) | (first | refine Qq ?_ | refine Qr ?_) | (first | refine Qs ?_ | refine Qt ?_ | refine Qu ?_) | (first | refine Qv ?_ | refine Qw ?_) | (first | refine Qx ?_ | refine Qy ?_) | (first | refine Qz ?_ | refine Ra ?_ | refine Rb ?_))
    refine Rd 1 1 (C3.out) ?_
    rintro _ _ ⟨rfl, rfl⟩
    repeat (first | (with_reducible first | refine Qa ?_ | refine Qb ?_ | refine Qc ?_ | refine Qd ?_ | refine Qe ?_ | refine Qf ?_ | refine Qg ?_ | refine Qh ?_ | refine Qi ?_ | refine Qj ?_ | refine Qk ?_ | refine Ql ?_ | refine Qm ?_ | refine Qn ?_ | refine Qo ?_ | refine Qp rfl ?_) | (first | refine Qq ?_ | refine Qr ?_) | (first | refine Qs ?_ | refine Qt ?_ | refine Qu ?_) | (first | refine Qv ?_ | refine Qw ?_) | (first | refine Qx ?_ | refine Qy ?_) | (first | refine Qz ?_ | refine Ra ?_ | refine Rb ?_))
    refine Rc ?_
    repeat (first | (with_reducible first | refine Qa ?_ | refine Qb ?_ | refine Qc ?_ | refine Qd ?_ | refine Qe ?_ | refine Qf ?_ | refine Qg ?_ | refine Qh ?_ | refine Qi ?_ | refine Qj ?_ | refine Qk ?_ | refine Ql ?_ | refine Qm ?_ | refine Qn ?_ | refine Qo ?_ | refine Qp rfl ?_) | (first | refine Qq ?_ | refine Qr ?_) | (first | refine Qs ?_ | refine Qt ?_ | refine Qu ?_) | (first | refine Qv ?_ | refine Qw ?_) | (first | refine Qx ?_ | refine Qy ?_) | (first | refine Qz ?_ | refine Ra ?_ | refine Rb ?_))
    refine retP_ok (st' := prS i0 l σ1) (by simp) (by simp only [Try.results45]; rfl) (by simp [resP, St.box?, PF.get, loadB, TyK.agg, *]; rfl) (by repeat (first | exact List.Sublist.refl _ | exact List.nil_sublist _ | refine List.Sublist.cons_cons _ ?_ | refine List.Sublist.cons _ ?_)) ?_
    exact ⟨rfl, rfl⟩
  | false =>
    rw [hs, if_neg (by decide)] at HT
    unfold sLam at hs
    cases hbd : binderS l σ with
    | true =>
      rw [hbd, if_pos rfl] at HT
      rw [HT.out]
      have c3 := IT 3 at0 _ hw (hf.same hw (Adv.refl hw) hn (by omega)) hz i0
      clear HT hf IT IP IH hin
      obtain ⟨i, a, b⟩ := σ
      simp only at hz b1
      subst hz
      generalize (typedS l n 3 at0 ⟨i, a, 0⟩).1 = A at *
      generalize (typedS l n 3 at0 ⟨i, a, 0⟩).2 = σ1 at *
      simp only [aggD, encD_nd, List.map_cons, List.map_nil] at c3 ⊢
      have C3 := Lib.hid c3
      clear c3
      refine PCalls.enter Try.func45 rfl Try.ntmps45 (by simp) ?_
      simp only [argsF]
      repeat (first | (with_reducible first | refine Qa ?_ | refine Qb ?_ | refine Qc ?_ | refine Qd ?_ | refine Qe ?_ | refine Qf ?_ | refine Qg ?_ | refine Qh ?_ | refine Qi ?_ | refine Qj ?_ | refine Qk ?_ | refine Ql ?_ | refine Qm ?_ | refine Qn ?_ | refine Qo ?_ | refine Qp rfl ?_) | (first | refine Qq ?_ | refine Qr ?_) | (first | refine Qs ?_ | refine Qt ?_ | refine Qu ?_) | (first | refine Qv ?_ | refine Qw ?_) | (first | refine Qx ?_ | refine Qy ?_) | (first | refine Qz ?_ | refine Ra ?_ | refine Rb ?_))
      refine POps_alloc_a ?_
      intro i1 hi1
      simp only [prS, List.cons_append, List.nil_append, List.append_nil, List.drop_succ_cons, List.drop_zero, List.drop_nil, St.freshB_box, St.freshB_nil, St.freshB_tok, St.freshB_obj] at hi1
      repeat (first | (with_reducible first | refine Qa ?_ | refine Qb ?_ | refine Qc ?_ | refine Qd ?_ | refine Qe ?_ | refine Qf ?_ | refine Qg ?_ | refine Qh ?_ | refine Qi ?_ | refine Qj ?_ | refine Qk ?_ | refine Ql ?_ | refine Qm ?_ | refine Qn ?_ | refine Qo ?_ | refine Qp rfl ?_) | (first | refine Qq ?_ | refine Qr ?_) | (first | refine Qs ?_ | refine Qt ?_ | refine Qu ?_) | (first | refine Qv ?_ | refine Qw ?_) | (first | refine Qx ?_ | refine Qy ?_) | (first | refine Qz ?_ | refine Ra ?_ | refine Rb ?_))
      refine Rd 1 1 (c0.out) ?_
      rintro _ _ ⟨rfl, rfl⟩
      unfold prS
      repeat (first | (with_reducible first | refine Qa ?_ | refine Qb ?_ | refine Qc ?_ | refine Qd ?_ | refine Qe ?_ | refine Qf ?_ | refine Qg ?_ | refine Qh ?_ | refine Qi ?_ | refine Qj ?_ | refine Qk ?_ | refine Ql ?_ | refine Qm ?_ | refine Qn ?_ | refine Qo ?_ | refine Qp rfl ?_) | (first | refine Qq ?_ | refine Qr ?_) | (first | refine Qs ?_ | refine Qt ?_ | refine Qu ?_) | (first | refine Qv ?_ | refine Qw ?_) | (first | refine Qx ?_ | refine Qy ?_) | (first | refine Qz ?_ | refine Ra ?_ | refine Rb ?_))
      refine Rd 1 1 (c1.out) ?_
      rintro _ _ ⟨rfl, rfl⟩
      repeat (first | (with_reducible first | refine Qa ?_ | refine Qb ?_ | refine Qc ?_ | refine Qd ?_ | refine Qe ?_ | refine Qf ?_ | refine Qg ?_ | refine Qh ?_ | refine Qi ?_ | refine Qj ?_ | refine Qk ?_ | refine Ql ?_ | refine Qm ?_ | refine Qn ?_ | refine Qo ?_ | refine Qp rfl ?_) | (first | refine Qq ?_ | refine Qr ?_) | (first | refine Qs ?_ | refine Qt ?_ | refine Qu ?_) | (first | refine Qv ?_ | refine Qw ?_) | (first | refine Qx ?_ | refine Qy ?_) | (first | refine Qz ?_ | refine Ra ?_ | refine Rb ?_))
      refine Rd 1 1 (c2.out) ?_
      rintro _ _ ⟨rfl, rfl⟩
      repeat (first | (with_reducible first | refine Qa ?_ | refine Qb ?_ | refine Qc ?_ | refine Qd ?_ | refine Qe ?_ | refine Qf ?_ | refine Qg ?_ | refine Qh ?_ | refine Qi ?_ | refine Qj ?_ | refine Qk ?_ | refine Ql ?_ | refine Qm ?_ | refine Qn ?_ | refine Qo ?_ | refine Qp rfl ?_) | (first | refine Qq ?_ | refine Qr ?_) | (first | refine Qs ?_ | refine Qt ?_ | refine Qu ?_) | (first | refine Qv ?_ | refine Qw ?_) | (first | refine Qx ?_ | refine Qy ?_) | (first | refine Qz ?_ | refine Ra ?_ | refine Rb ?_))
      refine Rd 1 1 (C3.out) ?_
      rintro _ _ ⟨rfl, rfl⟩
      repeat (first | (with_reducible first | refine Qa ?_ | refine Qb ?_ | refine Qc ?_ | refine Qd ?_ | refine Qe ?_ | refine Qf ?_ | refine Qg ?_ | refine Qh ?_ | refine Qi ?_ | refine Qj ?_ | refine Qk ?_ | refine Ql ?_ | refine Qm ?_ | refine Qn ?_ | refine Qo ?_ | refine Qp rfl ?_) | (first | refine Qq ?_ | refine Qr ?_) | (first | refine Qs ?_ | refine Qt ?_ | refine Qu ?_) | (first | refine Qv ?_ | refine Qw ?_) | (first | refine Qx ?_ | refine Qy ?_) | (first | refine Qz ?_ | refine Ra ?_ | refine Rb ?_))
      refine Rc ?_
      repeat (first | (with_reducible first | refine Qa ?_ | refine Qb ?_ | refine Qc ?_ | refine Qd ?_ | refine Qe ?_ | refine Qf ?_ | refine Qg ?_ | refine Qh ?_ | refine Qi ?_ | refine Qj ?_ | refine Qk ?_ | refine Ql ?_ | refine Qm ?_ | refine Qn ?_ | refine Qo ?_ | refine Qp rfl ?_) | (first | refine Qq ?_ | refine Qr ?_) | (first | refine Qs ?_ | refine Qt ?_ | refine Qu ?_) | (first | refine Qv ?_ | refine Qw ?_) | (first | refine Qx ?_ | refine Qy ?_) | (first | refine Qz ?_ | refine Ra ?_ | refine Rb ?_))
      refine retP_ok (st' := prS i0 l σ1) (by simp) (by simp only [Try.results45]; rfl) (by simp [resP, St.box?, PF.get, loadB, TyK.agg, *]; rfl) (by repeat (first | exact List.Sublist.refl _ | exact List.nil_sublist _ | refine List.Sublist.cons_cons _ ?_ | refine List.Sublist.cons _ ?_)) ?_
      exact ⟨rfl, rfl⟩
    | false =>
      rw [hbd, if_neg (by decide)] at HT
      rw [HT.out]
      have c3 := IP σ hw hz (hf.same hw (Adv.refl hw) hn (by omega)) i0
      have hA := (parse_adv hl n).2.2.2.1 σ hw
      have hfu : Fu l (n + 1) 6 σ := hf
      have NX := Lib.hid (fun (h : isS l (appS l n σ).2 0 sArr = true) => And.intro (hA.transS (inc_adv hl (mark_k h))).1 (IH _ (hA.transS (inc_adv hl (mark_k h))).1 (hf.next hw (hA.transS (inc_adv hl (mark_k h))) hn (by omega)) i0))
      have hw1 : Wf l (appS l n σ).2 := hA.1
      clear HT hf IT IP IH hin hA hfu
      obtain ⟨i, a, b⟩ := σ
      simp only at hz b1
      subst hz
      generalize (appS l n ⟨i, a, 0⟩) = R at *
      obtain ⟨G, σ1⟩ := R
      simp only at NX hw1 c3 ⊢
      have b2 : σ1.i ≤ 150000 := Nat.le_trans (hw1.le hl) (by decide)
      have c4 := Lib.hid (is_p i0 l σ1 0 0 rfl sArr hl.len hl.pos (by omega) (by decide))
      unfold sArr at c4 NX ⊢
      simp only [aggD, encD_nd, List.map_cons, List.map_nil] at c3
      have C3 := Lib.hid c3
      clear c3
      by_cases hz1 : σ1.bad = 0
      · cases ha : isS l σ1 0 ⟨#[45, 62]⟩ with
        | true =>
          rw [if_pos ⟨hz1, rfl⟩]
          obtain ⟨i', a', b'⟩ := σ1
          simp only at hz1 b2
          subst hz1
          obtain ⟨-, c5⟩ := NX.out ha
          have hin := wrap_i b2
          clear NX
          generalize (termS l n (incS ⟨i', a', 0⟩)).1 = B at *
          generalize (termS l n (incS ⟨i', a', 0⟩)).2 = σ2 at *
          simp only [aggD, encD_nd, List.map_cons, List.map_nil] at c5
          have C5 := Lib.hid c5
          clear c5
          refine PCalls.enter Try.func45 rfl Try.ntmps45 (by simp) ?_
          simp only [argsF]
          repeat (first | (with_reducible first | refine Qa ?_ | refine Qb ?_ | refine Qc ?_ | refine Qd ?_ | refine Qe ?_ | refine Qf ?_ | refine Qg ?_ | refine Qh ?_ | refine Qi ?_ | refine Qj ?_ | refine Qk ?_ | refine Ql ?_ | refine Qm ?_ | refine Qn ?_ | refine Qo ?_ | refine Qp rfl ?_) | (first | refine Qq ?_ | refine Qr ?_) | (first | refine Qs ?_ | refine Qt ?_ | refine Qu ?_) | (first | refine Qv ?_ | refine Qw ?_) | (first | refine Qx ?_ | refine Qy ?_) | (first | refine Qz ?_ | refine Ra ?_ | refine Rb ?_))
          refine POps_alloc_a ?_
          intro i1 hi1
          simp only [prS, List.cons_append, List.nil_append, List.append_nil, List.drop_succ_cons, List.drop_zero, List.drop_nil, St.freshB_box, St.freshB_nil, St.freshB_tok, St.freshB_obj] at hi1
          repeat (first | (with_reducible first | refine Qa ?_ | refine Qb ?_ | refine Qc ?_ | refine Qd ?_ | refine Qe ?_ | refine Qf ?_ | refine Qg ?_ | refine Qh ?_ | refine Qi ?_ | refine Qj ?_ | refine Qk ?_ | refine Ql ?_ | refine Qm ?_ | refine Qn ?_ | refine Qo ?_ | refine Qp rfl ?_) | (first | refine Qq ?_ | refine Qr ?_) | (first | refine Qs ?_ | refine Qt ?_ | refine Qu ?_) | (first | refine Qv ?_ | refine Qw ?_) | (first | refine Qx ?_ | refine Qy ?_) | (first | refine Qz ?_ | refine Ra ?_ | refine Rb ?_))
          refine Rd 1 1 (c0.out) ?_
          rintro _ _ ⟨rfl, rfl⟩
          unfold prS
          repeat (first | (with_reducible first | refine Qa ?_ | refine Qb ?_ | refine Qc ?_ | refine Qd ?_ | refine Qe ?_ | refine Qf ?_ | refine Qg ?_ | refine Qh ?_ | refine Qi ?_ | refine Qj ?_ | refine Qk ?_ | refine Ql ?_ | refine Qm ?_ | refine Qn ?_ | refine Qo ?_ | refine Qp rfl ?_) | (first | refine Qq ?_ | refine Qr ?_) | (first | refine Qs ?_ | refine Qt ?_ | refine Qu ?_) | (first | refine Qv ?_ | refine Qw ?_) | (first | refine Qx ?_ | refine Qy ?_) | (first | refine Qz ?_ | refine Ra ?_ | refine Rb ?_))
          refine Rd 1 1 (c1.out) ?_
          rintro _ _ ⟨rfl, rfl⟩
          repeat (first | (with_reducible first | refine Qa ?_ | refine Qb ?_ | refine Qc ?_ | refine Qd ?_ | refine Qe ?_ | refine Qf ?_ | refine Qg ?_ | refine Qh ?_ | refine Qi ?_ | refine Qj ?_ | refine Qk ?_ | refine Ql ?_ | refine Qm ?_ | refine Qn ?_ | refine Qo ?_ | refine Qp rfl ?_) | (first | refine Qq ?_ | refine Qr ?_) | (first | refine Qs ?_ | refine Qt ?_ | refine Qu ?_) | (first | refine Qv ?_ | refine Qw ?_) | (first | refine Qx ?_ | refine Qy ?_) | (first | refine Qz ?_ | refine Ra ?_ | refine Rb ?_))
          refine Rd 1 1 (c2.out) ?_
          rintro _ _ ⟨rfl, rfl⟩
          repeat (first | (with_reducible first | refine Qa ?_ | refine Qb ?_ | refine Qc ?_ | refine Qd ?_ | refine Qe ?_ | refine Qf ?_ | refine Qg ?_ | refine Qh ?_ | refine Qi ?_ | refine Qj ?_ | refine Qk ?_ | refine Ql ?_ | refine Qm ?_ | refine Qn ?_ | refine Qo ?_ | refine Qp rfl ?_) | (first | refine Qq ?_ | refine Qr ?_) | (first | refine Qs ?_ | refine Qt ?_ | refine Qu ?_) | (first | refine Qv ?_ | refine Qw ?_) | (first | refine Qx ?_ | refine Qy ?_) | (first | refine Qz ?_ | refine Ra ?_ | refine Rb ?_))
          refine Rd 1 1 (C3.out) ?_
          rintro _ _ ⟨rfl, rfl⟩
          repeat (first | (with_reducible first | refine Qa ?_ | refine Qb ?_ | refine Qc ?_ | refine Qd ?_ | refine Qe ?_ | refine Qf ?_ | refine Qg ?_ | refine Qh ?_ | refine Qi ?_ | refine Qj ?_ | refine Qk ?_ | refine Ql ?_ | refine Qm ?_ | refine Qn ?_ | refine Qo ?_ | refine Qp rfl ?_) | (first | refine Qq ?_ | refine Qr ?_) | (first | refine Qs ?_ | refine Qt ?_ | refine Qu ?_) | (first | refine Qv ?_ | refine Qw ?_) | (first | refine Qx ?_ | refine Qy ?_) | (first | refine Qz ?_ | refine Ra ?_ | refine Rb ?_))
          refine POps_alloc_a ?_
          intro i2 hi2
          simp only [prS, List.cons_append, List.nil_append, List.append_nil, List.drop_succ_cons, List.drop_zero, List.drop_nil, St.freshB_box, St.freshB_nil, St.freshB_tok, St.freshB_obj] at hi2
          repeat (first | (with_reducible first | refine Qa ?_ | refine Qb ?_ | refine Qc ?_ | refine Qd ?_ | refine Qe ?_ | refine Qf ?_ | refine Qg ?_ | refine Qh ?_ | refine Qi ?_ | refine Qj ?_ | refine Qk ?_ | refine Ql ?_ | refine Qm ?_ | refine Qn ?_ | refine Qo ?_ | refine Qp rfl ?_) | (first | refine Qq ?_ | refine Qr ?_) | (first | refine Qs ?_ | refine Qt ?_ | refine Qu ?_) | (first | refine Qv ?_ | refine Qw ?_) | (first | refine Qx ?_ | refine Qy ?_) | (first | refine Qz ?_ | refine Ra ?_ | refine Rb ?_))
          refine Rc ?_
          unfold prS
          repeat (first | (with_reducible first | refine Qa ?_ | refine Qb ?_ | refine Qc ?_ | refine Qd ?_ | refine Qe ?_ | refine Qf ?_ | refine Qg ?_ | refine Qh ?_ | refine Qi ?_ | refine Qj ?_ | refine Qk ?_ | refine Ql ?_ | refine Qm ?_ | refine Qn ?_ | refine Qo ?_ | refine Qp rfl ?_) | (first | refine Qq ?_ | refine Qr ?_) | (first | refine Qs ?_ | refine Qt ?_ | refine Qu ?_) | (first | refine Qv ?_ | refine Qw ?_) | (first | refine Qx ?_ | refine Qy ?_) | (first | refine Qz ?_ | refine Ra ?_ | refine Rb ?_))
          refine Rd 2 1 (c4.out) ?_
          rintro _ _ ⟨rfl, rfl⟩
          unfold prS
          repeat (first | (with_reducible first | refine Qa ?_ | refine Qb ?_ | refine Qc ?_ | refine Qd ?_ | refine Qe ?_ | refine Qf ?_ | refine Qg ?_ | refine Qh ?_ | refine Qi ?_ | refine Qj ?_ | refine Qk ?_ | refine Ql ?_ | refine Qm ?_ | refine Qn ?_ | refine Qo ?_ | refine Qp rfl ?_) | (first | refine Qq ?_ | refine Qr ?_) | (first | refine Qs ?_ | refine Qt ?_ | refine Qu ?_) | (first | refine Qv ?_ | refine Qw ?_) | (first | refine Qx ?_ | refine Qy ?_) | (first | refine Qz ?_ | refine Ra ?_ | refine Rb ?_))
          refine Rc ?_
          repeat (first | (with_reducible first | refine Qa ?_ | refine Qb ?_ | refine Qc ?_ | refine Qd ?_ | refine Qe ?_ | refine Qf ?_ | refine Qg ?_ | refine Qh ?_ | refine Qi ?_ | refine Qj ?_ | refine Qk ?_ | refine Ql ?_ | refine Qm ?_ | refine Qn ?_ | refine Qo ?_ | refine Qp rfl ?_) | (first | refine Qq ?_ | refine Qr ?_) | (first | refine Qs ?_ | refine Qt ?_ | refine Qu ?_) | (first | refine Qv ?_ | refine Qw ?_) | (first | refine Qx ?_ | refine Qy ?_) | (first | refine Qz ?_ | refine Ra ?_ | refine Rb ?_))
          refine PW_drawnL (J := keepJ [(i2, _)]) [(0, .a), (1, .a), (2, .a), (3, .a), (4, .e), (5, .a), (6, .a), (7, .e)] (by kernel_rfl) (by rfl) (by kernel_rfl) (by (repeat (first | exact keepJ_nil _ | refine keepJ_cons (by simp [St.box?, *] <;> rfl) ?_))) ?_
          repeat (first | with_reducible refine PL_nil ?_ | refine PL_gn2 ?_ | refine PL_s2 ?_ | refine PL_b2 ?_)
          refine PL_callX 2 1 (C5.out) ?_
          rintro _ _ ⟨rfl, rfl⟩
          refine ⟨.inr (by (repeat (first | exact keepJ_nil _ | refine keepJ_cons (by simp [St.box?, *] <;> rfl) ?_))), ?_⟩
          repeat (first | with_reducible refine PL_nil ?_ | refine PL_gn2 ?_ | refine PL_s2 ?_ | refine PL_b2 ?_)
          refine PL_bs ?_ rfl (by decide) rfl (by simp; rfl) (by rfl) (by simp; rfl) (by rfl) (by decide) (by decide) (by simp [nev, nevA, nevB, evBuild, PF.eval, PF.get, PF.wants, cPV, cCell, PV.rows, evBin, evUn, evConv, evLen, loadA, loadB, TyK.agg, partA, St.box?, St.tok?, St.setBox, St.setTok, fillO, spl, PV.ps, PV.one, evalArgs, aggD, slD, encD_nd, encD_bd, encD_rw, encD_dc, encD_str, encD_int, *]; rfl) (by simp [rowsOf, toDs, PV.toD]; rfl)
          repeat (first | with_reducible refine PL_nil ?_ | refine PL_gn2 ?_ | refine PL_s2 ?_ | refine PL_b2 ?_)
          refine PL_store rfl rfl (by simp [nev, nevA, nevB, evBuild, PF.eval, PF.get, PF.wants, cPV, cCell, PV.rows, evBin, evUn, evConv, evLen, loadA, loadB, TyK.agg, partA, St.box?, St.tok?, St.setBox, St.setTok, fillO, spl, PV.ps, PV.one, evalArgs, aggD, slD, encD_nd, encD_bd, encD_rw, encD_dc, encD_str, encD_int, *]; rfl) (by rfl) (by simp [nev, nevA, nevB, evBuild, PF.eval, PF.get, PF.wants, cPV, cCell, PV.rows, evBin, evUn, evConv, evLen, loadA, loadB, TyK.agg, partA, St.box?, St.tok?, St.setBox, St.setTok, fillO, spl, PV.ps, PV.one, evalArgs, aggD, slD, encD_nd, encD_bd, encD_rw, encD_dc, encD_str, encD_int, *]; rfl) (by simp [PV.ps, aggD, slD, encD_nd, encD_bd, encD_rw, encD_dc, encD_str, encD_int]; rfl) (by first | rfl | (simp [*]; done) | (simp [PV.one, *]; done) | fail) (by simp; rfl) (by first | (simp; done) | fail) (by simp [nev, nevA, nevB, evBuild, PF.eval, PF.get, PF.wants, cPV, cCell, PV.rows, evBin, evUn, evConv, evLen, loadA, loadB, TyK.agg, partA, St.box?, St.tok?, St.setBox, St.setTok, fillO, spl, PV.ps, PV.one, evalArgs, aggD, slD, encD_nd, encD_bd, encD_rw, encD_dc, encD_str, encD_int, *]; rfl) (by rfl) (by first | (simp; done) | fail) (by simp [St.setBox, spl, *]; rfl) (by first | exact .inl (by decide +kernel) | exact .inr (by (repeat (first | exact keepJ_nil _ | refine keepJ_cons (by simp [St.box?, *] <;> rfl) ?_)))) ?_
          repeat (first | with_reducible refine PL_nil ?_ | refine PL_gn2 ?_ | refine PL_s2 ?_ | refine PL_b2 ?_)
          repeat (first | (with_reducible first | refine Qa ?_ | refine Qb ?_ | refine Qc ?_ | refine Qd ?_ | refine Qe ?_ | refine Qf ?_ | refine Qg ?_ | refine Qh ?_ | refine Qi ?_ | refine Qj ?_ | refine Qk ?_ | refine Ql ?_ | refine Qm ?_ | refine Qn ?_ | refine Qo ?_ | refine Qp rfl ?_) | (first | refine Qq ?_ | refine Qr ?_) | (first | refine Qs ?_ | refine Qt ?_ | refine Qu ?_) | (first | refine Qv ?_ | refine Qw ?_) | (first | refine Qx ?_ | refine Qy ?_) | (first | refine Qz ?_ | refine Ra ?_ | refine Rb ?_))
          refine retP_ok (st' := prS i0 l σ2) (by simp) (by simp only [Try.results45]; rfl) (by simp [resP, St.box?, PF.get, loadB, TyK.agg, *]; rfl) (by repeat (first | exact List.Sublist.refl _ | exact List.nil_sublist _ | refine List.Sublist.cons_cons _ ?_ | refine List.Sublist.cons _ ?_)) ?_
          exact ⟨by rw [agg_mk]; simp only [List.map_cons, List.map_nil, encD_nd]; rfl, rfl⟩
        | false =>
          rw [if_neg (by simp)]
          clear NX
          simp only [aggD, encD_nd, List.map_cons, List.map_nil]
          refine PCalls.enter Try.func45 rfl Try.ntmps45 (by simp) ?_
          simp only [argsF]
          repeat (first | (with_reducible first | refine Qa ?_ | refine Qb ?_ | refine Qc ?_ | refine Qd ?_ | refine Qe ?_ | refine Qf ?_ | refine Qg ?_ | refine Qh ?_ | refine Qi ?_ | refine Qj ?_ | refine Qk ?_ | refine Ql ?_ | refine Qm ?_ | refine Qn ?_ | refine Qo ?_ | refine Qp rfl ?_) | (first | refine Qq ?_ | refine Qr ?_) | (first | refine Qs ?_ | refine Qt ?_ | refine Qu ?_) | (first | refine Qv ?_ | refine Qw ?_) | (first | refine Qx ?_ | refine Qy ?_) | (first | refine Qz ?_ | refine Ra ?_ | refine Rb ?_))
          refine POps_alloc_a ?_
          intro i1 hi1
          simp only [prS, List.cons_append, List.nil_append, List.append_nil, List.drop_succ_cons, List.drop_zero, List.drop_nil, St.freshB_box, St.freshB_nil, St.freshB_tok, St.freshB_obj] at hi1
          repeat (first | (with_reducible first | refine Qa ?_ | refine Qb ?_ | refine Qc ?_ | refine Qd ?_ | refine Qe ?_ | refine Qf ?_ | refine Qg ?_ | refine Qh ?_ | refine Qi ?_ | refine Qj ?_ | refine Qk ?_ | refine Ql ?_ | refine Qm ?_ | refine Qn ?_ | refine Qo ?_ | refine Qp rfl ?_) | (first | refine Qq ?_ | refine Qr ?_) | (first | refine Qs ?_ | refine Qt ?_ | refine Qu ?_) | (first | refine Qv ?_ | refine Qw ?_) | (first | refine Qx ?_ | refine Qy ?_) | (first | refine Qz ?_ | refine Ra ?_ | refine Rb ?_))
          refine Rd 1 1 (c0.out) ?_
          rintro _ _ ⟨rfl, rfl⟩
          unfold prS
          repeat (first | (with_reducible first | refine Qa ?_ | refine Qb ?_ | refine Qc ?_ | refine Qd ?_ | refine Qe ?_ | refine Qf ?_ | refine Qg ?_ | refine Qh ?_ | refine Qi ?_ | refine Qj ?_ | refine Qk ?_ | refine Ql ?_ | refine Qm ?_ | refine Qn ?_ | refine Qo ?_ | refine Qp rfl ?_) | (first | refine Qq ?_ | refine Qr ?_) | (first | refine Qs ?_ | refine Qt ?_ | refine Qu ?_) | (first | refine Qv ?_ | refine Qw ?_) | (first | refine Qx ?_ | refine Qy ?_) | (first | refine Qz ?_ | refine Ra ?_ | refine Rb ?_))
          refine Rd 1 1 (c1.out) ?_
          rintro _ _ ⟨rfl, rfl⟩
          repeat (first | (with_reducible first | refine Qa ?_ | refine Qb ?_ | refine Qc ?_ | refine Qd ?_ | refine Qe ?_ | refine Qf ?_ | refine Qg ?_ | refine Qh ?_ | refine Qi ?_ | refine Qj ?_ | refine Qk ?_ | refine Ql ?_ | refine Qm ?_ | refine Qn ?_ | refine Qo ?_ | refine Qp rfl ?_) | (first | refine Qq ?_ | refine Qr ?_) | (first | refine Qs ?_ | refine Qt ?_ | refine Qu ?_) | (first | refine Qv ?_ | refine Qw ?_) | (first | refine Qx ?_ | refine Qy ?_) | (first | refine Qz ?_ | refine Ra ?_ | refine Rb ?_))
          refine Rd 1 1 (c2.out) ?_
          rintro _ _ ⟨rfl, rfl⟩
          repeat (first | (with_reducible first | refine Qa ?_ | refine Qb ?_ | refine Qc ?_ | refine Qd ?_ | refine Qe ?_ | refine Qf ?_ | refine Qg ?_ | refine Qh ?_ | refine Qi ?_ | refine Qj ?_ | refine Qk ?_ | refine Ql ?_ | refine Qm ?_ | refine Qn ?_ | refine Qo ?_ | refine Qp rfl ?_) | (first | refine Qq ?_ | refine Qr ?_) | (first | refine Qs ?_ | refine Qt ?_ | refine Qu ?_) | (first | refine Qv ?_ | refine Qw ?_) | (first | refine Qx ?_ | refine Qy ?_) | (first | refine Qz ?_ | refine Ra ?_ | refine Rb ?_))
          refine Rd 1 1 (C3.out) ?_
          rintro _ _ ⟨rfl, rfl⟩
          repeat (first | (with_reducible first | refine Qa ?_ | refine Qb ?_ | refine Qc ?_ | refine Qd ?_ | refine Qe ?_ | refine Qf ?_ | refine Qg ?_ | refine Qh ?_ | refine Qi ?_ | refine Qj ?_ | refine Qk ?_ | refine Ql ?_ | refine Qm ?_ | refine Qn ?_ | refine Qo ?_ | refine Qp rfl ?_) | (first | refine Qq ?_ | refine Qr ?_) | (first | refine Qs ?_ | refine Qt ?_ | refine Qu ?_) | (first | refine Qv ?_ | refine Qw ?_) | (first | refine Qx ?_ | refine Qy ?_) | (first | refine Qz ?_ | refine Ra ?_ | refine Rb ?_))
          refine POps_alloc_a ?_
          intro i2 hi2
          simp only [prS, List.cons_append, List.nil_append, List.append_nil, List.drop_succ_cons, List.drop_zero, List.drop_nil, St.freshB_box, St.freshB_nil, St.freshB_tok, St.freshB_obj] at hi2
          repeat (first | (with_reducible first | refine Qa ?_ | refine Qb ?_ | refine Qc ?_ | refine Qd ?_ | refine Qe ?_ | refine Qf ?_ | refine Qg ?_ | refine Qh ?_ | refine Qi ?_ | refine Qj ?_ | refine Qk ?_ | refine Ql ?_ | refine Qm ?_ | refine Qn ?_ | refine Qo ?_ | refine Qp rfl ?_) | (first | refine Qq ?_ | refine Qr ?_) | (first | refine Qs ?_ | refine Qt ?_ | refine Qu ?_) | (first | refine Qv ?_ | refine Qw ?_) | (first | refine Qx ?_ | refine Qy ?_) | (first | refine Qz ?_ | refine Ra ?_ | refine Rb ?_))
          refine Rc ?_
          unfold prS
          repeat (first | (with_reducible first | refine Qa ?_ | refine Qb ?_ | refine Qc ?_ | refine Qd ?_ | refine Qe ?_ | refine Qf ?_ | refine Qg ?_ | refine Qh ?_ | refine Qi ?_ | refine Qj ?_ | refine Qk ?_ | refine Ql ?_ | refine Qm ?_ | refine Qn ?_ | refine Qo ?_ | refine Qp rfl ?_) | (first | refine Qq ?_ | refine Qr ?_) | (first | refine Qs ?_ | refine Qt ?_ | refine Qu ?_) | (first | refine Qv ?_ | refine Qw ?_) | (first | refine Qx ?_ | refine Qy ?_) | (first | refine Qz ?_ | refine Ra ?_ | refine Rb ?_))
          refine Rd 2 1 (c4.out) ?_
          rintro _ _ ⟨rfl, rfl⟩
          repeat (first | (with_reducible first | refine Qa ?_ | refine Qb ?_ | refine Qc ?_ | refine Qd ?_ | refine Qe ?_ | refine Qf ?_ | refine Qg ?_ | refine Qh ?_ | refine Qi ?_ | refine Qj ?_ | refine Qk ?_ | refine Ql ?_ | refine Qm ?_ | refine Qn ?_ | refine Qo ?_ | refine Qp rfl ?_) | (first | refine Qq ?_ | refine Qr ?_) | (first | refine Qs ?_ | refine Qt ?_ | refine Qu ?_) | (first | refine Qv ?_ | refine Qw ?_) | (first | refine Qx ?_ | refine Qy ?_) | (first | refine Qz ?_ | refine Ra ?_ | refine Rb ?_))
          refine Rc ?_
          repeat (first | (with_reducible first | refine Qa ?_ | refine Qb ?_ | refine Qc ?_ | refine Qd ?_ | refine Qe ?_ | refine Qf ?_ | refine Qg ?_ | refine Qh ?_ | refine Qi ?_ | refine Qj ?_ | refine Qk ?_ | refine Ql ?_ | refine Qm ?_ | refine Qn ?_ | refine Qo ?_ | refine Qp rfl ?_) | (first | refine Qq ?_ | refine Qr ?_) | (first | refine Qs ?_ | refine Qt ?_ | refine Qu ?_) | (first | refine Qv ?_ | refine Qw ?_) | (first | refine Qx ?_ | refine Qy ?_) | (first | refine Qz ?_ | refine Ra ?_ | refine Rb ?_))
          refine retP_ok (st' := prS i0 l σ1) (by simp) (by simp only [Try.results45]; rfl) (by simp [resP, St.box?, PF.get, loadB, TyK.agg, *]; rfl) (by repeat (first | exact List.Sublist.refl _ | exact List.nil_sublist _ | refine List.Sublist.cons_cons _ ?_ | refine List.Sublist.cons _ ?_)) ?_
          exact ⟨rfl, rfl⟩
      · rw [if_neg (by simp [hz1])]
        clear NX
        simp only [aggD, encD_nd, List.map_cons, List.map_nil]
        refine PCalls.enter Try.func45 rfl Try.ntmps45 (by simp) ?_
        simp only [argsF]
        repeat (first | (with_reducible first | refine Qa ?_ | refine Qb ?_ | refine Qc ?_ | refine Qd ?_ | refine Qe ?_ | refine Qf ?_ | refine Qg ?_ | refine Qh ?_ | refine Qi ?_ | refine Qj ?_ | refine Qk ?_ | refine Ql ?_ | refine Qm ?_ | refine Qn ?_ | refine Qo ?_ | refine Qp rfl ?_) | (first | refine Qq ?_ | refine Qr ?_) | (first | refine Qs ?_ | refine Qt ?_ | refine Qu ?_) | (first | refine Qv ?_ | refine Qw ?_) | (first | refine Qx ?_ | refine Qy ?_) | (first | refine Qz ?_ | refine Ra ?_ | refine Rb ?_))
        refine POps_alloc_a ?_
        intro i1 hi1
        simp only [prS, List.cons_append, List.nil_append, List.append_nil, List.drop_succ_cons, List.drop_zero, List.drop_nil, St.freshB_box, St.freshB_nil, St.freshB_tok, St.freshB_obj] at hi1
        repeat (first | (with_reducible first | refine Qa ?_ | refine Qb ?_ | refine Qc ?_ | refine Qd ?_ | refine Qe ?_ | refine Qf ?_ | refine Qg ?_ | refine Qh ?_ | refine Qi ?_ | refine Qj ?_ | refine Qk ?_ | refine Ql ?_ | refine Qm ?_ | refine Qn ?_ | refine Qo ?_ | refine Qp rfl ?_) | (first | refine Qq ?_ | refine Qr ?_) | (first | refine Qs ?_ | refine Qt ?_ | refine Qu ?_) | (first | refine Qv ?_ | refine Qw ?_) | (first | refine Qx ?_ | refine Qy ?_) | (first | refine Qz ?_ | refine Ra ?_ | refine Rb ?_))
        refine Rd 1 1 (c0.out) ?_
        rintro _ _ ⟨rfl, rfl⟩
        unfold prS
        repeat (first | (with_reducible first | refine Qa ?_ | refine Qb ?_ | refine Qc ?_ | refine Qd ?_ | refine Qe ?_ | refine Qf ?_ | refine Qg ?_ | refine Qh ?_ | refine Qi ?_ | refine Qj ?_ | refine Qk ?_ | refine Ql ?_ | refine Qm ?_ | refine Qn ?_ | refine Qo ?_ | refine Qp rfl ?_) | (first | refine Qq ?_ | refine Qr ?_) | (first | refine Qs ?_ | refine Qt ?_ | refine Qu ?_) | (first | refine Qv ?_ | refine Qw ?_) | (first | refine Qx ?_ | refine Qy ?_) | (first | refine Qz ?_ | refine Ra ?_ | refine Rb ?_))
        refine Rd 1 1 (c1.out) ?_
        rintro _ _ ⟨rfl, rfl⟩
        repeat (first | (with_reducible first | refine Qa ?_ | refine Qb ?_ | refine Qc ?_ | refine Qd ?_ | refine Qe ?_ | refine Qf ?_ | refine Qg ?_ | refine Qh ?_ | refine Qi ?_ | refine Qj ?_ | refine Qk ?_ | refine Ql ?_ | refine Qm ?_ | refine Qn ?_ | refine Qo ?_ | refine Qp rfl ?_) | (first | refine Qq ?_ | refine Qr ?_) | (first | refine Qs ?_ | refine Qt ?_ | refine Qu ?_) | (first | refine Qv ?_ | refine Qw ?_) | (first | refine Qx ?_ | refine Qy ?_) | (first | refine Qz ?_ | refine Ra ?_ | refine Rb ?_))
        refine Rd 1 1 (c2.out) ?_
        rintro _ _ ⟨rfl, rfl⟩
        repeat (first | (with_reducible first | refine Qa ?_ | refine Qb ?_ | refine Qc ?_ | refine Qd ?_ | refine Qe ?_ | refine Qf ?_ | refine Qg ?_ | refine Qh ?_ | refine Qi ?_ | refine Qj ?_ | refine Qk ?_ | refine Ql ?_ | refine Qm ?_ | refine Qn ?_ | refine Qo ?_ | refine Qp rfl ?_) | (first | refine Qq ?_ | refine Qr ?_) | (first | refine Qs ?_ | refine Qt ?_ | refine Qu ?_) | (first | refine Qv ?_ | refine Qw ?_) | (first | refine Qx ?_ | refine Qy ?_) | (first | refine Qz ?_ | refine Ra ?_ | refine Rb ?_))
        refine Rd 1 1 (C3.out) ?_
        rintro _ _ ⟨rfl, rfl⟩
        repeat (first | (with_reducible first | refine Qa ?_ | refine Qb ?_ | refine Qc ?_ | refine Qd ?_ | refine Qe ?_ | refine Qf ?_ | refine Qg ?_ | refine Qh ?_ | refine Qi ?_ | refine Qj ?_ | refine Qk ?_ | refine Ql ?_ | refine Qm ?_ | refine Qn ?_ | refine Qo ?_ | refine Qp rfl ?_) | (first | refine Qq ?_ | refine Qr ?_) | (first | refine Qs ?_ | refine Qt ?_ | refine Qu ?_) | (first | refine Qv ?_ | refine Qw ?_) | (first | refine Qx ?_ | refine Qy ?_) | (first | refine Qz ?_ | refine Ra ?_ | refine Rb ?_))
        refine POps_alloc_a ?_
        intro i2 hi2
        simp only [prS, List.cons_append, List.nil_append, List.append_nil, List.drop_succ_cons, List.drop_zero, List.drop_nil, St.freshB_box, St.freshB_nil, St.freshB_tok, St.freshB_obj] at hi2
        repeat (first | (with_reducible first | refine Qa ?_ | refine Qb ?_ | refine Qc ?_ | refine Qd ?_ | refine Qe ?_ | refine Qf ?_ | refine Qg ?_ | refine Qh ?_ | refine Qi ?_ | refine Qj ?_ | refine Qk ?_ | refine Ql ?_ | refine Qm ?_ | refine Qn ?_ | refine Qo ?_ | refine Qp rfl ?_) | (first | refine Qq ?_ | refine Qr ?_) | (first | refine Qs ?_ | refine Qt ?_ | refine Qu ?_) | (first | refine Qv ?_ | refine Qw ?_) | (first | refine Qx ?_ | refine Qy ?_) | (first | refine Qz ?_ | refine Ra ?_ | refine Rb ?_))
        refine Rc ?_
        unfold prS
        repeat (first | (with_reducible first | refine Qa ?_ | refine Qb ?_ | refine Qc ?_ | refine Qd ?_ | refine Qe ?_ | refine Qf ?_ | refine Qg ?_ | refine Qh ?_ | refine Qi ?_ | refine Qj ?_ | refine Qk ?_ | refine Ql ?_ | refine Qm ?_ | refine Qn ?_ | refine Qo ?_ | refine Qp rfl ?_) | (first | refine Qq ?_ | refine Qr ?_) | (first | refine Qs ?_ | refine Qt ?_ | refine Qu ?_) | (first | refine Qv ?_ | refine Qw ?_) | (first | refine Qx ?_ | refine Qy ?_) | (first | refine Qz ?_ | refine Ra ?_ | refine Rb ?_))
        refine Rc ?_
        repeat (first | (with_reducible first | refine Qa ?_ | refine Qb ?_ | refine Qc ?_ | refine Qd ?_ | refine Qe ?_ | refine Qf ?_ | refine Qg ?_ | refine Qh ?_ | refine Qi ?_ | refine Qj ?_ | refine Qk ?_ | refine Ql ?_ | refine Qm ?_ | refine Qn ?_ | refine Qo ?_ | refine Qp rfl ?_) | (first | refine Qq ?_ | refine Qr ?_) | (first | refine Qs ?_ | refine Qt ?_ | refine Qu ?_) | (first | refine Qv ?_ | refine Qw ?_) | (first | refine Qx ?_ | refine Qy ?_) | (first | refine Qz ?_ | refine Ra ?_ | refine Rb ?_))
        refine retP_ok (st' := prS i0 l σ1) (by simp) (by simp only [Try.results45]; rfl) (by simp [resP, St.box?, PF.get, loadB, TyK.agg, *]; rfl) (by repeat (first | exact List.Sublist.refl _ | exact List.nil_sublist _ | refine List.Sublist.cons_cons _ ?_ | refine List.Sublist.cons _ ?_)) ?_
        exact ⟨rfl, rfl⟩
theorem parse_w {l : List Tk} (hl : TkOk l) : ∀ n, (∀ k a σ, Wf l σ → Fu l n 4 σ → σ.bad = 0 → TypedC l n k a σ) ∧ (∀ σ, Wf l σ → Fu l n 6 σ → TermC l n σ) ∧ (∀ σ, Wf l σ → Fu l n 3 σ → AtomC l n σ) ∧ (∀ σ, Wf l σ → σ.bad = 0 → Fu l n 5 σ → AppC l n σ) := by
  intro n
  induction n using Nat.strongRecOn with
  | _ n ih =>
    match n with
    | 0 => exact ⟨fun _ _ _ _ h => absurd h.1 (Nat.lt_irrefl 0), fun _ _ h => absurd h.1 (Nat.lt_irrefl 0), fun _ _ h => absurd h.1 (Nat.lt_irrefl 0), fun _ _ _ h => absurd h.1 (Nat.lt_irrefl 0)⟩
    | n + 1 =>
      have I := ih n (Nat.lt_succ_self n)
      refine ⟨fun k a σ hw hf hb => ?_, fun σ hw hf => term_w hl n I.1 I.2.2.2 I.2.1 σ hw hf, fun σ hw hf => atom_w hl n (fun σ hw hf _ => I.2.1 σ hw hf) σ hw hf, fun σ hw hb hf => app_w hl n (fun m hm σ hw hf => (ih m (by omega)).2.2.1 σ hw hf) σ hw hb hf⟩
      have hn : 0 < n := by
        have := hf.2 hb
        unfold Wf at hw; omega
      exact typed_w hl n hn I.2.1 k a σ hw hf
theorem depth_p (t : Nd) : PCalls Try.prog 80 [aggD t] [] fun p s => p = .d (.v (.int .i64 (depthT t))) ∧ s = [] := PCalls.flat trivial fun K w vs ha => by
  obtain ⟨v, rfl, hv⟩ := ha.one
  obtain ⟨cs, rfl, hc⟩ := rep_rel hv
  exact depth_any t cs w (Rep.toC _ _ hc)
end Go.Proofs.Ytahhgpafjiljfaa

namespace Go.Proofs.Ytahhgpafjiljfaa
open Go.RowKit
set_option maxRecDepth 100000
theorem bid_nodup {F : Fz} {K : Kp} {w : World} : ∀ {st : St}, (∀ e ∈ st, EntOk F K w e) → (st.filterMap (Ent.block K)).Nodup → (st.filterMap Ent.bid).Nodup := by
  intro st
  induction st with
  | nil => intro _ _; simp
  | cons e r ih =>
    intro he hn
    have hr : (r.filterMap (Ent.block K)).Nodup := by
      rw [List.filterMap_cons] at hn
      split at hn
      · exact hn
      · exact (List.nodup_cons.1 hn).2
    have h1 := ih (fun x hx => he x (List.mem_cons_of_mem _ hx)) hr
    have key : ∀ i, e.bid = some i → (∃ b, e.block K = some b ∧ K.box i = some b) → i ∉ r.filterMap Ent.bid := by
      rintro i hi ⟨b, hb, hk⟩ hm
      obtain ⟨x, hx, hxi⟩ := List.mem_filterMap.1 hm
      rw [List.filterMap_cons, hb] at hn
      have hnm := (List.nodup_cons.1 hn).1
      apply hnm
      refine List.mem_filterMap.2 ⟨x, hx, ?_⟩
      cases x with
      | box j U cs => simp only [Ent.bid, Option.some.injEq] at hxi; subst hxi; exact hk
      | tok => cases hxi
      | obj j ok => simp only [Ent.bid, Option.some.injEq] at hxi; subst hxi; exact hk
    have h2 := he e (List.mem_cons_self ..)
    cases e with
    | box i T cs =>
      obtain ⟨b, arr, e1, -⟩ := h2
      exact List.nodup_cons.2 ⟨key i rfl ⟨b, e1, e1⟩, h1⟩
    | tok g E sz n => exact h1
    | obj i ok =>
      obtain ⟨b, o, e1, -⟩ := h2
      exact List.nodup_cons.2 ⟨key i rfl ⟨b, e1, e1⟩, h1⟩
/-- no two variables are one -/
theorem PW_nodup {P : Program} {n : Nat} {c : Code} {Q : Exit → PF → St → Prop} {fr : PF} {st : St} (h : (st.filterMap Ent.bid).Nodup → PW P n c Q fr st) : PW P n c Q fr st :=
  fun F K w a hr hf => h (bid_nodup hr.ents hr.nb) F K w a hr hf
theorem bid_box (i : Nat) (T : TypeId) (cs : List PV) (r : St) : (Ent.box i T cs :: r).filterMap Ent.bid = i :: r.filterMap Ent.bid := rfl
theorem bid_tok (g : Nat) (E : TypeId) (sz n : Nat) (r : St) : (Ent.tok g E sz n :: r).filterMap Ent.bid = r.filterMap Ent.bid := rfl
theorem bid_nil : ([] : St).filterMap Ent.bid = [] := rfl
def startL (s : ByteArray) : List Tk := if (tokA s).2.2 ≠ 0 then [noTk] else (tokA s).1
def startS (s : ByteArray) : ST := if (tokA s).2.2 ≠ 0 then ⟨0, (tokA s).2.1, (tokA s).2.2⟩ else ⟨0, 0, 0⟩
theorem cut_len (c : Nat) (r : List Int) (hc : c ≤ 8192) : (cutR c r).1.length + c ≤ 8192 := by
  cases h1 : (skipR r).2 with
  | false => rw [cut_a h1]; simpa using hc
  | true =>
    by_cases h2 : (skipR r).1 = []
    · rw [cut_b h1 h2]; simpa using hc
    · by_cases h3 : 8192 ≤ c
      · rw [cut_c h1 h2 h3]; simpa using hc
      · cases h4 : (nextR (skipR r).1).2.2.2 with
        | false => rw [cut_d h1 h2 h3 h4]; simpa using hc
        | true =>
          rw [cut_e h1 h2 h3 h4]
          have hlt : ((skipR r).1.drop (nextR (skipR r).1).2.2.1).length < r.length := by
            have h5 := (skipR_suf r).length_le
            have h6 := nextR_pos h4 h2
            have h7 : 0 < (skipR r).1.length := List.length_pos_iff.2 h2
            rw [List.length_drop]
            omega
          have := cut_len (c + 1) ((skipR r).1.drop (nextR (skipR r).1).2.2.1) (by omega)
          simp only [List.length_cons]
          omega
termination_by r.length
decreasing_by exact hlt
theorem cut_err (c : Nat) (r : List Int) (e : Int) (k : Nat) (h : (cutR c r).2 = some (e, k)) : e = 1 ∨ e = 2 := by
  cases h1 : (skipR r).2 with
  | false => rw [cut_a h1] at h; cases h; exact .inl rfl
  | true =>
    by_cases h2 : (skipR r).1 = []
    · rw [cut_b h1 h2] at h; cases h
    · by_cases h3 : 8192 ≤ c
      · rw [cut_c h1 h2 h3] at h; cases h; exact .inr rfl
      · cases h4 : (nextR (skipR r).1).2.2.2 with
        | false => rw [cut_d h1 h2 h3 h4] at h; cases h; exact .inl rfl
        | true =>
          rw [cut_e h1 h2 h3 h4] at h
          have hlt : ((skipR r).1.drop (nextR (skipR r).1).2.2.1).length < r.length := by
            have h5 := (skipR_suf r).length_le
            have h6 := nextR_pos h4 h2
            have h7 : 0 < (skipR r).1.length := List.length_pos_iff.2 h2
            rw [List.length_drop]
            omega
          exact cut_err (c + 1) ((skipR r).1.drop (nextR (skipR r).1).2.2.1) e k h
termination_by r.length
decreasing_by exact hlt
theorem startOk (s : ByteArray) : TkOk (startL s) := by
  unfold startL
  split
  · exact ⟨by decide, by decide, rfl⟩
  · rename_i h
    have h : (tokA s).2.2 = 0 := by simpa using h
    unfold tokA at h ⊢
    split at h
    · rename_i h1; exact absurd h h1
    · rename_i h1
      rw [if_neg h1]
      unfold toksOf at h ⊢
      have hb := cut_len 0 (allS s) (by decide)
      split at h
      · rename_i e k he
        exfalso
        rcases cut_err _ _ _ _ he with h2 | h2
        · rw [h2] at h; cases h
        · rw [h2] at h; cases h
      · rename_i he
        simp only
        refine ⟨by simp; omega, by simp, ?_⟩
        rw [tkg_lt (by simp)]
        simp
theorem start_p (s : ByteArray) : PCalls Try.prog 24 [.d (.v (.string s))] [] fun p st => ∃ i0, p = .ptr i0 0 ∧ st = prS i0 (startL s) (startS s) := by
  have H0 := Lib.hid (tall_p s)
  unfold tokP at H0
  have HL := Lib.hid (show startL s = if (tokA s).2.2 ≠ 0 then [noTk] else (tokA s).1 from rfl)
  have HS := Lib.hid (show startS s = if (tokA s).2.2 ≠ 0 then ⟨0, (tokA s).2.1, (tokA s).2.2⟩ else ⟨0, 0, 0⟩ from rfl)
  generalize (tokA s).1 = L at *
  generalize (tokA s).2.1 = a at *
  generalize (tokA s).2.2 = e at *
  refine PCalls.enter Try.func24 rfl Try.ntmps24 (by simp) ?_
  simp only [argsF]
  repeat (first | (with_reducible first | refine Qa ?_ | refine Qb ?_ | refine Qc ?_ | refine Qd ?_ | refine Qe ?_ | refine Qf ?_ | refine Qg ?_ | refine Qh ?_ | refine Qi ?_ | refine Qj ?_ | refine Qk ?_ | refine Ql ?_ | refine Qm ?_ | refine Qn ?_ | refine Qo ?_ | refine Qp rfl ?_) | (first | refine Qq ?_ | refine Qr ?_) | (first | refine Qs ?_ | refine Qt ?_ | refine Qu ?_) | (first | refine Qv ?_ | refine Qw ?_) | (first | refine Qx ?_ | refine Qy ?_) | (first | refine Qz ?_ | refine Ra ?_ | refine Rb ?_))
  refine POps_call_a (H0.out) ?_
  by_cases hz : e = 0
  · rw [if_neg (by simp [hz])] at HL HS
    repeat (first | (with_reducible first | refine Qa ?_ | refine Qb ?_ | refine Qc ?_ | refine Qd ?_ | refine Qe ?_ | refine Qf ?_ | refine Qg ?_ | refine Qh ?_ | refine Qi ?_ | refine Qj ?_ | refine Qk ?_ | refine Ql ?_ | refine Qm ?_ | refine Qn ?_ | refine Qo ?_ | refine Qp rfl ?_) | (first | refine Qq ?_ | refine Qr ?_) | (first | refine Qs ?_ | refine Qt ?_ | refine Qu ?_) | (first | refine Qv ?_ | refine Qw ?_) | (first | refine Qx ?_ | refine Qy ?_) | (first | refine Qz ?_ | refine Ra ?_ | refine Rb ?_))
    refine POps_box_a ?_
    intro i0 hi0
    repeat (first | (with_reducible first | refine Qa ?_ | refine Qb ?_ | refine Qc ?_ | refine Qd ?_ | refine Qe ?_ | refine Qf ?_ | refine Qg ?_ | refine Qh ?_ | refine Qi ?_ | refine Qj ?_ | refine Qk ?_ | refine Ql ?_ | refine Qm ?_ | refine Qn ?_ | refine Qo ?_ | refine Qp rfl ?_) | (first | refine Qq ?_ | refine Qr ?_) | (first | refine Qs ?_ | refine Qt ?_ | refine Qu ?_) | (first | refine Qv ?_ | refine Qw ?_) | (first | refine Qx ?_ | refine Qy ?_) | (first | refine Qz ?_ | refine Ra ?_ | refine Rb ?_))
    refine retP_ok (st' := prS i0 (startL s) (startS s)) (by simp) (by simp only [Try.results24]; rfl) (by simp [resP]; rfl) (by rw [HL.out, HS.out]; repeat (first | exact List.Sublist.refl _ | exact List.nil_sublist _ | refine List.Sublist.cons_cons _ ?_ | refine List.Sublist.cons _ ?_)) ⟨i0, rfl, rfl⟩
  · rw [if_pos hz] at HL HS
    repeat (first | (with_reducible first | refine Qa ?_ | refine Qb ?_ | refine Qc ?_ | refine Qd ?_ | refine Qe ?_ | refine Qf ?_ | refine Qg ?_ | refine Qh ?_ | refine Qi ?_ | refine Qj ?_ | refine Qk ?_ | refine Ql ?_ | refine Qm ?_ | refine Qn ?_ | refine Qo ?_ | refine Qp rfl ?_) | (first | refine Qq ?_ | refine Qr ?_) | (first | refine Qs ?_ | refine Qt ?_ | refine Qu ?_) | (first | refine Qv ?_ | refine Qw ?_) | (first | refine Qx ?_ | refine Qy ?_) | (first | refine Qz ?_ | refine Ra ?_ | refine Rb ?_))
    refine POps_bs_a ?_
    repeat (first | (with_reducible first | refine Qa ?_ | refine Qb ?_ | refine Qc ?_ | refine Qd ?_ | refine Qe ?_ | refine Qf ?_ | refine Qg ?_ | refine Qh ?_ | refine Qi ?_ | refine Qj ?_ | refine Qk ?_ | refine Ql ?_ | refine Qm ?_ | refine Qn ?_ | refine Qo ?_ | refine Qp rfl ?_) | (first | refine Qq ?_ | refine Qr ?_) | (first | refine Qs ?_ | refine Qt ?_ | refine Qu ?_) | (first | refine Qv ?_ | refine Qw ?_) | (first | refine Qx ?_ | refine Qy ?_) | (first | refine Qz ?_ | refine Ra ?_ | refine Rb ?_))
    refine POps_box_a ?_
    intro i0 hi0
    repeat (first | (with_reducible first | refine Qa ?_ | refine Qb ?_ | refine Qc ?_ | refine Qd ?_ | refine Qe ?_ | refine Qf ?_ | refine Qg ?_ | refine Qh ?_ | refine Qi ?_ | refine Qj ?_ | refine Qk ?_ | refine Ql ?_ | refine Qm ?_ | refine Qn ?_ | refine Qo ?_ | refine Qp rfl ?_) | (first | refine Qq ?_ | refine Qr ?_) | (first | refine Qs ?_ | refine Qt ?_ | refine Qu ?_) | (first | refine Qv ?_ | refine Qw ?_) | (first | refine Qx ?_ | refine Qy ?_) | (first | refine Qz ?_ | refine Ra ?_ | refine Rb ?_))
    refine retP_ok (st' := prS i0 (startL s) (startS s)) (by simp) (by simp only [Try.results24]; rfl) (by simp [resP]; rfl) (by rw [HL.out, HS.out]; repeat (first | exact List.Sublist.refl _ | exact List.nil_sublist _ | refine List.Sublist.cons_cons _ ?_ | refine List.Sublist.cons _ ?_)) ⟨i0, rfl, rfl⟩
def checkedS (x : Nd) (a : Int) (σ : ST) : ST := if σ.bad = 0 ∧ 128 < depthT x then failS 2 a σ else σ
def exprS (l : List Tk) (n : Nat) (σ : ST) : Nd × ST := ((termS l n σ).1, checkedS (termS l n σ).1 (tkg l σ.i).at_ (termS l n σ).2)
def endS (l : List Tk) (σ : ST) : ST := if (tkg l σ.i).kind = 5 then σ else failS 1 (tkg l σ.i).at_ σ
theorem checked_p (i0 : Nat) (l : List Tk) (x : Nd) (a : Int) (σ : ST) : PCalls Try.prog 44 [.ptr i0 0, aggD x, .d (.v (.int .i64 a))] (prS i0 l σ) fun p s => p = aggD x ∧ s = prS i0 l (checkedS x a σ) := by
  have H0 := Lib.hid (depth_p x)
  have H1 := Lib.hid (fail_p i0 l σ 2 a)
  have HC := Lib.hid (show checkedS x a σ = if σ.bad = 0 ∧ 128 < depthT x then failS 2 a σ else σ from rfl)
  simp only [aggD, encD_nd, List.map_cons, List.map_nil] at H0 ⊢
  by_cases hz : σ.bad = 0
  · by_cases hd : 128 < depthT x
    · rw [if_pos ⟨hz, hd⟩] at HC
      rw [HC.out]
      clear HC
      obtain ⟨i, b, c⟩ := σ
      simp only at hz
      subst hz
      generalize failS 2 a ⟨i, b, 0⟩ = σ1 at *
      refine PCalls.enter Try.func44 rfl Try.ntmps44 (by simp) ?_
      simp only [argsF]
      repeat (first | (with_reducible first | refine Qa ?_ | refine Qb ?_ | refine Qc ?_ | refine Qd ?_ | refine Qe ?_ | refine Qf ?_ | refine Qg ?_ | refine Qh ?_ | refine Qi ?_ | refine Qj ?_ | refine Qk ?_ | refine Ql ?_ | refine Qm ?_ | refine Qn ?_ | refine Qo ?_ | refine Qp rfl ?_) | (first | refine Qq ?_ | refine Qr ?_) | (first | refine Qs ?_ | refine Qt ?_ | refine Qu ?_) | (first | refine Qv ?_ | refine Qw ?_) | (first | refine Qx ?_ | refine Qy ?_) | (first | refine Qz ?_ | refine Ra ?_ | refine Rb ?_))
      refine POps_box_a ?_
      intro i1 hi1
      simp only [prS, List.cons_append, List.nil_append, List.append_nil, List.drop_succ_cons, List.drop_zero, List.drop_nil, St.freshB_box, St.freshB_nil, St.freshB_tok, St.freshB_obj] at hi1
      repeat (first | (with_reducible first | refine Qa ?_ | refine Qb ?_ | refine Qc ?_ | refine Qd ?_ | refine Qe ?_ | refine Qf ?_ | refine Qg ?_ | refine Qh ?_ | refine Qi ?_ | refine Qj ?_ | refine Qk ?_ | refine Ql ?_ | refine Qm ?_ | refine Qn ?_ | refine Qo ?_ | refine Qp rfl ?_) | (first | refine Qq ?_ | refine Qr ?_) | (first | refine Qs ?_ | refine Qt ?_ | refine Qu ?_) | (first | refine Qv ?_ | refine Qw ?_) | (first | refine Qx ?_ | refine Qy ?_) | (first | refine Qz ?_ | refine Ra ?_ | refine Rb ?_))
      refine POps_alloc_a ?_
      intro i2 hi2
      simp only [prS, List.cons_append, List.nil_append, List.append_nil, List.drop_succ_cons, List.drop_zero, List.drop_nil, St.freshB_box, St.freshB_nil, St.freshB_tok, St.freshB_obj] at hi2
      unfold prS
      repeat (first | (with_reducible first | refine Qa ?_ | refine Qb ?_ | refine Qc ?_ | refine Qd ?_ | refine Qe ?_ | refine Qf ?_ | refine Qg ?_ | refine Qh ?_ | refine Qi ?_ | refine Qj ?_ | refine Qk ?_ | refine Ql ?_ | refine Qm ?_ | refine Qn ?_ | refine Qo ?_ | refine Qp rfl ?_) | (first | refine Qq ?_ | refine Qr ?_) | (first | refine Qs ?_ | refine Qt ?_ | refine Qu ?_) | (first | refine Qv ?_ | refine Qw ?_) | (first | refine Qx ?_ | refine Qy ?_) | (first | refine Qz ?_ | refine Ra ?_ | refine Rb ?_))
      refine POps_call_b (H0.out) ?_
      repeat (first | (with_reducible first | refine Qa ?_ | refine Qb ?_ | refine Qc ?_ | refine Qd ?_ | refine Qe ?_ | refine Qf ?_ | refine Qg ?_ | refine Qh ?_ | refine Qi ?_ | refine Qj ?_ | refine Qk ?_ | refine Ql ?_ | refine Qm ?_ | refine Qn ?_ | refine Qo ?_ | refine Qp rfl ?_) | (first | refine Qq ?_ | refine Qr ?_) | (first | refine Qs ?_ | refine Qt ?_ | refine Qu ?_) | (first | refine Qv ?_ | refine Qw ?_) | (first | refine Qx ?_ | refine Qy ?_) | (first | refine Qz ?_ | refine Ra ?_ | refine Rb ?_))
      refine Rd 2 1 (H1.out) ?_
      rintro _ _ ⟨rfl, rfl⟩
      repeat (first | (with_reducible first | refine Qa ?_ | refine Qb ?_ | refine Qc ?_ | refine Qd ?_ | refine Qe ?_ | refine Qf ?_ | refine Qg ?_ | refine Qh ?_ | refine Qi ?_ | refine Qj ?_ | refine Qk ?_ | refine Ql ?_ | refine Qm ?_ | refine Qn ?_ | refine Qo ?_ | refine Qp rfl ?_) | (first | refine Qq ?_ | refine Qr ?_) | (first | refine Qs ?_ | refine Qt ?_ | refine Qu ?_) | (first | refine Qv ?_ | refine Qw ?_) | (first | refine Qx ?_ | refine Qy ?_) | (first | refine Qz ?_ | refine Ra ?_ | refine Rb ?_))
      refine Rc ?_
      repeat (first | (with_reducible first | refine Qa ?_ | refine Qb ?_ | refine Qc ?_ | refine Qd ?_ | refine Qe ?_ | refine Qf ?_ | refine Qg ?_ | refine Qh ?_ | refine Qi ?_ | refine Qj ?_ | refine Qk ?_ | refine Ql ?_ | refine Qm ?_ | refine Qn ?_ | refine Qo ?_ | refine Qp rfl ?_) | (first | refine Qq ?_ | refine Qr ?_) | (first | refine Qs ?_ | refine Qt ?_ | refine Qu ?_) | (first | refine Qv ?_ | refine Qw ?_) | (first | refine Qx ?_ | refine Qy ?_) | (first | refine Qz ?_ | refine Ra ?_ | refine Rb ?_))
      refine retP_ok (st' := prS i0 l σ1) (by simp) (by simp only [Try.results44]; rfl) (by simp [resP, St.box?, PF.get, loadB, TyK.agg, *]; rfl) (by repeat (first | exact List.Sublist.refl _ | exact List.nil_sublist _ | refine List.Sublist.cons_cons _ ?_ | refine List.Sublist.cons _ ?_)) ?_
      exact ⟨rfl, rfl⟩
    · rw [if_neg (fun h => hd h.2)] at HC
      rw [HC.out]
      clear HC
      obtain ⟨i, b, c⟩ := σ
      simp only at hz
      subst hz
      refine PCalls.enter Try.func44 rfl Try.ntmps44 (by simp) ?_
      simp only [argsF]
      repeat (first | (with_reducible first | refine Qa ?_ | refine Qb ?_ | refine Qc ?_ | refine Qd ?_ | refine Qe ?_ | refine Qf ?_ | refine Qg ?_ | refine Qh ?_ | refine Qi ?_ | refine Qj ?_ | refine Qk ?_ | refine Ql ?_ | refine Qm ?_ | refine Qn ?_ | refine Qo ?_ | refine Qp rfl ?_) | (first | refine Qq ?_ | refine Qr ?_) | (first | refine Qs ?_ | refine Qt ?_ | refine Qu ?_) | (first | refine Qv ?_ | refine Qw ?_) | (first | refine Qx ?_ | refine Qy ?_) | (first | refine Qz ?_ | refine Ra ?_ | refine Rb ?_))
      refine POps_box_a ?_
      intro i1 hi1
      simp only [prS, List.cons_append, List.nil_append, List.append_nil, List.drop_succ_cons, List.drop_zero, List.drop_nil, St.freshB_box, St.freshB_nil, St.freshB_tok, St.freshB_obj] at hi1
      repeat (first | (with_reducible first | refine Qa ?_ | refine Qb ?_ | refine Qc ?_ | refine Qd ?_ | refine Qe ?_ | refine Qf ?_ | refine Qg ?_ | refine Qh ?_ | refine Qi ?_ | refine Qj ?_ | refine Qk ?_ | refine Ql ?_ | refine Qm ?_ | refine Qn ?_ | refine Qo ?_ | refine Qp rfl ?_) | (first | refine Qq ?_ | refine Qr ?_) | (first | refine Qs ?_ | refine Qt ?_ | refine Qu ?_) | (first | refine Qv ?_ | refine Qw ?_) | (first | refine Qx ?_ | refine Qy ?_) | (first | refine Qz ?_ | refine Ra ?_ | refine Rb ?_))
      refine POps_alloc_a ?_
      intro i2 hi2
      simp only [prS, List.cons_append, List.nil_append, List.append_nil, List.drop_succ_cons, List.drop_zero, List.drop_nil, St.freshB_box, St.freshB_nil, St.freshB_tok, St.freshB_obj] at hi2
      unfold prS
      repeat (first | (with_reducible first | refine Qa ?_ | refine Qb ?_ | refine Qc ?_ | refine Qd ?_ | refine Qe ?_ | refine Qf ?_ | refine Qg ?_ | refine Qh ?_ | refine Qi ?_ | refine Qj ?_ | refine Qk ?_ | refine Ql ?_ | refine Qm ?_ | refine Qn ?_ | refine Qo ?_ | refine Qp rfl ?_) | (first | refine Qq ?_ | refine Qr ?_) | (first | refine Qs ?_ | refine Qt ?_ | refine Qu ?_) | (first | refine Qv ?_ | refine Qw ?_) | (first | refine Qx ?_ | refine Qy ?_) | (first | refine Qz ?_ | refine Ra ?_ | refine Rb ?_))
      refine POps_call_b (H0.out) ?_
      repeat (first | (with_reducible first | refine Qa ?_ | refine Qb ?_ | refine Qc ?_ | refine Qd ?_ | refine Qe ?_ | refine Qf ?_ | refine Qg ?_ | refine Qh ?_ | refine Qi ?_ | refine Qj ?_ | refine Qk ?_ | refine Ql ?_ | refine Qm ?_ | refine Qn ?_ | refine Qo ?_ | refine Qp rfl ?_) | (first | refine Qq ?_ | refine Qr ?_) | (first | refine Qs ?_ | refine Qt ?_ | refine Qu ?_) | (first | refine Qv ?_ | refine Qw ?_) | (first | refine Qx ?_ | refine Qy ?_) | (first | refine Qz ?_ | refine Ra ?_ | refine Rb ?_))
      refine Rc ?_
      repeat (first | (with_reducible first | refine Qa ?_ | refine Qb ?_ | refine Qc ?_ | refine Qd ?_ | refine Qe ?_ | refine Qf ?_ | refine Qg ?_ | refine Qh ?_ | refine Qi ?_ | refine Qj ?_ | refine Qk ?_ | refine Ql ?_ | refine Qm ?_ | refine Qn ?_ | refine Qo ?_ | refine Qp rfl ?_) | (first | refine Qq ?_ | refine Qr ?_) | (first | refine Qs ?_ | refine Qt ?_ | refine Qu ?_) | (first | refine Qv ?_ | refine Qw ?_) | (first | refine Qx ?_ | refine Qy ?_) | (first | refine Qz ?_ | refine Ra ?_ | refine Rb ?_))
      refine retP_ok (st' := prS i0 l ⟨i, b, 0⟩) (by simp) (by simp only [Try.results44]; rfl) (by simp [resP, St.box?, PF.get, loadB, TyK.agg, *]; rfl) (by repeat (first | exact List.Sublist.refl _ | exact List.nil_sublist _ | refine List.Sublist.cons_cons _ ?_ | refine List.Sublist.cons _ ?_)) ?_
      exact ⟨rfl, rfl⟩
  · rw [if_neg (fun h => hz h.1)] at HC
    rw [HC.out]
    clear HC
    refine PCalls.enter Try.func44 rfl Try.ntmps44 (by simp) ?_
    simp only [argsF]
    repeat (first | (with_reducible first | refine Qa ?_ | refine Qb ?_ | refine Qc ?_ | refine Qd ?_ | refine Qe ?_ | refine Qf ?_ | refine Qg ?_ | refine Qh ?_ | refine Qi ?_ | refine Qj ?_ | refine Qk ?_ | refine Ql ?_ | refine Qm ?_ | refine Qn ?_ | refine Qo ?_ | refine Qp rfl ?_) | (first | refine Qq ?_ | refine Qr ?_) | (first | refine Qs ?_ | refine Qt ?_ | refine Qu ?_) | (first | refine Qv ?_ | refine Qw ?_) | (first | refine Qx ?_ | refine Qy ?_) | (first | refine Qz ?_ | refine Ra ?_ | refine Rb ?_))
    refine POps_box_a ?_
    intro i1 hi1
    simp only [prS, List.cons_append, List.nil_append, List.append_nil, List.drop_succ_cons, List.drop_zero, List.drop_nil, St.freshB_box, St.freshB_nil, St.freshB_tok, St.freshB_obj] at hi1
    repeat (first | (with_reducible first | refine Qa ?_ | refine Qb ?_ | refine Qc ?_ | refine Qd ?_ | refine Qe ?_ | refine Qf ?_ | refine Qg ?_ | refine Qh ?_ | refine Qi ?_ | refine Qj ?_ | refine Qk ?_ | refine Ql ?_ | refine Qm ?_ | refine Qn ?_ | refine Qo ?_ | refine Qp rfl ?_) | (first | refine Qq ?_ | refine Qr ?_) | (first | refine Qs ?_ | refine Qt ?_ | refine Qu ?_) | (first | refine Qv ?_ | refine Qw ?_) | (first | refine Qx ?_ | refine Qy ?_) | (first | refine Qz ?_ | refine Ra ?_ | refine Rb ?_))
    refine POps_alloc_a ?_
    intro i2 hi2
    simp only [prS, List.cons_append, List.nil_append, List.append_nil, List.drop_succ_cons, List.drop_zero, List.drop_nil, St.freshB_box, St.freshB_nil, St.freshB_tok, St.freshB_obj] at hi2
    unfold prS
    repeat (first | (with_reducible first | refine Qa ?_ | refine Qb ?_ | refine Qc ?_ | refine Qd ?_ | refine Qe ?_ | refine Qf ?_ | refine Qg ?_ | refine Qh ?_ | refine Qi ?_ | refine Qj ?_ | refine Qk ?_ | refine Ql ?_ | refine Qm ?_ | refine Qn ?_ | refine Qo ?_ | refine Qp rfl ?_) | (first | refine Qq ?_ | refine Qr ?_) | (first | refine Qs ?_ | refine Qt ?_ | refine Qu ?_) | (first | refine Qv ?_ | refine Qw ?_) | (first | refine Qx ?_ | refine Qy ?_) | (first | refine Qz ?_ | refine Ra ?_ | refine Rb ?_))
    refine Rc ?_
    repeat (first | (with_reducible first | refine Qa ?_ | refine Qb ?_ | refine Qc ?_ | refine Qd ?_ | refine Qe ?_ | refine Qf ?_ | refine Qg ?_ | refine Qh ?_ | refine Qi ?_ | refine Qj ?_ | refine Qk ?_ | refine Ql ?_ | refine Qm ?_ | refine Qn ?_ | refine Qo ?_ | refine Qp rfl ?_) | (first | refine Qq ?_ | refine Qr ?_) | (first | refine Qs ?_ | refine Qt ?_ | refine Qu ?_) | (first | refine Qv ?_ | refine Qw ?_) | (first | refine Qx ?_ | refine Qy ?_) | (first | refine Qz ?_ | refine Ra ?_ | refine Rb ?_))
    refine retP_ok (st' := prS i0 l σ) (by simp) (by simp only [Try.results44]; rfl) (by simp [resP, St.box?, PF.get, loadB, TyK.agg, *]; rfl) (by repeat (first | exact List.Sublist.refl _ | exact List.nil_sublist _ | refine List.Sublist.cons_cons _ ?_ | refine List.Sublist.cons _ ?_)) ?_
    exact ⟨rfl, rfl⟩
theorem expr_p {l : List Tk} (hl : TkOk l) (i0 n : Nat) (σ : ST) (hw : Wf l σ) (hf : Fu l n 6 σ) : PCalls Try.prog 25 [.ptr i0 0] (prS i0 l σ) fun p s => p = aggD (exprS l n σ).1 ∧ s = prS i0 l (exprS l n σ).2 := by
  have c0 := Lib.hid (tok0_p i0 l σ hl.len hl.pos (Nat.le_trans (hw.le hl) (by decide)))
  have c1 := (parse_w hl n).2.1 σ hw hf i0
  have c2 := checked_p i0 l (termS l n σ).1 (tkg l σ.i).at_ (termS l n σ).2
  unfold exprS
  generalize (tkg l σ.i).at_ = a at *
  generalize (termS l n σ).1 = x at *
  generalize (termS l n σ).2 = σ1 at *
  simp only
  generalize checkedS x a σ1 = σ2 at *
  simp only [aggD, encD_nd, List.map_cons, List.map_nil] at c1 c2 ⊢
  have C1 := Lib.hid c1
  have C2 := Lib.hid c2
  clear c1 c2
  refine PCalls.enter Try.func25 rfl Try.ntmps25 (by simp) ?_
  simp only [argsF]
  repeat (first | (with_reducible first | refine Qa ?_ | refine Qb ?_ | refine Qc ?_ | refine Qd ?_ | refine Qe ?_ | refine Qf ?_ | refine Qg ?_ | refine Qh ?_ | refine Qi ?_ | refine Qj ?_ | refine Qk ?_ | refine Ql ?_ | refine Qm ?_ | refine Qn ?_ | refine Qo ?_ | refine Qp rfl ?_) | (first | refine Qq ?_ | refine Qr ?_) | (first | refine Qs ?_ | refine Qt ?_ | refine Qu ?_) | (first | refine Qv ?_ | refine Qw ?_) | (first | refine Qx ?_ | refine Qy ?_) | (first | refine Qz ?_ | refine Ra ?_ | refine Rb ?_))
  refine POps_alloc_a ?_
  intro i1 hi1
  simp only [prS, List.cons_append, List.nil_append, List.append_nil, List.drop_succ_cons, List.drop_zero, List.drop_nil, St.freshB_box, St.freshB_nil, St.freshB_tok, St.freshB_obj] at hi1
  repeat (first | (with_reducible first | refine Qa ?_ | refine Qb ?_ | refine Qc ?_ | refine Qd ?_ | refine Qe ?_ | refine Qf ?_ | refine Qg ?_ | refine Qh ?_ | refine Qi ?_ | refine Qj ?_ | refine Qk ?_ | refine Ql ?_ | refine Qm ?_ | refine Qn ?_ | refine Qo ?_ | refine Qp rfl ?_) | (first | refine Qq ?_ | refine Qr ?_) | (first | refine Qs ?_ | refine Qt ?_ | refine Qu ?_) | (first | refine Qv ?_ | refine Qw ?_) | (first | refine Qx ?_ | refine Qy ?_) | (first | refine Qz ?_ | refine Ra ?_ | refine Rb ?_))
  refine Rd 1 1 (c0.out) ?_
  rintro _ _ ⟨rfl, rfl⟩
  repeat (first | (with_reducible first | refine Qa ?_ | refine Qb ?_ | refine Qc ?_ | refine Qd ?_ | refine Qe ?_ | refine Qf ?_ | refine Qg ?_ | refine Qh ?_ | refine Qi ?_ | refine Qj ?_ | refine Qk ?_ | refine Ql ?_ | refine Qm ?_ | refine Qn ?_ | refine Qo ?_ | refine Qp rfl ?_) | (first | refine Qq ?_ | refine Qr ?_) | (first | refine Qs ?_ | refine Qt ?_ | refine Qu ?_) | (first | refine Qv ?_ | refine Qw ?_) | (first | refine Qx ?_ | refine Qy ?_) | (first | refine Qz ?_ | refine Ra ?_ | refine Rb ?_))
  refine Rd 1 1 (C1.out) ?_
  rintro _ _ ⟨rfl, rfl⟩
  repeat (first | (with_reducible first | refine Qa ?_ | refine Qb ?_ | refine Qc ?_ | refine Qd ?_ | refine Qe ?_ | refine Qf ?_ | refine Qg ?_ | refine Qh ?_ | refine Qi ?_ | refine Qj ?_ | refine Qk ?_ | refine Ql ?_ | refine Qm ?_ | refine Qn ?_ | refine Qo ?_ | refine Qp rfl ?_) | (first | refine Qq ?_ | refine Qr ?_) | (first | refine Qs ?_ | refine Qt ?_ | refine Qu ?_) | (first | refine Qv ?_ | refine Qw ?_) | (first | refine Qx ?_ | refine Qy ?_) | (first | refine Qz ?_ | refine Ra ?_ | refine Rb ?_))
  refine Rd 1 1 (C2.out) ?_
  rintro _ _ ⟨rfl, rfl⟩
  repeat (first | (with_reducible first | refine Qa ?_ | refine Qb ?_ | refine Qc ?_ | refine Qd ?_ | refine Qe ?_ | refine Qf ?_ | refine Qg ?_ | refine Qh ?_ | refine Qi ?_ | refine Qj ?_ | refine Qk ?_ | refine Ql ?_ | refine Qm ?_ | refine Qn ?_ | refine Qo ?_ | refine Qp rfl ?_) | (first | refine Qq ?_ | refine Qr ?_) | (first | refine Qs ?_ | refine Qt ?_ | refine Qu ?_) | (first | refine Qv ?_ | refine Qw ?_) | (first | refine Qx ?_ | refine Qy ?_) | (first | refine Qz ?_ | refine Ra ?_ | refine Rb ?_))
  refine Rc ?_
  repeat (first | (with_reducible first | refine Qa ?_ | refine Qb ?_ | refine Qc ?_ | refine Qd ?_ | refine Qe ?_ | refine Qf ?_ | refine Qg ?_ | refine Qh ?_ | refine Qi ?_ | refine Qj ?_ | refine Qk ?_ | refine Ql ?_ | refine Qm ?_ | refine Qn ?_ | refine Qo ?_ | refine Qp rfl ?_) | (first | refine Qq ?_ | refine Qr ?_) | (first | refine Qs ?_ | refine Qt ?_ | refine Qu ?_) | (first | refine Qv ?_ | refine Qw ?_) | (first | refine Qx ?_ | refine Qy ?_) | (first | refine Qz ?_ | refine Ra ?_ | refine Rb ?_))
  refine retP_ok (st' := prS i0 l σ2) (by simp) (by simp only [Try.results25]; rfl) (by simp [resP, St.box?, PF.get, loadB, TyK.agg, *]; rfl) (by repeat (first | exact List.Sublist.refl _ | exact List.nil_sublist _ | refine List.Sublist.cons_cons _ ?_ | refine List.Sublist.cons _ ?_)) ?_
  exact ⟨rfl, rfl⟩
theorem end_p' {l : List Tk} (hl : TkOk l) (i0 : Nat) (σ : ST) (hw : Wf l σ) : PCalls Try.prog 26 [.ptr i0 0] (prS i0 l σ) fun p s => p = .tup [] ∧ s = prS i0 l (endS l σ) := by
  have c0 := Lib.hid (tok0_p i0 l σ hl.len hl.pos (Nat.le_trans (hw.le hl) (by decide)))
  have c1 := Lib.hid (fail_p i0 l σ 1 (tkg l σ.i).at_)
  have HE := Lib.hid (show endS l σ = if (tkg l σ.i).kind = 5 then σ else failS 1 (tkg l σ.i).at_ σ from rfl)
  generalize tkg l σ.i = t at *
  by_cases h5 : t.kind = 5
  · rw [if_pos h5] at HE
    rw [HE.out]
    refine PCalls.enter Try.func26 rfl Try.ntmps26 (by simp) ?_
    simp only [argsF]
    repeat (first | (with_reducible first | refine Qa ?_ | refine Qb ?_ | refine Qc ?_ | refine Qd ?_ | refine Qe ?_ | refine Qf ?_ | refine Qg ?_ | refine Qh ?_ | refine Qi ?_ | refine Qj ?_ | refine Qk ?_ | refine Ql ?_ | refine Qm ?_ | refine Qn ?_ | refine Qo ?_ | refine Qp rfl ?_) | (first | refine Qq ?_ | refine Qr ?_) | (first | refine Qs ?_ | refine Qt ?_ | refine Qu ?_) | (first | refine Qv ?_ | refine Qw ?_) | (first | refine Qx ?_ | refine Qy ?_) | (first | refine Qz ?_ | refine Ra ?_ | refine Rb ?_))
    refine Re (c0.out) ?_
    rintro _ _ ⟨rfl, rfl⟩
    repeat (first | (with_reducible first | refine Qa ?_ | refine Qb ?_ | refine Qc ?_ | refine Qd ?_ | refine Qe ?_ | refine Qf ?_ | refine Qg ?_ | refine Qh ?_ | refine Qi ?_ | refine Qj ?_ | refine Qk ?_ | refine Ql ?_ | refine Qm ?_ | refine Qn ?_ | refine Qo ?_ | refine Qp rfl ?_) | (first | refine Qq ?_ | refine Qr ?_) | (first | refine Qs ?_ | refine Qt ?_ | refine Qu ?_) | (first | refine Qv ?_ | refine Qw ?_) | (first | refine Qx ?_ | refine Qy ?_) | (first | refine Qz ?_ | refine Ra ?_ | refine Rb ?_))
    refine retP_ok (st' := prS i0 l σ) (by simp) (by simp only [Try.results26]; rfl) (by simp [resP]; rfl) (by repeat (first | exact List.Sublist.refl _ | exact List.nil_sublist _ | refine List.Sublist.cons_cons _ ?_ | refine List.Sublist.cons _ ?_)) ⟨rfl, rfl⟩
  · rw [if_neg h5] at HE
    rw [HE.out]
    refine PCalls.enter Try.func26 rfl Try.ntmps26 (by simp) ?_
    simp only [argsF]
    repeat (first | (with_reducible first | refine Qa ?_ | refine Qb ?_ | refine Qc ?_ | refine Qd ?_ | refine Qe ?_ | refine Qf ?_ | refine Qg ?_ | refine Qh ?_ | refine Qi ?_ | refine Qj ?_ | refine Qk ?_ | refine Ql ?_ | refine Qm ?_ | refine Qn ?_ | refine Qo ?_ | refine Qp rfl ?_) | (first | refine Qq ?_ | refine Qr ?_) | (first | refine Qs ?_ | refine Qt ?_ | refine Qu ?_) | (first | refine Qv ?_ | refine Qw ?_) | (first | refine Qx ?_ | refine Qy ?_) | (first | refine Qz ?_ | refine Ra ?_ | refine Rb ?_))
    refine Re (c0.out) ?_
    rintro _ _ ⟨rfl, rfl⟩
    repeat (first | (with_reducible first | refine Qa ?_ | refine Qb ?_ | refine Qc ?_ | refine Qd ?_ | refine Qe ?_ | refine Qf ?_ | refine Qg ?_ | refine Qh ?_ | refine Qi ?_ | refine Qj ?_ | refine Qk ?_ | refine Ql ?_ | refine Qm ?_ | refine Qn ?_ | refine Qo ?_ | refine Qp rfl ?_) | (first | refine Qq ?_ | refine Qr ?_) | (first | refine Qs ?_ | refine Qt ?_ | refine Qu ?_) | (first | refine Qv ?_ | refine Qw ?_) | (first | refine Qx ?_ | refine Qy ?_) | (first | refine Qz ?_ | refine Ra ?_ | refine Rb ?_))
    refine Re (c0.out) ?_
    rintro _ _ ⟨rfl, rfl⟩
    repeat (first | (with_reducible first | refine Qa ?_ | refine Qb ?_ | refine Qc ?_ | refine Qd ?_ | refine Qe ?_ | refine Qf ?_ | refine Qg ?_ | refine Qh ?_ | refine Qi ?_ | refine Qj ?_ | refine Qk ?_ | refine Ql ?_ | refine Qm ?_ | refine Qn ?_ | refine Qo ?_ | refine Qp rfl ?_) | (first | refine Qq ?_ | refine Qr ?_) | (first | refine Qs ?_ | refine Qt ?_ | refine Qu ?_) | (first | refine Qv ?_ | refine Qw ?_) | (first | refine Qx ?_ | refine Qy ?_) | (first | refine Qz ?_ | refine Ra ?_ | refine Rb ?_))
    refine Re (c1.out) ?_
    rintro _ _ ⟨rfl, rfl⟩
    repeat (first | (with_reducible first | refine Qa ?_ | refine Qb ?_ | refine Qc ?_ | refine Qd ?_ | refine Qe ?_ | refine Qf ?_ | refine Qg ?_ | refine Qh ?_ | refine Qi ?_ | refine Qj ?_ | refine Qk ?_ | refine Ql ?_ | refine Qm ?_ | refine Qn ?_ | refine Qo ?_ | refine Qp rfl ?_) | (first | refine Qq ?_ | refine Qr ?_) | (first | refine Qs ?_ | refine Qt ?_ | refine Qu ?_) | (first | refine Qv ?_ | refine Qw ?_) | (first | refine Qx ?_ | refine Qy ?_) | (first | refine Qz ?_ | refine Ra ?_ | refine Rb ?_))
    refine retP_ok (st' := prS i0 l (failS 1 t.at_ σ)) (by simp) (by simp only [Try.results26]; rfl) (by simp [resP]; rfl) (by repeat (first | exact List.Sublist.refl _ | exact List.nil_sublist _ | refine List.Sublist.cons_cons _ ?_ | refine List.Sublist.cons _ ?_)) ⟨rfl, rfl⟩
/-- what is read of a text -/
def fuelS (s : ByteArray) : Nat := 6 * (startL s).length + 6
def exprE (s : ByteArray) : Nd × ST := exprS (startL s) (fuelS s) (startS s)
def exprA (s : ByteArray) : Nd × Int × Int :=
  let τ := endS (startL s) (exprE s).2
  if τ.bad = 0 then ((exprE s).1, (s.size : Int), 0) else (zNd, τ.at_, τ.bad)
theorem startW (s : ByteArray) : Wf (startL s) (startS s) := by
  have := (startOk s).pos
  unfold Wf startS
  split <;> exact this
theorem expr_adv {l : List Tk} (hl : TkOk l) (n : Nat) (σ : ST) (hw : Wf l σ) : Adv l σ (exprS l n σ).2 := by
  have h1 := (parse_adv hl n).2.1 σ hw
  unfold exprS checkedS
  simp only
  split
  · exact h1.trans (fail_adv hl 2 _ (by decide) h1.1).adv
  · exact h1
set_option maxHeartbeats 4000000 in
theorem pexprs_p (s : ByteArray) : PCalls Try.prog 13 [.d (.v (.string s))] [] fun p st => p = .tup [aggD (exprA s).1, .d (.v (.int .i64 (exprA s).2.1)), .d (.v (.int .i64 (exprA s).2.2))] ∧ st = [] := by
  have hl := startOk s
  have hw := startW s
  have H0 := Lib.hid (start_p s)
  have hf : Fu (startL s) (fuelS s) 6 (startS s) := ⟨by unfold fuelS; omega, fun _ => by unfold fuelS; omega⟩
  have hE := expr_adv hl (fuelS s) (startS s) hw
  have HE := Lib.hid (fun i0 => expr_p hl i0 (fuelS s) (startS s) hw hf)
  have HD := Lib.hid (fun i0 => end_p' hl i0 (exprE s).2 hE.1)
  have HA := Lib.hid (show exprA s = if (endS (startL s) (exprE s).2).bad = 0 then ((exprE s).1, (s.size : Int), 0) else (zNd, (endS (startL s) (exprE s).2).at_, (endS (startL s) (exprE s).2).bad) from rfl)
  change Hid (∀ i0, PCalls Try.prog 25 [.ptr i0 0] (prS i0 (startL s) (startS s)) fun p st => p = aggD (exprE s).1 ∧ st = prS i0 (startL s) (exprE s).2) at HE
  clear hl hw hf hE
  generalize startS s = σ at *
  generalize startL s = l at *
  generalize (exprE s).1 = x at *
  generalize (exprE s).2 = σ1 at *
  generalize endS l σ1 = σ2 at *
  rw [HA.out]
  clear HA
  simp only [aggD, encD_nd, List.map_cons, List.map_nil] at HE
  refine PCalls.enter Try.func13 rfl Try.ntmps13 (by simp) ?_
  simp only [argsF]
  repeat (first | (with_reducible first | refine Qa ?_ | refine Qb ?_ | refine Qc ?_ | refine Qd ?_ | refine Qe ?_ | refine Qf ?_ | refine Qg ?_ | refine Qh ?_ | refine Qi ?_ | refine Qj ?_ | refine Qk ?_ | refine Ql ?_ | refine Qm ?_ | refine Qn ?_ | refine Qo ?_ | refine Qp rfl ?_) | (first | refine Qq ?_ | refine Qr ?_) | (first | refine Qs ?_ | refine Qt ?_ | refine Qu ?_) | (first | refine Qv ?_ | refine Qw ?_) | (first | refine Qx ?_ | refine Qy ?_) | (first | refine Qz ?_ | refine Ra ?_ | refine Rb ?_))
  refine POps_alloc_a ?_
  intro i1 hi1
  repeat (first | (with_reducible first | refine Qa ?_ | refine Qb ?_ | refine Qc ?_ | refine Qd ?_ | refine Qe ?_ | refine Qf ?_ | refine Qg ?_ | refine Qh ?_ | refine Qi ?_ | refine Qj ?_ | refine Qk ?_ | refine Ql ?_ | refine Qm ?_ | refine Qn ?_ | refine Qo ?_ | refine Qp rfl ?_) | (first | refine Qq ?_ | refine Qr ?_) | (first | refine Qs ?_ | refine Qt ?_ | refine Qu ?_) | (first | refine Qv ?_ | refine Qw ?_) | (first | refine Qx ?_ | refine Qy ?_) | (first | refine Qz ?_ | refine Ra ?_ | refine Rb ?_))
  refine Rd 1 0 (H0.out) ?_
  rintro _ _ ⟨i0, rfl, rfl⟩
  refine Qq ?_
  refine Qh ?_
  refine Qj ?_
  refine PW_nodup fun hnd => ?_
  simp only [prS, List.cons_append, List.nil_append, List.append_nil, List.drop_succ_cons, List.drop_zero, List.drop_nil, bid_box, bid_nil, List.nodup_cons, List.mem_cons, List.not_mem_nil, or_false, List.nodup_nil, and_true, not_false_iff] at hnd
  have hne : ¬ i0 = i1 := fun e => hnd e.symm
  repeat (first | (with_reducible first | refine Qa ?_ | refine Qb ?_ | refine Qc ?_ | refine Qd ?_ | refine Qe ?_ | refine Qf ?_ | refine Qg ?_ | refine Qh ?_ | refine Qi ?_ | refine Qj ?_ | refine Qk ?_ | refine Ql ?_ | refine Qm ?_ | refine Qn ?_ | refine Qo ?_ | refine Qp rfl ?_) | (first | refine Qq ?_ | refine Qr ?_) | (first | refine Qs ?_ | refine Qt ?_ | refine Qu ?_) | (first | refine Qv ?_ | refine Qw ?_) | (first | refine Qx ?_ | refine Qy ?_) | (first | refine Qz ?_ | refine Ra ?_ | refine Rb ?_))
  refine Rd 1 1 (HE.out i0) ?_
  rintro _ _ ⟨rfl, rfl⟩
  repeat (first | (with_reducible first | refine Qa ?_ | refine Qb ?_ | refine Qc ?_ | refine Qd ?_ | refine Qe ?_ | refine Qf ?_ | refine Qg ?_ | refine Qh ?_ | refine Qi ?_ | refine Qj ?_ | refine Qk ?_ | refine Ql ?_ | refine Qm ?_ | refine Qn ?_ | refine Qo ?_ | refine Qp rfl ?_) | (first | refine Qq ?_ | refine Qr ?_) | (first | refine Qs ?_ | refine Qt ?_ | refine Qu ?_) | (first | refine Qv ?_ | refine Qw ?_) | (first | refine Qx ?_ | refine Qy ?_) | (first | refine Qz ?_ | refine Ra ?_ | refine Rb ?_))
  refine POps_alloc_a ?_
  intro i2 hi2
  simp only [prS, List.cons_append, List.nil_append, List.append_nil, List.drop_succ_cons, List.drop_zero, List.drop_nil, St.freshB_box, St.freshB_nil, St.freshB_tok, St.freshB_obj] at hi2
  repeat (first | (with_reducible first | refine Qa ?_ | refine Qb ?_ | refine Qc ?_ | refine Qd ?_ | refine Qe ?_ | refine Qf ?_ | refine Qg ?_ | refine Qh ?_ | refine Qi ?_ | refine Qj ?_ | refine Qk ?_ | refine Ql ?_ | refine Qm ?_ | refine Qn ?_ | refine Qo ?_ | refine Qp rfl ?_) | (first | refine Qq ?_ | refine Qr ?_) | (first | refine Qs ?_ | refine Qt ?_ | refine Qu ?_) | (first | refine Qv ?_ | refine Qw ?_) | (first | refine Qx ?_ | refine Qy ?_) | (first | refine Qz ?_ | refine Ra ?_ | refine Rb ?_))
  refine Rc ?_
  repeat (first | (with_reducible first | refine Qa ?_ | refine Qb ?_ | refine Qc ?_ | refine Qd ?_ | refine Qe ?_ | refine Qf ?_ | refine Qg ?_ | refine Qh ?_ | refine Qi ?_ | refine Qj ?_ | refine Qk ?_ | refine Ql ?_ | refine Qm ?_ | refine Qn ?_ | refine Qo ?_ | refine Qp rfl ?_) | (first | refine Qq ?_ | refine Qr ?_) | (first | refine Qs ?_ | refine Qt ?_ | refine Qu ?_) | (first | refine Qv ?_ | refine Qw ?_) | (first | refine Qx ?_ | refine Qy ?_) | (first | refine Qz ?_ | refine Ra ?_ | refine Rb ?_))
  refine Rd 2 1 (HD.out i0) ?_
  rintro _ _ ⟨rfl, rfl⟩
  by_cases hz : σ2.bad = 0
  · rw [if_pos hz]
    unfold prS
    repeat (first | (with_reducible first | refine Qa ?_ | refine Qb ?_ | refine Qc ?_ | refine Qd ?_ | refine Qe ?_ | refine Qf ?_ | refine Qg ?_ | refine Qh ?_ | refine Qi ?_ | refine Qj ?_ | refine Qk ?_ | refine Ql ?_ | refine Qm ?_ | refine Qn ?_ | refine Qo ?_ | refine Qp rfl ?_) | (first | refine Qq ?_ | refine Qr ?_) | (first | refine Qs ?_ | refine Qt ?_ | refine Qu ?_) | (first | refine Qv ?_ | refine Qw ?_) | (first | refine Qx ?_ | refine Qy ?_) | (first | refine Qz ?_ | refine Ra ?_ | refine Rb ?_))
    refine Rc ?_
    repeat (first | (with_reducible first | refine Qa ?_ | refine Qb ?_ | refine Qc ?_ | refine Qd ?_ | refine Qe ?_ | refine Qf ?_ | refine Qg ?_ | refine Qh ?_ | refine Qi ?_ | refine Qj ?_ | refine Qk ?_ | refine Ql ?_ | refine Qm ?_ | refine Qn ?_ | refine Qo ?_ | refine Qp rfl ?_) | (first | refine Qq ?_ | refine Qr ?_) | (first | refine Qs ?_ | refine Qt ?_ | refine Qu ?_) | (first | refine Qv ?_ | refine Qw ?_) | (first | refine Qx ?_ | refine Qy ?_) | (first | refine Qz ?_ | refine Ra ?_ | refine Rb ?_))
    refine retP_ok (by simp) (by simp only [Try.results13]; rfl) (by simp [resP, St.box?, PF.get, loadB, TyK.agg, *]; rfl) (List.nil_sublist _) ?_
    exact ⟨by simp only [aggD, encD_nd, List.map_cons, List.map_nil]; rfl, rfl⟩
  · rw [if_neg hz]
    unfold prS
    repeat (first | (with_reducible first | refine Qa ?_ | refine Qb ?_ | refine Qc ?_ | refine Qd ?_ | refine Qe ?_ | refine Qf ?_ | refine Qg ?_ | refine Qh ?_ | refine Qi ?_ | refine Qj ?_ | refine Qk ?_ | refine Ql ?_ | refine Qm ?_ | refine Qn ?_ | refine Qo ?_ | refine Qp rfl ?_) | (first | refine Qq ?_ | refine Qr ?_) | (first | refine Qs ?_ | refine Qt ?_ | refine Qu ?_) | (first | refine Qv ?_ | refine Qw ?_) | (first | refine Qx ?_ | refine Qy ?_) | (first | refine Qz ?_ | refine Ra ?_ | refine Rb ?_))
    refine PW_drawnL (J := keepJ [(i0, _)]) [(0, .a), (1, .a), (2, .a), (3, .a), (4, .a), (5, .a), (6, .a), (7, .a), (8, .a), (9, .e), (10, .a), (11, .a)] (by kernel_rfl) (by rfl) (by kernel_rfl) (by (repeat (first | exact keepJ_nil _ | refine keepJ_cons (by simp [St.box?, *] <;> rfl) ?_))) ?_
    repeat (first | with_reducible refine PL_nil ?_ | refine PL_gn2 ?_ | refine PL_s2 ?_ | refine PL_b2 ?_)
    refine PL_store rfl rfl (by simp [nev, nevA, nevB, evBuild, PF.eval, PF.get, PF.wants, cPV, cCell, PV.rows, evBin, evUn, evConv, evLen, loadA, loadB, TyK.agg, partA, St.box?, St.tok?, St.setBox, St.setTok, fillO, spl, PV.ps, PV.one, evalArgs, aggD, slD, encD_nd, encD_bd, encD_rw, encD_dc, encD_str, encD_int, *]; rfl) (by rfl) (by simp [nev, nevA, nevB, evBuild, PF.eval, PF.get, PF.wants, cPV, cCell, PV.rows, evBin, evUn, evConv, evLen, loadA, loadB, TyK.agg, partA, St.box?, St.tok?, St.setBox, St.setTok, fillO, spl, PV.ps, PV.one, evalArgs, aggD, slD, encD_nd, encD_bd, encD_rw, encD_dc, encD_str, encD_int, *]; rfl) (by simp [PV.ps, aggD, slD, encD_nd, encD_bd, encD_rw, encD_dc, encD_str, encD_int]; rfl) (by first | rfl | (simp [*]; done) | (simp [PV.one, *]; done) | fail) (by simp; rfl) (by first | (simp; done) | fail) (by simp [nev, nevA, nevB, evBuild, PF.eval, PF.get, PF.wants, cPV, cCell, PV.rows, evBin, evUn, evConv, evLen, loadA, loadB, TyK.agg, partA, St.box?, St.tok?, St.setBox, St.setTok, fillO, spl, PV.ps, PV.one, evalArgs, aggD, slD, encD_nd, encD_bd, encD_rw, encD_dc, encD_str, encD_int, *]; rfl) (by rfl) (by first | (simp; done) | fail) (by simp [St.setBox, spl, *]; rfl) (by first | exact .inl (by decide +kernel) | exact .inr (by (repeat (first | exact keepJ_nil _ | refine keepJ_cons (by simp [St.box?, *] <;> rfl) ?_)))) ?_
    repeat (first | with_reducible refine PL_nil ?_ | refine PL_gn2 ?_ | refine PL_s2 ?_ | refine PL_b2 ?_)
    repeat (first | (with_reducible first | refine Qa ?_ | refine Qb ?_ | refine Qc ?_ | refine Qd ?_ | refine Qe ?_ | refine Qf ?_ | refine Qg ?_ | refine Qh ?_ | refine Qi ?_ | refine Qj ?_ | refine Qk ?_ | refine Ql ?_ | refine Qm ?_ | refine Qn ?_ | refine Qo ?_ | refine Qp rfl ?_) | (first | refine Qq ?_ | refine Qr ?_) | (first | refine Qs ?_ | refine Qt ?_ | refine Qu ?_) | (first | refine Qv ?_ | refine Qw ?_) | (first | refine Qx ?_ | refine Qy ?_) | (first | refine Qz ?_ | refine Ra ?_ | refine Rb ?_))
    refine retP_ok (by simp) (by simp only [Try.results13]; rfl) (by simp [resP, St.box?, PF.get, loadB, TyK.agg, *]; rfl) (List.nil_sublist _) ?_
    exact ⟨by unfold zNd; rw [agg_mk]; rfl, rfl⟩
end Go.Proofs.Ytahhgpafjiljfaa

namespace Go.Proofs.Ytahhgpafjiljfaa
open Go.RowKit
set_option maxRecDepth 100000
/-- may a pattern begin there? -/
def patternS (l : List Tk) (σ : ST) : Bool := (tkg l σ.i).kind == 1 || isS l σ 0 sDot || isS l σ 0 sPar
def atomF (l : List Tk) : Nat := 6 * l.length + 3
mutual
def parenS (l : List Tk) : Nat → ST → Nd × ST
  | 0, σ => (zNd, σ)
  | n + 1, σ =>
    let at_ := (tkg l σ.i).at_
    let τ := incS σ
    if isS l τ 0 sRap then (.mk 9 at_ ⟨#[]⟩ 0 [], incS τ)
    else if !namedS l τ 0 then ((patS l n τ).1, wantS l sRap (patS l n τ).2)
    else
      let x := parL l n at_ (.mk 6 (tkg l τ.i).at_ (nameS l τ).1 0 []) (nameS l τ).2
      (x.1, wantS l sRap x.2)
def parL (l : List Tk) : Nat → Int → Nd → ST → Nd × ST
  | 0, _, g, σ => (g, σ)
  | n + 1, at_, g, σ =>
    if σ.bad = 0 ∧ patternS l σ then
      let x := patS l n σ
      parL l n at_ (.mk 8 at_ g.name g.num (g.sub ++ [x.1])) x.2
    else (g, σ)
def patS (l : List Tk) : Nat → ST → Nd × ST
  | 0, σ => (zNd, σ)
  | n + 1, σ =>
    let at_ := (tkg l σ.i).at_
    if σ.bad ≠ 0 then (zNd, σ)
    else if isS l σ 0 sPar then parenS l n σ
    else if isS l σ 0 sDot then (.mk 10 at_ ⟨#[]⟩ 0 [(atomS l (atomF l) (incS σ)).1], (atomS l (atomF l) (incS σ)).2)
    else if (tkg l σ.i).kind == 1 && (tkg l σ.i).text.toList == [95] then (.mk 7 at_ ⟨#[]⟩ 0 [], incS σ)
    else (.mk 6 at_ (nameS l σ).1 0 [], (nameS l σ).2)
end
def patF (l : List Tk) : Nat := 6 * l.length + 6
def patsS (l : List Tk) : Nat → List Nd → ST → List Nd × ST
  | 0, acc, σ => (acc, σ)
  | n + 1, acc, σ =>
    if σ.bad = 0 ∧ patternS l σ then
      if 24 ≤ acc.length then (acc, failS 2 (tkg l σ.i).at_ σ)
      else
        let x := patS l (patF l) σ
        patsS l n (acc ++ [x.1]) (checkedS x.1 (tkg l σ.i).at_ x.2)
    else (acc, σ)
def exprF (l : List Tk) : Nat := 6 * l.length + 6
def conS (l : List Tk) (σ : ST) : Bd × ST :=
  let x := nameS l σ
  let e := exprS l (exprF l) (wantS l sCol x.2)
  (⟨x.1, (tkg l σ.i).at_, e.1⟩, e.2)
def bindS (l : List Tk) (σ : ST) : Bd × ST :=
  let x := conS l (wantS l sPar σ)
  (x.1, wantS l sRap x.2)
def lineS (l : List Tk) (σ : ST) : Bd × ST :=
  let x := conS l σ
  (x.1, wantS l sSem x.2)
/-- bindings, at most so many, as long as something says that there are more -/
def listS (l : List Tk) (most : Nat) (more : ST → Bool) (one : ST → Bd × ST) : Nat → List Bd → ST → List Bd × ST
  | 0, acc, σ => (acc, σ)
  | n + 1, acc, σ =>
    if σ.bad = 0 ∧ more σ then
      if most ≤ acc.length then (acc, failS 2 (tkg l σ.i).at_ σ)
      else
        let x := one σ
        listS l most more one n (acc ++ [x.1]) x.2
    else (acc, σ)
def openS (l : List Tk) (σ : ST) : Bool := !isS l σ 0 sKet
def paren0S (l : List Tk) (σ : ST) : Bool := isS l σ 0 sPar
def rowS (l : List Tk) (σ : ST) : Rw × ST :=
  let p := patsS l (l.length + 1) [] σ
  if p.2.bad = 0 ∧ isS l p.2 0 sEq then
    let e := exprS l (exprF l) (incS p.2)
    (⟨(tkg l σ.i).at_, p.1, true, e.1⟩, wantS l sSem e.2)
  else (⟨(tkg l σ.i).at_, p.1, false, zNd⟩, wantS l sSem p.2)
def rowsS (l : List Tk) : Nat → List Rw → ST → List Rw × ST
  | 0, acc, σ => (acc, σ)
  | n + 1, acc, σ =>
    if σ.bad = 0 ∧ openS l σ then
      if 32 ≤ acc.length then (acc, failS 2 (tkg l σ.i).at_ σ)
      else
        let x := rowS l σ
        rowsS l n (acc ++ [x.1]) x.2
    else (acc, σ)
def kindS (l : List Tk) (σ : ST) : Int := if isS l σ 0 sData then 1 else if isS l σ 0 sRec then 2 else if isS l σ 0 sDef then 3 else 0
def declS (l : List Tk) (σ : ST) : Dc × ST :=
  let k := kindS l σ
  let at_ := (tkg l σ.i).at_
  if k = 0 then (⟨0, at_, ⟨#[]⟩, [], zNd, [], []⟩, failS 1 at_ σ)
  else
    let nm := nameS l (incS σ)
    let tl := if k = 3 then ([], nm.2) else listS l 24 (paren0S l) (bindS l) (l.length + 1) [] nm.2
    let ty := exprS l (exprF l) (wantS l sCol tl.2)
    let σ1 := wantS l sBra ty.2
    if k = 3 then
      let r := rowsS l (l.length + 1) [] σ1
      (⟨k, at_, nm.1, tl.1, ty.1, [], r.1⟩, wantS l sKet r.2)
    else
      let c := listS l 16 (openS l) (lineS l) (l.length + 1) [] σ1
      (⟨k, at_, nm.1, tl.1, ty.1, c.1, []⟩, wantS l sKet c.2)
def fileS (l : List Tk) : Nat → List Dc → ST → List Dc × ST
  | 0, acc, σ => (acc, σ)
  | n + 1, acc, σ =>
    if σ.bad = 0 ∧ (tkg l σ.i).kind ≠ 5 then
      let x := declS l σ
      fileS l n (acc ++ [x.1]) x.2
    else (acc, σ)
def fileA (s : ByteArray) : List Dc × Int × Int :=
  let r := fileS (startL s) ((startL s).length + 1) [] (startS s)
  if r.2.bad = 0 then (r.1, (s.size : Int), 0) else ([], r.2.at_, r.2.bad)
def patsA (s : ByteArray) : List Nd × Int × Int :=
  let p := patsS (startL s) ((startL s).length + 1) [] (startS s)
  let τ := endS (startL s) p.2
  if τ.bad = 0 then (p.1, (s.size : Int), 0) else ([], τ.at_, τ.bad)
section
variable {l : List Tk} (hl : TkOk l)
include hl
theorem pat_adv : ∀ (n : Nat),
    (∀ σ, Wf l σ → isS l σ 0 sPar = true → Adv l σ (parenS l n σ).2 ∧ (0 < n → AdvS l σ (parenS l n σ).2)) ∧ (∀ a g σ, Wf l σ → Adv l σ (parL l n a g σ).2) ∧ (∀ σ, Wf l σ → Adv l σ (patS l n σ).2 ∧ (1 < n → AdvS l σ (patS l n σ).2)) := by
  intro n
  induction n with
  | zero => exact ⟨fun _ h _ => ⟨Adv.refl h, fun h => absurd h (Nat.lt_irrefl 0)⟩, fun _ _ _ h => Adv.refl h, fun _ h => ⟨Adv.refl h, fun h => absurd h (by decide)⟩⟩
  | succ n ih =>
    obtain ⟨i1, i2, i3⟩ := ih
    refine ⟨fun σ h hp => ?_, fun a g σ h => ?_, fun σ h => ?_⟩
    · have h1 := inc_adv hl (mark_k hp)
      have : AdvS l σ (parenS l (n + 1) σ).2 := by
        simp only [parenS]
        split
        · rename_i hr
          exact h1.trans (inc_adv hl (mark_k hr)).adv
        · split
          · have h2 := h1.trans (i3 _ h1.1).1
            exact h2.trans (want_adv hl sRap h2.1).adv
          · have h2 := h1.trans (name_adv hl h1.1).adv
            have h3 := h2.trans (i2 (tkg l σ.i).at_ (.mk 6 (tkg l (incS σ).i).at_ (nameS l (incS σ)).1 0 []) _ h2.1)
            exact h3.trans (want_adv hl sRap h3.1).adv
      exact ⟨this.adv, fun _ => this⟩
    · simp only [parL]
      split
      · have h1 := (i3 σ h).1
        exact h1.trans (i2 _ _ _ h1.1)
      · exact Adv.refl h
    · simp only [patS]
      split
      · rename_i hb
        have : AdvS l σ σ := ⟨h, fun hb' => absurd hb' hb⟩
        exact ⟨this.adv, fun _ => this⟩
      · split
        · rename_i hp
          have h1 := i1 σ h hp
          exact ⟨h1.1, fun hn => h1.2 (by omega)⟩
        · split
          · rename_i hd
            have h1 := inc_adv hl (mark_k hd)
            have h2 := h1.trans ((parse_adv hl (atomF l)).2.2.1 _ h1.1).1
            exact ⟨h2.adv, fun _ => h2⟩
          · split
            · rename_i hk
              simp only [Bool.and_eq_true, beq_iff_eq] at hk
              have h1 := inc_adv hl (σ := σ) (by rw [hk.1]; decide)
              exact ⟨h1.adv, fun _ => h1⟩
            · have h1 := name_adv hl h
              exact ⟨h1.adv, fun _ => h1⟩
end
end Go.Proofs.Ytahhgpafjiljfaa
