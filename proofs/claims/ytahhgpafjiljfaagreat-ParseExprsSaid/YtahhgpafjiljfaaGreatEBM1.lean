import Derived.Test.YtahhgpafjiljfaaGreatEBM
import Derived.Test.YtahhgpafjiljfaaGreatEBZ
import Derived.Test.YtahhgpafjiljfaaGreatEBV
import Derived.Test.YtahhgpafjiljfaaGreatET8
import Derived.Test.YtahhgpafjiljfaaGreatEBZ1
set_option linter.unusedSimpArgs false
set_option linter.unusedVariables false
set_option maxHeartbeats 16000000
set_option maxRecDepth 100000
namespace Go.Proofs.YtahhgpafjiljfaaGreat
open Go.RowKit
def GotR (g : Gt) (x : Nd × ST) : Prop := (g.e = 0 ∧ g.at_ = 0 ∧ x = (g.nd, ⟨g.i, 0, 0⟩)) ∨ (g.e ≠ 0 ∧ x.2.bad = g.e ∧ x.2.at_ = g.at_)
theorem Qeh : (1 : Int) ≠ 0 := by decide
theorem emp_b : (⟨#[]⟩ : ByteArray) = ByteArray.empty := rfl
theorem Qhl {l : List Tk} {s : ByteArray} {σ : ST} (h : σ.bad ≠ 0) : Qag l s σ = σ := by
 unfold Qag Qav
 rw [if_neg h]
 simp only [ite_self]
 rw [if_neg h]
theorem Qje {l : List Tk} {s : ByteArray} {i : Nat} (h : Qbc (tkg l i) s = true) : Qag l s ⟨i, 0, 0⟩ = ⟨i + 1, 0, 0⟩ := by
 unfold Qag isS
 simp only [Nat.add_zero, h, if_true]
 rfl
theorem Qjd {l : List Tk} {s : ByteArray} {i : Nat} (h : Qbc (tkg l i) s = false) : Qag l s ⟨i, 0, 0⟩ = ⟨i, (tkg l i).at_, 1⟩ := by
 unfold Qag isS Qav
 simp only [Nat.add_zero, h, Bool.false_eq_true, if_false, if_true]
 rw [if_neg (by decide)]
theorem name_bad {l : List Tk} {σ : ST} (h : σ.bad ≠ 0) : Qam l σ = (⟨#[]⟩, σ) := by
 unfold Qam Qav
 rw [if_neg h]
 simp only [ite_self]
 rw [if_neg h]
theorem var_bad {l : List Tk} {σ : ST} (h : σ.bad ≠ 0) : Qaq l σ = (⟨#[]⟩, σ) := by
 unfold Qaq
 rw [if_neg (by simp [h]), name_bad h]
theorem name_ok {l : List Tk} {i : Nat} (h : Qdp (tkg l i) = true) : Qam l ⟨i, 0, 0⟩ = ((tkg l i).text, ⟨i + 1, 0, 0⟩) := by
 unfold Qam Qdc
 simp only [Nat.add_zero, h, if_true]
 rfl
theorem name_no {l : List Tk} {i : Nat} (h : Qdp (tkg l i) = false) : Qam l ⟨i, 0, 0⟩ = (⟨#[]⟩, ⟨i, (tkg l i).at_, 1⟩) := by
 unfold Qam Qdc Qav
 simp only [Nat.add_zero, h, Bool.false_eq_true, if_false, if_true]
 rw [if_neg (by decide)]
theorem var_ok {l : List Tk} {i : Nat} (h : ((tkg l i).kind == 1) = true) : Qaq l ⟨i, 0, 0⟩ = ((tkg l i).text, ⟨i + 1, 0, 0⟩) := by
 unfold Qaq
 simp only [h]
 rfl
theorem var_no {l : List Tk} {i : Nat} (h : ((tkg l i).kind == 1) = false) : Qaq l ⟨i, 0, 0⟩ = (⟨#[]⟩, ⟨i, (tkg l i).at_, 1⟩) := by
 unfold Qaq
 simp only [h, Bool.false_and, Bool.false_eq_true, if_false]
 exact name_no (by unfold Qdp; rw [h]; rfl)
theorem Qgh {l : List Tk} {n : Nat} {σ : ST} (h : σ.bad ≠ 0) : Qal l n σ = (zNd, σ) := by
 cases n with
 | zero => rfl
 | succ n => rw [Qal, if_pos h]
def Qgr (l : List Tk) (n i : Nat) : Prop := PCalls Tryz.prog 54 [.d (.sl (l.map encD)), .d (.v (.int .i64 i))] [] fun p s => (∃ g, p = gtP g ∧ GotR g (Qal l n ⟨i, 0, 0⟩)) ∧ s = []
def Qig (l : List Tk) (n : Nat) (k a : Int) (i : Nat) : Prop := PCalls Tryz.prog 98 [.d (.sl (l.map encD)), .d (.v (.int .i64 i)), .d (.v (.int .i64 k)), .d (.v (.int .i64 a))] [] fun p s => (∃ g, p = gtP g ∧ GotR g (Qcg l n k a ⟨i, 0, 0⟩)) ∧ s = []
def AtomG (l : List Tk) (n i : Nat) : Prop := PCalls Tryz.prog 137 [.d (.sl (l.map encD)), .d (.v (.int .i64 i))] [] fun p s => (∃ g, p = gtP g ∧ GotR g (Qbe l n ⟨i, 0, 0⟩)) ∧ s = []
def AppG (l : List Tk) (n i : Nat) : Prop := PCalls Tryz.prog 100 [.d (.sl (l.map encD)), .d (.v (.int .i64 i))] [] fun p s => (∃ g, p = gtP g ∧ GotR g (appS l n ⟨i, 0, 0⟩)) ∧ s = []
theorem Qgk {l : List Tk} (hl : TkOk l) {i : Nat} {s : ByteArray} (h : Qbc (tkg l i) s = true) : i + 1 < l.length := tk_lt hl (Qbz h)
theorem typed_g {l : List Tk} (hl : TkOk l) (n i : Nat) (k a : Int) (hi : i < l.length) (IH : ∀ j, i < j → j < l.length → Qgr l n j) : Qig l (n + 1) k a i := by
  unfold Qig
  have hlen := hl.len
  have HL := Hh hl
  have HIH := Hh IH
  have HR := Hh (show Qcg l (n + 1) k a ⟨i, 0, 0⟩ = (.mk k a (Qaq l (Qag l sPar ⟨i, 0, 0⟩)).1 0 [(Qal l n (Qag l sCol (Qaq l (Qag l sPar ⟨i, 0, 0⟩)).2)).1, (Qal l n (Qag l sArr (Qag l sRap (Qal l n (Qag l sCol (Qaq l (Qag l sPar ⟨i, 0, 0⟩)).2)).2))).1], (Qal l n (Qag l sArr (Qag l sRap (Qal l n (Qag l sCol (Qaq l (Qag l sPar ⟨i, 0, 0⟩)).2)).2))).2) from by simp only [Qcg])
  generalize Qcg l (n + 1) k a ⟨i, 0, 0⟩ = R at *
  have HW1 := Hh (Qfs hl sPar ⟨zNd, i, 0, 0⟩ (fun _ => hi))
  unfold Qeu at HW1
  rw [if_neg (by simp)] at HW1
  simp only at HW1
  clear hl IH
  cases c1 : Qbc (tkg l i) sPar with
  | false =>
    have hF : GotR ⟨zNd, i, 1, (tkg l i).at_⟩ R := by
      have hb : (⟨i, (tkg l i).at_, 1⟩ : ST).bad ≠ 0 := Qeh
      rw [HR.out, Qjd c1]
      simp only [var_bad hb, Qhl hb, Qgh hb]
      exact .inr ⟨Qeh, rfl, rfl⟩
    have HF := Hh hF
    rw [c1, if_neg (by decide)] at HW1
    simp only [zNd, Qgu, List.map_nil] at HW1
    unfold sPar at HW1
    rw [emp_b] at HW1
    clear hF HR c1 hi
    refine pG Tryz.func98 Tryz.ntmps98 ?_
    refine Jd ?_
    intro b8 hb8
    try simp only [Rh, Rg, Rf, Ja] at hb8
    refine go_ ?_
    refine Qab (HW1.out) ?_
    refine Jd ?_
    intro b9 hb9
    try simp only [Rh, Rg, Rf, Ja] at hb9
    refine go_ ?_
    refine Qaa ?_
    refine Qaa ?_
    refine rT Tryz.results98 ?_
    exact ⟨⟨_, rfl, HF.out⟩, rfl⟩
  | true =>
  have hi1 := Qgk HL.out c1
  rw [Qje c1] at HR
  obtain ⟨i1, e1⟩ : ∃ i1, i1 = i + 1 := ⟨_, rfl⟩
  rw [← e1] at HR HW1 hi1
  have E1 := Hh e1
  clear e1
  rw [c1, if_pos rfl] at HW1
  simp only [zNd, Qgu, List.map_nil] at HW1
  unfold sPar at HW1
  rw [emp_b] at HW1
  have HWD := Hh (gword_p HL.out i1)
  cases c2 : ((tkg l i1).kind == 1) with
  | false =>
    have hF : GotR ⟨zNd, i1, 1, (tkg l i1).at_⟩ R := by
      have hb : (⟨i1, (tkg l i1).at_, 1⟩ : ST).bad ≠ 0 := Qeh
      rw [HR.out, var_no c2]
      simp only [Qhl hb, Qgh hb]
      exact .inr ⟨Qeh, rfl, rfl⟩
    have HF := Hh hF
    have HFL := Hh (Qik l i1 1 hi1)
    rw [c2] at HWD
    simp only [zNd, Qgu, List.map_nil] at HFL
    clear hF HR c1 c2 hi hi1
    refine pG Tryz.func98 Tryz.ntmps98 ?_
    refine Jd ?_
    intro b8 hb8
    try simp only [Rh, Rg, Rf, Ja] at hb8
    refine go_ ?_
    refine Qab (HW1.out) ?_
    refine Jd ?_
    intro b9 hb9
    try simp only [Rh, Rg, Rf, Ja] at hb9
    refine go_ ?_
    refine Qaa ?_
    refine Qac (HWD.out) ?_
    refine Qab (HFL.out) ?_
    refine Qaa ?_
    refine rT Tryz.results98 ?_
    exact ⟨⟨_, rfl, HF.out⟩, rfl⟩
  | true =>
  have hi2 : i1 + 1 < l.length := tk_lt HL.out (by rw [beq_iff_eq.1 c2]; decide)
  rw [var_ok c2] at HR
  obtain ⟨i2, e2⟩ : ∃ i2, i2 = i1 + 1 := ⟨_, rfl⟩
  rw [← e2] at HR hi2
  have E2 := Hh e2
  clear e2
  simp only at HR
  rw [c2] at HWD
  have hx := Qhb hi1
  have hc : (i1 : Int) < l.length := by omega
  have hn : (0 : Int) ≤ (i1 : Int) := by omega
  have hw1 : IntKind.i64.wrap ((i1 : Int) + 1) = (i2 : Int) := by rw [E2.out]; exact Qcr (by omega)
  have HW2 := Hh (Qfs HL.out sCol ⟨zNd, i2, 0, 0⟩ (fun _ => hi2))
  unfold Qeu at HW2
  rw [if_neg (by simp)] at HW2
  simp only at HW2
  cases c3 : Qbc (tkg l (i2)) sCol with
  | false =>
    have hF : GotR ⟨zNd, i2, 1, (tkg l (i2)).at_⟩ R := by
      have hb : (⟨i2, (tkg l i2).at_, 1⟩ : ST).bad ≠ 0 := Qeh
      rw [HR.out, Qjd c3]
      simp only [Qhl hb, Qgh hb]
      exact .inr ⟨Qeh, rfl, rfl⟩
    have HF := Hh hF
    rw [c3, if_neg (by decide)] at HW2
    simp only [zNd, Qgu, List.map_nil] at HW2
    unfold sCol at HW2
    rw [emp_b] at HW2
    clear hF HR c1 c2 c3 hi hi1 hi2
    refine pG Tryz.func98 Tryz.ntmps98 ?_
    refine Jd ?_
    intro b8 hb8
    try simp only [Rh, Rg, Rf, Ja] at hb8
    refine go_ ?_
    refine Qab (HW1.out) ?_
    refine Jd ?_
    intro b9 hb9
    try simp only [Rh, Rg, Rf, Ja] at hb9
    refine go_ ?_
    refine Qaa ?_
    refine Qac (HWD.out) ?_
    refine Jd ?_
    intro b10 hb10
    try simp only [Rh, Rg, Rf, Ja] at hb10
    refine go_ ?_
    refine Qaa ?_
    refine Qaa ?_
    refine Qab (HW2.out) ?_
    refine Qaa ?_
    refine Qaa ?_
    refine rT Tryz.results98 ?_
    exact ⟨⟨_, rfl, HF.out⟩, rfl⟩
  | true =>
  have hi3 := Qgk HL.out c3
  rw [Qje c3] at HR
  rw [c3, if_pos rfl] at HW2
  obtain ⟨i3, e3⟩ : ∃ i3, i3 = i2 + 1 := ⟨_, rfl⟩
  rw [← e3] at HR HW2 hi3
  have E3 := Hh e3
  clear e3
  simp only [zNd, Qgu, List.map_nil] at HW2
  unfold sCol at HW2
  rw [emp_b] at HW2
  have HT1 := Hh (HIH.out i3 (by have := E1.out; have := E2.out; have := E3.out; omega) hi3)
  have HADV := Hh (And.intro (fun j (hj : j < l.length) => (Qda HL.out n).2.1 ⟨j, 0, 0⟩ hj) trivial : (∀ j, j < l.length → _) ∧ True)
  unfold Qgr at HT1
  clear c1 c2 c3
  have HI3 := Hh hi3
  clear hi hi1 hi2 hi3
  refine pG Tryz.func98 Tryz.ntmps98 ?_
  refine Jd ?_
  intro b8 hb8
  try simp only [Rh, Rg, Rf, Ja] at hb8
  refine go_ ?_
  refine Qab (HW1.out) ?_
  refine Jd ?_
  intro b9 hb9
  try simp only [Rh, Rg, Rf, Ja] at hb9
  refine go_ ?_
  refine Qaa ?_
  refine Qac (HWD.out) ?_
  refine Jd ?_
  intro b10 hb10
  try simp only [Rh, Rg, Rf, Ja] at hb10
  refine go_ ?_
  refine Qaa ?_
  refine Qaa ?_
  refine Qab (HW2.out) ?_
  refine Qaa ?_
  refine Qbm (HT1.out) ?_
  rintro _ ⟨ga, rfl, hRa⟩
  rcases hRa with ⟨ea, aa, hxa⟩ | ⟨ea, ea2, aa⟩
  · obtain ⟨na, ja, ea', aa'⟩ := ga
    simp only at ea aa hxa
    subst ea aa
    have hja : ja < l.length := by
      have := (HADV.out.1 _ HI3.out).1
      rw [hxa] at this
      exact this
    rw [hxa] at HR
    simp only at HR
    have HW3 := Hh (Qfs HL.out sRap ⟨na, ja, 0, 0⟩ (fun _ => hja))
    unfold Qeu at HW3
    rw [if_neg (by simp)] at HW3
    simp only at HW3
    have HXA := Hh hxa
    clear hxa HT1
    cases c4 : Qbc (tkg l ja) sRap with
    | false =>
      have hF : GotR ⟨zNd, ja, 1, (tkg l ja).at_⟩ R := by
        have hb : (⟨ja, (tkg l ja).at_, 1⟩ : ST).bad ≠ 0 := Qeh
        rw [HR.out, Qjd c4]
        simp only [Qhl hb, Qgh hb]
        exact .inr ⟨Qeh, rfl, rfl⟩
      have HF := Hh hF
      rw [c4, if_neg (by decide)] at HW3
      have HW4 := Hh (Qfs HL.out sArr ⟨zNd, ja, 1, (tkg l ja).at_⟩ (fun h => by cases h))
      unfold Qeu at HW4
      rw [if_pos (by simp)] at HW4
      simp only [gtP, zNd, Nd.kind, Nd.at, Nd.name, Nd.num, Nd.sub, List.map_nil] at HW3 HW4 ⊢
      unfold sRap at HW3
      unfold sArr at HW4
      clear hF HR c4 hja
      refine go_ ?_
      refine Jd ?_
      intro b11 hb11
      try simp only [Rh, Rg, Rf, Ja] at hb11
      refine go_ ?_
      refine Qaa ?_
      refine Qab (HW3.out) ?_
      refine Qab (HW4.out) ?_
      refine Jd ?_
      intro b12 hb12
      try simp only [Rh, Rg, Rf, Ja] at hb12
      refine go_ ?_
      refine Qaa ?_
      refine Qaa ?_
      refine rT Tryz.results98 ?_
      exact ⟨⟨_, rfl, HF.out⟩, rfl⟩
    | true =>
    have hj1 := Qgk HL.out c4
    rw [Qje c4] at HR
    rw [c4, if_pos rfl] at HW3
    obtain ⟨j1, f1⟩ : ∃ j1, j1 = ja + 1 := ⟨_, rfl⟩
    rw [← f1] at HR HW3 hj1
    have F1 := Hh f1
    clear f1
    have HW4 := Hh (Qfs HL.out sArr ⟨na, j1, 0, 0⟩ (fun _ => hj1))
    unfold Qeu at HW4
    rw [if_neg (by simp)] at HW4
    simp only at HW4
    cases c5 : Qbc (tkg l j1) sArr with
    | false =>
      have hF : GotR ⟨zNd, j1, 1, (tkg l j1).at_⟩ R := by
        have hb : (⟨j1, (tkg l j1).at_, 1⟩ : ST).bad ≠ 0 := Qeh
        rw [HR.out, Qjd c5]
        simp only [Qgh hb]
        exact .inr ⟨Qeh, rfl, rfl⟩
      have HF := Hh hF
      rw [c5, if_neg (by decide)] at HW4
      simp only [gtP, zNd, Nd.kind, Nd.at, Nd.name, Nd.num, Nd.sub, List.map_nil] at HW3 HW4 ⊢
      unfold sRap at HW3
      unfold sArr at HW4
      clear hF HR c4 c5 hja hj1
      refine go_ ?_
      refine Jd ?_
      intro b11 hb11
      try simp only [Rh, Rg, Rf, Ja] at hb11
      refine go_ ?_
      refine Qaa ?_
      refine Qab (HW3.out) ?_
      refine Qab (HW4.out) ?_
      refine Jd ?_
      intro b12 hb12
      try simp only [Rh, Rg, Rf, Ja] at hb12
      refine go_ ?_
      refine Qaa ?_
      refine Qaa ?_
      refine rT Tryz.results98 ?_
      exact ⟨⟨_, rfl, HF.out⟩, rfl⟩
    | true =>
    have hj2 := Qgk HL.out c5
    rw [Qje c5] at HR
    rw [c5, if_pos rfl] at HW4
    obtain ⟨j2, f2⟩ : ∃ j2, j2 = j1 + 1 := ⟨_, rfl⟩
    rw [← f2] at HR HW4 hj2
    have F2 := Hh f2
    clear f2
    have hij : i < j2 := by
      have h1 := (HADV.out.1 _ HI3.out)
      have h2 := h1.2
      rw [show Qal l n ⟨i3, 0, 0⟩ = (na, ⟨ja, 0, 0⟩) from HXA.out] at h2
      have h3 := (h2 rfl).2
      simp only at h3
      have := E1.out; have := E2.out; have := E3.out; have := F1.out; have := F2.out
      omega
    have HT2 := Hh (HIH.out (j2) hij hj2)
    unfold Qgr at HT2
    simp only [gtP] at HW3 HW4 ⊢
    unfold sRap at HW3
    unfold sArr at HW4
    clear c4 c5 hja hj1 hj2 hij
    refine go_ ?_
    refine Jd ?_
    intro b11 hb11
    try simp only [Rh, Rg, Rf, Ja] at hb11
    refine go_ ?_
    refine Qaa ?_
    refine Qab (HW3.out) ?_
    refine Qab (HW4.out) ?_
    refine Jd ?_
    intro b12 hb12
    try simp only [Rh, Rg, Rf, Ja] at hb12
    refine go_ ?_
    refine Qaa ?_
    refine Qbm (HT2.out) ?_
    rintro _ ⟨gc, rfl, hRc⟩
    obtain ⟨nc, jc, ec, ac⟩ := gc
    have hF : GotR ⟨.mk k a (tkg l i1).text 0 [na, nc], jc, ec, ac⟩ R := by
      rw [HR.out]
      rcases hRc with ⟨h1, h2, h3⟩ | ⟨h1, h2, h3⟩
      · simp only at h1 h2 h3
        exact .inl ⟨h1, h2, by rw [h3]⟩
      · exact .inr ⟨h1, h2, h3⟩
    have HF := Hh hF
    clear hF hRc HR
    simp only [gtP]
    refine go_ ?_
    refine Jd ?_
    intro b13 hb13
    try simp only [Rh, Rg, Rf, Ja] at hb13
    refine go_ ?_
    refine Qaa ?_
    refine Qel ?_
    refine Qaa ?_
    refine Qaa ?_
    refine Qaa ?_
    refine rT Tryz.results98 ?_
    exact ⟨⟨⟨.mk k a (tkg l i1).text 0 [na, nc], jc, ec, ac⟩, by simp only [Nd.kind, Nd.at, Nd.name, Nd.num, Nd.sub, List.map_cons, List.map_nil, Jg]; rfl, HF.out⟩, rfl⟩
  · have hF : GotR ga R := by
      have hb : (Qal l n ⟨i3, 0, 0⟩).2.bad ≠ 0 := by rw [ea2]; exact ea
      rw [HR.out]
      simp only [Qhl hb, Qgh hb]
      exact .inr ⟨ea, ea2, aa⟩
    have HF := Hh hF
    have HW3 := Hh (Qfs HL.out sRap ga (fun h => absurd h ea))
    have HW4 := Hh (Qfs HL.out sArr ga (fun h => absurd h ea))
    unfold Qeu at HW3 HW4
    rw [if_pos ea] at HW3 HW4
    have heb : (ga.e != 0) = true := bne_iff_ne.2 ea
    simp only [gtP] at HW3 HW4 ⊢
    unfold sRap at HW3
    unfold sArr at HW4
    clear hF HR ea ea2 aa HT1
    refine go_ ?_
    refine Jd ?_
    intro b11 hb11
    try simp only [Rh, Rg, Rf, Ja] at hb11
    refine go_ ?_
    refine Qaa ?_
    refine Qab (HW3.out) ?_
    refine Qab (HW4.out) ?_
    refine Jd ?_
    intro b12 hb12
    try simp only [Rh, Rg, Rf, Ja] at hb12
    refine go_ ?_
    refine Qaa ?_
    refine Qaa ?_
    refine rT Tryz.results98 ?_
    exact ⟨⟨_, rfl, HF.out⟩, rfl⟩
theorem got_ok (nd : Nd) (i : Nat) : GotR ⟨nd, i, 0, 0⟩ (nd, ⟨i, 0, 0⟩) := .inl ⟨rfl, rfl, rfl⟩
theorem got_no (nd x : Nd) (i j : Nat) (a : Int) : GotR ⟨nd, i, 1, a⟩ (x, ⟨j, a, 1⟩) := .inr ⟨Qeh, rfl, rfl⟩
theorem atom_g {l : List Tk} (hl : TkOk l) (n i : Nat) (hi : i < l.length) (IH : i + 1 < l.length → Qgr l n (i + 1)) : AtomG l (n + 1) i := by
  unfold AtomG
  have hlen := hl.len
  have HL := Hh hl
  have HIH := Hh IH
  have HR := Hh (show Qbe l (n + 1) ⟨i, 0, 0⟩ = (if Qbc (tkg l i) sSet = true then setS l ⟨i, 0, 0⟩ else if Qbc (tkg l i) sPar = true then ((Qal l n ⟨i + 1, 0, 0⟩).1, Qag l sRap (Qal l n ⟨i + 1, 0, 0⟩).2) else (.mk 1 (tkg l i).at_ (Qam l ⟨i, 0, 0⟩).1 0 [], (Qam l ⟨i, 0, 0⟩).2)) by rw [Qbe, if_neg (by simp)]; rfl)
  generalize Qbe l (n + 1) ⟨i, 0, 0⟩ = R at *
  have H1 := Hh (gis_p hl i sSet)
  have H2 := Hh (gis_p hl i sPar)
  have H3 := Hh (gnamed_p hl i)
  have HF0 := Hh (Qik l i 1 hi)
  simp only [zNd, Qgu, List.map_nil] at HF0
  have hx := Qhb hi
  have hc : (i : Int) < l.length := by omega
  have hn : (0 : Int) ≤ i := by omega
  obtain ⟨i1, e1⟩ : ∃ i1, i1 = i + 1 := ⟨_, rfl⟩
  have hw1 : IntKind.i64.wrap ((i : Int) + 1) = (i1 : Int) := by rw [e1]; exact Qcr (by omega)
  have hw2 : IntKind.i64.wrap ((i : Int) + 2) = ((i1 + 1 : Nat) : Int) := by
    rw [e1, show ((i + 1 + 1 : Nat) : Int) = (i : Int) + 2 by omega]; exact wrM (by omega) (by omega)
  have hti : (tkg l i).at_ = (tkg l i).at_ := rfl
  cases c1 : Qbc (tkg l i) sSet with
  | true =>
    have hi1 := Qgk hl c1
    rw [← e1] at hi1
    rw [c1, if_pos rfl] at HR
    rw [c1] at H1
    unfold sSet at H1
    have hx1 := Qhb hi1
    have hc1 : (i1 : Int) < l.length := by omega
    have hn1 : (0 : Int) ≤ i1 := by omega
    have HN := Hh (Qkh (tkg l i1).text)
    have HF1 := Hh (Qik l i1 1 hi1)
    simp only [zNd, Qgu, List.map_nil] at HF1
    have HS : Hid (setS l ⟨i, 0, 0⟩ = if ((tkg l i1).kind == 3) = true then (.mk 2 (tkg l i).at_ ⟨#[]⟩ (numT (tkg l i1).text) [], incS (if 7 < numT (tkg l i1).text then Qav 1 (tkg l i1).at_ ⟨i1, 0, 0⟩ else ⟨i1, 0, 0⟩)) else (.mk 2 (tkg l i).at_ ⟨#[]⟩ 0 [], ⟨i1, 0, 0⟩)) := by
      show _ = _
      rw [e1]; rfl
    rw [HS.out] at HR
    by_cases c2 : (tkg l i1).kind = 3
    · have c2b : ((tkg l i1).kind != 3) = false := by rw [c2]; rfl
      rw [if_pos (by rw [c2]; rfl)] at HR
      by_cases c3 : 7 < numT (tkg l i1).text
      · rw [if_pos c3] at HR
        have hF : GotR ⟨zNd, i1, 1, (tkg l i1).at_⟩ R := by rw [HR.out]; exact .inr ⟨Qeh, rfl, rfl⟩
        have HG := Hh hF
        generalize numT (tkg l i1).text = v at *
        generalize tkg l i = t0 at *
        generalize tkg l i1 = t1 at *
        clear HS HR hF e1 hi hi1 c1 c2 H2 H3 hl IH
        refine pG Tryz.func137 Tryz.ntmps137 ?_
        refine Jd ?_
        intro b4 hb4
        try simp only [Rh, Rg, Rf, Ja] at hb4
        refine go_ ?_
        refine Qab (H1.out) ?_
        refine Jd ?_
        intro b5 hb5
        try simp only [Rh, Rg, Rf, Ja] at hb5
        refine go_ ?_
        refine Qaa ?_
        refine Qab (HN.out) ?_
        refine Qab (HF1.out) ?_
        refine Qaa ?_
        refine rT Tryz.results137 ?_
        exact ⟨⟨_, rfl, HG.out⟩, rfl⟩
      · rw [if_neg c3] at HR
        have hF : GotR ⟨.mk 2 (tkg l i).at_ ⟨#[]⟩ (numT (tkg l i1).text) [], i1 + 1, 0, 0⟩ R := by rw [HR.out]; exact got_ok _ _
        have HG := Hh hF
        generalize numT (tkg l i1).text = v at *
        generalize tkg l i = t0 at *
        generalize tkg l i1 = t1 at *
        clear HS HR hF e1 hi hi1 c1 c2 H2 H3 hl IH
        refine pG Tryz.func137 Tryz.ntmps137 ?_
        refine Jd ?_
        intro b4 hb4
        try simp only [Rh, Rg, Rf, Ja] at hb4
        refine go_ ?_
        refine Qab (H1.out) ?_
        refine Jd ?_
        intro b5 hb5
        try simp only [Rh, Rg, Rf, Ja] at hb5
        refine go_ ?_
        refine Qaa ?_
        refine Qab (HN.out) ?_
        refine Qaa ?_
        refine Qaa ?_
        refine rT Tryz.results137 ?_
        exact ⟨⟨_, rfl, HG.out⟩, rfl⟩
    · have c2b : ((tkg l i1).kind != 3) = true := bne_iff_ne.2 c2
      rw [if_neg (by rw [beq_iff_eq]; exact c2)] at HR
      have hF : GotR ⟨.mk 2 (tkg l i).at_ ⟨#[]⟩ 0 [], i1, 0, 0⟩ R := by rw [HR.out]; exact got_ok _ _
      have HG := Hh hF
      generalize tkg l i = t0 at *
      generalize tkg l i1 = t1 at *
      clear HS HR hF e1 hi hi1 c1 c2 H2 H3 hl IH HN HF1
      refine pG Tryz.func137 Tryz.ntmps137 ?_
      refine Jd ?_
      intro b4 hb4
      try simp only [Rh, Rg, Rf, Ja] at hb4
      refine go_ ?_
      refine Qab (H1.out) ?_
      refine Jd ?_
      intro b5 hb5
      try simp only [Rh, Rg, Rf, Ja] at hb5
      refine go_ ?_
      refine Qaa ?_
      refine Qaa ?_
      refine rT Tryz.results137 ?_
      exact ⟨⟨_, rfl, HG.out⟩, rfl⟩
  | false =>
  rw [c1, if_neg (by decide)] at HR
  rw [c1] at H1
  unfold sSet at H1
  cases c2 : Qbc (tkg l i) sPar with
  | true =>
    have hi1 := Qgk hl c2
    have HT := Hh (IH hi1)
    have HADV := Hh ((Qda hl n).2.1 ⟨i + 1, 0, 0⟩ hi1)
    rw [c2, if_pos rfl] at HR
    rw [c2] at H2
    unfold sPar at H2
    unfold Qgr at HT
    rw [← e1] at HT HADV HR
    clear c1 c2 hi hi1 e1 H3 HF0 IH hl
    generalize hT : Qal l n ⟨i1, 0, 0⟩ = T at *
    clear hT
    refine pG Tryz.func137 Tryz.ntmps137 ?_
    refine Jd ?_
    intro b4 hb4
    try simp only [Rh, Rg, Rf, Ja] at hb4
    refine go_ ?_
    refine Qab (H1.out) ?_
    refine Qab (H2.out) ?_
    refine Qbm (HT.out) ?_
    rintro _ ⟨ga, rfl, hRa⟩
    rcases hRa with ⟨ea, aa, hxa⟩ | ⟨ea, ea2, aa⟩
    · obtain ⟨na, ja, ea', aa'⟩ := ga
      simp only at ea aa hxa
      subst ea aa hxa
      have hja : ja < l.length := HADV.out.1
      have HW := Hh (Qfs HL.out sRap ⟨na, ja, 0, 0⟩ (fun _ => hja))
      have hF : GotR (Qeu l sRap ⟨na, ja, 0, 0⟩) R := by
        rw [HR.out]
        unfold Qeu
        rw [if_neg (by simp)]
        simp only
        cases c4 : Qbc (tkg l ja) sRap with
        | true => rw [if_pos rfl, Qje c4]; exact got_ok _ _
        | false => rw [if_neg (by decide), Qjd c4]; exact got_no _ _ _ _ _
      have HG := Hh hF
      generalize Qeu l sRap ⟨na, ja, 0, 0⟩ = g2 at *
      obtain ⟨⟨k2, a2, s2, m2, u2⟩, j2, e2, t2⟩ := g2
      simp only [gtP, Nd.kind, Nd.at, Nd.name, Nd.num, Nd.sub] at HW ⊢
      unfold sRap at HW
      clear hF HR HADV hja HT
      refine go_ ?_
      refine Qab (HW.out) ?_
      refine Qaa ?_
      refine rT Tryz.results137 ?_
      exact ⟨⟨_, rfl, HG.out⟩, rfl⟩
    · have hb : T.2.bad ≠ 0 := by rw [ea2]; exact ea
      have hF : GotR ga R := by
        rw [HR.out, Qhl hb]
        exact .inr ⟨ea, ea2, aa⟩
      have HG := Hh hF
      have HW := Hh (Qfs HL.out sRap ga (fun h => absurd h ea))
      unfold Qeu at HW
      rw [if_pos ea] at HW
      simp only [gtP] at HW ⊢
      unfold sRap at HW
      clear hF HR HADV HT hb ea ea2 aa
      refine go_ ?_
      refine Qab (HW.out) ?_
      refine Qaa ?_
      refine rT Tryz.results137 ?_
      exact ⟨⟨ga, rfl, HG.out⟩, rfl⟩
  | false =>
  rw [c2, if_neg (by decide)] at HR
  rw [c2] at H2
  unfold sPar at H2
  cases c3 : Qdp (tkg l i) with
  | false =>
    rw [name_no c3] at HR
    have hF : GotR ⟨zNd, i, 1, (tkg l i).at_⟩ R := by rw [HR.out]; exact got_no _ _ _ _ _
    have HG := Hh hF
    rw [c3] at H3
    generalize tkg l i = t0 at *
    clear hF HR c1 c2 c3 hi e1 hl IH
    refine pG Tryz.func137 Tryz.ntmps137 ?_
    refine Jd ?_
    intro b4 hb4
    try simp only [Rh, Rg, Rf, Ja] at hb4
    refine go_ ?_
    refine Qab (H1.out) ?_
    refine Qab (H2.out) ?_
    refine Qab (H3.out) ?_
    refine Qab (HF0.out) ?_
    refine Qaa ?_
    refine rT Tryz.results137 ?_
    exact ⟨⟨_, rfl, HG.out⟩, rfl⟩
  | true =>
    rw [name_ok c3] at HR
    have hF : GotR ⟨.mk 1 (tkg l i).at_ (tkg l i).text 0 [], i1, 0, 0⟩ R := by rw [HR.out, e1]; exact got_ok _ _
    have HG := Hh hF
    rw [c3] at H3
    generalize tkg l i = t0 at *
    clear hF HR c1 c2 c3 hi e1 hl IH
    refine pG Tryz.func137 Tryz.ntmps137 ?_
    refine Jd ?_
    intro b4 hb4
    try simp only [Rh, Rg, Rf, Ja] at hb4
    refine go_ ?_
    refine Qab (H1.out) ?_
    refine Qab (H2.out) ?_
    refine Qab (H3.out) ?_
    refine Qar [(0, .a), (1, .a), (2, .a), (3, .a), (4, .a), (5, .a), (6, .a), (7, .a), (8, .a), (9, .a), (10, .a), (11, .a), (12, .a), (13, .a), (14, .e)] (by kernel_rfl) (by rfl) (by kernel_rfl) ?_
    refine go_ ?_
    refine Qcu ?_
    refine go_ ?_
    refine rT Tryz.results137 ?_
    exact ⟨⟨_, rfl, HG.out⟩, rfl⟩
theorem appL_bad {l : List Tk} {n : Nat} {g : Nd} {σ : ST} (h : σ.bad ≠ 0) : appL l n g σ = (g, σ) := by
 cases n with
 | zero => rfl
 | succ n => rw [appL, if_neg (fun e => h e.1)]
theorem atom_adv1 {l : List Tk} (hl : TkOk l) {m j q : Nat} (hm : 0 < m) (hj : j < l.length) {x : Nd} (h : Qbe l m ⟨j, 0, 0⟩ = (x, ⟨q, 0, 0⟩)) : j + 1 ≤ q ∧ q < l.length := by
 have h1 := ((Qda hl m).2.2.1 ⟨j, 0, 0⟩ hj).2 hm
 rw [h] at h1
 exact ⟨(h1.2 rfl).2, h1.1⟩
def AppI (l : List Tk) (R : Nd × ST) (i k : Nat) (g : Gt) (m : Nat) : Prop :=
 (g.e = 0 ∧ g.at_ = 0 ∧ appL l m g.nd ⟨g.i, 0, 0⟩ = R ∧ g.i < l.length ∧ i + k + 1 ≤ g.i ∧ 6 * (l.length - g.i) + 10 ≤ m) ∨ (g.e ≠ 0 ∧ R.2.bad = g.e ∧ R.2.at_ = g.at_)
theorem AppI.res {l : List Tk} {R : Nd × ST} {i k : Nat} {g : Gt} {m : Nat} (h : AppI l R i k g m) (hb : g.e = 0 → Qez l ⟨g.i, 0, 0⟩ = false) : GotR g R := by
 rcases h with ⟨h1, h2, h3, h4, h5, h6⟩ | h
 ·refine .inl ⟨h1, h2, ?_⟩
  rw [← h3]
  cases m with
  | zero => rfl
  | succ m => rw [appL, if_neg (by rw [hb h1]; simp)]
 ·exact .inr h
theorem AppI.step {l : List Tk} (hl : TkOk l) {R : Nd × ST} {i k : Nat} {nd : Nd} {j : Nat} {m : Nat} {ga : Gt} (h : AppI l R i k ⟨nd, j, 0, 0⟩ (m + 1)) (hb : Qez l ⟨j, 0, 0⟩ = true) (hg : GotR ga (Qbe l m ⟨j, 0, 0⟩)) : AppI l R i (k + 1) ⟨.mk 5 nd.at ⟨#[]⟩ 0 [nd, ga.nd], ga.i, ga.e, ga.at_⟩ m := by
 rcases h with ⟨-, -, h3, h4, h5, h6⟩ | ⟨h, -⟩
 ·simp only at h3 h4 h5 h6
  rw [appL, if_pos ⟨rfl, hb⟩] at h3
  simp only at h3
  rcases hg with ⟨g1, g2, g3⟩ | ⟨g1, g2, g3⟩
  ·have hm : 0 < m := by omega
   obtain ⟨h7, h8⟩ := atom_adv1 hl hm h4 g3
   rw [g3] at h3
   refine .inl ⟨g1, g2, h3, h8, ?_, ?_⟩
   ·show i + (k + 1) + 1 ≤ ga.i
    omega
   ·show 6 * (l.length - ga.i) + 10 ≤ m
    omega
  ·have hbad : (Qbe l m ⟨j, 0, 0⟩).2.bad ≠ 0 := by rw [g2]; exact g1
   rw [appL_bad hbad] at h3
   refine .inr ⟨g1, ?_, ?_⟩
   ·rw [← h3]; exact g2
   ·rw [← h3]; exact g3
 ·exact absurd rfl h
theorem app_g {l : List Tk} (hl : TkOk l) (n i : Nat) (hi : i < l.length) (hf : 6 * (l.length - i) + 5 ≤ n + 1) (IA : ∀ m, m ≤ n → ∀ j, j < l.length → 6 * (l.length - j) + 3 ≤ m → AtomG l m j) : AppG l (n + 1) i := by
  unfold AppG
  have hlen := hl.len
  have HL := Hh hl
  have HIA := Hh IA
  have HR := Hh (show appS l (n + 1) ⟨i, 0, 0⟩ = appL l n (Qbe l n ⟨i, 0, 0⟩).1 (Qbe l n ⟨i, 0, 0⟩).2 by rw [appS])
  generalize appS l (n + 1) ⟨i, 0, 0⟩ = R at *
  have HA0 := Hh (IA n (Nat.le_refl _) i hi (by omega))
  unfold AtomG at HA0
  have HS0 : Hid (∀ g, GotR g (Qbe l n ⟨i, 0, 0⟩) → AppI l R i 0 g n) := fun g hg => by
    rcases hg with ⟨g1, g2, g3⟩ | ⟨g1, g2, g3⟩
    · have h1 := atom_adv1 hl (by omega) hi g3
      have h3 := HR.out
      rw [g3] at h3
      exact .inl ⟨g1, g2, h3.symm, h1.2, by omega, by omega⟩
    · have hbad : (Qbe l n ⟨i, 0, 0⟩).2.bad ≠ 0 := by rw [g2]; exact g1
      have h3 := HR.out
      rw [appL_bad hbad] at h3
      exact .inr ⟨g1, by rw [h3]; exact g2, by rw [h3]; exact g3⟩
  clear hl IA HR hi hf
  refine pG Tryz.func100 Tryz.ntmps100 ?_
  refine Jd ?_
  intro b4 hb4
  try simp only [Rh, Rg, Rf, Ja] at hb4
  refine go_ ?_
  refine Qbm (HA0.out) ?_
  rintro _ ⟨g0, rfl, hR0⟩
  have HI0 := Hh (HS0.out g0 hR0)
  clear hR0 HS0 HA0
  simp only [gtP]
  refine go_ ?_
  refine Jd ?_
  intro b5 hb5
  try simp only [Rh, Rg, Rf, Ja] at hb5
  refine go_ ?_
  refine Qaa ?_
  refine Qbo (ι := Nat × Gt × Nat) (fun y => (y.1 ≤ l.length ∧ y.2.2 ≤ n) ∧ Hid (AppI l R i y.1 y.2.1 y.2.2)) (fun y => [(0, .d (.sl (l.map encD))), (4, .ptr b4 0), (5, .ptr b5 0), (6, .d (.v (.int .i64 (y.1 : Int))))]) (fun y => [.box b5 73 [.d (.v (.int .i64 y.2.1.nd.kind)), .d (.v (.int .i64 y.2.1.nd.at)), .d (.v (.string y.2.1.nd.name)), .d (.v (.int .i64 y.2.1.nd.num)), .d (.sl (y.2.1.nd.sub.map encD)), .d (.v (.int .i64 y.2.1.i)), .d (.v (.int .i64 y.2.1.e)), .d (.v (.int .i64 y.2.1.at_))], .box b4 73 [.d (.v (.int .i64 0)), .d (.v (.int .i64 0)), .d (.v (.string ⟨#[]⟩)), .d (.v (.int .i64 0)), .nils, .d (.v (.int .i64 0)), .d (.v (.int .i64 0)), .d (.v (.int .i64 0))]]) (fun y => l.length - y.1) (0, g0, n) ⟨⟨Nat.zero_le _, Nat.le_refl _⟩, HI0.out⟩ ?_ ?_ ?_
  · exact sU
  · exact dR
  rintro ⟨k, ⟨nd, j, e, at_⟩, m⟩ ⟨⟨hk, hmn⟩, HI⟩
  simp only at hk hmn HI ⊢
  clear HI0
  by_cases he : e = 0
  rotate_left
  · have HG := Hh (HI.out.res (fun h => absurd h he))
    have heb : (e == 0) = false := beq_false_of_ne he
    clear HI he
    by_cases hkl : k < l.length
    · have hc : (k : Int) < l.length := by omega
      refine go_ ?_
      refine Qaa ?_
      refine rT Tryz.results100 ?_
      exact ⟨⟨_, rfl, HG.out⟩, rfl⟩
    · have hc : ¬ (k : Int) < l.length := by omega
      refine go_ ?_
      refine Qaa ?_
      refine rT Tryz.results100 ?_
      exact ⟨⟨_, rfl, HG.out⟩, rfl⟩
  subst he
  have hat : at_ = 0 := by
    rcases HI.out with ⟨-, h, -⟩ | ⟨h, -⟩
    · exact h
    · exact absurd rfl h
  subst hat
  have hpos : i + k + 1 ≤ j ∧ j < l.length ∧ 6 * (l.length - j) + 10 ≤ m := by
    rcases HI.out with ⟨-, -, -, h4, h5, h6⟩ | ⟨h, -⟩
    · exact ⟨h5, h4, h6⟩
    · exact absurd rfl h
  obtain ⟨hp1, hp2, hp3⟩ := hpos
  have hc : (k : Int) < l.length := by omega
  have hin : IntKind.i64.wrap ((k : Int) + 1) = ((k + 1 : Nat) : Int) := Qcr (by omega)
  have hkn := Hh (show k + 1 ≤ l.length ∧ l.length - (k + 1) < l.length - k by omega)
  obtain ⟨m, rfl⟩ : ∃ m', m = m' + 1 := ⟨m - 1, by omega⟩
  have H1 := Hh (gnamed_p HL.out j)
  have H2 := Hh (gis_p HL.out j sSet)
  have H3 := Hh (gis_p HL.out j sPar)
  have H4 := Hh (gbinder_p HL.out j (by omega))
  have HB := Hh (show Qez l ⟨j, 0, 0⟩ = (Qdp (tkg l j) || Qbc (tkg l j) sSet || (Qbc (tkg l j) sPar && !Qdi l ⟨j, 0, 0⟩)) from rfl)
  unfold sSet at H2
  unfold sPar at H3
  have HGO := Hh (fun (hb : Qez l ⟨j, 0, 0⟩ = true) (ga : Gt) hg => HI.out.step HL.out (ga := ga) hb hg)
  have HST := Hh (fun (hb : Qez l ⟨j, 0, 0⟩ = false) => HI.out.res (fun _ => hb))
  have HAT := Hh (HIA.out m (by omega) j hp2 (by omega))
  have HA : Hid True := trivial
  have HMN := Hh (show m ≤ n by omega)
  generalize Qez l ⟨j, 0, 0⟩ = bg at *
  unfold sSet sPar at HB
  generalize Qdi l ⟨j, 0, 0⟩ = n4 at *
  generalize Qbc (tkg l j) ⟨#[83, 101, 116]⟩ = n2 at *
  generalize Qbc (tkg l j) ⟨#[40]⟩ = n3 at *
  generalize Qdp (tkg l j) = n1 at *
  cases n1 with
  | true =>
    obtain rfl : bg = true := HB.out
    have HA1 := Hh (HAT.out)
    unfold AtomG at HA1
    have HG2 := Hh (HGO.out rfl)
    clear HGO HST HA HI HAT hp1 hp2 hp3
    refine go_ ?_
    refine Qac (H1.out) ?_
    refine Qbm (HA1.out) ?_
    rintro _ ⟨ga, rfl, hRa⟩
    have HN := Hh (HG2.out ga hRa)
    obtain ⟨na, ja, ea, aa⟩ := ga
    clear hRa HG2
    simp only [gtP]
    refine go_ ?_
    refine Jd ?_
    intro b7 hb7
    try simp only [Rh, Rg, Rf, Ja] at hb7
    refine go_ ?_
    refine Qaa ?_
    refine Qel ?_
    refine Qaa ?_
    refine Qaa ?_
    refine ⟨(k + 1, ⟨.mk 5 nd.at ⟨#[]⟩ 0 [nd, na], ja, ea, aa⟩, m), ⟨⟨hkn.out.1, HMN.out⟩, HN.out⟩, hkn.out.2, ?_, ?_⟩
    · exact sU
    · simp only [Nd.kind, Nd.at, Nd.name, Nd.num, Nd.sub, List.map_cons, List.map_nil, Jg]
      exact dR
  | false =>
  cases n2 with
  | true =>
    obtain rfl : bg = true := HB.out
    have HA1 := Hh (HAT.out)
    unfold AtomG at HA1
    have HG2 := Hh (HGO.out rfl)
    clear HGO HST HA HI HAT hp1 hp2 hp3
    refine go_ ?_
    refine Qac (H1.out) ?_
    refine Qac (H2.out) ?_
    refine Qbm (HA1.out) ?_
    rintro _ ⟨ga, rfl, hRa⟩
    have HN := Hh (HG2.out ga hRa)
    obtain ⟨na, ja, ea, aa⟩ := ga
    clear hRa HG2
    simp only [gtP]
    refine go_ ?_
    refine Jd ?_
    intro b7 hb7
    try simp only [Rh, Rg, Rf, Ja] at hb7
    refine go_ ?_
    refine Qaa ?_
    refine Qel ?_
    refine Qaa ?_
    refine Qaa ?_
    refine ⟨(k + 1, ⟨.mk 5 nd.at ⟨#[]⟩ 0 [nd, na], ja, ea, aa⟩, m), ⟨⟨hkn.out.1, HMN.out⟩, HN.out⟩, hkn.out.2, ?_, ?_⟩
    · exact sU
    · simp only [Nd.kind, Nd.at, Nd.name, Nd.num, Nd.sub, List.map_cons, List.map_nil, Jg]
      exact dR
  | false =>
  cases n3 with
  | false =>
    obtain rfl : bg = false := HB.out
    have HG2 := Hh (HST.out rfl)
    clear HGO HST HA HI HAT hp1 hp2 hp3
    refine go_ ?_
    refine Qac (H1.out) ?_
    refine Qac (H2.out) ?_
    refine Qac (H3.out) ?_
    refine Qaa ?_
    refine rT Tryz.results100 ?_
    exact ⟨⟨_, rfl, HG2.out⟩, rfl⟩
  | true =>
  cases n4 with
  | false =>
    obtain rfl : bg = true := HB.out
    have HA1 := Hh (HAT.out)
    unfold AtomG at HA1
    have HG2 := Hh (HGO.out rfl)
    clear HGO HST HA HI HAT hp1 hp2 hp3
    refine go_ ?_
    refine Qac (H1.out) ?_
    refine Qac (H2.out) ?_
    refine Qac (H3.out) ?_
    refine Qac (H4.out) ?_
    refine Qbm (HA1.out) ?_
    rintro _ ⟨ga, rfl, hRa⟩
    have HN := Hh (HG2.out ga hRa)
    obtain ⟨na, ja, ea, aa⟩ := ga
    clear hRa HG2
    simp only [gtP]
    refine go_ ?_
    refine Jd ?_
    intro b7 hb7
    try simp only [Rh, Rg, Rf, Ja] at hb7
    refine go_ ?_
    refine Qaa ?_
    refine Qel ?_
    refine Qaa ?_
    refine Qaa ?_
    refine ⟨(k + 1, ⟨.mk 5 nd.at ⟨#[]⟩ 0 [nd, na], ja, ea, aa⟩, m), ⟨⟨hkn.out.1, HMN.out⟩, HN.out⟩, hkn.out.2, ?_, ?_⟩
    · exact sU
    · simp only [Nd.kind, Nd.at, Nd.name, Nd.num, Nd.sub, List.map_cons, List.map_nil, Jg]
      exact dR
  | true =>
    obtain rfl : bg = false := HB.out
    have HG2 := Hh (HST.out rfl)
    clear HGO HST HA HI HAT hp1 hp2 hp3
    refine go_ ?_
    refine Qac (H1.out) ?_
    refine Qac (H2.out) ?_
    refine Qac (H3.out) ?_
    refine Qac (H4.out) ?_
    refine Qaa ?_
    refine rT Tryz.results100 ?_
    exact ⟨⟨_, rfl, HG2.out⟩, rfl⟩
theorem term_g {l : List Tk} (hl : TkOk l) (n i : Nat) (hi : i < l.length) (IT1 : i + 1 < l.length → Qig l n 4 (tkg l i).at_ (i + 1)) (IT2 : Qig l n 3 (tkg l i).at_ i) (IP : AppG l n i) (IH : ∀ j, i < j → j < l.length → Qgr l n j) (hn0 : 0 < n) : Qgr l (n + 1) i := by
  unfold Qgr
  have hlen := hl.len
  have HL := Hh hl
  have HIH := Hh IH
  have HR := Hh (show Qal l (n + 1) ⟨i, 0, 0⟩ = (if Qbc (tkg l i) sLam = true then Qcg l n 4 (tkg l i).at_ ⟨i + 1, 0, 0⟩ else if Qdi l ⟨i, 0, 0⟩ = true then Qcg l n 3 (tkg l i).at_ ⟨i, 0, 0⟩ else
      if (appS l n ⟨i, 0, 0⟩).2.bad = 0 ∧ isS l (appS l n ⟨i, 0, 0⟩).2 0 sArr = true then (.mk 3 (appS l n ⟨i, 0, 0⟩).1.at ⟨#[95]⟩ 0 [(appS l n ⟨i, 0, 0⟩).1, (Qal l n (incS (appS l n ⟨i, 0, 0⟩).2)).1], (Qal l n (incS (appS l n ⟨i, 0, 0⟩).2)).2) else appS l n ⟨i, 0, 0⟩) by rw [Qal, if_neg (by simp)]; rfl)
  generalize Qal l (n + 1) ⟨i, 0, 0⟩ = R at *
  have H1 := Hh (gis_p hl i sLam)
  have H2 := Hh (gbinder_p hl i (by omega))
  have hx := Qhb hi
  have hc : (i : Int) < l.length := by omega
  have hn : (0 : Int) ≤ i := by omega
  have hw1 : IntKind.i64.wrap ((i : Int) + 1) = ((i + 1 : Nat) : Int) := Qcr (by omega)
  cases c1 : Qbc (tkg l i) sLam with
  | true =>
    have HT := Hh (IT1 (Qgk hl c1))
    rw [c1, if_pos rfl] at HR
    rw [c1] at H1
    unfold sLam at H1
    unfold Qig at HT
    rw [← HR.out] at HT
    generalize tkg l i = t0 at *
    clear c1 IT1 IT2 IP IH hi hl HR
    refine pG Tryz.func54 Tryz.ntmps54 ?_
    refine Jd ?_
    intro b4 hb4
    try simp only [Rh, Rg, Rf, Ja] at hb4
    refine go_ ?_
    refine Qab (H1.out) ?_
    refine Qbm (HT.out) ?_
    rintro _ ⟨g, rfl, hR⟩
    have HG := Hh hR
    clear hR
    simp only [gtP]
    refine go_ ?_
    refine Qaa ?_
    refine rT Tryz.results54 ?_
    exact ⟨⟨_, rfl, HG.out⟩, rfl⟩
  | false =>
  rw [c1, if_neg (by decide)] at HR
  rw [c1] at H1
  unfold sLam at H1
  cases c2 : Qdi l ⟨i, 0, 0⟩ with
  | true =>
    have HT := Hh IT2
    rw [c2, if_pos rfl] at HR
    rw [c2] at H2
    unfold Qig at HT
    rw [← HR.out] at HT
    generalize tkg l i = t0 at *
    clear c1 c2 IT1 IT2 IP IH hi hl HR
    refine pG Tryz.func54 Tryz.ntmps54 ?_
    refine Jd ?_
    intro b4 hb4
    try simp only [Rh, Rg, Rf, Ja] at hb4
    refine go_ ?_
    refine Qab (H1.out) ?_
    refine Qab (H2.out) ?_
    refine Qbm (HT.out) ?_
    rintro _ ⟨g, rfl, hR⟩
    have HG := Hh hR
    clear hR
    simp only [gtP]
    refine go_ ?_
    refine Qaa ?_
    refine rT Tryz.results54 ?_
    exact ⟨⟨_, rfl, HG.out⟩, rfl⟩
  | false =>
  rw [c2, if_neg (by decide)] at HR
  rw [c2] at H2
  have HP := Hh IP
  unfold AppG at HP
  have HADV := Hh ((Qda hl n).2.2.2.1 ⟨i, 0, 0⟩ hi)
  clear c1 c2 IT1 IT2 IP IH hl hx hc hn hw1
  generalize hA : appS l n ⟨i, 0, 0⟩ = A at *
  clear hA
  have HI := Hh hi
  clear hi
  refine pG Tryz.func54 Tryz.ntmps54 ?_
  refine Jd ?_
  intro b4 hb4
  try simp only [Rh, Rg, Rf, Ja] at hb4
  refine go_ ?_
  refine Qab (H1.out) ?_
  refine Qab (H2.out) ?_
  refine Qbm (HP.out) ?_
  rintro _ ⟨g, rfl, hRa⟩
  rcases hRa with ⟨ea, aa, hxa⟩ | ⟨ea, ea2, aa⟩
  · obtain ⟨na, ja, ea', aa'⟩ := g
    simp only at ea aa hxa
    subst ea aa hxa
    have hja : ja < l.length := HADV.out.1
    have hij : i ≤ ja := (HADV.out.2 rfl).2
    have H3 := Hh (gis_p HL.out ja sArr)
    unfold isS at HR
    simp only [Nat.add_zero] at HR
    cases c3 : Qbc (tkg l ja) sArr with
    | false =>
      rw [c3, if_neg (by simp)] at HR
      have hF : GotR ⟨na, ja, 0, 0⟩ R := by rw [HR.out]; exact got_ok _ _
      have HG := Hh hF
      rw [c3] at H3
      unfold sArr at H3
      clear hF HR c3 hja hij HADV HP
      simp only [gtP]
      refine go_ ?_
      refine Jd ?_
      intro b5 hb5
      try simp only [Rh, Rg, Rf, Ja] at hb5
      refine go_ ?_
      refine Qaa ?_
      refine Qac (H3.out) ?_
      refine Qaa ?_
      refine rT Tryz.results54 ?_
      exact ⟨⟨_, rfl, HG.out⟩, rfl⟩
    | true =>
      have hj1 := Qgk HL.out c3
      rw [c3, if_pos (by simp)] at HR
      have HT := Hh (HIH.out (ja + 1) (by omega) hj1)
      unfold Qgr at HT
      rw [c3] at H3
      unfold sArr at H3
      have hw2 : IntKind.i64.wrap ((ja : Int) + 1) = ((ja + 1 : Nat) : Int) := Qcr (by omega)
      have HR2 : Hid (R = (.mk 3 na.at ⟨#[95]⟩ 0 [na, (Qal l n ⟨ja + 1, 0, 0⟩).1], (Qal l n ⟨ja + 1, 0, 0⟩).2)) := HR.out
      clear HR c3 hja hij HADV HP hj1
      simp only [gtP]
      refine go_ ?_
      refine Jd ?_
      intro b5 hb5
      try simp only [Rh, Rg, Rf, Ja] at hb5
      refine go_ ?_
      refine Qaa ?_
      refine Qac (H3.out) ?_
      refine Qbm (HT.out) ?_
      rintro _ ⟨gc, rfl, hRc⟩
      obtain ⟨nc, jc, ec, ac⟩ := gc
      have hF : GotR ⟨.mk 3 na.at ⟨#[95]⟩ 0 [na, nc], jc, ec, ac⟩ R := by
        rw [HR2.out]
        rcases hRc with ⟨h1, h2, h3⟩ | ⟨h1, h2, h3⟩
        · simp only at h1 h2 h3
          exact .inl ⟨h1, h2, by rw [h3]⟩
        · exact .inr ⟨h1, h2, h3⟩
      have HG := Hh hF
      clear hF hRc HR2
      simp only [gtP]
      refine go_ ?_
      refine Jd ?_
      intro b6 hb6
      try simp only [Rh, Rg, Rf, Ja] at hb6
      refine go_ ?_
      refine Qaa ?_
      refine Qel ?_
      refine Qaa ?_
      refine Qaa ?_
      refine rT Tryz.results54 ?_
      exact ⟨⟨⟨.mk 3 na.at ⟨#[95]⟩ 0 [na, nc], jc, ec, ac⟩, by simp only [Nd.kind, Nd.at, Nd.name, Nd.num, Nd.sub, List.map_cons, List.map_nil, Jg]; rfl, HG.out⟩, rfl⟩
  · have hF : GotR g R := by
      rw [HR.out, if_neg (by rw [ea2]; exact fun h => ea h.1)]
      exact .inr ⟨ea, ea2, aa⟩
    have HG := Hh hF
    have heb : (g.e != 0) = true := bne_iff_ne.2 ea
    clear hF HR ea ea2 aa HADV HP
    simp only [gtP]
    refine go_ ?_
    refine Jd ?_
    intro b5 hb5
    try simp only [Rh, Rg, Rf, Ja] at hb5
    refine go_ ?_
    refine Qaa ?_
    refine Qaa ?_
    refine rT Tryz.results54 ?_
    exact ⟨⟨_, rfl, HG.out⟩, rfl⟩
theorem rdepthM_p (t : Nd) : PCalls Tryz.prog 26 [aggD t] [] fun p s => p = .d (.v (.int .i64 (Qcf t))) ∧ s = [] := PCalls.flat trivial fun K w vs ha => by
 obtain ⟨v, rfl, hv⟩ := ha.one
 obtain ⟨cs, rfl, hc⟩ := rep_rel hv
 exact rdepth_any t cs w (Rep.toC _ _ hc)
theorem read_g {l : List Tk} (hl : TkOk l) : ∀ N n, n ≤ N →
    (∀ k a i, i < l.length → 6 * (l.length - i) + 4 ≤ n → Qig l n k a i) ∧ (∀ i, i < l.length → 6 * (l.length - i) + 6 ≤ n → Qgr l n i) ∧ (∀ i, i < l.length → 6 * (l.length - i) + 3 ≤ n → AtomG l n i) ∧ (∀ i, i < l.length → 6 * (l.length - i) + 5 ≤ n → AppG l n i) := by
  intro N
  induction N with
  | zero =>
    intro n hn
    refine ⟨fun k a i _ h => by omega, fun i _ h => by omega, fun i _ h => by omega, fun i _ h => by omega⟩
  | succ N ih =>
    intro n hn
    rcases Nat.lt_or_ge n (N + 1) with h | h
    · exact ih n (by omega)
    · obtain rfl : n = N + 1 := by omega
      have I := ih N (Nat.le_refl _)
      refine ⟨fun k a i hi hf => typed_g hl N i k a hi fun j h1 h2 => I.2.1 j h2 (by omega), fun i hi hf => term_g hl N i hi (fun h => I.1 4 _ (i + 1) h (by omega)) (I.1 3 _ i hi (by omega)) (I.2.2.2 i hi (by omega)) (fun j h1 h2 => I.2.1 j h2 (by omega)) (by omega), fun i hi hf => atom_g hl N i hi fun h => I.2.1 (i + 1) h (by omega), fun i hi hf => app_g hl N i hi (by omega) fun m hm j hj hf2 => (ih m hm).2.2.1 j hj hf2⟩
theorem gexpr_p {l : List Tk} (hl : TkOk l) (n i : Nat) (hi : i < l.length) (hf : 6 * (l.length - i) + 6 ≤ n) : PCalls Tryz.prog 25 [.d (.sl (l.map encD)), .d (.v (.int .i64 i))] [] fun p s => (∃ g, p = gtP g ∧ GotR g (Qbj l n ⟨i, 0, 0⟩)) ∧ s = [] := by
 have HT := Hh ((read_g hl n n (Nat.le_refl _)).2.1 i hi hf)
 unfold Qgr at HT
 have HR : Hid (Qbj l n ⟨i, 0, 0⟩ = ((Qal l n ⟨i, 0, 0⟩).1, Qdd (Qal l n ⟨i, 0, 0⟩).1 (tkg l i).at_ (Qal l n ⟨i, 0, 0⟩).2)) := rfl
 have HF := Hh (Qik l i 2 hi)
 simp only [zNd, Qgu, List.map_nil] at HF
 generalize Qbj l n ⟨i, 0, 0⟩ = R at *
 generalize Qal l n ⟨i, 0, 0⟩ = T at *
 have HS : Hid (∀ g, GotR g T → PCalls Tryz.prog 53 [.d (.sl (l.map encD)), gtP g, .d (.v (.int .i64 i))] [] fun p s => (∃ g, p = gtP g ∧ GotR g R) ∧ s = []) := by
  intro g hg
  obtain ⟨nd, j, e, at_⟩ := g
  by_cases he : e = 0
  ·subst he
   have hT : at_ = 0 ∧ T = (nd, ⟨j, 0, 0⟩) := by
    rcases hg with ⟨-, h2, h3⟩ | ⟨h, -⟩
    ·exact ⟨h2, h3⟩
    ·exact absurd rfl h
   obtain ⟨rfl, rfl⟩ := hT
   have HD := Hh (rdepthM_p nd)
   have HR2 : Hid (R = (nd, if (0 : Int) = 0 ∧ 128 < Qcf nd then Qav 2 (tkg l i).at_ ⟨j, 0, 0⟩ else ⟨j, 0, 0⟩)) := HR.out
   by_cases hd : 128 < Qcf nd
   ·rw [if_pos ⟨rfl, hd⟩] at HR2
    have HG := Hh (show GotR ⟨zNd, i, 2, (tkg l i).at_⟩ R from by rw [HR2.out]; exact .inr ⟨by show (2 : Int) ≠ 0; decide, rfl, rfl⟩)
    obtain ⟨k, a, s, m, u⟩ := nd
    simp only [gtP, aggD, Jg, List.map_cons, List.map_nil, Nd.kind, Nd.at, Nd.name, Nd.num, Nd.sub] at HD ⊢
    clear HR HR2 hg HT
    refine pG Tryz.func53 Tryz.ntmps53 ?_
    refine Jc ?_
    intro b4 hb4
    try simp only [Rh, Rg, Rf, Ja] at hb4
    refine go_ ?_
    refine Jd ?_
    intro b6 hb6
    try simp only [Rh, Rg, Rf, Ja] at hb6
    refine go_ ?_
    refine Qac (HD.out) ?_
    refine Qab (HF.out) ?_
    refine Qaa ?_
    refine rT Tryz.results53 ?_
    exact ⟨⟨_, rfl, HG.out⟩, rfl⟩
   ·rw [if_neg (fun h => hd h.2)] at HR2
    have HG := Hh (show GotR ⟨nd, j, 0, 0⟩ R from by rw [HR2.out]; exact got_ok _ _)
    obtain ⟨k, a, s, m, u⟩ := nd
    simp only [gtP, aggD, Jg, List.map_cons, List.map_nil, Nd.kind, Nd.at, Nd.name, Nd.num, Nd.sub] at HD ⊢
    clear HR HR2 hg HT
    refine pG Tryz.func53 Tryz.ntmps53 ?_
    refine Jc ?_
    intro b4 hb4
    try simp only [Rh, Rg, Rf, Ja] at hb4
    refine go_ ?_
    refine Jd ?_
    intro b6 hb6
    try simp only [Rh, Rg, Rf, Ja] at hb6
    refine go_ ?_
    refine Qac (HD.out) ?_
    refine Qaa ?_
    refine rT Tryz.results53 ?_
    exact ⟨⟨_, rfl, HG.out⟩, rfl⟩
  ·have hT : T.2.bad = e ∧ T.2.at_ = at_ := by
    rcases hg with ⟨h, -⟩ | ⟨-, h2, h3⟩
    ·exact absurd h he
    ·exact ⟨h2, h3⟩
   have HG := Hh (show GotR ⟨nd, j, e, at_⟩ R from by
    rw [HR.out]
    unfold Qdd
    rw [if_neg (fun h => he (by rw [← hT.1]; exact h.1))]
    exact .inr ⟨he, hT⟩)
   have heb : (e == 0) = false := beq_false_of_ne he
   clear HR hg hT he HT
   simp only [gtP]
   refine pG Tryz.func53 Tryz.ntmps53 ?_
   refine Jc ?_
   intro b4 hb4
   try simp only [Rh, Rg, Rf, Ja] at hb4
   refine go_ ?_
   refine Jd ?_
   intro b6 hb6
   try simp only [Rh, Rg, Rf, Ja] at hb6
   refine go_ ?_
   refine Qaa ?_
   refine rT Tryz.results53 ?_
   exact ⟨⟨_, rfl, HG.out⟩, rfl⟩
 clear HF HR hi hf hl
 refine pG Tryz.func25 Tryz.ntmps25 ?_
 refine Jd ?_
 intro b4 hb4
 try simp only [Rh, Rg, Rf, Ja] at hb4
 refine go_ ?_
 refine Qbm (HT.out) ?_
 rintro _ ⟨g, rfl, hR⟩
 have HS1 := Hh (HS.out g hR)
 clear hR HS HT
 simp only [gtP] at HS1
 simp only [gtP]
 refine go_ ?_
 refine Qbm (HS1.out) ?_
 rintro _ ⟨g2, rfl, hR2⟩
 have HG := Hh hR2
 clear hR2
 refine go_ ?_
 refine Qaa ?_
 refine rT Tryz.results25 ?_
 exact ⟨⟨_, rfl, HG.out⟩, rfl⟩
theorem next_facts {r : List Int} (h : (Qah r).2.2.2 = true) : (Qah r).1 ≠ 5 ∧ ((Qah r).1 = 1 → ((Qah r).2.1.toList == [95] || Qai (Qah r).2.1) = true) := by
 unfold Qah at h ⊢
 simp only at h ⊢
 split
 ·rename_i h1
  rw [if_pos h1] at h
  split
  ·exact ⟨by show (2 : Int) ≠ 5; decide, fun e => absurd e (by show ¬ (2 : Int) = 1; decide)⟩
  ·rename_i h2
   rw [if_neg h2] at h
   exact ⟨by show (1 : Int) ≠ 5; decide, fun _ => h⟩
 ·split
  ·exact ⟨by show (3 : Int) ≠ 5; decide, fun e => absurd e (by show ¬ (3 : Int) = 1; decide)⟩
  ·exact ⟨by show (4 : Int) ≠ 5; decide, fun e => absurd e (by show ¬ (4 : Int) = 1; decide)⟩
theorem cut_facts (c : Nat) (r : List Int) : ∀ x ∈ (cutR c r).1, x.1 ≠ 5 ∧ (x.1 = 1 → (x.2.1.toList == [95] || Qai x.2.1) = true) := by
  cases h1 : (Qad r).2 with
  | false => rw [cut_a h1]; intro x hx; cases hx
  | true =>
    by_cases h2 : (Qad r).1 = []
    · rw [cut_b h1 h2]; intro x hx; cases hx
    · by_cases h3 : 8192 ≤ c
      · rw [cut_c h1 h2 h3]; intro x hx; cases hx
      · cases h4 : (Qah (Qad r).1).2.2.2 with
        | false => rw [cut_d h1 h2 h3 h4]; intro x hx; cases hx
        | true =>
          rw [cut_e h1 h2 h3 h4]
          have hlt : ((Qad r).1.drop (Qah (Qad r).1).2.2.1).length < r.length := by
            have h5 := (Qdh r).length_le
            have h6 := Qgl h4 h2
            have h7 : 0 < (Qad r).1.length := List.length_pos_iff.2 h2
            rw [List.length_drop]
            omega
          intro x hx
          rcases List.mem_cons.1 hx with rfl | hx
          · exact next_facts h4
          · exact cut_facts (c + 1) ((Qad r).1.drop (Qah (Qad r).1).2.2.1) x hx
termination_by r.length
decreasing_by exact hlt
structure TkN (l : List Tk) : Prop where
 mid : ∀ j, j + 1 < l.length → (tkg l j).kind ≠ 5
 nm : ∀ j, j < l.length → (tkg l j).kind = 1 → ((tkg l j).text.toList == [95] || Qai (tkg l j).text) = true
theorem startN (s : ByteArray) : TkN (Qaz s) := by
 unfold Qaz
 split
 ·refine ⟨fun j hj => by simp at hj, fun j hj hk => ?_⟩
  have : j = 0 := by simp at hj; exact hj
  subst this
  exact absurd hk (by show (5 : Int) ≠ 1; decide)
 ·rename_i h
  have h : (tokA s).2.2 = 0 := by simpa using h
  unfold tokA at h ⊢
  split at h
  ·rename_i h1; exact absurd h h1
  ·rename_i h1
   rw [if_neg h1]
   unfold Qhc at h ⊢
   have hf := cut_facts 0 (allS s)
   split at h
   ·rename_i e k he
    exfalso
    rcases cut_err _ _ _ _ he with h2 | h2
    ·rw [h2] at h; cases h
    ·rw [h2] at h; cases h
   ·rename_i he
    simp only
    have key : ∀ j, j < (cutR 0 (allS s)).1.length → ∃ x ∈ (cutR 0 (allS s)).1, (tkg ((cutR 0 (allS s)).1.map (fun x => ({ kind := x.1, text := x.2.1, at_ := offN (allS s) ((allS s).length - x.2.2) } : Tk)) ++ [⟨5, ⟨#[]⟩, s.size⟩]) j).kind = x.1 ∧ (tkg ((cutR 0 (allS s)).1.map (fun x => ({ kind := x.1, text := x.2.1, at_ := offN (allS s) ((allS s).length - x.2.2) } : Tk)) ++ [⟨5, ⟨#[]⟩, s.size⟩]) j).text = x.2.1 := by
     intro j hj
     refine ⟨(cutR 0 (allS s)).1[j], List.getElem_mem hj, ?_⟩
     rw [Qip (by simp; omega), List.getElem_append_left (by simpa using hj), List.getElem_map]
     exact ⟨rfl, rfl⟩
    refine ⟨fun j hj => ?_, fun j hj hk => ?_⟩
    ·simp only [List.length_append, List.length_map, List.length_cons, List.length_nil] at hj
     obtain ⟨x, hx, e1, -⟩ := key j (by omega)
     rw [e1]; exact (hf x hx).1
    ·simp only [List.length_append, List.length_map, List.length_cons, List.length_nil] at hj
     rcases Nat.lt_or_ge j (cutR 0 (allS s)).1.length with h3 | h3
     ·obtain ⟨x, hx, e1, e2⟩ := key j h3
      rw [e1] at hk
      rw [e2]; exact (hf x hx).2 hk
     ·exfalso
      have hj2 : j = (cutR 0 (allS s)).1.length := by omega
      rw [Qip (by simp; omega), List.getElem_append_right (by simp; omega)] at hk
      simp at hk
theorem numT_nn (s : ByteArray) : 0 ≤ numT s := by
 unfold numT
 split
 ·rename_i h
  unfold Qcs Qgd at h
  simp only [Bool.and_eq_true, decide_eq_true_eq] at h
  have hd := h.2
  have h1 := numV_bd s.toList.length s.toList h.1.1.2 (by
   intro c hc
   rw [List.take_length] at hc
   have := List.all_eq_true.1 hd c hc
   unfold digC
   exact this)
  rw [List.take_length] at h1
  exact h1.1
 ·exact Int.le_refl _
theorem named_right {l : List Tk} (hn : TkN l) {j : Nat} (hj : j < l.length) (h : Qdp (tkg l j) = true) : Qai (tkg l j).text = true := by
 unfold Qdp at h
 simp only [Bool.and_eq_true, beq_iff_eq, Bool.not_eq_true'] at h
 have h2 := hn.nm j hj h.1
 rw [h.2, Bool.false_or] at h2
 exact h2
theorem name_good {l : List Tk} (hn : TkN l) {σ : ST} (hw : Wf l σ) (h : (Qam l σ).2.bad = 0) : Qai (Qam l σ).1 = true := by
  unfold Qam at h ⊢
  simp only at h ⊢
  cases hk : Qdc l σ 0 with
  | true =>
    rw [hk] at h
    simp only [if_true] at h ⊢
    split
    · exact named_right hn hw hk
    · rename_i h2
      rw [if_neg h2] at h
      exact absurd h h2
  | false =>
    rw [hk] at h
    simp only [Bool.false_eq_true, if_false] at h ⊢
    have hb := Qdv 1 (tkg l σ.i).at_ σ (by decide)
    rw [if_neg hb] at h
    exact absurd h hb
theorem var_good {l : List Tk} (hn : TkN l) {σ : ST} (hw : Wf l σ) (h : (Qaq l σ).2.bad = 0) : ((Qaq l σ).1.toList == [95] || Qai (Qaq l σ).1) = true := by
 unfold Qaq at h ⊢
 split
 ·rename_i h1
  simp only [Bool.and_eq_true, beq_iff_eq] at h1
  exact hn.nm _ hw h1.1
 ·rename_i h1
  rw [if_neg h1] at h
  rw [name_good hn hw h, Bool.or_true]
theorem read_good {l : List Tk} (hl : TkOk l) (hn : TkN l) : ∀ n,
    (∀ k a σ, (k = 3 ∨ k = 4) → Wf l σ → Fu l n 4 σ → (Qcg l n k a σ).2.bad = 0 → Qbu (Qcg l n k a σ).1 false = true) ∧
    (∀ σ, Wf l σ → Fu l n 6 σ → (Qal l n σ).2.bad = 0 → Qbu (Qal l n σ).1 false = true) ∧
    (∀ σ, Wf l σ → Fu l n 3 σ → (Qbe l n σ).2.bad = 0 → Qbu (Qbe l n σ).1 false = true) ∧
    (∀ σ, Wf l σ → Fu l n 5 σ → (appS l n σ).2.bad = 0 → Qbu (appS l n σ).1 false = true) ∧
    (∀ g σ, Wf l σ → (σ.bad = 0 → 6 * (l.length - σ.i) + 10 ≤ n) → Qbu g false = true → (appL l n g σ).2.bad = 0 → Qbu (appL l n g σ).1 false = true) := by
  intro n
  induction n with
  | zero =>
    refine ⟨fun _ _ _ _ _ h _ => absurd h.1 (Nat.lt_irrefl 0), fun _ _ h _ => absurd h.1 (Nat.lt_irrefl 0), fun _ _ h _ => absurd h.1 (Nat.lt_irrefl 0), fun _ _ h _ => absurd h.1 (Nat.lt_irrefl 0), fun g σ _ hf hg hb => ?_⟩
    exact hg
  | succ n ih =>
    obtain ⟨i1, i2, i3, i4, i5⟩ := ih
    have A := Qda hl n
    refine ⟨fun k a σ hk hw hf hb => ?_, fun σ hw hf hb => ?_, fun σ hw hf hb => ?_, fun σ hw hf hb => ?_, fun g σ hw hf hg hb => ?_⟩
    · simp only [Qcg] at hb ⊢
      have a1 := Qap hl sPar hw
      have a2 := Qiq hl a1.1
      have a3 := Qap hl sCol a2.1
      have a4 := A.2.1 _ a3.1
      have a5 := Qap hl sRap a4.1
      have a6 := Qap hl sArr a5.1
      have a7 := A.2.1 _ a6.1
      have b6 := (a7.2 hb).1
      have b5 := (a6.2 b6).1
      have b4 := (a5.2 b5).1
      have b3 := (a4.2 b4).1
      have b2 := (a3.2 b3).1
      have b1 := (a2.2 b2).1
      have b0 := (a1.2 b1).1
      have hn0 : 0 < n := by
        have := hf.2 b0
        have hw' : σ.i < l.length := hw
        omega
      have s3 : AdvS l σ (Qag l sCol (Qaq l (Qag l sPar σ)).2) := (a1.trans a2.adv).trans a3.adv
      have s6 : AdvS l σ (Qag l sArr (Qag l sRap (Qal l n (Qag l sCol (Qaq l (Qag l sPar σ)).2)).2)) := ((s3.trans a4).trans a5.adv).trans a6.adv
      have g1 := i2 _ a3.1 (hf.next hw s3 hn0 (by omega)) b4
      have g2 := i2 _ a6.1 (hf.next hw s6 hn0 (by omega)) hb
      have g3 := var_good hn a1.1 b2
      rw [Qgg]
      rcases hk with rfl | rfl
      · simp [Qcj, Qbs, numB, Qci]
        exact ⟨by simpa using g3, g1, g2⟩
      · simp [Qcj, Qbs, numB, Qci]
        exact ⟨by simpa using g3, g1, g2⟩
    · by_cases hz : σ.bad = 0
      rotate_left
      · rw [Qal, if_pos hz] at hb; exact absurd hb hz
      have hn0 : 0 < n := by
        have := hf.2 hz
        have hw' : σ.i < l.length := hw
        omega
      rw [Qal, if_neg (by simp [hz])] at hb ⊢
      split
      · rename_i h1
        rw [if_pos h1] at hb
        have a1 := Qbh hl (Qbz h1)
        exact i1 4 _ _ (.inr rfl) a1.1 (hf.next hw a1 hn0 (by omega)) hb
      · rename_i h1
        rw [if_neg h1] at hb
        split
        · rename_i h2
          rw [if_pos h2] at hb
          exact i1 3 _ _ (.inl rfl) hw (hf.same hw (Adv.refl hw) hn0 (by omega)) hb
        · rename_i h2
          rw [if_neg h2] at hb
          simp only at hb ⊢
          have aG := A.2.2.2.1 σ hw
          split
          · rename_i h3
            rw [if_pos h3] at hb
            simp only at hb
            have gG := i4 σ hw (hf.same hw (Adv.refl hw) hn0 (by omega)) h3.1
            have a1 := Qbh hl (Qbz h3.2)
            have a2 : AdvS l σ (incS (appS l n σ).2) := aG.transS a1
            have g2 := i2 _ a1.1 (hf.next hw a2 hn0 (by omega)) hb
            rw [Qgg]
            simp [Qcj, Qbs, numB, Qci, gG, g2]
          · rename_i h3
            rw [if_neg h3] at hb
            exact i4 σ hw (hf.same hw (Adv.refl hw) hn0 (by omega)) hb
    · by_cases hz : σ.bad = 0
      rotate_left
      · rw [Qbe, if_pos hz] at hb; exact absurd hb hz
      have hn0 : 0 < n := by
        have := hf.2 hz
        have hw' : σ.i < l.length := hw
        omega
      rw [Qbe, if_neg (by simp [hz])] at hb ⊢
      split
      · rename_i h1
        rw [if_pos h1] at hb
        unfold setS at hb ⊢
        simp only at hb ⊢
        split
        · rename_i h2
          rw [if_pos h2] at hb
          by_cases h7 : 7 < numT (tkg l (incS σ).i).text
          · rw [if_pos h7] at hb
            exact absurd hb (show ¬ (Qav 1 (tkg l (incS σ).i).at_ (incS σ)).bad = 0 from Qdv 1 _ _ (by decide))
          · have h0 := numT_nn (tkg l (incS σ).i).text
            rw [Qgg]
            simp [Qcj, Qbs, numB, Qci]
            exact ⟨h0, by omega⟩
        · rw [Qgg]
          simp [Qcj, Qbs, numB, Qci]
      · rename_i h1
        rw [if_neg h1] at hb
        split
        · rename_i h2
          rw [if_pos h2] at hb
          simp only at hb ⊢
          have a1 := Qbh hl (Qbz h2)
          have a2 := A.2.1 _ a1.1
          have b2 := ((Qap hl sRap a2.1).2 hb).1
          exact i2 _ a1.1 (hf.next hw a1 hn0 (by omega)) b2
        · rename_i h2
          rw [if_neg h2] at hb
          simp only at hb ⊢
          rw [Qgg]
          simp only [Qcj, Qbs, numB, Qci]
          have := name_good hn hw hb
          simpa using this
    · simp only [appS] at hb ⊢
      have a1 := A.2.2.1 σ hw
      have a2 := A.2.2.2.2 (Qbe l n σ).1 _ a1.1.1
      have b1 := (a2.2 hb).1
      have b0 := (a1.1.2 b1).1
      have hw' : σ.i < l.length := hw
      have hfu := hf.2 b0
      have hn0 : 0 < n := by omega
      have g1 := i3 σ hw (hf.same hw (Adv.refl hw) hn0 (by omega)) b1
      have h3 := (a1.2 hn0).2 b1
      have h4 : (Qbe l n σ).2.i < l.length := a1.1.1
      exact i5 _ _ a1.1.1 (fun _ => by omega) g1 hb
    · rw [appL] at hb ⊢
      split
      · rename_i h1
        rw [if_pos h1] at hb
        simp only at hb ⊢
        have hw' : σ.i < l.length := hw
        have hfu := hf h1.1
        have hn0 : 0 < n := by omega
        have a1 := A.2.2.1 σ hw
        have a2 := A.2.2.2.2 (.mk 5 g.at ⟨#[]⟩ 0 [g, (Qbe l n σ).1]) _ a1.1.1
        have b1 := (a2.2 hb).1
        have g1 := i3 σ hw ⟨hn0, fun _ => by omega⟩ b1
        have h3 := (a1.2 hn0).2 b1
        have h4 : (Qbe l n σ).2.i < l.length := a1.1.1
        refine i5 _ _ a1.1.1 (fun _ => by omega) ?_ hb
        rw [Qgg]
        simp [Qcj, Qbs, numB, Qci, hg, g1]
      · exact hg
theorem expr_good {l : List Tk} (hl : TkOk l) (hn : TkN l) (n : Nat) (σ : ST) (hw : Wf l σ) (hf : Fu l n 6 σ) (hb : (Qbj l n σ).2.bad = 0) : exprB (Qbj l n σ).1 = true := by
 unfold Qbj Qdd at hb ⊢
 simp only at hb ⊢
 by_cases h : (Qal l n σ).2.bad = 0 ∧ 128 < Qcf (Qal l n σ).1
 ·rw [if_pos h] at hb
  exact absurd hb (Qdv 2 _ _ (by decide))
 ·rw [if_neg h] at hb
  unfold exprB Qfq
  rw [(read_good hl hn n).2.1 σ hw hf hb, decide_eq_true (by
   rcases Int.lt_or_le 128 (Qcf (Qal l n σ).1) with h1 | h1
   ·exact absurd ⟨hb, h1⟩ h
   ·exact h1)]
  rfl
theorem exprA_good (s : ByteArray) (h : (Qem s).2.2 = 0) : exprB (Qem s).1 = true := by
 unfold Qem at h ⊢
 simp only at h ⊢
 have hl := Qjc s
 have hw := startW s
 have hf : Fu (Qaz s) (Qfg s) 6 (Qca s) := ⟨by unfold Qfg; omega, fun _ => by unfold Qfg; omega⟩
 split
 ·rename_i h1
  have hb : (Qde s).2.bad = 0 := by
   unfold endS at h1
   split at h1
   ·exact h1
   ·exact absurd h1 (Qdv 1 _ _ (by decide))
  exact expr_good hl (startN s) (Qfg s) (Qca s) hw hf hb
 ·rename_i h1
  rw [if_neg h1] at h
  exact absurd h h1
theorem end_bad {l : List Tk} {σ : ST} (h : σ.bad ≠ 0) : endS l σ = σ := by
 unfold endS
 split
 ·rfl
 ·exact if_neg h
theorem exprA_bad {s : ByteArray} (h : (tokA s).2.2 ≠ 0) : Qem s = (zNd, (tokA s).2.1, (tokA s).2.2) := by
 have h1 : Qca s = ⟨0, (tokA s).2.1, (tokA s).2.2⟩ := if_pos h
 have h2 : Qde s = (zNd, Qca s) := by
  unfold Qde Qbj
  rw [h1, Qgh (show (⟨0, (tokA s).2.1, (tokA s).2.2⟩ : ST).bad ≠ 0 from h)]
  unfold Qdd
  rw [if_neg (fun e => h e.1)]
 unfold Qem
 rw [h2, h1]
 simp only
 rw [end_bad (show (⟨0, (tokA s).2.1, (tokA s).2.2⟩ : ST).bad ≠ 0 from h), if_neg h]
theorem gExpr_p (s : ByteArray) (hs : s.size ≤ 100000) : PCalls Tryz.prog 7 [.d (.v (.string s))] [] fun p st => p = .tup [aggD (Qem s).1, .d (.v (.int .i64 (Qem s).2.1)), .d (.v (.int .i64 (Qem s).2.2))] ∧ st = [] := by
 have H0 := Hh (mtall_p s)
 unfold tokP at H0
 by_cases hz : (tokA s).2.2 = 0
 rotate_left
 ·rw [exprA_bad hz]
  have hzb : ((tokA s).2.2 != 0) = true := bne_iff_ne.2 hz
  simp only [zNd, aggD, encD_mk, List.map_cons, List.map_nil]
  generalize (tokA s).2.2 = e at *
  generalize (tokA s).2.1 = at_ at *
  clear hz
  refine pG Tryz.func7 Tryz.ntmps7 ?_
  refine Jd ?_
  intro b2 hb2
  try simp only [Rh, Rg, Rf, Ja] at hb2
  refine go_ ?_
  refine Qab (H0.out) ?_
  refine Qaa ?_
  refine rT Tryz.results7 ?_
  exact ⟨rfl, rfl⟩
 have hL : Qaz s = (tokA s).1 := if_neg (by simp [hz])
 have hS : Qca s = ⟨0, 0, 0⟩ := if_neg (by simp [hz])
 have hl := Qjc s
 have hN := startN s
 have hw := startW s
 have hE := expr_adv hl (Qfg s) (Qca s) hw
 have hX : Qde s = Qbj (Qaz s) (Qfg s) ⟨0, 0, 0⟩ := by unfold Qde; rw [hS]
 have HA := Hh (show Qem s = if (endS (Qaz s) (Qde s).2).bad = 0 then ((Qde s).1, (s.size : Int), 0) else (zNd, (endS (Qaz s) (Qde s).2).at_, (endS (Qaz s) (Qde s).2).bad) from rfl)
 rw [hS] at hE
 have HG := Hh (gexpr_p hl (Qfg s) 0 hl.pos (by unfold Qfg; omega))
 rw [← hX] at HG hE
 rw [hz, ← hL] at H0
 have hlen := hl.len
 generalize Qem s = R at *
 generalize Qde s = X at *
 clear hX hS hw hL
 generalize Qaz s = l at *
 generalize (tokA s).2.1 = at_ at *
 have HL := Hh hl
 have HN := Hh hN
 have HE := Hh hE
 clear hz hl hN hE
 obtain ⟨⟨k0, a0, s0, n0, u0⟩, at0, e0⟩ := R
 have HPOS := Hh HL.out.pos
 have hlw : IntKind.i64.wrap ((l.length : Int) - 1) = (l.length : Int) - 1 := wrM (by omega) (by omega)
 simp only [aggD, encD_mk, List.map_cons, List.map_nil]
 refine pG Tryz.func7 Tryz.ntmps7 ?_
 refine Jd ?_
 intro b2 hb2
 try simp only [Rh, Rg, Rf, Ja] at hb2
 refine go_ ?_
 refine Qab (H0.out) ?_
 refine Qbm (HG.out) ?_
 rintro _ ⟨g, rfl, hR⟩
 obtain ⟨nd, j, e, ea⟩ := g
 rcases hR with ⟨h1, h2, h3⟩ | ⟨h1, h2, h3⟩
 ·simp only at h1 h2 h3
  subst h1 h2 h3
  have hj : j < l.length := HE.out.1
  have hx := Qhb hj
  have hc : (j : Int) < l.length := by omega
  have hn : (0 : Int) ≤ j := by omega
  by_cases hjl : j + 1 < l.length
  ·have hne : ((j : Int) != (l.length : Int) - 1) = true := bne_iff_ne.2 (by omega)
   have hF : endS l ⟨j, 0, 0⟩ = ⟨j, (tkg l j).at_, 1⟩ := by
    unfold endS
    rw [if_neg (HN.out.mid j hjl)]
    rfl
   have hq := HA.out
   rw [hF] at hq
   simp only at hq
   rw [if_neg Qeh] at hq
   unfold zNd at hq
   obtain ⟨q1, q2, q3⟩ : k0 = 0 ∧ a0 = 0 ∧ s0 = ⟨#[]⟩ := by
    have := congrArg Prod.fst hq
    injection this with t1 t2 t3
    exact ⟨t1, t2, t3⟩
   obtain ⟨q4, q5⟩ : n0 = 0 ∧ u0 = [] := by
    have := congrArg Prod.fst hq
    injection this with t1 t2 t3 t4 t5
    exact ⟨t4, t5⟩
   obtain ⟨q6, q7⟩ : at0 = (tkg l j).at_ ∧ e0 = 1 := by
    have h8 := congrArg (fun x => x.2.1) hq
    have h9 := congrArg (fun x => x.2.2) hq
    exact ⟨h8, h9⟩
   subst q1 q2 q3 q4 q5 q6 q7
   generalize tkg l j = t0 at *
   clear hF hq hj hjl HA HE HG H0
   simp only [gtP]
   refine go_ ?_
   refine Jd ?_
   intro b8 hb8
   try simp only [Rh, Rg, Rf, Ja] at hb8
   refine go_ ?_
   refine Qaa ?_
   refine Qhn (J := Qcw [(b8, _)]) [(0, .a), (1, .a), (2, .a), (3, .a), (4, .a), (5, .a), (6, .a), (7, .e), (8, .a), (9, .a)] (by kernel_rfl) (by rfl) (by kernel_rfl) (by (repeat (first | exact Qbp _ | refine Jt (by simp [St.box?, *] <;> rfl) ?_))) ?_
   refine jG ?_
   refine PJs ?_
   refine jG ?_
   refine go_ ?_
   refine rT Tryz.results7 ?_
   exact ⟨rfl, rfl⟩
  ·have hne : ((j : Int) != (l.length : Int) - 1) = false := by
    rw [show (j : Int) = (l.length : Int) - 1 by omega]; simp
   have hF : endS l ⟨j, 0, 0⟩ = ⟨j, 0, 0⟩ := by
    have h5 := HL.out.last
    rw [show l.length - 1 = j by omega] at h5
    unfold endS
    rw [if_pos h5]
   have hq := HA.out
   rw [hF] at hq
   simp only [if_true] at hq
   obtain ⟨q1, q6, q7⟩ : nd = .mk k0 a0 s0 n0 u0 ∧ at0 = s.size ∧ e0 = 0 :=
    ⟨(congrArg (fun x => x.1) hq).symm, congrArg (fun x => x.2.1) hq, congrArg (fun x => x.2.2) hq⟩
   subst q1 q6 q7
   clear hF hq hj hjl HA HE HG H0 hx hc hn
   simp only [gtP, Nd.kind, Nd.at, Nd.name, Nd.num, Nd.sub]
   refine go_ ?_
   refine Jd ?_
   intro b8 hb8
   try simp only [Rh, Rg, Rf, Ja] at hb8
   refine go_ ?_
   refine Qaa ?_
   refine Qaa ?_
   refine rT Tryz.results7 ?_
   exact ⟨rfl, rfl⟩
 ·simp only at h1 h2 h3
  have hq := HA.out
  rw [end_bad (show X.2.bad ≠ 0 by rw [h2]; exact h1), if_neg (show ¬ X.2.bad = 0 by rw [h2]; exact h1)] at hq
  unfold zNd at hq
  obtain ⟨q1, q2, q3⟩ : k0 = 0 ∧ a0 = 0 ∧ s0 = ⟨#[]⟩ := by
   have := congrArg Prod.fst hq
   injection this with t1 t2 t3
   exact ⟨t1, t2, t3⟩
  obtain ⟨q4, q5⟩ : n0 = 0 ∧ u0 = [] := by
   have := congrArg Prod.fst hq
   injection this with t1 t2 t3 t4 t5
   exact ⟨t4, t5⟩
  obtain ⟨q6, q7⟩ : at0 = ea ∧ e0 = e := by
   have h8 := congrArg (fun x => x.2.1) hq
   have h9 := congrArg (fun x => x.2.2) hq
   exact ⟨h8.trans h3, h9.trans h2⟩
  have heb : (e != 0) = true := bne_iff_ne.2 h1
  subst q1 q2 q3 q4 q5 q6 q7
  clear hq h1 h2 h3 HA HE HG H0
  simp only [gtP]
  refine go_ ?_
  refine Jd ?_
  intro b8 hb8
  try simp only [Rh, Rg, Rf, Ja] at hb8
  refine go_ ?_
  refine Qaa ?_
  refine Qhn (J := Qcw [(b8, _)]) [(0, .a), (1, .a), (2, .a), (3, .a), (4, .a), (5, .e), (6, .a), (7, .a)] (by kernel_rfl) (by rfl) (by kernel_rfl) (by (repeat (first | exact Qbp _ | refine Jt (by simp [St.box?, *] <;> rfl) ?_))) ?_
  refine jG ?_
  refine PJs ?_
  refine jG ?_
  refine go_ ?_
  refine rT Tryz.results7 ?_
  exact ⟨rfl, rfl⟩
theorem node05_p : ∀ t : Nd, PCalls Tryz.prog 8 [aggD t, aggD t] [] fun p s => p = .d (.v (.bool true)) ∧ s = [] := by
 refine Nd.ind ?_
 intro k a nm n sub ih
 have IH := Hh ih
 clear ih
 have n1 : (k != k) = false := by simp
 have n2 : (a != a) = false := by simp
 have n3 : (nm.toList != nm.toList) = false := by simp
 have n4 : (n != n) = false := by simp
 have n5 : ((sub.length : Int) != (sub.length : Int)) = false := by simp
 simp only [aggD, encD_mk, List.map_cons, List.map_nil]
 refine pE Tryz.func8 Tryz.ntmps8 ?_
 refine PW_slenA (t := 0) (i := 4) (rows := sub.map encD) (by simp [PF.get] <;> rfl) rfl fun hml => ?_
 rw [List.length_map] at hml
 unfold maxLen at hml
 refine go_ ?_
 refine Jc ?_
 intro b2 hb2
 try simp only [Rh, Rg, Rf, Ja] at hb2
 refine go_ ?_
 refine Jc ?_
 intro b3 hb3
 try simp only [Rh, Rg, Rf, Ja] at hb3
 refine go_ ?_
 refine Qbo (ι := Nat) (fun y => y ≤ sub.length) (fun y => [(2, .ptr b2 0), (3, .ptr b3 0), (5, .d (.v (.int .i64 (y : Int))))]) (fun _ => [.box b3 31 [.d (.v (.int .i64 k)), .d (.v (.int .i64 a)), .d (.v (.string nm)), .d (.v (.int .i64 n)), .d (.sl (sub.map encD))], .box b2 25 [.d (.v (.int .i64 k)), .d (.v (.int .i64 a)), .d (.v (.string nm)), .d (.v (.int .i64 n)), .d (.sl (sub.map encD))]]) (fun y => sub.length - y) 0 (Nat.zero_le _) ?_ ?_ ?_
 ·exact sU
 ·exact dR
 rintro j hj
 by_cases hlt : j < sub.length
 ·have hx := Qfc hlt
  have hc : (j : Int) < sub.length := by omega
  have hn : (0 : Int) ≤ j := by omega
  have hin : IntKind.i64.wrap ((j : Int) + 1) = ((j + 1 : Nat) : Int) := by
   rw [show (j : Int) + 1 = ((j + 1 : Nat) : Int) by omega]
   exact wrM (by omega) (by omega)
  have h1 := Hh (IH.out _ (List.getElem_mem hlt))
  have hjl := Hh hlt
  obtain ⟨u, hu⟩ : ∃ u, u = sub[j]'hlt := ⟨_, rfl⟩
  rw [← hu] at hx h1
  clear hu hlt
  simp only [aggD, Jg, List.map_cons, List.map_nil] at h1 hx
  refine go_ ?_
  refine Qar [(0, .a), (1, .b), (2, .a), (3, .a), (4, .a), (5, .a), (6, .b), (7, .a), (8, .a), (9, .a), (10, .a), (11, .a)] (by kernel_rfl) (by rfl) (by kernel_rfl) ?_
  refine go_ ?_
  refine Qfx (h1.out) ?_
  refine go_ ?_
  exact ⟨j + 1, hjl.out, by have := hjl.out; omega, sU, dR⟩
 ·have hc : ¬ (j : Int) < sub.length := by omega
  refine go_ ?_
  refine rT Tryz.results8 ?_
  exact ⟨rfl, rfl⟩
theorem parseExprs_p (s : ByteArray) : PCalls Tryz.prog 3 [.d (.v (.string s))] [] fun p st => p = .d (.v (.bool true)) ∧ st = [] := by
 have hW := Hh awake5_p
 by_cases h1 : (4000 : Int) < s.size
 ·refine pG Tryz.func3 Tryz.ntmps3 ?_
  refine Qab (hW.out) ?_
  refine rT Tryz.results3 ?_
  exact ⟨rfl, rfl⟩
 have hP := Hh (pexprs_p s)
 have hG := Hh (gExpr_p s (by omega))
 have hX := Hh (exprA_good s)
 generalize Qem s = X at *
 obtain ⟨t, at_, e⟩ := X
 simp only at hP hG hX
 have hN := Hh (node05_p t)
 have hE := Hh (rexpr_p t)
 have q1 : (e == e) = true := by simp
 have q2 : (at_ == at_) = true := by simp
 by_cases he : e = 0
 ·rw [hX.out he] at hE
  have he2 : (e != 0) = false := by rw [he]; rfl
  clear hX he
  simp only [aggD, Jg, List.map_cons, List.map_nil] at hP hG hN hE
  refine pG Tryz.func3 Tryz.ntmps3 ?_
  refine Qab (hP.out) ?_
  refine Jd ?_
  intro b3 hb3
  try simp only [Rh, Rg, Rf, Ja] at hb3
  refine go_ ?_
  refine Qaa ?_
  refine Qab (hG.out) ?_
  refine Jd ?_
  intro b6 hb6
  try simp only [Rh, Rg, Rf, Ja] at hb6
  refine go_ ?_
  refine Qaa ?_
  refine Qac (hN.out) ?_
  refine Qac (hE.out) ?_
  refine Qac (hW.out) ?_
  refine rT Tryz.results3 ?_
  exact ⟨rfl, rfl⟩
 ·have he2 : (e != 0) = true := bne_iff_ne.2 he
  clear hX he hE
  simp only [aggD, Jg, List.map_cons, List.map_nil] at hP hG hN
  refine pG Tryz.func3 Tryz.ntmps3 ?_
  refine Qab (hP.out) ?_
  refine Jd ?_
  intro b3 hb3
  try simp only [Rh, Rg, Rf, Ja] at hb3
  refine go_ ?_
  refine Qaa ?_
  refine Qab (hG.out) ?_
  refine Jd ?_
  intro b6 hb6
  try simp only [Rh, Rg, Rf, Ja] at hb6
  refine go_ ?_
  refine Qaa ?_
  refine Qac (hN.out) ?_
  refine Qac (hW.out) ?_
  refine rT Tryz.results3 ?_
  exact ⟨rfl, rfl⟩
theorem parseExprs_walk (s : ByteArray) (hs : s.size ≤ maxLen) (w : World) : Calls Tryz.prog 3 #[.string s] w fun e w' => e = .returned (.bool true) ∧ Below w.heap.size w w' :=
 ((parseExprs_p s).mono fun _ _ h => h.1).top (relVs_cons (.d (.v hs)) (relVs_nil _ _))
end Go.Proofs.YtahhgpafjiljfaaGreat
