import Derived.Test.YtdklpbefbamchaaGreatBM
import Derived.Test.YtdklpbefbamchaaGreatBZ
import Derived.Test.YtdklpbefbamchaaGreatBV
import Derived.Test.YtdklpbefbamchaaGreatT8
set_option linter.unusedSimpArgs false
set_option linter.unusedVariables false
set_option maxHeartbeats 16000000
set_option maxRecDepth 100000
namespace Go.Proofs.YtdklpbefbamchaaGreat
open Go.RowKit
def GotR (g : Gt) (x : Nd × ST) : Prop := (g.e = 0 ∧ g.at_ = 0 ∧ x = (g.nd, ⟨g.i, 0, 0⟩)) ∨ (g.e ≠ 0 ∧ x.2.bad = g.e ∧ x.2.at_ = g.at_)
theorem Qfq : (1 : Int) ≠ 0 := by decide
theorem emp_b : (⟨#[]⟩ : ByteArray) = ByteArray.empty := rfl
theorem Qji {l : List Tk} {s : ByteArray} {σ : ST} (h : σ.bad ≠ 0) : Qbk l s σ = σ := by
 unfold Qbk Qby
 rw [if_neg h]
 simp only [ite_self]
 rw [if_neg h]
theorem Qlu {l : List Tk} {s : ByteArray} {i : Nat} (h : Qbo (tkg l i) s = true) : Qbk l s ⟨i, 0, 0⟩ = ⟨i + 1, 0, 0⟩ := by
 unfold Qbk isS
 simp only [Nat.add_zero, h, if_true]
 rfl
theorem Qlt {l : List Tk} {s : ByteArray} {i : Nat} (h : Qbo (tkg l i) s = false) : Qbk l s ⟨i, 0, 0⟩ = ⟨i, (tkg l i).at_, 1⟩ := by
 unfold Qbk isS Qby
 simp only [Nat.add_zero, h, Bool.false_eq_true, if_false, if_true]
 rw [if_neg (by decide)]
theorem name_bad {l : List Tk} {σ : ST} (h : σ.bad ≠ 0) : Qdl l σ = (⟨#[]⟩, σ) := by
 unfold Qdl Qby
 rw [if_neg h]
 simp only [ite_self]
 rw [if_neg h]
theorem var_bad {l : List Tk} {σ : ST} (h : σ.bad ≠ 0) : Qbs l σ = (⟨#[]⟩, σ) := by
 unfold Qbs
 rw [if_neg (by simp [h]), name_bad h]
theorem name_ok {l : List Tk} {i : Nat} (h : Qfp (tkg l i) = true) : Qdl l ⟨i, 0, 0⟩ = ((tkg l i).text, ⟨i + 1, 0, 0⟩) := by
 unfold Qdl Qfg
 simp only [Nat.add_zero, h, if_true]
 rfl
theorem name_no {l : List Tk} {i : Nat} (h : Qfp (tkg l i) = false) : Qdl l ⟨i, 0, 0⟩ = (⟨#[]⟩, ⟨i, (tkg l i).at_, 1⟩) := by
 unfold Qdl Qfg Qby
 simp only [Nat.add_zero, h, Bool.false_eq_true, if_false, if_true]
 rw [if_neg (by decide)]
theorem var_ok {l : List Tk} {i : Nat} (h : ((tkg l i).kind == 1) = true) : Qbs l ⟨i, 0, 0⟩ = ((tkg l i).text, ⟨i + 1, 0, 0⟩) := by
 unfold Qbs
 simp only [h]
 rfl
theorem var_no {l : List Tk} {i : Nat} (h : ((tkg l i).kind == 1) = false) : Qbs l ⟨i, 0, 0⟩ = (⟨#[]⟩, ⟨i, (tkg l i).at_, 1⟩) := by
 unfold Qbs
 simp only [h, Bool.false_and, Bool.false_eq_true, if_false]
 exact name_no (by unfold Qfp; rw [h]; rfl)
theorem Qhw {l : List Tk} {n : Nat} {σ : ST} (h : σ.bad ≠ 0) : Qav l n σ = (zNd, σ) := by
 cases n with
 | zero => rfl
 | succ n => rw [Qav, if_pos h]
def Qii (l : List Tk) (n i : Nat) : Prop := PCalls Tryz.prog 180 [.d (.sl (l.map encD)), .d (.v (.int .i64 i))] [] fun p s => (∃ g, p = gtP g ∧ GotR g (Qav l n ⟨i, 0, 0⟩)) ∧ s = []
def Qkl (l : List Tk) (n : Nat) (k a : Int) (i : Nat) : Prop := PCalls Tryz.prog 236 [.d (.sl (l.map encD)), .d (.v (.int .i64 i)), .d (.v (.int .i64 k)), .d (.v (.int .i64 a))] [] fun p s => (∃ g, p = gtP g ∧ GotR g (Qdp l n k a ⟨i, 0, 0⟩)) ∧ s = []
def AtomG (l : List Tk) (n i : Nat) : Prop := PCalls Tryz.prog 284 [.d (.sl (l.map encD)), .d (.v (.int .i64 i))] [] fun p s => (∃ g, p = gtP g ∧ GotR g (Qcs l n ⟨i, 0, 0⟩)) ∧ s = []
def AppG (l : List Tk) (n i : Nat) : Prop := PCalls Tryz.prog 238 [.d (.sl (l.map encD)), .d (.v (.int .i64 i))] [] fun p s => (∃ g, p = gtP g ∧ GotR g (appS l n ⟨i, 0, 0⟩)) ∧ s = []
theorem Qhz {l : List Tk} (hl : TkOk l) {i : Nat} {s : ByteArray} (h : Qbo (tkg l i) s = true) : i + 1 < l.length := tk_lt hl (Qgz h)
theorem typed_g {l : List Tk} (hl : TkOk l) (n i : Nat) (k a : Int) (hi : i < l.length) (IH : ∀ j, i < j → j < l.length → Qii l n j) : Qkl l (n + 1) k a i := by
  unfold Qkl
  have hlen := hl.len
  have HL := Hh hl
  have HIH := Hh IH
  have HR := Hh (show Qdp l (n + 1) k a ⟨i, 0, 0⟩ = (.mk k a (Qbs l (Qbk l sPar ⟨i, 0, 0⟩)).1 0 [(Qav l n (Qbk l sCol (Qbs l (Qbk l sPar ⟨i, 0, 0⟩)).2)).1, (Qav l n (Qbk l sArr (Qbk l sRap (Qav l n (Qbk l sCol (Qbs l (Qbk l sPar ⟨i, 0, 0⟩)).2)).2))).1], (Qav l n (Qbk l sArr (Qbk l sRap (Qav l n (Qbk l sCol (Qbs l (Qbk l sPar ⟨i, 0, 0⟩)).2)).2))).2) from by simp only [Qdp])
  generalize Qdp l (n + 1) k a ⟨i, 0, 0⟩ = R at *
  have HW1 := Hh (Qhg hl sPar ⟨zNd, i, 0, 0⟩ (fun _ => hi))
  unfold Qge at HW1
  rw [if_neg (by simp)] at HW1
  simp only at HW1
  clear hl IH
  cases c1 : Qbo (tkg l i) sPar with
  | false =>
    have hF : GotR ⟨zNd, i, 1, (tkg l i).at_⟩ R := by
      have hb : (⟨i, (tkg l i).at_, 1⟩ : ST).bad ≠ 0 := Qfq
      rw [HR.out, Qlt c1]
      simp only [var_bad hb, Qji hb, Qhw hb]
      exact .inr ⟨Qfq, rfl, rfl⟩
    have HF := Hh hF
    rw [c1, if_neg (by decide)] at HW1
    simp only [zNd, Qil, List.map_nil] at HW1
    unfold sPar at HW1
    rw [emp_b] at HW1
    clear hF HR c1 hi
    refine pG Tryz.func236 Tryz.ntmps236 ?_
    refine Je ?_
    intro b8 hb8
    try simp only [Ja, Rh, Rg, Jb] at hb8
    refine go_ ?_
    refine Qab (HW1.out) ?_
    refine Je ?_
    intro b9 hb9
    try simp only [Ja, Rh, Rg, Jb] at hb9
    refine go_ ?_
    refine Qaa ?_
    refine Qaa ?_
    refine rT Tryz.results236 ?_
    exact ⟨⟨_, rfl, HF.out⟩, rfl⟩
  | true =>
  have hi1 := Qhz HL.out c1
  rw [Qlu c1] at HR
  obtain ⟨i1, e1⟩ : ∃ i1, i1 = i + 1 := ⟨_, rfl⟩
  rw [← e1] at HR HW1 hi1
  have E1 := Hh e1
  clear e1
  rw [c1, if_pos rfl] at HW1
  simp only [zNd, Qil, List.map_nil] at HW1
  unfold sPar at HW1
  rw [emp_b] at HW1
  have HWD := Hh (gword_p HL.out i1)
  cases c2 : ((tkg l i1).kind == 1) with
  | false =>
    have hF : GotR ⟨zNd, i1, 1, (tkg l i1).at_⟩ R := by
      have hb : (⟨i1, (tkg l i1).at_, 1⟩ : ST).bad ≠ 0 := Qfq
      rw [HR.out, var_no c2]
      simp only [Qji hb, Qhw hb]
      exact .inr ⟨Qfq, rfl, rfl⟩
    have HF := Hh hF
    have HFL := Hh (Qks l i1 1 hi1)
    rw [c2] at HWD
    simp only [zNd, Qil, List.map_nil] at HFL
    clear hF HR c1 c2 hi hi1
    refine pG Tryz.func236 Tryz.ntmps236 ?_
    refine Je ?_
    intro b8 hb8
    try simp only [Ja, Rh, Rg, Jb] at hb8
    refine go_ ?_
    refine Qab (HW1.out) ?_
    refine Je ?_
    intro b9 hb9
    try simp only [Ja, Rh, Rg, Jb] at hb9
    refine go_ ?_
    refine Qaa ?_
    refine Qad (HWD.out) ?_
    refine Qab (HFL.out) ?_
    refine Qaa ?_
    refine rT Tryz.results236 ?_
    exact ⟨⟨_, rfl, HF.out⟩, rfl⟩
  | true =>
  have hi2 : i1 + 1 < l.length := tk_lt HL.out (by rw [beq_iff_eq.1 c2]; decide)
  rw [var_ok c2] at HR
  obtain ⟨i2, e2⟩ : ∃ i2, i2 = i1 + 1 := ⟨_, rfl⟩
  rw [← e2] at HR hi2
  have E2 := Hh e2
  clear e2
  simp only at HR
  rw [c2] at HWD
  have hx := Qit hi1
  have hc : (i1 : Int) < l.length := by omega
  have hn : (0 : Int) ≤ (i1 : Int) := by omega
  have hw1 : IntKind.i64.wrap ((i1 : Int) + 1) = (i2 : Int) := by rw [E2.out]; exact Qew (by omega)
  have HW2 := Hh (Qhg HL.out sCol ⟨zNd, i2, 0, 0⟩ (fun _ => hi2))
  unfold Qge at HW2
  rw [if_neg (by simp)] at HW2
  simp only at HW2
  cases c3 : Qbo (tkg l (i2)) sCol with
  | false =>
    have hF : GotR ⟨zNd, i2, 1, (tkg l (i2)).at_⟩ R := by
      have hb : (⟨i2, (tkg l i2).at_, 1⟩ : ST).bad ≠ 0 := Qfq
      rw [HR.out, Qlt c3]
      simp only [Qji hb, Qhw hb]
      exact .inr ⟨Qfq, rfl, rfl⟩
    have HF := Hh hF
    rw [c3, if_neg (by decide)] at HW2
    simp only [zNd, Qil, List.map_nil] at HW2
    unfold sCol at HW2
    rw [emp_b] at HW2
    clear hF HR c1 c2 c3 hi hi1 hi2
    refine pG Tryz.func236 Tryz.ntmps236 ?_
    refine Je ?_
    intro b8 hb8
    try simp only [Ja, Rh, Rg, Jb] at hb8
    refine go_ ?_
    refine Qab (HW1.out) ?_
    refine Je ?_
    intro b9 hb9
    try simp only [Ja, Rh, Rg, Jb] at hb9
    refine go_ ?_
    refine Qaa ?_
    refine Qad (HWD.out) ?_
    refine Je ?_
    intro b10 hb10
    try simp only [Ja, Rh, Rg, Jb] at hb10
    refine go_ ?_
    refine Qaa ?_
    refine Qaa ?_
    refine Qab (HW2.out) ?_
    refine Qaa ?_
    refine Qaa ?_
    refine rT Tryz.results236 ?_
    exact ⟨⟨_, rfl, HF.out⟩, rfl⟩
  | true =>
  have hi3 := Qhz HL.out c3
  rw [Qlu c3] at HR
  rw [c3, if_pos rfl] at HW2
  obtain ⟨i3, e3⟩ : ∃ i3, i3 = i2 + 1 := ⟨_, rfl⟩
  rw [← e3] at HR HW2 hi3
  have E3 := Hh e3
  clear e3
  simp only [zNd, Qil, List.map_nil] at HW2
  unfold sCol at HW2
  rw [emp_b] at HW2
  have HT1 := Hh (HIH.out i3 (by have := E1.out; have := E2.out; have := E3.out; omega) hi3)
  have HADV := Hh (And.intro (fun j (hj : j < l.length) => (Qet HL.out n).2.1 ⟨j, 0, 0⟩ hj) trivial : (∀ j, j < l.length → _) ∧ True)
  unfold Qii at HT1
  clear c1 c2 c3
  have HI3 := Hh hi3
  clear hi hi1 hi2 hi3
  refine pG Tryz.func236 Tryz.ntmps236 ?_
  refine Je ?_
  intro b8 hb8
  try simp only [Ja, Rh, Rg, Jb] at hb8
  refine go_ ?_
  refine Qab (HW1.out) ?_
  refine Je ?_
  intro b9 hb9
  try simp only [Ja, Rh, Rg, Jb] at hb9
  refine go_ ?_
  refine Qaa ?_
  refine Qad (HWD.out) ?_
  refine Je ?_
  intro b10 hb10
  try simp only [Ja, Rh, Rg, Jb] at hb10
  refine go_ ?_
  refine Qaa ?_
  refine Qaa ?_
  refine Qab (HW2.out) ?_
  refine Qaa ?_
  refine Qbz (HT1.out) ?_
  rintro _ ⟨ga, rfl, hRa⟩
  rcases hRa with ⟨ea, aa, hxa⟩ | ⟨ea, ea2, aa⟩
  · obtain ⟨na, ja, ea', aa'⟩ := ga
    simp only at ea aa hxa
    subst ea aa
    have hja : ja < l.length := by
      have := (HADV.out.1 _ HI3.out).1
      rw [hxa] at this
      exact this
    rw [hxa] at HR
    simp only at HR
    have HW3 := Hh (Qhg HL.out sRap ⟨na, ja, 0, 0⟩ (fun _ => hja))
    unfold Qge at HW3
    rw [if_neg (by simp)] at HW3
    simp only at HW3
    have HXA := Hh hxa
    clear hxa HT1
    cases c4 : Qbo (tkg l ja) sRap with
    | false =>
      have hF : GotR ⟨zNd, ja, 1, (tkg l ja).at_⟩ R := by
        have hb : (⟨ja, (tkg l ja).at_, 1⟩ : ST).bad ≠ 0 := Qfq
        rw [HR.out, Qlt c4]
        simp only [Qji hb, Qhw hb]
        exact .inr ⟨Qfq, rfl, rfl⟩
      have HF := Hh hF
      rw [c4, if_neg (by decide)] at HW3
      have HW4 := Hh (Qhg HL.out sArr ⟨zNd, ja, 1, (tkg l ja).at_⟩ (fun h => by cases h))
      unfold Qge at HW4
      rw [if_pos (by simp)] at HW4
      simp only [gtP, zNd, Nd.kind, Nd.at, Nd.name, Nd.num, Nd.sub, List.map_nil] at HW3 HW4 ⊢
      unfold sRap at HW3
      unfold sArr at HW4
      clear hF HR c4 hja
      refine go_ ?_
      refine Je ?_
      intro b11 hb11
      try simp only [Ja, Rh, Rg, Jb] at hb11
      refine go_ ?_
      refine Qaa ?_
      refine Qab (HW3.out) ?_
      refine Qab (HW4.out) ?_
      refine Je ?_
      intro b12 hb12
      try simp only [Ja, Rh, Rg, Jb] at hb12
      refine go_ ?_
      refine Qaa ?_
      refine Qaa ?_
      refine rT Tryz.results236 ?_
      exact ⟨⟨_, rfl, HF.out⟩, rfl⟩
    | true =>
    have hj1 := Qhz HL.out c4
    rw [Qlu c4] at HR
    rw [c4, if_pos rfl] at HW3
    obtain ⟨j1, f1⟩ : ∃ j1, j1 = ja + 1 := ⟨_, rfl⟩
    rw [← f1] at HR HW3 hj1
    have F1 := Hh f1
    clear f1
    have HW4 := Hh (Qhg HL.out sArr ⟨na, j1, 0, 0⟩ (fun _ => hj1))
    unfold Qge at HW4
    rw [if_neg (by simp)] at HW4
    simp only at HW4
    cases c5 : Qbo (tkg l j1) sArr with
    | false =>
      have hF : GotR ⟨zNd, j1, 1, (tkg l j1).at_⟩ R := by
        have hb : (⟨j1, (tkg l j1).at_, 1⟩ : ST).bad ≠ 0 := Qfq
        rw [HR.out, Qlt c5]
        simp only [Qhw hb]
        exact .inr ⟨Qfq, rfl, rfl⟩
      have HF := Hh hF
      rw [c5, if_neg (by decide)] at HW4
      simp only [gtP, zNd, Nd.kind, Nd.at, Nd.name, Nd.num, Nd.sub, List.map_nil] at HW3 HW4 ⊢
      unfold sRap at HW3
      unfold sArr at HW4
      clear hF HR c4 c5 hja hj1
      refine go_ ?_
      refine Je ?_
      intro b11 hb11
      try simp only [Ja, Rh, Rg, Jb] at hb11
      refine go_ ?_
      refine Qaa ?_
      refine Qab (HW3.out) ?_
      refine Qab (HW4.out) ?_
      refine Je ?_
      intro b12 hb12
      try simp only [Ja, Rh, Rg, Jb] at hb12
      refine go_ ?_
      refine Qaa ?_
      refine Qaa ?_
      refine rT Tryz.results236 ?_
      exact ⟨⟨_, rfl, HF.out⟩, rfl⟩
    | true =>
    have hj2 := Qhz HL.out c5
    rw [Qlu c5] at HR
    rw [c5, if_pos rfl] at HW4
    obtain ⟨j2, f2⟩ : ∃ j2, j2 = j1 + 1 := ⟨_, rfl⟩
    rw [← f2] at HR HW4 hj2
    have F2 := Hh f2
    clear f2
    have hij : i < j2 := by
      have h1 := (HADV.out.1 _ HI3.out)
      have h2 := h1.2
      rw [show Qav l n ⟨i3, 0, 0⟩ = (na, ⟨ja, 0, 0⟩) from HXA.out] at h2
      have h3 := (h2 rfl).2
      simp only at h3
      have := E1.out; have := E2.out; have := E3.out; have := F1.out; have := F2.out
      omega
    have HT2 := Hh (HIH.out (j2) hij hj2)
    unfold Qii at HT2
    simp only [gtP] at HW3 HW4 ⊢
    unfold sRap at HW3
    unfold sArr at HW4
    clear c4 c5 hja hj1 hj2 hij
    refine go_ ?_
    refine Je ?_
    intro b11 hb11
    try simp only [Ja, Rh, Rg, Jb] at hb11
    refine go_ ?_
    refine Qaa ?_
    refine Qab (HW3.out) ?_
    refine Qab (HW4.out) ?_
    refine Je ?_
    intro b12 hb12
    try simp only [Ja, Rh, Rg, Jb] at hb12
    refine go_ ?_
    refine Qaa ?_
    refine Qbz (HT2.out) ?_
    rintro _ ⟨gc, rfl, hRc⟩
    obtain ⟨nc, jc, ec, ac⟩ := gc
    have hF : GotR ⟨.mk k a (tkg l i1).text 0 [na, nc], jc, ec, ac⟩ R := by
      rw [HR.out]
      rcases hRc with ⟨h1, h2, h3⟩ | ⟨h1, h2, h3⟩
      · simp only at h1 h2 h3
        exact .inl ⟨h1, h2, by rw [h3]⟩
      · exact .inr ⟨h1, h2, h3⟩
    have HF := Hh hF
    clear hF hRc HR
    simp only [gtP]
    refine go_ ?_
    refine Je ?_
    intro b13 hb13
    try simp only [Ja, Rh, Rg, Jb] at hb13
    refine go_ ?_
    refine Qaa ?_
    refine Qao ?_
    refine Qaa ?_
    refine Qaa ?_
    refine Qaa ?_
    refine rT Tryz.results236 ?_
    exact ⟨⟨⟨.mk k a (tkg l i1).text 0 [na, nc], jc, ec, ac⟩, by simp only [Nd.kind, Nd.at, Nd.name, Nd.num, Nd.sub, List.map_cons, List.map_nil, Jh]; rfl, HF.out⟩, rfl⟩
  · have hF : GotR ga R := by
      have hb : (Qav l n ⟨i3, 0, 0⟩).2.bad ≠ 0 := by rw [ea2]; exact ea
      rw [HR.out]
      simp only [Qji hb, Qhw hb]
      exact .inr ⟨ea, ea2, aa⟩
    have HF := Hh hF
    have HW3 := Hh (Qhg HL.out sRap ga (fun h => absurd h ea))
    have HW4 := Hh (Qhg HL.out sArr ga (fun h => absurd h ea))
    unfold Qge at HW3 HW4
    rw [if_pos ea] at HW3 HW4
    have heb : (ga.e != 0) = true := bne_iff_ne.2 ea
    simp only [gtP] at HW3 HW4 ⊢
    unfold sRap at HW3
    unfold sArr at HW4
    clear hF HR ea ea2 aa HT1
    refine go_ ?_
    refine Je ?_
    intro b11 hb11
    try simp only [Ja, Rh, Rg, Jb] at hb11
    refine go_ ?_
    refine Qaa ?_
    refine Qab (HW3.out) ?_
    refine Qab (HW4.out) ?_
    refine Je ?_
    intro b12 hb12
    try simp only [Ja, Rh, Rg, Jb] at hb12
    refine go_ ?_
    refine Qaa ?_
    refine Qaa ?_
    refine rT Tryz.results236 ?_
    exact ⟨⟨_, rfl, HF.out⟩, rfl⟩
theorem got_ok (nd : Nd) (i : Nat) : GotR ⟨nd, i, 0, 0⟩ (nd, ⟨i, 0, 0⟩) := .inl ⟨rfl, rfl, rfl⟩
theorem got_no (nd x : Nd) (i j : Nat) (a : Int) : GotR ⟨nd, i, 1, a⟩ (x, ⟨j, a, 1⟩) := .inr ⟨Qfq, rfl, rfl⟩
theorem atom_g {l : List Tk} (hl : TkOk l) (n i : Nat) (hi : i < l.length) (IH : i + 1 < l.length → Qii l n (i + 1)) : AtomG l (n + 1) i := by
  unfold AtomG
  have hlen := hl.len
  have HL := Hh hl
  have HIH := Hh IH
  have HR := Hh (show Qcs l (n + 1) ⟨i, 0, 0⟩ = (if Qbo (tkg l i) sSet = true then setS l ⟨i, 0, 0⟩ else if Qbo (tkg l i) sPar = true then ((Qav l n ⟨i + 1, 0, 0⟩).1, Qbk l sRap (Qav l n ⟨i + 1, 0, 0⟩).2) else (.mk 1 (tkg l i).at_ (Qdl l ⟨i, 0, 0⟩).1 0 [], (Qdl l ⟨i, 0, 0⟩).2)) by rw [Qcs, if_neg (by simp)]; rfl)
  generalize Qcs l (n + 1) ⟨i, 0, 0⟩ = R at *
  have H1 := Hh (gis_p hl i sSet)
  have H2 := Hh (gis_p hl i sPar)
  have H3 := Hh (gnamed_p hl i)
  have HF0 := Hh (Qks l i 1 hi)
  simp only [zNd, Qil, List.map_nil] at HF0
  have hx := Qit hi
  have hc : (i : Int) < l.length := by omega
  have hn : (0 : Int) ≤ i := by omega
  obtain ⟨i1, e1⟩ : ∃ i1, i1 = i + 1 := ⟨_, rfl⟩
  have hw1 : IntKind.i64.wrap ((i : Int) + 1) = (i1 : Int) := by rw [e1]; exact Qew (by omega)
  have hw2 : IntKind.i64.wrap ((i : Int) + 2) = ((i1 + 1 : Nat) : Int) := by
    rw [e1, show ((i + 1 + 1 : Nat) : Int) = (i : Int) + 2 by omega]; exact wrM (by omega) (by omega)
  have hti : (tkg l i).at_ = (tkg l i).at_ := rfl
  cases c1 : Qbo (tkg l i) sSet with
  | true =>
    have hi1 := Qhz hl c1
    rw [← e1] at hi1
    rw [c1, if_pos rfl] at HR
    rw [c1] at H1
    unfold sSet at H1
    have hx1 := Qit hi1
    have hc1 : (i1 : Int) < l.length := by omega
    have hn1 : (0 : Int) ≤ i1 := by omega
    have HN := Hh (Qnn (tkg l i1).text)
    have HF1 := Hh (Qks l i1 1 hi1)
    simp only [zNd, Qil, List.map_nil] at HF1
    have HS : Hid (setS l ⟨i, 0, 0⟩ = if ((tkg l i1).kind == 3) = true then (.mk 2 (tkg l i).at_ ⟨#[]⟩ (numT (tkg l i1).text) [], incS (if 7 < numT (tkg l i1).text then Qby 1 (tkg l i1).at_ ⟨i1, 0, 0⟩ else ⟨i1, 0, 0⟩)) else (.mk 2 (tkg l i).at_ ⟨#[]⟩ 0 [], ⟨i1, 0, 0⟩)) := by
      show _ = _
      rw [e1]; rfl
    rw [HS.out] at HR
    by_cases c2 : (tkg l i1).kind = 3
    · have c2b : ((tkg l i1).kind != 3) = false := by rw [c2]; rfl
      rw [if_pos (by rw [c2]; rfl)] at HR
      by_cases c3 : 7 < numT (tkg l i1).text
      · rw [if_pos c3] at HR
        have hF : GotR ⟨zNd, i1, 1, (tkg l i1).at_⟩ R := by rw [HR.out]; exact .inr ⟨Qfq, rfl, rfl⟩
        have HG := Hh hF
        generalize numT (tkg l i1).text = v at *
        generalize tkg l i = t0 at *
        generalize tkg l i1 = t1 at *
        clear HS HR hF e1 hi hi1 c1 c2 H2 H3 hl IH
        refine pG Tryz.func284 Tryz.ntmps284 ?_
        refine Je ?_
        intro b4 hb4
        try simp only [Ja, Rh, Rg, Jb] at hb4
        refine go_ ?_
        refine Qab (H1.out) ?_
        refine Je ?_
        intro b5 hb5
        try simp only [Ja, Rh, Rg, Jb] at hb5
        refine go_ ?_
        refine Qaa ?_
        refine Qab (HN.out) ?_
        refine Qab (HF1.out) ?_
        refine Qaa ?_
        refine rT Tryz.results284 ?_
        exact ⟨⟨_, rfl, HG.out⟩, rfl⟩
      · rw [if_neg c3] at HR
        have hF : GotR ⟨.mk 2 (tkg l i).at_ ⟨#[]⟩ (numT (tkg l i1).text) [], i1 + 1, 0, 0⟩ R := by rw [HR.out]; exact got_ok _ _
        have HG := Hh hF
        generalize numT (tkg l i1).text = v at *
        generalize tkg l i = t0 at *
        generalize tkg l i1 = t1 at *
        clear HS HR hF e1 hi hi1 c1 c2 H2 H3 hl IH
        refine pG Tryz.func284 Tryz.ntmps284 ?_
        refine Je ?_
        intro b4 hb4
        try simp only [Ja, Rh, Rg, Jb] at hb4
        refine go_ ?_
        refine Qab (H1.out) ?_
        refine Je ?_
        intro b5 hb5
        try simp only [Ja, Rh, Rg, Jb] at hb5
        refine go_ ?_
        refine Qaa ?_
        refine Qab (HN.out) ?_
        refine Qaa ?_
        refine Qaa ?_
        refine rT Tryz.results284 ?_
        exact ⟨⟨_, rfl, HG.out⟩, rfl⟩
    · have c2b : ((tkg l i1).kind != 3) = true := bne_iff_ne.2 c2
      rw [if_neg (by rw [beq_iff_eq]; exact c2)] at HR
      have hF : GotR ⟨.mk 2 (tkg l i).at_ ⟨#[]⟩ 0 [], i1, 0, 0⟩ R := by rw [HR.out]; exact got_ok _ _
      have HG := Hh hF
      generalize tkg l i = t0 at *
      generalize tkg l i1 = t1 at *
      clear HS HR hF e1 hi hi1 c1 c2 H2 H3 hl IH HN HF1
      refine pG Tryz.func284 Tryz.ntmps284 ?_
      refine Je ?_
      intro b4 hb4
      try simp only [Ja, Rh, Rg, Jb] at hb4
      refine go_ ?_
      refine Qab (H1.out) ?_
      refine Je ?_
      intro b5 hb5
      try simp only [Ja, Rh, Rg, Jb] at hb5
      refine go_ ?_
      refine Qaa ?_
      refine Qaa ?_
      refine rT Tryz.results284 ?_
      exact ⟨⟨_, rfl, HG.out⟩, rfl⟩
  | false =>
  rw [c1, if_neg (by decide)] at HR
  rw [c1] at H1
  unfold sSet at H1
  cases c2 : Qbo (tkg l i) sPar with
  | true =>
    have hi1 := Qhz hl c2
    have HT := Hh (IH hi1)
    have HADV := Hh ((Qet hl n).2.1 ⟨i + 1, 0, 0⟩ hi1)
    rw [c2, if_pos rfl] at HR
    rw [c2] at H2
    unfold sPar at H2
    unfold Qii at HT
    rw [← e1] at HT HADV HR
    clear c1 c2 hi hi1 e1 H3 HF0 IH hl
    generalize hT : Qav l n ⟨i1, 0, 0⟩ = T at *
    clear hT
    refine pG Tryz.func284 Tryz.ntmps284 ?_
    refine Je ?_
    intro b4 hb4
    try simp only [Ja, Rh, Rg, Jb] at hb4
    refine go_ ?_
    refine Qab (H1.out) ?_
    refine Qab (H2.out) ?_
    refine Qbz (HT.out) ?_
    rintro _ ⟨ga, rfl, hRa⟩
    rcases hRa with ⟨ea, aa, hxa⟩ | ⟨ea, ea2, aa⟩
    · obtain ⟨na, ja, ea', aa'⟩ := ga
      simp only at ea aa hxa
      subst ea aa hxa
      have hja : ja < l.length := HADV.out.1
      have HW := Hh (Qhg HL.out sRap ⟨na, ja, 0, 0⟩ (fun _ => hja))
      have hF : GotR (Qge l sRap ⟨na, ja, 0, 0⟩) R := by
        rw [HR.out]
        unfold Qge
        rw [if_neg (by simp)]
        simp only
        cases c4 : Qbo (tkg l ja) sRap with
        | true => rw [if_pos rfl, Qlu c4]; exact got_ok _ _
        | false => rw [if_neg (by decide), Qlt c4]; exact got_no _ _ _ _ _
      have HG := Hh hF
      generalize Qge l sRap ⟨na, ja, 0, 0⟩ = g2 at *
      obtain ⟨⟨k2, a2, s2, m2, u2⟩, j2, e2, t2⟩ := g2
      simp only [gtP, Nd.kind, Nd.at, Nd.name, Nd.num, Nd.sub] at HW ⊢
      unfold sRap at HW
      clear hF HR HADV hja HT
      refine go_ ?_
      refine Qab (HW.out) ?_
      refine Qaa ?_
      refine rT Tryz.results284 ?_
      exact ⟨⟨_, rfl, HG.out⟩, rfl⟩
    · have hb : T.2.bad ≠ 0 := by rw [ea2]; exact ea
      have hF : GotR ga R := by
        rw [HR.out, Qji hb]
        exact .inr ⟨ea, ea2, aa⟩
      have HG := Hh hF
      have HW := Hh (Qhg HL.out sRap ga (fun h => absurd h ea))
      unfold Qge at HW
      rw [if_pos ea] at HW
      simp only [gtP] at HW ⊢
      unfold sRap at HW
      clear hF HR HADV HT hb ea ea2 aa
      refine go_ ?_
      refine Qab (HW.out) ?_
      refine Qaa ?_
      refine rT Tryz.results284 ?_
      exact ⟨⟨ga, rfl, HG.out⟩, rfl⟩
  | false =>
  rw [c2, if_neg (by decide)] at HR
  rw [c2] at H2
  unfold sPar at H2
  cases c3 : Qfp (tkg l i) with
  | false =>
    rw [name_no c3] at HR
    have hF : GotR ⟨zNd, i, 1, (tkg l i).at_⟩ R := by rw [HR.out]; exact got_no _ _ _ _ _
    have HG := Hh hF
    rw [c3] at H3
    generalize tkg l i = t0 at *
    clear hF HR c1 c2 c3 hi e1 hl IH
    refine pG Tryz.func284 Tryz.ntmps284 ?_
    refine Je ?_
    intro b4 hb4
    try simp only [Ja, Rh, Rg, Jb] at hb4
    refine go_ ?_
    refine Qab (H1.out) ?_
    refine Qab (H2.out) ?_
    refine Qab (H3.out) ?_
    refine Qab (HF0.out) ?_
    refine Qaa ?_
    refine rT Tryz.results284 ?_
    exact ⟨⟨_, rfl, HG.out⟩, rfl⟩
  | true =>
    rw [name_ok c3] at HR
    have hF : GotR ⟨.mk 1 (tkg l i).at_ (tkg l i).text 0 [], i1, 0, 0⟩ R := by rw [HR.out, e1]; exact got_ok _ _
    have HG := Hh hF
    rw [c3] at H3
    generalize tkg l i = t0 at *
    clear hF HR c1 c2 c3 hi e1 hl IH
    refine pG Tryz.func284 Tryz.ntmps284 ?_
    refine Je ?_
    intro b4 hb4
    try simp only [Ja, Rh, Rg, Jb] at hb4
    refine go_ ?_
    refine Qab (H1.out) ?_
    refine Qab (H2.out) ?_
    refine Qab (H3.out) ?_
    refine Qal [(0, .a), (1, .a), (2, .a), (3, .a), (4, .a), (5, .a), (6, .a), (7, .a), (8, .a), (9, .a), (10, .a), (11, .a), (12, .a), (13, .a), (14, .e)] (by kernel_rfl) (by rfl) (by kernel_rfl) ?_
    refine go_ ?_
    refine Qck ?_
    refine go_ ?_
    refine rT Tryz.results284 ?_
    exact ⟨⟨_, rfl, HG.out⟩, rfl⟩
theorem appL_bad {l : List Tk} {n : Nat} {g : Nd} {σ : ST} (h : σ.bad ≠ 0) : appL l n g σ = (g, σ) := by
 cases n with
 | zero => rfl
 | succ n => rw [appL, if_neg (fun e => h e.1)]
theorem atom_adv1 {l : List Tk} (hl : TkOk l) {m j q : Nat} (hm : 0 < m) (hj : j < l.length) {x : Nd} (h : Qcs l m ⟨j, 0, 0⟩ = (x, ⟨q, 0, 0⟩)) : j + 1 ≤ q ∧ q < l.length := by
 have h1 := ((Qet hl m).2.2.1 ⟨j, 0, 0⟩ hj).2 hm
 rw [h] at h1
 exact ⟨(h1.2 rfl).2, h1.1⟩
def AppI (l : List Tk) (R : Nd × ST) (i k : Nat) (g : Gt) (m : Nat) : Prop :=
 (g.e = 0 ∧ g.at_ = 0 ∧ appL l m g.nd ⟨g.i, 0, 0⟩ = R ∧ g.i < l.length ∧ i + k + 1 ≤ g.i ∧ 6 * (l.length - g.i) + 10 ≤ m) ∨ (g.e ≠ 0 ∧ R.2.bad = g.e ∧ R.2.at_ = g.at_)
theorem AppI.res {l : List Tk} {R : Nd × ST} {i k : Nat} {g : Gt} {m : Nat} (h : AppI l R i k g m) (hb : g.e = 0 → Qgj l ⟨g.i, 0, 0⟩ = false) : GotR g R := by
 rcases h with ⟨h1, h2, h3, h4, h5, h6⟩ | h
 ·refine .inl ⟨h1, h2, ?_⟩
  rw [← h3]
  cases m with
  | zero => rfl
  | succ m => rw [appL, if_neg (by rw [hb h1]; simp)]
 ·exact .inr h
theorem AppI.step {l : List Tk} (hl : TkOk l) {R : Nd × ST} {i k : Nat} {nd : Nd} {j : Nat} {m : Nat} {ga : Gt} (h : AppI l R i k ⟨nd, j, 0, 0⟩ (m + 1)) (hb : Qgj l ⟨j, 0, 0⟩ = true) (hg : GotR ga (Qcs l m ⟨j, 0, 0⟩)) : AppI l R i (k + 1) ⟨.mk 5 nd.at ⟨#[]⟩ 0 [nd, ga.nd], ga.i, ga.e, ga.at_⟩ m := by
 rcases h with ⟨-, -, h3, h4, h5, h6⟩ | ⟨h, -⟩
 ·simp only at h3 h4 h5 h6
  rw [appL, if_pos ⟨rfl, hb⟩] at h3
  simp only at h3
  rcases hg with ⟨g1, g2, g3⟩ | ⟨g1, g2, g3⟩
  ·have hm : 0 < m := by omega
   obtain ⟨h7, h8⟩ := atom_adv1 hl hm h4 g3
   rw [g3] at h3
   refine .inl ⟨g1, g2, h3, h8, ?_, ?_⟩
   ·show i + (k + 1) + 1 ≤ ga.i
    omega
   ·show 6 * (l.length - ga.i) + 10 ≤ m
    omega
  ·have hbad : (Qcs l m ⟨j, 0, 0⟩).2.bad ≠ 0 := by rw [g2]; exact g1
   rw [appL_bad hbad] at h3
   refine .inr ⟨g1, ?_, ?_⟩
   ·rw [← h3]; exact g2
   ·rw [← h3]; exact g3
 ·exact absurd rfl h
theorem app_g {l : List Tk} (hl : TkOk l) (n i : Nat) (hi : i < l.length) (hf : 6 * (l.length - i) + 5 ≤ n + 1) (IA : ∀ m, m ≤ n → ∀ j, j < l.length → 6 * (l.length - j) + 3 ≤ m → AtomG l m j) : AppG l (n + 1) i := by
  unfold AppG
  have hlen := hl.len
  have HL := Hh hl
  have HIA := Hh IA
  have HR := Hh (show appS l (n + 1) ⟨i, 0, 0⟩ = appL l n (Qcs l n ⟨i, 0, 0⟩).1 (Qcs l n ⟨i, 0, 0⟩).2 by rw [appS])
  generalize appS l (n + 1) ⟨i, 0, 0⟩ = R at *
  have HA0 := Hh (IA n (Nat.le_refl _) i hi (by omega))
  unfold AtomG at HA0
  have HS0 : Hid (∀ g, GotR g (Qcs l n ⟨i, 0, 0⟩) → AppI l R i 0 g n) := fun g hg => by
    rcases hg with ⟨g1, g2, g3⟩ | ⟨g1, g2, g3⟩
    · have h1 := atom_adv1 hl (by omega) hi g3
      have h3 := HR.out
      rw [g3] at h3
      exact .inl ⟨g1, g2, h3.symm, h1.2, by omega, by omega⟩
    · have hbad : (Qcs l n ⟨i, 0, 0⟩).2.bad ≠ 0 := by rw [g2]; exact g1
      have h3 := HR.out
      rw [appL_bad hbad] at h3
      exact .inr ⟨g1, by rw [h3]; exact g2, by rw [h3]; exact g3⟩
  clear hl IA HR hi hf
  refine pG Tryz.func238 Tryz.ntmps238 ?_
  refine Je ?_
  intro b4 hb4
  try simp only [Ja, Rh, Rg, Jb] at hb4
  refine go_ ?_
  refine Qbz (HA0.out) ?_
  rintro _ ⟨g0, rfl, hR0⟩
  have HI0 := Hh (HS0.out g0 hR0)
  clear hR0 HS0 HA0
  simp only [gtP]
  refine go_ ?_
  refine Je ?_
  intro b5 hb5
  try simp only [Ja, Rh, Rg, Jb] at hb5
  refine go_ ?_
  refine Qaa ?_
  refine Qai (ι := Nat × Gt × Nat) (fun y => (y.1 ≤ l.length ∧ y.2.2 ≤ n) ∧ Hid (AppI l R i y.1 y.2.1 y.2.2)) (fun y => [(0, .d (.sl (l.map encD))), (4, .ptr b4 0), (5, .ptr b5 0), (6, .d (.v (.int .i64 (y.1 : Int))))]) (fun y => [.box b5 170 [.d (.v (.int .i64 y.2.1.nd.kind)), .d (.v (.int .i64 y.2.1.nd.at)), .d (.v (.string y.2.1.nd.name)), .d (.v (.int .i64 y.2.1.nd.num)), .d (.sl (y.2.1.nd.sub.map encD)), .d (.v (.int .i64 y.2.1.i)), .d (.v (.int .i64 y.2.1.e)), .d (.v (.int .i64 y.2.1.at_))], .box b4 170 [.d (.v (.int .i64 0)), .d (.v (.int .i64 0)), .d (.v (.string ⟨#[]⟩)), .d (.v (.int .i64 0)), .nils, .d (.v (.int .i64 0)), .d (.v (.int .i64 0)), .d (.v (.int .i64 0))]]) (fun y => l.length - y.1) (0, g0, n) ⟨⟨Nat.zero_le _, Nat.le_refl _⟩, HI0.out⟩ ?_ ?_ ?_
  · exact sU
  · exact dR
  rintro ⟨k, ⟨nd, j, e, at_⟩, m⟩ ⟨⟨hk, hmn⟩, HI⟩
  simp only at hk hmn HI ⊢
  clear HI0
  by_cases he : e = 0
  rotate_left
  · have HG := Hh (HI.out.res (fun h => absurd h he))
    have heb : (e == 0) = false := beq_false_of_ne he
    clear HI he
    by_cases hkl : k < l.length
    · have hc : (k : Int) < l.length := by omega
      refine go_ ?_
      refine Qaa ?_
      refine rT Tryz.results238 ?_
      exact ⟨⟨_, rfl, HG.out⟩, rfl⟩
    · have hc : ¬ (k : Int) < l.length := by omega
      refine go_ ?_
      refine Qaa ?_
      refine rT Tryz.results238 ?_
      exact ⟨⟨_, rfl, HG.out⟩, rfl⟩
  subst he
  have hat : at_ = 0 := by
    rcases HI.out with ⟨-, h, -⟩ | ⟨h, -⟩
    · exact h
    · exact absurd rfl h
  subst hat
  have hpos : i + k + 1 ≤ j ∧ j < l.length ∧ 6 * (l.length - j) + 10 ≤ m := by
    rcases HI.out with ⟨-, -, -, h4, h5, h6⟩ | ⟨h, -⟩
    · exact ⟨h5, h4, h6⟩
    · exact absurd rfl h
  obtain ⟨hp1, hp2, hp3⟩ := hpos
  have hc : (k : Int) < l.length := by omega
  have hin : IntKind.i64.wrap ((k : Int) + 1) = ((k + 1 : Nat) : Int) := Qew (by omega)
  have hkn := Hh (show k + 1 ≤ l.length ∧ l.length - (k + 1) < l.length - k by omega)
  obtain ⟨m, rfl⟩ : ∃ m', m = m' + 1 := ⟨m - 1, by omega⟩
  have H1 := Hh (gnamed_p HL.out j)
  have H2 := Hh (gis_p HL.out j sSet)
  have H3 := Hh (gis_p HL.out j sPar)
  have H4 := Hh (gbinder_p HL.out j (by omega))
  have HB := Hh (show Qgj l ⟨j, 0, 0⟩ = (Qfp (tkg l j) || Qbo (tkg l j) sSet || (Qbo (tkg l j) sPar && !Qef l ⟨j, 0, 0⟩)) from rfl)
  unfold sSet at H2
  unfold sPar at H3
  have HGO := Hh (fun (hb : Qgj l ⟨j, 0, 0⟩ = true) (ga : Gt) hg => HI.out.step HL.out (ga := ga) hb hg)
  have HST := Hh (fun (hb : Qgj l ⟨j, 0, 0⟩ = false) => HI.out.res (fun _ => hb))
  have HAT := Hh (HIA.out m (by omega) j hp2 (by omega))
  have HA : Hid True := trivial
  have HMN := Hh (show m ≤ n by omega)
  generalize Qgj l ⟨j, 0, 0⟩ = bg at *
  unfold sSet sPar at HB
  generalize Qef l ⟨j, 0, 0⟩ = n4 at *
  generalize Qbo (tkg l j) ⟨#[83, 101, 116]⟩ = n2 at *
  generalize Qbo (tkg l j) ⟨#[40]⟩ = n3 at *
  generalize Qfp (tkg l j) = n1 at *
  cases n1 with
  | true =>
    obtain rfl : bg = true := HB.out
    have HA1 := Hh (HAT.out)
    unfold AtomG at HA1
    have HG2 := Hh (HGO.out rfl)
    clear HGO HST HA HI HAT hp1 hp2 hp3
    refine go_ ?_
    refine Qad (H1.out) ?_
    refine Qbz (HA1.out) ?_
    rintro _ ⟨ga, rfl, hRa⟩
    have HN := Hh (HG2.out ga hRa)
    obtain ⟨na, ja, ea, aa⟩ := ga
    clear hRa HG2
    simp only [gtP]
    refine go_ ?_
    refine Je ?_
    intro b7 hb7
    try simp only [Ja, Rh, Rg, Jb] at hb7
    refine go_ ?_
    refine Qaa ?_
    refine Qao ?_
    refine Qaa ?_
    refine Qaa ?_
    refine ⟨(k + 1, ⟨.mk 5 nd.at ⟨#[]⟩ 0 [nd, na], ja, ea, aa⟩, m), ⟨⟨hkn.out.1, HMN.out⟩, HN.out⟩, hkn.out.2, ?_, ?_⟩
    · exact sU
    · simp only [Nd.kind, Nd.at, Nd.name, Nd.num, Nd.sub, List.map_cons, List.map_nil, Jh]
      exact dR
  | false =>
  cases n2 with
  | true =>
    obtain rfl : bg = true := HB.out
    have HA1 := Hh (HAT.out)
    unfold AtomG at HA1
    have HG2 := Hh (HGO.out rfl)
    clear HGO HST HA HI HAT hp1 hp2 hp3
    refine go_ ?_
    refine Qad (H1.out) ?_
    refine Qad (H2.out) ?_
    refine Qbz (HA1.out) ?_
    rintro _ ⟨ga, rfl, hRa⟩
    have HN := Hh (HG2.out ga hRa)
    obtain ⟨na, ja, ea, aa⟩ := ga
    clear hRa HG2
    simp only [gtP]
    refine go_ ?_
    refine Je ?_
    intro b7 hb7
    try simp only [Ja, Rh, Rg, Jb] at hb7
    refine go_ ?_
    refine Qaa ?_
    refine Qao ?_
    refine Qaa ?_
    refine Qaa ?_
    refine ⟨(k + 1, ⟨.mk 5 nd.at ⟨#[]⟩ 0 [nd, na], ja, ea, aa⟩, m), ⟨⟨hkn.out.1, HMN.out⟩, HN.out⟩, hkn.out.2, ?_, ?_⟩
    · exact sU
    · simp only [Nd.kind, Nd.at, Nd.name, Nd.num, Nd.sub, List.map_cons, List.map_nil, Jh]
      exact dR
  | false =>
  cases n3 with
  | false =>
    obtain rfl : bg = false := HB.out
    have HG2 := Hh (HST.out rfl)
    clear HGO HST HA HI HAT hp1 hp2 hp3
    refine go_ ?_
    refine Qad (H1.out) ?_
    refine Qad (H2.out) ?_
    refine Qad (H3.out) ?_
    refine Qaa ?_
    refine rT Tryz.results238 ?_
    exact ⟨⟨_, rfl, HG2.out⟩, rfl⟩
  | true =>
  cases n4 with
  | false =>
    obtain rfl : bg = true := HB.out
    have HA1 := Hh (HAT.out)
    unfold AtomG at HA1
    have HG2 := Hh (HGO.out rfl)
    clear HGO HST HA HI HAT hp1 hp2 hp3
    refine go_ ?_
    refine Qad (H1.out) ?_
    refine Qad (H2.out) ?_
    refine Qad (H3.out) ?_
    refine Qad (H4.out) ?_
    refine Qbz (HA1.out) ?_
    rintro _ ⟨ga, rfl, hRa⟩
    have HN := Hh (HG2.out ga hRa)
    obtain ⟨na, ja, ea, aa⟩ := ga
    clear hRa HG2
    simp only [gtP]
    refine go_ ?_
    refine Je ?_
    intro b7 hb7
    try simp only [Ja, Rh, Rg, Jb] at hb7
    refine go_ ?_
    refine Qaa ?_
    refine Qao ?_
    refine Qaa ?_
    refine Qaa ?_
    refine ⟨(k + 1, ⟨.mk 5 nd.at ⟨#[]⟩ 0 [nd, na], ja, ea, aa⟩, m), ⟨⟨hkn.out.1, HMN.out⟩, HN.out⟩, hkn.out.2, ?_, ?_⟩
    · exact sU
    · simp only [Nd.kind, Nd.at, Nd.name, Nd.num, Nd.sub, List.map_cons, List.map_nil, Jh]
      exact dR
  | true =>
    obtain rfl : bg = false := HB.out
    have HG2 := Hh (HST.out rfl)
    clear HGO HST HA HI HAT hp1 hp2 hp3
    refine go_ ?_
    refine Qad (H1.out) ?_
    refine Qad (H2.out) ?_
    refine Qad (H3.out) ?_
    refine Qad (H4.out) ?_
    refine Qaa ?_
    refine rT Tryz.results238 ?_
    exact ⟨⟨_, rfl, HG2.out⟩, rfl⟩
theorem term_g {l : List Tk} (hl : TkOk l) (n i : Nat) (hi : i < l.length) (IT1 : i + 1 < l.length → Qkl l n 4 (tkg l i).at_ (i + 1)) (IT2 : Qkl l n 3 (tkg l i).at_ i) (IP : AppG l n i) (IH : ∀ j, i < j → j < l.length → Qii l n j) (hn0 : 0 < n) : Qii l (n + 1) i := by
  unfold Qii
  have hlen := hl.len
  have HL := Hh hl
  have HIH := Hh IH
  have HR := Hh (show Qav l (n + 1) ⟨i, 0, 0⟩ = (if Qbo (tkg l i) sLam = true then Qdp l n 4 (tkg l i).at_ ⟨i + 1, 0, 0⟩ else if Qef l ⟨i, 0, 0⟩ = true then Qdp l n 3 (tkg l i).at_ ⟨i, 0, 0⟩ else
      if (appS l n ⟨i, 0, 0⟩).2.bad = 0 ∧ isS l (appS l n ⟨i, 0, 0⟩).2 0 sArr = true then (.mk 3 (appS l n ⟨i, 0, 0⟩).1.at ⟨#[95]⟩ 0 [(appS l n ⟨i, 0, 0⟩).1, (Qav l n (incS (appS l n ⟨i, 0, 0⟩).2)).1], (Qav l n (incS (appS l n ⟨i, 0, 0⟩).2)).2) else appS l n ⟨i, 0, 0⟩) by rw [Qav, if_neg (by simp)]; rfl)
  generalize Qav l (n + 1) ⟨i, 0, 0⟩ = R at *
  have H1 := Hh (gis_p hl i sLam)
  have H2 := Hh (gbinder_p hl i (by omega))
  have hx := Qit hi
  have hc : (i : Int) < l.length := by omega
  have hn : (0 : Int) ≤ i := by omega
  have hw1 : IntKind.i64.wrap ((i : Int) + 1) = ((i + 1 : Nat) : Int) := Qew (by omega)
  cases c1 : Qbo (tkg l i) sLam with
  | true =>
    have HT := Hh (IT1 (Qhz hl c1))
    rw [c1, if_pos rfl] at HR
    rw [c1] at H1
    unfold sLam at H1
    unfold Qkl at HT
    rw [← HR.out] at HT
    generalize tkg l i = t0 at *
    clear c1 IT1 IT2 IP IH hi hl HR
    refine pG Tryz.func180 Tryz.ntmps180 ?_
    refine Je ?_
    intro b4 hb4
    try simp only [Ja, Rh, Rg, Jb] at hb4
    refine go_ ?_
    refine Qab (H1.out) ?_
    refine Qbz (HT.out) ?_
    rintro _ ⟨g, rfl, hR⟩
    have HG := Hh hR
    clear hR
    simp only [gtP]
    refine go_ ?_
    refine Qaa ?_
    refine rT Tryz.results180 ?_
    exact ⟨⟨_, rfl, HG.out⟩, rfl⟩
  | false =>
  rw [c1, if_neg (by decide)] at HR
  rw [c1] at H1
  unfold sLam at H1
  cases c2 : Qef l ⟨i, 0, 0⟩ with
  | true =>
    have HT := Hh IT2
    rw [c2, if_pos rfl] at HR
    rw [c2] at H2
    unfold Qkl at HT
    rw [← HR.out] at HT
    generalize tkg l i = t0 at *
    clear c1 c2 IT1 IT2 IP IH hi hl HR
    refine pG Tryz.func180 Tryz.ntmps180 ?_
    refine Je ?_
    intro b4 hb4
    try simp only [Ja, Rh, Rg, Jb] at hb4
    refine go_ ?_
    refine Qab (H1.out) ?_
    refine Qab (H2.out) ?_
    refine Qbz (HT.out) ?_
    rintro _ ⟨g, rfl, hR⟩
    have HG := Hh hR
    clear hR
    simp only [gtP]
    refine go_ ?_
    refine Qaa ?_
    refine rT Tryz.results180 ?_
    exact ⟨⟨_, rfl, HG.out⟩, rfl⟩
  | false =>
  rw [c2, if_neg (by decide)] at HR
  rw [c2] at H2
  have HP := Hh IP
  unfold AppG at HP
  have HADV := Hh ((Qet hl n).2.2.2.1 ⟨i, 0, 0⟩ hi)
  clear c1 c2 IT1 IT2 IP IH hl hx hc hn hw1
  generalize hA : appS l n ⟨i, 0, 0⟩ = A at *
  clear hA
  have HI := Hh hi
  clear hi
  refine pG Tryz.func180 Tryz.ntmps180 ?_
  refine Je ?_
  intro b4 hb4
  try simp only [Ja, Rh, Rg, Jb] at hb4
  refine go_ ?_
  refine Qab (H1.out) ?_
  refine Qab (H2.out) ?_
  refine Qbz (HP.out) ?_
  rintro _ ⟨g, rfl, hRa⟩
  rcases hRa with ⟨ea, aa, hxa⟩ | ⟨ea, ea2, aa⟩
  · obtain ⟨na, ja, ea', aa'⟩ := g
    simp only at ea aa hxa
    subst ea aa hxa
    have hja : ja < l.length := HADV.out.1
    have hij : i ≤ ja := (HADV.out.2 rfl).2
    have H3 := Hh (gis_p HL.out ja sArr)
    unfold isS at HR
    simp only [Nat.add_zero] at HR
    cases c3 : Qbo (tkg l ja) sArr with
    | false =>
      rw [c3, if_neg (by simp)] at HR
      have hF : GotR ⟨na, ja, 0, 0⟩ R := by rw [HR.out]; exact got_ok _ _
      have HG := Hh hF
      rw [c3] at H3
      unfold sArr at H3
      clear hF HR c3 hja hij HADV HP
      simp only [gtP]
      refine go_ ?_
      refine Je ?_
      intro b5 hb5
      try simp only [Ja, Rh, Rg, Jb] at hb5
      refine go_ ?_
      refine Qaa ?_
      refine Qad (H3.out) ?_
      refine Qaa ?_
      refine rT Tryz.results180 ?_
      exact ⟨⟨_, rfl, HG.out⟩, rfl⟩
    | true =>
      have hj1 := Qhz HL.out c3
      rw [c3, if_pos (by simp)] at HR
      have HT := Hh (HIH.out (ja + 1) (by omega) hj1)
      unfold Qii at HT
      rw [c3] at H3
      unfold sArr at H3
      have hw2 : IntKind.i64.wrap ((ja : Int) + 1) = ((ja + 1 : Nat) : Int) := Qew (by omega)
      have HR2 : Hid (R = (.mk 3 na.at ⟨#[95]⟩ 0 [na, (Qav l n ⟨ja + 1, 0, 0⟩).1], (Qav l n ⟨ja + 1, 0, 0⟩).2)) := HR.out
      clear HR c3 hja hij HADV HP hj1
      simp only [gtP]
      refine go_ ?_
      refine Je ?_
      intro b5 hb5
      try simp only [Ja, Rh, Rg, Jb] at hb5
      refine go_ ?_
      refine Qaa ?_
      refine Qad (H3.out) ?_
      refine Qbz (HT.out) ?_
      rintro _ ⟨gc, rfl, hRc⟩
      obtain ⟨nc, jc, ec, ac⟩ := gc
      have hF : GotR ⟨.mk 3 na.at ⟨#[95]⟩ 0 [na, nc], jc, ec, ac⟩ R := by
        rw [HR2.out]
        rcases hRc with ⟨h1, h2, h3⟩ | ⟨h1, h2, h3⟩
        · simp only at h1 h2 h3
          exact .inl ⟨h1, h2, by rw [h3]⟩
        · exact .inr ⟨h1, h2, h3⟩
      have HG := Hh hF
      clear hF hRc HR2
      simp only [gtP]
      refine go_ ?_
      refine Je ?_
      intro b6 hb6
      try simp only [Ja, Rh, Rg, Jb] at hb6
      refine go_ ?_
      refine Qaa ?_
      refine Qao ?_
      refine Qaa ?_
      refine Qaa ?_
      refine rT Tryz.results180 ?_
      exact ⟨⟨⟨.mk 3 na.at ⟨#[95]⟩ 0 [na, nc], jc, ec, ac⟩, by simp only [Nd.kind, Nd.at, Nd.name, Nd.num, Nd.sub, List.map_cons, List.map_nil, Jh]; rfl, HG.out⟩, rfl⟩
  · have hF : GotR g R := by
      rw [HR.out, if_neg (by rw [ea2]; exact fun h => ea h.1)]
      exact .inr ⟨ea, ea2, aa⟩
    have HG := Hh hF
    have heb : (g.e != 0) = true := bne_iff_ne.2 ea
    clear hF HR ea ea2 aa HADV HP
    simp only [gtP]
    refine go_ ?_
    refine Je ?_
    intro b5 hb5
    try simp only [Ja, Rh, Rg, Jb] at hb5
    refine go_ ?_
    refine Qaa ?_
    refine Qaa ?_
    refine rT Tryz.results180 ?_
    exact ⟨⟨_, rfl, HG.out⟩, rfl⟩
theorem rdepthM_p (t : Nd) : PCalls Tryz.prog 145 [aggD t] [] fun p s => p = .d (.v (.int .i64 (Qdc t))) ∧ s = [] := PCalls.flat trivial fun K w vs ha => by
 obtain ⟨v, rfl, hv⟩ := ha.one
 obtain ⟨cs, rfl, hc⟩ := Qlr hv
 exact rdepth_any t cs w (Rep.toC _ _ hc)
theorem read_g {l : List Tk} (hl : TkOk l) : ∀ N n, n ≤ N →
    (∀ k a i, i < l.length → 6 * (l.length - i) + 4 ≤ n → Qkl l n k a i) ∧ (∀ i, i < l.length → 6 * (l.length - i) + 6 ≤ n → Qii l n i) ∧ (∀ i, i < l.length → 6 * (l.length - i) + 3 ≤ n → AtomG l n i) ∧ (∀ i, i < l.length → 6 * (l.length - i) + 5 ≤ n → AppG l n i) := by
  intro N
  induction N with
  | zero =>
    intro n hn
    refine ⟨fun k a i _ h => by omega, fun i _ h => by omega, fun i _ h => by omega, fun i _ h => by omega⟩
  | succ N ih =>
    intro n hn
    rcases Nat.lt_or_ge n (N + 1) with h | h
    · exact ih n (by omega)
    · obtain rfl : n = N + 1 := by omega
      have I := ih N (Nat.le_refl _)
      refine ⟨fun k a i hi hf => typed_g hl N i k a hi fun j h1 h2 => I.2.1 j h2 (by omega), fun i hi hf => term_g hl N i hi (fun h => I.1 4 _ (i + 1) h (by omega)) (I.1 3 _ i hi (by omega)) (I.2.2.2 i hi (by omega)) (fun j h1 h2 => I.2.1 j h2 (by omega)) (by omega), fun i hi hf => atom_g hl N i hi fun h => I.2.1 (i + 1) h (by omega), fun i hi hf => app_g hl N i hi (by omega) fun m hm j hj hf2 => (ih m hm).2.2.1 j hj hf2⟩
theorem gexpr_p {l : List Tk} (hl : TkOk l) (n i : Nat) (hi : i < l.length) (hf : 6 * (l.length - i) + 6 ≤ n) : PCalls Tryz.prog 115 [.d (.sl (l.map encD)), .d (.v (.int .i64 i))] [] fun p s => (∃ g, p = gtP g ∧ GotR g (Qik l n ⟨i, 0, 0⟩)) ∧ s = [] := by
 have HT := Hh ((read_g hl n n (Nat.le_refl _)).2.1 i hi hf)
 unfold Qii at HT
 have HR : Hid (Qik l n ⟨i, 0, 0⟩ = ((Qav l n ⟨i, 0, 0⟩).1, Qgu (Qav l n ⟨i, 0, 0⟩).1 (tkg l i).at_ (Qav l n ⟨i, 0, 0⟩).2)) := rfl
 have HF := Hh (Qks l i 2 hi)
 simp only [zNd, Qil, List.map_nil] at HF
 generalize Qik l n ⟨i, 0, 0⟩ = R at *
 generalize Qav l n ⟨i, 0, 0⟩ = T at *
 have HS : Hid (∀ g, GotR g T → PCalls Tryz.prog 179 [.d (.sl (l.map encD)), gtP g, .d (.v (.int .i64 i))] [] fun p s => (∃ g, p = gtP g ∧ GotR g R) ∧ s = []) := by
  intro g hg
  obtain ⟨nd, j, e, at_⟩ := g
  by_cases he : e = 0
  ·subst he
   have hT : at_ = 0 ∧ T = (nd, ⟨j, 0, 0⟩) := by
    rcases hg with ⟨-, h2, h3⟩ | ⟨h, -⟩
    ·exact ⟨h2, h3⟩
    ·exact absurd rfl h
   obtain ⟨rfl, rfl⟩ := hT
   have HD := Hh (rdepthM_p nd)
   have HR2 : Hid (R = (nd, if (0 : Int) = 0 ∧ 128 < Qdc nd then Qby 2 (tkg l i).at_ ⟨j, 0, 0⟩ else ⟨j, 0, 0⟩)) := HR.out
   by_cases hd : 128 < Qdc nd
   ·rw [if_pos ⟨rfl, hd⟩] at HR2
    have HG := Hh (show GotR ⟨zNd, i, 2, (tkg l i).at_⟩ R from by rw [HR2.out]; exact .inr ⟨by show (2 : Int) ≠ 0; decide, rfl, rfl⟩)
    obtain ⟨k, a, s, m, u⟩ := nd
    simp only [gtP, aggD, Jh, List.map_cons, List.map_nil, Nd.kind, Nd.at, Nd.name, Nd.num, Nd.sub] at HD ⊢
    clear HR HR2 hg HT
    refine pG Tryz.func179 Tryz.ntmps179 ?_
    refine Jd ?_
    intro b4 hb4
    try simp only [Ja, Rh, Rg, Jb] at hb4
    refine go_ ?_
    refine Je ?_
    intro b6 hb6
    try simp only [Ja, Rh, Rg, Jb] at hb6
    refine go_ ?_
    refine Qad (HD.out) ?_
    refine Qab (HF.out) ?_
    refine Qaa ?_
    refine rT Tryz.results179 ?_
    exact ⟨⟨_, rfl, HG.out⟩, rfl⟩
   ·rw [if_neg (fun h => hd h.2)] at HR2
    have HG := Hh (show GotR ⟨nd, j, 0, 0⟩ R from by rw [HR2.out]; exact got_ok _ _)
    obtain ⟨k, a, s, m, u⟩ := nd
    simp only [gtP, aggD, Jh, List.map_cons, List.map_nil, Nd.kind, Nd.at, Nd.name, Nd.num, Nd.sub] at HD ⊢
    clear HR HR2 hg HT
    refine pG Tryz.func179 Tryz.ntmps179 ?_
    refine Jd ?_
    intro b4 hb4
    try simp only [Ja, Rh, Rg, Jb] at hb4
    refine go_ ?_
    refine Je ?_
    intro b6 hb6
    try simp only [Ja, Rh, Rg, Jb] at hb6
    refine go_ ?_
    refine Qad (HD.out) ?_
    refine Qaa ?_
    refine rT Tryz.results179 ?_
    exact ⟨⟨_, rfl, HG.out⟩, rfl⟩
  ·have hT : T.2.bad = e ∧ T.2.at_ = at_ := by
    rcases hg with ⟨h, -⟩ | ⟨-, h2, h3⟩
    ·exact absurd h he
    ·exact ⟨h2, h3⟩
   have HG := Hh (show GotR ⟨nd, j, e, at_⟩ R from by
    rw [HR.out]
    unfold Qgu
    rw [if_neg (fun h => he (by rw [← hT.1]; exact h.1))]
    exact .inr ⟨he, hT⟩)
   have heb : (e == 0) = false := beq_false_of_ne he
   clear HR hg hT he HT
   simp only [gtP]
   refine pG Tryz.func179 Tryz.ntmps179 ?_
   refine Jd ?_
   intro b4 hb4
   try simp only [Ja, Rh, Rg, Jb] at hb4
   refine go_ ?_
   refine Je ?_
   intro b6 hb6
   try simp only [Ja, Rh, Rg, Jb] at hb6
   refine go_ ?_
   refine Qaa ?_
   refine rT Tryz.results179 ?_
   exact ⟨⟨_, rfl, HG.out⟩, rfl⟩
 clear HF HR hi hf hl
 refine pG Tryz.func115 Tryz.ntmps115 ?_
 refine Je ?_
 intro b4 hb4
 try simp only [Ja, Rh, Rg, Jb] at hb4
 refine go_ ?_
 refine Qbz (HT.out) ?_
 rintro _ ⟨g, rfl, hR⟩
 have HS1 := Hh (HS.out g hR)
 clear hR HS HT
 simp only [gtP] at HS1
 simp only [gtP]
 refine go_ ?_
 refine Qbz (HS1.out) ?_
 rintro _ ⟨g2, rfl, hR2⟩
 have HG := Hh hR2
 clear hR2
 refine go_ ?_
 refine Qaa ?_
 refine rT Tryz.results115 ?_
 exact ⟨⟨_, rfl, HG.out⟩, rfl⟩
theorem next_facts {r : List Int} (h : (Qaj r).2.2.2 = true) : (Qaj r).1 ≠ 5 ∧ ((Qaj r).1 = 1 → ((Qaj r).2.1.toList == [95] || Qam (Qaj r).2.1) = true) := by
 unfold Qaj at h ⊢
 simp only at h ⊢
 split
 ·rename_i h1
  rw [if_pos h1] at h
  split
  ·exact ⟨by show (2 : Int) ≠ 5; decide, fun e => absurd e (by show ¬ (2 : Int) = 1; decide)⟩
  ·rename_i h2
   rw [if_neg h2] at h
   exact ⟨by show (1 : Int) ≠ 5; decide, fun _ => h⟩
 ·split
  ·exact ⟨by show (3 : Int) ≠ 5; decide, fun e => absurd e (by show ¬ (3 : Int) = 1; decide)⟩
  ·exact ⟨by show (4 : Int) ≠ 5; decide, fun e => absurd e (by show ¬ (4 : Int) = 1; decide)⟩
theorem cut_facts (c : Nat) (r : List Int) : ∀ x ∈ (cutR c r).1, x.1 ≠ 5 ∧ (x.1 = 1 → (x.2.1.toList == [95] || Qam x.2.1) = true) := by
  cases h1 : (Qaf r).2 with
  | false => rw [cut_a h1]; intro x hx; cases hx
  | true =>
    by_cases h2 : (Qaf r).1 = []
    · rw [cut_b h1 h2]; intro x hx; cases hx
    · by_cases h3 : 8192 ≤ c
      · rw [cut_c h1 h2 h3]; intro x hx; cases hx
      · cases h4 : (Qaj (Qaf r).1).2.2.2 with
        | false => rw [cut_d h1 h2 h3 h4]; intro x hx; cases hx
        | true =>
          rw [cut_e h1 h2 h3 h4]
          have hlt : ((Qaf r).1.drop (Qaj (Qaf r).1).2.2.1).length < r.length := by
            have h5 := (Qed r).length_le
            have h6 := Qia h4 h2
            have h7 : 0 < (Qaf r).1.length := List.length_pos_iff.2 h2
            rw [List.length_drop]
            omega
          intro x hx
          rcases List.mem_cons.1 hx with rfl | hx
          · exact next_facts h4
          · exact cut_facts (c + 1) ((Qaf r).1.drop (Qaj (Qaf r).1).2.2.1) x hx
termination_by r.length
decreasing_by exact hlt
structure TkN (l : List Tk) : Prop where
 mid : ∀ j, j + 1 < l.length → (tkg l j).kind ≠ 5
 nm : ∀ j, j < l.length → (tkg l j).kind = 1 → ((tkg l j).text.toList == [95] || Qam (tkg l j).text) = true
theorem startN (s : ByteArray) : TkN (Qcl s) := by
 unfold Qcl
 split
 ·refine ⟨fun j hj => by simp at hj, fun j hj hk => ?_⟩
  have : j = 0 := by simp at hj; exact hj
  subst this
  exact absurd hk (by show (5 : Int) ≠ 1; decide)
 ·rename_i h
  have h : (tokA s).2.2 = 0 := by simpa using h
  unfold tokA at h ⊢
  split at h
  ·rename_i h1; exact absurd h h1
  ·rename_i h1
   rw [if_neg h1]
   unfold Qiu at h ⊢
   have hf := cut_facts 0 (allS s)
   split at h
   ·rename_i e k he
    exfalso
    rcases cut_err _ _ _ _ he with h2 | h2
    ·rw [h2] at h; cases h
    ·rw [h2] at h; cases h
   ·rename_i he
    simp only
    have key : ∀ j, j < (cutR 0 (allS s)).1.length → ∃ x ∈ (cutR 0 (allS s)).1, (tkg ((cutR 0 (allS s)).1.map (fun x => ({ kind := x.1, text := x.2.1, at_ := offN (allS s) ((allS s).length - x.2.2) } : Tk)) ++ [⟨5, ⟨#[]⟩, s.size⟩]) j).kind = x.1 ∧ (tkg ((cutR 0 (allS s)).1.map (fun x => ({ kind := x.1, text := x.2.1, at_ := offN (allS s) ((allS s).length - x.2.2) } : Tk)) ++ [⟨5, ⟨#[]⟩, s.size⟩]) j).text = x.2.1 := by
     intro j hj
     refine ⟨(cutR 0 (allS s)).1[j], List.getElem_mem hj, ?_⟩
     rw [Qlc (by simp; omega), List.getElem_append_left (by simpa using hj), List.getElem_map]
     exact ⟨rfl, rfl⟩
    refine ⟨fun j hj => ?_, fun j hj hk => ?_⟩
    ·simp only [List.length_append, List.length_map, List.length_cons, List.length_nil] at hj
     obtain ⟨x, hx, e1, -⟩ := key j (by omega)
     rw [e1]; exact (hf x hx).1
    ·simp only [List.length_append, List.length_map, List.length_cons, List.length_nil] at hj
     rcases Nat.lt_or_ge j (cutR 0 (allS s)).1.length with h3 | h3
     ·obtain ⟨x, hx, e1, e2⟩ := key j h3
      rw [e1] at hk
      rw [e2]; exact (hf x hx).2 hk
     ·exfalso
      have hj2 : j = (cutR 0 (allS s)).1.length := by omega
      rw [Qlc (by simp; omega), List.getElem_append_right (by simp; omega)] at hk
      simp at hk
theorem end_bad {l : List Tk} {σ : ST} (h : σ.bad ≠ 0) : endS l σ = σ := by
 unfold endS
 split
 ·rfl
 ·exact if_neg h
theorem exprA_bad {s : ByteArray} (h : (tokA s).2.2 ≠ 0) : Qhs s = (zNd, (tokA s).2.1, (tokA s).2.2) := by
 have h1 : Qen s = ⟨0, (tokA s).2.1, (tokA s).2.2⟩ := if_pos h
 have h2 : Qeg s = (zNd, Qen s) := by
  unfold Qeg Qik
  rw [h1, Qhw (show (⟨0, (tokA s).2.1, (tokA s).2.2⟩ : ST).bad ≠ 0 from h)]
  unfold Qgu
  rw [if_neg (fun e => h e.1)]
 unfold Qhs
 rw [h2, h1]
 simp only
 rw [end_bad (show (⟨0, (tokA s).2.1, (tokA s).2.2⟩ : ST).bad ≠ 0 from h), if_neg h]
theorem gExpr_p (s : ByteArray) (hs : s.size ≤ 100000) : PCalls Tryz.prog 58 [.d (.v (.string s))] [] fun p st => p = .tup [aggD (Qhs s).1, .d (.v (.int .i64 (Qhs s).2.1)), .d (.v (.int .i64 (Qhs s).2.2))] ∧ st = [] := by
 have H0 := Hh (mtall_p s)
 unfold tokP at H0
 by_cases hz : (tokA s).2.2 = 0
 rotate_left
 ·rw [exprA_bad hz]
  have hzb : ((tokA s).2.2 != 0) = true := bne_iff_ne.2 hz
  simp only [zNd, aggD, encD_mk, List.map_cons, List.map_nil]
  generalize (tokA s).2.2 = e at *
  generalize (tokA s).2.1 = at_ at *
  clear hz
  refine pG Tryz.func58 Tryz.ntmps58 ?_
  refine Je ?_
  intro b2 hb2
  try simp only [Ja, Rh, Rg, Jb] at hb2
  refine go_ ?_
  refine Qab (H0.out) ?_
  refine Qaa ?_
  refine rT Tryz.results58 ?_
  exact ⟨rfl, rfl⟩
 have hL : Qcl s = (tokA s).1 := if_neg (by simp [hz])
 have hS : Qen s = ⟨0, 0, 0⟩ := if_neg (by simp [hz])
 have hl := startOk s
 have hN := startN s
 have hw := startW s
 have hE := expr_adv hl (fuelS s) (Qen s) hw
 have hX : Qeg s = Qik (Qcl s) (fuelS s) ⟨0, 0, 0⟩ := by unfold Qeg; rw [hS]
 have HA := Hh (show Qhs s = if (endS (Qcl s) (Qeg s).2).bad = 0 then ((Qeg s).1, (s.size : Int), 0) else (zNd, (endS (Qcl s) (Qeg s).2).at_, (endS (Qcl s) (Qeg s).2).bad) from rfl)
 rw [hS] at hE
 have HG := Hh (gexpr_p hl (fuelS s) 0 hl.pos (by unfold fuelS; omega))
 rw [← hX] at HG hE
 rw [hz, ← hL] at H0
 have hlen := hl.len
 generalize Qhs s = R at *
 generalize Qeg s = X at *
 clear hX hS hw hL
 generalize Qcl s = l at *
 generalize (tokA s).2.1 = at_ at *
 have HL := Hh hl
 have HN := Hh hN
 have HE := Hh hE
 clear hz hl hN hE
 obtain ⟨⟨k0, a0, s0, n0, u0⟩, at0, e0⟩ := R
 have HPOS := Hh HL.out.pos
 have hlw : IntKind.i64.wrap ((l.length : Int) - 1) = (l.length : Int) - 1 := wrM (by omega) (by omega)
 simp only [aggD, encD_mk, List.map_cons, List.map_nil]
 refine pG Tryz.func58 Tryz.ntmps58 ?_
 refine Je ?_
 intro b2 hb2
 try simp only [Ja, Rh, Rg, Jb] at hb2
 refine go_ ?_
 refine Qab (H0.out) ?_
 refine Qbz (HG.out) ?_
 rintro _ ⟨g, rfl, hR⟩
 obtain ⟨nd, j, e, ea⟩ := g
 rcases hR with ⟨h1, h2, h3⟩ | ⟨h1, h2, h3⟩
 ·simp only at h1 h2 h3
  subst h1 h2 h3
  have hj : j < l.length := HE.out.1
  have hx := Qit hj
  have hc : (j : Int) < l.length := by omega
  have hn : (0 : Int) ≤ j := by omega
  by_cases hjl : j + 1 < l.length
  ·have hne : ((j : Int) != (l.length : Int) - 1) = true := bne_iff_ne.2 (by omega)
   have hF : endS l ⟨j, 0, 0⟩ = ⟨j, (tkg l j).at_, 1⟩ := by
    unfold endS
    rw [if_neg (HN.out.mid j hjl)]
    rfl
   have hq := HA.out
   rw [hF] at hq
   simp only at hq
   rw [if_neg Qfq] at hq
   unfold zNd at hq
   obtain ⟨q1, q2, q3⟩ : k0 = 0 ∧ a0 = 0 ∧ s0 = ⟨#[]⟩ := by
    have := congrArg Prod.fst hq
    injection this with t1 t2 t3
    exact ⟨t1, t2, t3⟩
   obtain ⟨q4, q5⟩ : n0 = 0 ∧ u0 = [] := by
    have := congrArg Prod.fst hq
    injection this with t1 t2 t3 t4 t5
    exact ⟨t4, t5⟩
   obtain ⟨q6, q7⟩ : at0 = (tkg l j).at_ ∧ e0 = 1 := by
    have h8 := congrArg (fun x => x.2.1) hq
    have h9 := congrArg (fun x => x.2.2) hq
    exact ⟨h8, h9⟩
   subst q1 q2 q3 q4 q5 q6 q7
   generalize tkg l j = t0 at *
   clear hF hq hj hjl HA HE HG H0
   simp only [gtP]
   refine go_ ?_
   refine Je ?_
   intro b8 hb8
   try simp only [Ja, Rh, Rg, Jb] at hb8
   refine go_ ?_
   refine Qaa ?_
   refine Qfc (J := Qcm [(b8, _)]) [(0, .a), (1, .a), (2, .a), (3, .a), (4, .a), (5, .a), (6, .a), (7, .e), (8, .a), (9, .a)] (by kernel_rfl) (by rfl) (by kernel_rfl) (by (repeat (first | exact Qat _ | refine Ju (by simp [St.box?, *] <;> rfl) ?_))) ?_
   refine jG ?_
   refine PJs ?_
   refine jG ?_
   refine go_ ?_
   refine rT Tryz.results58 ?_
   exact ⟨rfl, rfl⟩
  ·have hne : ((j : Int) != (l.length : Int) - 1) = false := by
    rw [show (j : Int) = (l.length : Int) - 1 by omega]; simp
   have hF : endS l ⟨j, 0, 0⟩ = ⟨j, 0, 0⟩ := by
    have h5 := HL.out.last
    rw [show l.length - 1 = j by omega] at h5
    unfold endS
    rw [if_pos h5]
   have hq := HA.out
   rw [hF] at hq
   simp only [if_true] at hq
   obtain ⟨q1, q6, q7⟩ : nd = .mk k0 a0 s0 n0 u0 ∧ at0 = s.size ∧ e0 = 0 :=
    ⟨(congrArg (fun x => x.1) hq).symm, congrArg (fun x => x.2.1) hq, congrArg (fun x => x.2.2) hq⟩
   subst q1 q6 q7
   clear hF hq hj hjl HA HE HG H0 hx hc hn
   simp only [gtP, Nd.kind, Nd.at, Nd.name, Nd.num, Nd.sub]
   refine go_ ?_
   refine Je ?_
   intro b8 hb8
   try simp only [Ja, Rh, Rg, Jb] at hb8
   refine go_ ?_
   refine Qaa ?_
   refine Qaa ?_
   refine rT Tryz.results58 ?_
   exact ⟨rfl, rfl⟩
 ·simp only at h1 h2 h3
  have hq := HA.out
  rw [end_bad (show X.2.bad ≠ 0 by rw [h2]; exact h1), if_neg (show ¬ X.2.bad = 0 by rw [h2]; exact h1)] at hq
  unfold zNd at hq
  obtain ⟨q1, q2, q3⟩ : k0 = 0 ∧ a0 = 0 ∧ s0 = ⟨#[]⟩ := by
   have := congrArg Prod.fst hq
   injection this with t1 t2 t3
   exact ⟨t1, t2, t3⟩
  obtain ⟨q4, q5⟩ : n0 = 0 ∧ u0 = [] := by
   have := congrArg Prod.fst hq
   injection this with t1 t2 t3 t4 t5
   exact ⟨t4, t5⟩
  obtain ⟨q6, q7⟩ : at0 = ea ∧ e0 = e := by
   have h8 := congrArg (fun x => x.2.1) hq
   have h9 := congrArg (fun x => x.2.2) hq
   exact ⟨h8.trans h3, h9.trans h2⟩
  have heb : (e != 0) = true := bne_iff_ne.2 h1
  subst q1 q2 q3 q4 q5 q6 q7
  clear hq h1 h2 h3 HA HE HG H0
  simp only [gtP]
  refine go_ ?_
  refine Je ?_
  intro b8 hb8
  try simp only [Ja, Rh, Rg, Jb] at hb8
  refine go_ ?_
  refine Qaa ?_
  refine Qfc (J := Qcm [(b8, _)]) [(0, .a), (1, .a), (2, .a), (3, .a), (4, .a), (5, .e), (6, .a), (7, .a)] (by kernel_rfl) (by rfl) (by kernel_rfl) (by (repeat (first | exact Qat _ | refine Ju (by simp [St.box?, *] <;> rfl) ?_))) ?_
  refine jG ?_
  refine PJs ?_
  refine jG ?_
  refine go_ ?_
  refine rT Tryz.results58 ?_
  exact ⟨rfl, rfl⟩
end Go.Proofs.YtdklpbefbamchaaGreat
