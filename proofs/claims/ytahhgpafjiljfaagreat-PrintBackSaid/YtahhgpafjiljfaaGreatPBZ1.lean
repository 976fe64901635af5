import Derived.Test.YtahhgpafjiljfaaGreatPBZ
import Derived.Test.YtahhgpafjiljfaaGreatPBA3
import Derived.Test.YtahhgpafjiljfaaGreatPT32
set_option linter.unusedSimpArgs false
set_option linter.unusedVariables false
set_option maxHeartbeats 16000000
set_option maxRecDepth 100000
namespace Go.Proofs.YtahhgpafjiljfaaGreat
open Go.RowKit
theorem pattern_p (i0 : Nat) (l : List Tk) (σ : ST) (hl : l.length ≤ 100000) (h0 : 0 < l.length) (hi : σ.i ≤ 150000) : PCalls Tryz.prog 63 [.ptr i0 0] (prS i0 l σ) fun p st => p = .d (.v (.bool (Qdu l σ))) ∧ st = prS i0 l σ := by
  have H1 := Hh (Qco i0 l σ hl h0 hi)
  have H2 := Hh (is_p i0 l σ 0 0 rfl sDot hl h0 (by omega) (by decide))
  have H3 := Hh (is_p i0 l σ 0 0 rfl sPar hl h0 (by omega) (by decide))
  have HB := Hh (show Qdu l σ = ((tkg l σ.i).kind == 1 || isS l σ 0 sDot || isS l σ 0 sPar) from rfl)
  unfold sPar sDot at *
  generalize tkg l σ.i = t at *
  refine pG Tryz.func63 Tryz.ntmps63 ?_
  refine Re (H1.out) ?_
  rintro _ _ ⟨rfl, rfl⟩
  by_cases h1 : t.kind = 1
  · refine go_ ?_
    refine rS (st' := prS i0 l σ) Tryz.results63 ?_
    exact ⟨by rw [HB.out, h1]; rfl, rfl⟩
  · refine go_ ?_
    refine Re (H2.out) ?_
    rintro _ _ ⟨rfl, rfl⟩
    cases h2 : isS l σ 0 ⟨#[46]⟩ with
    | true =>
      refine go_ ?_
      refine rS (st' := prS i0 l σ) Tryz.results63 ?_
      exact ⟨by rw [HB.out, h2, show (t.kind == 1) = false by simpa using h1]; rfl, rfl⟩
    | false =>
      refine go_ ?_
      refine Re (H3.out) ?_
      rintro _ _ ⟨rfl, rfl⟩
      refine go_ ?_
      refine rS (st' := prS i0 l σ) Tryz.results63 ?_
      exact ⟨by rw [HB.out, h2, show (t.kind == 1) = false by simpa using h1]; rfl, rfl⟩
def PatC (l : List Tk) (n : Nat) (σ : ST) : Prop := ∀ i0, PCalls Tryz.prog 64 [.ptr i0 0] (prS i0 l σ) fun p s => p = aggD (patS l n σ).1 ∧ s = prS i0 l (patS l n σ).2
def ParenC (l : List Tk) (n : Nat) (σ : ST) : Prop := ∀ i0, PCalls Tryz.prog 105 [.ptr i0 0] (prS i0 l σ) fun p s => p = aggD (Qer l n σ).1 ∧ s = prS i0 l (Qer l n σ).2
theorem atom_full {l : List Tk} (hl : TkOk l) (σ : ST) (hw : Wf l σ) : AtomC l (Qgl l) σ :=
 (parse_w hl (Qgl l)).2.2.1 σ hw ⟨by unfold Qgl; omega, fun _ => by unfold Qgl; omega⟩
theorem pat_w {l : List Tk} (hl : TkOk l) (n : Nat) (IP : ∀ σ, Wf l σ → isS l σ 0 sPar = true → σ.bad = 0 → Fu l n 2 σ → ParenC l n σ) (σ : ST) (hw : Wf l σ) (hf : Fu l (n + 1) 3 σ) : PatC l (n + 1) σ := by
  intro i0
  have b1 : σ.i ≤ 150000 := Nat.le_trans (hw.le hl) (by decide)
  have c0 := Hh (Qco i0 l σ hl.len hl.pos b1)
  have c1 := Hh (is_p i0 l σ 0 0 rfl sPar hl.len hl.pos (by omega) (by decide))
  have c2 := Hh (is_p i0 l σ 0 0 rfl sDot hl.len hl.pos (by omega) (by decide))
  have c3 := Hh (name_p i0 l σ hl.len hl.pos b1)
  have HT := Hh (show patS l (n + 1) σ = (if σ.bad ≠ 0 then (zNd, σ) else if isS l σ 0 sPar then Qer l n σ else if isS l σ 0 sDot then (.mk 10 (tkg l σ.i).at_ ⟨#[]⟩ 0 [(Qci l (Qgl l) (incS σ)).1], (Qci l (Qgl l) (incS σ)).2) else if (tkg l σ.i).kind == 1 && (tkg l σ.i).text.toList == [95] then (.mk 7 (tkg l σ.i).at_ ⟨#[]⟩ 0 [], incS σ) else (.mk 6 (tkg l σ.i).at_ (Qas l σ).1 0 [], (Qas l σ).2)) from by simp only [patS])
  have hin := Qfd b1
  unfold sPar at c1
  unfold sDot at c2
  by_cases hz : σ.bad = 0
  rotate_left
  · rw [if_pos hz] at HT
    rw [HT.out]
    refine pG Tryz.func64 Tryz.ntmps64 ?_
    refine Jd ?_
    intro i1 hi1
    simp only [prS, List.cons_append, List.nil_append, List.append_nil, List.drop_succ_cons, List.drop_zero, List.drop_nil, Rh, Rg, Rf, Ja] at hi1
    refine go_ ?_
    refine Rd 1 1 (c0.out) ?_
    rintro _ _ ⟨rfl, rfl⟩
    unfold prS
    refine go_ ?_
    refine Qaa ?_
    refine rS (st' := prS i0 l σ) Tryz.results64 ?_
    exact ⟨by unfold zNd; rw [Qfo]; rfl, rfl⟩
  rw [if_neg (by simp [hz])] at HT
  have hn : 0 < n := by
    have := hf.2 hz
    unfold Wf at hw; omega
  generalize htk : tkg l σ.i = t at *
  cases hs : isS l σ 0 sPar with
  | true =>
    rw [hs, if_pos rfl] at HT
    have c4 := IP σ hw hs hz (hf.same hw (Adv.refl hw) hn (by omega)) i0
    unfold sPar at hs
    rw [HT.out]
    clear HT hf IP hin
    obtain ⟨i, a, b⟩ := σ
    simp only at hz b1
    subst hz
    generalize (Qer l n ⟨i, a, 0⟩).1 = A at *
    generalize (Qer l n ⟨i, a, 0⟩).2 = σ1 at *
    simp only [aggD, Jg, List.map_cons, List.map_nil] at c4 ⊢
    have C4 := Hh c4
    clear c4
    refine pG Tryz.func64 Tryz.ntmps64 ?_
    refine Jd ?_
    intro i1 hi1
    simp only [prS, List.cons_append, List.nil_append, List.append_nil, List.drop_succ_cons, List.drop_zero, List.drop_nil, Rh, Rg, Rf, Ja] at hi1
    refine go_ ?_
    refine Rd 1 1 (c0.out) ?_
    rintro _ _ ⟨rfl, rfl⟩
    unfold prS
    refine go_ ?_
    refine Rd 1 1 (c1.out) ?_
    rintro _ _ ⟨rfl, rfl⟩
    refine go_ ?_
    refine Rd 1 1 (C4.out) ?_
    rintro _ _ ⟨rfl, rfl⟩
    refine go_ ?_
    refine Qaa ?_
    refine rS (st' := prS i0 l σ1) Tryz.results64 ?_
    exact ⟨rfl, rfl⟩
  | false =>
    rw [hs, if_neg (by decide)] at HT
    unfold sPar at hs
    cases hd : isS l σ 0 sDot with
    | true =>
      rw [hd, if_pos rfl] at HT
      have h1 := Qbi hl (Qcn hd)
      unfold sDot at hd
      rw [HT.out]
      have c4 := atom_full hl _ h1.1 i0
      clear HT hf IP
      obtain ⟨i, a, b⟩ := σ
      simp only at hz b1 hin
      subst hz
      generalize (Qci l (Qgl l) (incS ⟨i, a, 0⟩)).1 = A at *
      generalize (Qci l (Qgl l) (incS ⟨i, a, 0⟩)).2 = σ1 at *
      simp only [aggD, Jg, List.map_cons, List.map_nil] at c4
      have C4 := Hh c4
      clear c4
      refine pG Tryz.func64 Tryz.ntmps64 ?_
      refine Jd ?_
      intro i1 hi1
      simp only [prS, List.cons_append, List.nil_append, List.append_nil, List.drop_succ_cons, List.drop_zero, List.drop_nil, Rh, Rg, Rf, Ja] at hi1
      refine go_ ?_
      refine Rd 1 1 (c0.out) ?_
      rintro _ _ ⟨rfl, rfl⟩
      unfold prS
      refine go_ ?_
      refine Rd 1 1 (c1.out) ?_
      rintro _ _ ⟨rfl, rfl⟩
      refine go_ ?_
      refine Rd 1 1 (c2.out) ?_
      rintro _ _ ⟨rfl, rfl⟩
      unfold prS
      refine go_ ?_
      refine Qaa ?_
      refine Rd 1 1 (C4.out) ?_
      rintro _ _ ⟨rfl, rfl⟩
      refine go_ ?_
      refine Qkr ?_
      refine Qaa ?_
      refine rS (st' := prS i0 l σ1) Tryz.results64 ?_
      exact ⟨by rw [Qfo]; simp only [List.map_cons, List.map_nil, Jg]; rfl, rfl⟩
    | false =>
      rw [hd, if_neg (by decide)] at HT
      unfold sDot at hd
      cases hu : (t.kind == 1 && t.text.toList == [95]) with
      | true =>
        rw [hu, if_pos rfl] at HT
        rw [HT.out]
        simp only [Bool.and_eq_true, beq_iff_eq] at hu
        obtain ⟨hu1, hu2⟩ := hu
        clear HT hf IP c3
        obtain ⟨i, a, b⟩ := σ
        simp only at hz b1 hin
        subst hz
        refine pG Tryz.func64 Tryz.ntmps64 ?_
        refine Jd ?_
        intro i1 hi1
        simp only [prS, List.cons_append, List.nil_append, List.append_nil, List.drop_succ_cons, List.drop_zero, List.drop_nil, Rh, Rg, Rf, Ja] at hi1
        refine go_ ?_
        refine Rd 1 1 (c0.out) ?_
        rintro _ _ ⟨rfl, rfl⟩
        unfold prS
        refine go_ ?_
        refine Rd 1 1 (c1.out) ?_
        rintro _ _ ⟨rfl, rfl⟩
        refine go_ ?_
        refine Rd 1 1 (c2.out) ?_
        rintro _ _ ⟨rfl, rfl⟩
        refine go_ ?_
        refine Rd 1 1 (c0.out) ?_
        rintro _ _ ⟨rfl, rfl⟩
        refine go_ ?_
        refine Rd 1 1 (c0.out) ?_
        rintro _ _ ⟨rfl, rfl⟩
        unfold prS
        refine go_ ?_
        refine Qaa ?_
        refine Qaa ?_
        refine rS (st' := prS i0 l (incS ⟨i, a, 0⟩)) Tryz.results64 ?_
        exact ⟨by rw [Qfo]; rfl, rfl⟩
      | false =>
        rw [hu, if_neg (by decide)] at HT
        rw [HT.out]
        clear HT hf IP hin
        obtain ⟨i, a, b⟩ := σ
        simp only at hz b1
        subst hz
        generalize (Qas l ⟨i, a, 0⟩).1 = x at *
        generalize (Qas l ⟨i, a, 0⟩).2 = σ1 at *
        by_cases hu1 : t.kind = 1
        · have hu2 : ¬ t.text.toList = [95] := by
            intro e
            rw [hu1, e] at hu; cases hu
          clear hu
          refine pG Tryz.func64 Tryz.ntmps64 ?_
          refine Jd ?_
          intro i1 hi1
          simp only [prS, List.cons_append, List.nil_append, List.append_nil, List.drop_succ_cons, List.drop_zero, List.drop_nil, Rh, Rg, Rf, Ja] at hi1
          refine go_ ?_
          refine Rd 1 1 (c0.out) ?_
          rintro _ _ ⟨rfl, rfl⟩
          unfold prS
          refine go_ ?_
          refine Rd 1 1 (c1.out) ?_
          rintro _ _ ⟨rfl, rfl⟩
          refine go_ ?_
          refine Rd 1 1 (c2.out) ?_
          rintro _ _ ⟨rfl, rfl⟩
          refine go_ ?_
          refine Rd 1 1 (c0.out) ?_
          rintro _ _ ⟨rfl, rfl⟩
          refine go_ ?_
          refine Rd 1 1 (c0.out) ?_
          rintro _ _ ⟨rfl, rfl⟩
          refine go_ ?_
          refine Rd 1 1 (c3.out) ?_
          rintro _ _ ⟨rfl, rfl⟩
          refine go_ ?_
          refine Qaa ?_
          refine rS (st' := prS i0 l σ1) Tryz.results64 ?_
          exact ⟨by rw [Qfo]; rfl, rfl⟩
        · clear hu
          refine pG Tryz.func64 Tryz.ntmps64 ?_
          refine Jd ?_
          intro i1 hi1
          simp only [prS, List.cons_append, List.nil_append, List.append_nil, List.drop_succ_cons, List.drop_zero, List.drop_nil, Rh, Rg, Rf, Ja] at hi1
          refine go_ ?_
          refine Rd 1 1 (c0.out) ?_
          rintro _ _ ⟨rfl, rfl⟩
          unfold prS
          refine go_ ?_
          refine Rd 1 1 (c1.out) ?_
          rintro _ _ ⟨rfl, rfl⟩
          refine go_ ?_
          refine Rd 1 1 (c2.out) ?_
          rintro _ _ ⟨rfl, rfl⟩
          refine go_ ?_
          refine Rd 1 1 (c0.out) ?_
          rintro _ _ ⟨rfl, rfl⟩
          refine go_ ?_
          refine Rd 1 1 (c3.out) ?_
          rintro _ _ ⟨rfl, rfl⟩
          refine go_ ?_
          refine Qaa ?_
          refine rS (st' := prS i0 l σ1) Tryz.results64 ?_
          exact ⟨by rw [Qfo]; rfl, rfl⟩
theorem paren_w {l : List Tk} (hl : TkOk l) (n : Nat) (IH : ∀ m, m ≤ n → ∀ σ, Wf l σ → Fu l m 3 σ → PatC l m σ) (σ : ST) (hw : Wf l σ) (hp : isS l σ 0 sPar = true) (hz : σ.bad = 0) (hf : Fu l (n + 1) 2 σ) : ParenC l (n + 1) σ := by
  intro i0
  have b1 : σ.i ≤ 150000 := Nat.le_trans (hw.le hl) (by decide)
  have hn : 0 < n := by
    have := hf.2 hz
    unfold Wf at hw; omega
  have c0 := Hh (Qco i0 l σ hl.len hl.pos b1)
  have hin := Qfd b1
  have h1 := Qbi hl (Qcn hp)
  clear hp
  have b2 : (incS σ).i ≤ 150000 := Nat.le_trans (h1.1.le hl) (by decide)
  have c1 := Hh (is_p i0 l (incS σ) 0 0 rfl sRap hl.len hl.pos (by omega) (by decide))
  have c2 := Hh (named_p i0 l (incS σ) hl.len hl.pos b2)
  have HT := Hh (show Qer l (n + 1) σ = (if isS l (incS σ) 0 sRap then (.mk 9 (tkg l σ.i).at_ ⟨#[]⟩ 0 [], incS (incS σ)) else if !Qde l (incS σ) 0 then ((patS l n (incS σ)).1, Qaf l sRap (patS l n (incS σ)).2) else ((parL l n (tkg l σ.i).at_ (.mk 6 (tkg l (incS σ).i).at_ (Qas l (incS σ)).1 0 []) (Qas l (incS σ)).2).1, Qaf l sRap (parL l n (tkg l σ.i).at_ (.mk 6 (tkg l (incS σ).i).at_ (Qas l (incS σ)).1 0 []) (Qas l (incS σ)).2).2)) from by simp only [Qer])
  have hin3 : IntKind.i64.wrap (((incS σ).i : Int) + 1) = (((incS σ).i + 1 : Nat) : Int) := Qfd b2
  obtain ⟨i, a, b⟩ := σ
  simp only at hz hin
  subst hz
  generalize (tkg l i).at_ = at0 at *
  unfold sRap at c1
  cases hr : isS l (incS ⟨i, a, 0⟩) 0 sRap with
  | true =>
    rw [hr, if_pos rfl] at HT
    unfold sRap at hr
    rw [HT.out]
    clear HT hf IH c2 h1
    refine pG Tryz.func105 Tryz.ntmps105 ?_
    refine Jd ?_
    intro i1 hi1
    simp only [prS, List.cons_append, List.nil_append, List.append_nil, List.drop_succ_cons, List.drop_zero, List.drop_nil, Rh, Rg, Rf, Ja] at hi1
    refine go_ ?_
    refine Rd 1 1 (c0.out) ?_
    rintro _ _ ⟨rfl, rfl⟩
    unfold prS
    refine go_ ?_
    refine Qaa ?_
    refine Rd 1 1 (c1.out) ?_
    rintro _ _ ⟨rfl, rfl⟩
    unfold prS
    refine go_ ?_
    refine Qaa ?_
    refine Qaa ?_
    refine rS (st' := prS i0 l (incS (incS ⟨i, a, 0⟩))) Tryz.results105 ?_
    exact ⟨by rw [Qfo]; rfl, rfl⟩
  | false =>
    rw [hr, if_neg (by decide)] at HT
    unfold sRap at hr
    cases hnm : Qde l (incS ⟨i, a, 0⟩) 0 with
    | false =>
      rw [hnm, if_pos (show (!false) = true from rfl)] at HT
      rw [HT.out]
      have c3 := IH n (Nat.le_refl _) _ h1.1 (hf.next hw h1 hn (by omega)) i0
      have c4 := Qct i0 l _ sRap hl.len hl.pos (Nat.le_trans (((pat_adv hl n).2.2 _ h1.1).1.1.le hl) (by decide))
      clear HT hf IH h1 hin3
      generalize (patS l n (incS ⟨i, a, 0⟩)).1 = A at *
      generalize (patS l n (incS ⟨i, a, 0⟩)).2 = σ1 at *
      generalize Qaf l sRap σ1 = σ2 at *
      simp only [aggD, Jg, List.map_cons, List.map_nil] at c3 ⊢
      unfold sRap at c4
      have C3 := Hh c3
      have C4 := Hh c4
      clear c3 c4
      refine pG Tryz.func105 Tryz.ntmps105 ?_
      refine Jd ?_
      intro i1 hi1
      simp only [prS, List.cons_append, List.nil_append, List.append_nil, List.drop_succ_cons, List.drop_zero, List.drop_nil, Rh, Rg, Rf, Ja] at hi1
      refine go_ ?_
      refine Rd 1 1 (c0.out) ?_
      rintro _ _ ⟨rfl, rfl⟩
      unfold prS
      refine go_ ?_
      refine Qaa ?_
      refine Rd 1 1 (c1.out) ?_
      rintro _ _ ⟨rfl, rfl⟩
      refine go_ ?_
      refine Rd 1 1 (c2.out) ?_
      rintro _ _ ⟨rfl, rfl⟩
      refine go_ ?_
      refine Rd 1 1 (C3.out) ?_
      rintro _ _ ⟨rfl, rfl⟩
      refine go_ ?_
      refine Jd ?_
      intro i2 hi2
      simp only [prS, List.cons_append, List.nil_append, List.append_nil, List.drop_succ_cons, List.drop_zero, List.drop_nil, Rh, Rg, Rf, Ja] at hi2
      refine go_ ?_
      refine Qaa ?_
      refine Rd 2 1 (C4.out) ?_
      rintro _ _ ⟨rfl, rfl⟩
      refine go_ ?_
      refine Qaa ?_
      refine rS (st' := prS i0 l σ2) Tryz.results105 ?_
      exact ⟨rfl, rfl⟩
    | true =>
      rw [hnm, if_neg (by decide)] at HT
      rw [HT.out]
      have h2 := h1.trans (Qeu hl h1.1).adv
      have c3 := Hh (Qco i0 l (incS ⟨i, a, 0⟩) hl.len hl.pos b2)
      have c4 := Hh (name_p i0 l (incS ⟨i, a, 0⟩) hl.len hl.pos b2)
      have HF := Hh (hf.next hw h2 hn (d := 4) (by omega))
      have HW := Hh h2.1
      clear HT hf h1 h2 hin3
      generalize (tkg l (incS ⟨i, a, 0⟩).i) = t1 at *
      generalize (Qas l (incS ⟨i, a, 0⟩)).1 = x at *
      generalize (Qas l (incS ⟨i, a, 0⟩)).2 = σ1 at *
      have HG : ∃ r, r = parL l n at0 (.mk 6 t1.at_ x 0 []) σ1 := ⟨_, rfl⟩
      obtain ⟨r, hr2⟩ := HG
      have HR := Hh hr2.symm
      rw [← hr2]
      clear hr2
      refine pG Tryz.func105 Tryz.ntmps105 ?_
      refine Jd ?_
      intro i1 hi1
      simp only [prS, List.cons_append, List.nil_append, List.append_nil, List.drop_succ_cons, List.drop_zero, List.drop_nil, Rh, Rg, Rf, Ja] at hi1
      refine go_ ?_
      refine Rd 1 1 (c0.out) ?_
      rintro _ _ ⟨rfl, rfl⟩
      unfold prS
      refine go_ ?_
      refine Qaa ?_
      refine Rd 1 1 (c1.out) ?_
      rintro _ _ ⟨rfl, rfl⟩
      refine go_ ?_
      refine Rd 1 1 (c2.out) ?_
      rintro _ _ ⟨rfl, rfl⟩
      refine go_ ?_
      refine Rd 1 1 (c3.out) ?_
      rintro _ _ ⟨rfl, rfl⟩
      refine go_ ?_
      refine Rd 1 1 (c4.out) ?_
      rintro _ _ ⟨rfl, rfl⟩
      refine go_ ?_
      refine Jd ?_
      intro i2 hi2
      simp only [prS, List.cons_append, List.nil_append, List.append_nil, List.drop_succ_cons, List.drop_zero, List.drop_nil, Rh, Rg, Rf, Ja] at hi2
      refine go_ ?_
      refine Qaa ?_
      refine Qjg i2 4 25 5 eQ (by rfl) (by rfl) (by intro g; simp [St.setBox, *]; rfl) (by decide) ?_
      intro g2 hg2
      refine Qay (ι := Nat × Nd × ST) (fun y => y.1 ≤ n ∧ Wf l y.2.2 ∧ Fu l y.1 4 y.2.2 ∧ parL l y.1 at0 y.2.1 y.2.2 = r ∧ (y.2.2.bad = 0 → y.2.1.sub.length ≤ y.2.2.i)) (fun y => [(0, .ptr i0 0), (2, .ptr i1 0), (3, .d (.v (.int .i64 at0))), (5, .ptr i2 0)])
        (fun y => .tok g2 25 5 y.2.1.sub.length :: .box i2 25 [.d (.v (.int .i64 y.2.1.kind)), .d (.v (.int .i64 y.2.1.at)), .d (.v (.string y.2.1.name)), .d (.v (.int .i64 y.2.1.num)), .own g2 (y.2.1.sub.map encD)] :: .box i1 25 [.d (.v (.int .i64 0)), .d (.v (.int .i64 0)), .d (.v (.string ByteArray.empty)), .d (.v (.int .i64 0)), .nils] :: prS i0 l y.2.2)
        (fun y => y.1) (n, .mk 6 t1.at_ x 0 [], σ1) ⟨Nat.le_refl _, HW.out, HF.out, HR.out, fun _ => Nat.zero_le _⟩ ?_ ?_ ?_
      · exact sU
      · exact dR
      · rintro ⟨m, q, τ⟩ ⟨hm, hw, hf, hr, hsub⟩
        simp only at hm hw hf hr hsub ⊢
        have b3 : τ.i ≤ 150000 := Nat.le_trans (hw.le hl) (by decide)
        obtain ⟨m, rfl⟩ : ∃ k, m = k + 1 := ⟨m - 1, by have := hf.1; omega⟩
        simp only [parL] at hr
        have B0 := Hh (pattern_p i0 l τ hl.len hl.pos b3)
        have B1 := Qct i0 l τ sRap hl.len hl.pos b3
        unfold sRap at B1
        have B1 := Hh B1
        by_cases hz : τ.bad = 0
        · cases hbg : Qdu l τ with
          | true =>
            rw [if_pos ⟨hz, hbg⟩] at hr
            have hm0 : 1 < m := by
              have := hf.2 hz
              unfold Wf at hw; omega
            have hA := ((pat_adv hl m).2.2 τ hw).2 hm0
            have c5 := IH m (by omega) τ hw (hf.same hw (Adv.refl hw) (by omega) (by omega)) i0
            have HF2 := Hh (hf.next hw hA (by omega) (d := 4) (by omega))
            have HA2 := Hh hA
            have HR2 := Hh hr
            have hsl : q.sub.length ≤ 150000 := Nat.le_trans (hsub hz) b3
            have HS := Hh hsub
            clear hr hf hA hw hsub
            generalize (patS l m τ).1 = X at *
            generalize (patS l m τ).2 = τ2 at *
            simp only [aggD, Jg, List.map_cons, List.map_nil] at c5
            have C5 := Hh c5
            clear c5
            unfold prS
            refine go_ ?_
            refine Rd 3 1 (B0.out) ?_
            rintro _ _ ⟨rfl, rfl⟩
            refine go_ ?_
            refine Qaa ?_
            refine Qaa ?_
            refine Qiq (J := Qcz [(i2, _)]) [(0, .a), (1, .a), (2, .a), (3, .e), (4, .a), (5, .e), (6, .a), (7, .e)] (by kernel_rfl) (by rfl) (by kernel_rfl) (by (repeat (first | exact Qbr _ | refine Jt (by simp [St.box?, *] <;> rfl) ?_))) ?_
            refine lG ?_
            refine Qkq 3 1 (C5.out) ?_
            rintro _ _ ⟨rfl, rfl⟩
            refine ⟨.inr (by (repeat (first | exact Qbr _ | refine Jt (by simp [St.box?, *] <;> rfl) ?_))), ?_⟩
            refine lG ?_
            refine PL_bs ?_ rfl (by decide) rfl (by simp; rfl) (by rfl) (by simp; rfl) (by rfl) (by decide) (by decide) eQ (by simp [Qdf, toDs, PV.toD]; rfl)
            refine PL_app (q.sub.length + 1) ?_ ?_ ?_ ?_ ?_
            rotate_left
            · exact Qev fun _ => Qgc _
            · exact Qdj rfl
            · simp
            · exact .inr (by (repeat (first | exact Qbr _ | refine Jt (by simp [St.box?, *] <;> rfl) ?_)))
            refine lG ?_
            refine PLs ?_
            refine lG ?_
            refine go_ ?_
            refine ⟨(m, Nd.mk 8 at0 q.name q.num (q.sub ++ [X]), τ2), ⟨by omega, HA2.out.1, HF2.out, HR2.out, fun hb => ?_⟩, by simp only; omega, ?_, ?_⟩
            · have h3 := (HA2.out.2 hb).2
              have h4 := HS.out hz
              show (q.sub ++ [X]).length ≤ τ2.i
              rw [List.length_append]
              simp only [List.length_cons, List.length_nil]
              omega
            · exact sU
            · simp only [Nd.kind, Nd.at, Nd.name, Nd.num, Nd.sub, List.length_append, List.length_cons, List.length_nil, Nat.zero_add, List.map_append, List.map_cons, List.map_nil, Jg X]
              exact dR
          | false =>
            rw [if_neg (by rw [hbg]; simp)] at hr
            have HR2 := Hh hr
            clear hr hf
            unfold prS
            refine go_ ?_
            refine Rd 3 1 (B0.out) ?_
            rintro _ _ ⟨rfl, rfl⟩
            refine go_ ?_
            refine Rd 3 1 (B1.out) ?_
            rintro _ _ ⟨rfl, rfl⟩
            refine go_ ?_
            refine Qaa ?_
            refine rS (st' := prS i0 l (Qaf l sRap τ)) Tryz.results105 ?_
            exact ⟨by rw [← HR2.out]; simp only [aggD, Jg, List.map_cons, List.map_nil]; rfl, by rw [← HR2.out]; rfl⟩
        · rw [if_neg (by simp [hz])] at hr
          have HR2 := Hh hr
          clear hr hf
          unfold prS
          refine go_ ?_
          refine Rd 3 1 (B1.out) ?_
          rintro _ _ ⟨rfl, rfl⟩
          refine go_ ?_
          refine Qaa ?_
          refine rS (st' := prS i0 l (Qaf l sRap τ)) Tryz.results105 ?_
          exact ⟨by rw [← HR2.out]; simp only [aggD, Jg, List.map_cons, List.map_nil]; rfl, by rw [← HR2.out]; rfl⟩
theorem patterns_w {l : List Tk} (hl : TkOk l) : ∀ n, (∀ σ, Wf l σ → isS l σ 0 sPar = true → σ.bad = 0 → Fu l n 2 σ → ParenC l n σ) ∧ (∀ σ, Wf l σ → Fu l n 3 σ → PatC l n σ) := by
  intro n
  induction n using Nat.strongRecOn with
  | _ n ih =>
    match n with
    | 0 => exact ⟨fun _ _ _ _ h => absurd h.1 (Nat.lt_irrefl 0), fun _ _ h => absurd h.1 (Nat.lt_irrefl 0)⟩
    | n + 1 => exact ⟨fun σ hw hp hz hf => paren_w hl n (fun m hm σ hw hf => (ih m (by omega)).2 σ hw hf) σ hw hp hz hf, fun σ hw hf => pat_w hl n (ih n (Nat.lt_succ_self n)).1 σ hw hf⟩
section
variable {l : List Tk} (hl : TkOk l)
include hl
theorem Qki {σ : ST} (x : Nd) (a : Int) (h : Wf l σ) : Adv l σ (Qdh x a σ) := by
 unfold Qdh
 split
 ·exact (Qfj hl 2 a (by decide) h).adv
 ·exact Adv.refl h
theorem patF_adv {σ : ST} (h : Wf l σ) : AdvS l σ (patS l (patF l) σ).2 := ((pat_adv hl (patF l)).2.2 σ h).2 (by unfold patF; omega)
theorem Qjs : ∀ (n : Nat) (acc : List Nd) (σ : ST), Wf l σ → Adv l σ (Qbu l n acc σ).2 := by
  intro n
  induction n with
  | zero => intro acc σ h; exact Adv.refl h
  | succ n ih =>
    intro acc σ h
    simp only [Qbu]
    split
    · split
      · exact (Qfj hl 2 _ (by decide) h).adv
      · have h1 := patF_adv hl h
        have h2 := h1.adv.trans (Qki hl (patS l (patF l) σ).1 (tkg l σ.i).at_ h1.1)
        exact h2.trans (ih _ _ h2.1)
    · exact Adv.refl h
theorem Qec {σ : ST} (h : Wf l σ) : Adv l σ (Qbm l (Qbw l) σ).2 := expr_adv hl (Qbw l) σ h
theorem Qjh {σ : ST} (h : Wf l σ) : AdvS l σ (conS l σ).2 := by
 unfold conS
 have h1 := Qeu hl h
 have h2 := h1.trans (Qak hl sCol h1.1).adv
 exact h2.trans (Qec hl h2.1)
theorem bind_adv {σ : ST} (h : Wf l σ) : AdvS l σ (Qgn l σ).2 := by
 unfold Qgn
 have h1 := Qak hl sPar h
 have h2 := h1.trans (Qjh hl h1.1).adv
 exact h2.trans (Qak hl sRap h2.1).adv
theorem line_adv {σ : ST} (h : Wf l σ) : AdvS l σ (Qgt l σ).2 := by
 unfold Qgt
 have h1 := Qjh hl h
 exact h1.trans (Qak hl sSem h1.1).adv
end
theorem Qjx {l : List Tk} (hl : TkOk l) (i0 : Nat) (σ : ST) (hw : Wf l σ) : PCalls Tryz.prog 22 [.ptr i0 0] (prS i0 l σ) fun p s => p = aggD (Qbm l (Qbw l) σ).1 ∧ s = prS i0 l (Qbm l (Qbw l) σ).2 :=
 expr_p hl i0 (Qbw l) σ hw ⟨by unfold Qbw; omega, fun _ => by unfold Qbw; omega⟩
theorem open_p {l : List Tk} (hl : TkOk l) (i0 : Nat) (σ : ST) (hw : Wf l σ) : PCalls Tryz.prog 78 [.ptr i0 0] (prS i0 l σ) fun p s => p = .d (.v (.bool (Qfa l σ))) ∧ s = prS i0 l σ := by
 have c1 := Hh (is_p i0 l σ 0 0 rfl sKet hl.len hl.pos (by have := hw.le hl; omega) (by decide))
 have HO := Hh (show Qfa l σ = !isS l σ 0 sKet from rfl)
 unfold sKet at c1
 refine pG Tryz.func78 Tryz.ntmps78 ?_
 refine Re (c1.out) ?_
 rintro _ _ ⟨rfl, rfl⟩
 refine go_ ?_
 refine rS (st' := prS i0 l σ) Tryz.results78 ?_
 exact ⟨by rw [HO.out]; rfl, rfl⟩
theorem paren0_p {l : List Tk} (hl : TkOk l) (i0 : Nat) (σ : ST) (hw : Wf l σ) : PCalls Tryz.prog 74 [.ptr i0 0] (prS i0 l σ) fun p s => p = .d (.v (.bool (Qft l σ))) ∧ s = prS i0 l σ := by
 have c1 := Hh (is_p i0 l σ 0 0 rfl sPar hl.len hl.pos (by have := hw.le hl; omega) (by decide))
 have HO := Hh (show Qft l σ = isS l σ 0 sPar from rfl)
 unfold sPar at c1
 refine pG Tryz.func74 Tryz.ntmps74 ?_
 refine Re (c1.out) ?_
 rintro _ _ ⟨rfl, rfl⟩
 refine go_ ?_
 refine rS (st' := prS i0 l σ) Tryz.results74 ?_
 exact ⟨by rw [HO.out]; rfl, rfl⟩
theorem con_p {l : List Tk} (hl : TkOk l) (i0 : Nat) (σ : ST) (hw : Wf l σ) : PCalls Tryz.prog 127 [.ptr i0 0] (prS i0 l σ) fun p s => p = aggD (conS l σ).1 ∧ s = prS i0 l (conS l σ).2 := by
 have b1 : σ.i ≤ 150000 := Nat.le_trans (hw.le hl) (by decide)
 have h1 := Qeu hl hw
 have h2 := h1.trans (Qak hl sCol h1.1).adv
 have c0 := Hh (Qco i0 l σ hl.len hl.pos b1)
 have c1 := Hh (name_p i0 l σ hl.len hl.pos b1)
 have c2 := Qct i0 l _ sCol hl.len hl.pos (Nat.le_trans (h1.1.le hl) (by decide))
 have c3 := Qjx hl i0 _ h2.1
 have HT := Hh (show conS l σ = (⟨(Qas l σ).1, (tkg l σ.i).at_, (Qbm l (Qbw l) (Qaf l sCol (Qas l σ).2)).1⟩, (Qbm l (Qbw l) (Qaf l sCol (Qas l σ).2)).2) from rfl)
 rw [HT.out]
 clear HT h1 h2
 unfold sCol at c2
 generalize (Qas l σ).1 = x at *
 generalize (Qas l σ).2 = σ1 at *
 change PCalls _ _ _ _ (fun p st => p = PV.tup [] ∧ st = prS i0 l (Qaf l sCol σ1)) at c2
 generalize Qaf l sCol σ1 = σ2 at *
 generalize (Qbm l (Qbw l) σ2).1 = A at *
 generalize (Qbm l (Qbw l) σ2).2 = σ3 at *
 simp only [aggD, Jg, Jj, List.map_cons, List.map_nil] at c3 ⊢
 have C2 := Hh c2
 have C3 := Hh c3
 clear c2 c3
 refine pG Tryz.func127 Tryz.ntmps127 ?_
 refine Jd ?_
 intro i1 hi1
 simp only [prS, List.cons_append, List.nil_append, List.append_nil, List.drop_succ_cons, List.drop_zero, List.drop_nil, Rh, Rg, Rf, Ja] at hi1
 refine go_ ?_
 refine Rd 1 1 (c0.out) ?_
 rintro _ _ ⟨rfl, rfl⟩
 refine go_ ?_
 refine Rd 1 1 (c1.out) ?_
 rintro _ _ ⟨rfl, rfl⟩
 refine go_ ?_
 refine Jd ?_
 intro i2 hi2
 simp only [prS, List.cons_append, List.nil_append, List.append_nil, List.drop_succ_cons, List.drop_zero, List.drop_nil, Rh, Rg, Rf, Ja] at hi2
 refine go_ ?_
 refine Qaa ?_
 refine Rd 2 1 (C2.out) ?_
 rintro _ _ ⟨rfl, rfl⟩
 refine go_ ?_
 refine Rd 2 1 (C3.out) ?_
 rintro _ _ ⟨rfl, rfl⟩
 refine go_ ?_
 refine Qaa ?_
 refine Qaa ?_
 refine rS (st' := prS i0 l σ3) Tryz.results127 ?_
 exact ⟨rfl, rfl⟩
theorem bind_p {l : List Tk} (hl : TkOk l) (i0 : Nat) (σ : ST) (hw : Wf l σ) : PCalls Tryz.prog 75 [.ptr i0 0] (prS i0 l σ) fun p s => p = aggD (Qgn l σ).1 ∧ s = prS i0 l (Qgn l σ).2 := by
 have b1 : σ.i ≤ 150000 := Nat.le_trans (hw.le hl) (by decide)
 have h1 := Qak hl sPar hw
 have h2 := h1.trans (Qjh hl h1.1).adv
 have c1 := Qct i0 l σ sPar hl.len hl.pos b1
 have c2 := con_p hl i0 _ h1.1
 have c3 := Qct i0 l _ sRap hl.len hl.pos (Nat.le_trans (h2.1.le hl) (by decide))
 have HT := Hh (show Qgn l σ = ((conS l (Qaf l sPar σ)).1, Qaf l sRap (conS l (Qaf l sPar σ)).2) from rfl)
 rw [HT.out]
 clear HT h1 h2
 generalize Qaf l sPar σ = σ1 at *
 generalize (conS l σ1).1 = A at *
 generalize (conS l σ1).2 = σ2 at *
 generalize Qaf l sRap σ2 = σ3 at *
 unfold sPar at c1
 unfold sRap at c3
 simp only [aggD, Jg, Jj, List.map_cons, List.map_nil] at c2 ⊢
 have C1 := Hh c1
 have C2 := Hh c2
 have C3 := Hh c3
 clear c1 c2 c3
 refine pG Tryz.func75 Tryz.ntmps75 ?_
 refine Jd ?_
 intro i1 hi1
 simp only [prS, List.cons_append, List.nil_append, List.append_nil, List.drop_succ_cons, List.drop_zero, List.drop_nil, Rh, Rg, Rf, Ja] at hi1
 refine go_ ?_
 refine Rd 1 1 (C1.out) ?_
 rintro _ _ ⟨rfl, rfl⟩
 refine go_ ?_
 refine Rd 1 1 (C2.out) ?_
 rintro _ _ ⟨rfl, rfl⟩
 refine go_ ?_
 refine Jd ?_
 intro i2 hi2
 simp only [prS, List.cons_append, List.nil_append, List.append_nil, List.drop_succ_cons, List.drop_zero, List.drop_nil, Rh, Rg, Rf, Ja] at hi2
 refine go_ ?_
 refine Qaa ?_
 refine Rd 2 1 (C3.out) ?_
 rintro _ _ ⟨rfl, rfl⟩
 refine go_ ?_
 refine Qaa ?_
 refine rS (st' := prS i0 l σ3) Tryz.results75 ?_
 exact ⟨rfl, rfl⟩
theorem line_p' {l : List Tk} (hl : TkOk l) (i0 : Nat) (σ : ST) (hw : Wf l σ) : PCalls Tryz.prog 79 [.ptr i0 0] (prS i0 l σ) fun p s => p = aggD (Qgt l σ).1 ∧ s = prS i0 l (Qgt l σ).2 := by
 have h1 := Qjh hl hw
 have c2 := con_p hl i0 _ hw
 have c3 := Qct i0 l _ sSem hl.len hl.pos (Nat.le_trans (h1.1.le hl) (by decide))
 have HT := Hh (show Qgt l σ = ((conS l σ).1, Qaf l sSem (conS l σ).2) from rfl)
 rw [HT.out]
 clear HT h1
 generalize (conS l σ).1 = A at *
 generalize (conS l σ).2 = σ2 at *
 generalize Qaf l sSem σ2 = σ3 at *
 unfold sSem at c3
 simp only [aggD, Jg, Jj, List.map_cons, List.map_nil] at c2 ⊢
 have C2 := Hh c2
 have C3 := Hh c3
 clear c2 c3
 refine pG Tryz.func79 Tryz.ntmps79 ?_
 refine Jd ?_
 intro i1 hi1
 simp only [prS, List.cons_append, List.nil_append, List.append_nil, List.drop_succ_cons, List.drop_zero, List.drop_nil, Rh, Rg, Rf, Ja] at hi1
 refine go_ ?_
 refine Rd 1 1 (C2.out) ?_
 rintro _ _ ⟨rfl, rfl⟩
 refine go_ ?_
 refine Jd ?_
 intro i2 hi2
 simp only [prS, List.cons_append, List.nil_append, List.append_nil, List.drop_succ_cons, List.drop_zero, List.drop_nil, Rh, Rg, Rf, Ja] at hi2
 refine go_ ?_
 refine Qaa ?_
 refine Rd 2 1 (C3.out) ?_
 rintro _ _ ⟨rfl, rfl⟩
 refine go_ ?_
 refine Qaa ?_
 refine rS (st' := prS i0 l σ3) Tryz.results79 ?_
 exact ⟨rfl, rfl⟩
theorem pats_p {l : List Tk} (hl : TkOk l) (i0 : Nat) (σ : ST) (hw : Wf l σ) : PCalls Tryz.prog 40 [.ptr i0 0] (prS i0 l σ) fun p s => p = .d (slD (Qbu l (l.length + 1) [] σ).1) ∧ s = prS i0 l (Qbu l (l.length + 1) [] σ).2 := by
  have HG : ∃ r, r = Qbu l (l.length + 1) [] σ := ⟨_, rfl⟩
  obtain ⟨r, hr⟩ := HG
  have HR := Hh hr.symm
  rw [← hr]
  clear hr
  have HW := Hh hw
  clear hw
  unfold slD
  refine pG Tryz.func40 Tryz.ntmps40 ?_
  refine PW_own 3 25 5 (by decide) (by simp [PF.get] <;> rfl) fun g hg => ?_
  refine Qay (ι := Nat × List Nd × ST) (fun y => Wf l y.2.2 ∧ 0 < y.1 ∧ (y.2.2.bad = 0 → l.length - y.2.2.i + 1 ≤ y.1) ∧ Qbu l y.1 y.2.1 y.2.2 = r ∧ y.2.1.length ≤ 24) (fun y => [(0, .ptr i0 0), (3, .own g (y.2.1.map encD))])
    (fun y => .tok g 25 5 y.2.1.length :: prS i0 l y.2.2) (fun y => y.1) (l.length + 1, [], σ) ⟨HW.out, Nat.succ_pos _, fun _ => by simp only; omega, HR.out, Nat.zero_le _⟩ ?_ ?_ ?_
  · exact sU
  · exact dR
  · rintro ⟨m, acc, τ⟩ ⟨hw, hm0, hm, hr, hacc⟩
    simp only at hw hm0 hm hr hacc ⊢
    obtain ⟨m, rfl⟩ : ∃ k, m = k + 1 := ⟨m - 1, by omega⟩
    have b3 : τ.i ≤ 150000 := Nat.le_trans (hw.le hl) (by decide)
    have B0 := Hh (pattern_p i0 l τ hl.len hl.pos b3)
    have B1 := Hh (Qco i0 l τ hl.len hl.pos b3)
    simp only [Qbu] at hr
    by_cases hz : τ.bad = 0
    · cases hbg : Qdu l τ with
      | true =>
        rw [if_pos ⟨hz, hbg⟩] at hr
        by_cases h24 : 24 ≤ acc.length
        · rw [if_pos h24] at hr
          have hc24 : (24 : Int) ≤ (acc.length : Int) := by omega
          have B2 := Hh (Qia i0 l τ 2 (tkg l τ.i).at_)
          have HR2 := Hh hr
          clear hr hm
          unfold prS
          refine go_ ?_
          refine Rd 1 1 (B0.out) ?_
          rintro _ _ ⟨rfl, rfl⟩
          refine go_ ?_
          refine Rd 1 1 (B1.out) ?_
          rintro _ _ ⟨rfl, rfl⟩
          refine go_ ?_
          refine Rd 1 1 (B2.out) ?_
          rintro _ _ ⟨rfl, rfl⟩
          refine go_ ?_
          refine rS (st' := prS i0 l (Qbc 2 (tkg l τ.i).at_ τ)) Tryz.results40 ?_
          exact ⟨by rw [← HR2.out]; rfl, by rw [← HR2.out]; rfl⟩
        · rw [if_neg h24] at hr
          have hc24 : ¬ (24 : Int) ≤ (acc.length : Int) := by omega
          have hA := patF_adv hl hw
          have hA2 := hA.trans (Qki hl (patS l (patF l) τ).1 (tkg l τ.i).at_ hA.1)
          have c2 := (patterns_w hl (patF l)).2 τ hw ⟨by unfold patF; omega, fun _ => by unfold patF; omega⟩ i0
          have c3 := checked_p i0 l (patS l (patF l) τ).1 (tkg l τ.i).at_ (patS l (patF l) τ).2
          have HA := Hh hA2
          have HM := Hh hm
          have HR2 := Hh hr
          clear hr hm hA hA2
          generalize (tkg l τ.i).at_ = at0 at *
          generalize (patS l (patF l) τ).1 = X at *
          generalize (patS l (patF l) τ).2 = τ1 at *
          generalize Qdh X at0 τ1 = τ2 at *
          simp only [aggD, Jg, List.map_cons, List.map_nil] at c2 c3
          have C2 := Hh c2
          have C3 := Hh c3
          clear c2 c3
          unfold prS
          refine go_ ?_
          refine Rd 1 1 (B0.out) ?_
          rintro _ _ ⟨rfl, rfl⟩
          refine go_ ?_
          refine Rd 1 1 (B1.out) ?_
          rintro _ _ ⟨rfl, rfl⟩
          refine go_ ?_
          refine Rd 1 1 (C2.out) ?_
          rintro _ _ ⟨rfl, rfl⟩
          refine go_ ?_
          refine Rd 1 1 (C3.out) ?_
          rintro _ _ ⟨rfl, rfl⟩
          refine go_ ?_
          refine Qad ?_
          refine Qch (acc.length + 1) ?_ ?_ ?_ ?_
          · simp
          · exact Qev fun _ => Qgc _
          · exact Qdj rfl
          refine go_ ?_
          refine ⟨(m, acc ++ [X], τ2), ⟨HA.out.1, ?_, fun hb => ?_, HR2.out, by simp only [List.length_append, List.length_cons, List.length_nil]; omega⟩, by simp only; omega, ?_, ?_⟩
          · have h1 := HM.out hz
            have h2 := hw
            unfold Wf at h2
            simp only
            omega
          · have h1 := HM.out hz
            have h2 := (HA.out.2 hb).2
            have h3 := HA.out.1
            unfold Wf at h3
            simp only
            omega
          · refine Jr (by simp [PF.get] <;> rfl) rfl ?_
            refine Jr (by simp [PF.get] <;> rfl) (by simp only [List.map_append, List.map_cons, List.map_nil, Jg X]) ?_
            exact sU
          · simp only [List.length_append, List.length_cons, List.length_nil, Nat.zero_add]
            exact dR
      | false =>
        rw [if_neg (by rw [hbg]; simp)] at hr
        have HR2 := Hh hr
        clear hr hm
        unfold prS
        refine go_ ?_
        refine Rd 1 1 (B0.out) ?_
        rintro _ _ ⟨rfl, rfl⟩
        refine go_ ?_
        refine rS (st' := prS i0 l τ) Tryz.results40 ?_
        exact ⟨by rw [← HR2.out]; rfl, by rw [← HR2.out]; rfl⟩
    · rw [if_neg (by simp [hz])] at hr
      have HR2 := Hh hr
      clear hr hm
      unfold prS
      refine go_ ?_
      refine rS (st' := prS i0 l τ) Tryz.results40 ?_
      exact ⟨by rw [← HR2.out]; rfl, by rw [← HR2.out]; rfl⟩
theorem eqT_e : ∀ a b : Nd, eNd a = eNd b → eqT a b = true := by
  refine Nd.ind ?_
  intro k at_ s n sub ih b h
  obtain ⟨k', at', s', n', sub'⟩ := b
  simp only [eNd, Nd.mk.injEq] at h
  obtain ⟨rfl, -, rfl, rfl, h⟩ := h
  have : ∀ l l' : List Nd, (∀ x ∈ l, ∀ b, eNd x = eNd b → eqT x b = true) → eNds l = eNds l' → eqL l l' = true := by
    intro l
    induction l with
    | nil =>
      intro l' _ h
      cases l' with
      | nil => rfl
      | cons t ts => cases h
    | cons t ts iht =>
      intro l' hl h
      cases l' with
      | nil => cases h
      | cons t' ts' =>
        simp only [eNds, List.cons.injEq] at h
        simp only [eqL]
        rw [hl t (by simp) t' h.1, iht ts' (fun x hx => hl x (by simp [hx])) h.2]
        rfl
  simp only [eqT, this sub sub' ih h, beq_self_eq_true, Bool.and_self]
theorem Qjk {a b : Nd} (h : eNd a = eNd b) (hs : Qbj a ≤ 128) : Qbv a b = true := by
 have hb : Qbj b ≤ 128 := by rw [← depth_e b, ← h, depth_e]; exact hs
 unfold Qbv Qcs
 rw [eqT_e a b h, decide_eq_true hs, decide_eq_true hb]
 rfl
section
variable {l : List Tk} (hl : TkOk l)
include hl
theorem row_adv {σ : ST} (h : Wf l σ) : AdvS l σ (rowS l σ).2 := by
 unfold rowS
 have h1 := Qjs hl (l.length + 1) [] σ h
 simp only
 split
 ·rename_i he
  have h2 := h1.trans (Qbi hl (Qcn he.2)).adv
  have h3 := h2.trans (Qec hl h2.1)
  exact h3.transS (Qak hl sSem h3.1)
 ·exact h1.transS (Qak hl sSem h1.1)
theorem Qlo : ∀ (n : Nat) (acc : List Rw) (σ : ST), Wf l σ → Adv l σ (Qeb l n acc σ).2 := by
  intro n
  induction n with
  | zero => intro acc σ h; exact Adv.refl h
  | succ n ih =>
    intro acc σ h
    simp only [Qeb]
    split
    · split
      · exact (Qfj hl 2 _ (by decide) h).adv
      · have h1 := row_adv hl h
        exact h1.adv.trans (ih _ _ h1.1)
    · exact Adv.refl h
theorem list_adv {most : Nat} {more : ST → Bool} {one : ST → Bd × ST} (ho : ∀ σ, Wf l σ → AdvS l σ (one σ).2) : ∀ (n : Nat) (acc : List Bd) (σ : ST), Wf l σ → Adv l σ (Qdn l most more one n acc σ).2 := by
  intro n
  induction n with
  | zero => intro acc σ h; exact Adv.refl h
  | succ n ih =>
    intro acc σ h
    simp only [Qdn]
    split
    · split
      · exact (Qfj hl 2 _ (by decide) h).adv
      · have h1 := ho σ h
        exact h1.adv.trans (ih _ _ h1.1)
    · exact Adv.refl h
end
theorem row_p' {l : List Tk} (hl : TkOk l) (i0 : Nat) (σ : ST) (hw : Wf l σ) : PCalls Tryz.prog 128 [.ptr i0 0] (prS i0 l σ) fun p s => p = aggD (rowS l σ).1 ∧ s = prS i0 l (rowS l σ).2 := by
  have b1 : σ.i ≤ 150000 := Nat.le_trans (hw.le hl) (by decide)
  have h1 := Qjs hl (l.length + 1) [] σ hw
  have c0 := Hh (Qco i0 l σ hl.len hl.pos b1)
  have c1 := pats_p hl i0 σ hw
  have HT := Hh (show rowS l σ = (if (Qbu l (l.length + 1) [] σ).2.bad = 0 ∧ isS l (Qbu l (l.length + 1) [] σ).2 0 sEq then (⟨(tkg l σ.i).at_, (Qbu l (l.length + 1) [] σ).1, true, (Qbm l (Qbw l) (incS (Qbu l (l.length + 1) [] σ).2)).1⟩, Qaf l sSem (Qbm l (Qbw l) (incS (Qbu l (l.length + 1) [] σ).2)).2) else (⟨(tkg l σ.i).at_, (Qbu l (l.length + 1) [] σ).1, false, zNd⟩, Qaf l sSem (Qbu l (l.length + 1) [] σ).2)) from rfl)
  rw [HT.out]
  clear HT
  generalize (Qbu l (l.length + 1) [] σ).1 = ps at *
  generalize (Qbu l (l.length + 1) [] σ).2 = σ1 at *
  generalize (tkg l σ.i).at_ = at0 at *
  have hw1 := h1.1
  clear h1
  have b2 : σ1.i ≤ 150000 := Nat.le_trans (hw1.le hl) (by decide)
  have c2 := Hh (is_p i0 l σ1 0 0 rfl sEq hl.len hl.pos (by omega) (by decide))
  unfold sEq at c2
  unfold slD at c1
  have C1 := Hh c1
  clear c1
  by_cases hz : σ1.bad = 0
  · cases he : isS l σ1 0 sEq with
    | true =>
      have h2 := Qbi hl (Qcn he)
      unfold sEq at he
      rw [if_pos ⟨hz, rfl⟩]
      have c3 := Qjx hl i0 _ h2.1
      have c4 := Qct i0 l _ sSem hl.len hl.pos (Nat.le_trans ((Qec hl h2.1).1.le hl) (by decide))
      have hin := Qfd b2
      clear h2
      obtain ⟨i, a, b⟩ := σ1
      simp only at hz hin b2
      subst hz
      generalize (Qbm l (Qbw l) (incS ⟨i, a, 0⟩)).1 = A at *
      generalize (Qbm l (Qbw l) (incS ⟨i, a, 0⟩)).2 = σ3 at *
      generalize Qaf l sSem σ3 = σ4 at *
      unfold sSem at c4
      simp only [aggD, Jg, Jh, List.map_cons, List.map_nil] at c3 ⊢
      have C3 := Hh c3
      have C4 := Hh c4
      clear c3 c4
      refine pG Tryz.func128 Tryz.ntmps128 ?_
      refine Jd ?_
      intro i1 hi1
      simp only [prS, List.cons_append, List.nil_append, List.append_nil, List.drop_succ_cons, List.drop_zero, List.drop_nil, Rh, Rg, Rf, Ja] at hi1
      refine go_ ?_
      refine Rd 1 1 (c0.out) ?_
      rintro _ _ ⟨rfl, rfl⟩
      refine go_ ?_
      refine Rd 1 1 (C1.out) ?_
      rintro _ _ ⟨rfl, rfl⟩
      refine go_ ?_
      refine Jd ?_
      intro i2 hi2
      simp only [prS, List.cons_append, List.nil_append, List.append_nil, List.drop_succ_cons, List.drop_zero, List.drop_nil, Rh, Rg, Rf, Ja] at hi2
      refine go_ ?_
      refine Rc ?_
      unfold prS
      refine go_ ?_
      refine Rd 2 1 (c2.out) ?_
      rintro _ _ ⟨rfl, rfl⟩
      unfold prS
      refine go_ ?_
      refine Qaa ?_
      refine Rd 2 1 (C3.out) ?_
      rintro _ _ ⟨rfl, rfl⟩
      refine go_ ?_
      refine Qaa ?_
      refine Qaa ?_
      refine Rd 2 1 (C4.out) ?_
      rintro _ _ ⟨rfl, rfl⟩
      refine go_ ?_
      refine Qaa ?_
      refine rS (st' := prS i0 l σ4) Tryz.results128 ?_
      exact ⟨rfl, rfl⟩
    | false =>
      unfold sEq at he
      rw [if_neg (by simp)]
      have c4 := Qct i0 l σ1 sSem hl.len hl.pos b2
      generalize Qaf l sSem σ1 = σ4 at *
      unfold sSem at c4
      unfold zNd
      simp only [aggD, Jg, Jh, List.map_cons, List.map_nil, Nd.kind, Nd.at, Nd.name, Nd.num, Nd.sub]
      have C4 := Hh c4
      clear c4
      refine pG Tryz.func128 Tryz.ntmps128 ?_
      refine Jd ?_
      intro i1 hi1
      simp only [prS, List.cons_append, List.nil_append, List.append_nil, List.drop_succ_cons, List.drop_zero, List.drop_nil, Rh, Rg, Rf, Ja] at hi1
      refine go_ ?_
      refine Rd 1 1 (c0.out) ?_
      rintro _ _ ⟨rfl, rfl⟩
      refine go_ ?_
      refine Rd 1 1 (C1.out) ?_
      rintro _ _ ⟨rfl, rfl⟩
      refine go_ ?_
      refine Jd ?_
      intro i2 hi2
      simp only [prS, List.cons_append, List.nil_append, List.append_nil, List.drop_succ_cons, List.drop_zero, List.drop_nil, Rh, Rg, Rf, Ja] at hi2
      refine go_ ?_
      refine Rc ?_
      unfold prS
      refine go_ ?_
      refine Rd 2 1 (c2.out) ?_
      rintro _ _ ⟨rfl, rfl⟩
      refine go_ ?_
      refine Rd 2 1 (C4.out) ?_
      rintro _ _ ⟨rfl, rfl⟩
      refine go_ ?_
      refine Qaa ?_
      refine rS (st' := prS i0 l σ4) Tryz.results128 ?_
      exact ⟨rfl, rfl⟩
  · rw [if_neg (by simp [hz])]
    have c4 := Qct i0 l σ1 sSem hl.len hl.pos b2
    generalize Qaf l sSem σ1 = σ4 at *
    unfold sSem at c4
    unfold zNd
    simp only [aggD, Jg, Jh, List.map_cons, List.map_nil, Nd.kind, Nd.at, Nd.name, Nd.num, Nd.sub]
    have C4 := Hh c4
    clear c4
    refine pG Tryz.func128 Tryz.ntmps128 ?_
    refine Jd ?_
    intro i1 hi1
    simp only [prS, List.cons_append, List.nil_append, List.append_nil, List.drop_succ_cons, List.drop_zero, List.drop_nil, Rh, Rg, Rf, Ja] at hi1
    refine go_ ?_
    refine Rd 1 1 (c0.out) ?_
    rintro _ _ ⟨rfl, rfl⟩
    refine go_ ?_
    refine Rd 1 1 (C1.out) ?_
    rintro _ _ ⟨rfl, rfl⟩
    refine go_ ?_
    refine Jd ?_
    intro i2 hi2
    simp only [prS, List.cons_append, List.nil_append, List.append_nil, List.drop_succ_cons, List.drop_zero, List.drop_nil, Rh, Rg, Rf, Ja] at hi2
    refine go_ ?_
    refine Rc ?_
    unfold prS
    refine go_ ?_
    refine Rd 2 1 (C4.out) ?_
    rintro _ _ ⟨rfl, rfl⟩
    refine go_ ?_
    refine Qaa ?_
    refine rS (st' := prS i0 l σ4) Tryz.results128 ?_
    exact ⟨rfl, rfl⟩
theorem kind_p {l : List Tk} (hl : TkOk l) (i0 : Nat) (σ : ST) (hw : Wf l σ) : PCalls Tryz.prog 71 [.ptr i0 0] (prS i0 l σ) fun p s => p = .d (.v (.int .i64 (Qdy l σ))) ∧ s = prS i0 l σ := by
  have b1 : σ.i ≤ 200000 := Nat.le_trans (hw.le hl) (by decide)
  have c1 := Hh (is_p i0 l σ 0 0 rfl sData hl.len hl.pos b1 (by decide))
  have c2 := Hh (is_p i0 l σ 0 0 rfl sRec hl.len hl.pos b1 (by decide))
  have c3 := Hh (is_p i0 l σ 0 0 rfl sDef hl.len hl.pos b1 (by decide))
  have HK := Hh (show Qdy l σ = if isS l σ 0 sData then 1 else if isS l σ 0 sRec then 2 else if isS l σ 0 sDef then 3 else 0 from rfl)
  unfold sData sRec sDef at *
  refine pG Tryz.func71 Tryz.ntmps71 ?_
  refine Re (c1.out) ?_
  rintro _ _ ⟨rfl, rfl⟩
  cases h1 : isS l σ 0 ⟨#[100, 97, 116, 97]⟩ with
  | true =>
    rw [h1] at HK
    refine go_ ?_
    refine rS (st' := prS i0 l σ) Tryz.results71 ?_
    exact ⟨by rw [HK.out]; rfl, rfl⟩
  | false =>
    rw [h1] at HK
    refine go_ ?_
    refine Re (c2.out) ?_
    rintro _ _ ⟨rfl, rfl⟩
    cases h2 : isS l σ 0 ⟨#[114, 101, 99, 111, 114, 100]⟩ with
    | true =>
      rw [h2] at HK
      refine go_ ?_
      refine rS (st' := prS i0 l σ) Tryz.results71 ?_
      exact ⟨by rw [HK.out]; rfl, rfl⟩
    | false =>
      rw [h2] at HK
      refine go_ ?_
      refine Re (c3.out) ?_
      rintro _ _ ⟨rfl, rfl⟩
      cases h3 : isS l σ 0 ⟨#[100, 101, 102]⟩ with
      | true =>
        rw [h3] at HK
        refine go_ ?_
        refine rS (st' := prS i0 l σ) Tryz.results71 ?_
        exact ⟨by rw [HK.out]; rfl, rfl⟩
      | false =>
        rw [h3] at HK
        refine go_ ?_
        refine rS (st' := prS i0 l σ) Tryz.results71 ?_
        exact ⟨by rw [HK.out]; rfl, rfl⟩
theorem rows_p {l : List Tk} (hl : TkOk l) (i0 : Nat) (σ : ST) (hw : Wf l σ) : PCalls Tryz.prog 77 [.ptr i0 0] (prS i0 l σ) fun p s => p = .d (slD (Qeb l (l.length + 1) [] σ).1) ∧ s = prS i0 l (Qeb l (l.length + 1) [] σ).2 := by
  have HG : ∃ r, r = Qeb l (l.length + 1) [] σ := ⟨_, rfl⟩
  obtain ⟨r, hr⟩ := HG
  have HR := Hh hr.symm
  rw [← hr]
  clear hr
  have HW := Hh hw
  clear hw
  unfold slD
  refine pG Tryz.func77 Tryz.ntmps77 ?_
  refine PW_own 3 62 8 (by decide) (by simp [PF.get] <;> rfl) fun g hg => ?_
  refine Qay (ι := Nat × List Rw × ST) (fun y => Wf l y.2.2 ∧ 0 < y.1 ∧ (y.2.2.bad = 0 → l.length - y.2.2.i + 1 ≤ y.1) ∧ Qeb l y.1 y.2.1 y.2.2 = r ∧ y.2.1.length ≤ 32) (fun y => [(0, .ptr i0 0), (3, .own g (y.2.1.map encD))])
    (fun y => .tok g 62 8 y.2.1.length :: prS i0 l y.2.2) (fun y => y.1) (l.length + 1, [], σ) ⟨HW.out, Nat.succ_pos _, fun _ => by simp only; omega, HR.out, Nat.zero_le _⟩ ?_ ?_ ?_
  · exact sU
  · exact dR
  · rintro ⟨m, acc, τ⟩ ⟨hw, hm0, hm, hr, hacc⟩
    simp only at hw hm0 hm hr hacc ⊢
    obtain ⟨m, rfl⟩ : ∃ k, m = k + 1 := ⟨m - 1, by omega⟩
    have b3 : τ.i ≤ 150000 := Nat.le_trans (hw.le hl) (by decide)
    have B0 := Hh (open_p hl i0 τ hw)
    have B1 := Hh (Qco i0 l τ hl.len hl.pos b3)
    simp only [Qeb] at hr
    by_cases hz : τ.bad = 0
    · cases hbg : Qfa l τ with
      | true =>
        rw [if_pos ⟨hz, hbg⟩] at hr
        by_cases h24 : 32 ≤ acc.length
        · rw [if_pos h24] at hr
          have hc24 : (32 : Int) ≤ (acc.length : Int) := by omega
          have B2 := Hh (Qia i0 l τ 2 (tkg l τ.i).at_)
          have HR2 := Hh hr
          clear hr hm
          unfold prS
          refine go_ ?_
          refine Rd 1 1 (B0.out) ?_
          rintro _ _ ⟨rfl, rfl⟩
          refine go_ ?_
          refine Rd 1 1 (B1.out) ?_
          rintro _ _ ⟨rfl, rfl⟩
          refine go_ ?_
          refine Rd 1 1 (B2.out) ?_
          rintro _ _ ⟨rfl, rfl⟩
          refine go_ ?_
          refine rS (st' := prS i0 l (Qbc 2 (tkg l τ.i).at_ τ)) Tryz.results77 ?_
          exact ⟨by rw [← HR2.out]; rfl, by rw [← HR2.out]; rfl⟩
        · rw [if_neg h24] at hr
          have hc24 : ¬ (32 : Int) ≤ (acc.length : Int) := by omega
          have hA := row_adv hl hw
          have c2 := row_p' hl i0 τ hw
          have HA := Hh hA
          have HM := Hh hm
          have HR2 := Hh hr
          clear hr hm hA
          generalize (rowS l τ).1 = X at *
          generalize (rowS l τ).2 = τ2 at *
          simp only [aggD, Jh, Jg, List.map_cons, List.map_nil] at c2
          have C2 := Hh c2
          clear c2
          unfold prS
          refine go_ ?_
          refine Rd 1 1 (B0.out) ?_
          rintro _ _ ⟨rfl, rfl⟩
          refine go_ ?_
          refine Rd 1 1 (C2.out) ?_
          rintro _ _ ⟨rfl, rfl⟩
          refine go_ ?_
          refine Qad ?_
          refine Qch (acc.length + 1) ?_ ?_ ?_ ?_
          · simp
          · exact Qev fun _ => Qgc _
          · exact Qdj rfl
          refine go_ ?_
          refine ⟨(m, acc ++ [X], τ2), ⟨HA.out.1, ?_, fun hb => ?_, HR2.out, by simp only [List.length_append, List.length_cons, List.length_nil]; omega⟩, by simp only; omega, ?_, ?_⟩
          · have h1 := HM.out hz
            have h2 := hw
            unfold Wf at h2
            simp only
            omega
          · have h1 := HM.out hz
            have h2 := (HA.out.2 hb).2
            have h3 := HA.out.1
            unfold Wf at h3
            simp only
            omega
          · refine Jr (by simp [PF.get] <;> rfl) rfl ?_
            refine Jr (by simp [PF.get] <;> rfl) (by simp only [List.map_append, List.map_cons, List.map_nil, Jh X]) ?_
            exact sU
          · simp only [List.length_append, List.length_cons, List.length_nil, Nat.zero_add]
            exact dR
      | false =>
        rw [if_neg (by rw [hbg]; simp)] at hr
        have HR2 := Hh hr
        clear hr hm
        unfold prS
        refine go_ ?_
        refine Rd 1 1 (B0.out) ?_
        rintro _ _ ⟨rfl, rfl⟩
        refine go_ ?_
        refine rS (st' := prS i0 l τ) Tryz.results77 ?_
        exact ⟨by rw [← HR2.out]; rfl, by rw [← HR2.out]; rfl⟩
    · rw [if_neg (by simp [hz])] at hr
      have HR2 := Hh hr
      clear hr hm
      unfold prS
      refine go_ ?_
      refine rS (st' := prS i0 l τ) Tryz.results77 ?_
      exact ⟨by rw [← HR2.out]; rfl, by rw [← HR2.out]; rfl⟩
theorem list_p {l : List Tk} (hl : TkOk l) (i0 most f1 f2 : Nat) (hmost : most ≤ 24) (more : ST → Bool) (one : ST → Bd × ST) (hca1 : Qap Tryz.prog f1 = true) (hca2 : Qap Tryz.prog f2 = true) (hmo : ∀ σ, Wf l σ → PCalls Tryz.prog f1 [.ptr i0 0] (prS i0 l σ) fun p s => p = .d (.v (.bool (more σ))) ∧ s = prS i0 l σ) (hon : ∀ σ, Wf l σ → PCalls Tryz.prog f2 [.ptr i0 0] (prS i0 l σ) fun p s => p = aggD (one σ).1 ∧ s = prS i0 l (one σ).2) (hadv : ∀ σ, Wf l σ → AdvS l σ (one σ).2) (σ : ST) (hw : Wf l σ) : PCalls Tryz.prog 73 [.ptr i0 0, .d (.v (.int .i64 (most : Int))), .fn (.func f1) [.ptr i0 0] [], .fn (.func f2) [.ptr i0 0] []] (prS i0 l σ) fun p s => p = .d (slD (Qdn l most more one (l.length + 1) [] σ).1) ∧ s = prS i0 l (Qdn l most more one (l.length + 1) [] σ).2 := by
  have HG : ∃ r, r = Qdn l most more one (l.length + 1) [] σ := ⟨_, rfl⟩
  obtain ⟨r, hr⟩ := HG
  have HR := Hh hr.symm
  rw [← hr]
  clear hr
  have HW := Hh hw
  clear hw
  unfold slD
  refine pG Tryz.func73 Tryz.ntmps73 ?_
  refine PW_own 9 120 7 (by decide) (by simp [PF.get] <;> rfl) fun g hg => ?_
  refine Qay (ι := Nat × List Bd × ST) (fun y => Wf l y.2.2 ∧ 0 < y.1 ∧ (y.2.2.bad = 0 → l.length - y.2.2.i + 1 ≤ y.1) ∧ Qdn l most more one y.1 y.2.1 y.2.2 = r ∧ y.2.1.length ≤ most) (fun y => [(0, .ptr i0 0), (1, .d (.v (.int .i64 (most : Int)))), (2, .fn (.func f1) [.ptr i0 0] []), (3, .fn (.func f2) [.ptr i0 0] []), (9, .own g (y.2.1.map encD))])
    (fun y => .tok g 120 7 y.2.1.length :: prS i0 l y.2.2) (fun y => y.1) (l.length + 1, [], σ) ⟨HW.out, Nat.succ_pos _, fun _ => by simp only; omega, HR.out, Nat.zero_le _⟩ ?_ ?_ ?_
  · exact sU
  · exact dR
  · rintro ⟨m, acc, τ⟩ ⟨hw, hm0, hm, hr, hacc⟩
    simp only at hw hm0 hm hr hacc ⊢
    obtain ⟨m, rfl⟩ : ∃ k, m = k + 1 := ⟨m - 1, by omega⟩
    have b3 : τ.i ≤ 150000 := Nat.le_trans (hw.le hl) (by decide)
    have B0 := Hh (hmo τ hw)
    have B1 := Hh (Qco i0 l τ hl.len hl.pos b3)
    simp only [Qdn] at hr
    by_cases hz : τ.bad = 0
    · cases hbg : more τ with
      | true =>
        rw [if_pos ⟨hz, hbg⟩] at hr
        by_cases h24 : most ≤ acc.length
        · rw [if_pos h24] at hr
          have hc24 : (most : Int) ≤ (acc.length : Int) := by omega
          have B2 := Hh (Qia i0 l τ 2 (tkg l τ.i).at_)
          have HR2 := Hh hr
          clear hr hm
          unfold prS
          refine go_ ?_
          refine Qja 1 1 (B0.out) ?_ (hca1)
          rintro _ _ ⟨rfl, rfl⟩
          refine go_ ?_
          refine Rd 1 1 (B1.out) ?_
          rintro _ _ ⟨rfl, rfl⟩
          refine go_ ?_
          refine Rd 1 1 (B2.out) ?_
          rintro _ _ ⟨rfl, rfl⟩
          refine go_ ?_
          refine rS (st' := prS i0 l (Qbc 2 (tkg l τ.i).at_ τ)) Tryz.results73 ?_
          exact ⟨by rw [← HR2.out]; rfl, by rw [← HR2.out]; rfl⟩
        · rw [if_neg h24] at hr
          have hc24 : ¬ (most : Int) ≤ (acc.length : Int) := by omega
          have hA := hadv τ hw
          have c2 := hon τ hw
          have HA := Hh hA
          have HM := Hh hm
          have HR2 := Hh hr
          clear hr hm hA
          generalize (one τ).1 = X at *
          generalize (one τ).2 = τ2 at *
          simp only [aggD, Jj, Jg, List.map_cons, List.map_nil] at c2
          have C2 := Hh c2
          clear c2
          unfold prS
          refine go_ ?_
          refine Qja 1 1 (B0.out) ?_ (hca1)
          rintro _ _ ⟨rfl, rfl⟩
          refine go_ ?_
          refine Qja 1 1 (C2.out) ?_ (hca2)
          rintro _ _ ⟨rfl, rfl⟩
          refine go_ ?_
          refine Qad ?_
          refine Qch (acc.length + 1) ?_ ?_ ?_ ?_
          · simp
          · exact Qev fun _ => Qgc _
          · exact Qdj rfl
          refine go_ ?_
          refine ⟨(m, acc ++ [X], τ2), ⟨HA.out.1, ?_, fun hb => ?_, HR2.out, by simp only [List.length_append, List.length_cons, List.length_nil]; omega⟩, by simp only; omega, ?_, ?_⟩
          · have h1 := HM.out hz
            have h2 := hw
            unfold Wf at h2
            simp only
            omega
          · have h1 := HM.out hz
            have h2 := (HA.out.2 hb).2
            have h3 := HA.out.1
            unfold Wf at h3
            simp only
            omega
          · refine Jr (by simp [PF.get] <;> rfl) rfl ?_
            refine Jr (by simp [PF.get] <;> rfl) rfl ?_
            refine Jr (by simp [PF.get] <;> rfl) rfl ?_
            refine Jr (by simp [PF.get] <;> rfl) rfl ?_
            refine Jr (by simp [PF.get] <;> rfl) (by simp only [List.map_append, List.map_cons, List.map_nil, Jj X]) ?_
            exact sU
          · simp only [List.length_append, List.length_cons, List.length_nil, Nat.zero_add]
            exact dR
      | false =>
        rw [if_neg (by rw [hbg]; simp)] at hr
        have HR2 := Hh hr
        clear hr hm
        unfold prS
        refine go_ ?_
        refine Qja 1 1 (B0.out) ?_ (hca1)
        rintro _ _ ⟨rfl, rfl⟩
        refine go_ ?_
        refine rS (st' := prS i0 l τ) Tryz.results73 ?_
        exact ⟨by rw [← HR2.out]; rfl, by rw [← HR2.out]; rfl⟩
    · rw [if_neg (by simp [hz])] at hr
      have HR2 := Hh hr
      clear hr hm
      unfold prS
      refine go_ ?_
      refine rS (st' := prS i0 l τ) Tryz.results73 ?_
      exact ⟨by rw [← HR2.out]; rfl, by rw [← HR2.out]; rfl⟩
theorem kind_k {l : List Tk} {σ : ST} (h : ¬ Qdy l σ = 0) : (tkg l σ.i).kind ≠ 5 := by
 unfold Qdy at h
 split at h
 ·exact Qcn ‹_›
 ·split at h
  ·exact Qcn ‹_›
  ·split at h
   ·exact Qcn ‹_›
   ·exact absurd rfl h
theorem decl_0 {l : List Tk} {σ : ST} (hk : Qdy l σ = 0) : Qew l σ = (⟨0, (tkg l σ.i).at_, ⟨#[]⟩, [], zNd, [], []⟩, Qbc 1 (tkg l σ.i).at_ σ) := by
 simp only [Qew, hk, if_true]
theorem decl_3 {l : List Tk} {σ : ST} (hk : Qdy l σ = 3) : Qew l σ = (⟨3, (tkg l σ.i).at_, (Qas l (incS σ)).1, [], (Qbm l (Qbw l) (Qaf l sCol (Qas l (incS σ)).2)).1, [], (Qeb l (l.length + 1) [] (Qaf l sBra (Qbm l (Qbw l) (Qaf l sCol (Qas l (incS σ)).2)).2)).1⟩, Qaf l sKet (Qeb l (l.length + 1) [] (Qaf l sBra (Qbm l (Qbw l) (Qaf l sCol (Qas l (incS σ)).2)).2)).2) := by
 simp only [Qew, hk]
 rfl
def teleS (l : List Tk) (σ : ST) : List Bd × ST := Qdn l 24 (Qft l) (Qgn l) (l.length + 1) [] σ
def consS (l : List Tk) (σ : ST) : List Bd × ST := Qdn l 16 (Qfa l) (Qgt l) (l.length + 1) [] σ
theorem decl_1 {l : List Tk} {σ : ST} (h0 : ¬ Qdy l σ = 0) (h3 : ¬ Qdy l σ = 3) : Qew l σ = (⟨Qdy l σ, (tkg l σ.i).at_, (Qas l (incS σ)).1, (teleS l (Qas l (incS σ)).2).1, (Qbm l (Qbw l) (Qaf l sCol (teleS l (Qas l (incS σ)).2).2)).1, (consS l (Qaf l sBra (Qbm l (Qbw l) (Qaf l sCol (teleS l (Qas l (incS σ)).2).2)).2)).1, []⟩, Qaf l sKet (consS l (Qaf l sBra (Qbm l (Qbw l) (Qaf l sCol (teleS l (Qas l (incS σ)).2).2)).2)).2) := by
 simp only [Qew, if_neg h0, if_neg h3]
 rfl
section
variable {l : List Tk} (hl : TkOk l)
include hl
theorem tele_adv {σ : ST} (h : Wf l σ) : Adv l σ (teleS l σ).2 := list_adv hl (fun _ h => bind_adv hl h) _ _ _ h
theorem cons_adv {σ : ST} (h : Wf l σ) : Adv l σ (consS l σ).2 := list_adv hl (fun _ h => line_adv hl h) _ _ _ h
theorem decl_adv {σ : ST} (h : Wf l σ) : AdvS l σ (Qew l σ).2 := by
 by_cases h0 : Qdy l σ = 0
 ·rw [decl_0 h0]
  exact Qfj hl 1 _ (by decide) h
 ·have a0 := Qbi hl (kind_k h0)
  have a1 := a0.trans (Qeu hl a0.1).adv
  by_cases h3 : Qdy l σ = 3
  ·rw [decl_3 h3]
   have a3 := a1.trans (Qak hl sCol a1.1).adv
   have a4 := a3.trans (Qec hl a3.1)
   have a5 := a4.trans (Qak hl sBra a4.1).adv
   have a6 := a5.trans (Qlo hl (l.length + 1) [] _ a5.1)
   exact a6.trans (Qak hl sKet a6.1).adv
  ·rw [decl_1 h0 h3]
   have a2 := a1.trans (tele_adv hl a1.1)
   have a3 := a2.trans (Qak hl sCol a2.1).adv
   have a4 := a3.trans (Qec hl a3.1)
   have a5 := a4.trans (Qak hl sBra a4.1).adv
   have a6 := a5.trans (cons_adv hl a5.1)
   exact a6.trans (Qak hl sKet a6.1).adv
end
theorem tele_p {l : List Tk} (hl : TkOk l) (i0 : Nat) (σ : ST) (hw : Wf l σ) : PCalls Tryz.prog 73 [.ptr i0 0, .d (.v (.int .i64 24)), .fn (.func 74) [.ptr i0 0] [], .fn (.func 75) [.ptr i0 0] []] (prS i0 l σ) fun p s => p = .d (slD (teleS l σ).1) ∧ s = prS i0 l (teleS l σ).2 :=
 list_p hl i0 24 74 75 (by decide) (Qft l) (Qgn l) rfl rfl (fun σ h => paren0_p hl i0 σ h) (fun σ h => bind_p hl i0 σ h) (fun σ h => bind_adv hl h) σ hw
theorem cons_p {l : List Tk} (hl : TkOk l) (i0 : Nat) (σ : ST) (hw : Wf l σ) : PCalls Tryz.prog 73 [.ptr i0 0, .d (.v (.int .i64 16)), .fn (.func 78) [.ptr i0 0] [], .fn (.func 79) [.ptr i0 0] []] (prS i0 l σ) fun p s => p = .d (slD (consS l σ).1) ∧ s = prS i0 l (consS l σ).2 :=
 list_p hl i0 16 78 79 (by decide) (Qfa l) (Qgt l) rfl rfl (fun σ h => open_p hl i0 σ h) (fun σ h => line_p' hl i0 σ h) (fun σ h => line_adv hl h) σ hw
theorem decl_p' {l : List Tk} (hl : TkOk l) (i0 : Nat) (σ : ST) (hw : Wf l σ) : PCalls Tryz.prog 44 [.ptr i0 0] (prS i0 l σ) fun p s => p = aggD (Qew l σ).1 ∧ s = prS i0 l (Qew l σ).2 := by
 have b1 : σ.i ≤ 150000 := Nat.le_trans (hw.le hl) (by decide)
 have ck := Hh (kind_p hl i0 σ hw)
 have ct := Hh (Qco i0 l σ hl.len hl.pos b1)
 by_cases h0 : Qdy l σ = 0
 ·rw [decl_0 h0]
  have cf := Qia i0 l σ 1 (tkg l σ.i).at_
  rw [h0] at ck
  clear h0
  generalize (tkg l σ.i).at_ = at0 at *
  generalize Qbc 1 at0 σ = σ1 at *
  unfold zNd
  simp only [aggD, Ji, List.map_cons, List.map_nil, Nd.kind, Nd.at, Nd.name, Nd.num, Nd.sub]
  have CF := Hh cf
  clear cf
  refine pG Tryz.func44 Tryz.ntmps44 ?_
  refine Jd ?_
  intro i1 hi1
  simp only [prS, List.cons_append, List.nil_append, List.append_nil, List.drop_succ_cons, List.drop_zero, List.drop_nil, Rh, Rg, Rf, Ja] at hi1
  refine go_ ?_
  refine Rd 1 1 (ck.out) ?_
  rintro _ _ ⟨rfl, rfl⟩
  refine go_ ?_
  refine Rd 1 1 (ct.out) ?_
  rintro _ _ ⟨rfl, rfl⟩
  refine go_ ?_
  refine Jd ?_
  intro i2 hi2
  simp only [prS, List.cons_append, List.nil_append, List.append_nil, List.drop_succ_cons, List.drop_zero, List.drop_nil, Rh, Rg, Rf, Ja] at hi2
  refine go_ ?_
  refine Qaa ?_
  refine Rd 2 1 (CF.out) ?_
  rintro _ _ ⟨rfl, rfl⟩
  refine go_ ?_
  refine Qaa ?_
  refine rS (st' := prS i0 l σ1) Tryz.results44 ?_
  exact ⟨rfl, rfl⟩
 ·have a0 := Qbi hl (kind_k h0)
  have a1 := a0.trans (Qeu hl a0.1).adv
  have cn := name_p i0 l (incS σ) hl.len hl.pos (Nat.le_trans (a0.1.le hl) (by decide))
  have hin := Qfd b1
  by_cases h3 : Qdy l σ = 3
  ·rw [decl_3 h3]
   have a3 := a1.trans (Qak hl sCol a1.1).adv
   have a4 := a3.trans (Qec hl a3.1)
   have a5 := a4.trans (Qak hl sBra a4.1).adv
   have a6 := a5.trans (Qlo hl (l.length + 1) [] _ a5.1)
   have c1 := Qct i0 l _ sCol hl.len hl.pos (Nat.le_trans (a1.1.le hl) (by decide))
   have c2 := Qjx hl i0 _ a3.1
   have c3 := Qct i0 l _ sBra hl.len hl.pos (Nat.le_trans (a4.1.le hl) (by decide))
   have c4 := rows_p hl i0 _ a5.1
   have c5 := Qct i0 l _ sKet hl.len hl.pos (Nat.le_trans (a6.1.le hl) (by decide))
   rw [h3] at ck
   clear h0 h3 a0 a1 a3 a4 a5 a6 hw
   generalize (tkg l σ.i).at_ = at0 at *
   obtain ⟨i, a, b⟩ := σ
   simp only at hin b1
   generalize (Qas l (incS ⟨i, a, b⟩)).1 = x at *
   generalize (Qas l (incS ⟨i, a, b⟩)).2 = σ1 at *
   generalize Qaf l sCol σ1 = σ2 at *
   generalize (Qbm l (Qbw l) σ2).1 = A at *
   generalize (Qbm l (Qbw l) σ2).2 = σ3 at *
   generalize Qaf l sBra σ3 = σ4 at *
   generalize (Qeb l (l.length + 1) [] σ4).1 = R at *
   generalize (Qeb l (l.length + 1) [] σ4).2 = σ5 at *
   generalize Qaf l sKet σ5 = σ6 at *
   unfold sCol at c1
   unfold sBra at c3
   unfold sKet at c5
   unfold slD at c4
   simp only [aggD, Jg, Ji, List.map_cons, List.map_nil] at c2 ⊢
   have CN := Hh cn
   have C1 := Hh c1
   have C2 := Hh c2
   have C3 := Hh c3
   have C4 := Hh c4
   have C5 := Hh c5
   clear cn c1 c2 c3 c4 c5
   refine pG Tryz.func44 Tryz.ntmps44 ?_
   refine Jd ?_
   intro i1 hi1
   simp only [prS, List.cons_append, List.nil_append, List.append_nil, List.drop_succ_cons, List.drop_zero, List.drop_nil, Rh, Rg, Rf, Ja] at hi1
   refine go_ ?_
   refine Rd 1 1 (ck.out) ?_
   rintro _ _ ⟨rfl, rfl⟩
   refine go_ ?_
   refine Rd 1 1 (ct.out) ?_
   rintro _ _ ⟨rfl, rfl⟩
   refine go_ ?_
   refine Jd ?_
   intro i2 hi2
   simp only [prS, List.cons_append, List.nil_append, List.append_nil, List.drop_succ_cons, List.drop_zero, List.drop_nil, Rh, Rg, Rf, Ja] at hi2
   refine go_ ?_
   refine Rc ?_
   unfold prS
   refine go_ ?_
   refine Qaa ?_
   refine Rd 2 1 (CN.out) ?_
   rintro _ _ ⟨rfl, rfl⟩
   refine go_ ?_
   refine Qaa ?_
   refine Rd 2 1 (C1.out) ?_
   rintro _ _ ⟨rfl, rfl⟩
   refine go_ ?_
   refine Rd 2 1 (C2.out) ?_
   rintro _ _ ⟨rfl, rfl⟩
   refine go_ ?_
   refine Qaa ?_
   refine Rd 2 1 (C3.out) ?_
   rintro _ _ ⟨rfl, rfl⟩
   refine go_ ?_
   refine Rd 2 1 (C4.out) ?_
   rintro _ _ ⟨rfl, rfl⟩
   refine go_ ?_
   refine Qaa ?_
   refine Rd 2 1 (C5.out) ?_
   rintro _ _ ⟨rfl, rfl⟩
   refine go_ ?_
   refine Qaa ?_
   refine rS (st' := prS i0 l σ6) Tryz.results44 ?_
   exact ⟨rfl, rfl⟩
  ·rw [decl_1 h0 h3]
   have a2 := a1.trans (tele_adv hl a1.1)
   have a3 := a2.trans (Qak hl sCol a2.1).adv
   have a4 := a3.trans (Qec hl a3.1)
   have a5 := a4.trans (Qak hl sBra a4.1).adv
   have a6 := a5.trans (cons_adv hl a5.1)
   have c0 := tele_p hl i0 _ a1.1
   have c1 := Qct i0 l _ sCol hl.len hl.pos (Nat.le_trans (a2.1.le hl) (by decide))
   have c2 := Qjx hl i0 _ a3.1
   have c3 := Qct i0 l _ sBra hl.len hl.pos (Nat.le_trans (a4.1.le hl) (by decide))
   have c4 := cons_p hl i0 _ a5.1
   have c5 := Qct i0 l _ sKet hl.len hl.pos (Nat.le_trans (a6.1.le hl) (by decide))
   clear a0 a1 a2 a3 a4 a5 a6 hw
   generalize Qdy l σ = k at *
   generalize (tkg l σ.i).at_ = at0 at *
   obtain ⟨i, a, b⟩ := σ
   simp only at hin b1
   generalize (Qas l (incS ⟨i, a, b⟩)).1 = x at *
   generalize (Qas l (incS ⟨i, a, b⟩)).2 = σ0 at *
   generalize (teleS l σ0).1 = T at *
   generalize (teleS l σ0).2 = σ1 at *
   generalize Qaf l sCol σ1 = σ2 at *
   generalize (Qbm l (Qbw l) σ2).1 = A at *
   generalize (Qbm l (Qbw l) σ2).2 = σ3 at *
   generalize Qaf l sBra σ3 = σ4 at *
   generalize (consS l σ4).1 = R at *
   generalize (consS l σ4).2 = σ5 at *
   generalize Qaf l sKet σ5 = σ6 at *
   unfold sCol at c1
   unfold sBra at c3
   unfold sKet at c5
   unfold slD at c4 c0
   simp only [aggD, Jg, Ji, List.map_cons, List.map_nil] at c2 ⊢
   have CN := Hh cn
   have C0 := Hh c0
   have C1 := Hh c1
   have C2 := Hh c2
   have C3 := Hh c3
   have C4 := Hh c4
   have C5 := Hh c5
   clear cn c0 c1 c2 c3 c4 c5
   refine pG Tryz.func44 Tryz.ntmps44 ?_
   refine Jd ?_
   intro i1 hi1
   simp only [prS, List.cons_append, List.nil_append, List.append_nil, List.drop_succ_cons, List.drop_zero, List.drop_nil, Rh, Rg, Rf, Ja] at hi1
   refine go_ ?_
   refine Rd 1 1 (ck.out) ?_
   rintro _ _ ⟨rfl, rfl⟩
   refine go_ ?_
   refine Rd 1 1 (ct.out) ?_
   rintro _ _ ⟨rfl, rfl⟩
   refine go_ ?_
   refine Jd ?_
   intro i2 hi2
   simp only [prS, List.cons_append, List.nil_append, List.append_nil, List.drop_succ_cons, List.drop_zero, List.drop_nil, Rh, Rg, Rf, Ja] at hi2
   refine go_ ?_
   refine Rc ?_
   unfold prS
   refine go_ ?_
   refine Qaa ?_
   refine Rd 2 1 (CN.out) ?_
   rintro _ _ ⟨rfl, rfl⟩
   refine go_ ?_
   refine Qaa ?_
   refine Qhd ?_
   refine go_ ?_
   refine Qhd ?_
   refine go_ ?_
   refine Rd 2 1 (C0.out) ?_
   rintro _ _ ⟨rfl, rfl⟩
   refine go_ ?_
   refine Qaa ?_
   refine Rd 2 1 (C1.out) ?_
   rintro _ _ ⟨rfl, rfl⟩
   refine go_ ?_
   refine Rd 2 1 (C2.out) ?_
   rintro _ _ ⟨rfl, rfl⟩
   refine go_ ?_
   refine Qaa ?_
   refine Rd 2 1 (C3.out) ?_
   rintro _ _ ⟨rfl, rfl⟩
   refine go_ ?_
   refine Qhd ?_
   refine go_ ?_
   refine Qhd ?_
   refine go_ ?_
   refine Rd 2 1 (C4.out) ?_
   rintro _ _ ⟨rfl, rfl⟩
   refine go_ ?_
   refine Qaa ?_
   refine Rd 2 1 (C5.out) ?_
   rintro _ _ ⟨rfl, rfl⟩
   refine go_ ?_
   refine Qaa ?_
   refine rS (st' := prS i0 l σ6) Tryz.results44 ?_
   exact ⟨rfl, rfl⟩
theorem eqA_e {α : Type} {p : α → α → Bool} {e : α → α} : ∀ {l m : List α}, (∀ x ∈ l, ∀ y, e x = e y → p x y = true) → l.map e = m.map e → eqA p l m = true := by
  intro l
  induction l with
  | nil =>
    intro m _ h
    cases m with
    | nil => rfl
    | cons t ts => cases h
  | cons t ts ih =>
    intro m hl h
    cases m with
    | nil => cases h
    | cons t' ts' =>
      simp only [List.map_cons, List.cons.injEq] at h
      simp only [eqA]
      rw [hl t (by simp) t' h.1, ih (fun x hx => hl x (by simp [hx])) h.2]
      rfl
def smBd (b : Bd) : Prop := Qbj b.ty ≤ 128
def smRw (r : Rw) : Prop := Qbj r.body ≤ 128 ∧ ∀ p ∈ r.pats, Qbj p ≤ 128
def smDc (d : Dc) : Prop := Qbj d.ty ≤ 128 ∧ (∀ b ∈ d.tele, smBd b) ∧ (∀ b ∈ d.cons, smBd b) ∧ ∀ r ∈ d.rows, smRw r
theorem bind_e {a b : Bd} (hs : smBd a) (h : eBd a = eBd b) : Qbz a b = true := by
 unfold eBd at h
 simp only [Bd.mk.injEq] at h
 unfold Qbz
 rw [Qjk h.2.2 hs, h.1]
 simp
theorem row_e {a b : Rw} (hs : smRw a) (h : eRw a = eRw b) : Qes a b = true := by
 unfold eRw at h
 simp only [Rw.mk.injEq] at h
 unfold Qes
 rw [Qjk h.2.2.2 hs.1, h.2.2.1, eqA_e (e := eNd) (fun x hx y hy => Qjk hy (hs.2 x hx)) h.2.1]
 simp
theorem decl_e {a b : Dc} (hs : smDc a) (h : eDc a = eDc b) : Qjm a b = true := by
 unfold eDc at h
 simp only [Dc.mk.injEq] at h
 obtain ⟨h1, -, h2, h3, h4, h5, h6⟩ := h
 unfold Qjm
 rw [h1, h2, Qjk h4 hs.1, eqA_e (e := eBd) (fun x hx y hy => bind_e (hs.2.1 x hx) hy) h3, eqA_e (e := eBd) (fun x hx y hy => bind_e (hs.2.2.1 x hx) hy) h5, eqA_e (e := eRw) (fun x hx y hy => row_e (hs.2.2.2 x hx) hy) h6]
 simp
theorem checked_sm {x : Nd} {a : Int} {σ : ST} (h : (Qdh x a σ).bad = 0) : Qbj x ≤ 128 := by
 unfold Qdh at h
 split at h
 ·exact absurd h (Qed 2 a σ (by decide))
 ·rename_i h1
  exact Int.not_lt.1 fun h2 => h1 ⟨h, h2⟩
theorem zNd_sm : Qbj zNd ≤ 128 := by decide +kernel
theorem expr_sm {l : List Tk} {n : Nat} {σ : ST} (h : (Qbm l n σ).2.bad = 0) : Qbj (Qbm l n σ).1 ≤ 128 := checked_sm h
section
variable {l : List Tk} (hl : TkOk l)
include hl
theorem pats_sm : ∀ (n : Nat) (acc : List Nd) (σ : ST), Wf l σ → (∀ x ∈ acc, Qbj x ≤ 128) → (Qbu l n acc σ).2.bad = 0 → ∀ x ∈ (Qbu l n acc σ).1, Qbj x ≤ 128 := by
  intro n
  induction n with
  | zero => intro acc σ _ ha _; exact ha
  | succ n ih =>
    intro acc σ hw ha hb
    simp only [Qbu] at hb ⊢
    split at hb
    · rename_i hc
      rw [if_pos hc]
      split at hb
      · exact absurd hb (Qed 2 _ σ (by decide))
      · rename_i hn
        rw [if_neg hn]
        have h1 := patF_adv hl hw
        have h2 := h1.trans (Qki hl (patS l (patF l) σ).1 (tkg l σ.i).at_ h1.1)
        have h3 := Qjs hl n (acc ++ [(patS l (patF l) σ).1]) _ h2.1
        refine ih _ _ h2.1 (fun x hx => ?_) hb
        rcases List.mem_append.1 hx with hx | hx
        · exact ha x hx
        · rw [List.mem_singleton.1 hx]
          exact checked_sm (h3.2 hb).1
    · rename_i hc
      rw [if_neg hc]
      exact ha
theorem con_sm {σ : ST} (h : (conS l σ).2.bad = 0) : smBd (conS l σ).1 := by
 have _ := hl
 exact expr_sm h
theorem bind_sm {σ : ST} (hw : Wf l σ) (h : (Qgn l σ).2.bad = 0) : smBd (Qgn l σ).1 := by
 have h1 := Qak hl sPar hw
 have h2 := Qjh hl h1.1
 exact con_sm hl ((Qak hl sRap h2.1).2 h).1
theorem line_sm {σ : ST} (hw : Wf l σ) (h : (Qgt l σ).2.bad = 0) : smBd (Qgt l σ).1 := by
 have h2 := Qjh hl hw
 exact con_sm hl ((Qak hl sSem h2.1).2 h).1
theorem list_sm {most : Nat} {more : ST → Bool} {one : ST → Bd × ST} (ho : ∀ σ, Wf l σ → AdvS l σ (one σ).2) (hs : ∀ σ, Wf l σ → (one σ).2.bad = 0 → smBd (one σ).1) : ∀ (n : Nat) (acc : List Bd) (σ : ST), Wf l σ → (∀ x ∈ acc, smBd x) → (Qdn l most more one n acc σ).2.bad = 0 → ∀ x ∈ (Qdn l most more one n acc σ).1, smBd x := by
  intro n
  induction n with
  | zero => intro acc σ _ ha _; exact ha
  | succ n ih =>
    intro acc σ hw ha hb
    simp only [Qdn] at hb ⊢
    split at hb
    · rename_i hc
      rw [if_pos hc]
      split at hb
      · exact absurd hb (Qed 2 _ σ (by decide))
      · rename_i hn
        rw [if_neg hn]
        have h1 := ho σ hw
        have h3 := list_adv hl (most := most) (more := more) ho n (acc ++ [(one σ).1]) _ h1.1
        refine ih _ _ h1.1 (fun x hx => ?_) hb
        rcases List.mem_append.1 hx with hx | hx
        · exact ha x hx
        · rw [List.mem_singleton.1 hx]
          exact hs σ hw (h3.2 hb).1
    · rename_i hc
      rw [if_neg hc]
      exact ha
theorem fileS_adv : ∀ (n : Nat) (acc : List Dc) (σ : ST), Wf l σ → Adv l σ (Qep l n acc σ).2 := by
  intro n
  induction n with
  | zero => intro acc σ h; exact Adv.refl h
  | succ n ih =>
    intro acc σ h
    simp only [Qep]
    split
    · have h1 := decl_adv hl h
      exact h1.adv.trans (ih _ _ h1.1)
    · exact Adv.refl h
theorem row_sm {σ : ST} (hw : Wf l σ) (h : (rowS l σ).2.bad = 0) : smRw (rowS l σ).1 := by
 have hp := Qjs hl (l.length + 1) [] σ hw
 have hq := fun hb => pats_sm hl (l.length + 1) [] σ hw (fun _ h => by cases h) hb
 unfold rowS at h ⊢
 simp only at h ⊢
 split
 ·rename_i hc
  rw [if_pos hc] at h
  have h1 := Qbi hl (Qcn hc.2)
  have h2 := Qec hl h1.1
  have h3 := (Qak hl sSem h2.1).2 h
  exact ⟨expr_sm h3.1, hq hc.1⟩
 ·rename_i hc
  rw [if_neg hc] at h
  have h3 := (Qak hl sSem hp.1).2 h
  exact ⟨zNd_sm, hq h3.1⟩
theorem rows_sm : ∀ (n : Nat) (acc : List Rw) (σ : ST), Wf l σ → (∀ x ∈ acc, smRw x) → (Qeb l n acc σ).2.bad = 0 → ∀ x ∈ (Qeb l n acc σ).1, smRw x := by
  intro n
  induction n with
  | zero => intro acc σ _ ha _; exact ha
  | succ n ih =>
    intro acc σ hw ha hb
    simp only [Qeb] at hb ⊢
    split at hb
    · rename_i hc
      rw [if_pos hc]
      split at hb
      · exact absurd hb (Qed 2 _ σ (by decide))
      · rename_i hn
        rw [if_neg hn]
        have h1 := row_adv hl hw
        have h3 := Qlo hl n (acc ++ [(rowS l σ).1]) _ h1.1
        refine ih _ _ h1.1 (fun x hx => ?_) hb
        rcases List.mem_append.1 hx with hx | hx
        · exact ha x hx
        · rw [List.mem_singleton.1 hx]
          exact row_sm hl hw (h3.2 hb).1
    · rename_i hc
      rw [if_neg hc]
      exact ha
theorem decl_sm {σ : ST} (h : Wf l σ) (hb : (Qew l σ).2.bad = 0) : smDc (Qew l σ).1 := by
 by_cases h0 : Qdy l σ = 0
 ·rw [decl_0 h0] at hb
  exact absurd hb (Qed 1 _ σ (by decide))
 ·have a0 := Qbi hl (kind_k h0)
  have a1 := a0.trans (Qeu hl a0.1).adv
  by_cases h3 : Qdy l σ = 3
  ·rw [decl_3 h3] at hb ⊢
   have a3 := Qak hl sCol a1.1
   have a4 := Qec hl a3.1
   have a5 := Qak hl sBra a4.1
   have a6 := Qlo hl (l.length + 1) [] _ a5.1
   have b6 := ((Qak hl sKet a6.1).2 hb).1
   have b5 := (a6.2 b6).1
   have b4 := (a5.2 b5).1
   exact ⟨expr_sm b4, (fun _ h => by cases h), (fun _ h => by cases h), rows_sm hl _ _ _ a5.1 (fun _ h => by cases h) b6⟩
  ·rw [decl_1 h0 h3] at hb ⊢
   have a2 := tele_adv hl a1.1
   have a3 := Qak hl sCol a2.1
   have a4 := Qec hl a3.1
   have a5 := Qak hl sBra a4.1
   have a6 := cons_adv hl a5.1
   have b6 := ((Qak hl sKet a6.1).2 hb).1
   have b5 := (a6.2 b6).1
   have b4 := (a5.2 b5).1
   have b3 := (a4.2 b4).1
   have b2 := (a3.2 b3).1
   exact ⟨expr_sm b4, list_sm hl (fun _ h => bind_adv hl h) (fun _ h hb => bind_sm hl h hb) _ _ _ a1.1 (fun _ h => by cases h) b2, list_sm hl (fun _ h => line_adv hl h) (fun _ h hb => line_sm hl h hb) _ _ _ a5.1 (fun _ h => by cases h) b6, (fun _ h => by cases h)⟩
theorem file_sm : ∀ (n : Nat) (acc : List Dc) (σ : ST), Wf l σ → (∀ x ∈ acc, smDc x) → (Qep l n acc σ).2.bad = 0 → ∀ x ∈ (Qep l n acc σ).1, smDc x := by
  intro n
  induction n with
  | zero => intro acc σ _ ha _; exact ha
  | succ n ih =>
    intro acc σ hw ha hb
    simp only [Qep] at hb ⊢
    split at hb
    · rename_i hc
      rw [if_pos hc]
      have h1 := decl_adv hl hw
      have h3 := fileS_adv hl n (acc ++ [(Qew l σ).1]) _ h1.1
      refine ih _ _ h1.1 (fun x hx => ?_) hb
      rcases List.mem_append.1 hx with hx | hx
      · exact ha x hx
      · rw [List.mem_singleton.1 hx]
        exact decl_sm hl hw (h3.2 hb).1
    · rename_i hc
      rw [if_neg hc]
      exact ha
end
theorem fileA_sm (s : ByteArray) (h : (Qfx s).2.2 = 0) : ∀ d ∈ (Qfx s).1, smDc d := by
 have hs := file_sm (Qkp s) ((Qan s).length + 1) [] (Qbk s) (startW s) (fun _ h => by cases h)
 unfold Qfx at h ⊢
 simp only at h ⊢
 split at h
 ·rename_i hb
  rw [if_pos hb]
  exact hs hb
 ·rename_i hb
  exact absurd h hb
theorem ppats_p (s : ByteArray) : PCalls Tryz.prog 16 [.d (.v (.string s))] [] fun p st => p = .tup [.d (slD (patsA s).1), .d (.v (.int .i64 (patsA s).2.1)), .d (.v (.int .i64 (patsA s).2.2))] ∧ st = [] := by
 have hl := Qkp s
 have hw := startW s
 have H0 := Hh (start_p s)
 have hE := Qjs hl ((Qan s).length + 1) [] (Qbk s) hw
 have HE := Hh (fun i0 => pats_p hl i0 (Qbk s) hw)
 have HD := Hh (fun i0 => end_p' hl i0 (Qbu (Qan s) ((Qan s).length + 1) [] (Qbk s)).2 hE.1)
 have HA := Hh (show patsA s = if (endS (Qan s) (Qbu (Qan s) ((Qan s).length + 1) [] (Qbk s)).2).bad = 0 then ((Qbu (Qan s) ((Qan s).length + 1) [] (Qbk s)).1, (s.size : Int), 0) else ([], (endS (Qan s) (Qbu (Qan s) ((Qan s).length + 1) [] (Qbk s)).2).at_, (endS (Qan s) (Qbu (Qan s) ((Qan s).length + 1) [] (Qbk s)).2).bad) from rfl)
 clear hl hw hE
 generalize Qbk s = σ at *
 generalize Qan s = l at *
 generalize (Qbu l (l.length + 1) [] σ).1 = x at *
 generalize (Qbu l (l.length + 1) [] σ).2 = σ1 at *
 generalize endS l σ1 = σ2 at *
 rw [HA.out]
 clear HA
 unfold slD at HE
 refine pG Tryz.func16 Tryz.ntmps16 ?_
 refine Rd 0 0 (H0.out) ?_
 rintro _ _ ⟨i0, rfl, rfl⟩
 refine Qq ?_
 refine Qh ?_
 refine Qj ?_
 refine go_ ?_
 refine Rd 0 1 (HE.out i0) ?_
 rintro _ _ ⟨rfl, rfl⟩
 refine go_ ?_
 refine Rd 0 1 (HD.out i0) ?_
 rintro _ _ ⟨rfl, rfl⟩
 by_cases hz : σ2.bad = 0
 ·rw [if_pos hz]
  unfold prS
  refine go_ ?_
  refine rT Tryz.results16 ?_
  exact ⟨rfl, rfl⟩
 ·rw [if_neg hz]
  unfold prS
  refine go_ ?_
  refine Qai [(0, .a), (1, .a), (2, .a), (3, .b), (4, .a), (5, .a), (6, .a), (7, .b), (8, .a), (9, .a), (10, .a)] (by kernel_rfl) (by rfl) (by kernel_rfl) ?_
  refine go_ ?_
  refine rT Tryz.results16 ?_
  exact ⟨rfl, rfl⟩
theorem file_p (s : ByteArray) : PCalls Tryz.prog 19 [.d (.v (.string s))] [] fun p st => p = .tup [.d (slD (Qfx s).1), .d (.v (.int .i64 (Qfx s).2.1)), .d (.v (.int .i64 (Qfx s).2.2))] ∧ st = [] := by
 have hl := Qkp s
 have hw0 := startW s
 have H0 := Hh (start_p s)
 have HA := Hh (show Qfx s = if (Qep (Qan s) ((Qan s).length + 1) [] (Qbk s)).2.bad = 0 then ((Qep (Qan s) ((Qan s).length + 1) [] (Qbk s)).1, (s.size : Int), 0) else ([], (Qep (Qan s) ((Qan s).length + 1) [] (Qbk s)).2.at_, (Qep (Qan s) ((Qan s).length + 1) [] (Qbk s)).2.bad) from rfl)
 generalize Qbk s = σ at *
 generalize Qan s = l at *
 have HG : ∃ r, r = Qep l (l.length + 1) [] σ := ⟨_, rfl⟩
 obtain ⟨r, hr⟩ := HG
 have HR := Hh hr.symm
 rw [← hr] at HA
 clear hr
 rw [HA.out]
 clear HA
 have HW := Hh hw0
 clear hw0
 unfold slD
 refine pG Tryz.func19 Tryz.ntmps19 ?_
 refine Rd 0 0 (H0.out) ?_
 rintro _ _ ⟨i0, rfl, rfl⟩
 refine Qq ?_
 refine Qh ?_
 refine Qj ?_
 refine go_ ?_
 refine PW_own 6 40 11 (by decide) (by simp [PF.get] <;> rfl) fun g hg => ?_
 refine Qay (ι := Nat × List Dc × ST) (fun y => Wf l y.2.2 ∧ 0 < y.1 ∧ (y.2.2.bad = 0 → l.length - y.2.2.i + 1 ≤ y.1) ∧ Qep l y.1 y.2.1 y.2.2 = r ∧ y.2.1.length + y.1 ≤ l.length + 1) (fun y => [(0, .d (.v (.string s))), (5, .ptr i0 0), (6, .own g (y.2.1.map encD))])
  (fun y => .tok g 40 11 y.2.1.length :: prS i0 l y.2.2) (fun y => y.1) (l.length + 1, [], σ) ⟨HW.out, Nat.succ_pos _, fun _ => by simp only; omega, HR.out, by simp⟩ ?_ ?_ ?_
 ·exact sU
 ·exact dR
 ·rintro ⟨m, acc, τ⟩ ⟨hw, hm0, hm, hr, hacc⟩
  simp only at hw hm0 hm hr hacc ⊢
  obtain ⟨m, rfl⟩ : ∃ k, m = k + 1 := ⟨m - 1, by omega⟩
  have b3 : τ.i ≤ 150000 := Nat.le_trans (hw.le hl) (by decide)
  have b4 := hl.len
  have B1 := Hh (Qco i0 l τ hl.len hl.pos b3)
  simp only [Qep] at hr
  by_cases hz : τ.bad = 0
  ·by_cases hk : (tkg l τ.i).kind = 5
   ·rw [if_neg (fun h => h.2 hk)] at hr
    have HR2 := Hh hr
    clear hr hm
    have hk5 := hk
    rw [← HR2.out]
    simp only
    rw [if_pos hz]
    generalize tkg l τ.i = t at *
    unfold prS
    refine go_ ?_
    refine Rd 1 1 (B1.out) ?_
    rintro _ _ ⟨rfl, rfl⟩
    unfold prS
    refine go_ ?_
    refine rT Tryz.results19 ?_
    exact ⟨rfl, rfl⟩
   ·rw [if_pos ⟨hz, hk⟩] at hr
    have hA := decl_adv hl hw
    have c2 := decl_p' hl i0 τ hw
    have HA := Hh hA
    have HM := Hh hm
    have HR2 := Hh hr
    clear hr hm hA
    generalize (Qew l τ).1 = X at *
    generalize (Qew l τ).2 = τ2 at *
    simp only [aggD, Ji, List.map_cons, List.map_nil] at c2
    have C2 := Hh c2
    clear c2
    unfold prS
    refine go_ ?_
    refine Rd 1 1 (B1.out) ?_
    rintro _ _ ⟨rfl, rfl⟩
    refine go_ ?_
    refine Rd 1 1 (C2.out) ?_
    rintro _ _ ⟨rfl, rfl⟩
    refine go_ ?_
    refine Qad ?_
    refine Qch (acc.length + 1) ?_ ?_ ?_ ?_
    ·simp
    ·exact Qev fun _ => Qgc _
    ·exact Qdj rfl
    refine go_ ?_
    refine ⟨(m, acc ++ [X], τ2), ⟨HA.out.1, ?_, fun hb => ?_, HR2.out, by simp only [List.length_append, List.length_cons, List.length_nil]; omega⟩, by simp only; omega, ?_, ?_⟩
    ·have h1 := HM.out hz
     have h2 := hw
     unfold Wf at h2
     simp only
     omega
    ·have h1 := HM.out hz
     have h2 := (HA.out.2 hb).2
     have h3 := HA.out.1
     unfold Wf at h3
     simp only
     omega
    ·refine Jr (by simp [PF.get] <;> rfl) rfl ?_
     refine Jr (by simp [PF.get] <;> rfl) rfl ?_
     refine Jr (by simp [PF.get] <;> rfl) (by simp only [List.map_append, List.map_cons, List.map_nil, Ji X]) ?_
     exact sU
    ·simp only [List.length_append, List.length_cons, List.length_nil, Nat.zero_add]
     exact dR
  ·rw [if_neg (fun h => hz h.1)] at hr
   have HR2 := Hh hr
   clear hr hm
   rw [← HR2.out]
   simp only
   rw [if_neg hz]
   unfold prS
   refine go_ ?_
   refine Qai [(0, .a), (1, .a), (2, .a), (3, .b), (4, .a), (5, .a), (6, .a), (7, .b), (8, .a), (9, .a), (10, .a)] (by kernel_rfl) (by rfl) (by kernel_rfl) ?_
   refine go_ ?_
   refine rT Tryz.results19 ?_
   exact ⟨rfl, rfl⟩
theorem sdecl5_p (d e : Dc) : PCalls Tryz.prog 20 [aggD d, aggD e] [] fun p s => p = .d (.v (.bool (Qjm d e))) ∧ s = [] := PCalls.flat trivial fun K w vs ha => by
 obtain ⟨v, u, rfl, hv, hu⟩ := ha.two
 obtain ⟨cs, rfl, hc⟩ := Qkn hv
 obtain ⟨ds, rfl, hd⟩ := Qkn hu
 exact samedecl_any _ _ d e cs ds w hc hd
end Go.Proofs.YtahhgpafjiljfaaGreat
