import Derived.Test.YtahhgpafjiljfaaOBZ
import Derived.Test.YtahhgpafjiljfaaOT27
set_option linter.unusedSimpArgs false
set_option linter.unusedVariables false
set_option maxHeartbeats 16000000
set_option maxRecDepth 100000
namespace Go.Proofs.Ytahhgpafjiljfaa
open Go.RowKit
theorem paren_w {l : List Tk} (hl : TkOk l) (n : Nat) (IH : ∀ m, m ≤ n → ∀ σ, Wf l σ → Fu l m 3 σ → PatC l m σ) (σ : ST) (hw : Wf l σ) (hp : isS l σ 0 sPar = true) (hz : σ.bad = 0) (hf : Fu l (n + 1) 2 σ) : ParenC l (n + 1) σ := by
  intro i0
  have b1 : σ.i ≤ 150000 := Nat.le_trans (hw.le hl) (by decide)
  have hn : 0 < n := by
    have := hf.2 hz
    unfold Wf at hw; omega
  have c0 := Hh (Qct i0 l σ hl.len hl.pos b1)
  have hin := Qez b1
  have h1 := Qax hl (Qbw hp)
  clear hp
  have b2 : (incS σ).i ≤ 150000 := Nat.le_trans (h1.1.le hl) (by decide)
  have c1 := Hh (is_p i0 l (incS σ) 0 0 rfl sRap hl.len hl.pos (by omega) (by decide))
  have c2 := Hh (named_p i0 l (incS σ) hl.len hl.pos b2)
  have HT := Hh (show Qdp l (n + 1) σ = (if isS l (incS σ) 0 sRap then (.mk 9 (tkg l σ.i).at_ ⟨#[]⟩ 0 [], incS (incS σ)) else if !Qcy l (incS σ) 0 then ((patS l n (incS σ)).1, Qaf l sRap (patS l n (incS σ)).2) else ((parL l n (tkg l σ.i).at_ (.mk 6 (tkg l (incS σ).i).at_ (Qal l (incS σ)).1 0 []) (Qal l (incS σ)).2).1, Qaf l sRap (parL l n (tkg l σ.i).at_ (.mk 6 (tkg l (incS σ).i).at_ (Qal l (incS σ)).1 0 []) (Qal l (incS σ)).2).2)) from by simp only [Qdp])
  have hin3 : IntKind.i64.wrap (((incS σ).i : Int) + 1) = (((incS σ).i + 1 : Nat) : Int) := Qez b2
  obtain ⟨i, a, b⟩ := σ
  simp only at hz hin
  subst hz
  generalize (tkg l i).at_ = at0 at *
  unfold sRap at c1
  cases hr : isS l (incS ⟨i, a, 0⟩) 0 sRap with
  | true =>
    rw [hr, if_pos rfl] at HT
    unfold sRap at hr
    rw [HT.out]
    clear HT hf IH c2 h1
    refine pG Try.func85 Try.ntmps85 ?_
    refine Jd ?_
    intro i1 hi1
    simp only [prS, List.cons_append, List.nil_append, List.append_nil, List.drop_succ_cons, List.drop_zero, List.drop_nil, Rh, Rg, Rf, Ja] at hi1
    refine go_ ?_
    refine Rd 1 1 (c0.out) ?_
    rintro _ _ ⟨rfl, rfl⟩
    unfold prS
    refine go_ ?_
    refine Qaa ?_
    refine Rd 1 1 (c1.out) ?_
    rintro _ _ ⟨rfl, rfl⟩
    unfold prS
    refine go_ ?_
    refine Qaa ?_
    refine Qaa ?_
    refine rS (st' := prS i0 l (incS (incS ⟨i, a, 0⟩))) Try.results85 ?_
    exact ⟨by rw [Qfs]; rfl, rfl⟩
  | false =>
    rw [hr, if_neg (by decide)] at HT
    unfold sRap at hr
    cases hnm : Qcy l (incS ⟨i, a, 0⟩) 0 with
    | false =>
      rw [hnm, if_pos (show (!false) = true from rfl)] at HT
      rw [HT.out]
      have c3 := IH n (Nat.le_refl _) _ h1.1 (hf.next hw h1 hn (by omega)) i0
      have c4 := Qcu i0 l _ sRap hl.len hl.pos (Nat.le_trans (((Qju hl n).2.2 _ h1.1).1.1.le hl) (by decide))
      clear HT hf IH h1 hin3
      generalize (patS l n (incS ⟨i, a, 0⟩)).1 = A at *
      generalize (patS l n (incS ⟨i, a, 0⟩)).2 = σ1 at *
      generalize Qaf l sRap σ1 = σ2 at *
      simp only [aggD, Jg, List.map_cons, List.map_nil] at c3 ⊢
      unfold sRap at c4
      have C3 := Hh c3
      have C4 := Hh c4
      clear c3 c4
      refine pG Try.func85 Try.ntmps85 ?_
      refine Jd ?_
      intro i1 hi1
      simp only [prS, List.cons_append, List.nil_append, List.append_nil, List.drop_succ_cons, List.drop_zero, List.drop_nil, Rh, Rg, Rf, Ja] at hi1
      refine go_ ?_
      refine Rd 1 1 (c0.out) ?_
      rintro _ _ ⟨rfl, rfl⟩
      unfold prS
      refine go_ ?_
      refine Qaa ?_
      refine Rd 1 1 (c1.out) ?_
      rintro _ _ ⟨rfl, rfl⟩
      refine go_ ?_
      refine Rd 1 1 (c2.out) ?_
      rintro _ _ ⟨rfl, rfl⟩
      refine go_ ?_
      refine Rd 1 1 (C3.out) ?_
      rintro _ _ ⟨rfl, rfl⟩
      refine go_ ?_
      refine Jd ?_
      intro i2 hi2
      simp only [prS, List.cons_append, List.nil_append, List.append_nil, List.drop_succ_cons, List.drop_zero, List.drop_nil, Rh, Rg, Rf, Ja] at hi2
      refine go_ ?_
      refine Qaa ?_
      refine Rd 2 1 (C4.out) ?_
      rintro _ _ ⟨rfl, rfl⟩
      refine go_ ?_
      refine Qaa ?_
      refine rS (st' := prS i0 l σ2) Try.results85 ?_
      exact ⟨rfl, rfl⟩
    | true =>
      rw [hnm, if_neg (by decide)] at HT
      rw [HT.out]
      have h2 := h1.trans (Qdu hl h1.1).adv
      have c3 := Hh (Qct i0 l (incS ⟨i, a, 0⟩) hl.len hl.pos b2)
      have c4 := Hh (name_p i0 l (incS ⟨i, a, 0⟩) hl.len hl.pos b2)
      have HF := Hh (hf.next hw h2 hn (d := 4) (by omega))
      have HW := Hh h2.1
      clear HT hf h1 h2 hin3
      generalize (tkg l (incS ⟨i, a, 0⟩).i) = t1 at *
      generalize (Qal l (incS ⟨i, a, 0⟩)).1 = x at *
      generalize (Qal l (incS ⟨i, a, 0⟩)).2 = σ1 at *
      have HG : ∃ r, r = parL l n at0 (.mk 6 t1.at_ x 0 []) σ1 := ⟨_, rfl⟩
      obtain ⟨r, hr2⟩ := HG
      have HR := Hh hr2.symm
      rw [← hr2]
      clear hr2
      refine pG Try.func85 Try.ntmps85 ?_
      refine Jd ?_
      intro i1 hi1
      simp only [prS, List.cons_append, List.nil_append, List.append_nil, List.drop_succ_cons, List.drop_zero, List.drop_nil, Rh, Rg, Rf, Ja] at hi1
      refine go_ ?_
      refine Rd 1 1 (c0.out) ?_
      rintro _ _ ⟨rfl, rfl⟩
      unfold prS
      refine go_ ?_
      refine Qaa ?_
      refine Rd 1 1 (c1.out) ?_
      rintro _ _ ⟨rfl, rfl⟩
      refine go_ ?_
      refine Rd 1 1 (c2.out) ?_
      rintro _ _ ⟨rfl, rfl⟩
      refine go_ ?_
      refine Rd 1 1 (c3.out) ?_
      rintro _ _ ⟨rfl, rfl⟩
      refine go_ ?_
      refine Rd 1 1 (c4.out) ?_
      rintro _ _ ⟨rfl, rfl⟩
      refine go_ ?_
      refine Jd ?_
      intro i2 hi2
      simp only [prS, List.cons_append, List.nil_append, List.append_nil, List.drop_succ_cons, List.drop_zero, List.drop_nil, Rh, Rg, Rf, Ja] at hi2
      refine go_ ?_
      refine Qaa ?_
      refine PW_ownB i2 4 31 5 eQ (by rfl) (by rfl) (by intro g; simp [St.setBox, *]; rfl) (by decide) ?_
      intro g2 hg2
      refine Qbc (ι := Nat × Nd × ST) (fun y => y.1 ≤ n ∧ Wf l y.2.2 ∧ Fu l y.1 4 y.2.2 ∧ parL l y.1 at0 y.2.1 y.2.2 = r ∧ (y.2.2.bad = 0 → y.2.1.sub.length ≤ y.2.2.i)) (fun y => [(0, .ptr i0 0), (2, .ptr i1 0), (3, .d (.v (.int .i64 at0))), (5, .ptr i2 0)])
        (fun y => .tok g2 31 5 y.2.1.sub.length :: .box i2 31 [.d (.v (.int .i64 y.2.1.kind)), .d (.v (.int .i64 y.2.1.at)), .d (.v (.string y.2.1.name)), .d (.v (.int .i64 y.2.1.num)), .own g2 (y.2.1.sub.map encD)] :: .box i1 31 [.d (.v (.int .i64 0)), .d (.v (.int .i64 0)), .d (.v (.string ByteArray.empty)), .d (.v (.int .i64 0)), .nils] :: prS i0 l y.2.2)
        (fun y => y.1) (n, .mk 6 t1.at_ x 0 [], σ1) ⟨Nat.le_refl _, HW.out, HF.out, HR.out, fun _ => Nat.zero_le _⟩ ?_ ?_ ?_
      · exact sU
      · exact dR
      · rintro ⟨m, q, τ⟩ ⟨hm, hw, hf, hr, hsub⟩
        simp only at hm hw hf hr hsub ⊢
        have b3 : τ.i ≤ 150000 := Nat.le_trans (hw.le hl) (by decide)
        obtain ⟨m, rfl⟩ : ∃ k, m = k + 1 := ⟨m - 1, by have := hf.1; omega⟩
        simp only [parL] at hr
        have B0 := Hh (pattern_p i0 l τ hl.len hl.pos b3)
        have B1 := Qcu i0 l τ sRap hl.len hl.pos b3
        unfold sRap at B1
        have B1 := Hh B1
        by_cases hz : τ.bad = 0
        · cases hbg : Qdv l τ with
          | true =>
            rw [if_pos ⟨hz, hbg⟩] at hr
            have hm0 : 1 < m := by
              have := hf.2 hz
              unfold Wf at hw; omega
            have hA := ((Qju hl m).2.2 τ hw).2 hm0
            have c5 := IH m (by omega) τ hw (hf.same hw (Adv.refl hw) (by omega) (by omega)) i0
            have HF2 := Hh (hf.next hw hA (by omega) (d := 4) (by omega))
            have HA2 := Hh hA
            have HR2 := Hh hr
            have hsl : q.sub.length ≤ 150000 := Nat.le_trans (hsub hz) b3
            have HS := Hh hsub
            clear hr hf hA hw hsub
            generalize (patS l m τ).1 = X at *
            generalize (patS l m τ).2 = τ2 at *
            simp only [aggD, Jg, List.map_cons, List.map_nil] at c5
            have C5 := Hh c5
            clear c5
            unfold prS
            refine go_ ?_
            refine Rd 3 1 (B0.out) ?_
            rintro _ _ ⟨rfl, rfl⟩
            refine go_ ?_
            refine Qaa ?_
            refine Qaa ?_
            refine Qjf (J := Qdr [(i2, _)]) [(0, .a), (1, .a), (2, .a), (3, .e), (4, .a), (5, .e), (6, .a), (7, .e)] (by kernel_rfl) (by rfl) (by kernel_rfl) (by (repeat (first | exact Qce _ | refine Jt (by simp [St.box?, *] <;> rfl) ?_))) ?_
            refine lG ?_
            refine Qjx 3 1 (C5.out) ?_
            rintro _ _ ⟨rfl, rfl⟩
            refine ⟨.inr (by (repeat (first | exact Qce _ | refine Jt (by simp [St.box?, *] <;> rfl) ?_))), ?_⟩
            refine lG ?_
            refine PL_bs ?_ rfl (by decide) rfl (by simp; rfl) (by rfl) (by simp; rfl) (by rfl) (by decide) (by decide) eQ (by simp [Qdf, toDs, PV.toD]; rfl)
            refine PL_app (q.sub.length + 1) ?_ ?_ ?_ ?_ ?_
            rotate_left
            · exact Qeq fun _ => Qgs _
            · exact Qfz rfl
            · simp
            · exact .inr (by (repeat (first | exact Qce _ | refine Jt (by simp [St.box?, *] <;> rfl) ?_)))
            refine lG ?_
            refine PLs ?_
            refine lG ?_
            refine go_ ?_
            refine ⟨(m, Nd.mk 8 at0 q.name q.num (q.sub ++ [X]), τ2), ⟨by omega, HA2.out.1, HF2.out, HR2.out, fun hb => ?_⟩, by simp only; omega, ?_, ?_⟩
            · have h3 := (HA2.out.2 hb).2
              have h4 := HS.out hz
              show (q.sub ++ [X]).length ≤ τ2.i
              rw [List.length_append]
              simp only [List.length_cons, List.length_nil]
              omega
            · exact sU
            · simp only [Nd.kind, Nd.at, Nd.name, Nd.num, Nd.sub, List.length_append, List.length_cons, List.length_nil, Nat.zero_add, List.map_append, List.map_cons, List.map_nil, Jg X]
              exact dR
          | false =>
            rw [if_neg (by rw [hbg]; simp)] at hr
            have HR2 := Hh hr
            clear hr hf
            unfold prS
            refine go_ ?_
            refine Rd 3 1 (B0.out) ?_
            rintro _ _ ⟨rfl, rfl⟩
            refine go_ ?_
            refine Rd 3 1 (B1.out) ?_
            rintro _ _ ⟨rfl, rfl⟩
            refine go_ ?_
            refine Qaa ?_
            refine rS (st' := prS i0 l (Qaf l sRap τ)) Try.results85 ?_
            exact ⟨by rw [← HR2.out]; simp only [aggD, Jg, List.map_cons, List.map_nil]; rfl, by rw [← HR2.out]; rfl⟩
        · rw [if_neg (by simp [hz])] at hr
          have HR2 := Hh hr
          clear hr hf
          unfold prS
          refine go_ ?_
          refine Rd 3 1 (B1.out) ?_
          rintro _ _ ⟨rfl, rfl⟩
          refine go_ ?_
          refine Qaa ?_
          refine rS (st' := prS i0 l (Qaf l sRap τ)) Try.results85 ?_
          exact ⟨by rw [← HR2.out]; simp only [aggD, Jg, List.map_cons, List.map_nil]; rfl, by rw [← HR2.out]; rfl⟩
theorem patterns_w {l : List Tk} (hl : TkOk l) : ∀ n, (∀ σ, Wf l σ → isS l σ 0 sPar = true → σ.bad = 0 → Fu l n 2 σ → ParenC l n σ) ∧ (∀ σ, Wf l σ → Fu l n 3 σ → PatC l n σ) := by
  intro n
  induction n using Nat.strongRecOn with
  | _ n ih =>
    match n with
    | 0 => exact ⟨fun _ _ _ _ h => absurd h.1 (Nat.lt_irrefl 0), fun _ _ h => absurd h.1 (Nat.lt_irrefl 0)⟩
    | n + 1 => exact ⟨fun σ hw hp hz hf => paren_w hl n (fun m hm σ hw hf => (ih m (by omega)).2 σ hw hf) σ hw hp hz hf, fun σ hw hf => pat_w hl n (ih n (Nat.lt_succ_self n)).1 σ hw hf⟩
section
variable {l : List Tk} (hl : TkOk l)
include hl
theorem Qjp {σ : ST} (x : Nd) (a : Int) (h : Wf l σ) : Adv l σ (Qcc x a σ) := by
 unfold Qcc
 split
 ·exact (Qfd hl 2 a (by decide) h).adv
 ·exact Adv.refl h
theorem patF_adv {σ : ST} (h : Wf l σ) : AdvS l σ (patS l (patF l) σ).2 := ((Qju hl (patF l)).2.2 σ h).2 (by unfold patF; omega)
theorem Qkp : ∀ (n : Nat) (acc : List Nd) (σ : ST), Wf l σ → Adv l σ (Qcr l n acc σ).2 := by
  intro n
  induction n with
  | zero => intro acc σ h; exact Adv.refl h
  | succ n ih =>
    intro acc σ h
    simp only [Qcr]
    split
    · split
      · exact (Qfd hl 2 _ (by decide) h).adv
      · have h1 := patF_adv hl h
        have h2 := h1.adv.trans (Qjp hl (patS l (patF l) σ).1 (tkg l σ.i).at_ h1.1)
        exact h2.trans (ih _ _ h2.1)
    · exact Adv.refl h
theorem Qdn {σ : ST} (h : Wf l σ) : Adv l σ (Qbg l (Qbf l) σ).2 := expr_adv hl (Qbf l) σ h
theorem Qiu {σ : ST} (h : Wf l σ) : AdvS l σ (conS l σ).2 := by
 unfold conS
 have h1 := Qdu hl h
 have h2 := h1.trans (Qag hl sCol h1.1).adv
 exact h2.trans (Qdn hl h2.1)
theorem bind_adv {σ : ST} (h : Wf l σ) : AdvS l σ (Qgd l σ).2 := by
 unfold Qgd
 have h1 := Qag hl sPar h
 have h2 := h1.trans (Qiu hl h1.1).adv
 exact h2.trans (Qag hl sRap h2.1).adv
theorem line_adv {σ : ST} (h : Wf l σ) : AdvS l σ (Qgi l σ).2 := by
 unfold Qgi
 have h1 := Qiu hl h
 exact h1.trans (Qag hl sSem h1.1).adv
end
theorem Qjg {l : List Tk} (hl : TkOk l) (i0 : Nat) (σ : ST) (hw : Wf l σ) : PCalls Try.prog 25 [.ptr i0 0] (prS i0 l σ) fun p s => p = aggD (Qbg l (Qbf l) σ).1 ∧ s = prS i0 l (Qbg l (Qbf l) σ).2 :=
 expr_p hl i0 (Qbf l) σ hw ⟨by unfold Qbf; omega, fun _ => by unfold Qbf; omega⟩
theorem open_p {l : List Tk} (hl : TkOk l) (i0 : Nat) (σ : ST) (hw : Wf l σ) : PCalls Try.prog 56 [.ptr i0 0] (prS i0 l σ) fun p s => p = .d (.v (.bool (Qeo l σ))) ∧ s = prS i0 l σ := by
 have c1 := Hh (is_p i0 l σ 0 0 rfl sKet hl.len hl.pos (by have := hw.le hl; omega) (by decide))
 have HO := Hh (show Qeo l σ = !isS l σ 0 sKet from rfl)
 unfold sKet at c1
 refine pG Try.func56 Try.ntmps56 ?_
 refine Re (c1.out) ?_
 rintro _ _ ⟨rfl, rfl⟩
 refine go_ ?_
 refine rS (st' := prS i0 l σ) Try.results56 ?_
 exact ⟨by rw [HO.out]; rfl, rfl⟩
theorem paren0_p {l : List Tk} (hl : TkOk l) (i0 : Nat) (σ : ST) (hw : Wf l σ) : PCalls Try.prog 52 [.ptr i0 0] (prS i0 l σ) fun p s => p = .d (.v (.bool (Qex l σ))) ∧ s = prS i0 l σ := by
 have c1 := Hh (is_p i0 l σ 0 0 rfl sPar hl.len hl.pos (by have := hw.le hl; omega) (by decide))
 have HO := Hh (show Qex l σ = isS l σ 0 sPar from rfl)
 unfold sPar at c1
 refine pG Try.func52 Try.ntmps52 ?_
 refine Re (c1.out) ?_
 rintro _ _ ⟨rfl, rfl⟩
 refine go_ ?_
 refine rS (st' := prS i0 l σ) Try.results52 ?_
 exact ⟨by rw [HO.out]; rfl, rfl⟩
theorem con_p {l : List Tk} (hl : TkOk l) (i0 : Nat) (σ : ST) (hw : Wf l σ) : PCalls Try.prog 88 [.ptr i0 0] (prS i0 l σ) fun p s => p = aggD (conS l σ).1 ∧ s = prS i0 l (conS l σ).2 := by
 have b1 : σ.i ≤ 150000 := Nat.le_trans (hw.le hl) (by decide)
 have h1 := Qdu hl hw
 have h2 := h1.trans (Qag hl sCol h1.1).adv
 have c0 := Hh (Qct i0 l σ hl.len hl.pos b1)
 have c1 := Hh (name_p i0 l σ hl.len hl.pos b1)
 have c2 := Qcu i0 l _ sCol hl.len hl.pos (Nat.le_trans (h1.1.le hl) (by decide))
 have c3 := Qjg hl i0 _ h2.1
 have HT := Hh (show conS l σ = (⟨(Qal l σ).1, (tkg l σ.i).at_, (Qbg l (Qbf l) (Qaf l sCol (Qal l σ).2)).1⟩, (Qbg l (Qbf l) (Qaf l sCol (Qal l σ).2)).2) from rfl)
 rw [HT.out]
 clear HT h1 h2
 unfold sCol at c2
 generalize (Qal l σ).1 = x at *
 generalize (Qal l σ).2 = σ1 at *
 change PCalls _ _ _ _ (fun p st => p = PV.tup [] ∧ st = prS i0 l (Qaf l sCol σ1)) at c2
 generalize Qaf l sCol σ1 = σ2 at *
 generalize (Qbg l (Qbf l) σ2).1 = A at *
 generalize (Qbg l (Qbf l) σ2).2 = σ3 at *
 simp only [aggD, Jg, Jj, List.map_cons, List.map_nil] at c3 ⊢
 have C2 := Hh c2
 have C3 := Hh c3
 clear c2 c3
 refine pG Try.func88 Try.ntmps88 ?_
 refine Jd ?_
 intro i1 hi1
 simp only [prS, List.cons_append, List.nil_append, List.append_nil, List.drop_succ_cons, List.drop_zero, List.drop_nil, Rh, Rg, Rf, Ja] at hi1
 refine go_ ?_
 refine Rd 1 1 (c0.out) ?_
 rintro _ _ ⟨rfl, rfl⟩
 refine go_ ?_
 refine Rd 1 1 (c1.out) ?_
 rintro _ _ ⟨rfl, rfl⟩
 refine go_ ?_
 refine Jd ?_
 intro i2 hi2
 simp only [prS, List.cons_append, List.nil_append, List.append_nil, List.drop_succ_cons, List.drop_zero, List.drop_nil, Rh, Rg, Rf, Ja] at hi2
 refine go_ ?_
 refine Qaa ?_
 refine Rd 2 1 (C2.out) ?_
 rintro _ _ ⟨rfl, rfl⟩
 refine go_ ?_
 refine Rd 2 1 (C3.out) ?_
 rintro _ _ ⟨rfl, rfl⟩
 refine go_ ?_
 refine Qaa ?_
 refine Qaa ?_
 refine rS (st' := prS i0 l σ3) Try.results88 ?_
 exact ⟨rfl, rfl⟩
theorem bind_p {l : List Tk} (hl : TkOk l) (i0 : Nat) (σ : ST) (hw : Wf l σ) : PCalls Try.prog 53 [.ptr i0 0] (prS i0 l σ) fun p s => p = aggD (Qgd l σ).1 ∧ s = prS i0 l (Qgd l σ).2 := by
 have b1 : σ.i ≤ 150000 := Nat.le_trans (hw.le hl) (by decide)
 have h1 := Qag hl sPar hw
 have h2 := h1.trans (Qiu hl h1.1).adv
 have c1 := Qcu i0 l σ sPar hl.len hl.pos b1
 have c2 := con_p hl i0 _ h1.1
 have c3 := Qcu i0 l _ sRap hl.len hl.pos (Nat.le_trans (h2.1.le hl) (by decide))
 have HT := Hh (show Qgd l σ = ((conS l (Qaf l sPar σ)).1, Qaf l sRap (conS l (Qaf l sPar σ)).2) from rfl)
 rw [HT.out]
 clear HT h1 h2
 generalize Qaf l sPar σ = σ1 at *
 generalize (conS l σ1).1 = A at *
 generalize (conS l σ1).2 = σ2 at *
 generalize Qaf l sRap σ2 = σ3 at *
 unfold sPar at c1
 unfold sRap at c3
 simp only [aggD, Jg, Jj, List.map_cons, List.map_nil] at c2 ⊢
 have C1 := Hh c1
 have C2 := Hh c2
 have C3 := Hh c3
 clear c1 c2 c3
 refine pG Try.func53 Try.ntmps53 ?_
 refine Jd ?_
 intro i1 hi1
 simp only [prS, List.cons_append, List.nil_append, List.append_nil, List.drop_succ_cons, List.drop_zero, List.drop_nil, Rh, Rg, Rf, Ja] at hi1
 refine go_ ?_
 refine Rd 1 1 (C1.out) ?_
 rintro _ _ ⟨rfl, rfl⟩
 refine go_ ?_
 refine Rd 1 1 (C2.out) ?_
 rintro _ _ ⟨rfl, rfl⟩
 refine go_ ?_
 refine Jd ?_
 intro i2 hi2
 simp only [prS, List.cons_append, List.nil_append, List.append_nil, List.drop_succ_cons, List.drop_zero, List.drop_nil, Rh, Rg, Rf, Ja] at hi2
 refine go_ ?_
 refine Qaa ?_
 refine Rd 2 1 (C3.out) ?_
 rintro _ _ ⟨rfl, rfl⟩
 refine go_ ?_
 refine Qaa ?_
 refine rS (st' := prS i0 l σ3) Try.results53 ?_
 exact ⟨rfl, rfl⟩
theorem line_p' {l : List Tk} (hl : TkOk l) (i0 : Nat) (σ : ST) (hw : Wf l σ) : PCalls Try.prog 57 [.ptr i0 0] (prS i0 l σ) fun p s => p = aggD (Qgi l σ).1 ∧ s = prS i0 l (Qgi l σ).2 := by
 have h1 := Qiu hl hw
 have c2 := con_p hl i0 _ hw
 have c3 := Qcu i0 l _ sSem hl.len hl.pos (Nat.le_trans (h1.1.le hl) (by decide))
 have HT := Hh (show Qgi l σ = ((conS l σ).1, Qaf l sSem (conS l σ).2) from rfl)
 rw [HT.out]
 clear HT h1
 generalize (conS l σ).1 = A at *
 generalize (conS l σ).2 = σ2 at *
 generalize Qaf l sSem σ2 = σ3 at *
 unfold sSem at c3
 simp only [aggD, Jg, Jj, List.map_cons, List.map_nil] at c2 ⊢
 have C2 := Hh c2
 have C3 := Hh c3
 clear c2 c3
 refine pG Try.func57 Try.ntmps57 ?_
 refine Jd ?_
 intro i1 hi1
 simp only [prS, List.cons_append, List.nil_append, List.append_nil, List.drop_succ_cons, List.drop_zero, List.drop_nil, Rh, Rg, Rf, Ja] at hi1
 refine go_ ?_
 refine Rd 1 1 (C2.out) ?_
 rintro _ _ ⟨rfl, rfl⟩
 refine go_ ?_
 refine Jd ?_
 intro i2 hi2
 simp only [prS, List.cons_append, List.nil_append, List.append_nil, List.drop_succ_cons, List.drop_zero, List.drop_nil, Rh, Rg, Rf, Ja] at hi2
 refine go_ ?_
 refine Qaa ?_
 refine Rd 2 1 (C3.out) ?_
 rintro _ _ ⟨rfl, rfl⟩
 refine go_ ?_
 refine Qaa ?_
 refine rS (st' := prS i0 l σ3) Try.results57 ?_
 exact ⟨rfl, rfl⟩
theorem pats_p {l : List Tk} (hl : TkOk l) (i0 : Nat) (σ : ST) (hw : Wf l σ) : PCalls Try.prog 27 [.ptr i0 0] (prS i0 l σ) fun p s => p = .d (slD (Qcr l (l.length + 1) [] σ).1) ∧ s = prS i0 l (Qcr l (l.length + 1) [] σ).2 := by
  have HG : ∃ r, r = Qcr l (l.length + 1) [] σ := ⟨_, rfl⟩
  obtain ⟨r, hr⟩ := HG
  have HR := Hh hr.symm
  rw [← hr]
  clear hr
  have HW := Hh hw
  clear hw
  unfold slD
  refine pG Try.func27 Try.ntmps27 ?_
  refine PW_own 3 31 5 (by decide) (by simp [PF.get] <;> rfl) fun g hg => ?_
  refine Qbc (ι := Nat × List Nd × ST) (fun y => Wf l y.2.2 ∧ 0 < y.1 ∧ (y.2.2.bad = 0 → l.length - y.2.2.i + 1 ≤ y.1) ∧ Qcr l y.1 y.2.1 y.2.2 = r ∧ y.2.1.length ≤ 24) (fun y => [(0, .ptr i0 0), (3, .own g (y.2.1.map encD))])
    (fun y => .tok g 31 5 y.2.1.length :: prS i0 l y.2.2) (fun y => y.1) (l.length + 1, [], σ) ⟨HW.out, Nat.succ_pos _, fun _ => by simp only; omega, HR.out, Nat.zero_le _⟩ ?_ ?_ ?_
  · exact sU
  · exact dR
  · rintro ⟨m, acc, τ⟩ ⟨hw, hm0, hm, hr, hacc⟩
    simp only at hw hm0 hm hr hacc ⊢
    obtain ⟨m, rfl⟩ : ∃ k, m = k + 1 := ⟨m - 1, by omega⟩
    have b3 : τ.i ≤ 150000 := Nat.le_trans (hw.le hl) (by decide)
    have B0 := Hh (pattern_p i0 l τ hl.len hl.pos b3)
    have B1 := Hh (Qct i0 l τ hl.len hl.pos b3)
    simp only [Qcr] at hr
    by_cases hz : τ.bad = 0
    · cases hbg : Qdv l τ with
      | true =>
        rw [if_pos ⟨hz, hbg⟩] at hr
        by_cases h24 : 24 ≤ acc.length
        · rw [if_pos h24] at hr
          have hc24 : (24 : Int) ≤ (acc.length : Int) := by omega
          have B2 := Hh (Qic i0 l τ 2 (tkg l τ.i).at_)
          have HR2 := Hh hr
          clear hr hm
          unfold prS
          refine go_ ?_
          refine Rd 1 1 (B0.out) ?_
          rintro _ _ ⟨rfl, rfl⟩
          refine go_ ?_
          refine Rd 1 1 (B1.out) ?_
          rintro _ _ ⟨rfl, rfl⟩
          refine go_ ?_
          refine Rd 1 1 (B2.out) ?_
          rintro _ _ ⟨rfl, rfl⟩
          refine go_ ?_
          refine rS (st' := prS i0 l (Qbh 2 (tkg l τ.i).at_ τ)) Try.results27 ?_
          exact ⟨by rw [← HR2.out]; rfl, by rw [← HR2.out]; rfl⟩
        · rw [if_neg h24] at hr
          have hc24 : ¬ (24 : Int) ≤ (acc.length : Int) := by omega
          have hA := patF_adv hl hw
          have hA2 := hA.trans (Qjp hl (patS l (patF l) τ).1 (tkg l τ.i).at_ hA.1)
          have c2 := (patterns_w hl (patF l)).2 τ hw ⟨by unfold patF; omega, fun _ => by unfold patF; omega⟩ i0
          have c3 := checked_p i0 l (patS l (patF l) τ).1 (tkg l τ.i).at_ (patS l (patF l) τ).2
          have HA := Hh hA2
          have HM := Hh hm
          have HR2 := Hh hr
          clear hr hm hA hA2
          generalize (tkg l τ.i).at_ = at0 at *
          generalize (patS l (patF l) τ).1 = X at *
          generalize (patS l (patF l) τ).2 = τ1 at *
          generalize Qcc X at0 τ1 = τ2 at *
          simp only [aggD, Jg, List.map_cons, List.map_nil] at c2 c3
          have C2 := Hh c2
          have C3 := Hh c3
          clear c2 c3
          unfold prS
          refine go_ ?_
          refine Rd 1 1 (B0.out) ?_
          rintro _ _ ⟨rfl, rfl⟩
          refine go_ ?_
          refine Rd 1 1 (B1.out) ?_
          rintro _ _ ⟨rfl, rfl⟩
          refine go_ ?_
          refine Rd 1 1 (C2.out) ?_
          rintro _ _ ⟨rfl, rfl⟩
          refine go_ ?_
          refine Rd 1 1 (C3.out) ?_
          rintro _ _ ⟨rfl, rfl⟩
          refine go_ ?_
          refine Qad ?_
          refine Qeh (acc.length + 1) ?_ ?_ ?_ ?_
          · simp
          · exact Qeq fun _ => Qgs _
          · exact Qfz rfl
          refine go_ ?_
          refine ⟨(m, acc ++ [X], τ2), ⟨HA.out.1, ?_, fun hb => ?_, HR2.out, by simp only [List.length_append, List.length_cons, List.length_nil]; omega⟩, by simp only; omega, ?_, ?_⟩
          · have h1 := HM.out hz
            have h2 := hw
            unfold Wf at h2
            simp only
            omega
          · have h1 := HM.out hz
            have h2 := (HA.out.2 hb).2
            have h3 := HA.out.1
            unfold Wf at h3
            simp only
            omega
          · refine Jr (by simp [PF.get] <;> rfl) rfl ?_
            refine Jr (by simp [PF.get] <;> rfl) (by simp only [List.map_append, List.map_cons, List.map_nil, Jg X]) ?_
            exact sU
          · simp only [List.length_append, List.length_cons, List.length_nil, Nat.zero_add]
            exact dR
      | false =>
        rw [if_neg (by rw [hbg]; simp)] at hr
        have HR2 := Hh hr
        clear hr hm
        unfold prS
        refine go_ ?_
        refine Rd 1 1 (B0.out) ?_
        rintro _ _ ⟨rfl, rfl⟩
        refine go_ ?_
        refine rS (st' := prS i0 l τ) Try.results27 ?_
        exact ⟨by rw [← HR2.out]; rfl, by rw [← HR2.out]; rfl⟩
    · rw [if_neg (by simp [hz])] at hr
      have HR2 := Hh hr
      clear hr hm
      unfold prS
      refine go_ ?_
      refine rS (st' := prS i0 l τ) Try.results27 ?_
      exact ⟨by rw [← HR2.out]; rfl, by rw [← HR2.out]; rfl⟩
section
variable {l : List Tk} (hl : TkOk l)
include hl
theorem row_adv {σ : ST} (h : Wf l σ) : AdvS l σ (rowS l σ).2 := by
 unfold rowS
 have h1 := Qkp hl (l.length + 1) [] σ h
 simp only
 split
 ·rename_i he
  have h2 := h1.trans (Qax hl (Qbw he.2)).adv
  have h3 := h2.trans (Qdn hl h2.1)
  exact h3.transS (Qag hl sSem h3.1)
 ·exact h1.transS (Qag hl sSem h1.1)
theorem Qkt : ∀ (n : Nat) (acc : List Rw) (σ : ST), Wf l σ → Adv l σ (Qdt l n acc σ).2 := by
  intro n
  induction n with
  | zero => intro acc σ h; exact Adv.refl h
  | succ n ih =>
    intro acc σ h
    simp only [Qdt]
    split
    · split
      · exact (Qfd hl 2 _ (by decide) h).adv
      · have h1 := row_adv hl h
        exact h1.adv.trans (ih _ _ h1.1)
    · exact Adv.refl h
theorem list_adv {most : Nat} {more : ST → Bool} {one : ST → Bd × ST} (ho : ∀ σ, Wf l σ → AdvS l σ (one σ).2) : ∀ (n : Nat) (acc : List Bd) (σ : ST), Wf l σ → Adv l σ (Qdc l most more one n acc σ).2 := by
  intro n
  induction n with
  | zero => intro acc σ h; exact Adv.refl h
  | succ n ih =>
    intro acc σ h
    simp only [Qdc]
    split
    · split
      · exact (Qfd hl 2 _ (by decide) h).adv
      · have h1 := ho σ h
        exact h1.adv.trans (ih _ _ h1.1)
    · exact Adv.refl h
end
theorem row_p' {l : List Tk} (hl : TkOk l) (i0 : Nat) (σ : ST) (hw : Wf l σ) : PCalls Try.prog 89 [.ptr i0 0] (prS i0 l σ) fun p s => p = aggD (rowS l σ).1 ∧ s = prS i0 l (rowS l σ).2 := by
  have b1 : σ.i ≤ 150000 := Nat.le_trans (hw.le hl) (by decide)
  have h1 := Qkp hl (l.length + 1) [] σ hw
  have c0 := Hh (Qct i0 l σ hl.len hl.pos b1)
  have c1 := pats_p hl i0 σ hw
  have HT := Hh (show rowS l σ = (if (Qcr l (l.length + 1) [] σ).2.bad = 0 ∧ isS l (Qcr l (l.length + 1) [] σ).2 0 sEq then (⟨(tkg l σ.i).at_, (Qcr l (l.length + 1) [] σ).1, true, (Qbg l (Qbf l) (incS (Qcr l (l.length + 1) [] σ).2)).1⟩, Qaf l sSem (Qbg l (Qbf l) (incS (Qcr l (l.length + 1) [] σ).2)).2) else (⟨(tkg l σ.i).at_, (Qcr l (l.length + 1) [] σ).1, false, zNd⟩, Qaf l sSem (Qcr l (l.length + 1) [] σ).2)) from rfl)
  rw [HT.out]
  clear HT
  generalize (Qcr l (l.length + 1) [] σ).1 = ps at *
  generalize (Qcr l (l.length + 1) [] σ).2 = σ1 at *
  generalize (tkg l σ.i).at_ = at0 at *
  have hw1 := h1.1
  clear h1
  have b2 : σ1.i ≤ 150000 := Nat.le_trans (hw1.le hl) (by decide)
  have c2 := Hh (is_p i0 l σ1 0 0 rfl sEq hl.len hl.pos (by omega) (by decide))
  unfold sEq at c2
  unfold slD at c1
  have C1 := Hh c1
  clear c1
  by_cases hz : σ1.bad = 0
  · cases he : isS l σ1 0 sEq with
    | true =>
      have h2 := Qax hl (Qbw he)
      unfold sEq at he
      rw [if_pos ⟨hz, rfl⟩]
      have c3 := Qjg hl i0 _ h2.1
      have c4 := Qcu i0 l _ sSem hl.len hl.pos (Nat.le_trans ((Qdn hl h2.1).1.le hl) (by decide))
      have hin := Qez b2
      clear h2
      obtain ⟨i, a, b⟩ := σ1
      simp only at hz hin b2
      subst hz
      generalize (Qbg l (Qbf l) (incS ⟨i, a, 0⟩)).1 = A at *
      generalize (Qbg l (Qbf l) (incS ⟨i, a, 0⟩)).2 = σ3 at *
      generalize Qaf l sSem σ3 = σ4 at *
      unfold sSem at c4
      simp only [aggD, Jg, Jh, List.map_cons, List.map_nil] at c3 ⊢
      have C3 := Hh c3
      have C4 := Hh c4
      clear c3 c4
      refine pG Try.func89 Try.ntmps89 ?_
      refine Jd ?_
      intro i1 hi1
      simp only [prS, List.cons_append, List.nil_append, List.append_nil, List.drop_succ_cons, List.drop_zero, List.drop_nil, Rh, Rg, Rf, Ja] at hi1
      refine go_ ?_
      refine Rd 1 1 (c0.out) ?_
      rintro _ _ ⟨rfl, rfl⟩
      refine go_ ?_
      refine Rd 1 1 (C1.out) ?_
      rintro _ _ ⟨rfl, rfl⟩
      refine go_ ?_
      refine Jd ?_
      intro i2 hi2
      simp only [prS, List.cons_append, List.nil_append, List.append_nil, List.drop_succ_cons, List.drop_zero, List.drop_nil, Rh, Rg, Rf, Ja] at hi2
      refine go_ ?_
      refine Rc ?_
      unfold prS
      refine go_ ?_
      refine Rd 2 1 (c2.out) ?_
      rintro _ _ ⟨rfl, rfl⟩
      unfold prS
      refine go_ ?_
      refine Qaa ?_
      refine Rd 2 1 (C3.out) ?_
      rintro _ _ ⟨rfl, rfl⟩
      refine go_ ?_
      refine Qaa ?_
      refine Qaa ?_
      refine Rd 2 1 (C4.out) ?_
      rintro _ _ ⟨rfl, rfl⟩
      refine go_ ?_
      refine Qaa ?_
      refine rS (st' := prS i0 l σ4) Try.results89 ?_
      exact ⟨rfl, rfl⟩
    | false =>
      unfold sEq at he
      rw [if_neg (by simp)]
      have c4 := Qcu i0 l σ1 sSem hl.len hl.pos b2
      generalize Qaf l sSem σ1 = σ4 at *
      unfold sSem at c4
      unfold zNd
      simp only [aggD, Jg, Jh, List.map_cons, List.map_nil, Nd.kind, Nd.at, Nd.name, Nd.num, Nd.sub]
      have C4 := Hh c4
      clear c4
      refine pG Try.func89 Try.ntmps89 ?_
      refine Jd ?_
      intro i1 hi1
      simp only [prS, List.cons_append, List.nil_append, List.append_nil, List.drop_succ_cons, List.drop_zero, List.drop_nil, Rh, Rg, Rf, Ja] at hi1
      refine go_ ?_
      refine Rd 1 1 (c0.out) ?_
      rintro _ _ ⟨rfl, rfl⟩
      refine go_ ?_
      refine Rd 1 1 (C1.out) ?_
      rintro _ _ ⟨rfl, rfl⟩
      refine go_ ?_
      refine Jd ?_
      intro i2 hi2
      simp only [prS, List.cons_append, List.nil_append, List.append_nil, List.drop_succ_cons, List.drop_zero, List.drop_nil, Rh, Rg, Rf, Ja] at hi2
      refine go_ ?_
      refine Rc ?_
      unfold prS
      refine go_ ?_
      refine Rd 2 1 (c2.out) ?_
      rintro _ _ ⟨rfl, rfl⟩
      refine go_ ?_
      refine Rd 2 1 (C4.out) ?_
      rintro _ _ ⟨rfl, rfl⟩
      refine go_ ?_
      refine Qaa ?_
      refine rS (st' := prS i0 l σ4) Try.results89 ?_
      exact ⟨rfl, rfl⟩
  · rw [if_neg (by simp [hz])]
    have c4 := Qcu i0 l σ1 sSem hl.len hl.pos b2
    generalize Qaf l sSem σ1 = σ4 at *
    unfold sSem at c4
    unfold zNd
    simp only [aggD, Jg, Jh, List.map_cons, List.map_nil, Nd.kind, Nd.at, Nd.name, Nd.num, Nd.sub]
    have C4 := Hh c4
    clear c4
    refine pG Try.func89 Try.ntmps89 ?_
    refine Jd ?_
    intro i1 hi1
    simp only [prS, List.cons_append, List.nil_append, List.append_nil, List.drop_succ_cons, List.drop_zero, List.drop_nil, Rh, Rg, Rf, Ja] at hi1
    refine go_ ?_
    refine Rd 1 1 (c0.out) ?_
    rintro _ _ ⟨rfl, rfl⟩
    refine go_ ?_
    refine Rd 1 1 (C1.out) ?_
    rintro _ _ ⟨rfl, rfl⟩
    refine go_ ?_
    refine Jd ?_
    intro i2 hi2
    simp only [prS, List.cons_append, List.nil_append, List.append_nil, List.drop_succ_cons, List.drop_zero, List.drop_nil, Rh, Rg, Rf, Ja] at hi2
    refine go_ ?_
    refine Rc ?_
    unfold prS
    refine go_ ?_
    refine Rd 2 1 (C4.out) ?_
    rintro _ _ ⟨rfl, rfl⟩
    refine go_ ?_
    refine Qaa ?_
    refine rS (st' := prS i0 l σ4) Try.results89 ?_
    exact ⟨rfl, rfl⟩
theorem kind_p {l : List Tk} (hl : TkOk l) (i0 : Nat) (σ : ST) (hw : Wf l σ) : PCalls Try.prog 49 [.ptr i0 0] (prS i0 l σ) fun p s => p = .d (.v (.int .i64 (Qcx l σ))) ∧ s = prS i0 l σ := by
  have b1 : σ.i ≤ 200000 := Nat.le_trans (hw.le hl) (by decide)
  have c1 := Hh (is_p i0 l σ 0 0 rfl sData hl.len hl.pos b1 (by decide))
  have c2 := Hh (is_p i0 l σ 0 0 rfl sRec hl.len hl.pos b1 (by decide))
  have c3 := Hh (is_p i0 l σ 0 0 rfl sDef hl.len hl.pos b1 (by decide))
  have HK := Hh (show Qcx l σ = if isS l σ 0 sData then 1 else if isS l σ 0 sRec then 2 else if isS l σ 0 sDef then 3 else 0 from rfl)
  unfold sData sRec sDef at *
  refine pG Try.func49 Try.ntmps49 ?_
  refine Re (c1.out) ?_
  rintro _ _ ⟨rfl, rfl⟩
  cases h1 : isS l σ 0 ⟨#[100, 97, 116, 97]⟩ with
  | true =>
    rw [h1] at HK
    refine go_ ?_
    refine rS (st' := prS i0 l σ) Try.results49 ?_
    exact ⟨by rw [HK.out]; rfl, rfl⟩
  | false =>
    rw [h1] at HK
    refine go_ ?_
    refine Re (c2.out) ?_
    rintro _ _ ⟨rfl, rfl⟩
    cases h2 : isS l σ 0 ⟨#[114, 101, 99, 111, 114, 100]⟩ with
    | true =>
      rw [h2] at HK
      refine go_ ?_
      refine rS (st' := prS i0 l σ) Try.results49 ?_
      exact ⟨by rw [HK.out]; rfl, rfl⟩
    | false =>
      rw [h2] at HK
      refine go_ ?_
      refine Re (c3.out) ?_
      rintro _ _ ⟨rfl, rfl⟩
      cases h3 : isS l σ 0 ⟨#[100, 101, 102]⟩ with
      | true =>
        rw [h3] at HK
        refine go_ ?_
        refine rS (st' := prS i0 l σ) Try.results49 ?_
        exact ⟨by rw [HK.out]; rfl, rfl⟩
      | false =>
        rw [h3] at HK
        refine go_ ?_
        refine rS (st' := prS i0 l σ) Try.results49 ?_
        exact ⟨by rw [HK.out]; rfl, rfl⟩
theorem rows_p {l : List Tk} (hl : TkOk l) (i0 : Nat) (σ : ST) (hw : Wf l σ) : PCalls Try.prog 55 [.ptr i0 0] (prS i0 l σ) fun p s => p = .d (slD (Qdt l (l.length + 1) [] σ).1) ∧ s = prS i0 l (Qdt l (l.length + 1) [] σ).2 := by
  have HG : ∃ r, r = Qdt l (l.length + 1) [] σ := ⟨_, rfl⟩
  obtain ⟨r, hr⟩ := HG
  have HR := Hh hr.symm
  rw [← hr]
  clear hr
  have HW := Hh hw
  clear hw
  unfold slD
  refine pG Try.func55 Try.ntmps55 ?_
  refine PW_own 3 66 8 (by decide) (by simp [PF.get] <;> rfl) fun g hg => ?_
  refine Qbc (ι := Nat × List Rw × ST) (fun y => Wf l y.2.2 ∧ 0 < y.1 ∧ (y.2.2.bad = 0 → l.length - y.2.2.i + 1 ≤ y.1) ∧ Qdt l y.1 y.2.1 y.2.2 = r ∧ y.2.1.length ≤ 32) (fun y => [(0, .ptr i0 0), (3, .own g (y.2.1.map encD))])
    (fun y => .tok g 66 8 y.2.1.length :: prS i0 l y.2.2) (fun y => y.1) (l.length + 1, [], σ) ⟨HW.out, Nat.succ_pos _, fun _ => by simp only; omega, HR.out, Nat.zero_le _⟩ ?_ ?_ ?_
  · exact sU
  · exact dR
  · rintro ⟨m, acc, τ⟩ ⟨hw, hm0, hm, hr, hacc⟩
    simp only at hw hm0 hm hr hacc ⊢
    obtain ⟨m, rfl⟩ : ∃ k, m = k + 1 := ⟨m - 1, by omega⟩
    have b3 : τ.i ≤ 150000 := Nat.le_trans (hw.le hl) (by decide)
    have B0 := Hh (open_p hl i0 τ hw)
    have B1 := Hh (Qct i0 l τ hl.len hl.pos b3)
    simp only [Qdt] at hr
    by_cases hz : τ.bad = 0
    · cases hbg : Qeo l τ with
      | true =>
        rw [if_pos ⟨hz, hbg⟩] at hr
        by_cases h24 : 32 ≤ acc.length
        · rw [if_pos h24] at hr
          have hc24 : (32 : Int) ≤ (acc.length : Int) := by omega
          have B2 := Hh (Qic i0 l τ 2 (tkg l τ.i).at_)
          have HR2 := Hh hr
          clear hr hm
          unfold prS
          refine go_ ?_
          refine Rd 1 1 (B0.out) ?_
          rintro _ _ ⟨rfl, rfl⟩
          refine go_ ?_
          refine Rd 1 1 (B1.out) ?_
          rintro _ _ ⟨rfl, rfl⟩
          refine go_ ?_
          refine Rd 1 1 (B2.out) ?_
          rintro _ _ ⟨rfl, rfl⟩
          refine go_ ?_
          refine rS (st' := prS i0 l (Qbh 2 (tkg l τ.i).at_ τ)) Try.results55 ?_
          exact ⟨by rw [← HR2.out]; rfl, by rw [← HR2.out]; rfl⟩
        · rw [if_neg h24] at hr
          have hc24 : ¬ (32 : Int) ≤ (acc.length : Int) := by omega
          have hA := row_adv hl hw
          have c2 := row_p' hl i0 τ hw
          have HA := Hh hA
          have HM := Hh hm
          have HR2 := Hh hr
          clear hr hm hA
          generalize (rowS l τ).1 = X at *
          generalize (rowS l τ).2 = τ2 at *
          simp only [aggD, Jh, Jg, List.map_cons, List.map_nil] at c2
          have C2 := Hh c2
          clear c2
          unfold prS
          refine go_ ?_
          refine Rd 1 1 (B0.out) ?_
          rintro _ _ ⟨rfl, rfl⟩
          refine go_ ?_
          refine Rd 1 1 (C2.out) ?_
          rintro _ _ ⟨rfl, rfl⟩
          refine go_ ?_
          refine Qad ?_
          refine Qeh (acc.length + 1) ?_ ?_ ?_ ?_
          · simp
          · exact Qeq fun _ => Qgs _
          · exact Qfz rfl
          refine go_ ?_
          refine ⟨(m, acc ++ [X], τ2), ⟨HA.out.1, ?_, fun hb => ?_, HR2.out, by simp only [List.length_append, List.length_cons, List.length_nil]; omega⟩, by simp only; omega, ?_, ?_⟩
          · have h1 := HM.out hz
            have h2 := hw
            unfold Wf at h2
            simp only
            omega
          · have h1 := HM.out hz
            have h2 := (HA.out.2 hb).2
            have h3 := HA.out.1
            unfold Wf at h3
            simp only
            omega
          · refine Jr (by simp [PF.get] <;> rfl) rfl ?_
            refine Jr (by simp [PF.get] <;> rfl) (by simp only [List.map_append, List.map_cons, List.map_nil, Jh X]) ?_
            exact sU
          · simp only [List.length_append, List.length_cons, List.length_nil, Nat.zero_add]
            exact dR
      | false =>
        rw [if_neg (by rw [hbg]; simp)] at hr
        have HR2 := Hh hr
        clear hr hm
        unfold prS
        refine go_ ?_
        refine Rd 1 1 (B0.out) ?_
        rintro _ _ ⟨rfl, rfl⟩
        refine go_ ?_
        refine rS (st' := prS i0 l τ) Try.results55 ?_
        exact ⟨by rw [← HR2.out]; rfl, by rw [← HR2.out]; rfl⟩
    · rw [if_neg (by simp [hz])] at hr
      have HR2 := Hh hr
      clear hr hm
      unfold prS
      refine go_ ?_
      refine rS (st' := prS i0 l τ) Try.results55 ?_
      exact ⟨by rw [← HR2.out]; rfl, by rw [← HR2.out]; rfl⟩
theorem list_p {l : List Tk} (hl : TkOk l) (i0 most f1 f2 : Nat) (hmost : most ≤ 24) (more : ST → Bool) (one : ST → Bd × ST) (hca1 : Qap Try.prog f1 = true) (hca2 : Qap Try.prog f2 = true) (hmo : ∀ σ, Wf l σ → PCalls Try.prog f1 [.ptr i0 0] (prS i0 l σ) fun p s => p = .d (.v (.bool (more σ))) ∧ s = prS i0 l σ) (hon : ∀ σ, Wf l σ → PCalls Try.prog f2 [.ptr i0 0] (prS i0 l σ) fun p s => p = aggD (one σ).1 ∧ s = prS i0 l (one σ).2) (hadv : ∀ σ, Wf l σ → AdvS l σ (one σ).2) (σ : ST) (hw : Wf l σ) : PCalls Try.prog 51 [.ptr i0 0, .d (.v (.int .i64 (most : Int))), .fn (.func f1) [.ptr i0 0] [], .fn (.func f2) [.ptr i0 0] []] (prS i0 l σ) fun p s => p = .d (slD (Qdc l most more one (l.length + 1) [] σ).1) ∧ s = prS i0 l (Qdc l most more one (l.length + 1) [] σ).2 := by
  have HG : ∃ r, r = Qdc l most more one (l.length + 1) [] σ := ⟨_, rfl⟩
  obtain ⟨r, hr⟩ := HG
  have HR := Hh hr.symm
  rw [← hr]
  clear hr
  have HW := Hh hw
  clear hw
  unfold slD
  refine pG Try.func51 Try.ntmps51 ?_
  refine PW_own 9 109 7 (by decide) (by simp [PF.get] <;> rfl) fun g hg => ?_
  refine Qbc (ι := Nat × List Bd × ST) (fun y => Wf l y.2.2 ∧ 0 < y.1 ∧ (y.2.2.bad = 0 → l.length - y.2.2.i + 1 ≤ y.1) ∧ Qdc l most more one y.1 y.2.1 y.2.2 = r ∧ y.2.1.length ≤ most) (fun y => [(0, .ptr i0 0), (1, .d (.v (.int .i64 (most : Int)))), (2, .fn (.func f1) [.ptr i0 0] []), (3, .fn (.func f2) [.ptr i0 0] []), (9, .own g (y.2.1.map encD))])
    (fun y => .tok g 109 7 y.2.1.length :: prS i0 l y.2.2) (fun y => y.1) (l.length + 1, [], σ) ⟨HW.out, Nat.succ_pos _, fun _ => by simp only; omega, HR.out, Nat.zero_le _⟩ ?_ ?_ ?_
  · exact sU
  · exact dR
  · rintro ⟨m, acc, τ⟩ ⟨hw, hm0, hm, hr, hacc⟩
    simp only at hw hm0 hm hr hacc ⊢
    obtain ⟨m, rfl⟩ : ∃ k, m = k + 1 := ⟨m - 1, by omega⟩
    have b3 : τ.i ≤ 150000 := Nat.le_trans (hw.le hl) (by decide)
    have B0 := Hh (hmo τ hw)
    have B1 := Hh (Qct i0 l τ hl.len hl.pos b3)
    simp only [Qdc] at hr
    by_cases hz : τ.bad = 0
    · cases hbg : more τ with
      | true =>
        rw [if_pos ⟨hz, hbg⟩] at hr
        by_cases h24 : most ≤ acc.length
        · rw [if_pos h24] at hr
          have hc24 : (most : Int) ≤ (acc.length : Int) := by omega
          have B2 := Hh (Qic i0 l τ 2 (tkg l τ.i).at_)
          have HR2 := Hh hr
          clear hr hm
          unfold prS
          refine go_ ?_
          refine Qim 1 1 (B0.out) ?_ (hca1)
          rintro _ _ ⟨rfl, rfl⟩
          refine go_ ?_
          refine Rd 1 1 (B1.out) ?_
          rintro _ _ ⟨rfl, rfl⟩
          refine go_ ?_
          refine Rd 1 1 (B2.out) ?_
          rintro _ _ ⟨rfl, rfl⟩
          refine go_ ?_
          refine rS (st' := prS i0 l (Qbh 2 (tkg l τ.i).at_ τ)) Try.results51 ?_
          exact ⟨by rw [← HR2.out]; rfl, by rw [← HR2.out]; rfl⟩
        · rw [if_neg h24] at hr
          have hc24 : ¬ (most : Int) ≤ (acc.length : Int) := by omega
          have hA := hadv τ hw
          have c2 := hon τ hw
          have HA := Hh hA
          have HM := Hh hm
          have HR2 := Hh hr
          clear hr hm hA
          generalize (one τ).1 = X at *
          generalize (one τ).2 = τ2 at *
          simp only [aggD, Jj, Jg, List.map_cons, List.map_nil] at c2
          have C2 := Hh c2
          clear c2
          unfold prS
          refine go_ ?_
          refine Qim 1 1 (B0.out) ?_ (hca1)
          rintro _ _ ⟨rfl, rfl⟩
          refine go_ ?_
          refine Qim 1 1 (C2.out) ?_ (hca2)
          rintro _ _ ⟨rfl, rfl⟩
          refine go_ ?_
          refine Qad ?_
          refine Qeh (acc.length + 1) ?_ ?_ ?_ ?_
          · simp
          · exact Qeq fun _ => Qgs _
          · exact Qfz rfl
          refine go_ ?_
          refine ⟨(m, acc ++ [X], τ2), ⟨HA.out.1, ?_, fun hb => ?_, HR2.out, by simp only [List.length_append, List.length_cons, List.length_nil]; omega⟩, by simp only; omega, ?_, ?_⟩
          · have h1 := HM.out hz
            have h2 := hw
            unfold Wf at h2
            simp only
            omega
          · have h1 := HM.out hz
            have h2 := (HA.out.2 hb).2
            have h3 := HA.out.1
            unfold Wf at h3
            simp only
            omega
          · refine Jr (by simp [PF.get] <;> rfl) rfl ?_
            refine Jr (by simp [PF.get] <;> rfl) rfl ?_
            refine Jr (by simp [PF.get] <;> rfl) rfl ?_
            refine Jr (by simp [PF.get] <;> rfl) rfl ?_
            refine Jr (by simp [PF.get] <;> rfl) (by simp only [List.map_append, List.map_cons, List.map_nil, Jj X]) ?_
            exact sU
          · simp only [List.length_append, List.length_cons, List.length_nil, Nat.zero_add]
            exact dR
      | false =>
        rw [if_neg (by rw [hbg]; simp)] at hr
        have HR2 := Hh hr
        clear hr hm
        unfold prS
        refine go_ ?_
        refine Qim 1 1 (B0.out) ?_ (hca1)
        rintro _ _ ⟨rfl, rfl⟩
        refine go_ ?_
        refine rS (st' := prS i0 l τ) Try.results51 ?_
        exact ⟨by rw [← HR2.out]; rfl, by rw [← HR2.out]; rfl⟩
    · rw [if_neg (by simp [hz])] at hr
      have HR2 := Hh hr
      clear hr hm
      unfold prS
      refine go_ ?_
      refine rS (st' := prS i0 l τ) Try.results51 ?_
      exact ⟨by rw [← HR2.out]; rfl, by rw [← HR2.out]; rfl⟩
theorem kind_k {l : List Tk} {σ : ST} (h : ¬ Qcx l σ = 0) : (tkg l σ.i).kind ≠ 5 := by
 unfold Qcx at h
 split at h
 ·exact Qbw ‹_›
 ·split at h
  ·exact Qbw ‹_›
  ·split at h
   ·exact Qbw ‹_›
   ·exact absurd rfl h
theorem decl_0 {l : List Tk} {σ : ST} (hk : Qcx l σ = 0) : Qet l σ = (⟨0, (tkg l σ.i).at_, ⟨#[]⟩, [], zNd, [], []⟩, Qbh 1 (tkg l σ.i).at_ σ) := by
 simp only [Qet, hk, if_true]
theorem decl_3 {l : List Tk} {σ : ST} (hk : Qcx l σ = 3) : Qet l σ = (⟨3, (tkg l σ.i).at_, (Qal l (incS σ)).1, [], (Qbg l (Qbf l) (Qaf l sCol (Qal l (incS σ)).2)).1, [], (Qdt l (l.length + 1) [] (Qaf l sBra (Qbg l (Qbf l) (Qaf l sCol (Qal l (incS σ)).2)).2)).1⟩, Qaf l sKet (Qdt l (l.length + 1) [] (Qaf l sBra (Qbg l (Qbf l) (Qaf l sCol (Qal l (incS σ)).2)).2)).2) := by
 simp only [Qet, hk]
 rfl
def Qfq (l : List Tk) (σ : ST) : List Bd × ST := Qdc l 24 (Qex l) (Qgd l) (l.length + 1) [] σ
def consS (l : List Tk) (σ : ST) : List Bd × ST := Qdc l 16 (Qeo l) (Qgi l) (l.length + 1) [] σ
theorem decl_1 {l : List Tk} {σ : ST} (h0 : ¬ Qcx l σ = 0) (h3 : ¬ Qcx l σ = 3) : Qet l σ = (⟨Qcx l σ, (tkg l σ.i).at_, (Qal l (incS σ)).1, (Qfq l (Qal l (incS σ)).2).1, (Qbg l (Qbf l) (Qaf l sCol (Qfq l (Qal l (incS σ)).2).2)).1, (consS l (Qaf l sBra (Qbg l (Qbf l) (Qaf l sCol (Qfq l (Qal l (incS σ)).2).2)).2)).1, []⟩, Qaf l sKet (consS l (Qaf l sBra (Qbg l (Qbf l) (Qaf l sCol (Qfq l (Qal l (incS σ)).2).2)).2)).2) := by
 simp only [Qet, if_neg h0, if_neg h3]
 rfl
section
variable {l : List Tk} (hl : TkOk l)
include hl
theorem tele_adv {σ : ST} (h : Wf l σ) : Adv l σ (Qfq l σ).2 := list_adv hl (fun _ h => bind_adv hl h) _ _ _ h
theorem cons_adv {σ : ST} (h : Wf l σ) : Adv l σ (consS l σ).2 := list_adv hl (fun _ h => line_adv hl h) _ _ _ h
theorem decl_adv {σ : ST} (h : Wf l σ) : AdvS l σ (Qet l σ).2 := by
 by_cases h0 : Qcx l σ = 0
 ·rw [decl_0 h0]
  exact Qfd hl 1 _ (by decide) h
 ·have a0 := Qax hl (kind_k h0)
  have a1 := a0.trans (Qdu hl a0.1).adv
  by_cases h3 : Qcx l σ = 3
  ·rw [decl_3 h3]
   have a3 := a1.trans (Qag hl sCol a1.1).adv
   have a4 := a3.trans (Qdn hl a3.1)
   have a5 := a4.trans (Qag hl sBra a4.1).adv
   have a6 := a5.trans (Qkt hl (l.length + 1) [] _ a5.1)
   exact a6.trans (Qag hl sKet a6.1).adv
  ·rw [decl_1 h0 h3]
   have a2 := a1.trans (tele_adv hl a1.1)
   have a3 := a2.trans (Qag hl sCol a2.1).adv
   have a4 := a3.trans (Qdn hl a3.1)
   have a5 := a4.trans (Qag hl sBra a4.1).adv
   have a6 := a5.trans (cons_adv hl a5.1)
   exact a6.trans (Qag hl sKet a6.1).adv
end
theorem tele_p {l : List Tk} (hl : TkOk l) (i0 : Nat) (σ : ST) (hw : Wf l σ) : PCalls Try.prog 51 [.ptr i0 0, .d (.v (.int .i64 24)), .fn (.func 52) [.ptr i0 0] [], .fn (.func 53) [.ptr i0 0] []] (prS i0 l σ) fun p s => p = .d (slD (Qfq l σ).1) ∧ s = prS i0 l (Qfq l σ).2 :=
 list_p hl i0 24 52 53 (by decide) (Qex l) (Qgd l) rfl rfl (fun σ h => paren0_p hl i0 σ h) (fun σ h => bind_p hl i0 σ h) (fun σ h => bind_adv hl h) σ hw
theorem cons_p {l : List Tk} (hl : TkOk l) (i0 : Nat) (σ : ST) (hw : Wf l σ) : PCalls Try.prog 51 [.ptr i0 0, .d (.v (.int .i64 16)), .fn (.func 56) [.ptr i0 0] [], .fn (.func 57) [.ptr i0 0] []] (prS i0 l σ) fun p s => p = .d (slD (consS l σ).1) ∧ s = prS i0 l (consS l σ).2 :=
 list_p hl i0 16 56 57 (by decide) (Qeo l) (Qgi l) rfl rfl (fun σ h => open_p hl i0 σ h) (fun σ h => line_p' hl i0 σ h) (fun σ h => line_adv hl h) σ hw
theorem decl_p' {l : List Tk} (hl : TkOk l) (i0 : Nat) (σ : ST) (hw : Wf l σ) : PCalls Try.prog 29 [.ptr i0 0] (prS i0 l σ) fun p s => p = aggD (Qet l σ).1 ∧ s = prS i0 l (Qet l σ).2 := by
 have b1 : σ.i ≤ 150000 := Nat.le_trans (hw.le hl) (by decide)
 have ck := Hh (kind_p hl i0 σ hw)
 have ct := Hh (Qct i0 l σ hl.len hl.pos b1)
 by_cases h0 : Qcx l σ = 0
 ·rw [decl_0 h0]
  have cf := Qic i0 l σ 1 (tkg l σ.i).at_
  rw [h0] at ck
  clear h0
  generalize (tkg l σ.i).at_ = at0 at *
  generalize Qbh 1 at0 σ = σ1 at *
  unfold zNd
  simp only [aggD, Ji, List.map_cons, List.map_nil, Nd.kind, Nd.at, Nd.name, Nd.num, Nd.sub]
  have CF := Hh cf
  clear cf
  refine pG Try.func29 Try.ntmps29 ?_
  refine Jd ?_
  intro i1 hi1
  simp only [prS, List.cons_append, List.nil_append, List.append_nil, List.drop_succ_cons, List.drop_zero, List.drop_nil, Rh, Rg, Rf, Ja] at hi1
  refine go_ ?_
  refine Rd 1 1 (ck.out) ?_
  rintro _ _ ⟨rfl, rfl⟩
  refine go_ ?_
  refine Rd 1 1 (ct.out) ?_
  rintro _ _ ⟨rfl, rfl⟩
  refine go_ ?_
  refine Jd ?_
  intro i2 hi2
  simp only [prS, List.cons_append, List.nil_append, List.append_nil, List.drop_succ_cons, List.drop_zero, List.drop_nil, Rh, Rg, Rf, Ja] at hi2
  refine go_ ?_
  refine Qaa ?_
  refine Rd 2 1 (CF.out) ?_
  rintro _ _ ⟨rfl, rfl⟩
  refine go_ ?_
  refine Qaa ?_
  refine rS (st' := prS i0 l σ1) Try.results29 ?_
  exact ⟨rfl, rfl⟩
 ·have a0 := Qax hl (kind_k h0)
  have a1 := a0.trans (Qdu hl a0.1).adv
  have cn := name_p i0 l (incS σ) hl.len hl.pos (Nat.le_trans (a0.1.le hl) (by decide))
  have hin := Qez b1
  by_cases h3 : Qcx l σ = 3
  ·rw [decl_3 h3]
   have a3 := a1.trans (Qag hl sCol a1.1).adv
   have a4 := a3.trans (Qdn hl a3.1)
   have a5 := a4.trans (Qag hl sBra a4.1).adv
   have a6 := a5.trans (Qkt hl (l.length + 1) [] _ a5.1)
   have c1 := Qcu i0 l _ sCol hl.len hl.pos (Nat.le_trans (a1.1.le hl) (by decide))
   have c2 := Qjg hl i0 _ a3.1
   have c3 := Qcu i0 l _ sBra hl.len hl.pos (Nat.le_trans (a4.1.le hl) (by decide))
   have c4 := rows_p hl i0 _ a5.1
   have c5 := Qcu i0 l _ sKet hl.len hl.pos (Nat.le_trans (a6.1.le hl) (by decide))
   rw [h3] at ck
   clear h0 h3 a0 a1 a3 a4 a5 a6 hw
   generalize (tkg l σ.i).at_ = at0 at *
   obtain ⟨i, a, b⟩ := σ
   simp only at hin b1
   generalize (Qal l (incS ⟨i, a, b⟩)).1 = x at *
   generalize (Qal l (incS ⟨i, a, b⟩)).2 = σ1 at *
   generalize Qaf l sCol σ1 = σ2 at *
   generalize (Qbg l (Qbf l) σ2).1 = A at *
   generalize (Qbg l (Qbf l) σ2).2 = σ3 at *
   generalize Qaf l sBra σ3 = σ4 at *
   generalize (Qdt l (l.length + 1) [] σ4).1 = R at *
   generalize (Qdt l (l.length + 1) [] σ4).2 = σ5 at *
   generalize Qaf l sKet σ5 = σ6 at *
   unfold sCol at c1
   unfold sBra at c3
   unfold sKet at c5
   unfold slD at c4
   simp only [aggD, Jg, Ji, List.map_cons, List.map_nil] at c2 ⊢
   have CN := Hh cn
   have C1 := Hh c1
   have C2 := Hh c2
   have C3 := Hh c3
   have C4 := Hh c4
   have C5 := Hh c5
   clear cn c1 c2 c3 c4 c5
   refine pG Try.func29 Try.ntmps29 ?_
   refine Jd ?_
   intro i1 hi1
   simp only [prS, List.cons_append, List.nil_append, List.append_nil, List.drop_succ_cons, List.drop_zero, List.drop_nil, Rh, Rg, Rf, Ja] at hi1
   refine go_ ?_
   refine Rd 1 1 (ck.out) ?_
   rintro _ _ ⟨rfl, rfl⟩
   refine go_ ?_
   refine Rd 1 1 (ct.out) ?_
   rintro _ _ ⟨rfl, rfl⟩
   refine go_ ?_
   refine Jd ?_
   intro i2 hi2
   simp only [prS, List.cons_append, List.nil_append, List.append_nil, List.drop_succ_cons, List.drop_zero, List.drop_nil, Rh, Rg, Rf, Ja] at hi2
   refine go_ ?_
   refine Rc ?_
   unfold prS
   refine go_ ?_
   refine Qaa ?_
   refine Rd 2 1 (CN.out) ?_
   rintro _ _ ⟨rfl, rfl⟩
   refine go_ ?_
   refine Qaa ?_
   refine Rd 2 1 (C1.out) ?_
   rintro _ _ ⟨rfl, rfl⟩
   refine go_ ?_
   refine Rd 2 1 (C2.out) ?_
   rintro _ _ ⟨rfl, rfl⟩
   refine go_ ?_
   refine Qaa ?_
   refine Rd 2 1 (C3.out) ?_
   rintro _ _ ⟨rfl, rfl⟩
   refine go_ ?_
   refine Rd 2 1 (C4.out) ?_
   rintro _ _ ⟨rfl, rfl⟩
   refine go_ ?_
   refine Qaa ?_
   refine Rd 2 1 (C5.out) ?_
   rintro _ _ ⟨rfl, rfl⟩
   refine go_ ?_
   refine Qaa ?_
   refine rS (st' := prS i0 l σ6) Try.results29 ?_
   exact ⟨rfl, rfl⟩
  ·rw [decl_1 h0 h3]
   have a2 := a1.trans (tele_adv hl a1.1)
   have a3 := a2.trans (Qag hl sCol a2.1).adv
   have a4 := a3.trans (Qdn hl a3.1)
   have a5 := a4.trans (Qag hl sBra a4.1).adv
   have a6 := a5.trans (cons_adv hl a5.1)
   have c0 := tele_p hl i0 _ a1.1
   have c1 := Qcu i0 l _ sCol hl.len hl.pos (Nat.le_trans (a2.1.le hl) (by decide))
   have c2 := Qjg hl i0 _ a3.1
   have c3 := Qcu i0 l _ sBra hl.len hl.pos (Nat.le_trans (a4.1.le hl) (by decide))
   have c4 := cons_p hl i0 _ a5.1
   have c5 := Qcu i0 l _ sKet hl.len hl.pos (Nat.le_trans (a6.1.le hl) (by decide))
   clear a0 a1 a2 a3 a4 a5 a6 hw
   generalize Qcx l σ = k at *
   generalize (tkg l σ.i).at_ = at0 at *
   obtain ⟨i, a, b⟩ := σ
   simp only at hin b1
   generalize (Qal l (incS ⟨i, a, b⟩)).1 = x at *
   generalize (Qal l (incS ⟨i, a, b⟩)).2 = σ0 at *
   generalize (Qfq l σ0).1 = T at *
   generalize (Qfq l σ0).2 = σ1 at *
   generalize Qaf l sCol σ1 = σ2 at *
   generalize (Qbg l (Qbf l) σ2).1 = A at *
   generalize (Qbg l (Qbf l) σ2).2 = σ3 at *
   generalize Qaf l sBra σ3 = σ4 at *
   generalize (consS l σ4).1 = R at *
   generalize (consS l σ4).2 = σ5 at *
   generalize Qaf l sKet σ5 = σ6 at *
   unfold sCol at c1
   unfold sBra at c3
   unfold sKet at c5
   unfold slD at c4 c0
   simp only [aggD, Jg, Ji, List.map_cons, List.map_nil] at c2 ⊢
   have CN := Hh cn
   have C0 := Hh c0
   have C1 := Hh c1
   have C2 := Hh c2
   have C3 := Hh c3
   have C4 := Hh c4
   have C5 := Hh c5
   clear cn c0 c1 c2 c3 c4 c5
   refine pG Try.func29 Try.ntmps29 ?_
   refine Jd ?_
   intro i1 hi1
   simp only [prS, List.cons_append, List.nil_append, List.append_nil, List.drop_succ_cons, List.drop_zero, List.drop_nil, Rh, Rg, Rf, Ja] at hi1
   refine go_ ?_
   refine Rd 1 1 (ck.out) ?_
   rintro _ _ ⟨rfl, rfl⟩
   refine go_ ?_
   refine Rd 1 1 (ct.out) ?_
   rintro _ _ ⟨rfl, rfl⟩
   refine go_ ?_
   refine Jd ?_
   intro i2 hi2
   simp only [prS, List.cons_append, List.nil_append, List.append_nil, List.drop_succ_cons, List.drop_zero, List.drop_nil, Rh, Rg, Rf, Ja] at hi2
   refine go_ ?_
   refine Rc ?_
   unfold prS
   refine go_ ?_
   refine Qaa ?_
   refine Rd 2 1 (CN.out) ?_
   rintro _ _ ⟨rfl, rfl⟩
   refine go_ ?_
   refine Qaa ?_
   refine Qgp ?_
   refine go_ ?_
   refine Qgp ?_
   refine go_ ?_
   refine Rd 2 1 (C0.out) ?_
   rintro _ _ ⟨rfl, rfl⟩
   refine go_ ?_
   refine Qaa ?_
   refine Rd 2 1 (C1.out) ?_
   rintro _ _ ⟨rfl, rfl⟩
   refine go_ ?_
   refine Rd 2 1 (C2.out) ?_
   rintro _ _ ⟨rfl, rfl⟩
   refine go_ ?_
   refine Qaa ?_
   refine Rd 2 1 (C3.out) ?_
   rintro _ _ ⟨rfl, rfl⟩
   refine go_ ?_
   refine Qgp ?_
   refine go_ ?_
   refine Qgp ?_
   refine go_ ?_
   refine Rd 2 1 (C4.out) ?_
   rintro _ _ ⟨rfl, rfl⟩
   refine go_ ?_
   refine Qaa ?_
   refine Rd 2 1 (C5.out) ?_
   rintro _ _ ⟨rfl, rfl⟩
   refine go_ ?_
   refine Qaa ?_
   refine rS (st' := prS i0 l σ6) Try.results29 ?_
   exact ⟨rfl, rfl⟩
theorem checked_sm {x : Nd} {a : Int} {σ : ST} (h : (Qcc x a σ).bad = 0) : Qcn x ≤ 128 := by
 unfold Qcc at h
 split at h
 ·exact absurd h (Qci 2 a σ (by decide))
 ·rename_i h1
  exact Int.not_lt.1 fun h2 => h1 ⟨h, h2⟩
section
variable {l : List Tk} (hl : TkOk l)
include hl
theorem fileS_adv : ∀ (n : Nat) (acc : List Dc) (σ : ST), Wf l σ → Adv l σ (Qdw l n acc σ).2 := by
  intro n
  induction n with
  | zero => intro acc σ h; exact Adv.refl h
  | succ n ih =>
    intro acc σ h
    simp only [Qdw]
    split
    · have h1 := decl_adv hl h
      exact h1.adv.trans (ih _ _ h1.1)
    · exact Adv.refl h
end
theorem file_p (s : ByteArray) : PCalls Try.prog 15 [.d (.v (.string s))] [] fun p st => p = .tup [.d (slD (Qcw s).1), .d (.v (.int .i64 (Qcw s).2.1)), .d (.v (.int .i64 (Qcw s).2.2))] ∧ st = [] := by
 have hl := Qjw s
 have hw0 := startW s
 have H0 := Hh (start_p s)
 have HA := Hh (show Qcw s = if (Qdw (Qbu s) ((Qbu s).length + 1) [] (Qed s)).2.bad = 0 then ((Qdw (Qbu s) ((Qbu s).length + 1) [] (Qed s)).1, (s.size : Int), 0) else ([], (Qdw (Qbu s) ((Qbu s).length + 1) [] (Qed s)).2.at_, (Qdw (Qbu s) ((Qbu s).length + 1) [] (Qed s)).2.bad) from rfl)
 generalize Qed s = σ at *
 generalize Qbu s = l at *
 have HG : ∃ r, r = Qdw l (l.length + 1) [] σ := ⟨_, rfl⟩
 obtain ⟨r, hr⟩ := HG
 have HR := Hh hr.symm
 rw [← hr] at HA
 clear hr
 rw [HA.out]
 clear HA
 have HW := Hh hw0
 clear hw0
 unfold slD
 refine pG Try.func15 Try.ntmps15 ?_
 refine Rd 0 0 (H0.out) ?_
 rintro _ _ ⟨i0, rfl, rfl⟩
 refine Qq ?_
 refine Qh ?_
 refine Qj ?_
 refine go_ ?_
 refine PW_own 6 43 11 (by decide) (by simp [PF.get] <;> rfl) fun g hg => ?_
 refine Qbc (ι := Nat × List Dc × ST) (fun y => Wf l y.2.2 ∧ 0 < y.1 ∧ (y.2.2.bad = 0 → l.length - y.2.2.i + 1 ≤ y.1) ∧ Qdw l y.1 y.2.1 y.2.2 = r ∧ y.2.1.length + y.1 ≤ l.length + 1) (fun y => [(0, .d (.v (.string s))), (5, .ptr i0 0), (6, .own g (y.2.1.map encD))])
  (fun y => .tok g 43 11 y.2.1.length :: prS i0 l y.2.2) (fun y => y.1) (l.length + 1, [], σ) ⟨HW.out, Nat.succ_pos _, fun _ => by simp only; omega, HR.out, by simp⟩ ?_ ?_ ?_
 ·exact sU
 ·exact dR
 ·rintro ⟨m, acc, τ⟩ ⟨hw, hm0, hm, hr, hacc⟩
  simp only at hw hm0 hm hr hacc ⊢
  obtain ⟨m, rfl⟩ : ∃ k, m = k + 1 := ⟨m - 1, by omega⟩
  have b3 : τ.i ≤ 150000 := Nat.le_trans (hw.le hl) (by decide)
  have b4 := hl.len
  have B1 := Hh (Qct i0 l τ hl.len hl.pos b3)
  simp only [Qdw] at hr
  by_cases hz : τ.bad = 0
  ·by_cases hk : (tkg l τ.i).kind = 5
   ·rw [if_neg (fun h => h.2 hk)] at hr
    have HR2 := Hh hr
    clear hr hm
    have hk5 := hk
    rw [← HR2.out]
    simp only
    rw [if_pos hz]
    generalize tkg l τ.i = t at *
    unfold prS
    refine go_ ?_
    refine Rd 1 1 (B1.out) ?_
    rintro _ _ ⟨rfl, rfl⟩
    unfold prS
    refine go_ ?_
    refine rT Try.results15 ?_
    exact ⟨rfl, rfl⟩
   ·rw [if_pos ⟨hz, hk⟩] at hr
    have hA := decl_adv hl hw
    have c2 := decl_p' hl i0 τ hw
    have HA := Hh hA
    have HM := Hh hm
    have HR2 := Hh hr
    clear hr hm hA
    generalize (Qet l τ).1 = X at *
    generalize (Qet l τ).2 = τ2 at *
    simp only [aggD, Ji, List.map_cons, List.map_nil] at c2
    have C2 := Hh c2
    clear c2
    unfold prS
    refine go_ ?_
    refine Rd 1 1 (B1.out) ?_
    rintro _ _ ⟨rfl, rfl⟩
    refine go_ ?_
    refine Rd 1 1 (C2.out) ?_
    rintro _ _ ⟨rfl, rfl⟩
    refine go_ ?_
    refine Qad ?_
    refine Qeh (acc.length + 1) ?_ ?_ ?_ ?_
    ·simp
    ·exact Qeq fun _ => Qgs _
    ·exact Qfz rfl
    refine go_ ?_
    refine ⟨(m, acc ++ [X], τ2), ⟨HA.out.1, ?_, fun hb => ?_, HR2.out, by simp only [List.length_append, List.length_cons, List.length_nil]; omega⟩, by simp only; omega, ?_, ?_⟩
    ·have h1 := HM.out hz
     have h2 := hw
     unfold Wf at h2
     simp only
     omega
    ·have h1 := HM.out hz
     have h2 := (HA.out.2 hb).2
     have h3 := HA.out.1
     unfold Wf at h3
     simp only
     omega
    ·refine Jr (by simp [PF.get] <;> rfl) rfl ?_
     refine Jr (by simp [PF.get] <;> rfl) rfl ?_
     refine Jr (by simp [PF.get] <;> rfl) (by simp only [List.map_append, List.map_cons, List.map_nil, Ji X]) ?_
     exact sU
    ·simp only [List.length_append, List.length_cons, List.length_nil, Nat.zero_add]
     exact dR
  ·rw [if_neg (fun h => hz h.1)] at hr
   have HR2 := Hh hr
   clear hr hm
   rw [← HR2.out]
   simp only
   rw [if_neg hz]
   unfold prS
   refine go_ ?_
   refine Qao [(0, .a), (1, .a), (2, .a), (3, .b), (4, .a), (5, .a), (6, .a), (7, .b), (8, .a), (9, .a), (10, .a)] (by kernel_rfl) (by rfl) (by kernel_rfl) ?_
   refine go_ ?_
   refine rT Try.results15 ?_
   exact ⟨rfl, rfl⟩
theorem fileS_len (l : List Tk) : ∀ (n : Nat) (acc : List Dc) (σ : ST), (Qdw l n acc σ).1.length ≤ acc.length + n := by
  intro n
  induction n with
  | zero => intro acc σ; exact Nat.le_refl _
  | succ n ih =>
    intro acc σ
    simp only [Qdw]
    split
    · refine Nat.le_trans (ih _ _) ?_
      rw [List.length_append, List.length_singleton]; omega
    · simp only; omega
theorem fileA_len (s : ByteArray) : (Qcw s).1.length ≤ (Qbu s).length + 1 := by
 unfold Qcw
 simp only
 split
 ·exact Nat.le_trans (fileS_len _ _ _ _) (by simp)
 ·simp
end Go.Proofs.Ytahhgpafjiljfaa
