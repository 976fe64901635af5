import Derived.Test.YtahhgpafjiljfaaGreatEBZ
set_option linter.unusedSimpArgs false
set_option linter.unusedVariables false
set_option maxHeartbeats 16000000
set_option maxRecDepth 100000
namespace Go.Proofs.YtahhgpafjiljfaaGreat
open Go.RowKit
theorem paren_w {l : List Tk} (hl : TkOk l) (n : Nat) (IH : ∀ m, m ≤ n → ∀ σ, Wf l σ → Fu l m 3 σ → PatC l m σ) (σ : ST) (hw : Wf l σ) (hp : isS l σ 0 sPar = true) (hz : σ.bad = 0) (hf : Fu l (n + 1) 2 σ) : ParenC l (n + 1) σ := by
  intro i0
  have b1 : σ.i ≤ 150000 := Nat.le_trans (hw.le hl) (by decide)
  have hn : 0 < n := by
    have := hf.2 hz
    unfold Wf at hw; omega
  have c0 := Hh (Qcn i0 l σ hl.len hl.pos b1)
  have hin := Qcr b1
  have h1 := Qbh hl (Qbz hp)
  clear hp
  have b2 : (incS σ).i ≤ 150000 := Nat.le_trans (h1.1.le hl) (by decide)
  have c1 := Hh (is_p i0 l (incS σ) 0 0 rfl sRap hl.len hl.pos (by omega) (by decide))
  have c2 := Hh (named_p i0 l (incS σ) hl.len hl.pos b2)
  have HT := Hh (show Qex l (n + 1) σ = (if isS l (incS σ) 0 sRap then (.mk 9 (tkg l σ.i).at_ ⟨#[]⟩ 0 [], incS (incS σ)) else if !Qdc l (incS σ) 0 then ((patS l n (incS σ)).1, Qag l sRap (patS l n (incS σ)).2) else ((parL l n (tkg l σ.i).at_ (.mk 6 (tkg l (incS σ).i).at_ (Qam l (incS σ)).1 0 []) (Qam l (incS σ)).2).1, Qag l sRap (parL l n (tkg l σ.i).at_ (.mk 6 (tkg l (incS σ).i).at_ (Qam l (incS σ)).1 0 []) (Qam l (incS σ)).2).2)) from by simp only [Qex])
  have hin3 : IntKind.i64.wrap (((incS σ).i : Int) + 1) = (((incS σ).i + 1 : Nat) : Int) := Qcr b2
  obtain ⟨i, a, b⟩ := σ
  simp only at hz hin
  subst hz
  generalize (tkg l i).at_ = at0 at *
  unfold sRap at c1
  cases hr : isS l (incS ⟨i, a, 0⟩) 0 sRap with
  | true =>
    rw [hr, if_pos rfl] at HT
    unfold sRap at hr
    rw [HT.out]
    clear HT hf IH c2 h1
    refine pG Tryz.func105 Tryz.ntmps105 ?_
    refine Jd ?_
    intro i1 hi1
    simp only [prS, List.cons_append, List.nil_append, List.append_nil, List.drop_succ_cons, List.drop_zero, List.drop_nil, Rh, Rg, Rf, Ja] at hi1
    refine go_ ?_
    refine Rd 1 1 (c0.out) ?_
    rintro _ _ ⟨rfl, rfl⟩
    unfold prS
    refine go_ ?_
    refine Qaa ?_
    refine Rd 1 1 (c1.out) ?_
    rintro _ _ ⟨rfl, rfl⟩
    unfold prS
    refine go_ ?_
    refine Qaa ?_
    refine Qaa ?_
    refine rS (st' := prS i0 l (incS (incS ⟨i, a, 0⟩))) Tryz.results105 ?_
    exact ⟨by rw [Qev]; rfl, rfl⟩
  | false =>
    rw [hr, if_neg (by decide)] at HT
    unfold sRap at hr
    cases hnm : Qdc l (incS ⟨i, a, 0⟩) 0 with
    | false =>
      rw [hnm, if_pos (show (!false) = true from rfl)] at HT
      rw [HT.out]
      have c3 := IH n (Nat.le_refl _) _ h1.1 (hf.next hw h1 hn (by omega)) i0
      have c4 := Qcq i0 l _ sRap hl.len hl.pos (Nat.le_trans (((pat_adv hl n).2.2 _ h1.1).1.1.le hl) (by decide))
      clear HT hf IH h1 hin3
      generalize (patS l n (incS ⟨i, a, 0⟩)).1 = A at *
      generalize (patS l n (incS ⟨i, a, 0⟩)).2 = σ1 at *
      generalize Qag l sRap σ1 = σ2 at *
      simp only [aggD, Jg, List.map_cons, List.map_nil] at c3 ⊢
      unfold sRap at c4
      have C3 := Hh c3
      have C4 := Hh c4
      clear c3 c4
      refine pG Tryz.func105 Tryz.ntmps105 ?_
      refine Jd ?_
      intro i1 hi1
      simp only [prS, List.cons_append, List.nil_append, List.append_nil, List.drop_succ_cons, List.drop_zero, List.drop_nil, Rh, Rg, Rf, Ja] at hi1
      refine go_ ?_
      refine Rd 1 1 (c0.out) ?_
      rintro _ _ ⟨rfl, rfl⟩
      unfold prS
      refine go_ ?_
      refine Qaa ?_
      refine Rd 1 1 (c1.out) ?_
      rintro _ _ ⟨rfl, rfl⟩
      refine go_ ?_
      refine Rd 1 1 (c2.out) ?_
      rintro _ _ ⟨rfl, rfl⟩
      refine go_ ?_
      refine Rd 1 1 (C3.out) ?_
      rintro _ _ ⟨rfl, rfl⟩
      refine go_ ?_
      refine Jd ?_
      intro i2 hi2
      simp only [prS, List.cons_append, List.nil_append, List.append_nil, List.drop_succ_cons, List.drop_zero, List.drop_nil, Rh, Rg, Rf, Ja] at hi2
      refine go_ ?_
      refine Qaa ?_
      refine Rd 2 1 (C4.out) ?_
      rintro _ _ ⟨rfl, rfl⟩
      refine go_ ?_
      refine Qaa ?_
      refine rS (st' := prS i0 l σ2) Tryz.results105 ?_
      exact ⟨rfl, rfl⟩
    | true =>
      rw [hnm, if_neg (by decide)] at HT
      rw [HT.out]
      have h2 := h1.trans (Qer hl h1.1).adv
      have c3 := Hh (Qcn i0 l (incS ⟨i, a, 0⟩) hl.len hl.pos b2)
      have c4 := Hh (name_p i0 l (incS ⟨i, a, 0⟩) hl.len hl.pos b2)
      have HF := Hh (hf.next hw h2 hn (d := 4) (by omega))
      have HW := Hh h2.1
      clear HT hf h1 h2 hin3
      generalize (tkg l (incS ⟨i, a, 0⟩).i) = t1 at *
      generalize (Qam l (incS ⟨i, a, 0⟩)).1 = x at *
      generalize (Qam l (incS ⟨i, a, 0⟩)).2 = σ1 at *
      have HG : ∃ r, r = parL l n at0 (.mk 6 t1.at_ x 0 []) σ1 := ⟨_, rfl⟩
      obtain ⟨r, hr2⟩ := HG
      have HR := Hh hr2.symm
      rw [← hr2]
      clear hr2
      refine pG Tryz.func105 Tryz.ntmps105 ?_
      refine Jd ?_
      intro i1 hi1
      simp only [prS, List.cons_append, List.nil_append, List.append_nil, List.drop_succ_cons, List.drop_zero, List.drop_nil, Rh, Rg, Rf, Ja] at hi1
      refine go_ ?_
      refine Rd 1 1 (c0.out) ?_
      rintro _ _ ⟨rfl, rfl⟩
      unfold prS
      refine go_ ?_
      refine Qaa ?_
      refine Rd 1 1 (c1.out) ?_
      rintro _ _ ⟨rfl, rfl⟩
      refine go_ ?_
      refine Rd 1 1 (c2.out) ?_
      rintro _ _ ⟨rfl, rfl⟩
      refine go_ ?_
      refine Rd 1 1 (c3.out) ?_
      rintro _ _ ⟨rfl, rfl⟩
      refine go_ ?_
      refine Rd 1 1 (c4.out) ?_
      rintro _ _ ⟨rfl, rfl⟩
      refine go_ ?_
      refine Jd ?_
      intro i2 hi2
      simp only [prS, List.cons_append, List.nil_append, List.append_nil, List.drop_succ_cons, List.drop_zero, List.drop_nil, Rh, Rg, Rf, Ja] at hi2
      refine go_ ?_
      refine Qaa ?_
      refine PW_ownB i2 4 25 5 eQ (by rfl) (by rfl) (by intro g; simp [St.setBox, *]; rfl) (by decide) ?_
      intro g2 hg2
      refine Qbo (ι := Nat × Nd × ST) (fun y => y.1 ≤ n ∧ Wf l y.2.2 ∧ Fu l y.1 4 y.2.2 ∧ parL l y.1 at0 y.2.1 y.2.2 = r ∧ (y.2.2.bad = 0 → y.2.1.sub.length ≤ y.2.2.i)) (fun y => [(0, .ptr i0 0), (2, .ptr i1 0), (3, .d (.v (.int .i64 at0))), (5, .ptr i2 0)])
        (fun y => .tok g2 25 5 y.2.1.sub.length :: .box i2 25 [.d (.v (.int .i64 y.2.1.kind)), .d (.v (.int .i64 y.2.1.at)), .d (.v (.string y.2.1.name)), .d (.v (.int .i64 y.2.1.num)), .own g2 (y.2.1.sub.map encD)] :: .box i1 25 [.d (.v (.int .i64 0)), .d (.v (.int .i64 0)), .d (.v (.string ByteArray.empty)), .d (.v (.int .i64 0)), .nils] :: prS i0 l y.2.2)
        (fun y => y.1) (n, .mk 6 t1.at_ x 0 [], σ1) ⟨Nat.le_refl _, HW.out, HF.out, HR.out, fun _ => Nat.zero_le _⟩ ?_ ?_ ?_
      · exact sU
      · exact dR
      · rintro ⟨m, q, τ⟩ ⟨hm, hw, hf, hr, hsub⟩
        simp only at hm hw hf hr hsub ⊢
        have b3 : τ.i ≤ 150000 := Nat.le_trans (hw.le hl) (by decide)
        obtain ⟨m, rfl⟩ : ∃ k, m = k + 1 := ⟨m - 1, by have := hf.1; omega⟩
        simp only [parL] at hr
        have B0 := Hh (pattern_p i0 l τ hl.len hl.pos b3)
        have B1 := Qcq i0 l τ sRap hl.len hl.pos b3
        unfold sRap at B1
        have B1 := Hh B1
        by_cases hz : τ.bad = 0
        · cases hbg : Qhj l τ with
          | true =>
            rw [if_pos ⟨hz, hbg⟩] at hr
            have hm0 : 1 < m := by
              have := hf.2 hz
              unfold Wf at hw; omega
            have hA := ((pat_adv hl m).2.2 τ hw).2 hm0
            have c5 := IH m (by omega) τ hw (hf.same hw (Adv.refl hw) (by omega) (by omega)) i0
            have HF2 := Hh (hf.next hw hA (by omega) (d := 4) (by omega))
            have HA2 := Hh hA
            have HR2 := Hh hr
            have hsl : q.sub.length ≤ 150000 := Nat.le_trans (hsub hz) b3
            have HS := Hh hsub
            clear hr hf hA hw hsub
            generalize (patS l m τ).1 = X at *
            generalize (patS l m τ).2 = τ2 at *
            simp only [aggD, Jg, List.map_cons, List.map_nil] at c5
            have C5 := Hh c5
            clear c5
            unfold prS
            refine go_ ?_
            refine Rd 3 1 (B0.out) ?_
            rintro _ _ ⟨rfl, rfl⟩
            refine go_ ?_
            refine Qaa ?_
            refine Qaa ?_
            refine Qho (J := Qcw [(i2, _)]) [(0, .a), (1, .a), (2, .a), (3, .e), (4, .a), (5, .e), (6, .a), (7, .e)] (by kernel_rfl) (by rfl) (by kernel_rfl) (by (repeat (first | exact Qbp _ | refine Jt (by simp [St.box?, *] <;> rfl) ?_))) ?_
            refine lG ?_
            refine Qjf 3 1 (C5.out) ?_
            rintro _ _ ⟨rfl, rfl⟩
            refine ⟨.inr (by (repeat (first | exact Qbp _ | refine Jt (by simp [St.box?, *] <;> rfl) ?_))), ?_⟩
            refine lG ?_
            refine PL_bs ?_ rfl (by decide) rfl (by simp; rfl) (by rfl) (by simp; rfl) (by rfl) (by decide) (by decide) eQ (by simp [Qdr, toDs, PV.toD]; rfl)
            refine PL_app (q.sub.length + 1) ?_ ?_ ?_ ?_ ?_
            rotate_left
            · exact Qec fun _ => Qgf _
            · exact Qed rfl
            · simp
            · exact .inr (by (repeat (first | exact Qbp _ | refine Jt (by simp [St.box?, *] <;> rfl) ?_)))
            refine lG ?_
            refine PLs ?_
            refine lG ?_
            refine go_ ?_
            refine ⟨(m, Nd.mk 8 at0 q.name q.num (q.sub ++ [X]), τ2), ⟨by omega, HA2.out.1, HF2.out, HR2.out, fun hb => ?_⟩, by simp only; omega, ?_, ?_⟩
            · have h3 := (HA2.out.2 hb).2
              have h4 := HS.out hz
              show (q.sub ++ [X]).length ≤ τ2.i
              rw [List.length_append]
              simp only [List.length_cons, List.length_nil]
              omega
            · exact sU
            · simp only [Nd.kind, Nd.at, Nd.name, Nd.num, Nd.sub, List.length_append, List.length_cons, List.length_nil, Nat.zero_add, List.map_append, List.map_cons, List.map_nil, Jg X]
              exact dR
          | false =>
            rw [if_neg (by rw [hbg]; simp)] at hr
            have HR2 := Hh hr
            clear hr hf
            unfold prS
            refine go_ ?_
            refine Rd 3 1 (B0.out) ?_
            rintro _ _ ⟨rfl, rfl⟩
            refine go_ ?_
            refine Rd 3 1 (B1.out) ?_
            rintro _ _ ⟨rfl, rfl⟩
            refine go_ ?_
            refine Qaa ?_
            refine rS (st' := prS i0 l (Qag l sRap τ)) Tryz.results105 ?_
            exact ⟨by rw [← HR2.out]; simp only [aggD, Jg, List.map_cons, List.map_nil]; rfl, by rw [← HR2.out]; rfl⟩
        · rw [if_neg (by simp [hz])] at hr
          have HR2 := Hh hr
          clear hr hf
          unfold prS
          refine go_ ?_
          refine Rd 3 1 (B1.out) ?_
          rintro _ _ ⟨rfl, rfl⟩
          refine go_ ?_
          refine Qaa ?_
          refine rS (st' := prS i0 l (Qag l sRap τ)) Tryz.results105 ?_
          exact ⟨by rw [← HR2.out]; simp only [aggD, Jg, List.map_cons, List.map_nil]; rfl, by rw [← HR2.out]; rfl⟩
theorem patterns_w {l : List Tk} (hl : TkOk l) : ∀ n, (∀ σ, Wf l σ → isS l σ 0 sPar = true → σ.bad = 0 → Fu l n 2 σ → ParenC l n σ) ∧ (∀ σ, Wf l σ → Fu l n 3 σ → PatC l n σ) := by
  intro n
  induction n using Nat.strongRecOn with
  | _ n ih =>
    match n with
    | 0 => exact ⟨fun _ _ _ _ h => absurd h.1 (Nat.lt_irrefl 0), fun _ _ h => absurd h.1 (Nat.lt_irrefl 0)⟩
    | n + 1 => exact ⟨fun σ hw hp hz hf => paren_w hl n (fun m hm σ hw hf => (ih m (by omega)).2 σ hw hf) σ hw hp hz hf, fun σ hw hf => pat_w hl n (ih n (Nat.lt_succ_self n)).1 σ hw hf⟩
section
variable {l : List Tk} (hl : TkOk l)
include hl
theorem Qkm {σ : ST} (x : Nd) (a : Int) (h : Wf l σ) : Adv l σ (Qdd x a σ) := by
 unfold Qdd
 split
 ·exact (Qen hl 2 a (by decide) h).adv
 ·exact Adv.refl h
theorem patF_adv {σ : ST} (h : Wf l σ) : AdvS l σ (patS l (patF l) σ).2 := ((pat_adv hl (patF l)).2.2 σ h).2 (by unfold patF; omega)
theorem pats_adv : ∀ (n : Nat) (acc : List Nd) (σ : ST), Wf l σ → Adv l σ (Qds l n acc σ).2 := by
  intro n
  induction n with
  | zero => intro acc σ h; exact Adv.refl h
  | succ n ih =>
    intro acc σ h
    simp only [Qds]
    split
    · split
      · exact (Qen hl 2 _ (by decide) h).adv
      · have h1 := patF_adv hl h
        have h2 := h1.adv.trans (Qkm hl (patS l (patF l) σ).1 (tkg l σ.i).at_ h1.1)
        exact h2.trans (ih _ _ h2.1)
    · exact Adv.refl h
theorem Qfk {σ : ST} (h : Wf l σ) : Adv l σ (Qbj l (Qcb l) σ).2 := expr_adv hl (Qcb l) σ h
theorem con_adv {σ : ST} (h : Wf l σ) : AdvS l σ (conS l σ).2 := by
 unfold conS
 have h1 := Qer hl h
 have h2 := h1.trans (Qap hl sCol h1.1).adv
 exact h2.trans (Qfk hl h2.1)
theorem bind_adv {σ : ST} (h : Wf l σ) : AdvS l σ (bindS l σ).2 := by
 unfold bindS
 have h1 := Qap hl sPar h
 have h2 := h1.trans (con_adv hl h1.1).adv
 exact h2.trans (Qap hl sRap h2.1).adv
theorem line_adv {σ : ST} (h : Wf l σ) : AdvS l σ (lineS l σ).2 := by
 unfold lineS
 have h1 := con_adv hl h
 exact h1.trans (Qap hl sSem h1.1).adv
end
theorem Qir {l : List Tk} (hl : TkOk l) (i0 : Nat) (σ : ST) (hw : Wf l σ) : PCalls Tryz.prog 22 [.ptr i0 0] (prS i0 l σ) fun p s => p = aggD (Qbj l (Qcb l) σ).1 ∧ s = prS i0 l (Qbj l (Qcb l) σ).2 :=
 expr_p hl i0 (Qcb l) σ hw ⟨by unfold Qcb; omega, fun _ => by unfold Qcb; omega⟩
theorem open_p {l : List Tk} (hl : TkOk l) (i0 : Nat) (σ : ST) (hw : Wf l σ) : PCalls Tryz.prog 78 [.ptr i0 0] (prS i0 l σ) fun p s => p = .d (.v (.bool (openS l σ))) ∧ s = prS i0 l σ := by
 have c1 := Hh (is_p i0 l σ 0 0 rfl sKet hl.len hl.pos (by have := hw.le hl; omega) (by decide))
 have HO := Hh (show openS l σ = !isS l σ 0 sKet from rfl)
 unfold sKet at c1
 refine pG Tryz.func78 Tryz.ntmps78 ?_
 refine Re (c1.out) ?_
 rintro _ _ ⟨rfl, rfl⟩
 refine go_ ?_
 refine rS (st' := prS i0 l σ) Tryz.results78 ?_
 exact ⟨by rw [HO.out]; rfl, rfl⟩
theorem paren0_p {l : List Tk} (hl : TkOk l) (i0 : Nat) (σ : ST) (hw : Wf l σ) : PCalls Tryz.prog 74 [.ptr i0 0] (prS i0 l σ) fun p s => p = .d (.v (.bool (Qja l σ))) ∧ s = prS i0 l σ := by
 have c1 := Hh (is_p i0 l σ 0 0 rfl sPar hl.len hl.pos (by have := hw.le hl; omega) (by decide))
 have HO := Hh (show Qja l σ = isS l σ 0 sPar from rfl)
 unfold sPar at c1
 refine pG Tryz.func74 Tryz.ntmps74 ?_
 refine Re (c1.out) ?_
 rintro _ _ ⟨rfl, rfl⟩
 refine go_ ?_
 refine rS (st' := prS i0 l σ) Tryz.results74 ?_
 exact ⟨by rw [HO.out]; rfl, rfl⟩
theorem con_p {l : List Tk} (hl : TkOk l) (i0 : Nat) (σ : ST) (hw : Wf l σ) : PCalls Tryz.prog 127 [.ptr i0 0] (prS i0 l σ) fun p s => p = aggD (conS l σ).1 ∧ s = prS i0 l (conS l σ).2 := by
 have b1 : σ.i ≤ 150000 := Nat.le_trans (hw.le hl) (by decide)
 have h1 := Qer hl hw
 have h2 := h1.trans (Qap hl sCol h1.1).adv
 have c0 := Hh (Qcn i0 l σ hl.len hl.pos b1)
 have c1 := Hh (name_p i0 l σ hl.len hl.pos b1)
 have c2 := Qcq i0 l _ sCol hl.len hl.pos (Nat.le_trans (h1.1.le hl) (by decide))
 have c3 := Qir hl i0 _ h2.1
 have HT := Hh (show conS l σ = (⟨(Qam l σ).1, (tkg l σ.i).at_, (Qbj l (Qcb l) (Qag l sCol (Qam l σ).2)).1⟩, (Qbj l (Qcb l) (Qag l sCol (Qam l σ).2)).2) from rfl)
 rw [HT.out]
 clear HT h1 h2
 unfold sCol at c2
 generalize (Qam l σ).1 = x at *
 generalize (Qam l σ).2 = σ1 at *
 change PCalls _ _ _ _ (fun p st => p = PV.tup [] ∧ st = prS i0 l (Qag l sCol σ1)) at c2
 generalize Qag l sCol σ1 = σ2 at *
 generalize (Qbj l (Qcb l) σ2).1 = A at *
 generalize (Qbj l (Qcb l) σ2).2 = σ3 at *
 simp only [aggD, Jg, Jj, List.map_cons, List.map_nil] at c3 ⊢
 have C2 := Hh c2
 have C3 := Hh c3
 clear c2 c3
 refine pG Tryz.func127 Tryz.ntmps127 ?_
 refine Jd ?_
 intro i1 hi1
 simp only [prS, List.cons_append, List.nil_append, List.append_nil, List.drop_succ_cons, List.drop_zero, List.drop_nil, Rh, Rg, Rf, Ja] at hi1
 refine go_ ?_
 refine Rd 1 1 (c0.out) ?_
 rintro _ _ ⟨rfl, rfl⟩
 refine go_ ?_
 refine Rd 1 1 (c1.out) ?_
 rintro _ _ ⟨rfl, rfl⟩
 refine go_ ?_
 refine Jd ?_
 intro i2 hi2
 simp only [prS, List.cons_append, List.nil_append, List.append_nil, List.drop_succ_cons, List.drop_zero, List.drop_nil, Rh, Rg, Rf, Ja] at hi2
 refine go_ ?_
 refine Qaa ?_
 refine Rd 2 1 (C2.out) ?_
 rintro _ _ ⟨rfl, rfl⟩
 refine go_ ?_
 refine Rd 2 1 (C3.out) ?_
 rintro _ _ ⟨rfl, rfl⟩
 refine go_ ?_
 refine Qaa ?_
 refine Qaa ?_
 refine rS (st' := prS i0 l σ3) Tryz.results127 ?_
 exact ⟨rfl, rfl⟩
theorem bind_p {l : List Tk} (hl : TkOk l) (i0 : Nat) (σ : ST) (hw : Wf l σ) : PCalls Tryz.prog 75 [.ptr i0 0] (prS i0 l σ) fun p s => p = aggD (bindS l σ).1 ∧ s = prS i0 l (bindS l σ).2 := by
 have b1 : σ.i ≤ 150000 := Nat.le_trans (hw.le hl) (by decide)
 have h1 := Qap hl sPar hw
 have h2 := h1.trans (con_adv hl h1.1).adv
 have c1 := Qcq i0 l σ sPar hl.len hl.pos b1
 have c2 := con_p hl i0 _ h1.1
 have c3 := Qcq i0 l _ sRap hl.len hl.pos (Nat.le_trans (h2.1.le hl) (by decide))
 have HT := Hh (show bindS l σ = ((conS l (Qag l sPar σ)).1, Qag l sRap (conS l (Qag l sPar σ)).2) from rfl)
 rw [HT.out]
 clear HT h1 h2
 generalize Qag l sPar σ = σ1 at *
 generalize (conS l σ1).1 = A at *
 generalize (conS l σ1).2 = σ2 at *
 generalize Qag l sRap σ2 = σ3 at *
 unfold sPar at c1
 unfold sRap at c3
 simp only [aggD, Jg, Jj, List.map_cons, List.map_nil] at c2 ⊢
 have C1 := Hh c1
 have C2 := Hh c2
 have C3 := Hh c3
 clear c1 c2 c3
 refine pG Tryz.func75 Tryz.ntmps75 ?_
 refine Jd ?_
 intro i1 hi1
 simp only [prS, List.cons_append, List.nil_append, List.append_nil, List.drop_succ_cons, List.drop_zero, List.drop_nil, Rh, Rg, Rf, Ja] at hi1
 refine go_ ?_
 refine Rd 1 1 (C1.out) ?_
 rintro _ _ ⟨rfl, rfl⟩
 refine go_ ?_
 refine Rd 1 1 (C2.out) ?_
 rintro _ _ ⟨rfl, rfl⟩
 refine go_ ?_
 refine Jd ?_
 intro i2 hi2
 simp only [prS, List.cons_append, List.nil_append, List.append_nil, List.drop_succ_cons, List.drop_zero, List.drop_nil, Rh, Rg, Rf, Ja] at hi2
 refine go_ ?_
 refine Qaa ?_
 refine Rd 2 1 (C3.out) ?_
 rintro _ _ ⟨rfl, rfl⟩
 refine go_ ?_
 refine Qaa ?_
 refine rS (st' := prS i0 l σ3) Tryz.results75 ?_
 exact ⟨rfl, rfl⟩
theorem line_p' {l : List Tk} (hl : TkOk l) (i0 : Nat) (σ : ST) (hw : Wf l σ) : PCalls Tryz.prog 79 [.ptr i0 0] (prS i0 l σ) fun p s => p = aggD (lineS l σ).1 ∧ s = prS i0 l (lineS l σ).2 := by
 have h1 := con_adv hl hw
 have c2 := con_p hl i0 _ hw
 have c3 := Qcq i0 l _ sSem hl.len hl.pos (Nat.le_trans (h1.1.le hl) (by decide))
 have HT := Hh (show lineS l σ = ((conS l σ).1, Qag l sSem (conS l σ).2) from rfl)
 rw [HT.out]
 clear HT h1
 generalize (conS l σ).1 = A at *
 generalize (conS l σ).2 = σ2 at *
 generalize Qag l sSem σ2 = σ3 at *
 unfold sSem at c3
 simp only [aggD, Jg, Jj, List.map_cons, List.map_nil] at c2 ⊢
 have C2 := Hh c2
 have C3 := Hh c3
 clear c2 c3
 refine pG Tryz.func79 Tryz.ntmps79 ?_
 refine Jd ?_
 intro i1 hi1
 simp only [prS, List.cons_append, List.nil_append, List.append_nil, List.drop_succ_cons, List.drop_zero, List.drop_nil, Rh, Rg, Rf, Ja] at hi1
 refine go_ ?_
 refine Rd 1 1 (C2.out) ?_
 rintro _ _ ⟨rfl, rfl⟩
 refine go_ ?_
 refine Jd ?_
 intro i2 hi2
 simp only [prS, List.cons_append, List.nil_append, List.append_nil, List.drop_succ_cons, List.drop_zero, List.drop_nil, Rh, Rg, Rf, Ja] at hi2
 refine go_ ?_
 refine Qaa ?_
 refine Rd 2 1 (C3.out) ?_
 rintro _ _ ⟨rfl, rfl⟩
 refine go_ ?_
 refine Qaa ?_
 refine rS (st' := prS i0 l σ3) Tryz.results79 ?_
 exact ⟨rfl, rfl⟩
theorem pats_p {l : List Tk} (hl : TkOk l) (i0 : Nat) (σ : ST) (hw : Wf l σ) : PCalls Tryz.prog 40 [.ptr i0 0] (prS i0 l σ) fun p s => p = .d (slD (Qds l (l.length + 1) [] σ).1) ∧ s = prS i0 l (Qds l (l.length + 1) [] σ).2 := by
  have HG : ∃ r, r = Qds l (l.length + 1) [] σ := ⟨_, rfl⟩
  obtain ⟨r, hr⟩ := HG
  have HR := Hh hr.symm
  rw [← hr]
  clear hr
  have HW := Hh hw
  clear hw
  unfold slD
  refine pG Tryz.func40 Tryz.ntmps40 ?_
  refine PW_own 3 25 5 (by decide) (by simp [PF.get] <;> rfl) fun g hg => ?_
  refine Qbo (ι := Nat × List Nd × ST) (fun y => Wf l y.2.2 ∧ 0 < y.1 ∧ (y.2.2.bad = 0 → l.length - y.2.2.i + 1 ≤ y.1) ∧ Qds l y.1 y.2.1 y.2.2 = r ∧ y.2.1.length ≤ 24) (fun y => [(0, .ptr i0 0), (3, .own g (y.2.1.map encD))])
    (fun y => .tok g 25 5 y.2.1.length :: prS i0 l y.2.2) (fun y => y.1) (l.length + 1, [], σ) ⟨HW.out, Nat.succ_pos _, fun _ => by simp only; omega, HR.out, Nat.zero_le _⟩ ?_ ?_ ?_
  · exact sU
  · exact dR
  · rintro ⟨m, acc, τ⟩ ⟨hw, hm0, hm, hr, hacc⟩
    simp only at hw hm0 hm hr hacc ⊢
    obtain ⟨m, rfl⟩ : ∃ k, m = k + 1 := ⟨m - 1, by omega⟩
    have b3 : τ.i ≤ 150000 := Nat.le_trans (hw.le hl) (by decide)
    have B0 := Hh (pattern_p i0 l τ hl.len hl.pos b3)
    have B1 := Hh (Qcn i0 l τ hl.len hl.pos b3)
    simp only [Qds] at hr
    by_cases hz : τ.bad = 0
    · cases hbg : Qhj l τ with
      | true =>
        rw [if_pos ⟨hz, hbg⟩] at hr
        by_cases h24 : 24 ≤ acc.length
        · rw [if_pos h24] at hr
          have hc24 : (24 : Int) ≤ (acc.length : Int) := by omega
          have B2 := Hh (Qgt i0 l τ 2 (tkg l τ.i).at_)
          have HR2 := Hh hr
          clear hr hm
          unfold prS
          refine go_ ?_
          refine Rd 1 1 (B0.out) ?_
          rintro _ _ ⟨rfl, rfl⟩
          refine go_ ?_
          refine Rd 1 1 (B1.out) ?_
          rintro _ _ ⟨rfl, rfl⟩
          refine go_ ?_
          refine Rd 1 1 (B2.out) ?_
          rintro _ _ ⟨rfl, rfl⟩
          refine go_ ?_
          refine rS (st' := prS i0 l (Qav 2 (tkg l τ.i).at_ τ)) Tryz.results40 ?_
          exact ⟨by rw [← HR2.out]; rfl, by rw [← HR2.out]; rfl⟩
        · rw [if_neg h24] at hr
          have hc24 : ¬ (24 : Int) ≤ (acc.length : Int) := by omega
          have hA := patF_adv hl hw
          have hA2 := hA.trans (Qkm hl (patS l (patF l) τ).1 (tkg l τ.i).at_ hA.1)
          have c2 := (patterns_w hl (patF l)).2 τ hw ⟨by unfold patF; omega, fun _ => by unfold patF; omega⟩ i0
          have c3 := checked_p i0 l (patS l (patF l) τ).1 (tkg l τ.i).at_ (patS l (patF l) τ).2
          have HA := Hh hA2
          have HM := Hh hm
          have HR2 := Hh hr
          clear hr hm hA hA2
          generalize (tkg l τ.i).at_ = at0 at *
          generalize (patS l (patF l) τ).1 = X at *
          generalize (patS l (patF l) τ).2 = τ1 at *
          generalize Qdd X at0 τ1 = τ2 at *
          simp only [aggD, Jg, List.map_cons, List.map_nil] at c2 c3
          have C2 := Hh c2
          have C3 := Hh c3
          clear c2 c3
          unfold prS
          refine go_ ?_
          refine Rd 1 1 (B0.out) ?_
          rintro _ _ ⟨rfl, rfl⟩
          refine go_ ?_
          refine Rd 1 1 (B1.out) ?_
          rintro _ _ ⟨rfl, rfl⟩
          refine go_ ?_
          refine Rd 1 1 (C2.out) ?_
          rintro _ _ ⟨rfl, rfl⟩
          refine go_ ?_
          refine Rd 1 1 (C3.out) ?_
          rintro _ _ ⟨rfl, rfl⟩
          refine go_ ?_
          refine Qbg ?_
          refine Qdl (acc.length + 1) ?_ ?_ ?_ ?_
          · simp
          · exact Qec fun _ => Qgf _
          · exact Qed rfl
          refine go_ ?_
          refine ⟨(m, acc ++ [X], τ2), ⟨HA.out.1, ?_, fun hb => ?_, HR2.out, by simp only [List.length_append, List.length_cons, List.length_nil]; omega⟩, by simp only; omega, ?_, ?_⟩
          · have h1 := HM.out hz
            have h2 := hw
            unfold Wf at h2
            simp only
            omega
          · have h1 := HM.out hz
            have h2 := (HA.out.2 hb).2
            have h3 := HA.out.1
            unfold Wf at h3
            simp only
            omega
          · refine Jr (by simp [PF.get] <;> rfl) rfl ?_
            refine Jr (by simp [PF.get] <;> rfl) (by simp only [List.map_append, List.map_cons, List.map_nil, Jg X]) ?_
            exact sU
          · simp only [List.length_append, List.length_cons, List.length_nil, Nat.zero_add]
            exact dR
      | false =>
        rw [if_neg (by rw [hbg]; simp)] at hr
        have HR2 := Hh hr
        clear hr hm
        unfold prS
        refine go_ ?_
        refine Rd 1 1 (B0.out) ?_
        rintro _ _ ⟨rfl, rfl⟩
        refine go_ ?_
        refine rS (st' := prS i0 l τ) Tryz.results40 ?_
        exact ⟨by rw [← HR2.out]; rfl, by rw [← HR2.out]; rfl⟩
    · rw [if_neg (by simp [hz])] at hr
      have HR2 := Hh hr
      clear hr hm
      unfold prS
      refine go_ ?_
      refine rS (st' := prS i0 l τ) Tryz.results40 ?_
      exact ⟨by rw [← HR2.out]; rfl, by rw [← HR2.out]; rfl⟩
section
variable {l : List Tk} (hl : TkOk l)
include hl
theorem row_adv {σ : ST} (h : Wf l σ) : AdvS l σ (rowS l σ).2 := by
 unfold rowS
 have h1 := pats_adv hl (l.length + 1) [] σ h
 simp only
 split
 ·rename_i he
  have h2 := h1.trans (Qbh hl (Qbz he.2)).adv
  have h3 := h2.trans (Qfk hl h2.1)
  exact h3.transS (Qap hl sSem h3.1)
 ·exact h1.transS (Qap hl sSem h1.1)
theorem rows_adv : ∀ (n : Nat) (acc : List Rw) (σ : ST), Wf l σ → Adv l σ (Qfw l n acc σ).2 := by
  intro n
  induction n with
  | zero => intro acc σ h; exact Adv.refl h
  | succ n ih =>
    intro acc σ h
    simp only [Qfw]
    split
    · split
      · exact (Qen hl 2 _ (by decide) h).adv
      · have h1 := row_adv hl h
        exact h1.adv.trans (ih _ _ h1.1)
    · exact Adv.refl h
theorem list_adv {most : Nat} {more : ST → Bool} {one : ST → Bd × ST} (ho : ∀ σ, Wf l σ → AdvS l σ (one σ).2) : ∀ (n : Nat) (acc : List Bd) (σ : ST), Wf l σ → Adv l σ (Qge l most more one n acc σ).2 := by
  intro n
  induction n with
  | zero => intro acc σ h; exact Adv.refl h
  | succ n ih =>
    intro acc σ h
    simp only [Qge]
    split
    · split
      · exact (Qen hl 2 _ (by decide) h).adv
      · have h1 := ho σ h
        exact h1.adv.trans (ih _ _ h1.1)
    · exact Adv.refl h
end
theorem row_p' {l : List Tk} (hl : TkOk l) (i0 : Nat) (σ : ST) (hw : Wf l σ) : PCalls Tryz.prog 128 [.ptr i0 0] (prS i0 l σ) fun p s => p = aggD (rowS l σ).1 ∧ s = prS i0 l (rowS l σ).2 := by
  have b1 : σ.i ≤ 150000 := Nat.le_trans (hw.le hl) (by decide)
  have h1 := pats_adv hl (l.length + 1) [] σ hw
  have c0 := Hh (Qcn i0 l σ hl.len hl.pos b1)
  have c1 := pats_p hl i0 σ hw
  have HT := Hh (show rowS l σ = (if (Qds l (l.length + 1) [] σ).2.bad = 0 ∧ isS l (Qds l (l.length + 1) [] σ).2 0 sEq then (⟨(tkg l σ.i).at_, (Qds l (l.length + 1) [] σ).1, true, (Qbj l (Qcb l) (incS (Qds l (l.length + 1) [] σ).2)).1⟩, Qag l sSem (Qbj l (Qcb l) (incS (Qds l (l.length + 1) [] σ).2)).2) else (⟨(tkg l σ.i).at_, (Qds l (l.length + 1) [] σ).1, false, zNd⟩, Qag l sSem (Qds l (l.length + 1) [] σ).2)) from rfl)
  rw [HT.out]
  clear HT
  generalize (Qds l (l.length + 1) [] σ).1 = ps at *
  generalize (Qds l (l.length + 1) [] σ).2 = σ1 at *
  generalize (tkg l σ.i).at_ = at0 at *
  have hw1 := h1.1
  clear h1
  have b2 : σ1.i ≤ 150000 := Nat.le_trans (hw1.le hl) (by decide)
  have c2 := Hh (is_p i0 l σ1 0 0 rfl sEq hl.len hl.pos (by omega) (by decide))
  unfold sEq at c2
  unfold slD at c1
  have C1 := Hh c1
  clear c1
  by_cases hz : σ1.bad = 0
  · cases he : isS l σ1 0 sEq with
    | true =>
      have h2 := Qbh hl (Qbz he)
      unfold sEq at he
      rw [if_pos ⟨hz, rfl⟩]
      have c3 := Qir hl i0 _ h2.1
      have c4 := Qcq i0 l _ sSem hl.len hl.pos (Nat.le_trans ((Qfk hl h2.1).1.le hl) (by decide))
      have hin := Qcr b2
      clear h2
      obtain ⟨i, a, b⟩ := σ1
      simp only at hz hin b2
      subst hz
      generalize (Qbj l (Qcb l) (incS ⟨i, a, 0⟩)).1 = A at *
      generalize (Qbj l (Qcb l) (incS ⟨i, a, 0⟩)).2 = σ3 at *
      generalize Qag l sSem σ3 = σ4 at *
      unfold sSem at c4
      simp only [aggD, Jg, Jh, List.map_cons, List.map_nil] at c3 ⊢
      have C3 := Hh c3
      have C4 := Hh c4
      clear c3 c4
      refine pG Tryz.func128 Tryz.ntmps128 ?_
      refine Jd ?_
      intro i1 hi1
      simp only [prS, List.cons_append, List.nil_append, List.append_nil, List.drop_succ_cons, List.drop_zero, List.drop_nil, Rh, Rg, Rf, Ja] at hi1
      refine go_ ?_
      refine Rd 1 1 (c0.out) ?_
      rintro _ _ ⟨rfl, rfl⟩
      refine go_ ?_
      refine Rd 1 1 (C1.out) ?_
      rintro _ _ ⟨rfl, rfl⟩
      refine go_ ?_
      refine Jd ?_
      intro i2 hi2
      simp only [prS, List.cons_append, List.nil_append, List.append_nil, List.drop_succ_cons, List.drop_zero, List.drop_nil, Rh, Rg, Rf, Ja] at hi2
      refine go_ ?_
      refine Rc ?_
      unfold prS
      refine go_ ?_
      refine Rd 2 1 (c2.out) ?_
      rintro _ _ ⟨rfl, rfl⟩
      unfold prS
      refine go_ ?_
      refine Qaa ?_
      refine Rd 2 1 (C3.out) ?_
      rintro _ _ ⟨rfl, rfl⟩
      refine go_ ?_
      refine Qaa ?_
      refine Qaa ?_
      refine Rd 2 1 (C4.out) ?_
      rintro _ _ ⟨rfl, rfl⟩
      refine go_ ?_
      refine Qaa ?_
      refine rS (st' := prS i0 l σ4) Tryz.results128 ?_
      exact ⟨rfl, rfl⟩
    | false =>
      unfold sEq at he
      rw [if_neg (by simp)]
      have c4 := Qcq i0 l σ1 sSem hl.len hl.pos b2
      generalize Qag l sSem σ1 = σ4 at *
      unfold sSem at c4
      unfold zNd
      simp only [aggD, Jg, Jh, List.map_cons, List.map_nil, Nd.kind, Nd.at, Nd.name, Nd.num, Nd.sub]
      have C4 := Hh c4
      clear c4
      refine pG Tryz.func128 Tryz.ntmps128 ?_
      refine Jd ?_
      intro i1 hi1
      simp only [prS, List.cons_append, List.nil_append, List.append_nil, List.drop_succ_cons, List.drop_zero, List.drop_nil, Rh, Rg, Rf, Ja] at hi1
      refine go_ ?_
      refine Rd 1 1 (c0.out) ?_
      rintro _ _ ⟨rfl, rfl⟩
      refine go_ ?_
      refine Rd 1 1 (C1.out) ?_
      rintro _ _ ⟨rfl, rfl⟩
      refine go_ ?_
      refine Jd ?_
      intro i2 hi2
      simp only [prS, List.cons_append, List.nil_append, List.append_nil, List.drop_succ_cons, List.drop_zero, List.drop_nil, Rh, Rg, Rf, Ja] at hi2
      refine go_ ?_
      refine Rc ?_
      unfold prS
      refine go_ ?_
      refine Rd 2 1 (c2.out) ?_
      rintro _ _ ⟨rfl, rfl⟩
      refine go_ ?_
      refine Rd 2 1 (C4.out) ?_
      rintro _ _ ⟨rfl, rfl⟩
      refine go_ ?_
      refine Qaa ?_
      refine rS (st' := prS i0 l σ4) Tryz.results128 ?_
      exact ⟨rfl, rfl⟩
  · rw [if_neg (by simp [hz])]
    have c4 := Qcq i0 l σ1 sSem hl.len hl.pos b2
    generalize Qag l sSem σ1 = σ4 at *
    unfold sSem at c4
    unfold zNd
    simp only [aggD, Jg, Jh, List.map_cons, List.map_nil, Nd.kind, Nd.at, Nd.name, Nd.num, Nd.sub]
    have C4 := Hh c4
    clear c4
    refine pG Tryz.func128 Tryz.ntmps128 ?_
    refine Jd ?_
    intro i1 hi1
    simp only [prS, List.cons_append, List.nil_append, List.append_nil, List.drop_succ_cons, List.drop_zero, List.drop_nil, Rh, Rg, Rf, Ja] at hi1
    refine go_ ?_
    refine Rd 1 1 (c0.out) ?_
    rintro _ _ ⟨rfl, rfl⟩
    refine go_ ?_
    refine Rd 1 1 (C1.out) ?_
    rintro _ _ ⟨rfl, rfl⟩
    refine go_ ?_
    refine Jd ?_
    intro i2 hi2
    simp only [prS, List.cons_append, List.nil_append, List.append_nil, List.drop_succ_cons, List.drop_zero, List.drop_nil, Rh, Rg, Rf, Ja] at hi2
    refine go_ ?_
    refine Rc ?_
    unfold prS
    refine go_ ?_
    refine Rd 2 1 (C4.out) ?_
    rintro _ _ ⟨rfl, rfl⟩
    refine go_ ?_
    refine Qaa ?_
    refine rS (st' := prS i0 l σ4) Tryz.results128 ?_
    exact ⟨rfl, rfl⟩
theorem kind_p {l : List Tk} (hl : TkOk l) (i0 : Nat) (σ : ST) (hw : Wf l σ) : PCalls Tryz.prog 71 [.ptr i0 0] (prS i0 l σ) fun p s => p = .d (.v (.int .i64 (Qep l σ))) ∧ s = prS i0 l σ := by
  have b1 : σ.i ≤ 200000 := Nat.le_trans (hw.le hl) (by decide)
  have c1 := Hh (is_p i0 l σ 0 0 rfl sData hl.len hl.pos b1 (by decide))
  have c2 := Hh (is_p i0 l σ 0 0 rfl sRec hl.len hl.pos b1 (by decide))
  have c3 := Hh (is_p i0 l σ 0 0 rfl sDef hl.len hl.pos b1 (by decide))
  have HK := Hh (show Qep l σ = if isS l σ 0 sData then 1 else if isS l σ 0 sRec then 2 else if isS l σ 0 sDef then 3 else 0 from rfl)
  unfold sData sRec sDef at *
  refine pG Tryz.func71 Tryz.ntmps71 ?_
  refine Re (c1.out) ?_
  rintro _ _ ⟨rfl, rfl⟩
  cases h1 : isS l σ 0 ⟨#[100, 97, 116, 97]⟩ with
  | true =>
    rw [h1] at HK
    refine go_ ?_
    refine rS (st' := prS i0 l σ) Tryz.results71 ?_
    exact ⟨by rw [HK.out]; rfl, rfl⟩
  | false =>
    rw [h1] at HK
    refine go_ ?_
    refine Re (c2.out) ?_
    rintro _ _ ⟨rfl, rfl⟩
    cases h2 : isS l σ 0 ⟨#[114, 101, 99, 111, 114, 100]⟩ with
    | true =>
      rw [h2] at HK
      refine go_ ?_
      refine rS (st' := prS i0 l σ) Tryz.results71 ?_
      exact ⟨by rw [HK.out]; rfl, rfl⟩
    | false =>
      rw [h2] at HK
      refine go_ ?_
      refine Re (c3.out) ?_
      rintro _ _ ⟨rfl, rfl⟩
      cases h3 : isS l σ 0 ⟨#[100, 101, 102]⟩ with
      | true =>
        rw [h3] at HK
        refine go_ ?_
        refine rS (st' := prS i0 l σ) Tryz.results71 ?_
        exact ⟨by rw [HK.out]; rfl, rfl⟩
      | false =>
        rw [h3] at HK
        refine go_ ?_
        refine rS (st' := prS i0 l σ) Tryz.results71 ?_
        exact ⟨by rw [HK.out]; rfl, rfl⟩
theorem rows_p {l : List Tk} (hl : TkOk l) (i0 : Nat) (σ : ST) (hw : Wf l σ) : PCalls Tryz.prog 77 [.ptr i0 0] (prS i0 l σ) fun p s => p = .d (slD (Qfw l (l.length + 1) [] σ).1) ∧ s = prS i0 l (Qfw l (l.length + 1) [] σ).2 := by
  have HG : ∃ r, r = Qfw l (l.length + 1) [] σ := ⟨_, rfl⟩
  obtain ⟨r, hr⟩ := HG
  have HR := Hh hr.symm
  rw [← hr]
  clear hr
  have HW := Hh hw
  clear hw
  unfold slD
  refine pG Tryz.func77 Tryz.ntmps77 ?_
  refine PW_own 3 62 8 (by decide) (by simp [PF.get] <;> rfl) fun g hg => ?_
  refine Qbo (ι := Nat × List Rw × ST) (fun y => Wf l y.2.2 ∧ 0 < y.1 ∧ (y.2.2.bad = 0 → l.length - y.2.2.i + 1 ≤ y.1) ∧ Qfw l y.1 y.2.1 y.2.2 = r ∧ y.2.1.length ≤ 32) (fun y => [(0, .ptr i0 0), (3, .own g (y.2.1.map encD))])
    (fun y => .tok g 62 8 y.2.1.length :: prS i0 l y.2.2) (fun y => y.1) (l.length + 1, [], σ) ⟨HW.out, Nat.succ_pos _, fun _ => by simp only; omega, HR.out, Nat.zero_le _⟩ ?_ ?_ ?_
  · exact sU
  · exact dR
  · rintro ⟨m, acc, τ⟩ ⟨hw, hm0, hm, hr, hacc⟩
    simp only at hw hm0 hm hr hacc ⊢
    obtain ⟨m, rfl⟩ : ∃ k, m = k + 1 := ⟨m - 1, by omega⟩
    have b3 : τ.i ≤ 150000 := Nat.le_trans (hw.le hl) (by decide)
    have B0 := Hh (open_p hl i0 τ hw)
    have B1 := Hh (Qcn i0 l τ hl.len hl.pos b3)
    simp only [Qfw] at hr
    by_cases hz : τ.bad = 0
    · cases hbg : openS l τ with
      | true =>
        rw [if_pos ⟨hz, hbg⟩] at hr
        by_cases h24 : 32 ≤ acc.length
        · rw [if_pos h24] at hr
          have hc24 : (32 : Int) ≤ (acc.length : Int) := by omega
          have B2 := Hh (Qgt i0 l τ 2 (tkg l τ.i).at_)
          have HR2 := Hh hr
          clear hr hm
          unfold prS
          refine go_ ?_
          refine Rd 1 1 (B0.out) ?_
          rintro _ _ ⟨rfl, rfl⟩
          refine go_ ?_
          refine Rd 1 1 (B1.out) ?_
          rintro _ _ ⟨rfl, rfl⟩
          refine go_ ?_
          refine Rd 1 1 (B2.out) ?_
          rintro _ _ ⟨rfl, rfl⟩
          refine go_ ?_
          refine rS (st' := prS i0 l (Qav 2 (tkg l τ.i).at_ τ)) Tryz.results77 ?_
          exact ⟨by rw [← HR2.out]; rfl, by rw [← HR2.out]; rfl⟩
        · rw [if_neg h24] at hr
          have hc24 : ¬ (32 : Int) ≤ (acc.length : Int) := by omega
          have hA := row_adv hl hw
          have c2 := row_p' hl i0 τ hw
          have HA := Hh hA
          have HM := Hh hm
          have HR2 := Hh hr
          clear hr hm hA
          generalize (rowS l τ).1 = X at *
          generalize (rowS l τ).2 = τ2 at *
          simp only [aggD, Jh, Jg, List.map_cons, List.map_nil] at c2
          have C2 := Hh c2
          clear c2
          unfold prS
          refine go_ ?_
          refine Rd 1 1 (B0.out) ?_
          rintro _ _ ⟨rfl, rfl⟩
          refine go_ ?_
          refine Rd 1 1 (C2.out) ?_
          rintro _ _ ⟨rfl, rfl⟩
          refine go_ ?_
          refine Qbg ?_
          refine Qdl (acc.length + 1) ?_ ?_ ?_ ?_
          · simp
          · exact Qec fun _ => Qgf _
          · exact Qed rfl
          refine go_ ?_
          refine ⟨(m, acc ++ [X], τ2), ⟨HA.out.1, ?_, fun hb => ?_, HR2.out, by simp only [List.length_append, List.length_cons, List.length_nil]; omega⟩, by simp only; omega, ?_, ?_⟩
          · have h1 := HM.out hz
            have h2 := hw
            unfold Wf at h2
            simp only
            omega
          · have h1 := HM.out hz
            have h2 := (HA.out.2 hb).2
            have h3 := HA.out.1
            unfold Wf at h3
            simp only
            omega
          · refine Jr (by simp [PF.get] <;> rfl) rfl ?_
            refine Jr (by simp [PF.get] <;> rfl) (by simp only [List.map_append, List.map_cons, List.map_nil, Jh X]) ?_
            exact sU
          · simp only [List.length_append, List.length_cons, List.length_nil, Nat.zero_add]
            exact dR
      | false =>
        rw [if_neg (by rw [hbg]; simp)] at hr
        have HR2 := Hh hr
        clear hr hm
        unfold prS
        refine go_ ?_
        refine Rd 1 1 (B0.out) ?_
        rintro _ _ ⟨rfl, rfl⟩
        refine go_ ?_
        refine rS (st' := prS i0 l τ) Tryz.results77 ?_
        exact ⟨by rw [← HR2.out]; rfl, by rw [← HR2.out]; rfl⟩
    · rw [if_neg (by simp [hz])] at hr
      have HR2 := Hh hr
      clear hr hm
      unfold prS
      refine go_ ?_
      refine rS (st' := prS i0 l τ) Tryz.results77 ?_
      exact ⟨by rw [← HR2.out]; rfl, by rw [← HR2.out]; rfl⟩
theorem list_p {l : List Tk} (hl : TkOk l) (i0 most f1 f2 : Nat) (hmost : most ≤ 24) (more : ST → Bool) (one : ST → Bd × ST) (hca1 : Qau Tryz.prog f1 = true) (hca2 : Qau Tryz.prog f2 = true) (hmo : ∀ σ, Wf l σ → PCalls Tryz.prog f1 [.ptr i0 0] (prS i0 l σ) fun p s => p = .d (.v (.bool (more σ))) ∧ s = prS i0 l σ) (hon : ∀ σ, Wf l σ → PCalls Tryz.prog f2 [.ptr i0 0] (prS i0 l σ) fun p s => p = aggD (one σ).1 ∧ s = prS i0 l (one σ).2) (hadv : ∀ σ, Wf l σ → AdvS l σ (one σ).2) (σ : ST) (hw : Wf l σ) : PCalls Tryz.prog 73 [.ptr i0 0, .d (.v (.int .i64 (most : Int))), .fn (.func f1) [.ptr i0 0] [], .fn (.func f2) [.ptr i0 0] []] (prS i0 l σ) fun p s => p = .d (slD (Qge l most more one (l.length + 1) [] σ).1) ∧ s = prS i0 l (Qge l most more one (l.length + 1) [] σ).2 := by
  have HG : ∃ r, r = Qge l most more one (l.length + 1) [] σ := ⟨_, rfl⟩
  obtain ⟨r, hr⟩ := HG
  have HR := Hh hr.symm
  rw [← hr]
  clear hr
  have HW := Hh hw
  clear hw
  unfold slD
  refine pG Tryz.func73 Tryz.ntmps73 ?_
  refine PW_own 9 120 7 (by decide) (by simp [PF.get] <;> rfl) fun g hg => ?_
  refine Qbo (ι := Nat × List Bd × ST) (fun y => Wf l y.2.2 ∧ 0 < y.1 ∧ (y.2.2.bad = 0 → l.length - y.2.2.i + 1 ≤ y.1) ∧ Qge l most more one y.1 y.2.1 y.2.2 = r ∧ y.2.1.length ≤ most) (fun y => [(0, .ptr i0 0), (1, .d (.v (.int .i64 (most : Int)))), (2, .fn (.func f1) [.ptr i0 0] []), (3, .fn (.func f2) [.ptr i0 0] []), (9, .own g (y.2.1.map encD))])
    (fun y => .tok g 120 7 y.2.1.length :: prS i0 l y.2.2) (fun y => y.1) (l.length + 1, [], σ) ⟨HW.out, Nat.succ_pos _, fun _ => by simp only; omega, HR.out, Nat.zero_le _⟩ ?_ ?_ ?_
  · exact sU
  · exact dR
  · rintro ⟨m, acc, τ⟩ ⟨hw, hm0, hm, hr, hacc⟩
    simp only at hw hm0 hm hr hacc ⊢
    obtain ⟨m, rfl⟩ : ∃ k, m = k + 1 := ⟨m - 1, by omega⟩
    have b3 : τ.i ≤ 150000 := Nat.le_trans (hw.le hl) (by decide)
    have B0 := Hh (hmo τ hw)
    have B1 := Hh (Qcn i0 l τ hl.len hl.pos b3)
    simp only [Qge] at hr
    by_cases hz : τ.bad = 0
    · cases hbg : more τ with
      | true =>
        rw [if_pos ⟨hz, hbg⟩] at hr
        by_cases h24 : most ≤ acc.length
        · rw [if_pos h24] at hr
          have hc24 : (most : Int) ≤ (acc.length : Int) := by omega
          have B2 := Hh (Qgt i0 l τ 2 (tkg l τ.i).at_)
          have HR2 := Hh hr
          clear hr hm
          unfold prS
          refine go_ ?_
          refine Qhy 1 1 (B0.out) ?_ (hca1)
          rintro _ _ ⟨rfl, rfl⟩
          refine go_ ?_
          refine Rd 1 1 (B1.out) ?_
          rintro _ _ ⟨rfl, rfl⟩
          refine go_ ?_
          refine Rd 1 1 (B2.out) ?_
          rintro _ _ ⟨rfl, rfl⟩
          refine go_ ?_
          refine rS (st' := prS i0 l (Qav 2 (tkg l τ.i).at_ τ)) Tryz.results73 ?_
          exact ⟨by rw [← HR2.out]; rfl, by rw [← HR2.out]; rfl⟩
        · rw [if_neg h24] at hr
          have hc24 : ¬ (most : Int) ≤ (acc.length : Int) := by omega
          have hA := hadv τ hw
          have c2 := hon τ hw
          have HA := Hh hA
          have HM := Hh hm
          have HR2 := Hh hr
          clear hr hm hA
          generalize (one τ).1 = X at *
          generalize (one τ).2 = τ2 at *
          simp only [aggD, Jj, Jg, List.map_cons, List.map_nil] at c2
          have C2 := Hh c2
          clear c2
          unfold prS
          refine go_ ?_
          refine Qhy 1 1 (B0.out) ?_ (hca1)
          rintro _ _ ⟨rfl, rfl⟩
          refine go_ ?_
          refine Qhy 1 1 (C2.out) ?_ (hca2)
          rintro _ _ ⟨rfl, rfl⟩
          refine go_ ?_
          refine Qbg ?_
          refine Qdl (acc.length + 1) ?_ ?_ ?_ ?_
          · simp
          · exact Qec fun _ => Qgf _
          · exact Qed rfl
          refine go_ ?_
          refine ⟨(m, acc ++ [X], τ2), ⟨HA.out.1, ?_, fun hb => ?_, HR2.out, by simp only [List.length_append, List.length_cons, List.length_nil]; omega⟩, by simp only; omega, ?_, ?_⟩
          · have h1 := HM.out hz
            have h2 := hw
            unfold Wf at h2
            simp only
            omega
          · have h1 := HM.out hz
            have h2 := (HA.out.2 hb).2
            have h3 := HA.out.1
            unfold Wf at h3
            simp only
            omega
          · refine Jr (by simp [PF.get] <;> rfl) rfl ?_
            refine Jr (by simp [PF.get] <;> rfl) rfl ?_
            refine Jr (by simp [PF.get] <;> rfl) rfl ?_
            refine Jr (by simp [PF.get] <;> rfl) rfl ?_
            refine Jr (by simp [PF.get] <;> rfl) (by simp only [List.map_append, List.map_cons, List.map_nil, Jj X]) ?_
            exact sU
          · simp only [List.length_append, List.length_cons, List.length_nil, Nat.zero_add]
            exact dR
      | false =>
        rw [if_neg (by rw [hbg]; simp)] at hr
        have HR2 := Hh hr
        clear hr hm
        unfold prS
        refine go_ ?_
        refine Qhy 1 1 (B0.out) ?_ (hca1)
        rintro _ _ ⟨rfl, rfl⟩
        refine go_ ?_
        refine rS (st' := prS i0 l τ) Tryz.results73 ?_
        exact ⟨by rw [← HR2.out]; rfl, by rw [← HR2.out]; rfl⟩
    · rw [if_neg (by simp [hz])] at hr
      have HR2 := Hh hr
      clear hr hm
      unfold prS
      refine go_ ?_
      refine rS (st' := prS i0 l τ) Tryz.results73 ?_
      exact ⟨by rw [← HR2.out]; rfl, by rw [← HR2.out]; rfl⟩
theorem kind_k {l : List Tk} {σ : ST} (h : ¬ Qep l σ = 0) : (tkg l σ.i).kind ≠ 5 := by
 unfold Qep at h
 split at h
 ·exact Qbz ‹_›
 ·split at h
  ·exact Qbz ‹_›
  ·split at h
   ·exact Qbz ‹_›
   ·exact absurd rfl h
theorem decl_0 {l : List Tk} {σ : ST} (hk : Qep l σ = 0) : Qgc l σ = (⟨0, (tkg l σ.i).at_, ⟨#[]⟩, [], zNd, [], []⟩, Qav 1 (tkg l σ.i).at_ σ) := by
 simp only [Qgc, hk, if_true]
theorem decl_3 {l : List Tk} {σ : ST} (hk : Qep l σ = 3) : Qgc l σ = (⟨3, (tkg l σ.i).at_, (Qam l (incS σ)).1, [], (Qbj l (Qcb l) (Qag l sCol (Qam l (incS σ)).2)).1, [], (Qfw l (l.length + 1) [] (Qag l sBra (Qbj l (Qcb l) (Qag l sCol (Qam l (incS σ)).2)).2)).1⟩, Qag l sKet (Qfw l (l.length + 1) [] (Qag l sBra (Qbj l (Qcb l) (Qag l sCol (Qam l (incS σ)).2)).2)).2) := by
 simp only [Qgc, hk]
 rfl
def teleS (l : List Tk) (σ : ST) : List Bd × ST := Qge l 24 (Qja l) (bindS l) (l.length + 1) [] σ
def consS (l : List Tk) (σ : ST) : List Bd × ST := Qge l 16 (openS l) (lineS l) (l.length + 1) [] σ
theorem decl_1 {l : List Tk} {σ : ST} (h0 : ¬ Qep l σ = 0) (h3 : ¬ Qep l σ = 3) : Qgc l σ = (⟨Qep l σ, (tkg l σ.i).at_, (Qam l (incS σ)).1, (teleS l (Qam l (incS σ)).2).1, (Qbj l (Qcb l) (Qag l sCol (teleS l (Qam l (incS σ)).2).2)).1, (consS l (Qag l sBra (Qbj l (Qcb l) (Qag l sCol (teleS l (Qam l (incS σ)).2).2)).2)).1, []⟩, Qag l sKet (consS l (Qag l sBra (Qbj l (Qcb l) (Qag l sCol (teleS l (Qam l (incS σ)).2).2)).2)).2) := by
 simp only [Qgc, if_neg h0, if_neg h3]
 rfl
section
variable {l : List Tk} (hl : TkOk l)
include hl
theorem tele_adv {σ : ST} (h : Wf l σ) : Adv l σ (teleS l σ).2 := list_adv hl (fun _ h => bind_adv hl h) _ _ _ h
theorem cons_adv {σ : ST} (h : Wf l σ) : Adv l σ (consS l σ).2 := list_adv hl (fun _ h => line_adv hl h) _ _ _ h
theorem decl_adv {σ : ST} (h : Wf l σ) : AdvS l σ (Qgc l σ).2 := by
 by_cases h0 : Qep l σ = 0
 ·rw [decl_0 h0]
  exact Qen hl 1 _ (by decide) h
 ·have a0 := Qbh hl (kind_k h0)
  have a1 := a0.trans (Qer hl a0.1).adv
  by_cases h3 : Qep l σ = 3
  ·rw [decl_3 h3]
   have a3 := a1.trans (Qap hl sCol a1.1).adv
   have a4 := a3.trans (Qfk hl a3.1)
   have a5 := a4.trans (Qap hl sBra a4.1).adv
   have a6 := a5.trans (rows_adv hl (l.length + 1) [] _ a5.1)
   exact a6.trans (Qap hl sKet a6.1).adv
  ·rw [decl_1 h0 h3]
   have a2 := a1.trans (tele_adv hl a1.1)
   have a3 := a2.trans (Qap hl sCol a2.1).adv
   have a4 := a3.trans (Qfk hl a3.1)
   have a5 := a4.trans (Qap hl sBra a4.1).adv
   have a6 := a5.trans (cons_adv hl a5.1)
   exact a6.trans (Qap hl sKet a6.1).adv
end
theorem tele_p {l : List Tk} (hl : TkOk l) (i0 : Nat) (σ : ST) (hw : Wf l σ) : PCalls Tryz.prog 73 [.ptr i0 0, .d (.v (.int .i64 24)), .fn (.func 74) [.ptr i0 0] [], .fn (.func 75) [.ptr i0 0] []] (prS i0 l σ) fun p s => p = .d (slD (teleS l σ).1) ∧ s = prS i0 l (teleS l σ).2 :=
 list_p hl i0 24 74 75 (by decide) (Qja l) (bindS l) rfl rfl (fun σ h => paren0_p hl i0 σ h) (fun σ h => bind_p hl i0 σ h) (fun σ h => bind_adv hl h) σ hw
theorem cons_p {l : List Tk} (hl : TkOk l) (i0 : Nat) (σ : ST) (hw : Wf l σ) : PCalls Tryz.prog 73 [.ptr i0 0, .d (.v (.int .i64 16)), .fn (.func 78) [.ptr i0 0] [], .fn (.func 79) [.ptr i0 0] []] (prS i0 l σ) fun p s => p = .d (slD (consS l σ).1) ∧ s = prS i0 l (consS l σ).2 :=
 list_p hl i0 16 78 79 (by decide) (openS l) (lineS l) rfl rfl (fun σ h => open_p hl i0 σ h) (fun σ h => line_p' hl i0 σ h) (fun σ h => line_adv hl h) σ hw
theorem decl_p' {l : List Tk} (hl : TkOk l) (i0 : Nat) (σ : ST) (hw : Wf l σ) : PCalls Tryz.prog 44 [.ptr i0 0] (prS i0 l σ) fun p s => p = aggD (Qgc l σ).1 ∧ s = prS i0 l (Qgc l σ).2 := by
 have b1 : σ.i ≤ 150000 := Nat.le_trans (hw.le hl) (by decide)
 have ck := Hh (kind_p hl i0 σ hw)
 have ct := Hh (Qcn i0 l σ hl.len hl.pos b1)
 by_cases h0 : Qep l σ = 0
 ·rw [decl_0 h0]
  have cf := Qgt i0 l σ 1 (tkg l σ.i).at_
  rw [h0] at ck
  clear h0
  generalize (tkg l σ.i).at_ = at0 at *
  generalize Qav 1 at0 σ = σ1 at *
  unfold zNd
  simp only [aggD, Ji, List.map_cons, List.map_nil, Nd.kind, Nd.at, Nd.name, Nd.num, Nd.sub]
  have CF := Hh cf
  clear cf
  refine pG Tryz.func44 Tryz.ntmps44 ?_
  refine Jd ?_
  intro i1 hi1
  simp only [prS, List.cons_append, List.nil_append, List.append_nil, List.drop_succ_cons, List.drop_zero, List.drop_nil, Rh, Rg, Rf, Ja] at hi1
  refine go_ ?_
  refine Rd 1 1 (ck.out) ?_
  rintro _ _ ⟨rfl, rfl⟩
  refine go_ ?_
  refine Rd 1 1 (ct.out) ?_
  rintro _ _ ⟨rfl, rfl⟩
  refine go_ ?_
  refine Jd ?_
  intro i2 hi2
  simp only [prS, List.cons_append, List.nil_append, List.append_nil, List.drop_succ_cons, List.drop_zero, List.drop_nil, Rh, Rg, Rf, Ja] at hi2
  refine go_ ?_
  refine Qaa ?_
  refine Rd 2 1 (CF.out) ?_
  rintro _ _ ⟨rfl, rfl⟩
  refine go_ ?_
  refine Qaa ?_
  refine rS (st' := prS i0 l σ1) Tryz.results44 ?_
  exact ⟨rfl, rfl⟩
 ·have a0 := Qbh hl (kind_k h0)
  have a1 := a0.trans (Qer hl a0.1).adv
  have cn := name_p i0 l (incS σ) hl.len hl.pos (Nat.le_trans (a0.1.le hl) (by decide))
  have hin := Qcr b1
  by_cases h3 : Qep l σ = 3
  ·rw [decl_3 h3]
   have a3 := a1.trans (Qap hl sCol a1.1).adv
   have a4 := a3.trans (Qfk hl a3.1)
   have a5 := a4.trans (Qap hl sBra a4.1).adv
   have a6 := a5.trans (rows_adv hl (l.length + 1) [] _ a5.1)
   have c1 := Qcq i0 l _ sCol hl.len hl.pos (Nat.le_trans (a1.1.le hl) (by decide))
   have c2 := Qir hl i0 _ a3.1
   have c3 := Qcq i0 l _ sBra hl.len hl.pos (Nat.le_trans (a4.1.le hl) (by decide))
   have c4 := rows_p hl i0 _ a5.1
   have c5 := Qcq i0 l _ sKet hl.len hl.pos (Nat.le_trans (a6.1.le hl) (by decide))
   rw [h3] at ck
   clear h0 h3 a0 a1 a3 a4 a5 a6 hw
   generalize (tkg l σ.i).at_ = at0 at *
   obtain ⟨i, a, b⟩ := σ
   simp only at hin b1
   generalize (Qam l (incS ⟨i, a, b⟩)).1 = x at *
   generalize (Qam l (incS ⟨i, a, b⟩)).2 = σ1 at *
   generalize Qag l sCol σ1 = σ2 at *
   generalize (Qbj l (Qcb l) σ2).1 = A at *
   generalize (Qbj l (Qcb l) σ2).2 = σ3 at *
   generalize Qag l sBra σ3 = σ4 at *
   generalize (Qfw l (l.length + 1) [] σ4).1 = R at *
   generalize (Qfw l (l.length + 1) [] σ4).2 = σ5 at *
   generalize Qag l sKet σ5 = σ6 at *
   unfold sCol at c1
   unfold sBra at c3
   unfold sKet at c5
   unfold slD at c4
   simp only [aggD, Jg, Ji, List.map_cons, List.map_nil] at c2 ⊢
   have CN := Hh cn
   have C1 := Hh c1
   have C2 := Hh c2
   have C3 := Hh c3
   have C4 := Hh c4
   have C5 := Hh c5
   clear cn c1 c2 c3 c4 c5
   refine pG Tryz.func44 Tryz.ntmps44 ?_
   refine Jd ?_
   intro i1 hi1
   simp only [prS, List.cons_append, List.nil_append, List.append_nil, List.drop_succ_cons, List.drop_zero, List.drop_nil, Rh, Rg, Rf, Ja] at hi1
   refine go_ ?_
   refine Rd 1 1 (ck.out) ?_
   rintro _ _ ⟨rfl, rfl⟩
   refine go_ ?_
   refine Rd 1 1 (ct.out) ?_
   rintro _ _ ⟨rfl, rfl⟩
   refine go_ ?_
   refine Jd ?_
   intro i2 hi2
   simp only [prS, List.cons_append, List.nil_append, List.append_nil, List.drop_succ_cons, List.drop_zero, List.drop_nil, Rh, Rg, Rf, Ja] at hi2
   refine go_ ?_
   refine Rc ?_
   unfold prS
   refine go_ ?_
   refine Qaa ?_
   refine Rd 2 1 (CN.out) ?_
   rintro _ _ ⟨rfl, rfl⟩
   refine go_ ?_
   refine Qaa ?_
   refine Rd 2 1 (C1.out) ?_
   rintro _ _ ⟨rfl, rfl⟩
   refine go_ ?_
   refine Rd 2 1 (C2.out) ?_
   rintro _ _ ⟨rfl, rfl⟩
   refine go_ ?_
   refine Qaa ?_
   refine Rd 2 1 (C3.out) ?_
   rintro _ _ ⟨rfl, rfl⟩
   refine go_ ?_
   refine Rd 2 1 (C4.out) ?_
   rintro _ _ ⟨rfl, rfl⟩
   refine go_ ?_
   refine Qaa ?_
   refine Rd 2 1 (C5.out) ?_
   rintro _ _ ⟨rfl, rfl⟩
   refine go_ ?_
   refine Qaa ?_
   refine rS (st' := prS i0 l σ6) Tryz.results44 ?_
   exact ⟨rfl, rfl⟩
  ·rw [decl_1 h0 h3]
   have a2 := a1.trans (tele_adv hl a1.1)
   have a3 := a2.trans (Qap hl sCol a2.1).adv
   have a4 := a3.trans (Qfk hl a3.1)
   have a5 := a4.trans (Qap hl sBra a4.1).adv
   have a6 := a5.trans (cons_adv hl a5.1)
   have c0 := tele_p hl i0 _ a1.1
   have c1 := Qcq i0 l _ sCol hl.len hl.pos (Nat.le_trans (a2.1.le hl) (by decide))
   have c2 := Qir hl i0 _ a3.1
   have c3 := Qcq i0 l _ sBra hl.len hl.pos (Nat.le_trans (a4.1.le hl) (by decide))
   have c4 := cons_p hl i0 _ a5.1
   have c5 := Qcq i0 l _ sKet hl.len hl.pos (Nat.le_trans (a6.1.le hl) (by decide))
   clear a0 a1 a2 a3 a4 a5 a6 hw
   generalize Qep l σ = k at *
   generalize (tkg l σ.i).at_ = at0 at *
   obtain ⟨i, a, b⟩ := σ
   simp only at hin b1
   generalize (Qam l (incS ⟨i, a, b⟩)).1 = x at *
   generalize (Qam l (incS ⟨i, a, b⟩)).2 = σ0 at *
   generalize (teleS l σ0).1 = T at *
   generalize (teleS l σ0).2 = σ1 at *
   generalize Qag l sCol σ1 = σ2 at *
   generalize (Qbj l (Qcb l) σ2).1 = A at *
   generalize (Qbj l (Qcb l) σ2).2 = σ3 at *
   generalize Qag l sBra σ3 = σ4 at *
   generalize (consS l σ4).1 = R at *
   generalize (consS l σ4).2 = σ5 at *
   generalize Qag l sKet σ5 = σ6 at *
   unfold sCol at c1
   unfold sBra at c3
   unfold sKet at c5
   unfold slD at c4 c0
   simp only [aggD, Jg, Ji, List.map_cons, List.map_nil] at c2 ⊢
   have CN := Hh cn
   have C0 := Hh c0
   have C1 := Hh c1
   have C2 := Hh c2
   have C3 := Hh c3
   have C4 := Hh c4
   have C5 := Hh c5
   clear cn c0 c1 c2 c3 c4 c5
   refine pG Tryz.func44 Tryz.ntmps44 ?_
   refine Jd ?_
   intro i1 hi1
   simp only [prS, List.cons_append, List.nil_append, List.append_nil, List.drop_succ_cons, List.drop_zero, List.drop_nil, Rh, Rg, Rf, Ja] at hi1
   refine go_ ?_
   refine Rd 1 1 (ck.out) ?_
   rintro _ _ ⟨rfl, rfl⟩
   refine go_ ?_
   refine Rd 1 1 (ct.out) ?_
   rintro _ _ ⟨rfl, rfl⟩
   refine go_ ?_
   refine Jd ?_
   intro i2 hi2
   simp only [prS, List.cons_append, List.nil_append, List.append_nil, List.drop_succ_cons, List.drop_zero, List.drop_nil, Rh, Rg, Rf, Ja] at hi2
   refine go_ ?_
   refine Rc ?_
   unfold prS
   refine go_ ?_
   refine Qaa ?_
   refine Rd 2 1 (CN.out) ?_
   rintro _ _ ⟨rfl, rfl⟩
   refine go_ ?_
   refine Qaa ?_
   refine Qgb ?_
   refine go_ ?_
   refine Qgb ?_
   refine go_ ?_
   refine Rd 2 1 (C0.out) ?_
   rintro _ _ ⟨rfl, rfl⟩
   refine go_ ?_
   refine Qaa ?_
   refine Rd 2 1 (C1.out) ?_
   rintro _ _ ⟨rfl, rfl⟩
   refine go_ ?_
   refine Rd 2 1 (C2.out) ?_
   rintro _ _ ⟨rfl, rfl⟩
   refine go_ ?_
   refine Qaa ?_
   refine Rd 2 1 (C3.out) ?_
   rintro _ _ ⟨rfl, rfl⟩
   refine go_ ?_
   refine Qgb ?_
   refine go_ ?_
   refine Qgb ?_
   refine go_ ?_
   refine Rd 2 1 (C4.out) ?_
   rintro _ _ ⟨rfl, rfl⟩
   refine go_ ?_
   refine Qaa ?_
   refine Rd 2 1 (C5.out) ?_
   rintro _ _ ⟨rfl, rfl⟩
   refine go_ ?_
   refine Qaa ?_
   refine rS (st' := prS i0 l σ6) Tryz.results44 ?_
   exact ⟨rfl, rfl⟩
theorem file_p (s : ByteArray) : PCalls Tryz.prog 19 [.d (.v (.string s))] [] fun p st => p = .tup [.d (slD (fileA s).1), .d (.v (.int .i64 (fileA s).2.1)), .d (.v (.int .i64 (fileA s).2.2))] ∧ st = [] := by
 have hl := Qjc s
 have hw0 := startW s
 have H0 := Hh (start_p s)
 have HA := Hh (show fileA s = if (fileS (Qaz s) ((Qaz s).length + 1) [] (Qca s)).2.bad = 0 then ((fileS (Qaz s) ((Qaz s).length + 1) [] (Qca s)).1, (s.size : Int), 0) else ([], (fileS (Qaz s) ((Qaz s).length + 1) [] (Qca s)).2.at_, (fileS (Qaz s) ((Qaz s).length + 1) [] (Qca s)).2.bad) from rfl)
 generalize Qca s = σ at *
 generalize Qaz s = l at *
 have HG : ∃ r, r = fileS l (l.length + 1) [] σ := ⟨_, rfl⟩
 obtain ⟨r, hr⟩ := HG
 have HR := Hh hr.symm
 rw [← hr] at HA
 clear hr
 rw [HA.out]
 clear HA
 have HW := Hh hw0
 clear hw0
 unfold slD
 refine pG Tryz.func19 Tryz.ntmps19 ?_
 refine Rd 0 0 (H0.out) ?_
 rintro _ _ ⟨i0, rfl, rfl⟩
 refine Qq ?_
 refine Qh ?_
 refine Qj ?_
 refine go_ ?_
 refine PW_own 6 40 11 (by decide) (by simp [PF.get] <;> rfl) fun g hg => ?_
 refine Qbo (ι := Nat × List Dc × ST) (fun y => Wf l y.2.2 ∧ 0 < y.1 ∧ (y.2.2.bad = 0 → l.length - y.2.2.i + 1 ≤ y.1) ∧ fileS l y.1 y.2.1 y.2.2 = r ∧ y.2.1.length + y.1 ≤ l.length + 1) (fun y => [(0, .d (.v (.string s))), (5, .ptr i0 0), (6, .own g (y.2.1.map encD))])
  (fun y => .tok g 40 11 y.2.1.length :: prS i0 l y.2.2) (fun y => y.1) (l.length + 1, [], σ) ⟨HW.out, Nat.succ_pos _, fun _ => by simp only; omega, HR.out, by simp⟩ ?_ ?_ ?_
 ·exact sU
 ·exact dR
 ·rintro ⟨m, acc, τ⟩ ⟨hw, hm0, hm, hr, hacc⟩
  simp only at hw hm0 hm hr hacc ⊢
  obtain ⟨m, rfl⟩ : ∃ k, m = k + 1 := ⟨m - 1, by omega⟩
  have b3 : τ.i ≤ 150000 := Nat.le_trans (hw.le hl) (by decide)
  have b4 := hl.len
  have B1 := Hh (Qcn i0 l τ hl.len hl.pos b3)
  simp only [fileS] at hr
  by_cases hz : τ.bad = 0
  ·by_cases hk : (tkg l τ.i).kind = 5
   ·rw [if_neg (fun h => h.2 hk)] at hr
    have HR2 := Hh hr
    clear hr hm
    have hk5 := hk
    rw [← HR2.out]
    simp only
    rw [if_pos hz]
    generalize tkg l τ.i = t at *
    unfold prS
    refine go_ ?_
    refine Rd 1 1 (B1.out) ?_
    rintro _ _ ⟨rfl, rfl⟩
    unfold prS
    refine go_ ?_
    refine rT Tryz.results19 ?_
    exact ⟨rfl, rfl⟩
   ·rw [if_pos ⟨hz, hk⟩] at hr
    have hA := decl_adv hl hw
    have c2 := decl_p' hl i0 τ hw
    have HA := Hh hA
    have HM := Hh hm
    have HR2 := Hh hr
    clear hr hm hA
    generalize (Qgc l τ).1 = X at *
    generalize (Qgc l τ).2 = τ2 at *
    simp only [aggD, Ji, List.map_cons, List.map_nil] at c2
    have C2 := Hh c2
    clear c2
    unfold prS
    refine go_ ?_
    refine Rd 1 1 (B1.out) ?_
    rintro _ _ ⟨rfl, rfl⟩
    refine go_ ?_
    refine Rd 1 1 (C2.out) ?_
    rintro _ _ ⟨rfl, rfl⟩
    refine go_ ?_
    refine Qbg ?_
    refine Qdl (acc.length + 1) ?_ ?_ ?_ ?_
    ·simp
    ·exact Qec fun _ => Qgf _
    ·exact Qed rfl
    refine go_ ?_
    refine ⟨(m, acc ++ [X], τ2), ⟨HA.out.1, ?_, fun hb => ?_, HR2.out, by simp only [List.length_append, List.length_cons, List.length_nil]; omega⟩, by simp only; omega, ?_, ?_⟩
    ·have h1 := HM.out hz
     have h2 := hw
     unfold Wf at h2
     simp only
     omega
    ·have h1 := HM.out hz
     have h2 := (HA.out.2 hb).2
     have h3 := HA.out.1
     unfold Wf at h3
     simp only
     omega
    ·refine Jr (by simp [PF.get] <;> rfl) rfl ?_
     refine Jr (by simp [PF.get] <;> rfl) rfl ?_
     refine Jr (by simp [PF.get] <;> rfl) (by simp only [List.map_append, List.map_cons, List.map_nil, Ji X]) ?_
     exact sU
    ·simp only [List.length_append, List.length_cons, List.length_nil, Nat.zero_add]
     exact dR
  ·rw [if_neg (fun h => hz h.1)] at hr
   have HR2 := Hh hr
   clear hr hm
   rw [← HR2.out]
   simp only
   rw [if_neg hz]
   unfold prS
   refine go_ ?_
   refine Qar [(0, .a), (1, .a), (2, .a), (3, .b), (4, .a), (5, .a), (6, .a), (7, .b), (8, .a), (9, .a), (10, .a)] (by kernel_rfl) (by rfl) (by kernel_rfl) ?_
   refine go_ ?_
   refine rT Tryz.results19 ?_
   exact ⟨rfl, rfl⟩
def aw5T : ByteArray := ⟨(List.append [100, 97, 116, 97, 32, 78, 32, 58, 32, 83, 101, 116, 32, 123, 32, 122, 32, 58, 32, 78, 59, 32, 115, 32, 58, 32, 78, 32, 45, 62, 32, 78, 59, 32, 125, 32] [100, 101, 102, 32, 112, 32, 58, 32, 78, 32, 45, 62, 32, 78, 32, 123, 32, 122, 32, 61, 32, 122, 59, 32, 40, 115, 32, 110, 41, 32, 61, 32, 110, 59, 32, 125]).toArray⟩
def aw5B (x : List Dc × Int × Int) : Bool :=
  x.2.2 == 0 && (match x.1 with
  | [d0, d1] => d0.cons.length == 2 && (match d1.rows with
    | [_, r1] => (match r1.pats with
      | [p0] => p0.kind == 8
      | _ => false)
    | _ => false)
  | _ => false)
theorem aw5B_ok : aw5B (fileA aw5T) = true := by decide +kernel
theorem aw5_get {x : List Dc × Int × Int} (h : aw5B x = true) : x.2.2 = 0 ∧ ∃ d0 d1 r0 r1 p0, x.1 = [d0, d1] ∧ d0.cons.length = 2 ∧ d1.rows = [r0, r1] ∧ r1.pats = [p0] ∧ p0.kind = 8 := by
 unfold aw5B at h
 rw [Bool.and_eq_true] at h
 obtain ⟨h1, h2⟩ := h
 split at h2
 ·rename_i d0 d1 e1
  rw [Bool.and_eq_true] at h2
  obtain ⟨h2, h3⟩ := h2
  split at h3
  ·rename_i r0 r1 e2
   split at h3
   ·rename_i p0 e3
    exact ⟨by simpa using h1, d0, d1, r0, r1, p0, e1, by simpa using h2, e2, e3, by simpa using h3⟩
   ·cases h3
  ·cases h3
 ·cases h2
theorem awake5_p : PCalls Tryz.prog 5 [] [] fun p st => p = .d (.v (.bool true)) ∧ st = [] := by
 have h0 := file_p aw5T
 obtain ⟨h1, d0, d1, r0, r1, p0, e1, e2, e3, e4, e5⟩ := aw5_get aw5B_ok
 rw [e1, h1] at h0
 generalize (fileA aw5T).2.1 = z at h0
 obtain ⟨k0, a0, n0, t0, ty0, cs0, rw0⟩ := d0
 obtain ⟨k1, a1, n1, t1, ty1, cs1, rw1⟩ := d1
 obtain ⟨ra, ps, hs, bd⟩ := r1
 simp only at e2 e3 e4
 subst e3 e4
 obtain ⟨pk, pa, pn, pm, psb⟩ := p0
 simp only [Nd.kind] at e5
 subst e5
 match cs0, e2 with
 | [c0, c1], _ =>
 simp only [aggD, slD, Ji, Jh, Jg, Nd.kind, Nd.at, Nd.name, Nd.num, Nd.sub, List.map_cons, List.map_nil] at h0
 have H0 := Hh h0
 clear h0 e1 h1 e2
 unfold aw5T at H0
 refine pG Tryz.func5 Tryz.ntmps5 ?_
 refine Qab (H0.out) ?_
 refine rT Tryz.results5 ?_
 exact ⟨rfl, rfl⟩
end Go.Proofs.YtahhgpafjiljfaaGreat
