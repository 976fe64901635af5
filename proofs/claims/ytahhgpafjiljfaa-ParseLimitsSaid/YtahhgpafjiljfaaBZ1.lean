import Derived.Test.YtahhgpafjiljfaaBZ
import Derived.Test.YtahhgpafjiljfaaBA1
set_option linter.unusedSimpArgs false
set_option linter.unusedVariables false
namespace Go.Proofs.Ytahhgpafjiljfaa
open Go.RowKit
set_option maxRecDepth 100000
theorem pattern_p (i0 : Nat) (l : List Tk) (σ : ST) (hl : l.length ≤ 100000) (h0 : 0 < l.length) (hi : σ.i ≤ 150000) : PCalls Try.prog 47 [.ptr i0 0] (prS i0 l σ) fun p st => p = .d (.v (.bool (patternS l σ))) ∧ st = prS i0 l σ := by
  have H1 := Lib.hid (tok0_p i0 l σ hl h0 hi)
  have H2 := Lib.hid (is_p i0 l σ 0 0 rfl sDot hl h0 (by omega) (by decide))
  have H3 := Lib.hid (is_p i0 l σ 0 0 rfl sPar hl h0 (by omega) (by decide))
  have HB := Lib.hid (show patternS l σ = ((tkg l σ.i).kind == 1 || isS l σ 0 sDot || isS l σ 0 sPar) from rfl)
  unfold sPar sDot at *
  generalize tkg l σ.i = t at *
  refine PCalls.enter Try.func47 rfl Try.ntmps47 (by simp) ?_
  simp only [argsF]
  repeat (first | (with_reducible first | refine Qa ?_ | refine Qb ?_ | refine Qc ?_ | refine Qd ?_ | refine Qe ?_ | refine Qf ?_ | refine Qg ?_ | refine Qh ?_ | refine Qi ?_ | refine Qj ?_ | refine Qk ?_ | refine Ql ?_ | refine Qm ?_ | refine Qn ?_ | refine Qo ?_ | refine Qp rfl ?_) | (first | refine Qq ?_ | refine Qr ?_) | (first | refine Qs ?_ | refine Qt ?_ | refine Qu ?_) | (first | refine Qv ?_ | refine Qw ?_) | (first | refine Qx ?_ | refine Qy ?_) | (first | refine Qz ?_ | refine Ra ?_ | refine Rb ?_))
  refine Re (H1.out) ?_
  rintro _ _ ⟨rfl, rfl⟩
  by_cases h1 : t.kind = 1
  · repeat (first | (with_reducible first | refine Qa ?_ | refine Qb ?_ | refine Qc ?_ | refine Qd ?_ | refine Qe ?_ | refine Qf ?_ | refine Qg ?_ | refine Qh ?_ | refine Qi ?_ | refine Qj ?_ | refine Qk ?_ | refine Ql ?_ | refine Qm ?_ | refine Qn ?_ | refine Qo ?_ | refine Qp rfl ?_) | (first | refine Qq ?_ | refine Qr ?_) | (first | refine Qs ?_ | refine Qt ?_ | refine Qu ?_) | (first | refine Qv ?_ | refine Qw ?_) | (first | refine Qx ?_ | refine Qy ?_) | (first | refine Qz ?_ | refine Ra ?_ | refine Rb ?_))
    refine retP_ok (st' := prS i0 l σ) (by simp) (by simp only [Try.results47]; rfl) (by simp [resP, St.box?, PF.get, loadB, TyK.agg, *]; rfl) (by repeat (first | exact List.Sublist.refl _ | exact List.nil_sublist _ | refine List.Sublist.cons_cons _ ?_ | refine List.Sublist.cons _ ?_)) ?_
    exact ⟨by rw [HB.out, h1]; rfl, rfl⟩
  · repeat (first | (with_reducible first | refine Qa ?_ | refine Qb ?_ | refine Qc ?_ | refine Qd ?_ | refine Qe ?_ | refine Qf ?_ | refine Qg ?_ | refine Qh ?_ | refine Qi ?_ | refine Qj ?_ | refine Qk ?_ | refine Ql ?_ | refine Qm ?_ | refine Qn ?_ | refine Qo ?_ | refine Qp rfl ?_) | (first | refine Qq ?_ | refine Qr ?_) | (first | refine Qs ?_ | refine Qt ?_ | refine Qu ?_) | (first | refine Qv ?_ | refine Qw ?_) | (first | refine Qx ?_ | refine Qy ?_) | (first | refine Qz ?_ | refine Ra ?_ | refine Rb ?_))
    refine Re (H2.out) ?_
    rintro _ _ ⟨rfl, rfl⟩
    cases h2 : isS l σ 0 ⟨#[46]⟩ with
    | true =>
      repeat (first | (with_reducible first | refine Qa ?_ | refine Qb ?_ | refine Qc ?_ | refine Qd ?_ | refine Qe ?_ | refine Qf ?_ | refine Qg ?_ | refine Qh ?_ | refine Qi ?_ | refine Qj ?_ | refine Qk ?_ | refine Ql ?_ | refine Qm ?_ | refine Qn ?_ | refine Qo ?_ | refine Qp rfl ?_) | (first | refine Qq ?_ | refine Qr ?_) | (first | refine Qs ?_ | refine Qt ?_ | refine Qu ?_) | (first | refine Qv ?_ | refine Qw ?_) | (first | refine Qx ?_ | refine Qy ?_) | (first | refine Qz ?_ | refine Ra ?_ | refine Rb ?_))
      refine retP_ok (st' := prS i0 l σ) (by simp) (by simp only [Try.results47]; rfl) (by simp [resP, St.box?, PF.get, loadB, TyK.agg, *]; rfl) (by repeat (first | exact List.Sublist.refl _ | exact List.nil_sublist _ | refine List.Sublist.cons_cons _ ?_ | refine List.Sublist.cons _ ?_)) ?_
      exact ⟨by rw [HB.out, h2, show (t.kind == 1) = false by simpa using h1]; rfl, rfl⟩
    | false =>
      repeat (first | (with_reducible first | refine Qa ?_ | refine Qb ?_ | refine Qc ?_ | refine Qd ?_ | refine Qe ?_ | refine Qf ?_ | refine Qg ?_ | refine Qh ?_ | refine Qi ?_ | refine Qj ?_ | refine Qk ?_ | refine Ql ?_ | refine Qm ?_ | refine Qn ?_ | refine Qo ?_ | refine Qp rfl ?_) | (first | refine Qq ?_ | refine Qr ?_) | (first | refine Qs ?_ | refine Qt ?_ | refine Qu ?_) | (first | refine Qv ?_ | refine Qw ?_) | (first | refine Qx ?_ | refine Qy ?_) | (first | refine Qz ?_ | refine Ra ?_ | refine Rb ?_))
      refine Re (H3.out) ?_
      rintro _ _ ⟨rfl, rfl⟩
      repeat (first | (with_reducible first | refine Qa ?_ | refine Qb ?_ | refine Qc ?_ | refine Qd ?_ | refine Qe ?_ | refine Qf ?_ | refine Qg ?_ | refine Qh ?_ | refine Qi ?_ | refine Qj ?_ | refine Qk ?_ | refine Ql ?_ | refine Qm ?_ | refine Qn ?_ | refine Qo ?_ | refine Qp rfl ?_) | (first | refine Qq ?_ | refine Qr ?_) | (first | refine Qs ?_ | refine Qt ?_ | refine Qu ?_) | (first | refine Qv ?_ | refine Qw ?_) | (first | refine Qx ?_ | refine Qy ?_) | (first | refine Qz ?_ | refine Ra ?_ | refine Rb ?_))
      refine retP_ok (st' := prS i0 l σ) (by simp) (by simp only [Try.results47]; rfl) (by simp [resP, St.box?, PF.get, loadB, TyK.agg, *]; rfl) (by repeat (first | exact List.Sublist.refl _ | exact List.nil_sublist _ | refine List.Sublist.cons_cons _ ?_ | refine List.Sublist.cons _ ?_)) ?_
      exact ⟨by rw [HB.out, h2, show (t.kind == 1) = false by simpa using h1]; rfl, rfl⟩
def PatC (l : List Tk) (n : Nat) (σ : ST) : Prop := ∀ i0, PCalls Try.prog 48 [.ptr i0 0] (prS i0 l σ) fun p s => p = aggD (patS l n σ).1 ∧ s = prS i0 l (patS l n σ).2
def ParenC (l : List Tk) (n : Nat) (σ : ST) : Prop := ∀ i0, PCalls Try.prog 85 [.ptr i0 0] (prS i0 l σ) fun p s => p = aggD (parenS l n σ).1 ∧ s = prS i0 l (parenS l n σ).2
theorem atom_full {l : List Tk} (hl : TkOk l) (σ : ST) (hw : Wf l σ) : AtomC l (atomF l) σ :=
  (parse_w hl (atomF l)).2.2.1 σ hw ⟨by unfold atomF; omega, fun _ => by unfold atomF; omega⟩
set_option maxHeartbeats 4000000 in
theorem pat_w {l : List Tk} (hl : TkOk l) (n : Nat) (IP : ∀ σ, Wf l σ → isS l σ 0 sPar = true → σ.bad = 0 → Fu l n 2 σ → ParenC l n σ) (σ : ST) (hw : Wf l σ) (hf : Fu l (n + 1) 3 σ) : PatC l (n + 1) σ := by
  intro i0
  have b1 : σ.i ≤ 150000 := Nat.le_trans (hw.le hl) (by decide)
  have c0 := Lib.hid (tok0_p i0 l σ hl.len hl.pos b1)
  have c1 := Lib.hid (is_p i0 l σ 0 0 rfl sPar hl.len hl.pos (by omega) (by decide))
  have c2 := Lib.hid (is_p i0 l σ 0 0 rfl sDot hl.len hl.pos (by omega) (by decide))
  have c3 := Lib.hid (name_p i0 l σ hl.len hl.pos b1)
  have HT := Lib.hid (show patS l (n + 1) σ = (if σ.bad ≠ 0 then (zNd, σ) else if isS l σ 0 sPar then parenS l n σ else if isS l σ 0 sDot then (.mk 10 (tkg l σ.i).at_ ⟨#[]⟩ 0 [(atomS l (atomF l) (incS σ)).1], (atomS l (atomF l) (incS σ)).2) else if (tkg l σ.i).kind == 1 && (tkg l σ.i).text.toList == [95] then (.mk 7 (tkg l σ.i).at_ ⟨#[]⟩ 0 [], incS σ) else (.mk 6 (tkg l σ.i).at_ (nameS l σ).1 0 [], (nameS l σ).2)) from by simp only [patS])
  have hin := wrap_i b1
  unfold sPar at c1
  unfold sDot at c2
  by_cases hz : σ.bad = 0
  rotate_left
  · rw [if_pos hz] at HT
    rw [HT.out]
    refine PCalls.enter Try.func48 rfl Try.ntmps48 (by simp) ?_
    simp only [argsF]
    repeat (first | (with_reducible first | refine Qa ?_ | refine Qb ?_ | refine Qc ?_ | refine Qd ?_ | refine Qe ?_ | refine Qf ?_ | refine Qg ?_ | refine Qh ?_ | refine Qi ?_ | refine Qj ?_ | refine Qk ?_ | refine Ql ?_ | refine Qm ?_ | refine Qn ?_ | refine Qo ?_ | refine Qp rfl ?_) | (first | refine Qq ?_ | refine Qr ?_) | (first | refine Qs ?_ | refine Qt ?_ | refine Qu ?_) | (first | refine Qv ?_ | refine Qw ?_) | (first | refine Qx ?_ | refine Qy ?_) | (first | refine Qz ?_ | refine Ra ?_ | refine Rb ?_))
    refine POps_alloc_a ?_
    intro i1 hi1
    simp only [prS, List.cons_append, List.nil_append, List.append_nil, List.drop_succ_cons, List.drop_zero, List.drop_nil, St.freshB_box, St.freshB_nil, St.freshB_tok, St.freshB_obj] at hi1
    repeat (first | (with_reducible first | refine Qa ?_ | refine Qb ?_ | refine Qc ?_ | refine Qd ?_ | refine Qe ?_ | refine Qf ?_ | refine Qg ?_ | refine Qh ?_ | refine Qi ?_ | refine Qj ?_ | refine Qk ?_ | refine Ql ?_ | refine Qm ?_ | refine Qn ?_ | refine Qo ?_ | refine Qp rfl ?_) | (first | refine Qq ?_ | refine Qr ?_) | (first | refine Qs ?_ | refine Qt ?_ | refine Qu ?_) | (first | refine Qv ?_ | refine Qw ?_) | (first | refine Qx ?_ | refine Qy ?_) | (first | refine Qz ?_ | refine Ra ?_ | refine Rb ?_))
    refine Rd 1 1 (c0.out) ?_
    rintro _ _ ⟨rfl, rfl⟩
    unfold prS
    repeat (first | (with_reducible first | refine Qa ?_ | refine Qb ?_ | refine Qc ?_ | refine Qd ?_ | refine Qe ?_ | refine Qf ?_ | refine Qg ?_ | refine Qh ?_ | refine Qi ?_ | refine Qj ?_ | refine Qk ?_ | refine Ql ?_ | refine Qm ?_ | refine Qn ?_ | refine Qo ?_ | refine Qp rfl ?_) | (first | refine Qq ?_ | refine Qr ?_) | (first | refine Qs ?_ | refine Qt ?_ | refine Qu ?_) | (first | refine Qv ?_ | refine Qw ?_) | (first | refine Qx ?_ | refine Qy ?_) | (first | refine Qz ?_ | refine Ra ?_ | refine Rb ?_))
    refine Rc ?_
    repeat (first | (with_reducible first | refine Qa ?_ | refine Qb ?_ | refine Qc ?_ | refine Qd ?_ | refine Qe ?_ | refine Qf ?_ | refine Qg ?_ | refine Qh ?_ | refine Qi ?_ | refine Qj ?_ | refine Qk ?_ | refine Ql ?_ | refine Qm ?_ | refine Qn ?_ | refine Qo ?_ | refine Qp rfl ?_) | (first | refine Qq ?_ | refine Qr ?_) | (first | refine Qs ?_ | refine Qt ?_ | refine Qu ?_) | (first | refine Qv ?_ | refine Qw ?_) | (first | refine Qx ?_ | refine Qy ?_) | (first | refine Qz ?_ | refine Ra ?_ | refine Rb ?_))
    refine retP_ok (st' := prS i0 l σ) (by simp) (by simp only [Try.results48]; rfl) (by simp [resP, St.box?, PF.get, loadB, TyK.agg, *]; rfl) (by repeat (first | exact List.Sublist.refl _ | exact List.nil_sublist _ | refine List.Sublist.cons_cons _ ?_ | refine List.Sublist.cons _ ?_)) ?_
    exact ⟨by unfold zNd; rw [agg_mk]; rfl, rfl⟩
  rw [if_neg (by simp [hz])] at HT
  have hn : 0 < n := by
    have := hf.2 hz
    unfold Wf at hw; omega
  generalize htk : tkg l σ.i = t at *
  cases hs : isS l σ 0 sPar with
  | true =>
    rw [hs, if_pos rfl] at HT
    have c4 := IP σ hw hs hz (hf.same hw (Adv.refl hw) hn (by omega)) i0
    unfold sPar at hs
    rw [HT.out]
    clear HT hf IP hin
    obtain ⟨i, a, b⟩ := σ
    simp only at hz b1
    subst hz
    generalize (parenS l n ⟨i, a, 0⟩).1 = A at *
    generalize (parenS l n ⟨i, a, 0⟩).2 = σ1 at *
    simp only [aggD, encD_nd, List.map_cons, List.map_nil] at c4 ⊢
    have C4 := Lib.hid c4
    clear c4
    refine PCalls.enter Try.func48 rfl Try.ntmps48 (by simp) ?_
    simp only [argsF]
    repeat (first | (with_reducible first | refine Qa ?_ | refine Qb ?_ | refine Qc ?_ | refine Qd ?_ | refine Qe ?_ | refine Qf ?_ | refine Qg ?_ | refine Qh ?_ | refine Qi ?_ | refine Qj ?_ | refine Qk ?_ | refine Ql ?_ | refine Qm ?_ | refine Qn ?_ | refine Qo ?_ | refine Qp rfl ?_) | (first | refine Qq ?_ | refine Qr ?_) | (first | refine Qs ?_ | refine Qt ?_ | refine Qu ?_) | (first | refine Qv ?_ | refine Qw ?_) | (first | refine Qx ?_ | refine Qy ?_) | (first | refine Qz ?_ | refine Ra ?_ | refine Rb ?_))
    refine POps_alloc_a ?_
    intro i1 hi1
    simp only [prS, List.cons_append, List.nil_append, List.append_nil, List.drop_succ_cons, List.drop_zero, List.drop_nil, St.freshB_box, St.freshB_nil, St.freshB_tok, St.freshB_obj] at hi1
    repeat (first | (with_reducible first | refine Qa ?_ | refine Qb ?_ | refine Qc ?_ | refine Qd ?_ | refine Qe ?_ | refine Qf ?_ | refine Qg ?_ | refine Qh ?_ | refine Qi ?_ | refine Qj ?_ | refine Qk ?_ | refine Ql ?_ | refine Qm ?_ | refine Qn ?_ | refine Qo ?_ | refine Qp rfl ?_) | (first | refine Qq ?_ | refine Qr ?_) | (first | refine Qs ?_ | refine Qt ?_ | refine Qu ?_) | (first | refine Qv ?_ | refine Qw ?_) | (first | refine Qx ?_ | refine Qy ?_) | (first | refine Qz ?_ | refine Ra ?_ | refine Rb ?_))
    refine Rd 1 1 (c0.out) ?_
    rintro _ _ ⟨rfl, rfl⟩
    unfold prS
    repeat (first | (with_reducible first | refine Qa ?_ | refine Qb ?_ | refine Qc ?_ | refine Qd ?_ | refine Qe ?_ | refine Qf ?_ | refine Qg ?_ | refine Qh ?_ | refine Qi ?_ | refine Qj ?_ | refine Qk ?_ | refine Ql ?_ | refine Qm ?_ | refine Qn ?_ | refine Qo ?_ | refine Qp rfl ?_) | (first | refine Qq ?_ | refine Qr ?_) | (first | refine Qs ?_ | refine Qt ?_ | refine Qu ?_) | (first | refine Qv ?_ | refine Qw ?_) | (first | refine Qx ?_ | refine Qy ?_) | (first | refine Qz ?_ | refine Ra ?_ | refine Rb ?_))
    refine Rd 1 1 (c1.out) ?_
    rintro _ _ ⟨rfl, rfl⟩
    repeat (first | (with_reducible first | refine Qa ?_ | refine Qb ?_ | refine Qc ?_ | refine Qd ?_ | refine Qe ?_ | refine Qf ?_ | refine Qg ?_ | refine Qh ?_ | refine Qi ?_ | refine Qj ?_ | refine Qk ?_ | refine Ql ?_ | refine Qm ?_ | refine Qn ?_ | refine Qo ?_ | refine Qp rfl ?_) | (first | refine Qq ?_ | refine Qr ?_) | (first | refine Qs ?_ | refine Qt ?_ | refine Qu ?_) | (first | refine Qv ?_ | refine Qw ?_) | (first | refine Qx ?_ | refine Qy ?_) | (first | refine Qz ?_ | refine Ra ?_ | refine Rb ?_))
    refine Rd 1 1 (C4.out) ?_
    rintro _ _ ⟨rfl, rfl⟩
    repeat (first | (with_reducible first | refine Qa ?_ | refine Qb ?_ | refine Qc ?_ | refine Qd ?_ | refine Qe ?_ | refine Qf ?_ | refine Qg ?_ | refine Qh ?_ | refine Qi ?_ | refine Qj ?_ | refine Qk ?_ | refine Ql ?_ | refine Qm ?_ | refine Qn ?_ | refine Qo ?_ | refine Qp rfl ?_) | (first | refine Qq ?_ | refine Qr ?_) | (first | refine Qs ?_ | refine Qt ?_ | refine Qu ?_) | (first | refine Qv ?_ | refine Qw ?_) | (first | refine Qx ?_ | refine Qy ?_) | (first | refine Qz ?_ | refine Ra ?_ | refine Rb ?_))
    refine Rc ?_
    repeat (first | (with_reducible first | refine Qa ?_ | refine Qb ?_ | refine Qc ?_ | refine Qd ?_ | refine Qe ?_ | refine Qf ?_ | refine Qg ?_ | refine Qh ?_ | refine Qi ?_ | refine Qj ?_ | refine Qk ?_ | refine Ql ?_ | refine Qm ?_ | refine Qn ?_ | refine Qo ?_ | refine Qp rfl ?_) | (first | refine Qq ?_ | refine Qr ?_) | (first | refine Qs ?_ | refine Qt ?_ | refine Qu ?_) | (first | refine Qv ?_ | refine Qw ?_) | (first | refine Qx ?_ | refine Qy ?_) | (first | refine Qz ?_ | refine Ra ?_ | refine Rb ?_))
    refine retP_ok (st' := prS i0 l σ1) (by simp) (by simp only [Try.results48]; rfl) (by simp [resP, St.box?, PF.get, loadB, TyK.agg, *]; rfl) (by repeat (first | exact List.Sublist.refl _ | exact List.nil_sublist _ | refine List.Sublist.cons_cons _ ?_ | refine List.Sublist.cons _ ?_)) ?_
    exact ⟨rfl, rfl⟩
  | false =>
    rw [hs, if_neg (by decide)] at HT
    unfold sPar at hs
    cases hd : isS l σ 0 sDot with
    | true =>
      rw [hd, if_pos rfl] at HT
      have h1 := inc_adv hl (mark_k hd)
      unfold sDot at hd
      rw [HT.out]
      have c4 := atom_full hl _ h1.1 i0
      clear HT hf IP
      obtain ⟨i, a, b⟩ := σ
      simp only at hz b1 hin
      subst hz
      generalize (atomS l (atomF l) (incS ⟨i, a, 0⟩)).1 = A at *
      generalize (atomS l (atomF l) (incS ⟨i, a, 0⟩)).2 = σ1 at *
      simp only [aggD, encD_nd, List.map_cons, List.map_nil] at c4
      have C4 := Lib.hid c4
      clear c4
      refine PCalls.enter Try.func48 rfl Try.ntmps48 (by simp) ?_
      simp only [argsF]
      repeat (first | (with_reducible first | refine Qa ?_ | refine Qb ?_ | refine Qc ?_ | refine Qd ?_ | refine Qe ?_ | refine Qf ?_ | refine Qg ?_ | refine Qh ?_ | refine Qi ?_ | refine Qj ?_ | refine Qk ?_ | refine Ql ?_ | refine Qm ?_ | refine Qn ?_ | refine Qo ?_ | refine Qp rfl ?_) | (first | refine Qq ?_ | refine Qr ?_) | (first | refine Qs ?_ | refine Qt ?_ | refine Qu ?_) | (first | refine Qv ?_ | refine Qw ?_) | (first | refine Qx ?_ | refine Qy ?_) | (first | refine Qz ?_ | refine Ra ?_ | refine Rb ?_))
      refine POps_alloc_a ?_
      intro i1 hi1
      simp only [prS, List.cons_append, List.nil_append, List.append_nil, List.drop_succ_cons, List.drop_zero, List.drop_nil, St.freshB_box, St.freshB_nil, St.freshB_tok, St.freshB_obj] at hi1
      repeat (first | (with_reducible first | refine Qa ?_ | refine Qb ?_ | refine Qc ?_ | refine Qd ?_ | refine Qe ?_ | refine Qf ?_ | refine Qg ?_ | refine Qh ?_ | refine Qi ?_ | refine Qj ?_ | refine Qk ?_ | refine Ql ?_ | refine Qm ?_ | refine Qn ?_ | refine Qo ?_ | refine Qp rfl ?_) | (first | refine Qq ?_ | refine Qr ?_) | (first | refine Qs ?_ | refine Qt ?_ | refine Qu ?_) | (first | refine Qv ?_ | refine Qw ?_) | (first | refine Qx ?_ | refine Qy ?_) | (first | refine Qz ?_ | refine Ra ?_ | refine Rb ?_))
      refine Rd 1 1 (c0.out) ?_
      rintro _ _ ⟨rfl, rfl⟩
      unfold prS
      repeat (first | (with_reducible first | refine Qa ?_ | refine Qb ?_ | refine Qc ?_ | refine Qd ?_ | refine Qe ?_ | refine Qf ?_ | refine Qg ?_ | refine Qh ?_ | refine Qi ?_ | refine Qj ?_ | refine Qk ?_ | refine Ql ?_ | refine Qm ?_ | refine Qn ?_ | refine Qo ?_ | refine Qp rfl ?_) | (first | refine Qq ?_ | refine Qr ?_) | (first | refine Qs ?_ | refine Qt ?_ | refine Qu ?_) | (first | refine Qv ?_ | refine Qw ?_) | (first | refine Qx ?_ | refine Qy ?_) | (first | refine Qz ?_ | refine Ra ?_ | refine Rb ?_))
      refine Rd 1 1 (c1.out) ?_
      rintro _ _ ⟨rfl, rfl⟩
      repeat (first | (with_reducible first | refine Qa ?_ | refine Qb ?_ | refine Qc ?_ | refine Qd ?_ | refine Qe ?_ | refine Qf ?_ | refine Qg ?_ | refine Qh ?_ | refine Qi ?_ | refine Qj ?_ | refine Qk ?_ | refine Ql ?_ | refine Qm ?_ | refine Qn ?_ | refine Qo ?_ | refine Qp rfl ?_) | (first | refine Qq ?_ | refine Qr ?_) | (first | refine Qs ?_ | refine Qt ?_ | refine Qu ?_) | (first | refine Qv ?_ | refine Qw ?_) | (first | refine Qx ?_ | refine Qy ?_) | (first | refine Qz ?_ | refine Ra ?_ | refine Rb ?_))
      refine Rd 1 1 (c2.out) ?_
      rintro _ _ ⟨rfl, rfl⟩
      unfold prS
      repeat (first | (with_reducible first | refine Qa ?_ | refine Qb ?_ | refine Qc ?_ | refine Qd ?_ | refine Qe ?_ | refine Qf ?_ | refine Qg ?_ | refine Qh ?_ | refine Qi ?_ | refine Qj ?_ | refine Qk ?_ | refine Ql ?_ | refine Qm ?_ | refine Qn ?_ | refine Qo ?_ | refine Qp rfl ?_) | (first | refine Qq ?_ | refine Qr ?_) | (first | refine Qs ?_ | refine Qt ?_ | refine Qu ?_) | (first | refine Qv ?_ | refine Qw ?_) | (first | refine Qx ?_ | refine Qy ?_) | (first | refine Qz ?_ | refine Ra ?_ | refine Rb ?_))
      refine Rc ?_
      repeat (first | (with_reducible first | refine Qa ?_ | refine Qb ?_ | refine Qc ?_ | refine Qd ?_ | refine Qe ?_ | refine Qf ?_ | refine Qg ?_ | refine Qh ?_ | refine Qi ?_ | refine Qj ?_ | refine Qk ?_ | refine Ql ?_ | refine Qm ?_ | refine Qn ?_ | refine Qo ?_ | refine Qp rfl ?_) | (first | refine Qq ?_ | refine Qr ?_) | (first | refine Qs ?_ | refine Qt ?_ | refine Qu ?_) | (first | refine Qv ?_ | refine Qw ?_) | (first | refine Qx ?_ | refine Qy ?_) | (first | refine Qz ?_ | refine Ra ?_ | refine Rb ?_))
      refine Rd 1 1 (C4.out) ?_
      rintro _ _ ⟨rfl, rfl⟩
      repeat (first | (with_reducible first | refine Qa ?_ | refine Qb ?_ | refine Qc ?_ | refine Qd ?_ | refine Qe ?_ | refine Qf ?_ | refine Qg ?_ | refine Qh ?_ | refine Qi ?_ | refine Qj ?_ | refine Qk ?_ | refine Ql ?_ | refine Qm ?_ | refine Qn ?_ | refine Qo ?_ | refine Qp rfl ?_) | (first | refine Qq ?_ | refine Qr ?_) | (first | refine Qs ?_ | refine Qt ?_ | refine Qu ?_) | (first | refine Qv ?_ | refine Qw ?_) | (first | refine Qx ?_ | refine Qy ?_) | (first | refine Qz ?_ | refine Ra ?_ | refine Rb ?_))
      refine POps_bs_a ?_
      repeat (first | (with_reducible first | refine Qa ?_ | refine Qb ?_ | refine Qc ?_ | refine Qd ?_ | refine Qe ?_ | refine Qf ?_ | refine Qg ?_ | refine Qh ?_ | refine Qi ?_ | refine Qj ?_ | refine Qk ?_ | refine Ql ?_ | refine Qm ?_ | refine Qn ?_ | refine Qo ?_ | refine Qp rfl ?_) | (first | refine Qq ?_ | refine Qr ?_) | (first | refine Qs ?_ | refine Qt ?_ | refine Qu ?_) | (first | refine Qv ?_ | refine Qw ?_) | (first | refine Qx ?_ | refine Qy ?_) | (first | refine Qz ?_ | refine Ra ?_ | refine Rb ?_))
      refine Rc ?_
      repeat (first | (with_reducible first | refine Qa ?_ | refine Qb ?_ | refine Qc ?_ | refine Qd ?_ | refine Qe ?_ | refine Qf ?_ | refine Qg ?_ | refine Qh ?_ | refine Qi ?_ | refine Qj ?_ | refine Qk ?_ | refine Ql ?_ | refine Qm ?_ | refine Qn ?_ | refine Qo ?_ | refine Qp rfl ?_) | (first | refine Qq ?_ | refine Qr ?_) | (first | refine Qs ?_ | refine Qt ?_ | refine Qu ?_) | (first | refine Qv ?_ | refine Qw ?_) | (first | refine Qx ?_ | refine Qy ?_) | (first | refine Qz ?_ | refine Ra ?_ | refine Rb ?_))
      refine retP_ok (st' := prS i0 l σ1) (by simp) (by simp only [Try.results48]; rfl) (by simp [resP, St.box?, PF.get, loadB, TyK.agg, *]; rfl) (by repeat (first | exact List.Sublist.refl _ | exact List.nil_sublist _ | refine List.Sublist.cons_cons _ ?_ | refine List.Sublist.cons _ ?_)) ?_
      exact ⟨by rw [agg_mk]; simp only [List.map_cons, List.map_nil, encD_nd]; rfl, rfl⟩
    | false =>
      rw [hd, if_neg (by decide)] at HT
      unfold sDot at hd
      cases hu : (t.kind == 1 && t.text.toList == [95]) with
      | true =>
        rw [hu, if_pos rfl] at HT
        rw [HT.out]
        simp only [Bool.and_eq_true, beq_iff_eq] at hu
        obtain ⟨hu1, hu2⟩ := hu
        clear HT hf IP c3
        obtain ⟨i, a, b⟩ := σ
        simp only at hz b1 hin
        subst hz
        refine PCalls.enter Try.func48 rfl Try.ntmps48 (by simp) ?_
        simp only [argsF]
        repeat (first | (with_reducible first | refine Qa ?_ | refine Qb ?_ | refine Qc ?_ | refine Qd ?_ | refine Qe ?_ | refine Qf ?_ | refine Qg ?_ | refine Qh ?_ | refine Qi ?_ | refine Qj ?_ | refine Qk ?_ | refine Ql ?_ | refine Qm ?_ | refine Qn ?_ | refine Qo ?_ | refine Qp rfl ?_) | (first | refine Qq ?_ | refine Qr ?_) | (first | refine Qs ?_ | refine Qt ?_ | refine Qu ?_) | (first | refine Qv ?_ | refine Qw ?_) | (first | refine Qx ?_ | refine Qy ?_) | (first | refine Qz ?_ | refine Ra ?_ | refine Rb ?_))
        refine POps_alloc_a ?_
        intro i1 hi1
        simp only [prS, List.cons_append, List.nil_append, List.append_nil, List.drop_succ_cons, List.drop_zero, List.drop_nil, St.freshB_box, St.freshB_nil, St.freshB_tok, St.freshB_obj] at hi1
        repeat (first | (with_reducible first | refine Qa ?_ | refine Qb ?_ | refine Qc ?_ | refine Qd ?_ | refine Qe ?_ | refine Qf ?_ | refine Qg ?_ | refine Qh ?_ | refine Qi ?_ | refine Qj ?_ | refine Qk ?_ | refine Ql ?_ | refine Qm ?_ | refine Qn ?_ | refine Qo ?_ | refine Qp rfl ?_) | (first | refine Qq ?_ | refine Qr ?_) | (first | refine Qs ?_ | refine Qt ?_ | refine Qu ?_) | (first | refine Qv ?_ | refine Qw ?_) | (first | refine Qx ?_ | refine Qy ?_) | (first | refine Qz ?_ | refine Ra ?_ | refine Rb ?_))
        refine Rd 1 1 (c0.out) ?_
        rintro _ _ ⟨rfl, rfl⟩
        unfold prS
        repeat (first | (with_reducible first | refine Qa ?_ | refine Qb ?_ | refine Qc ?_ | refine Qd ?_ | refine Qe ?_ | refine Qf ?_ | refine Qg ?_ | refine Qh ?_ | refine Qi ?_ | refine Qj ?_ | refine Qk ?_ | refine Ql ?_ | refine Qm ?_ | refine Qn ?_ | refine Qo ?_ | refine Qp rfl ?_) | (first | refine Qq ?_ | refine Qr ?_) | (first | refine Qs ?_ | refine Qt ?_ | refine Qu ?_) | (first | refine Qv ?_ | refine Qw ?_) | (first | refine Qx ?_ | refine Qy ?_) | (first | refine Qz ?_ | refine Ra ?_ | refine Rb ?_))
        refine Rd 1 1 (c1.out) ?_
        rintro _ _ ⟨rfl, rfl⟩
        repeat (first | (with_reducible first | refine Qa ?_ | refine Qb ?_ | refine Qc ?_ | refine Qd ?_ | refine Qe ?_ | refine Qf ?_ | refine Qg ?_ | refine Qh ?_ | refine Qi ?_ | refine Qj ?_ | refine Qk ?_ | refine Ql ?_ | refine Qm ?_ | refine Qn ?_ | refine Qo ?_ | refine Qp rfl ?_) | (first | refine Qq ?_ | refine Qr ?_) | (first | refine Qs ?_ | refine Qt ?_ | refine Qu ?_) | (first | refine Qv ?_ | refine Qw ?_) | (first | refine Qx ?_ | refine Qy ?_) | (first | refine Qz ?_ | refine Ra ?_ | refine Rb ?_))
        refine Rd 1 1 (c2.out) ?_
        rintro _ _ ⟨rfl, rfl⟩
        repeat (first | (with_reducible first | refine Qa ?_ | refine Qb ?_ | refine Qc ?_ | refine Qd ?_ | refine Qe ?_ | refine Qf ?_ | refine Qg ?_ | refine Qh ?_ | refine Qi ?_ | refine Qj ?_ | refine Qk ?_ | refine Ql ?_ | refine Qm ?_ | refine Qn ?_ | refine Qo ?_ | refine Qp rfl ?_) | (first | refine Qq ?_ | refine Qr ?_) | (first | refine Qs ?_ | refine Qt ?_ | refine Qu ?_) | (first | refine Qv ?_ | refine Qw ?_) | (first | refine Qx ?_ | refine Qy ?_) | (first | refine Qz ?_ | refine Ra ?_ | refine Rb ?_))
        refine Rd 1 1 (c0.out) ?_
        rintro _ _ ⟨rfl, rfl⟩
        repeat (first | (with_reducible first | refine Qa ?_ | refine Qb ?_ | refine Qc ?_ | refine Qd ?_ | refine Qe ?_ | refine Qf ?_ | refine Qg ?_ | refine Qh ?_ | refine Qi ?_ | refine Qj ?_ | refine Qk ?_ | refine Ql ?_ | refine Qm ?_ | refine Qn ?_ | refine Qo ?_ | refine Qp rfl ?_) | (first | refine Qq ?_ | refine Qr ?_) | (first | refine Qs ?_ | refine Qt ?_ | refine Qu ?_) | (first | refine Qv ?_ | refine Qw ?_) | (first | refine Qx ?_ | refine Qy ?_) | (first | refine Qz ?_ | refine Ra ?_ | refine Rb ?_))
        refine Rd 1 1 (c0.out) ?_
        rintro _ _ ⟨rfl, rfl⟩
        unfold prS
        repeat (first | (with_reducible first | refine Qa ?_ | refine Qb ?_ | refine Qc ?_ | refine Qd ?_ | refine Qe ?_ | refine Qf ?_ | refine Qg ?_ | refine Qh ?_ | refine Qi ?_ | refine Qj ?_ | refine Qk ?_ | refine Ql ?_ | refine Qm ?_ | refine Qn ?_ | refine Qo ?_ | refine Qp rfl ?_) | (first | refine Qq ?_ | refine Qr ?_) | (first | refine Qs ?_ | refine Qt ?_ | refine Qu ?_) | (first | refine Qv ?_ | refine Qw ?_) | (first | refine Qx ?_ | refine Qy ?_) | (first | refine Qz ?_ | refine Ra ?_ | refine Rb ?_))
        refine Rc ?_
        repeat (first | (with_reducible first | refine Qa ?_ | refine Qb ?_ | refine Qc ?_ | refine Qd ?_ | refine Qe ?_ | refine Qf ?_ | refine Qg ?_ | refine Qh ?_ | refine Qi ?_ | refine Qj ?_ | refine Qk ?_ | refine Ql ?_ | refine Qm ?_ | refine Qn ?_ | refine Qo ?_ | refine Qp rfl ?_) | (first | refine Qq ?_ | refine Qr ?_) | (first | refine Qs ?_ | refine Qt ?_ | refine Qu ?_) | (first | refine Qv ?_ | refine Qw ?_) | (first | refine Qx ?_ | refine Qy ?_) | (first | refine Qz ?_ | refine Ra ?_ | refine Rb ?_))
        refine Rc ?_
        repeat (first | (with_reducible first | refine Qa ?_ | refine Qb ?_ | refine Qc ?_ | refine Qd ?_ | refine Qe ?_ | refine Qf ?_ | refine Qg ?_ | refine Qh ?_ | refine Qi ?_ | refine Qj ?_ | refine Qk ?_ | refine Ql ?_ | refine Qm ?_ | refine Qn ?_ | refine Qo ?_ | refine Qp rfl ?_) | (first | refine Qq ?_ | refine Qr ?_) | (first | refine Qs ?_ | refine Qt ?_ | refine Qu ?_) | (first | refine Qv ?_ | refine Qw ?_) | (first | refine Qx ?_ | refine Qy ?_) | (first | refine Qz ?_ | refine Ra ?_ | refine Rb ?_))
        refine retP_ok (st' := prS i0 l (incS ⟨i, a, 0⟩)) (by simp) (by simp only [Try.results48]; rfl) (by simp [resP, St.box?, PF.get, loadB, TyK.agg, *]; rfl) (by repeat (first | exact List.Sublist.refl _ | exact List.nil_sublist _ | refine List.Sublist.cons_cons _ ?_ | refine List.Sublist.cons _ ?_)) ?_
        exact ⟨by rw [agg_mk]; rfl, rfl⟩
      | false =>
        rw [hu, if_neg (by decide)] at HT
        rw [HT.out]
        clear HT hf IP hin
        obtain ⟨i, a, b⟩ := σ
        simp only at hz b1
        subst hz
        generalize (nameS l ⟨i, a, 0⟩).1 = x at *
        generalize (nameS l ⟨i, a, 0⟩).2 = σ1 at *
        by_cases hu1 : t.kind = 1
        · have hu2 : ¬ t.text.toList = [95] := by
            intro e
            rw [hu1, e] at hu; cases hu
          clear hu
          refine PCalls.enter Try.func48 rfl Try.ntmps48 (by simp) ?_
          simp only [argsF]
          repeat (first | (with_reducible first | refine Qa ?_ | refine Qb ?_ | refine Qc ?_ | refine Qd ?_ | refine Qe ?_ | refine Qf ?_ | refine Qg ?_ | refine Qh ?_ | refine Qi ?_ | refine Qj ?_ | refine Qk ?_ | refine Ql ?_ | refine Qm ?_ | refine Qn ?_ | refine Qo ?_ | refine Qp rfl ?_) | (first | refine Qq ?_ | refine Qr ?_) | (first | refine Qs ?_ | refine Qt ?_ | refine Qu ?_) | (first | refine Qv ?_ | refine Qw ?_) | (first | refine Qx ?_ | refine Qy ?_) | (first | refine Qz ?_ | refine Ra ?_ | refine Rb ?_))
          refine POps_alloc_a ?_
          intro i1 hi1
          simp only [prS, List.cons_append, List.nil_append, List.append_nil, List.drop_succ_cons, List.drop_zero, List.drop_nil, St.freshB_box, St.freshB_nil, St.freshB_tok, St.freshB_obj] at hi1
          repeat (first | (with_reducible first | refine Qa ?_ | refine Qb ?_ | refine Qc ?_ | refine Qd ?_ | refine Qe ?_ | refine Qf ?_ | refine Qg ?_ | refine Qh ?_ | refine Qi ?_ | refine Qj ?_ | refine Qk ?_ | refine Ql ?_ | refine Qm ?_ | refine Qn ?_ | refine Qo ?_ | refine Qp rfl ?_) | (first | refine Qq ?_ | refine Qr ?_) | (first | refine Qs ?_ | refine Qt ?_ | refine Qu ?_) | (first | refine Qv ?_ | refine Qw ?_) | (first | refine Qx ?_ | refine Qy ?_) | (first | refine Qz ?_ | refine Ra ?_ | refine Rb ?_))
          refine Rd 1 1 (c0.out) ?_
          rintro _ _ ⟨rfl, rfl⟩
          unfold prS
          repeat (first | (with_reducible first | refine Qa ?_ | refine Qb ?_ | refine Qc ?_ | refine Qd ?_ | refine Qe ?_ | refine Qf ?_ | refine Qg ?_ | refine Qh ?_ | refine Qi ?_ | refine Qj ?_ | refine Qk ?_ | refine Ql ?_ | refine Qm ?_ | refine Qn ?_ | refine Qo ?_ | refine Qp rfl ?_) | (first | refine Qq ?_ | refine Qr ?_) | (first | refine Qs ?_ | refine Qt ?_ | refine Qu ?_) | (first | refine Qv ?_ | refine Qw ?_) | (first | refine Qx ?_ | refine Qy ?_) | (first | refine Qz ?_ | refine Ra ?_ | refine Rb ?_))
          refine Rd 1 1 (c1.out) ?_
          rintro _ _ ⟨rfl, rfl⟩
          repeat (first | (with_reducible first | refine Qa ?_ | refine Qb ?_ | refine Qc ?_ | refine Qd ?_ | refine Qe ?_ | refine Qf ?_ | refine Qg ?_ | refine Qh ?_ | refine Qi ?_ | refine Qj ?_ | refine Qk ?_ | refine Ql ?_ | refine Qm ?_ | refine Qn ?_ | refine Qo ?_ | refine Qp rfl ?_) | (first | refine Qq ?_ | refine Qr ?_) | (first | refine Qs ?_ | refine Qt ?_ | refine Qu ?_) | (first | refine Qv ?_ | refine Qw ?_) | (first | refine Qx ?_ | refine Qy ?_) | (first | refine Qz ?_ | refine Ra ?_ | refine Rb ?_))
          refine Rd 1 1 (c2.out) ?_
          rintro _ _ ⟨rfl, rfl⟩
          repeat (first | (with_reducible first | refine Qa ?_ | refine Qb ?_ | refine Qc ?_ | refine Qd ?_ | refine Qe ?_ | refine Qf ?_ | refine Qg ?_ | refine Qh ?_ | refine Qi ?_ | refine Qj ?_ | refine Qk ?_ | refine Ql ?_ | refine Qm ?_ | refine Qn ?_ | refine Qo ?_ | refine Qp rfl ?_) | (first | refine Qq ?_ | refine Qr ?_) | (first | refine Qs ?_ | refine Qt ?_ | refine Qu ?_) | (first | refine Qv ?_ | refine Qw ?_) | (first | refine Qx ?_ | refine Qy ?_) | (first | refine Qz ?_ | refine Ra ?_ | refine Rb ?_))
          refine Rd 1 1 (c0.out) ?_
          rintro _ _ ⟨rfl, rfl⟩
          repeat (first | (with_reducible first | refine Qa ?_ | refine Qb ?_ | refine Qc ?_ | refine Qd ?_ | refine Qe ?_ | refine Qf ?_ | refine Qg ?_ | refine Qh ?_ | refine Qi ?_ | refine Qj ?_ | refine Qk ?_ | refine Ql ?_ | refine Qm ?_ | refine Qn ?_ | refine Qo ?_ | refine Qp rfl ?_) | (first | refine Qq ?_ | refine Qr ?_) | (first | refine Qs ?_ | refine Qt ?_ | refine Qu ?_) | (first | refine Qv ?_ | refine Qw ?_) | (first | refine Qx ?_ | refine Qy ?_) | (first | refine Qz ?_ | refine Ra ?_ | refine Rb ?_))
          refine Rd 1 1 (c0.out) ?_
          rintro _ _ ⟨rfl, rfl⟩
          repeat (first | (with_reducible first | refine Qa ?_ | refine Qb ?_ | refine Qc ?_ | refine Qd ?_ | refine Qe ?_ | refine Qf ?_ | refine Qg ?_ | refine Qh ?_ | refine Qi ?_ | refine Qj ?_ | refine Qk ?_ | refine Ql ?_ | refine Qm ?_ | refine Qn ?_ | refine Qo ?_ | refine Qp rfl ?_) | (first | refine Qq ?_ | refine Qr ?_) | (first | refine Qs ?_ | refine Qt ?_ | refine Qu ?_) | (first | refine Qv ?_ | refine Qw ?_) | (first | refine Qx ?_ | refine Qy ?_) | (first | refine Qz ?_ | refine Ra ?_ | refine Rb ?_))
          refine Rd 1 1 (c3.out) ?_
          rintro _ _ ⟨rfl, rfl⟩
          repeat (first | (with_reducible first | refine Qa ?_ | refine Qb ?_ | refine Qc ?_ | refine Qd ?_ | refine Qe ?_ | refine Qf ?_ | refine Qg ?_ | refine Qh ?_ | refine Qi ?_ | refine Qj ?_ | refine Qk ?_ | refine Ql ?_ | refine Qm ?_ | refine Qn ?_ | refine Qo ?_ | refine Qp rfl ?_) | (first | refine Qq ?_ | refine Qr ?_) | (first | refine Qs ?_ | refine Qt ?_ | refine Qu ?_) | (first | refine Qv ?_ | refine Qw ?_) | (first | refine Qx ?_ | refine Qy ?_) | (first | refine Qz ?_ | refine Ra ?_ | refine Rb ?_))
          refine Rc ?_
          repeat (first | (with_reducible first | refine Qa ?_ | refine Qb ?_ | refine Qc ?_ | refine Qd ?_ | refine Qe ?_ | refine Qf ?_ | refine Qg ?_ | refine Qh ?_ | refine Qi ?_ | refine Qj ?_ | refine Qk ?_ | refine Ql ?_ | refine Qm ?_ | refine Qn ?_ | refine Qo ?_ | refine Qp rfl ?_) | (first | refine Qq ?_ | refine Qr ?_) | (first | refine Qs ?_ | refine Qt ?_ | refine Qu ?_) | (first | refine Qv ?_ | refine Qw ?_) | (first | refine Qx ?_ | refine Qy ?_) | (first | refine Qz ?_ | refine Ra ?_ | refine Rb ?_))
          refine retP_ok (st' := prS i0 l σ1) (by simp) (by simp only [Try.results48]; rfl) (by simp [resP, St.box?, PF.get, loadB, TyK.agg, *]; rfl) (by repeat (first | exact List.Sublist.refl _ | exact List.nil_sublist _ | refine List.Sublist.cons_cons _ ?_ | refine List.Sublist.cons _ ?_)) ?_
          exact ⟨by rw [agg_mk]; rfl, rfl⟩
        · clear hu
          refine PCalls.enter Try.func48 rfl Try.ntmps48 (by simp) ?_
          simp only [argsF]
          repeat (first | (with_reducible first | refine Qa ?_ | refine Qb ?_ | refine Qc ?_ | refine Qd ?_ | refine Qe ?_ | refine Qf ?_ | refine Qg ?_ | refine Qh ?_ | refine Qi ?_ | refine Qj ?_ | refine Qk ?_ | refine Ql ?_ | refine Qm ?_ | refine Qn ?_ | refine Qo ?_ | refine Qp rfl ?_) | (first | refine Qq ?_ | refine Qr ?_) | (first | refine Qs ?_ | refine Qt ?_ | refine Qu ?_) | (first | refine Qv ?_ | refine Qw ?_) | (first | refine Qx ?_ | refine Qy ?_) | (first | refine Qz ?_ | refine Ra ?_ | refine Rb ?_))
          refine POps_alloc_a ?_
          intro i1 hi1
          simp only [prS, List.cons_append, List.nil_append, List.append_nil, List.drop_succ_cons, List.drop_zero, List.drop_nil, St.freshB_box, St.freshB_nil, St.freshB_tok, St.freshB_obj] at hi1
          repeat (first | (with_reducible first | refine Qa ?_ | refine Qb ?_ | refine Qc ?_ | refine Qd ?_ | refine Qe ?_ | refine Qf ?_ | refine Qg ?_ | refine Qh ?_ | refine Qi ?_ | refine Qj ?_ | refine Qk ?_ | refine Ql ?_ | refine Qm ?_ | refine Qn ?_ | refine Qo ?_ | refine Qp rfl ?_) | (first | refine Qq ?_ | refine Qr ?_) | (first | refine Qs ?_ | refine Qt ?_ | refine Qu ?_) | (first | refine Qv ?_ | refine Qw ?_) | (first | refine Qx ?_ | refine Qy ?_) | (first | refine Qz ?_ | refine Ra ?_ | refine Rb ?_))
          refine Rd 1 1 (c0.out) ?_
          rintro _ _ ⟨rfl, rfl⟩
          unfold prS
          repeat (first | (with_reducible first | refine Qa ?_ | refine Qb ?_ | refine Qc ?_ | refine Qd ?_ | refine Qe ?_ | refine Qf ?_ | refine Qg ?_ | refine Qh ?_ | refine Qi ?_ | refine Qj ?_ | refine Qk ?_ | refine Ql ?_ | refine Qm ?_ | refine Qn ?_ | refine Qo ?_ | refine Qp rfl ?_) | (first | refine Qq ?_ | refine Qr ?_) | (first | refine Qs ?_ | refine Qt ?_ | refine Qu ?_) | (first | refine Qv ?_ | refine Qw ?_) | (first | refine Qx ?_ | refine Qy ?_) | (first | refine Qz ?_ | refine Ra ?_ | refine Rb ?_))
          refine Rd 1 1 (c1.out) ?_
          rintro _ _ ⟨rfl, rfl⟩
          repeat (first | (with_reducible first | refine Qa ?_ | refine Qb ?_ | refine Qc ?_ | refine Qd ?_ | refine Qe ?_ | refine Qf ?_ | refine Qg ?_ | refine Qh ?_ | refine Qi ?_ | refine Qj ?_ | refine Qk ?_ | refine Ql ?_ | refine Qm ?_ | refine Qn ?_ | refine Qo ?_ | refine Qp rfl ?_) | (first | refine Qq ?_ | refine Qr ?_) | (first | refine Qs ?_ | refine Qt ?_ | refine Qu ?_) | (first | refine Qv ?_ | refine Qw ?_) | (first | refine Qx ?_ | refine Qy ?_) | (first | refine Qz ?_ | refine Ra ?_ | refine Rb ?_))
          refine Rd 1 1 (c2.out) ?_
          rintro _ _ ⟨rfl, rfl⟩
          repeat (first | (with_reducible first | refine Qa ?_ | refine Qb ?_ | refine Qc ?_ | refine Qd ?_ | refine Qe ?_ | refine Qf ?_ | refine Qg ?_ | refine Qh ?_ | refine Qi ?_ | refine Qj ?_ | refine Qk ?_ | refine Ql ?_ | refine Qm ?_ | refine Qn ?_ | refine Qo ?_ | refine Qp rfl ?_) | (first | refine Qq ?_ | refine Qr ?_) | (first | refine Qs ?_ | refine Qt ?_ | refine Qu ?_) | (first | refine Qv ?_ | refine Qw ?_) | (first | refine Qx ?_ | refine Qy ?_) | (first | refine Qz ?_ | refine Ra ?_ | refine Rb ?_))
          refine Rd 1 1 (c0.out) ?_
          rintro _ _ ⟨rfl, rfl⟩
          repeat (first | (with_reducible first | refine Qa ?_ | refine Qb ?_ | refine Qc ?_ | refine Qd ?_ | refine Qe ?_ | refine Qf ?_ | refine Qg ?_ | refine Qh ?_ | refine Qi ?_ | refine Qj ?_ | refine Qk ?_ | refine Ql ?_ | refine Qm ?_ | refine Qn ?_ | refine Qo ?_ | refine Qp rfl ?_) | (first | refine Qq ?_ | refine Qr ?_) | (first | refine Qs ?_ | refine Qt ?_ | refine Qu ?_) | (first | refine Qv ?_ | refine Qw ?_) | (first | refine Qx ?_ | refine Qy ?_) | (first | refine Qz ?_ | refine Ra ?_ | refine Rb ?_))
          refine Rd 1 1 (c3.out) ?_
          rintro _ _ ⟨rfl, rfl⟩
          repeat (first | (with_reducible first | refine Qa ?_ | refine Qb ?_ | refine Qc ?_ | refine Qd ?_ | refine Qe ?_ | refine Qf ?_ | refine Qg ?_ | refine Qh ?_ | refine Qi ?_ | refine Qj ?_ | refine Qk ?_ | refine Ql ?_ | refine Qm ?_ | refine Qn ?_ | refine Qo ?_ | refine Qp rfl ?_) | (first | refine Qq ?_ | refine Qr ?_) | (first | refine Qs ?_ | refine Qt ?_ | refine Qu ?_) | (first | refine Qv ?_ | refine Qw ?_) | (first | refine Qx ?_ | refine Qy ?_) | (first | refine Qz ?_ | refine Ra ?_ | refine Rb ?_))
          refine Rc ?_
          repeat (first | (with_reducible first | refine Qa ?_ | refine Qb ?_ | refine Qc ?_ | refine Qd ?_ | refine Qe ?_ | refine Qf ?_ | refine Qg ?_ | refine Qh ?_ | refine Qi ?_ | refine Qj ?_ | refine Qk ?_ | refine Ql ?_ | refine Qm ?_ | refine Qn ?_ | refine Qo ?_ | refine Qp rfl ?_) | (first | refine Qq ?_ | refine Qr ?_) | (first | refine Qs ?_ | refine Qt ?_ | refine Qu ?_) | (first | refine Qv ?_ | refine Qw ?_) | (first | refine Qx ?_ | refine Qy ?_) | (first | refine Qz ?_ | refine Ra ?_ | refine Rb ?_))
          refine retP_ok (st' := prS i0 l σ1) (by simp) (by simp only [Try.results48]; rfl) (by simp [resP, St.box?, PF.get, loadB, TyK.agg, *]; rfl) (by repeat (first | exact List.Sublist.refl _ | exact List.nil_sublist _ | refine List.Sublist.cons_cons _ ?_ | refine List.Sublist.cons _ ?_)) ?_
          exact ⟨by rw [agg_mk]; rfl, rfl⟩
end Go.Proofs.Ytahhgpafjiljfaa

namespace Go.Proofs.Ytahhgpafjiljfaa
open Go.RowKit
set_option maxRecDepth 100000
set_option maxHeartbeats 4000000 in
theorem paren_w {l : List Tk} (hl : TkOk l) (n : Nat) (IH : ∀ m, m ≤ n → ∀ σ, Wf l σ → Fu l m 3 σ → PatC l m σ) (σ : ST) (hw : Wf l σ) (hp : isS l σ 0 sPar = true) (hz : σ.bad = 0) (hf : Fu l (n + 1) 2 σ) : ParenC l (n + 1) σ := by
  intro i0
  have b1 : σ.i ≤ 150000 := Nat.le_trans (hw.le hl) (by decide)
  have hn : 0 < n := by
    have := hf.2 hz
    unfold Wf at hw; omega
  have c0 := Lib.hid (tok0_p i0 l σ hl.len hl.pos b1)
  have hin := wrap_i b1
  have h1 := inc_adv hl (mark_k hp)
  clear hp
  have b2 : (incS σ).i ≤ 150000 := Nat.le_trans (h1.1.le hl) (by decide)
  have c1 := Lib.hid (is_p i0 l (incS σ) 0 0 rfl sRap hl.len hl.pos (by omega) (by decide))
  have c2 := Lib.hid (named_p i0 l (incS σ) hl.len hl.pos b2)
  have HT := Lib.hid (show parenS l (n + 1) σ = (if isS l (incS σ) 0 sRap then (.mk 9 (tkg l σ.i).at_ ⟨#[]⟩ 0 [], incS (incS σ)) else if !namedS l (incS σ) 0 then ((patS l n (incS σ)).1, wantS l sRap (patS l n (incS σ)).2) else ((parL l n (tkg l σ.i).at_ (.mk 6 (tkg l (incS σ).i).at_ (nameS l (incS σ)).1 0 []) (nameS l (incS σ)).2).1, wantS l sRap (parL l n (tkg l σ.i).at_ (.mk 6 (tkg l (incS σ).i).at_ (nameS l (incS σ)).1 0 []) (nameS l (incS σ)).2).2)) from by simp only [parenS])
  have hin3 : IntKind.i64.wrap (((incS σ).i : Int) + 1) = (((incS σ).i + 1 : Nat) : Int) := wrap_i b2
  obtain ⟨i, a, b⟩ := σ
  simp only at hz hin
  subst hz
  generalize (tkg l i).at_ = at0 at *
  unfold sRap at c1
  cases hr : isS l (incS ⟨i, a, 0⟩) 0 sRap with
  | true =>
    rw [hr, if_pos rfl] at HT
    unfold sRap at hr
    rw [HT.out]
    clear HT hf IH c2 h1
    refine PCalls.enter Try.func85 rfl Try.ntmps85 (by simp) ?_
    simp only [argsF]
    repeat (first | (with_reducible first | refine Qa ?_ | refine Qb ?_ | refine Qc ?_ | refine Qd ?_ | refine Qe ?_ | refine Qf ?_ | refine Qg ?_ | refine Qh ?_ | refine Qi ?_ | refine Qj ?_ | refine Qk ?_ | refine Ql ?_ | refine Qm ?_ | refine Qn ?_ | refine Qo ?_ | refine Qp rfl ?_) | (first | refine Qq ?_ | refine Qr ?_) | (first | refine Qs ?_ | refine Qt ?_ | refine Qu ?_) | (first | refine Qv ?_ | refine Qw ?_) | (first | refine Qx ?_ | refine Qy ?_) | (first | refine Qz ?_ | refine Ra ?_ | refine Rb ?_))
    refine POps_alloc_a ?_
    intro i1 hi1
    simp only [prS, List.cons_append, List.nil_append, List.append_nil, List.drop_succ_cons, List.drop_zero, List.drop_nil, St.freshB_box, St.freshB_nil, St.freshB_tok, St.freshB_obj] at hi1
    repeat (first | (with_reducible first | refine Qa ?_ | refine Qb ?_ | refine Qc ?_ | refine Qd ?_ | refine Qe ?_ | refine Qf ?_ | refine Qg ?_ | refine Qh ?_ | refine Qi ?_ | refine Qj ?_ | refine Qk ?_ | refine Ql ?_ | refine Qm ?_ | refine Qn ?_ | refine Qo ?_ | refine Qp rfl ?_) | (first | refine Qq ?_ | refine Qr ?_) | (first | refine Qs ?_ | refine Qt ?_ | refine Qu ?_) | (first | refine Qv ?_ | refine Qw ?_) | (first | refine Qx ?_ | refine Qy ?_) | (first | refine Qz ?_ | refine Ra ?_ | refine Rb ?_))
    refine Rd 1 1 (c0.out) ?_
    rintro _ _ ⟨rfl, rfl⟩
    unfold prS
    repeat (first | (with_reducible first | refine Qa ?_ | refine Qb ?_ | refine Qc ?_ | refine Qd ?_ | refine Qe ?_ | refine Qf ?_ | refine Qg ?_ | refine Qh ?_ | refine Qi ?_ | refine Qj ?_ | refine Qk ?_ | refine Ql ?_ | refine Qm ?_ | refine Qn ?_ | refine Qo ?_ | refine Qp rfl ?_) | (first | refine Qq ?_ | refine Qr ?_) | (first | refine Qs ?_ | refine Qt ?_ | refine Qu ?_) | (first | refine Qv ?_ | refine Qw ?_) | (first | refine Qx ?_ | refine Qy ?_) | (first | refine Qz ?_ | refine Ra ?_ | refine Rb ?_))
    refine Rc ?_
    repeat (first | (with_reducible first | refine Qa ?_ | refine Qb ?_ | refine Qc ?_ | refine Qd ?_ | refine Qe ?_ | refine Qf ?_ | refine Qg ?_ | refine Qh ?_ | refine Qi ?_ | refine Qj ?_ | refine Qk ?_ | refine Ql ?_ | refine Qm ?_ | refine Qn ?_ | refine Qo ?_ | refine Qp rfl ?_) | (first | refine Qq ?_ | refine Qr ?_) | (first | refine Qs ?_ | refine Qt ?_ | refine Qu ?_) | (first | refine Qv ?_ | refine Qw ?_) | (first | refine Qx ?_ | refine Qy ?_) | (first | refine Qz ?_ | refine Ra ?_ | refine Rb ?_))
    refine Rd 1 1 (c1.out) ?_
    rintro _ _ ⟨rfl, rfl⟩
    unfold prS
    repeat (first | (with_reducible first | refine Qa ?_ | refine Qb ?_ | refine Qc ?_ | refine Qd ?_ | refine Qe ?_ | refine Qf ?_ | refine Qg ?_ | refine Qh ?_ | refine Qi ?_ | refine Qj ?_ | refine Qk ?_ | refine Ql ?_ | refine Qm ?_ | refine Qn ?_ | refine Qo ?_ | refine Qp rfl ?_) | (first | refine Qq ?_ | refine Qr ?_) | (first | refine Qs ?_ | refine Qt ?_ | refine Qu ?_) | (first | refine Qv ?_ | refine Qw ?_) | (first | refine Qx ?_ | refine Qy ?_) | (first | refine Qz ?_ | refine Ra ?_ | refine Rb ?_))
    refine Rc ?_
    repeat (first | (with_reducible first | refine Qa ?_ | refine Qb ?_ | refine Qc ?_ | refine Qd ?_ | refine Qe ?_ | refine Qf ?_ | refine Qg ?_ | refine Qh ?_ | refine Qi ?_ | refine Qj ?_ | refine Qk ?_ | refine Ql ?_ | refine Qm ?_ | refine Qn ?_ | refine Qo ?_ | refine Qp rfl ?_) | (first | refine Qq ?_ | refine Qr ?_) | (first | refine Qs ?_ | refine Qt ?_ | refine Qu ?_) | (first | refine Qv ?_ | refine Qw ?_) | (first | refine Qx ?_ | refine Qy ?_) | (first | refine Qz ?_ | refine Ra ?_ | refine Rb ?_))
    refine Rc ?_
    repeat (first | (with_reducible first | refine Qa ?_ | refine Qb ?_ | refine Qc ?_ | refine Qd ?_ | refine Qe ?_ | refine Qf ?_ | refine Qg ?_ | refine Qh ?_ | refine Qi ?_ | refine Qj ?_ | refine Qk ?_ | refine Ql ?_ | refine Qm ?_ | refine Qn ?_ | refine Qo ?_ | refine Qp rfl ?_) | (first | refine Qq ?_ | refine Qr ?_) | (first | refine Qs ?_ | refine Qt ?_ | refine Qu ?_) | (first | refine Qv ?_ | refine Qw ?_) | (first | refine Qx ?_ | refine Qy ?_) | (first | refine Qz ?_ | refine Ra ?_ | refine Rb ?_))
    refine retP_ok (st' := prS i0 l (incS (incS ⟨i, a, 0⟩))) (by simp) (by simp only [Try.results85]; rfl) (by simp [resP, St.box?, PF.get, loadB, TyK.agg, *]; rfl) (by repeat (first | exact List.Sublist.refl _ | exact List.nil_sublist _ | refine List.Sublist.cons_cons _ ?_ | refine List.Sublist.cons _ ?_)) ?_
    exact ⟨by rw [agg_mk]; rfl, rfl⟩
  | false =>
    rw [hr, if_neg (by decide)] at HT
    unfold sRap at hr
    cases hnm : namedS l (incS ⟨i, a, 0⟩) 0 with
    | false =>
      rw [hnm, if_pos (show (!false) = true from rfl)] at HT
      rw [HT.out]
      have c3 := IH n (Nat.le_refl _) _ h1.1 (hf.next hw h1 hn (by omega)) i0
      have c4 := want_p i0 l _ sRap hl.len hl.pos (Nat.le_trans (((pat_adv hl n).2.2 _ h1.1).1.1.le hl) (by decide))
      clear HT hf IH h1 hin3
      generalize (patS l n (incS ⟨i, a, 0⟩)).1 = A at *
      generalize (patS l n (incS ⟨i, a, 0⟩)).2 = σ1 at *
      generalize wantS l sRap σ1 = σ2 at *
      simp only [aggD, encD_nd, List.map_cons, List.map_nil] at c3 ⊢
      unfold sRap at c4
      have C3 := Lib.hid c3
      have C4 := Lib.hid c4
      clear c3 c4
      refine PCalls.enter Try.func85 rfl Try.ntmps85 (by simp) ?_
      simp only [argsF]
      repeat (first | (with_reducible first | refine Qa ?_ | refine Qb ?_ | refine Qc ?_ | refine Qd ?_ | refine Qe ?_ | refine Qf ?_ | refine Qg ?_ | refine Qh ?_ | refine Qi ?_ | refine Qj ?_ | refine Qk ?_ | refine Ql ?_ | refine Qm ?_ | refine Qn ?_ | refine Qo ?_ | refine Qp rfl ?_) | (first | refine Qq ?_ | refine Qr ?_) | (first | refine Qs ?_ | refine Qt ?_ | refine Qu ?_) | (first | refine Qv ?_ | refine Qw ?_) | (first | refine Qx ?_ | refine Qy ?_) | (first | refine Qz ?_ | refine Ra ?_ | refine Rb ?_))
      refine POps_alloc_a ?_
      intro i1 hi1
      simp only [prS, List.cons_append, List.nil_append, List.append_nil, List.drop_succ_cons, List.drop_zero, List.drop_nil, St.freshB_box, St.freshB_nil, St.freshB_tok, St.freshB_obj] at hi1
      repeat (first | (with_reducible first | refine Qa ?_ | refine Qb ?_ | refine Qc ?_ | refine Qd ?_ | refine Qe ?_ | refine Qf ?_ | refine Qg ?_ | refine Qh ?_ | refine Qi ?_ | refine Qj ?_ | refine Qk ?_ | refine Ql ?_ | refine Qm ?_ | refine Qn ?_ | refine Qo ?_ | refine Qp rfl ?_) | (first | refine Qq ?_ | refine Qr ?_) | (first | refine Qs ?_ | refine Qt ?_ | refine Qu ?_) | (first | refine Qv ?_ | refine Qw ?_) | (first | refine Qx ?_ | refine Qy ?_) | (first | refine Qz ?_ | refine Ra ?_ | refine Rb ?_))
      refine Rd 1 1 (c0.out) ?_
      rintro _ _ ⟨rfl, rfl⟩
      unfold prS
      repeat (first | (with_reducible first | refine Qa ?_ | refine Qb ?_ | refine Qc ?_ | refine Qd ?_ | refine Qe ?_ | refine Qf ?_ | refine Qg ?_ | refine Qh ?_ | refine Qi ?_ | refine Qj ?_ | refine Qk ?_ | refine Ql ?_ | refine Qm ?_ | refine Qn ?_ | refine Qo ?_ | refine Qp rfl ?_) | (first | refine Qq ?_ | refine Qr ?_) | (first | refine Qs ?_ | refine Qt ?_ | refine Qu ?_) | (first | refine Qv ?_ | refine Qw ?_) | (first | refine Qx ?_ | refine Qy ?_) | (first | refine Qz ?_ | refine Ra ?_ | refine Rb ?_))
      refine Rc ?_
      repeat (first | (with_reducible first | refine Qa ?_ | refine Qb ?_ | refine Qc ?_ | refine Qd ?_ | refine Qe ?_ | refine Qf ?_ | refine Qg ?_ | refine Qh ?_ | refine Qi ?_ | refine Qj ?_ | refine Qk ?_ | refine Ql ?_ | refine Qm ?_ | refine Qn ?_ | refine Qo ?_ | refine Qp rfl ?_) | (first | refine Qq ?_ | refine Qr ?_) | (first | refine Qs ?_ | refine Qt ?_ | refine Qu ?_) | (first | refine Qv ?_ | refine Qw ?_) | (first | refine Qx ?_ | refine Qy ?_) | (first | refine Qz ?_ | refine Ra ?_ | refine Rb ?_))
      refine Rd 1 1 (c1.out) ?_
      rintro _ _ ⟨rfl, rfl⟩
      repeat (first | (with_reducible first | refine Qa ?_ | refine Qb ?_ | refine Qc ?_ | refine Qd ?_ | refine Qe ?_ | refine Qf ?_ | refine Qg ?_ | refine Qh ?_ | refine Qi ?_ | refine Qj ?_ | refine Qk ?_ | refine Ql ?_ | refine Qm ?_ | refine Qn ?_ | refine Qo ?_ | refine Qp rfl ?_) | (first | refine Qq ?_ | refine Qr ?_) | (first | refine Qs ?_ | refine Qt ?_ | refine Qu ?_) | (first | refine Qv ?_ | refine Qw ?_) | (first | refine Qx ?_ | refine Qy ?_) | (first | refine Qz ?_ | refine Ra ?_ | refine Rb ?_))
      refine Rd 1 1 (c2.out) ?_
      rintro _ _ ⟨rfl, rfl⟩
      repeat (first | (with_reducible first | refine Qa ?_ | refine Qb ?_ | refine Qc ?_ | refine Qd ?_ | refine Qe ?_ | refine Qf ?_ | refine Qg ?_ | refine Qh ?_ | refine Qi ?_ | refine Qj ?_ | refine Qk ?_ | refine Ql ?_ | refine Qm ?_ | refine Qn ?_ | refine Qo ?_ | refine Qp rfl ?_) | (first | refine Qq ?_ | refine Qr ?_) | (first | refine Qs ?_ | refine Qt ?_ | refine Qu ?_) | (first | refine Qv ?_ | refine Qw ?_) | (first | refine Qx ?_ | refine Qy ?_) | (first | refine Qz ?_ | refine Ra ?_ | refine Rb ?_))
      refine Rd 1 1 (C3.out) ?_
      rintro _ _ ⟨rfl, rfl⟩
      repeat (first | (with_reducible first | refine Qa ?_ | refine Qb ?_ | refine Qc ?_ | refine Qd ?_ | refine Qe ?_ | refine Qf ?_ | refine Qg ?_ | refine Qh ?_ | refine Qi ?_ | refine Qj ?_ | refine Qk ?_ | refine Ql ?_ | refine Qm ?_ | refine Qn ?_ | refine Qo ?_ | refine Qp rfl ?_) | (first | refine Qq ?_ | refine Qr ?_) | (first | refine Qs ?_ | refine Qt ?_ | refine Qu ?_) | (first | refine Qv ?_ | refine Qw ?_) | (first | refine Qx ?_ | refine Qy ?_) | (first | refine Qz ?_ | refine Ra ?_ | refine Rb ?_))
      refine POps_alloc_a ?_
      intro i2 hi2
      simp only [prS, List.cons_append, List.nil_append, List.append_nil, List.drop_succ_cons, List.drop_zero, List.drop_nil, St.freshB_box, St.freshB_nil, St.freshB_tok, St.freshB_obj] at hi2
      repeat (first | (with_reducible first | refine Qa ?_ | refine Qb ?_ | refine Qc ?_ | refine Qd ?_ | refine Qe ?_ | refine Qf ?_ | refine Qg ?_ | refine Qh ?_ | refine Qi ?_ | refine Qj ?_ | refine Qk ?_ | refine Ql ?_ | refine Qm ?_ | refine Qn ?_ | refine Qo ?_ | refine Qp rfl ?_) | (first | refine Qq ?_ | refine Qr ?_) | (first | refine Qs ?_ | refine Qt ?_ | refine Qu ?_) | (first | refine Qv ?_ | refine Qw ?_) | (first | refine Qx ?_ | refine Qy ?_) | (first | refine Qz ?_ | refine Ra ?_ | refine Rb ?_))
      refine Rc ?_
      repeat (first | (with_reducible first | refine Qa ?_ | refine Qb ?_ | refine Qc ?_ | refine Qd ?_ | refine Qe ?_ | refine Qf ?_ | refine Qg ?_ | refine Qh ?_ | refine Qi ?_ | refine Qj ?_ | refine Qk ?_ | refine Ql ?_ | refine Qm ?_ | refine Qn ?_ | refine Qo ?_ | refine Qp rfl ?_) | (first | refine Qq ?_ | refine Qr ?_) | (first | refine Qs ?_ | refine Qt ?_ | refine Qu ?_) | (first | refine Qv ?_ | refine Qw ?_) | (first | refine Qx ?_ | refine Qy ?_) | (first | refine Qz ?_ | refine Ra ?_ | refine Rb ?_))
      refine Rd 2 1 (C4.out) ?_
      rintro _ _ ⟨rfl, rfl⟩
      repeat (first | (with_reducible first | refine Qa ?_ | refine Qb ?_ | refine Qc ?_ | refine Qd ?_ | refine Qe ?_ | refine Qf ?_ | refine Qg ?_ | refine Qh ?_ | refine Qi ?_ | refine Qj ?_ | refine Qk ?_ | refine Ql ?_ | refine Qm ?_ | refine Qn ?_ | refine Qo ?_ | refine Qp rfl ?_) | (first | refine Qq ?_ | refine Qr ?_) | (first | refine Qs ?_ | refine Qt ?_ | refine Qu ?_) | (first | refine Qv ?_ | refine Qw ?_) | (first | refine Qx ?_ | refine Qy ?_) | (first | refine Qz ?_ | refine Ra ?_ | refine Rb ?_))
      refine Rc ?_
      repeat (first | (with_reducible first | refine Qa ?_ | refine Qb ?_ | refine Qc ?_ | refine Qd ?_ | refine Qe ?_ | refine Qf ?_ | refine Qg ?_ | refine Qh ?_ | refine Qi ?_ | refine Qj ?_ | refine Qk ?_ | refine Ql ?_ | refine Qm ?_ | refine Qn ?_ | refine Qo ?_ | refine Qp rfl ?_) | (first | refine Qq ?_ | refine Qr ?_) | (first | refine Qs ?_ | refine Qt ?_ | refine Qu ?_) | (first | refine Qv ?_ | refine Qw ?_) | (first | refine Qx ?_ | refine Qy ?_) | (first | refine Qz ?_ | refine Ra ?_ | refine Rb ?_))
      refine retP_ok (st' := prS i0 l σ2) (by simp) (by simp only [Try.results85]; rfl) (by simp [resP, St.box?, PF.get, loadB, TyK.agg, *]; rfl) (by repeat (first | exact List.Sublist.refl _ | exact List.nil_sublist _ | refine List.Sublist.cons_cons _ ?_ | refine List.Sublist.cons _ ?_)) ?_
      exact ⟨rfl, rfl⟩
    | true =>
      rw [hnm, if_neg (by decide)] at HT
      rw [HT.out]
      have h2 := h1.trans (name_adv hl h1.1).adv
      have c3 := Lib.hid (tok0_p i0 l (incS ⟨i, a, 0⟩) hl.len hl.pos b2)
      have c4 := Lib.hid (name_p i0 l (incS ⟨i, a, 0⟩) hl.len hl.pos b2)
      have HF := Lib.hid (hf.next hw h2 hn (d := 4) (by omega))
      have HW := Lib.hid h2.1
      clear HT hf h1 h2 hin3
      generalize (tkg l (incS ⟨i, a, 0⟩).i) = t1 at *
      generalize (nameS l (incS ⟨i, a, 0⟩)).1 = x at *
      generalize (nameS l (incS ⟨i, a, 0⟩)).2 = σ1 at *
      have HG : ∃ r, r = parL l n at0 (.mk 6 t1.at_ x 0 []) σ1 := ⟨_, rfl⟩
      obtain ⟨r, hr2⟩ := HG
      have HR := Lib.hid hr2.symm
      rw [← hr2]
      clear hr2
      refine PCalls.enter Try.func85 rfl Try.ntmps85 (by simp) ?_
      simp only [argsF]
      repeat (first | (with_reducible first | refine Qa ?_ | refine Qb ?_ | refine Qc ?_ | refine Qd ?_ | refine Qe ?_ | refine Qf ?_ | refine Qg ?_ | refine Qh ?_ | refine Qi ?_ | refine Qj ?_ | refine Qk ?_ | refine Ql ?_ | refine Qm ?_ | refine Qn ?_ | refine Qo ?_ | refine Qp rfl ?_) | (first | refine Qq ?_ | refine Qr ?_) | (first | refine Qs ?_ | refine Qt ?_ | refine Qu ?_) | (first | refine Qv ?_ | refine Qw ?_) | (first | refine Qx ?_ | refine Qy ?_) | (first | refine Qz ?_ | refine Ra ?_ | refine Rb ?_))
      refine POps_alloc_a ?_
      intro i1 hi1
      simp only [prS, List.cons_append, List.nil_append, List.append_nil, List.drop_succ_cons, List.drop_zero, List.drop_nil, St.freshB_box, St.freshB_nil, St.freshB_tok, St.freshB_obj] at hi1
      repeat (first | (with_reducible first | refine Qa ?_ | refine Qb ?_ | refine Qc ?_ | refine Qd ?_ | refine Qe ?_ | refine Qf ?_ | refine Qg ?_ | refine Qh ?_ | refine Qi ?_ | refine Qj ?_ | refine Qk ?_ | refine Ql ?_ | refine Qm ?_ | refine Qn ?_ | refine Qo ?_ | refine Qp rfl ?_) | (first | refine Qq ?_ | refine Qr ?_) | (first | refine Qs ?_ | refine Qt ?_ | refine Qu ?_) | (first | refine Qv ?_ | refine Qw ?_) | (first | refine Qx ?_ | refine Qy ?_) | (first | refine Qz ?_ | refine Ra ?_ | refine Rb ?_))
      refine Rd 1 1 (c0.out) ?_
      rintro _ _ ⟨rfl, rfl⟩
      unfold prS
      repeat (first | (with_reducible first | refine Qa ?_ | refine Qb ?_ | refine Qc ?_ | refine Qd ?_ | refine Qe ?_ | refine Qf ?_ | refine Qg ?_ | refine Qh ?_ | refine Qi ?_ | refine Qj ?_ | refine Qk ?_ | refine Ql ?_ | refine Qm ?_ | refine Qn ?_ | refine Qo ?_ | refine Qp rfl ?_) | (first | refine Qq ?_ | refine Qr ?_) | (first | refine Qs ?_ | refine Qt ?_ | refine Qu ?_) | (first | refine Qv ?_ | refine Qw ?_) | (first | refine Qx ?_ | refine Qy ?_) | (first | refine Qz ?_ | refine Ra ?_ | refine Rb ?_))
      refine Rc ?_
      repeat (first | (with_reducible first | refine Qa ?_ | refine Qb ?_ | refine Qc ?_ | refine Qd ?_ | refine Qe ?_ | refine Qf ?_ | refine Qg ?_ | refine Qh ?_ | refine Qi ?_ | refine Qj ?_ | refine Qk ?_ | refine Ql ?_ | refine Qm ?_ | refine Qn ?_ | refine Qo ?_ | refine Qp rfl ?_) | (first | refine Qq ?_ | refine Qr ?_) | (first | refine Qs ?_ | refine Qt ?_ | refine Qu ?_) | (first | refine Qv ?_ | refine Qw ?_) | (first | refine Qx ?_ | refine Qy ?_) | (first | refine Qz ?_ | refine Ra ?_ | refine Rb ?_))
      refine Rd 1 1 (c1.out) ?_
      rintro _ _ ⟨rfl, rfl⟩
      repeat (first | (with_reducible first | refine Qa ?_ | refine Qb ?_ | refine Qc ?_ | refine Qd ?_ | refine Qe ?_ | refine Qf ?_ | refine Qg ?_ | refine Qh ?_ | refine Qi ?_ | refine Qj ?_ | refine Qk ?_ | refine Ql ?_ | refine Qm ?_ | refine Qn ?_ | refine Qo ?_ | refine Qp rfl ?_) | (first | refine Qq ?_ | refine Qr ?_) | (first | refine Qs ?_ | refine Qt ?_ | refine Qu ?_) | (first | refine Qv ?_ | refine Qw ?_) | (first | refine Qx ?_ | refine Qy ?_) | (first | refine Qz ?_ | refine Ra ?_ | refine Rb ?_))
      refine Rd 1 1 (c2.out) ?_
      rintro _ _ ⟨rfl, rfl⟩
      repeat (first | (with_reducible first | refine Qa ?_ | refine Qb ?_ | refine Qc ?_ | refine Qd ?_ | refine Qe ?_ | refine Qf ?_ | refine Qg ?_ | refine Qh ?_ | refine Qi ?_ | refine Qj ?_ | refine Qk ?_ | refine Ql ?_ | refine Qm ?_ | refine Qn ?_ | refine Qo ?_ | refine Qp rfl ?_) | (first | refine Qq ?_ | refine Qr ?_) | (first | refine Qs ?_ | refine Qt ?_ | refine Qu ?_) | (first | refine Qv ?_ | refine Qw ?_) | (first | refine Qx ?_ | refine Qy ?_) | (first | refine Qz ?_ | refine Ra ?_ | refine Rb ?_))
      refine Rd 1 1 (c3.out) ?_
      rintro _ _ ⟨rfl, rfl⟩
      repeat (first | (with_reducible first | refine Qa ?_ | refine Qb ?_ | refine Qc ?_ | refine Qd ?_ | refine Qe ?_ | refine Qf ?_ | refine Qg ?_ | refine Qh ?_ | refine Qi ?_ | refine Qj ?_ | refine Qk ?_ | refine Ql ?_ | refine Qm ?_ | refine Qn ?_ | refine Qo ?_ | refine Qp rfl ?_) | (first | refine Qq ?_ | refine Qr ?_) | (first | refine Qs ?_ | refine Qt ?_ | refine Qu ?_) | (first | refine Qv ?_ | refine Qw ?_) | (first | refine Qx ?_ | refine Qy ?_) | (first | refine Qz ?_ | refine Ra ?_ | refine Rb ?_))
      refine Rd 1 1 (c4.out) ?_
      rintro _ _ ⟨rfl, rfl⟩
      repeat (first | (with_reducible first | refine Qa ?_ | refine Qb ?_ | refine Qc ?_ | refine Qd ?_ | refine Qe ?_ | refine Qf ?_ | refine Qg ?_ | refine Qh ?_ | refine Qi ?_ | refine Qj ?_ | refine Qk ?_ | refine Ql ?_ | refine Qm ?_ | refine Qn ?_ | refine Qo ?_ | refine Qp rfl ?_) | (first | refine Qq ?_ | refine Qr ?_) | (first | refine Qs ?_ | refine Qt ?_ | refine Qu ?_) | (first | refine Qv ?_ | refine Qw ?_) | (first | refine Qx ?_ | refine Qy ?_) | (first | refine Qz ?_ | refine Ra ?_ | refine Rb ?_))
      refine POps_alloc_a ?_
      intro i2 hi2
      simp only [prS, List.cons_append, List.nil_append, List.append_nil, List.drop_succ_cons, List.drop_zero, List.drop_nil, St.freshB_box, St.freshB_nil, St.freshB_tok, St.freshB_obj] at hi2
      repeat (first | (with_reducible first | refine Qa ?_ | refine Qb ?_ | refine Qc ?_ | refine Qd ?_ | refine Qe ?_ | refine Qf ?_ | refine Qg ?_ | refine Qh ?_ | refine Qi ?_ | refine Qj ?_ | refine Qk ?_ | refine Ql ?_ | refine Qm ?_ | refine Qn ?_ | refine Qo ?_ | refine Qp rfl ?_) | (first | refine Qq ?_ | refine Qr ?_) | (first | refine Qs ?_ | refine Qt ?_ | refine Qu ?_) | (first | refine Qv ?_ | refine Qw ?_) | (first | refine Qx ?_ | refine Qy ?_) | (first | refine Qz ?_ | refine Ra ?_ | refine Rb ?_))
      refine Rc ?_
      repeat (first | (with_reducible first | refine Qa ?_ | refine Qb ?_ | refine Qc ?_ | refine Qd ?_ | refine Qe ?_ | refine Qf ?_ | refine Qg ?_ | refine Qh ?_ | refine Qi ?_ | refine Qj ?_ | refine Qk ?_ | refine Ql ?_ | refine Qm ?_ | refine Qn ?_ | refine Qo ?_ | refine Qp rfl ?_) | (first | refine Qq ?_ | refine Qr ?_) | (first | refine Qs ?_ | refine Qt ?_ | refine Qu ?_) | (first | refine Qv ?_ | refine Qw ?_) | (first | refine Qx ?_ | refine Qy ?_) | (first | refine Qz ?_ | refine Ra ?_ | refine Rb ?_))
      refine PW_ownB i2 4 31 5 (by simp [nev, nevA, nevB, evBuild, PF.eval, PF.get, PF.wants, cPV, cCell, PV.rows, evBin, evUn, evConv, evLen, loadA, loadB, TyK.agg, partA, St.box?, St.tok?, St.setBox, St.setTok, fillO, spl, PV.ps, PV.one, evalArgs, aggD, slD, encD_nd, encD_bd, encD_rw, encD_dc, encD_str, encD_int, *]; rfl) (by rfl) (by rfl) (by intro g; simp [St.setBox, *]; rfl) (by decide) ?_
      intro g2 hg2
      refine PW_loop (ι := Nat × Nd × ST) (fun y => y.1 ≤ n ∧ Wf l y.2.2 ∧ Fu l y.1 4 y.2.2 ∧ parL l y.1 at0 y.2.1 y.2.2 = r ∧ (y.2.2.bad = 0 → y.2.1.sub.length ≤ y.2.2.i)) (fun y => [(0, .ptr i0 0), (2, .ptr i1 0), (3, .d (.v (.int .i64 at0))), (5, .ptr i2 0)])
        (fun y => .tok g2 31 5 y.2.1.sub.length :: .box i2 31 [.d (.v (.int .i64 y.2.1.kind)), .d (.v (.int .i64 y.2.1.at)), .d (.v (.string y.2.1.name)), .d (.v (.int .i64 y.2.1.num)), .own g2 (y.2.1.sub.map encD)] :: .box i1 31 [.d (.v (.int .i64 0)), .d (.v (.int .i64 0)), .d (.v (.string ByteArray.empty)), .d (.v (.int .i64 0)), .nils] :: prS i0 l y.2.2)
        (fun y => y.1) (n, .mk 6 t1.at_ x 0 [], σ1) ⟨Nat.le_refl _, HW.out, HF.out, HR.out, fun _ => Nat.zero_le _⟩ ?_ ?_ ?_
      · repeat (first | exact sub_nil _ | refine sub_cons (by simp [PF.get]; rfl) (by first | rfl | (simp [*]; done) | fail) ?_)
      · repeat (first | exact List.Sublist.refl _ | exact List.nil_sublist _ | refine List.Sublist.cons_cons _ ?_ | refine List.Sublist.cons _ ?_)
      · rintro ⟨m, q, τ⟩ ⟨hm, hw, hf, hr, hsub⟩
        simp only at hm hw hf hr hsub ⊢
        have b3 : τ.i ≤ 150000 := Nat.le_trans (hw.le hl) (by decide)
        obtain ⟨m, rfl⟩ : ∃ k, m = k + 1 := ⟨m - 1, by have := hf.1; omega⟩
        simp only [parL] at hr
        have B0 := Lib.hid (pattern_p i0 l τ hl.len hl.pos b3)
        have B1 := want_p i0 l τ sRap hl.len hl.pos b3
        unfold sRap at B1
        have B1 := Lib.hid B1
        by_cases hz : τ.bad = 0
        · cases hbg : patternS l τ with
          | true =>
            rw [if_pos ⟨hz, hbg⟩] at hr
            have hm0 : 1 < m := by
              have := hf.2 hz
              unfold Wf at hw; omega
            have hA := ((pat_adv hl m).2.2 τ hw).2 hm0
            have c5 := IH m (by omega) τ hw (hf.same hw (Adv.refl hw) (by omega) (by omega)) i0
            have HF2 := Lib.hid (hf.next hw hA (by omega) (d := 4) (by omega))
            have HA2 := Lib.hid hA
            have HR2 := Lib.hid hr
            have hsl : q.sub.length ≤ 150000 := Nat.le_trans (hsub hz) b3
            have HS := Lib.hid hsub
            clear hr hf hA hw hsub
            generalize (patS l m τ).1 = X at *
            generalize (patS l m τ).2 = τ2 at *
            simp only [aggD, encD_nd, List.map_cons, List.map_nil] at c5
            have C5 := Lib.hid c5
            clear c5
            unfold prS
            repeat (first | (with_reducible first | refine Qa ?_ | refine Qb ?_ | refine Qc ?_ | refine Qd ?_ | refine Qe ?_ | refine Qf ?_ | refine Qg ?_ | refine Qh ?_ | refine Qi ?_ | refine Qj ?_ | refine Qk ?_ | refine Ql ?_ | refine Qm ?_ | refine Qn ?_ | refine Qo ?_ | refine Qp rfl ?_) | (first | refine Qq ?_ | refine Qr ?_) | (first | refine Qs ?_ | refine Qt ?_ | refine Qu ?_) | (first | refine Qv ?_ | refine Qw ?_) | (first | refine Qx ?_ | refine Qy ?_) | (first | refine Qz ?_ | refine Ra ?_ | refine Rb ?_))
            refine Rd 3 1 (B0.out) ?_
            rintro _ _ ⟨rfl, rfl⟩
            repeat (first | (with_reducible first | refine Qa ?_ | refine Qb ?_ | refine Qc ?_ | refine Qd ?_ | refine Qe ?_ | refine Qf ?_ | refine Qg ?_ | refine Qh ?_ | refine Qi ?_ | refine Qj ?_ | refine Qk ?_ | refine Ql ?_ | refine Qm ?_ | refine Qn ?_ | refine Qo ?_ | refine Qp rfl ?_) | (first | refine Qq ?_ | refine Qr ?_) | (first | refine Qs ?_ | refine Qt ?_ | refine Qu ?_) | (first | refine Qv ?_ | refine Qw ?_) | (first | refine Qx ?_ | refine Qy ?_) | (first | refine Qz ?_ | refine Ra ?_ | refine Rb ?_))
            refine Rc ?_
            repeat (first | (with_reducible first | refine Qa ?_ | refine Qb ?_ | refine Qc ?_ | refine Qd ?_ | refine Qe ?_ | refine Qf ?_ | refine Qg ?_ | refine Qh ?_ | refine Qi ?_ | refine Qj ?_ | refine Qk ?_ | refine Ql ?_ | refine Qm ?_ | refine Qn ?_ | refine Qo ?_ | refine Qp rfl ?_) | (first | refine Qq ?_ | refine Qr ?_) | (first | refine Qs ?_ | refine Qt ?_ | refine Qu ?_) | (first | refine Qv ?_ | refine Qw ?_) | (first | refine Qx ?_ | refine Qy ?_) | (first | refine Qz ?_ | refine Ra ?_ | refine Rb ?_))
            refine Rc ?_
            repeat (first | (with_reducible first | refine Qa ?_ | refine Qb ?_ | refine Qc ?_ | refine Qd ?_ | refine Qe ?_ | refine Qf ?_ | refine Qg ?_ | refine Qh ?_ | refine Qi ?_ | refine Qj ?_ | refine Qk ?_ | refine Ql ?_ | refine Qm ?_ | refine Qn ?_ | refine Qo ?_ | refine Qp rfl ?_) | (first | refine Qq ?_ | refine Qr ?_) | (first | refine Qs ?_ | refine Qt ?_ | refine Qu ?_) | (first | refine Qv ?_ | refine Qw ?_) | (first | refine Qx ?_ | refine Qy ?_) | (first | refine Qz ?_ | refine Ra ?_ | refine Rb ?_))
            refine PW_drawnL (J := keepJ [(i2, _)]) [(0, .a), (1, .a), (2, .a), (3, .e), (4, .a), (5, .e), (6, .a), (7, .e)] (by kernel_rfl) (by rfl) (by kernel_rfl) (by (repeat (first | exact keepJ_nil _ | refine keepJ_cons (by simp [St.box?, *] <;> rfl) ?_))) ?_
            repeat (first | with_reducible refine PL_nil ?_ | refine PL_gn2 ?_ | refine PL_s2 ?_ | refine PL_b2 ?_)
            refine PL_callX 3 1 (C5.out) ?_
            rintro _ _ ⟨rfl, rfl⟩
            refine ⟨.inr (by (repeat (first | exact keepJ_nil _ | refine keepJ_cons (by simp [St.box?, *] <;> rfl) ?_))), ?_⟩
            repeat (first | with_reducible refine PL_nil ?_ | refine PL_gn2 ?_ | refine PL_s2 ?_ | refine PL_b2 ?_)
            refine PL_bs ?_ rfl (by decide) rfl (by simp; rfl) (by rfl) (by simp; rfl) (by rfl) (by decide) (by decide) (by simp [nev, nevA, nevB, evBuild, PF.eval, PF.get, PF.wants, cPV, cCell, PV.rows, evBin, evUn, evConv, evLen, loadA, loadB, TyK.agg, partA, St.box?, St.tok?, St.setBox, St.setTok, fillO, spl, PV.ps, PV.one, evalArgs, aggD, slD, encD_nd, encD_bd, encD_rw, encD_dc, encD_str, encD_int, *]; rfl) (by simp [rowsOf, toDs, PV.toD]; rfl)
            refine PL_app (q.sub.length + 1) ?_ ?_ ?_ ?_ ?_
            rotate_left
            · exact rows_map fun _ => encD_len _
            · exact rows_one rfl
            · simp
            · exact .inr (by (repeat (first | exact keepJ_nil _ | refine keepJ_cons (by simp [St.box?, *] <;> rfl) ?_)))
            repeat (first | with_reducible refine PL_nil ?_ | refine PL_gn2 ?_ | refine PL_s2 ?_ | refine PL_b2 ?_)
            refine PL_store rfl rfl (by simp [nev, nevA, nevB, evBuild, PF.eval, PF.get, PF.wants, cPV, cCell, PV.rows, evBin, evUn, evConv, evLen, loadA, loadB, TyK.agg, partA, St.box?, St.tok?, St.setBox, St.setTok, fillO, spl, PV.ps, PV.one, evalArgs, aggD, slD, encD_nd, encD_bd, encD_rw, encD_dc, encD_str, encD_int, *]; rfl) (by rfl) (by simp [nev, nevA, nevB, evBuild, PF.eval, PF.get, PF.wants, cPV, cCell, PV.rows, evBin, evUn, evConv, evLen, loadA, loadB, TyK.agg, partA, St.box?, St.tok?, St.setBox, St.setTok, fillO, spl, PV.ps, PV.one, evalArgs, aggD, slD, encD_nd, encD_bd, encD_rw, encD_dc, encD_str, encD_int, *]; rfl) (by simp [PV.ps, aggD, slD, encD_nd, encD_bd, encD_rw, encD_dc, encD_str, encD_int]; rfl) (by first | rfl | (simp [*]; done) | (simp [PV.one, *]; done) | fail) (by simp; rfl) (by first | (simp; done) | fail) (by simp [nev, nevA, nevB, evBuild, PF.eval, PF.get, PF.wants, cPV, cCell, PV.rows, evBin, evUn, evConv, evLen, loadA, loadB, TyK.agg, partA, St.box?, St.tok?, St.setBox, St.setTok, fillO, spl, PV.ps, PV.one, evalArgs, aggD, slD, encD_nd, encD_bd, encD_rw, encD_dc, encD_str, encD_int, *]; rfl) (by rfl) (by first | (simp; done) | fail) (by simp [St.setBox, spl, *]; rfl) (by first | exact .inl (by decide +kernel) | exact .inr (by (repeat (first | exact keepJ_nil _ | refine keepJ_cons (by simp [St.box?, *] <;> rfl) ?_)))) ?_
            repeat (first | with_reducible refine PL_nil ?_ | refine PL_gn2 ?_ | refine PL_s2 ?_ | refine PL_b2 ?_)
            repeat (first | (with_reducible first | refine Qa ?_ | refine Qb ?_ | refine Qc ?_ | refine Qd ?_ | refine Qe ?_ | refine Qf ?_ | refine Qg ?_ | refine Qh ?_ | refine Qi ?_ | refine Qj ?_ | refine Qk ?_ | refine Ql ?_ | refine Qm ?_ | refine Qn ?_ | refine Qo ?_ | refine Qp rfl ?_) | (first | refine Qq ?_ | refine Qr ?_) | (first | refine Qs ?_ | refine Qt ?_ | refine Qu ?_) | (first | refine Qv ?_ | refine Qw ?_) | (first | refine Qx ?_ | refine Qy ?_) | (first | refine Qz ?_ | refine Ra ?_ | refine Rb ?_))
            refine ⟨(m, Nd.mk 8 at0 q.name q.num (q.sub ++ [X]), τ2), ⟨by omega, HA2.out.1, HF2.out, HR2.out, fun hb => ?_⟩, by simp only; omega, ?_, ?_⟩
            · have h3 := (HA2.out.2 hb).2
              have h4 := HS.out hz
              show (q.sub ++ [X]).length ≤ τ2.i
              rw [List.length_append]
              simp only [List.length_cons, List.length_nil]
              omega
            · repeat (first | exact sub_nil _ | refine sub_cons (by simp [PF.get]; rfl) (by first | rfl | (simp [*]; done) | fail) ?_)
            · simp only [Nd.kind, Nd.at, Nd.name, Nd.num, Nd.sub, List.length_append, List.length_cons, List.length_nil, Nat.zero_add, List.map_append, List.map_cons, List.map_nil, encD_nd X]
              repeat (first | exact List.Sublist.refl _ | exact List.nil_sublist _ | refine List.Sublist.cons_cons _ ?_ | refine List.Sublist.cons _ ?_)
          | false =>
            rw [if_neg (by rw [hbg]; simp)] at hr
            have HR2 := Lib.hid hr
            clear hr hf
            unfold prS
            repeat (first | (with_reducible first | refine Qa ?_ | refine Qb ?_ | refine Qc ?_ | refine Qd ?_ | refine Qe ?_ | refine Qf ?_ | refine Qg ?_ | refine Qh ?_ | refine Qi ?_ | refine Qj ?_ | refine Qk ?_ | refine Ql ?_ | refine Qm ?_ | refine Qn ?_ | refine Qo ?_ | refine Qp rfl ?_) | (first | refine Qq ?_ | refine Qr ?_) | (first | refine Qs ?_ | refine Qt ?_ | refine Qu ?_) | (first | refine Qv ?_ | refine Qw ?_) | (first | refine Qx ?_ | refine Qy ?_) | (first | refine Qz ?_ | refine Ra ?_ | refine Rb ?_))
            refine Rd 3 1 (B0.out) ?_
            rintro _ _ ⟨rfl, rfl⟩
            repeat (first | (with_reducible first | refine Qa ?_ | refine Qb ?_ | refine Qc ?_ | refine Qd ?_ | refine Qe ?_ | refine Qf ?_ | refine Qg ?_ | refine Qh ?_ | refine Qi ?_ | refine Qj ?_ | refine Qk ?_ | refine Ql ?_ | refine Qm ?_ | refine Qn ?_ | refine Qo ?_ | refine Qp rfl ?_) | (first | refine Qq ?_ | refine Qr ?_) | (first | refine Qs ?_ | refine Qt ?_ | refine Qu ?_) | (first | refine Qv ?_ | refine Qw ?_) | (first | refine Qx ?_ | refine Qy ?_) | (first | refine Qz ?_ | refine Ra ?_ | refine Rb ?_))
            refine Rd 3 1 (B1.out) ?_
            rintro _ _ ⟨rfl, rfl⟩
            repeat (first | (with_reducible first | refine Qa ?_ | refine Qb ?_ | refine Qc ?_ | refine Qd ?_ | refine Qe ?_ | refine Qf ?_ | refine Qg ?_ | refine Qh ?_ | refine Qi ?_ | refine Qj ?_ | refine Qk ?_ | refine Ql ?_ | refine Qm ?_ | refine Qn ?_ | refine Qo ?_ | refine Qp rfl ?_) | (first | refine Qq ?_ | refine Qr ?_) | (first | refine Qs ?_ | refine Qt ?_ | refine Qu ?_) | (first | refine Qv ?_ | refine Qw ?_) | (first | refine Qx ?_ | refine Qy ?_) | (first | refine Qz ?_ | refine Ra ?_ | refine Rb ?_))
            refine Rc ?_
            repeat (first | (with_reducible first | refine Qa ?_ | refine Qb ?_ | refine Qc ?_ | refine Qd ?_ | refine Qe ?_ | refine Qf ?_ | refine Qg ?_ | refine Qh ?_ | refine Qi ?_ | refine Qj ?_ | refine Qk ?_ | refine Ql ?_ | refine Qm ?_ | refine Qn ?_ | refine Qo ?_ | refine Qp rfl ?_) | (first | refine Qq ?_ | refine Qr ?_) | (first | refine Qs ?_ | refine Qt ?_ | refine Qu ?_) | (first | refine Qv ?_ | refine Qw ?_) | (first | refine Qx ?_ | refine Qy ?_) | (first | refine Qz ?_ | refine Ra ?_ | refine Rb ?_))
            refine retP_ok (st' := prS i0 l (wantS l sRap τ)) (by simp) (by simp only [Try.results85]; rfl) (by simp [resP, St.box?, PF.get, loadB, TyK.agg, *]; rfl) (by repeat (first | exact List.Sublist.refl _ | exact List.nil_sublist _ | refine List.Sublist.cons_cons _ ?_ | refine List.Sublist.cons _ ?_)) ?_
            exact ⟨by rw [← HR2.out]; simp only [aggD, encD_nd, List.map_cons, List.map_nil]; rfl, by rw [← HR2.out]; rfl⟩
        · rw [if_neg (by simp [hz])] at hr
          have HR2 := Lib.hid hr
          clear hr hf
          unfold prS
          repeat (first | (with_reducible first | refine Qa ?_ | refine Qb ?_ | refine Qc ?_ | refine Qd ?_ | refine Qe ?_ | refine Qf ?_ | refine Qg ?_ | refine Qh ?_ | refine Qi ?_ | refine Qj ?_ | refine Qk ?_ | refine Ql ?_ | refine Qm ?_ | refine Qn ?_ | refine Qo ?_ | refine Qp rfl ?_) | (first | refine Qq ?_ | refine Qr ?_) | (first | refine Qs ?_ | refine Qt ?_ | refine Qu ?_) | (first | refine Qv ?_ | refine Qw ?_) | (first | refine Qx ?_ | refine Qy ?_) | (first | refine Qz ?_ | refine Ra ?_ | refine Rb ?_))
          refine Rd 3 1 (B1.out) ?_
          rintro _ _ ⟨rfl, rfl⟩
          repeat (first | (with_reducible first | refine Qa ?_ | refine Qb ?_ | refine Qc ?_ | refine Qd ?_ | refine Qe ?_ | refine Qf ?_ | refine Qg ?_ | refine Qh ?_ | refine Qi ?_ | refine Qj ?_ | refine Qk ?_ | refine Ql ?_ | refine Qm ?_ | refine Qn ?_ | refine Qo ?_ | refine Qp rfl ?_) | (first | refine Qq ?_ | refine Qr ?_) | (first | refine Qs ?_ | refine Qt ?_ | refine Qu ?_) | (first | refine Qv ?_ | refine Qw ?_) | (first | refine Qx ?_ | refine Qy ?_) | (first | refine Qz ?_ | refine Ra ?_ | refine Rb ?_))
          refine Rc ?_
          repeat (first | (with_reducible first | refine Qa ?_ | refine Qb ?_ | refine Qc ?_ | refine Qd ?_ | refine Qe ?_ | refine Qf ?_ | refine Qg ?_ | refine Qh ?_ | refine Qi ?_ | refine Qj ?_ | refine Qk ?_ | refine Ql ?_ | refine Qm ?_ | refine Qn ?_ | refine Qo ?_ | refine Qp rfl ?_) | (first | refine Qq ?_ | refine Qr ?_) | (first | refine Qs ?_ | refine Qt ?_ | refine Qu ?_) | (first | refine Qv ?_ | refine Qw ?_) | (first | refine Qx ?_ | refine Qy ?_) | (first | refine Qz ?_ | refine Ra ?_ | refine Rb ?_))
          refine retP_ok (st' := prS i0 l (wantS l sRap τ)) (by simp) (by simp only [Try.results85]; rfl) (by simp [resP, St.box?, PF.get, loadB, TyK.agg, *]; rfl) (by repeat (first | exact List.Sublist.refl _ | exact List.nil_sublist _ | refine List.Sublist.cons_cons _ ?_ | refine List.Sublist.cons _ ?_)) ?_
          exact ⟨by rw [← HR2.out]; simp only [aggD, encD_nd, List.map_cons, List.map_nil]; rfl, by rw [← HR2.out]; rfl⟩
theorem patterns_w {l : List Tk} (hl : TkOk l) : ∀ n, (∀ σ, Wf l σ → isS l σ 0 sPar = true → σ.bad = 0 → Fu l n 2 σ → ParenC l n σ) ∧ (∀ σ, Wf l σ → Fu l n 3 σ → PatC l n σ) := by
  intro n
  induction n using Nat.strongRecOn with
  | _ n ih =>
    match n with
    | 0 => exact ⟨fun _ _ _ _ h => absurd h.1 (Nat.lt_irrefl 0), fun _ _ h => absurd h.1 (Nat.lt_irrefl 0)⟩
    | n + 1 => exact ⟨fun σ hw hp hz hf => paren_w hl n (fun m hm σ hw hf => (ih m (by omega)).2 σ hw hf) σ hw hp hz hf, fun σ hw hf => pat_w hl n (ih n (Nat.lt_succ_self n)).1 σ hw hf⟩
end Go.Proofs.Ytahhgpafjiljfaa

namespace Go.Proofs.Ytahhgpafjiljfaa
open Go.RowKit
set_option maxRecDepth 100000
theorem nd_row (x : Nd) : [encD x].length = 1 := rfl
section
variable {l : List Tk} (hl : TkOk l)
include hl
theorem checked_adv {σ : ST} (x : Nd) (a : Int) (h : Wf l σ) : Adv l σ (checkedS x a σ) := by
  unfold checkedS
  split
  · exact (fail_adv hl 2 a (by decide) h).adv
  · exact Adv.refl h
theorem patF_adv {σ : ST} (h : Wf l σ) : AdvS l σ (patS l (patF l) σ).2 := ((pat_adv hl (patF l)).2.2 σ h).2 (by unfold patF; omega)
theorem pats_adv : ∀ (n : Nat) (acc : List Nd) (σ : ST), Wf l σ → Adv l σ (patsS l n acc σ).2 := by
  intro n
  induction n with
  | zero => intro acc σ h; exact Adv.refl h
  | succ n ih =>
    intro acc σ h
    simp only [patsS]
    split
    · split
      · exact (fail_adv hl 2 _ (by decide) h).adv
      · have h1 := patF_adv hl h
        have h2 := h1.adv.trans (checked_adv hl (patS l (patF l) σ).1 (tkg l σ.i).at_ h1.1)
        exact h2.trans (ih _ _ h2.1)
    · exact Adv.refl h
theorem exprF_adv {σ : ST} (h : Wf l σ) : Adv l σ (exprS l (exprF l) σ).2 := expr_adv hl (exprF l) σ h
theorem con_adv {σ : ST} (h : Wf l σ) : AdvS l σ (conS l σ).2 := by
  unfold conS
  have h1 := name_adv hl h
  have h2 := h1.trans (want_adv hl sCol h1.1).adv
  exact h2.trans (exprF_adv hl h2.1)
theorem bind_adv {σ : ST} (h : Wf l σ) : AdvS l σ (bindS l σ).2 := by
  unfold bindS
  have h1 := want_adv hl sPar h
  have h2 := h1.trans (con_adv hl h1.1).adv
  exact h2.trans (want_adv hl sRap h2.1).adv
theorem line_adv {σ : ST} (h : Wf l σ) : AdvS l σ (lineS l σ).2 := by
  unfold lineS
  have h1 := con_adv hl h
  exact h1.trans (want_adv hl sSem h1.1).adv
end
theorem expr_full {l : List Tk} (hl : TkOk l) (i0 : Nat) (σ : ST) (hw : Wf l σ) : PCalls Try.prog 25 [.ptr i0 0] (prS i0 l σ) fun p s => p = aggD (exprS l (exprF l) σ).1 ∧ s = prS i0 l (exprS l (exprF l) σ).2 :=
  expr_p hl i0 (exprF l) σ hw ⟨by unfold exprF; omega, fun _ => by unfold exprF; omega⟩
theorem open_p {l : List Tk} (hl : TkOk l) (i0 : Nat) (σ : ST) (hw : Wf l σ) : PCalls Try.prog 56 [.ptr i0 0] (prS i0 l σ) fun p s => p = .d (.v (.bool (openS l σ))) ∧ s = prS i0 l σ := by
  have c1 := Lib.hid (is_p i0 l σ 0 0 rfl sKet hl.len hl.pos (by have := hw.le hl; omega) (by decide))
  have HO := Lib.hid (show openS l σ = !isS l σ 0 sKet from rfl)
  unfold sKet at c1
  refine PCalls.enter Try.func56 rfl Try.ntmps56 (by simp) ?_
  simp only [argsF]
  repeat (first | (with_reducible first | refine Qa ?_ | refine Qb ?_ | refine Qc ?_ | refine Qd ?_ | refine Qe ?_ | refine Qf ?_ | refine Qg ?_ | refine Qh ?_ | refine Qi ?_ | refine Qj ?_ | refine Qk ?_ | refine Ql ?_ | refine Qm ?_ | refine Qn ?_ | refine Qo ?_ | refine Qp rfl ?_) | (first | refine Qq ?_ | refine Qr ?_) | (first | refine Qs ?_ | refine Qt ?_ | refine Qu ?_) | (first | refine Qv ?_ | refine Qw ?_) | (first | refine Qx ?_ | refine Qy ?_) | (first | refine Qz ?_ | refine Ra ?_ | refine Rb ?_))
  refine Re (c1.out) ?_
  rintro _ _ ⟨rfl, rfl⟩
  repeat (first | (with_reducible first | refine Qa ?_ | refine Qb ?_ | refine Qc ?_ | refine Qd ?_ | refine Qe ?_ | refine Qf ?_ | refine Qg ?_ | refine Qh ?_ | refine Qi ?_ | refine Qj ?_ | refine Qk ?_ | refine Ql ?_ | refine Qm ?_ | refine Qn ?_ | refine Qo ?_ | refine Qp rfl ?_) | (first | refine Qq ?_ | refine Qr ?_) | (first | refine Qs ?_ | refine Qt ?_ | refine Qu ?_) | (first | refine Qv ?_ | refine Qw ?_) | (first | refine Qx ?_ | refine Qy ?_) | (first | refine Qz ?_ | refine Ra ?_ | refine Rb ?_))
  refine retP_ok (st' := prS i0 l σ) (by simp) (by simp only [Try.results56]; rfl) (by simp [resP, St.box?, PF.get, loadB, TyK.agg, *]; rfl) (by repeat (first | exact List.Sublist.refl _ | exact List.nil_sublist _ | refine List.Sublist.cons_cons _ ?_ | refine List.Sublist.cons _ ?_)) ?_
  exact ⟨by rw [HO.out]; rfl, rfl⟩
theorem paren0_p {l : List Tk} (hl : TkOk l) (i0 : Nat) (σ : ST) (hw : Wf l σ) : PCalls Try.prog 52 [.ptr i0 0] (prS i0 l σ) fun p s => p = .d (.v (.bool (paren0S l σ))) ∧ s = prS i0 l σ := by
  have c1 := Lib.hid (is_p i0 l σ 0 0 rfl sPar hl.len hl.pos (by have := hw.le hl; omega) (by decide))
  have HO := Lib.hid (show paren0S l σ = isS l σ 0 sPar from rfl)
  unfold sPar at c1
  refine PCalls.enter Try.func52 rfl Try.ntmps52 (by simp) ?_
  simp only [argsF]
  repeat (first | (with_reducible first | refine Qa ?_ | refine Qb ?_ | refine Qc ?_ | refine Qd ?_ | refine Qe ?_ | refine Qf ?_ | refine Qg ?_ | refine Qh ?_ | refine Qi ?_ | refine Qj ?_ | refine Qk ?_ | refine Ql ?_ | refine Qm ?_ | refine Qn ?_ | refine Qo ?_ | refine Qp rfl ?_) | (first | refine Qq ?_ | refine Qr ?_) | (first | refine Qs ?_ | refine Qt ?_ | refine Qu ?_) | (first | refine Qv ?_ | refine Qw ?_) | (first | refine Qx ?_ | refine Qy ?_) | (first | refine Qz ?_ | refine Ra ?_ | refine Rb ?_))
  refine Re (c1.out) ?_
  rintro _ _ ⟨rfl, rfl⟩
  repeat (first | (with_reducible first | refine Qa ?_ | refine Qb ?_ | refine Qc ?_ | refine Qd ?_ | refine Qe ?_ | refine Qf ?_ | refine Qg ?_ | refine Qh ?_ | refine Qi ?_ | refine Qj ?_ | refine Qk ?_ | refine Ql ?_ | refine Qm ?_ | refine Qn ?_ | refine Qo ?_ | refine Qp rfl ?_) | (first | refine Qq ?_ | refine Qr ?_) | (first | refine Qs ?_ | refine Qt ?_ | refine Qu ?_) | (first | refine Qv ?_ | refine Qw ?_) | (first | refine Qx ?_ | refine Qy ?_) | (first | refine Qz ?_ | refine Ra ?_ | refine Rb ?_))
  refine retP_ok (st' := prS i0 l σ) (by simp) (by simp only [Try.results52]; rfl) (by simp [resP, St.box?, PF.get, loadB, TyK.agg, *]; rfl) (by repeat (first | exact List.Sublist.refl _ | exact List.nil_sublist _ | refine List.Sublist.cons_cons _ ?_ | refine List.Sublist.cons _ ?_)) ?_
  exact ⟨by rw [HO.out]; rfl, rfl⟩
set_option maxHeartbeats 2000000 in
theorem con_p {l : List Tk} (hl : TkOk l) (i0 : Nat) (σ : ST) (hw : Wf l σ) : PCalls Try.prog 88 [.ptr i0 0] (prS i0 l σ) fun p s => p = aggD (conS l σ).1 ∧ s = prS i0 l (conS l σ).2 := by
  have b1 : σ.i ≤ 150000 := Nat.le_trans (hw.le hl) (by decide)
  have h1 := name_adv hl hw
  have h2 := h1.trans (want_adv hl sCol h1.1).adv
  have c0 := Lib.hid (tok0_p i0 l σ hl.len hl.pos b1)
  have c1 := Lib.hid (name_p i0 l σ hl.len hl.pos b1)
  have c2 := want_p i0 l _ sCol hl.len hl.pos (Nat.le_trans (h1.1.le hl) (by decide))
  have c3 := expr_full hl i0 _ h2.1
  have HT := Lib.hid (show conS l σ = (⟨(nameS l σ).1, (tkg l σ.i).at_, (exprS l (exprF l) (wantS l sCol (nameS l σ).2)).1⟩, (exprS l (exprF l) (wantS l sCol (nameS l σ).2)).2) from rfl)
  rw [HT.out]
  clear HT h1 h2
  unfold sCol at c2
  generalize (nameS l σ).1 = x at *
  generalize (nameS l σ).2 = σ1 at *
  change PCalls _ _ _ _ (fun p st => p = PV.tup [] ∧ st = prS i0 l (wantS l sCol σ1)) at c2
  generalize wantS l sCol σ1 = σ2 at *
  generalize (exprS l (exprF l) σ2).1 = A at *
  generalize (exprS l (exprF l) σ2).2 = σ3 at *
  simp only [aggD, encD_nd, encD_bd, List.map_cons, List.map_nil] at c3 ⊢
  have C2 := Lib.hid c2
  have C3 := Lib.hid c3
  clear c2 c3
  refine PCalls.enter Try.func88 rfl Try.ntmps88 (by simp) ?_
  simp only [argsF]
  repeat (first | (with_reducible first | refine Qa ?_ | refine Qb ?_ | refine Qc ?_ | refine Qd ?_ | refine Qe ?_ | refine Qf ?_ | refine Qg ?_ | refine Qh ?_ | refine Qi ?_ | refine Qj ?_ | refine Qk ?_ | refine Ql ?_ | refine Qm ?_ | refine Qn ?_ | refine Qo ?_ | refine Qp rfl ?_) | (first | refine Qq ?_ | refine Qr ?_) | (first | refine Qs ?_ | refine Qt ?_ | refine Qu ?_) | (first | refine Qv ?_ | refine Qw ?_) | (first | refine Qx ?_ | refine Qy ?_) | (first | refine Qz ?_ | refine Ra ?_ | refine Rb ?_))
  refine POps_alloc_a ?_
  intro i1 hi1
  simp only [prS, List.cons_append, List.nil_append, List.append_nil, List.drop_succ_cons, List.drop_zero, List.drop_nil, St.freshB_box, St.freshB_nil, St.freshB_tok, St.freshB_obj] at hi1
  repeat (first | (with_reducible first | refine Qa ?_ | refine Qb ?_ | refine Qc ?_ | refine Qd ?_ | refine Qe ?_ | refine Qf ?_ | refine Qg ?_ | refine Qh ?_ | refine Qi ?_ | refine Qj ?_ | refine Qk ?_ | refine Ql ?_ | refine Qm ?_ | refine Qn ?_ | refine Qo ?_ | refine Qp rfl ?_) | (first | refine Qq ?_ | refine Qr ?_) | (first | refine Qs ?_ | refine Qt ?_ | refine Qu ?_) | (first | refine Qv ?_ | refine Qw ?_) | (first | refine Qx ?_ | refine Qy ?_) | (first | refine Qz ?_ | refine Ra ?_ | refine Rb ?_))
  refine Rd 1 1 (c0.out) ?_
  rintro _ _ ⟨rfl, rfl⟩
  repeat (first | (with_reducible first | refine Qa ?_ | refine Qb ?_ | refine Qc ?_ | refine Qd ?_ | refine Qe ?_ | refine Qf ?_ | refine Qg ?_ | refine Qh ?_ | refine Qi ?_ | refine Qj ?_ | refine Qk ?_ | refine Ql ?_ | refine Qm ?_ | refine Qn ?_ | refine Qo ?_ | refine Qp rfl ?_) | (first | refine Qq ?_ | refine Qr ?_) | (first | refine Qs ?_ | refine Qt ?_ | refine Qu ?_) | (first | refine Qv ?_ | refine Qw ?_) | (first | refine Qx ?_ | refine Qy ?_) | (first | refine Qz ?_ | refine Ra ?_ | refine Rb ?_))
  refine Rd 1 1 (c1.out) ?_
  rintro _ _ ⟨rfl, rfl⟩
  repeat (first | (with_reducible first | refine Qa ?_ | refine Qb ?_ | refine Qc ?_ | refine Qd ?_ | refine Qe ?_ | refine Qf ?_ | refine Qg ?_ | refine Qh ?_ | refine Qi ?_ | refine Qj ?_ | refine Qk ?_ | refine Ql ?_ | refine Qm ?_ | refine Qn ?_ | refine Qo ?_ | refine Qp rfl ?_) | (first | refine Qq ?_ | refine Qr ?_) | (first | refine Qs ?_ | refine Qt ?_ | refine Qu ?_) | (first | refine Qv ?_ | refine Qw ?_) | (first | refine Qx ?_ | refine Qy ?_) | (first | refine Qz ?_ | refine Ra ?_ | refine Rb ?_))
  refine POps_alloc_a ?_
  intro i2 hi2
  simp only [prS, List.cons_append, List.nil_append, List.append_nil, List.drop_succ_cons, List.drop_zero, List.drop_nil, St.freshB_box, St.freshB_nil, St.freshB_tok, St.freshB_obj] at hi2
  repeat (first | (with_reducible first | refine Qa ?_ | refine Qb ?_ | refine Qc ?_ | refine Qd ?_ | refine Qe ?_ | refine Qf ?_ | refine Qg ?_ | refine Qh ?_ | refine Qi ?_ | refine Qj ?_ | refine Qk ?_ | refine Ql ?_ | refine Qm ?_ | refine Qn ?_ | refine Qo ?_ | refine Qp rfl ?_) | (first | refine Qq ?_ | refine Qr ?_) | (first | refine Qs ?_ | refine Qt ?_ | refine Qu ?_) | (first | refine Qv ?_ | refine Qw ?_) | (first | refine Qx ?_ | refine Qy ?_) | (first | refine Qz ?_ | refine Ra ?_ | refine Rb ?_))
  refine Rc ?_
  repeat (first | (with_reducible first | refine Qa ?_ | refine Qb ?_ | refine Qc ?_ | refine Qd ?_ | refine Qe ?_ | refine Qf ?_ | refine Qg ?_ | refine Qh ?_ | refine Qi ?_ | refine Qj ?_ | refine Qk ?_ | refine Ql ?_ | refine Qm ?_ | refine Qn ?_ | refine Qo ?_ | refine Qp rfl ?_) | (first | refine Qq ?_ | refine Qr ?_) | (first | refine Qs ?_ | refine Qt ?_ | refine Qu ?_) | (first | refine Qv ?_ | refine Qw ?_) | (first | refine Qx ?_ | refine Qy ?_) | (first | refine Qz ?_ | refine Ra ?_ | refine Rb ?_))
  refine Rd 2 1 (C2.out) ?_
  rintro _ _ ⟨rfl, rfl⟩
  repeat (first | (with_reducible first | refine Qa ?_ | refine Qb ?_ | refine Qc ?_ | refine Qd ?_ | refine Qe ?_ | refine Qf ?_ | refine Qg ?_ | refine Qh ?_ | refine Qi ?_ | refine Qj ?_ | refine Qk ?_ | refine Ql ?_ | refine Qm ?_ | refine Qn ?_ | refine Qo ?_ | refine Qp rfl ?_) | (first | refine Qq ?_ | refine Qr ?_) | (first | refine Qs ?_ | refine Qt ?_ | refine Qu ?_) | (first | refine Qv ?_ | refine Qw ?_) | (first | refine Qx ?_ | refine Qy ?_) | (first | refine Qz ?_ | refine Ra ?_ | refine Rb ?_))
  refine Rd 2 1 (C3.out) ?_
  rintro _ _ ⟨rfl, rfl⟩
  repeat (first | (with_reducible first | refine Qa ?_ | refine Qb ?_ | refine Qc ?_ | refine Qd ?_ | refine Qe ?_ | refine Qf ?_ | refine Qg ?_ | refine Qh ?_ | refine Qi ?_ | refine Qj ?_ | refine Qk ?_ | refine Ql ?_ | refine Qm ?_ | refine Qn ?_ | refine Qo ?_ | refine Qp rfl ?_) | (first | refine Qq ?_ | refine Qr ?_) | (first | refine Qs ?_ | refine Qt ?_ | refine Qu ?_) | (first | refine Qv ?_ | refine Qw ?_) | (first | refine Qx ?_ | refine Qy ?_) | (first | refine Qz ?_ | refine Ra ?_ | refine Rb ?_))
  refine Rc ?_
  repeat (first | (with_reducible first | refine Qa ?_ | refine Qb ?_ | refine Qc ?_ | refine Qd ?_ | refine Qe ?_ | refine Qf ?_ | refine Qg ?_ | refine Qh ?_ | refine Qi ?_ | refine Qj ?_ | refine Qk ?_ | refine Ql ?_ | refine Qm ?_ | refine Qn ?_ | refine Qo ?_ | refine Qp rfl ?_) | (first | refine Qq ?_ | refine Qr ?_) | (first | refine Qs ?_ | refine Qt ?_ | refine Qu ?_) | (first | refine Qv ?_ | refine Qw ?_) | (first | refine Qx ?_ | refine Qy ?_) | (first | refine Qz ?_ | refine Ra ?_ | refine Rb ?_))
  refine Rc ?_
  repeat (first | (with_reducible first | refine Qa ?_ | refine Qb ?_ | refine Qc ?_ | refine Qd ?_ | refine Qe ?_ | refine Qf ?_ | refine Qg ?_ | refine Qh ?_ | refine Qi ?_ | refine Qj ?_ | refine Qk ?_ | refine Ql ?_ | refine Qm ?_ | refine Qn ?_ | refine Qo ?_ | refine Qp rfl ?_) | (first | refine Qq ?_ | refine Qr ?_) | (first | refine Qs ?_ | refine Qt ?_ | refine Qu ?_) | (first | refine Qv ?_ | refine Qw ?_) | (first | refine Qx ?_ | refine Qy ?_) | (first | refine Qz ?_ | refine Ra ?_ | refine Rb ?_))
  refine retP_ok (st' := prS i0 l σ3) (by simp) (by simp only [Try.results88]; rfl) (by simp [resP, St.box?, PF.get, loadB, TyK.agg, *]; rfl) (by repeat (first | exact List.Sublist.refl _ | exact List.nil_sublist _ | refine List.Sublist.cons_cons _ ?_ | refine List.Sublist.cons _ ?_)) ?_
  exact ⟨rfl, rfl⟩
theorem bind_p {l : List Tk} (hl : TkOk l) (i0 : Nat) (σ : ST) (hw : Wf l σ) : PCalls Try.prog 53 [.ptr i0 0] (prS i0 l σ) fun p s => p = aggD (bindS l σ).1 ∧ s = prS i0 l (bindS l σ).2 := by
  have b1 : σ.i ≤ 150000 := Nat.le_trans (hw.le hl) (by decide)
  have h1 := want_adv hl sPar hw
  have h2 := h1.trans (con_adv hl h1.1).adv
  have c1 := want_p i0 l σ sPar hl.len hl.pos b1
  have c2 := con_p hl i0 _ h1.1
  have c3 := want_p i0 l _ sRap hl.len hl.pos (Nat.le_trans (h2.1.le hl) (by decide))
  have HT := Lib.hid (show bindS l σ = ((conS l (wantS l sPar σ)).1, wantS l sRap (conS l (wantS l sPar σ)).2) from rfl)
  rw [HT.out]
  clear HT h1 h2
  generalize wantS l sPar σ = σ1 at *
  generalize (conS l σ1).1 = A at *
  generalize (conS l σ1).2 = σ2 at *
  generalize wantS l sRap σ2 = σ3 at *
  unfold sPar at c1
  unfold sRap at c3
  simp only [aggD, encD_nd, encD_bd, List.map_cons, List.map_nil] at c2 ⊢
  have C1 := Lib.hid c1
  have C2 := Lib.hid c2
  have C3 := Lib.hid c3
  clear c1 c2 c3
  refine PCalls.enter Try.func53 rfl Try.ntmps53 (by simp) ?_
  simp only [argsF]
  repeat (first | (with_reducible first | refine Qa ?_ | refine Qb ?_ | refine Qc ?_ | refine Qd ?_ | refine Qe ?_ | refine Qf ?_ | refine Qg ?_ | refine Qh ?_ | refine Qi ?_ | refine Qj ?_ | refine Qk ?_ | refine Ql ?_ | refine Qm ?_ | refine Qn ?_ | refine Qo ?_ | refine Qp rfl ?_) | (first | refine Qq ?_ | refine Qr ?_) | (first | refine Qs ?_ | refine Qt ?_ | refine Qu ?_) | (first | refine Qv ?_ | refine Qw ?_) | (first | refine Qx ?_ | refine Qy ?_) | (first | refine Qz ?_ | refine Ra ?_ | refine Rb ?_))
  refine POps_alloc_a ?_
  intro i1 hi1
  simp only [prS, List.cons_append, List.nil_append, List.append_nil, List.drop_succ_cons, List.drop_zero, List.drop_nil, St.freshB_box, St.freshB_nil, St.freshB_tok, St.freshB_obj] at hi1
  repeat (first | (with_reducible first | refine Qa ?_ | refine Qb ?_ | refine Qc ?_ | refine Qd ?_ | refine Qe ?_ | refine Qf ?_ | refine Qg ?_ | refine Qh ?_ | refine Qi ?_ | refine Qj ?_ | refine Qk ?_ | refine Ql ?_ | refine Qm ?_ | refine Qn ?_ | refine Qo ?_ | refine Qp rfl ?_) | (first | refine Qq ?_ | refine Qr ?_) | (first | refine Qs ?_ | refine Qt ?_ | refine Qu ?_) | (first | refine Qv ?_ | refine Qw ?_) | (first | refine Qx ?_ | refine Qy ?_) | (first | refine Qz ?_ | refine Ra ?_ | refine Rb ?_))
  refine Rd 1 1 (C1.out) ?_
  rintro _ _ ⟨rfl, rfl⟩
  repeat (first | (with_reducible first | refine Qa ?_ | refine Qb ?_ | refine Qc ?_ | refine Qd ?_ | refine Qe ?_ | refine Qf ?_ | refine Qg ?_ | refine Qh ?_ | refine Qi ?_ | refine Qj ?_ | refine Qk ?_ | refine Ql ?_ | refine Qm ?_ | refine Qn ?_ | refine Qo ?_ | refine Qp rfl ?_) | (first | refine Qq ?_ | refine Qr ?_) | (first | refine Qs ?_ | refine Qt ?_ | refine Qu ?_) | (first | refine Qv ?_ | refine Qw ?_) | (first | refine Qx ?_ | refine Qy ?_) | (first | refine Qz ?_ | refine Ra ?_ | refine Rb ?_))
  refine Rd 1 1 (C2.out) ?_
  rintro _ _ ⟨rfl, rfl⟩
  repeat (first | (with_reducible first | refine Qa ?_ | refine Qb ?_ | refine Qc ?_ | refine Qd ?_ | refine Qe ?_ | refine Qf ?_ | refine Qg ?_ | refine Qh ?_ | refine Qi ?_ | refine Qj ?_ | refine Qk ?_ | refine Ql ?_ | refine Qm ?_ | refine Qn ?_ | refine Qo ?_ | refine Qp rfl ?_) | (first | refine Qq ?_ | refine Qr ?_) | (first | refine Qs ?_ | refine Qt ?_ | refine Qu ?_) | (first | refine Qv ?_ | refine Qw ?_) | (first | refine Qx ?_ | refine Qy ?_) | (first | refine Qz ?_ | refine Ra ?_ | refine Rb ?_))
  refine POps_alloc_a ?_
  intro i2 hi2
  simp only [prS, List.cons_append, List.nil_append, List.append_nil, List.drop_succ_cons, List.drop_zero, List.drop_nil, St.freshB_box, St.freshB_nil, St.freshB_tok, St.freshB_obj] at hi2
  repeat (first | (with_reducible first | refine Qa ?_ | refine Qb ?_ | refine Qc ?_ | refine Qd ?_ | refine Qe ?_ | refine Qf ?_ | refine Qg ?_ | refine Qh ?_ | refine Qi ?_ | refine Qj ?_ | refine Qk ?_ | refine Ql ?_ | refine Qm ?_ | refine Qn ?_ | refine Qo ?_ | refine Qp rfl ?_) | (first | refine Qq ?_ | refine Qr ?_) | (first | refine Qs ?_ | refine Qt ?_ | refine Qu ?_) | (first | refine Qv ?_ | refine Qw ?_) | (first | refine Qx ?_ | refine Qy ?_) | (first | refine Qz ?_ | refine Ra ?_ | refine Rb ?_))
  refine Rc ?_
  repeat (first | (with_reducible first | refine Qa ?_ | refine Qb ?_ | refine Qc ?_ | refine Qd ?_ | refine Qe ?_ | refine Qf ?_ | refine Qg ?_ | refine Qh ?_ | refine Qi ?_ | refine Qj ?_ | refine Qk ?_ | refine Ql ?_ | refine Qm ?_ | refine Qn ?_ | refine Qo ?_ | refine Qp rfl ?_) | (first | refine Qq ?_ | refine Qr ?_) | (first | refine Qs ?_ | refine Qt ?_ | refine Qu ?_) | (first | refine Qv ?_ | refine Qw ?_) | (first | refine Qx ?_ | refine Qy ?_) | (first | refine Qz ?_ | refine Ra ?_ | refine Rb ?_))
  refine Rd 2 1 (C3.out) ?_
  rintro _ _ ⟨rfl, rfl⟩
  repeat (first | (with_reducible first | refine Qa ?_ | refine Qb ?_ | refine Qc ?_ | refine Qd ?_ | refine Qe ?_ | refine Qf ?_ | refine Qg ?_ | refine Qh ?_ | refine Qi ?_ | refine Qj ?_ | refine Qk ?_ | refine Ql ?_ | refine Qm ?_ | refine Qn ?_ | refine Qo ?_ | refine Qp rfl ?_) | (first | refine Qq ?_ | refine Qr ?_) | (first | refine Qs ?_ | refine Qt ?_ | refine Qu ?_) | (first | refine Qv ?_ | refine Qw ?_) | (first | refine Qx ?_ | refine Qy ?_) | (first | refine Qz ?_ | refine Ra ?_ | refine Rb ?_))
  refine Rc ?_
  repeat (first | (with_reducible first | refine Qa ?_ | refine Qb ?_ | refine Qc ?_ | refine Qd ?_ | refine Qe ?_ | refine Qf ?_ | refine Qg ?_ | refine Qh ?_ | refine Qi ?_ | refine Qj ?_ | refine Qk ?_ | refine Ql ?_ | refine Qm ?_ | refine Qn ?_ | refine Qo ?_ | refine Qp rfl ?_) | (first | refine Qq ?_ | refine Qr ?_) | (first | refine Qs ?_ | refine Qt ?_ | refine Qu ?_) | (first | refine Qv ?_ | refine Qw ?_) | (first | refine Qx ?_ | refine Qy ?_) | (first | refine Qz ?_ | refine Ra ?_ | refine Rb ?_))
  refine retP_ok (st' := prS i0 l σ3) (by simp) (by simp only [Try.results53]; rfl) (by simp [resP, St.box?, PF.get, loadB, TyK.agg, *]; rfl) (by repeat (first | exact List.Sublist.refl _ | exact List.nil_sublist _ | refine List.Sublist.cons_cons _ ?_ | refine List.Sublist.cons _ ?_)) ?_
  exact ⟨rfl, rfl⟩
theorem line_p' {l : List Tk} (hl : TkOk l) (i0 : Nat) (σ : ST) (hw : Wf l σ) : PCalls Try.prog 57 [.ptr i0 0] (prS i0 l σ) fun p s => p = aggD (lineS l σ).1 ∧ s = prS i0 l (lineS l σ).2 := by
  have h1 := con_adv hl hw
  have c2 := con_p hl i0 _ hw
  have c3 := want_p i0 l _ sSem hl.len hl.pos (Nat.le_trans (h1.1.le hl) (by decide))
  have HT := Lib.hid (show lineS l σ = ((conS l σ).1, wantS l sSem (conS l σ).2) from rfl)
  rw [HT.out]
  clear HT h1
  generalize (conS l σ).1 = A at *
  generalize (conS l σ).2 = σ2 at *
  generalize wantS l sSem σ2 = σ3 at *
  unfold sSem at c3
  simp only [aggD, encD_nd, encD_bd, List.map_cons, List.map_nil] at c2 ⊢
  have C2 := Lib.hid c2
  have C3 := Lib.hid c3
  clear c2 c3
  refine PCalls.enter Try.func57 rfl Try.ntmps57 (by simp) ?_
  simp only [argsF]
  repeat (first | (with_reducible first | refine Qa ?_ | refine Qb ?_ | refine Qc ?_ | refine Qd ?_ | refine Qe ?_ | refine Qf ?_ | refine Qg ?_ | refine Qh ?_ | refine Qi ?_ | refine Qj ?_ | refine Qk ?_ | refine Ql ?_ | refine Qm ?_ | refine Qn ?_ | refine Qo ?_ | refine Qp rfl ?_) | (first | refine Qq ?_ | refine Qr ?_) | (first | refine Qs ?_ | refine Qt ?_ | refine Qu ?_) | (first | refine Qv ?_ | refine Qw ?_) | (first | refine Qx ?_ | refine Qy ?_) | (first | refine Qz ?_ | refine Ra ?_ | refine Rb ?_))
  refine POps_alloc_a ?_
  intro i1 hi1
  simp only [prS, List.cons_append, List.nil_append, List.append_nil, List.drop_succ_cons, List.drop_zero, List.drop_nil, St.freshB_box, St.freshB_nil, St.freshB_tok, St.freshB_obj] at hi1
  repeat (first | (with_reducible first | refine Qa ?_ | refine Qb ?_ | refine Qc ?_ | refine Qd ?_ | refine Qe ?_ | refine Qf ?_ | refine Qg ?_ | refine Qh ?_ | refine Qi ?_ | refine Qj ?_ | refine Qk ?_ | refine Ql ?_ | refine Qm ?_ | refine Qn ?_ | refine Qo ?_ | refine Qp rfl ?_) | (first | refine Qq ?_ | refine Qr ?_) | (first | refine Qs ?_ | refine Qt ?_ | refine Qu ?_) | (first | refine Qv ?_ | refine Qw ?_) | (first | refine Qx ?_ | refine Qy ?_) | (first | refine Qz ?_ | refine Ra ?_ | refine Rb ?_))
  refine Rd 1 1 (C2.out) ?_
  rintro _ _ ⟨rfl, rfl⟩
  repeat (first | (with_reducible first | refine Qa ?_ | refine Qb ?_ | refine Qc ?_ | refine Qd ?_ | refine Qe ?_ | refine Qf ?_ | refine Qg ?_ | refine Qh ?_ | refine Qi ?_ | refine Qj ?_ | refine Qk ?_ | refine Ql ?_ | refine Qm ?_ | refine Qn ?_ | refine Qo ?_ | refine Qp rfl ?_) | (first | refine Qq ?_ | refine Qr ?_) | (first | refine Qs ?_ | refine Qt ?_ | refine Qu ?_) | (first | refine Qv ?_ | refine Qw ?_) | (first | refine Qx ?_ | refine Qy ?_) | (first | refine Qz ?_ | refine Ra ?_ | refine Rb ?_))
  refine POps_alloc_a ?_
  intro i2 hi2
  simp only [prS, List.cons_append, List.nil_append, List.append_nil, List.drop_succ_cons, List.drop_zero, List.drop_nil, St.freshB_box, St.freshB_nil, St.freshB_tok, St.freshB_obj] at hi2
  repeat (first | (with_reducible first | refine Qa ?_ | refine Qb ?_ | refine Qc ?_ | refine Qd ?_ | refine Qe ?_ | refine Qf ?_ | refine Qg ?_ | refine Qh ?_ | refine Qi ?_ | refine Qj ?_ | refine Qk ?_ | refine Ql ?_ | refine Qm ?_ | refine Qn ?_ | refine Qo ?_ | refine Qp rfl ?_) | (first | refine Qq ?_ | refine Qr ?_) | (first | refine Qs ?_ | refine Qt ?_ | refine Qu ?_) | (first | refine Qv ?_ | refine Qw ?_) | (first | refine Qx ?_ | refine Qy ?_) | (first | refine Qz ?_ | refine Ra ?_ | refine Rb ?_))
  refine Rc ?_
  repeat (first | (with_reducible first | refine Qa ?_ | refine Qb ?_ | refine Qc ?_ | refine Qd ?_ | refine Qe ?_ | refine Qf ?_ | refine Qg ?_ | refine Qh ?_ | refine Qi ?_ | refine Qj ?_ | refine Qk ?_ | refine Ql ?_ | refine Qm ?_ | refine Qn ?_ | refine Qo ?_ | refine Qp rfl ?_) | (first | refine Qq ?_ | refine Qr ?_) | (first | refine Qs ?_ | refine Qt ?_ | refine Qu ?_) | (first | refine Qv ?_ | refine Qw ?_) | (first | refine Qx ?_ | refine Qy ?_) | (first | refine Qz ?_ | refine Ra ?_ | refine Rb ?_))
  refine Rd 2 1 (C3.out) ?_
  rintro _ _ ⟨rfl, rfl⟩
  repeat (first | (with_reducible first | refine Qa ?_ | refine Qb ?_ | refine Qc ?_ | refine Qd ?_ | refine Qe ?_ | refine Qf ?_ | refine Qg ?_ | refine Qh ?_ | refine Qi ?_ | refine Qj ?_ | refine Qk ?_ | refine Ql ?_ | refine Qm ?_ | refine Qn ?_ | refine Qo ?_ | refine Qp rfl ?_) | (first | refine Qq ?_ | refine Qr ?_) | (first | refine Qs ?_ | refine Qt ?_ | refine Qu ?_) | (first | refine Qv ?_ | refine Qw ?_) | (first | refine Qx ?_ | refine Qy ?_) | (first | refine Qz ?_ | refine Ra ?_ | refine Rb ?_))
  refine Rc ?_
  repeat (first | (with_reducible first | refine Qa ?_ | refine Qb ?_ | refine Qc ?_ | refine Qd ?_ | refine Qe ?_ | refine Qf ?_ | refine Qg ?_ | refine Qh ?_ | refine Qi ?_ | refine Qj ?_ | refine Qk ?_ | refine Ql ?_ | refine Qm ?_ | refine Qn ?_ | refine Qo ?_ | refine Qp rfl ?_) | (first | refine Qq ?_ | refine Qr ?_) | (first | refine Qs ?_ | refine Qt ?_ | refine Qu ?_) | (first | refine Qv ?_ | refine Qw ?_) | (first | refine Qx ?_ | refine Qy ?_) | (first | refine Qz ?_ | refine Ra ?_ | refine Rb ?_))
  refine retP_ok (st' := prS i0 l σ3) (by simp) (by simp only [Try.results57]; rfl) (by simp [resP, St.box?, PF.get, loadB, TyK.agg, *]; rfl) (by repeat (first | exact List.Sublist.refl _ | exact List.nil_sublist _ | refine List.Sublist.cons_cons _ ?_ | refine List.Sublist.cons _ ?_)) ?_
  exact ⟨rfl, rfl⟩
set_option maxHeartbeats 4000000 in
theorem pats_p {l : List Tk} (hl : TkOk l) (i0 : Nat) (σ : ST) (hw : Wf l σ) : PCalls Try.prog 27 [.ptr i0 0] (prS i0 l σ) fun p s => p = .d (slD (patsS l (l.length + 1) [] σ).1) ∧ s = prS i0 l (patsS l (l.length + 1) [] σ).2 := by
  have HG : ∃ r, r = patsS l (l.length + 1) [] σ := ⟨_, rfl⟩
  obtain ⟨r, hr⟩ := HG
  have HR := Lib.hid hr.symm
  rw [← hr]
  clear hr
  have HW := Lib.hid hw
  clear hw
  unfold slD
  refine PCalls.enter Try.func27 rfl Try.ntmps27 (by simp) ?_
  simp only [argsF]
  repeat (first | (with_reducible first | refine Qa ?_ | refine Qb ?_ | refine Qc ?_ | refine Qd ?_ | refine Qe ?_ | refine Qf ?_ | refine Qg ?_ | refine Qh ?_ | refine Qi ?_ | refine Qj ?_ | refine Qk ?_ | refine Ql ?_ | refine Qm ?_ | refine Qn ?_ | refine Qo ?_ | refine Qp rfl ?_) | (first | refine Qq ?_ | refine Qr ?_) | (first | refine Qs ?_ | refine Qt ?_ | refine Qu ?_) | (first | refine Qv ?_ | refine Qw ?_) | (first | refine Qx ?_ | refine Qy ?_) | (first | refine Qz ?_ | refine Ra ?_ | refine Rb ?_))
  refine PW_own 3 31 5 (by decide) (by simp [PF.get] <;> rfl) fun g hg => ?_
  refine PW_loop (ι := Nat × List Nd × ST) (fun y => Wf l y.2.2 ∧ 0 < y.1 ∧ (y.2.2.bad = 0 → l.length - y.2.2.i + 1 ≤ y.1) ∧ patsS l y.1 y.2.1 y.2.2 = r ∧ y.2.1.length ≤ 24) (fun y => [(0, .ptr i0 0), (3, .own g (y.2.1.map encD))])
    (fun y => .tok g 31 5 y.2.1.length :: prS i0 l y.2.2) (fun y => y.1) (l.length + 1, [], σ) ⟨HW.out, Nat.succ_pos _, fun _ => by simp only; omega, HR.out, Nat.zero_le _⟩ ?_ ?_ ?_
  · repeat (first | exact sub_nil _ | refine sub_cons (by simp [PF.get]; rfl) (by first | rfl | (simp [*]; done) | fail) ?_)
  · repeat (first | exact List.Sublist.refl _ | exact List.nil_sublist _ | refine List.Sublist.cons_cons _ ?_ | refine List.Sublist.cons _ ?_)
  · rintro ⟨m, acc, τ⟩ ⟨hw, hm0, hm, hr, hacc⟩
    simp only at hw hm0 hm hr hacc ⊢
    obtain ⟨m, rfl⟩ : ∃ k, m = k + 1 := ⟨m - 1, by omega⟩
    have b3 : τ.i ≤ 150000 := Nat.le_trans (hw.le hl) (by decide)
    have B0 := Lib.hid (pattern_p i0 l τ hl.len hl.pos b3)
    have B1 := Lib.hid (tok0_p i0 l τ hl.len hl.pos b3)
    simp only [patsS] at hr
    by_cases hz : τ.bad = 0
    · cases hbg : patternS l τ with
      | true =>
        rw [if_pos ⟨hz, hbg⟩] at hr
        by_cases h24 : 24 ≤ acc.length
        · rw [if_pos h24] at hr
          have hc24 : (24 : Int) ≤ (acc.length : Int) := by omega
          have B2 := Lib.hid (fail_p i0 l τ 2 (tkg l τ.i).at_)
          have HR2 := Lib.hid hr
          clear hr hm
          unfold prS
          repeat (first | (with_reducible first | refine Qa ?_ | refine Qb ?_ | refine Qc ?_ | refine Qd ?_ | refine Qe ?_ | refine Qf ?_ | refine Qg ?_ | refine Qh ?_ | refine Qi ?_ | refine Qj ?_ | refine Qk ?_ | refine Ql ?_ | refine Qm ?_ | refine Qn ?_ | refine Qo ?_ | refine Qp rfl ?_) | (first | refine Qq ?_ | refine Qr ?_) | (first | refine Qs ?_ | refine Qt ?_ | refine Qu ?_) | (first | refine Qv ?_ | refine Qw ?_) | (first | refine Qx ?_ | refine Qy ?_) | (first | refine Qz ?_ | refine Ra ?_ | refine Rb ?_))
          refine Rd 1 1 (B0.out) ?_
          rintro _ _ ⟨rfl, rfl⟩
          repeat (first | (with_reducible first | refine Qa ?_ | refine Qb ?_ | refine Qc ?_ | refine Qd ?_ | refine Qe ?_ | refine Qf ?_ | refine Qg ?_ | refine Qh ?_ | refine Qi ?_ | refine Qj ?_ | refine Qk ?_ | refine Ql ?_ | refine Qm ?_ | refine Qn ?_ | refine Qo ?_ | refine Qp rfl ?_) | (first | refine Qq ?_ | refine Qr ?_) | (first | refine Qs ?_ | refine Qt ?_ | refine Qu ?_) | (first | refine Qv ?_ | refine Qw ?_) | (first | refine Qx ?_ | refine Qy ?_) | (first | refine Qz ?_ | refine Ra ?_ | refine Rb ?_))
          refine Rd 1 1 (B1.out) ?_
          rintro _ _ ⟨rfl, rfl⟩
          repeat (first | (with_reducible first | refine Qa ?_ | refine Qb ?_ | refine Qc ?_ | refine Qd ?_ | refine Qe ?_ | refine Qf ?_ | refine Qg ?_ | refine Qh ?_ | refine Qi ?_ | refine Qj ?_ | refine Qk ?_ | refine Ql ?_ | refine Qm ?_ | refine Qn ?_ | refine Qo ?_ | refine Qp rfl ?_) | (first | refine Qq ?_ | refine Qr ?_) | (first | refine Qs ?_ | refine Qt ?_ | refine Qu ?_) | (first | refine Qv ?_ | refine Qw ?_) | (first | refine Qx ?_ | refine Qy ?_) | (first | refine Qz ?_ | refine Ra ?_ | refine Rb ?_))
          refine Rd 1 1 (B2.out) ?_
          rintro _ _ ⟨rfl, rfl⟩
          repeat (first | (with_reducible first | refine Qa ?_ | refine Qb ?_ | refine Qc ?_ | refine Qd ?_ | refine Qe ?_ | refine Qf ?_ | refine Qg ?_ | refine Qh ?_ | refine Qi ?_ | refine Qj ?_ | refine Qk ?_ | refine Ql ?_ | refine Qm ?_ | refine Qn ?_ | refine Qo ?_ | refine Qp rfl ?_) | (first | refine Qq ?_ | refine Qr ?_) | (first | refine Qs ?_ | refine Qt ?_ | refine Qu ?_) | (first | refine Qv ?_ | refine Qw ?_) | (first | refine Qx ?_ | refine Qy ?_) | (first | refine Qz ?_ | refine Ra ?_ | refine Rb ?_))
          refine retP_ok (st' := prS i0 l (failS 2 (tkg l τ.i).at_ τ)) (by simp) (by simp only [Try.results27]; rfl) (by simp [resP, St.box?, PF.get, loadB, TyK.agg, *]; rfl) (by repeat (first | exact List.Sublist.refl _ | exact List.nil_sublist _ | refine List.Sublist.cons_cons _ ?_ | refine List.Sublist.cons _ ?_)) ?_
          exact ⟨by rw [← HR2.out]; rfl, by rw [← HR2.out]; rfl⟩
        · rw [if_neg h24] at hr
          have hc24 : ¬ (24 : Int) ≤ (acc.length : Int) := by omega
          have hA := patF_adv hl hw
          have hA2 := hA.trans (checked_adv hl (patS l (patF l) τ).1 (tkg l τ.i).at_ hA.1)
          have c2 := (patterns_w hl (patF l)).2 τ hw ⟨by unfold patF; omega, fun _ => by unfold patF; omega⟩ i0
          have c3 := checked_p i0 l (patS l (patF l) τ).1 (tkg l τ.i).at_ (patS l (patF l) τ).2
          have HA := Lib.hid hA2
          have HM := Lib.hid hm
          have HR2 := Lib.hid hr
          clear hr hm hA hA2
          generalize (tkg l τ.i).at_ = at0 at *
          generalize (patS l (patF l) τ).1 = X at *
          generalize (patS l (patF l) τ).2 = τ1 at *
          generalize checkedS X at0 τ1 = τ2 at *
          simp only [aggD, encD_nd, List.map_cons, List.map_nil] at c2 c3
          have C2 := Lib.hid c2
          have C3 := Lib.hid c3
          clear c2 c3
          unfold prS
          repeat (first | (with_reducible first | refine Qa ?_ | refine Qb ?_ | refine Qc ?_ | refine Qd ?_ | refine Qe ?_ | refine Qf ?_ | refine Qg ?_ | refine Qh ?_ | refine Qi ?_ | refine Qj ?_ | refine Qk ?_ | refine Ql ?_ | refine Qm ?_ | refine Qn ?_ | refine Qo ?_ | refine Qp rfl ?_) | (first | refine Qq ?_ | refine Qr ?_) | (first | refine Qs ?_ | refine Qt ?_ | refine Qu ?_) | (first | refine Qv ?_ | refine Qw ?_) | (first | refine Qx ?_ | refine Qy ?_) | (first | refine Qz ?_ | refine Ra ?_ | refine Rb ?_))
          refine Rd 1 1 (B0.out) ?_
          rintro _ _ ⟨rfl, rfl⟩
          repeat (first | (with_reducible first | refine Qa ?_ | refine Qb ?_ | refine Qc ?_ | refine Qd ?_ | refine Qe ?_ | refine Qf ?_ | refine Qg ?_ | refine Qh ?_ | refine Qi ?_ | refine Qj ?_ | refine Qk ?_ | refine Ql ?_ | refine Qm ?_ | refine Qn ?_ | refine Qo ?_ | refine Qp rfl ?_) | (first | refine Qq ?_ | refine Qr ?_) | (first | refine Qs ?_ | refine Qt ?_ | refine Qu ?_) | (first | refine Qv ?_ | refine Qw ?_) | (first | refine Qx ?_ | refine Qy ?_) | (first | refine Qz ?_ | refine Ra ?_ | refine Rb ?_))
          refine Rd 1 1 (B1.out) ?_
          rintro _ _ ⟨rfl, rfl⟩
          repeat (first | (with_reducible first | refine Qa ?_ | refine Qb ?_ | refine Qc ?_ | refine Qd ?_ | refine Qe ?_ | refine Qf ?_ | refine Qg ?_ | refine Qh ?_ | refine Qi ?_ | refine Qj ?_ | refine Qk ?_ | refine Ql ?_ | refine Qm ?_ | refine Qn ?_ | refine Qo ?_ | refine Qp rfl ?_) | (first | refine Qq ?_ | refine Qr ?_) | (first | refine Qs ?_ | refine Qt ?_ | refine Qu ?_) | (first | refine Qv ?_ | refine Qw ?_) | (first | refine Qx ?_ | refine Qy ?_) | (first | refine Qz ?_ | refine Ra ?_ | refine Rb ?_))
          refine Rd 1 1 (C2.out) ?_
          rintro _ _ ⟨rfl, rfl⟩
          repeat (first | (with_reducible first | refine Qa ?_ | refine Qb ?_ | refine Qc ?_ | refine Qd ?_ | refine Qe ?_ | refine Qf ?_ | refine Qg ?_ | refine Qh ?_ | refine Qi ?_ | refine Qj ?_ | refine Qk ?_ | refine Ql ?_ | refine Qm ?_ | refine Qn ?_ | refine Qo ?_ | refine Qp rfl ?_) | (first | refine Qq ?_ | refine Qr ?_) | (first | refine Qs ?_ | refine Qt ?_ | refine Qu ?_) | (first | refine Qv ?_ | refine Qw ?_) | (first | refine Qx ?_ | refine Qy ?_) | (first | refine Qz ?_ | refine Ra ?_ | refine Rb ?_))
          refine Rd 1 1 (C3.out) ?_
          rintro _ _ ⟨rfl, rfl⟩
          repeat (first | (with_reducible first | refine Qa ?_ | refine Qb ?_ | refine Qc ?_ | refine Qd ?_ | refine Qe ?_ | refine Qf ?_ | refine Qg ?_ | refine Qh ?_ | refine Qi ?_ | refine Qj ?_ | refine Qk ?_ | refine Ql ?_ | refine Qm ?_ | refine Qn ?_ | refine Qo ?_ | refine Qp rfl ?_) | (first | refine Qq ?_ | refine Qr ?_) | (first | refine Qs ?_ | refine Qt ?_ | refine Qu ?_) | (first | refine Qv ?_ | refine Qw ?_) | (first | refine Qx ?_ | refine Qy ?_) | (first | refine Qz ?_ | refine Ra ?_ | refine Rb ?_))
          refine POps_bs_a ?_
          refine POps_app_a (acc.length + 1) ?_ ?_ ?_ ?_
          · simp
          · exact rows_map fun _ => encD_len _
          · exact rows_one rfl
          repeat (first | (with_reducible first | refine Qa ?_ | refine Qb ?_ | refine Qc ?_ | refine Qd ?_ | refine Qe ?_ | refine Qf ?_ | refine Qg ?_ | refine Qh ?_ | refine Qi ?_ | refine Qj ?_ | refine Qk ?_ | refine Ql ?_ | refine Qm ?_ | refine Qn ?_ | refine Qo ?_ | refine Qp rfl ?_) | (first | refine Qq ?_ | refine Qr ?_) | (first | refine Qs ?_ | refine Qt ?_ | refine Qu ?_) | (first | refine Qv ?_ | refine Qw ?_) | (first | refine Qx ?_ | refine Qy ?_) | (first | refine Qz ?_ | refine Ra ?_ | refine Rb ?_))
          refine ⟨(m, acc ++ [X], τ2), ⟨HA.out.1, ?_, fun hb => ?_, HR2.out, by simp only [List.length_append, List.length_cons, List.length_nil]; omega⟩, by simp only; omega, ?_, ?_⟩
          · have h1 := HM.out hz
            have h2 := hw
            unfold Wf at h2
            simp only
            omega
          · have h1 := HM.out hz
            have h2 := (HA.out.2 hb).2
            have h3 := HA.out.1
            unfold Wf at h3
            simp only
            omega
          · refine sub_cons (by simp [PF.get] <;> rfl) rfl ?_
            refine sub_cons (by simp [PF.get] <;> rfl) (by simp only [List.map_append, List.map_cons, List.map_nil, encD_nd X]) ?_
            repeat (first | exact sub_nil _ | refine sub_cons (by simp [PF.get]; rfl) (by first | rfl | (simp [*]; done) | fail) ?_)
          · simp only [List.length_append, List.length_cons, List.length_nil, Nat.zero_add]
            repeat (first | exact List.Sublist.refl _ | exact List.nil_sublist _ | refine List.Sublist.cons_cons _ ?_ | refine List.Sublist.cons _ ?_)
      | false =>
        rw [if_neg (by rw [hbg]; simp)] at hr
        have HR2 := Lib.hid hr
        clear hr hm
        unfold prS
        repeat (first | (with_reducible first | refine Qa ?_ | refine Qb ?_ | refine Qc ?_ | refine Qd ?_ | refine Qe ?_ | refine Qf ?_ | refine Qg ?_ | refine Qh ?_ | refine Qi ?_ | refine Qj ?_ | refine Qk ?_ | refine Ql ?_ | refine Qm ?_ | refine Qn ?_ | refine Qo ?_ | refine Qp rfl ?_) | (first | refine Qq ?_ | refine Qr ?_) | (first | refine Qs ?_ | refine Qt ?_ | refine Qu ?_) | (first | refine Qv ?_ | refine Qw ?_) | (first | refine Qx ?_ | refine Qy ?_) | (first | refine Qz ?_ | refine Ra ?_ | refine Rb ?_))
        refine Rd 1 1 (B0.out) ?_
        rintro _ _ ⟨rfl, rfl⟩
        repeat (first | (with_reducible first | refine Qa ?_ | refine Qb ?_ | refine Qc ?_ | refine Qd ?_ | refine Qe ?_ | refine Qf ?_ | refine Qg ?_ | refine Qh ?_ | refine Qi ?_ | refine Qj ?_ | refine Qk ?_ | refine Ql ?_ | refine Qm ?_ | refine Qn ?_ | refine Qo ?_ | refine Qp rfl ?_) | (first | refine Qq ?_ | refine Qr ?_) | (first | refine Qs ?_ | refine Qt ?_ | refine Qu ?_) | (first | refine Qv ?_ | refine Qw ?_) | (first | refine Qx ?_ | refine Qy ?_) | (first | refine Qz ?_ | refine Ra ?_ | refine Rb ?_))
        refine retP_ok (st' := prS i0 l τ) (by simp) (by simp only [Try.results27]; rfl) (by simp [resP, St.box?, PF.get, loadB, TyK.agg, *]; rfl) (by repeat (first | exact List.Sublist.refl _ | exact List.nil_sublist _ | refine List.Sublist.cons_cons _ ?_ | refine List.Sublist.cons _ ?_)) ?_
        exact ⟨by rw [← HR2.out]; rfl, by rw [← HR2.out]; rfl⟩
    · rw [if_neg (by simp [hz])] at hr
      have HR2 := Lib.hid hr
      clear hr hm
      unfold prS
      repeat (first | (with_reducible first | refine Qa ?_ | refine Qb ?_ | refine Qc ?_ | refine Qd ?_ | refine Qe ?_ | refine Qf ?_ | refine Qg ?_ | refine Qh ?_ | refine Qi ?_ | refine Qj ?_ | refine Qk ?_ | refine Ql ?_ | refine Qm ?_ | refine Qn ?_ | refine Qo ?_ | refine Qp rfl ?_) | (first | refine Qq ?_ | refine Qr ?_) | (first | refine Qs ?_ | refine Qt ?_ | refine Qu ?_) | (first | refine Qv ?_ | refine Qw ?_) | (first | refine Qx ?_ | refine Qy ?_) | (first | refine Qz ?_ | refine Ra ?_ | refine Rb ?_))
      refine retP_ok (st' := prS i0 l τ) (by simp) (by simp only [Try.results27]; rfl) (by simp [resP, St.box?, PF.get, loadB, TyK.agg, *]; rfl) (by repeat (first | exact List.Sublist.refl _ | exact List.nil_sublist _ | refine List.Sublist.cons_cons _ ?_ | refine List.Sublist.cons _ ?_)) ?_
      exact ⟨by rw [← HR2.out]; rfl, by rw [← HR2.out]; rfl⟩
end Go.Proofs.Ytahhgpafjiljfaa

namespace Go.Proofs.Ytahhgpafjiljfaa
open Go.RowKit
set_option maxRecDepth 100000
section
variable {l : List Tk} (hl : TkOk l)
include hl
theorem row_adv {σ : ST} (h : Wf l σ) : AdvS l σ (rowS l σ).2 := by
  unfold rowS
  have h1 := pats_adv hl (l.length + 1) [] σ h
  simp only
  split
  · rename_i he
    have h2 := h1.trans (inc_adv hl (mark_k he.2)).adv
    have h3 := h2.trans (exprF_adv hl h2.1)
    exact h3.transS (want_adv hl sSem h3.1)
  · exact h1.transS (want_adv hl sSem h1.1)
theorem rows_adv : ∀ (n : Nat) (acc : List Rw) (σ : ST), Wf l σ → Adv l σ (rowsS l n acc σ).2 := by
  intro n
  induction n with
  | zero => intro acc σ h; exact Adv.refl h
  | succ n ih =>
    intro acc σ h
    simp only [rowsS]
    split
    · split
      · exact (fail_adv hl 2 _ (by decide) h).adv
      · have h1 := row_adv hl h
        exact h1.adv.trans (ih _ _ h1.1)
    · exact Adv.refl h
theorem list_adv {most : Nat} {more : ST → Bool} {one : ST → Bd × ST} (ho : ∀ σ, Wf l σ → AdvS l σ (one σ).2) : ∀ (n : Nat) (acc : List Bd) (σ : ST), Wf l σ → Adv l σ (listS l most more one n acc σ).2 := by
  intro n
  induction n with
  | zero => intro acc σ h; exact Adv.refl h
  | succ n ih =>
    intro acc σ h
    simp only [listS]
    split
    · split
      · exact (fail_adv hl 2 _ (by decide) h).adv
      · have h1 := ho σ h
        exact h1.adv.trans (ih _ _ h1.1)
    · exact Adv.refl h
end
set_option maxHeartbeats 2000000 in
theorem row_p' {l : List Tk} (hl : TkOk l) (i0 : Nat) (σ : ST) (hw : Wf l σ) : PCalls Try.prog 89 [.ptr i0 0] (prS i0 l σ) fun p s => p = aggD (rowS l σ).1 ∧ s = prS i0 l (rowS l σ).2 := by
  have b1 : σ.i ≤ 150000 := Nat.le_trans (hw.le hl) (by decide)
  have h1 := pats_adv hl (l.length + 1) [] σ hw
  have c0 := Lib.hid (tok0_p i0 l σ hl.len hl.pos b1)
  have c1 := pats_p hl i0 σ hw
  have HT := Lib.hid (show rowS l σ = (if (patsS l (l.length + 1) [] σ).2.bad = 0 ∧ isS l (patsS l (l.length + 1) [] σ).2 0 sEq then (⟨(tkg l σ.i).at_, (patsS l (l.length + 1) [] σ).1, true, (exprS l (exprF l) (incS (patsS l (l.length + 1) [] σ).2)).1⟩, wantS l sSem (exprS l (exprF l) (incS (patsS l (l.length + 1) [] σ).2)).2) else (⟨(tkg l σ.i).at_, (patsS l (l.length + 1) [] σ).1, false, zNd⟩, wantS l sSem (patsS l (l.length + 1) [] σ).2)) from rfl)
  rw [HT.out]
  clear HT
  generalize (patsS l (l.length + 1) [] σ).1 = ps at *
  generalize (patsS l (l.length + 1) [] σ).2 = σ1 at *
  generalize (tkg l σ.i).at_ = at0 at *
  have hw1 := h1.1
  clear h1
  have b2 : σ1.i ≤ 150000 := Nat.le_trans (hw1.le hl) (by decide)
  have c2 := Lib.hid (is_p i0 l σ1 0 0 rfl sEq hl.len hl.pos (by omega) (by decide))
  unfold sEq at c2
  unfold slD at c1
  have C1 := Lib.hid c1
  clear c1
  by_cases hz : σ1.bad = 0
  · cases he : isS l σ1 0 sEq with
    | true =>
      have h2 := inc_adv hl (mark_k he)
      unfold sEq at he
      rw [if_pos ⟨hz, rfl⟩]
      have c3 := expr_full hl i0 _ h2.1
      have c4 := want_p i0 l _ sSem hl.len hl.pos (Nat.le_trans ((exprF_adv hl h2.1).1.le hl) (by decide))
      have hin := wrap_i b2
      clear h2
      obtain ⟨i, a, b⟩ := σ1
      simp only at hz hin b2
      subst hz
      generalize (exprS l (exprF l) (incS ⟨i, a, 0⟩)).1 = A at *
      generalize (exprS l (exprF l) (incS ⟨i, a, 0⟩)).2 = σ3 at *
      generalize wantS l sSem σ3 = σ4 at *
      unfold sSem at c4
      simp only [aggD, encD_nd, encD_rw, List.map_cons, List.map_nil] at c3 ⊢
      have C3 := Lib.hid c3
      have C4 := Lib.hid c4
      clear c3 c4
      refine PCalls.enter Try.func89 rfl Try.ntmps89 (by simp) ?_
      simp only [argsF]
      repeat (first | (with_reducible first | refine Qa ?_ | refine Qb ?_ | refine Qc ?_ | refine Qd ?_ | refine Qe ?_ | refine Qf ?_ | refine Qg ?_ | refine Qh ?_ | refine Qi ?_ | refine Qj ?_ | refine Qk ?_ | refine Ql ?_ | refine Qm ?_ | refine Qn ?_ | refine Qo ?_ | refine Qp rfl ?_) | (first | refine Qq ?_ | refine Qr ?_) | (first | refine Qs ?_ | refine Qt ?_ | refine Qu ?_) | (first | refine Qv ?_ | refine Qw ?_) | (first | refine Qx ?_ | refine Qy ?_) | (first | refine Qz ?_ | refine Ra ?_ | refine Rb ?_))
      refine POps_alloc_a ?_
      intro i1 hi1
      simp only [prS, List.cons_append, List.nil_append, List.append_nil, List.drop_succ_cons, List.drop_zero, List.drop_nil, St.freshB_box, St.freshB_nil, St.freshB_tok, St.freshB_obj] at hi1
      repeat (first | (with_reducible first | refine Qa ?_ | refine Qb ?_ | refine Qc ?_ | refine Qd ?_ | refine Qe ?_ | refine Qf ?_ | refine Qg ?_ | refine Qh ?_ | refine Qi ?_ | refine Qj ?_ | refine Qk ?_ | refine Ql ?_ | refine Qm ?_ | refine Qn ?_ | refine Qo ?_ | refine Qp rfl ?_) | (first | refine Qq ?_ | refine Qr ?_) | (first | refine Qs ?_ | refine Qt ?_ | refine Qu ?_) | (first | refine Qv ?_ | refine Qw ?_) | (first | refine Qx ?_ | refine Qy ?_) | (first | refine Qz ?_ | refine Ra ?_ | refine Rb ?_))
      refine Rd 1 1 (c0.out) ?_
      rintro _ _ ⟨rfl, rfl⟩
      repeat (first | (with_reducible first | refine Qa ?_ | refine Qb ?_ | refine Qc ?_ | refine Qd ?_ | refine Qe ?_ | refine Qf ?_ | refine Qg ?_ | refine Qh ?_ | refine Qi ?_ | refine Qj ?_ | refine Qk ?_ | refine Ql ?_ | refine Qm ?_ | refine Qn ?_ | refine Qo ?_ | refine Qp rfl ?_) | (first | refine Qq ?_ | refine Qr ?_) | (first | refine Qs ?_ | refine Qt ?_ | refine Qu ?_) | (first | refine Qv ?_ | refine Qw ?_) | (first | refine Qx ?_ | refine Qy ?_) | (first | refine Qz ?_ | refine Ra ?_ | refine Rb ?_))
      refine Rd 1 1 (C1.out) ?_
      rintro _ _ ⟨rfl, rfl⟩
      repeat (first | (with_reducible first | refine Qa ?_ | refine Qb ?_ | refine Qc ?_ | refine Qd ?_ | refine Qe ?_ | refine Qf ?_ | refine Qg ?_ | refine Qh ?_ | refine Qi ?_ | refine Qj ?_ | refine Qk ?_ | refine Ql ?_ | refine Qm ?_ | refine Qn ?_ | refine Qo ?_ | refine Qp rfl ?_) | (first | refine Qq ?_ | refine Qr ?_) | (first | refine Qs ?_ | refine Qt ?_ | refine Qu ?_) | (first | refine Qv ?_ | refine Qw ?_) | (first | refine Qx ?_ | refine Qy ?_) | (first | refine Qz ?_ | refine Ra ?_ | refine Rb ?_))
      refine POps_alloc_a ?_
      intro i2 hi2
      simp only [prS, List.cons_append, List.nil_append, List.append_nil, List.drop_succ_cons, List.drop_zero, List.drop_nil, St.freshB_box, St.freshB_nil, St.freshB_tok, St.freshB_obj] at hi2
      repeat (first | (with_reducible first | refine Qa ?_ | refine Qb ?_ | refine Qc ?_ | refine Qd ?_ | refine Qe ?_ | refine Qf ?_ | refine Qg ?_ | refine Qh ?_ | refine Qi ?_ | refine Qj ?_ | refine Qk ?_ | refine Ql ?_ | refine Qm ?_ | refine Qn ?_ | refine Qo ?_ | refine Qp rfl ?_) | (first | refine Qq ?_ | refine Qr ?_) | (first | refine Qs ?_ | refine Qt ?_ | refine Qu ?_) | (first | refine Qv ?_ | refine Qw ?_) | (first | refine Qx ?_ | refine Qy ?_) | (first | refine Qz ?_ | refine Ra ?_ | refine Rb ?_))
      refine Rc ?_
      unfold prS
      repeat (first | (with_reducible first | refine Qa ?_ | refine Qb ?_ | refine Qc ?_ | refine Qd ?_ | refine Qe ?_ | refine Qf ?_ | refine Qg ?_ | refine Qh ?_ | refine Qi ?_ | refine Qj ?_ | refine Qk ?_ | refine Ql ?_ | refine Qm ?_ | refine Qn ?_ | refine Qo ?_ | refine Qp rfl ?_) | (first | refine Qq ?_ | refine Qr ?_) | (first | refine Qs ?_ | refine Qt ?_ | refine Qu ?_) | (first | refine Qv ?_ | refine Qw ?_) | (first | refine Qx ?_ | refine Qy ?_) | (first | refine Qz ?_ | refine Ra ?_ | refine Rb ?_))
      refine Rd 2 1 (c2.out) ?_
      rintro _ _ ⟨rfl, rfl⟩
      unfold prS
      repeat (first | (with_reducible first | refine Qa ?_ | refine Qb ?_ | refine Qc ?_ | refine Qd ?_ | refine Qe ?_ | refine Qf ?_ | refine Qg ?_ | refine Qh ?_ | refine Qi ?_ | refine Qj ?_ | refine Qk ?_ | refine Ql ?_ | refine Qm ?_ | refine Qn ?_ | refine Qo ?_ | refine Qp rfl ?_) | (first | refine Qq ?_ | refine Qr ?_) | (first | refine Qs ?_ | refine Qt ?_ | refine Qu ?_) | (first | refine Qv ?_ | refine Qw ?_) | (first | refine Qx ?_ | refine Qy ?_) | (first | refine Qz ?_ | refine Ra ?_ | refine Rb ?_))
      refine Rc ?_
      repeat (first | (with_reducible first | refine Qa ?_ | refine Qb ?_ | refine Qc ?_ | refine Qd ?_ | refine Qe ?_ | refine Qf ?_ | refine Qg ?_ | refine Qh ?_ | refine Qi ?_ | refine Qj ?_ | refine Qk ?_ | refine Ql ?_ | refine Qm ?_ | refine Qn ?_ | refine Qo ?_ | refine Qp rfl ?_) | (first | refine Qq ?_ | refine Qr ?_) | (first | refine Qs ?_ | refine Qt ?_ | refine Qu ?_) | (first | refine Qv ?_ | refine Qw ?_) | (first | refine Qx ?_ | refine Qy ?_) | (first | refine Qz ?_ | refine Ra ?_ | refine Rb ?_))
      refine Rd 2 1 (C3.out) ?_
      rintro _ _ ⟨rfl, rfl⟩
      repeat (first | (with_reducible first | refine Qa ?_ | refine Qb ?_ | refine Qc ?_ | refine Qd ?_ | refine Qe ?_ | refine Qf ?_ | refine Qg ?_ | refine Qh ?_ | refine Qi ?_ | refine Qj ?_ | refine Qk ?_ | refine Ql ?_ | refine Qm ?_ | refine Qn ?_ | refine Qo ?_ | refine Qp rfl ?_) | (first | refine Qq ?_ | refine Qr ?_) | (first | refine Qs ?_ | refine Qt ?_ | refine Qu ?_) | (first | refine Qv ?_ | refine Qw ?_) | (first | refine Qx ?_ | refine Qy ?_) | (first | refine Qz ?_ | refine Ra ?_ | refine Rb ?_))
      refine Rc ?_
      repeat (first | (with_reducible first | refine Qa ?_ | refine Qb ?_ | refine Qc ?_ | refine Qd ?_ | refine Qe ?_ | refine Qf ?_ | refine Qg ?_ | refine Qh ?_ | refine Qi ?_ | refine Qj ?_ | refine Qk ?_ | refine Ql ?_ | refine Qm ?_ | refine Qn ?_ | refine Qo ?_ | refine Qp rfl ?_) | (first | refine Qq ?_ | refine Qr ?_) | (first | refine Qs ?_ | refine Qt ?_ | refine Qu ?_) | (first | refine Qv ?_ | refine Qw ?_) | (first | refine Qx ?_ | refine Qy ?_) | (first | refine Qz ?_ | refine Ra ?_ | refine Rb ?_))
      refine Rc ?_
      repeat (first | (with_reducible first | refine Qa ?_ | refine Qb ?_ | refine Qc ?_ | refine Qd ?_ | refine Qe ?_ | refine Qf ?_ | refine Qg ?_ | refine Qh ?_ | refine Qi ?_ | refine Qj ?_ | refine Qk ?_ | refine Ql ?_ | refine Qm ?_ | refine Qn ?_ | refine Qo ?_ | refine Qp rfl ?_) | (first | refine Qq ?_ | refine Qr ?_) | (first | refine Qs ?_ | refine Qt ?_ | refine Qu ?_) | (first | refine Qv ?_ | refine Qw ?_) | (first | refine Qx ?_ | refine Qy ?_) | (first | refine Qz ?_ | refine Ra ?_ | refine Rb ?_))
      refine Rd 2 1 (C4.out) ?_
      rintro _ _ ⟨rfl, rfl⟩
      repeat (first | (with_reducible first | refine Qa ?_ | refine Qb ?_ | refine Qc ?_ | refine Qd ?_ | refine Qe ?_ | refine Qf ?_ | refine Qg ?_ | refine Qh ?_ | refine Qi ?_ | refine Qj ?_ | refine Qk ?_ | refine Ql ?_ | refine Qm ?_ | refine Qn ?_ | refine Qo ?_ | refine Qp rfl ?_) | (first | refine Qq ?_ | refine Qr ?_) | (first | refine Qs ?_ | refine Qt ?_ | refine Qu ?_) | (first | refine Qv ?_ | refine Qw ?_) | (first | refine Qx ?_ | refine Qy ?_) | (first | refine Qz ?_ | refine Ra ?_ | refine Rb ?_))
      refine Rc ?_
      repeat (first | (with_reducible first | refine Qa ?_ | refine Qb ?_ | refine Qc ?_ | refine Qd ?_ | refine Qe ?_ | refine Qf ?_ | refine Qg ?_ | refine Qh ?_ | refine Qi ?_ | refine Qj ?_ | refine Qk ?_ | refine Ql ?_ | refine Qm ?_ | refine Qn ?_ | refine Qo ?_ | refine Qp rfl ?_) | (first | refine Qq ?_ | refine Qr ?_) | (first | refine Qs ?_ | refine Qt ?_ | refine Qu ?_) | (first | refine Qv ?_ | refine Qw ?_) | (first | refine Qx ?_ | refine Qy ?_) | (first | refine Qz ?_ | refine Ra ?_ | refine Rb ?_))
      refine retP_ok (st' := prS i0 l σ4) (by simp) (by simp only [Try.results89]; rfl) (by simp [resP, St.box?, PF.get, loadB, TyK.agg, *]; rfl) (by repeat (first | exact List.Sublist.refl _ | exact List.nil_sublist _ | refine List.Sublist.cons_cons _ ?_ | refine List.Sublist.cons _ ?_)) ?_
      exact ⟨rfl, rfl⟩
    | false =>
      unfold sEq at he
      rw [if_neg (by simp)]
      have c4 := want_p i0 l σ1 sSem hl.len hl.pos b2
      generalize wantS l sSem σ1 = σ4 at *
      unfold sSem at c4
      unfold zNd
      simp only [aggD, encD_nd, encD_rw, List.map_cons, List.map_nil, Nd.kind, Nd.at, Nd.name, Nd.num, Nd.sub]
      have C4 := Lib.hid c4
      clear c4
      refine PCalls.enter Try.func89 rfl Try.ntmps89 (by simp) ?_
      simp only [argsF]
      repeat (first | (with_reducible first | refine Qa ?_ | refine Qb ?_ | refine Qc ?_ | refine Qd ?_ | refine Qe ?_ | refine Qf ?_ | refine Qg ?_ | refine Qh ?_ | refine Qi ?_ | refine Qj ?_ | refine Qk ?_ | refine Ql ?_ | refine Qm ?_ | refine Qn ?_ | refine Qo ?_ | refine Qp rfl ?_) | (first | refine Qq ?_ | refine Qr ?_) | (first | refine Qs ?_ | refine Qt ?_ | refine Qu ?_) | (first | refine Qv ?_ | refine Qw ?_) | (first | refine Qx ?_ | refine Qy ?_) | (first | refine Qz ?_ | refine Ra ?_ | refine Rb ?_))
      refine POps_alloc_a ?_
      intro i1 hi1
      simp only [prS, List.cons_append, List.nil_append, List.append_nil, List.drop_succ_cons, List.drop_zero, List.drop_nil, St.freshB_box, St.freshB_nil, St.freshB_tok, St.freshB_obj] at hi1
      repeat (first | (with_reducible first | refine Qa ?_ | refine Qb ?_ | refine Qc ?_ | refine Qd ?_ | refine Qe ?_ | refine Qf ?_ | refine Qg ?_ | refine Qh ?_ | refine Qi ?_ | refine Qj ?_ | refine Qk ?_ | refine Ql ?_ | refine Qm ?_ | refine Qn ?_ | refine Qo ?_ | refine Qp rfl ?_) | (first | refine Qq ?_ | refine Qr ?_) | (first | refine Qs ?_ | refine Qt ?_ | refine Qu ?_) | (first | refine Qv ?_ | refine Qw ?_) | (first | refine Qx ?_ | refine Qy ?_) | (first | refine Qz ?_ | refine Ra ?_ | refine Rb ?_))
      refine Rd 1 1 (c0.out) ?_
      rintro _ _ ⟨rfl, rfl⟩
      repeat (first | (with_reducible first | refine Qa ?_ | refine Qb ?_ | refine Qc ?_ | refine Qd ?_ | refine Qe ?_ | refine Qf ?_ | refine Qg ?_ | refine Qh ?_ | refine Qi ?_ | refine Qj ?_ | refine Qk ?_ | refine Ql ?_ | refine Qm ?_ | refine Qn ?_ | refine Qo ?_ | refine Qp rfl ?_) | (first | refine Qq ?_ | refine Qr ?_) | (first | refine Qs ?_ | refine Qt ?_ | refine Qu ?_) | (first | refine Qv ?_ | refine Qw ?_) | (first | refine Qx ?_ | refine Qy ?_) | (first | refine Qz ?_ | refine Ra ?_ | refine Rb ?_))
      refine Rd 1 1 (C1.out) ?_
      rintro _ _ ⟨rfl, rfl⟩
      repeat (first | (with_reducible first | refine Qa ?_ | refine Qb ?_ | refine Qc ?_ | refine Qd ?_ | refine Qe ?_ | refine Qf ?_ | refine Qg ?_ | refine Qh ?_ | refine Qi ?_ | refine Qj ?_ | refine Qk ?_ | refine Ql ?_ | refine Qm ?_ | refine Qn ?_ | refine Qo ?_ | refine Qp rfl ?_) | (first | refine Qq ?_ | refine Qr ?_) | (first | refine Qs ?_ | refine Qt ?_ | refine Qu ?_) | (first | refine Qv ?_ | refine Qw ?_) | (first | refine Qx ?_ | refine Qy ?_) | (first | refine Qz ?_ | refine Ra ?_ | refine Rb ?_))
      refine POps_alloc_a ?_
      intro i2 hi2
      simp only [prS, List.cons_append, List.nil_append, List.append_nil, List.drop_succ_cons, List.drop_zero, List.drop_nil, St.freshB_box, St.freshB_nil, St.freshB_tok, St.freshB_obj] at hi2
      repeat (first | (with_reducible first | refine Qa ?_ | refine Qb ?_ | refine Qc ?_ | refine Qd ?_ | refine Qe ?_ | refine Qf ?_ | refine Qg ?_ | refine Qh ?_ | refine Qi ?_ | refine Qj ?_ | refine Qk ?_ | refine Ql ?_ | refine Qm ?_ | refine Qn ?_ | refine Qo ?_ | refine Qp rfl ?_) | (first | refine Qq ?_ | refine Qr ?_) | (first | refine Qs ?_ | refine Qt ?_ | refine Qu ?_) | (first | refine Qv ?_ | refine Qw ?_) | (first | refine Qx ?_ | refine Qy ?_) | (first | refine Qz ?_ | refine Ra ?_ | refine Rb ?_))
      refine Rc ?_
      unfold prS
      repeat (first | (with_reducible first | refine Qa ?_ | refine Qb ?_ | refine Qc ?_ | refine Qd ?_ | refine Qe ?_ | refine Qf ?_ | refine Qg ?_ | refine Qh ?_ | refine Qi ?_ | refine Qj ?_ | refine Qk ?_ | refine Ql ?_ | refine Qm ?_ | refine Qn ?_ | refine Qo ?_ | refine Qp rfl ?_) | (first | refine Qq ?_ | refine Qr ?_) | (first | refine Qs ?_ | refine Qt ?_ | refine Qu ?_) | (first | refine Qv ?_ | refine Qw ?_) | (first | refine Qx ?_ | refine Qy ?_) | (first | refine Qz ?_ | refine Ra ?_ | refine Rb ?_))
      refine Rd 2 1 (c2.out) ?_
      rintro _ _ ⟨rfl, rfl⟩
      repeat (first | (with_reducible first | refine Qa ?_ | refine Qb ?_ | refine Qc ?_ | refine Qd ?_ | refine Qe ?_ | refine Qf ?_ | refine Qg ?_ | refine Qh ?_ | refine Qi ?_ | refine Qj ?_ | refine Qk ?_ | refine Ql ?_ | refine Qm ?_ | refine Qn ?_ | refine Qo ?_ | refine Qp rfl ?_) | (first | refine Qq ?_ | refine Qr ?_) | (first | refine Qs ?_ | refine Qt ?_ | refine Qu ?_) | (first | refine Qv ?_ | refine Qw ?_) | (first | refine Qx ?_ | refine Qy ?_) | (first | refine Qz ?_ | refine Ra ?_ | refine Rb ?_))
      refine Rd 2 1 (C4.out) ?_
      rintro _ _ ⟨rfl, rfl⟩
      repeat (first | (with_reducible first | refine Qa ?_ | refine Qb ?_ | refine Qc ?_ | refine Qd ?_ | refine Qe ?_ | refine Qf ?_ | refine Qg ?_ | refine Qh ?_ | refine Qi ?_ | refine Qj ?_ | refine Qk ?_ | refine Ql ?_ | refine Qm ?_ | refine Qn ?_ | refine Qo ?_ | refine Qp rfl ?_) | (first | refine Qq ?_ | refine Qr ?_) | (first | refine Qs ?_ | refine Qt ?_ | refine Qu ?_) | (first | refine Qv ?_ | refine Qw ?_) | (first | refine Qx ?_ | refine Qy ?_) | (first | refine Qz ?_ | refine Ra ?_ | refine Rb ?_))
      refine Rc ?_
      repeat (first | (with_reducible first | refine Qa ?_ | refine Qb ?_ | refine Qc ?_ | refine Qd ?_ | refine Qe ?_ | refine Qf ?_ | refine Qg ?_ | refine Qh ?_ | refine Qi ?_ | refine Qj ?_ | refine Qk ?_ | refine Ql ?_ | refine Qm ?_ | refine Qn ?_ | refine Qo ?_ | refine Qp rfl ?_) | (first | refine Qq ?_ | refine Qr ?_) | (first | refine Qs ?_ | refine Qt ?_ | refine Qu ?_) | (first | refine Qv ?_ | refine Qw ?_) | (first | refine Qx ?_ | refine Qy ?_) | (first | refine Qz ?_ | refine Ra ?_ | refine Rb ?_))
      refine retP_ok (st' := prS i0 l σ4) (by simp) (by simp only [Try.results89]; rfl) (by simp [resP, St.box?, PF.get, loadB, TyK.agg, *]; rfl) (by repeat (first | exact List.Sublist.refl _ | exact List.nil_sublist _ | refine List.Sublist.cons_cons _ ?_ | refine List.Sublist.cons _ ?_)) ?_
      exact ⟨rfl, rfl⟩
  · rw [if_neg (by simp [hz])]
    have c4 := want_p i0 l σ1 sSem hl.len hl.pos b2
    generalize wantS l sSem σ1 = σ4 at *
    unfold sSem at c4
    unfold zNd
    simp only [aggD, encD_nd, encD_rw, List.map_cons, List.map_nil, Nd.kind, Nd.at, Nd.name, Nd.num, Nd.sub]
    have C4 := Lib.hid c4
    clear c4
    refine PCalls.enter Try.func89 rfl Try.ntmps89 (by simp) ?_
    simp only [argsF]
    repeat (first | (with_reducible first | refine Qa ?_ | refine Qb ?_ | refine Qc ?_ | refine Qd ?_ | refine Qe ?_ | refine Qf ?_ | refine Qg ?_ | refine Qh ?_ | refine Qi ?_ | refine Qj ?_ | refine Qk ?_ | refine Ql ?_ | refine Qm ?_ | refine Qn ?_ | refine Qo ?_ | refine Qp rfl ?_) | (first | refine Qq ?_ | refine Qr ?_) | (first | refine Qs ?_ | refine Qt ?_ | refine Qu ?_) | (first | refine Qv ?_ | refine Qw ?_) | (first | refine Qx ?_ | refine Qy ?_) | (first | refine Qz ?_ | refine Ra ?_ | refine Rb ?_))
    refine POps_alloc_a ?_
    intro i1 hi1
    simp only [prS, List.cons_append, List.nil_append, List.append_nil, List.drop_succ_cons, List.drop_zero, List.drop_nil, St.freshB_box, St.freshB_nil, St.freshB_tok, St.freshB_obj] at hi1
    repeat (first | (with_reducible first | refine Qa ?_ | refine Qb ?_ | refine Qc ?_ | refine Qd ?_ | refine Qe ?_ | refine Qf ?_ | refine Qg ?_ | refine Qh ?_ | refine Qi ?_ | refine Qj ?_ | refine Qk ?_ | refine Ql ?_ | refine Qm ?_ | refine Qn ?_ | refine Qo ?_ | refine Qp rfl ?_) | (first | refine Qq ?_ | refine Qr ?_) | (first | refine Qs ?_ | refine Qt ?_ | refine Qu ?_) | (first | refine Qv ?_ | refine Qw ?_) | (first | refine Qx ?_ | refine Qy ?_) | (first | refine Qz ?_ | refine Ra ?_ | refine Rb ?_))
    refine Rd 1 1 (c0.out) ?_
    rintro _ _ ⟨rfl, rfl⟩
    repeat (first | (with_reducible first | refine Qa ?_ | refine Qb ?_ | refine Qc ?_ | refine Qd ?_ | refine Qe ?_ | refine Qf ?_ | refine Qg ?_ | refine Qh ?_ | refine Qi ?_ | refine Qj ?_ | refine Qk ?_ | refine Ql ?_ | refine Qm ?_ | refine Qn ?_ | refine Qo ?_ | refine Qp rfl ?_) | (first | refine Qq ?_ | refine Qr ?_) | (first | refine Qs ?_ | refine Qt ?_ | refine Qu ?_) | (first | refine Qv ?_ | refine Qw ?_) | (first | refine Qx ?_ | refine Qy ?_) | (first | refine Qz ?_ | refine Ra ?_ | refine Rb ?_))
    refine Rd 1 1 (C1.out) ?_
    rintro _ _ ⟨rfl, rfl⟩
    repeat (first | (with_reducible first | refine Qa ?_ | refine Qb ?_ | refine Qc ?_ | refine Qd ?_ | refine Qe ?_ | refine Qf ?_ | refine Qg ?_ | refine Qh ?_ | refine Qi ?_ | refine Qj ?_ | refine Qk ?_ | refine Ql ?_ | refine Qm ?_ | refine Qn ?_ | refine Qo ?_ | refine Qp rfl ?_) | (first | refine Qq ?_ | refine Qr ?_) | (first | refine Qs ?_ | refine Qt ?_ | refine Qu ?_) | (first | refine Qv ?_ | refine Qw ?_) | (first | refine Qx ?_ | refine Qy ?_) | (first | refine Qz ?_ | refine Ra ?_ | refine Rb ?_))
    refine POps_alloc_a ?_
    intro i2 hi2
    simp only [prS, List.cons_append, List.nil_append, List.append_nil, List.drop_succ_cons, List.drop_zero, List.drop_nil, St.freshB_box, St.freshB_nil, St.freshB_tok, St.freshB_obj] at hi2
    repeat (first | (with_reducible first | refine Qa ?_ | refine Qb ?_ | refine Qc ?_ | refine Qd ?_ | refine Qe ?_ | refine Qf ?_ | refine Qg ?_ | refine Qh ?_ | refine Qi ?_ | refine Qj ?_ | refine Qk ?_ | refine Ql ?_ | refine Qm ?_ | refine Qn ?_ | refine Qo ?_ | refine Qp rfl ?_) | (first | refine Qq ?_ | refine Qr ?_) | (first | refine Qs ?_ | refine Qt ?_ | refine Qu ?_) | (first | refine Qv ?_ | refine Qw ?_) | (first | refine Qx ?_ | refine Qy ?_) | (first | refine Qz ?_ | refine Ra ?_ | refine Rb ?_))
    refine Rc ?_
    unfold prS
    repeat (first | (with_reducible first | refine Qa ?_ | refine Qb ?_ | refine Qc ?_ | refine Qd ?_ | refine Qe ?_ | refine Qf ?_ | refine Qg ?_ | refine Qh ?_ | refine Qi ?_ | refine Qj ?_ | refine Qk ?_ | refine Ql ?_ | refine Qm ?_ | refine Qn ?_ | refine Qo ?_ | refine Qp rfl ?_) | (first | refine Qq ?_ | refine Qr ?_) | (first | refine Qs ?_ | refine Qt ?_ | refine Qu ?_) | (first | refine Qv ?_ | refine Qw ?_) | (first | refine Qx ?_ | refine Qy ?_) | (first | refine Qz ?_ | refine Ra ?_ | refine Rb ?_))
    refine Rd 2 1 (C4.out) ?_
    rintro _ _ ⟨rfl, rfl⟩
    repeat (first | (with_reducible first | refine Qa ?_ | refine Qb ?_ | refine Qc ?_ | refine Qd ?_ | refine Qe ?_ | refine Qf ?_ | refine Qg ?_ | refine Qh ?_ | refine Qi ?_ | refine Qj ?_ | refine Qk ?_ | refine Ql ?_ | refine Qm ?_ | refine Qn ?_ | refine Qo ?_ | refine Qp rfl ?_) | (first | refine Qq ?_ | refine Qr ?_) | (first | refine Qs ?_ | refine Qt ?_ | refine Qu ?_) | (first | refine Qv ?_ | refine Qw ?_) | (first | refine Qx ?_ | refine Qy ?_) | (first | refine Qz ?_ | refine Ra ?_ | refine Rb ?_))
    refine Rc ?_
    repeat (first | (with_reducible first | refine Qa ?_ | refine Qb ?_ | refine Qc ?_ | refine Qd ?_ | refine Qe ?_ | refine Qf ?_ | refine Qg ?_ | refine Qh ?_ | refine Qi ?_ | refine Qj ?_ | refine Qk ?_ | refine Ql ?_ | refine Qm ?_ | refine Qn ?_ | refine Qo ?_ | refine Qp rfl ?_) | (first | refine Qq ?_ | refine Qr ?_) | (first | refine Qs ?_ | refine Qt ?_ | refine Qu ?_) | (first | refine Qv ?_ | refine Qw ?_) | (first | refine Qx ?_ | refine Qy ?_) | (first | refine Qz ?_ | refine Ra ?_ | refine Rb ?_))
    refine retP_ok (st' := prS i0 l σ4) (by simp) (by simp only [Try.results89]; rfl) (by simp [resP, St.box?, PF.get, loadB, TyK.agg, *]; rfl) (by repeat (first | exact List.Sublist.refl _ | exact List.nil_sublist _ | refine List.Sublist.cons_cons _ ?_ | refine List.Sublist.cons _ ?_)) ?_
    exact ⟨rfl, rfl⟩
theorem kind_p {l : List Tk} (hl : TkOk l) (i0 : Nat) (σ : ST) (hw : Wf l σ) : PCalls Try.prog 49 [.ptr i0 0] (prS i0 l σ) fun p s => p = .d (.v (.int .i64 (kindS l σ))) ∧ s = prS i0 l σ := by
  have b1 : σ.i ≤ 200000 := Nat.le_trans (hw.le hl) (by decide)
  have c1 := Lib.hid (is_p i0 l σ 0 0 rfl sData hl.len hl.pos b1 (by decide))
  have c2 := Lib.hid (is_p i0 l σ 0 0 rfl sRec hl.len hl.pos b1 (by decide))
  have c3 := Lib.hid (is_p i0 l σ 0 0 rfl sDef hl.len hl.pos b1 (by decide))
  have HK := Lib.hid (show kindS l σ = if isS l σ 0 sData then 1 else if isS l σ 0 sRec then 2 else if isS l σ 0 sDef then 3 else 0 from rfl)
  unfold sData sRec sDef at *
  refine PCalls.enter Try.func49 rfl Try.ntmps49 (by simp) ?_
  simp only [argsF]
  repeat (first | (with_reducible first | refine Qa ?_ | refine Qb ?_ | refine Qc ?_ | refine Qd ?_ | refine Qe ?_ | refine Qf ?_ | refine Qg ?_ | refine Qh ?_ | refine Qi ?_ | refine Qj ?_ | refine Qk ?_ | refine Ql ?_ | refine Qm ?_ | refine Qn ?_ | refine Qo ?_ | refine Qp rfl ?_) | (first | refine Qq ?_ | refine Qr ?_) | (first | refine Qs ?_ | refine Qt ?_ | refine Qu ?_) | (first | refine Qv ?_ | refine Qw ?_) | (first | refine Qx ?_ | refine Qy ?_) | (first | refine Qz ?_ | refine Ra ?_ | refine Rb ?_))
  refine Re (c1.out) ?_
  rintro _ _ ⟨rfl, rfl⟩
  cases h1 : isS l σ 0 ⟨#[100, 97, 116, 97]⟩ with
  | true =>
    rw [h1] at HK
    repeat (first | (with_reducible first | refine Qa ?_ | refine Qb ?_ | refine Qc ?_ | refine Qd ?_ | refine Qe ?_ | refine Qf ?_ | refine Qg ?_ | refine Qh ?_ | refine Qi ?_ | refine Qj ?_ | refine Qk ?_ | refine Ql ?_ | refine Qm ?_ | refine Qn ?_ | refine Qo ?_ | refine Qp rfl ?_) | (first | refine Qq ?_ | refine Qr ?_) | (first | refine Qs ?_ | refine Qt ?_ | refine Qu ?_) | (first | refine Qv ?_ | refine Qw ?_) | (first | refine Qx ?_ | refine Qy ?_) | (first | refine Qz ?_ | refine Ra ?_ | refine Rb ?_))
    refine retP_ok (st' := prS i0 l σ) (by simp) (by simp only [Try.results49]; rfl) (by simp [resP, St.box?, PF.get, loadB, TyK.agg, *]; rfl) (by repeat (first | exact List.Sublist.refl _ | exact List.nil_sublist _ | refine List.Sublist.cons_cons _ ?_ | refine List.Sublist.cons _ ?_)) ?_
    exact ⟨by rw [HK.out]; rfl, rfl⟩
  | false =>
    rw [h1] at HK
    repeat (first | (with_reducible first | refine Qa ?_ | refine Qb ?_ | refine Qc ?_ | refine Qd ?_ | refine Qe ?_ | refine Qf ?_ | refine Qg ?_ | refine Qh ?_ | refine Qi ?_ | refine Qj ?_ | refine Qk ?_ | refine Ql ?_ | refine Qm ?_ | refine Qn ?_ | refine Qo ?_ | refine Qp rfl ?_) | (first | refine Qq ?_ | refine Qr ?_) | (first | refine Qs ?_ | refine Qt ?_ | refine Qu ?_) | (first | refine Qv ?_ | refine Qw ?_) | (first | refine Qx ?_ | refine Qy ?_) | (first | refine Qz ?_ | refine Ra ?_ | refine Rb ?_))
    refine Re (c2.out) ?_
    rintro _ _ ⟨rfl, rfl⟩
    cases h2 : isS l σ 0 ⟨#[114, 101, 99, 111, 114, 100]⟩ with
    | true =>
      rw [h2] at HK
      repeat (first | (with_reducible first | refine Qa ?_ | refine Qb ?_ | refine Qc ?_ | refine Qd ?_ | refine Qe ?_ | refine Qf ?_ | refine Qg ?_ | refine Qh ?_ | refine Qi ?_ | refine Qj ?_ | refine Qk ?_ | refine Ql ?_ | refine Qm ?_ | refine Qn ?_ | refine Qo ?_ | refine Qp rfl ?_) | (first | refine Qq ?_ | refine Qr ?_) | (first | refine Qs ?_ | refine Qt ?_ | refine Qu ?_) | (first | refine Qv ?_ | refine Qw ?_) | (first | refine Qx ?_ | refine Qy ?_) | (first | refine Qz ?_ | refine Ra ?_ | refine Rb ?_))
      refine retP_ok (st' := prS i0 l σ) (by simp) (by simp only [Try.results49]; rfl) (by simp [resP, St.box?, PF.get, loadB, TyK.agg, *]; rfl) (by repeat (first | exact List.Sublist.refl _ | exact List.nil_sublist _ | refine List.Sublist.cons_cons _ ?_ | refine List.Sublist.cons _ ?_)) ?_
      exact ⟨by rw [HK.out]; rfl, rfl⟩
    | false =>
      rw [h2] at HK
      repeat (first | (with_reducible first | refine Qa ?_ | refine Qb ?_ | refine Qc ?_ | refine Qd ?_ | refine Qe ?_ | refine Qf ?_ | refine Qg ?_ | refine Qh ?_ | refine Qi ?_ | refine Qj ?_ | refine Qk ?_ | refine Ql ?_ | refine Qm ?_ | refine Qn ?_ | refine Qo ?_ | refine Qp rfl ?_) | (first | refine Qq ?_ | refine Qr ?_) | (first | refine Qs ?_ | refine Qt ?_ | refine Qu ?_) | (first | refine Qv ?_ | refine Qw ?_) | (first | refine Qx ?_ | refine Qy ?_) | (first | refine Qz ?_ | refine Ra ?_ | refine Rb ?_))
      refine Re (c3.out) ?_
      rintro _ _ ⟨rfl, rfl⟩
      cases h3 : isS l σ 0 ⟨#[100, 101, 102]⟩ with
      | true =>
        rw [h3] at HK
        repeat (first | (with_reducible first | refine Qa ?_ | refine Qb ?_ | refine Qc ?_ | refine Qd ?_ | refine Qe ?_ | refine Qf ?_ | refine Qg ?_ | refine Qh ?_ | refine Qi ?_ | refine Qj ?_ | refine Qk ?_ | refine Ql ?_ | refine Qm ?_ | refine Qn ?_ | refine Qo ?_ | refine Qp rfl ?_) | (first | refine Qq ?_ | refine Qr ?_) | (first | refine Qs ?_ | refine Qt ?_ | refine Qu ?_) | (first | refine Qv ?_ | refine Qw ?_) | (first | refine Qx ?_ | refine Qy ?_) | (first | refine Qz ?_ | refine Ra ?_ | refine Rb ?_))
        refine retP_ok (st' := prS i0 l σ) (by simp) (by simp only [Try.results49]; rfl) (by simp [resP, St.box?, PF.get, loadB, TyK.agg, *]; rfl) (by repeat (first | exact List.Sublist.refl _ | exact List.nil_sublist _ | refine List.Sublist.cons_cons _ ?_ | refine List.Sublist.cons _ ?_)) ?_
        exact ⟨by rw [HK.out]; rfl, rfl⟩
      | false =>
        rw [h3] at HK
        repeat (first | (with_reducible first | refine Qa ?_ | refine Qb ?_ | refine Qc ?_ | refine Qd ?_ | refine Qe ?_ | refine Qf ?_ | refine Qg ?_ | refine Qh ?_ | refine Qi ?_ | refine Qj ?_ | refine Qk ?_ | refine Ql ?_ | refine Qm ?_ | refine Qn ?_ | refine Qo ?_ | refine Qp rfl ?_) | (first | refine Qq ?_ | refine Qr ?_) | (first | refine Qs ?_ | refine Qt ?_ | refine Qu ?_) | (first | refine Qv ?_ | refine Qw ?_) | (first | refine Qx ?_ | refine Qy ?_) | (first | refine Qz ?_ | refine Ra ?_ | refine Rb ?_))
        refine retP_ok (st' := prS i0 l σ) (by simp) (by simp only [Try.results49]; rfl) (by simp [resP, St.box?, PF.get, loadB, TyK.agg, *]; rfl) (by repeat (first | exact List.Sublist.refl _ | exact List.nil_sublist _ | refine List.Sublist.cons_cons _ ?_ | refine List.Sublist.cons _ ?_)) ?_
        exact ⟨by rw [HK.out]; rfl, rfl⟩
end Go.Proofs.Ytahhgpafjiljfaa

namespace Go.Proofs.Ytahhgpafjiljfaa
open Go.RowKit
set_option maxRecDepth 100000
set_option maxHeartbeats 4000000 in
theorem rows_p {l : List Tk} (hl : TkOk l) (i0 : Nat) (σ : ST) (hw : Wf l σ) : PCalls Try.prog 55 [.ptr i0 0] (prS i0 l σ) fun p s => p = .d (slD (rowsS l (l.length + 1) [] σ).1) ∧ s = prS i0 l (rowsS l (l.length + 1) [] σ).2 := by
  have HG : ∃ r, r = rowsS l (l.length + 1) [] σ := ⟨_, rfl⟩
  obtain ⟨r, hr⟩ := HG
  have HR := Lib.hid hr.symm
  rw [← hr]
  clear hr
  have HW := Lib.hid hw
  clear hw
  unfold slD
  refine PCalls.enter Try.func55 rfl Try.ntmps55 (by simp) ?_
  simp only [argsF]
  repeat (first | (with_reducible first | refine Qa ?_ | refine Qb ?_ | refine Qc ?_ | refine Qd ?_ | refine Qe ?_ | refine Qf ?_ | refine Qg ?_ | refine Qh ?_ | refine Qi ?_ | refine Qj ?_ | refine Qk ?_ | refine Ql ?_ | refine Qm ?_ | refine Qn ?_ | refine Qo ?_ | refine Qp rfl ?_) | (first | refine Qq ?_ | refine Qr ?_) | (first | refine Qs ?_ | refine Qt ?_ | refine Qu ?_) | (first | refine Qv ?_ | refine Qw ?_) | (first | refine Qx ?_ | refine Qy ?_) | (first | refine Qz ?_ | refine Ra ?_ | refine Rb ?_))
  refine PW_own 3 66 8 (by decide) (by simp [PF.get] <;> rfl) fun g hg => ?_
  refine PW_loop (ι := Nat × List Rw × ST) (fun y => Wf l y.2.2 ∧ 0 < y.1 ∧ (y.2.2.bad = 0 → l.length - y.2.2.i + 1 ≤ y.1) ∧ rowsS l y.1 y.2.1 y.2.2 = r ∧ y.2.1.length ≤ 32) (fun y => [(0, .ptr i0 0), (3, .own g (y.2.1.map encD))])
    (fun y => .tok g 66 8 y.2.1.length :: prS i0 l y.2.2) (fun y => y.1) (l.length + 1, [], σ) ⟨HW.out, Nat.succ_pos _, fun _ => by simp only; omega, HR.out, Nat.zero_le _⟩ ?_ ?_ ?_
  · repeat (first | exact sub_nil _ | refine sub_cons (by simp [PF.get]; rfl) (by first | rfl | (simp [*]; done) | fail) ?_)
  · repeat (first | exact List.Sublist.refl _ | exact List.nil_sublist _ | refine List.Sublist.cons_cons _ ?_ | refine List.Sublist.cons _ ?_)
  · rintro ⟨m, acc, τ⟩ ⟨hw, hm0, hm, hr, hacc⟩
    simp only at hw hm0 hm hr hacc ⊢
    obtain ⟨m, rfl⟩ : ∃ k, m = k + 1 := ⟨m - 1, by omega⟩
    have b3 : τ.i ≤ 150000 := Nat.le_trans (hw.le hl) (by decide)
    have B0 := Lib.hid (open_p hl i0 τ hw)
    have B1 := Lib.hid (tok0_p i0 l τ hl.len hl.pos b3)
    simp only [rowsS] at hr
    by_cases hz : τ.bad = 0
    · cases hbg : openS l τ with
      | true =>
        rw [if_pos ⟨hz, hbg⟩] at hr
        by_cases h24 : 32 ≤ acc.length
        · rw [if_pos h24] at hr
          have hc24 : (32 : Int) ≤ (acc.length : Int) := by omega
          have B2 := Lib.hid (fail_p i0 l τ 2 (tkg l τ.i).at_)
          have HR2 := Lib.hid hr
          clear hr hm
          unfold prS
          repeat (first | (with_reducible first | refine Qa ?_ | refine Qb ?_ | refine Qc ?_ | refine Qd ?_ | refine Qe ?_ | refine Qf ?_ | refine Qg ?_ | refine Qh ?_ | refine Qi ?_ | refine Qj ?_ | refine Qk ?_ | refine Ql ?_ | refine Qm ?_ | refine Qn ?_ | refine Qo ?_ | refine Qp rfl ?_) | (first | refine Qq ?_ | refine Qr ?_) | (first | refine Qs ?_ | refine Qt ?_ | refine Qu ?_) | (first | refine Qv ?_ | refine Qw ?_) | (first | refine Qx ?_ | refine Qy ?_) | (first | refine Qz ?_ | refine Ra ?_ | refine Rb ?_))
          refine Rd 1 1 (B0.out) ?_
          rintro _ _ ⟨rfl, rfl⟩
          repeat (first | (with_reducible first | refine Qa ?_ | refine Qb ?_ | refine Qc ?_ | refine Qd ?_ | refine Qe ?_ | refine Qf ?_ | refine Qg ?_ | refine Qh ?_ | refine Qi ?_ | refine Qj ?_ | refine Qk ?_ | refine Ql ?_ | refine Qm ?_ | refine Qn ?_ | refine Qo ?_ | refine Qp rfl ?_) | (first | refine Qq ?_ | refine Qr ?_) | (first | refine Qs ?_ | refine Qt ?_ | refine Qu ?_) | (first | refine Qv ?_ | refine Qw ?_) | (first | refine Qx ?_ | refine Qy ?_) | (first | refine Qz ?_ | refine Ra ?_ | refine Rb ?_))
          refine Rd 1 1 (B1.out) ?_
          rintro _ _ ⟨rfl, rfl⟩
          repeat (first | (with_reducible first | refine Qa ?_ | refine Qb ?_ | refine Qc ?_ | refine Qd ?_ | refine Qe ?_ | refine Qf ?_ | refine Qg ?_ | refine Qh ?_ | refine Qi ?_ | refine Qj ?_ | refine Qk ?_ | refine Ql ?_ | refine Qm ?_ | refine Qn ?_ | refine Qo ?_ | refine Qp rfl ?_) | (first | refine Qq ?_ | refine Qr ?_) | (first | refine Qs ?_ | refine Qt ?_ | refine Qu ?_) | (first | refine Qv ?_ | refine Qw ?_) | (first | refine Qx ?_ | refine Qy ?_) | (first | refine Qz ?_ | refine Ra ?_ | refine Rb ?_))
          refine Rd 1 1 (B2.out) ?_
          rintro _ _ ⟨rfl, rfl⟩
          repeat (first | (with_reducible first | refine Qa ?_ | refine Qb ?_ | refine Qc ?_ | refine Qd ?_ | refine Qe ?_ | refine Qf ?_ | refine Qg ?_ | refine Qh ?_ | refine Qi ?_ | refine Qj ?_ | refine Qk ?_ | refine Ql ?_ | refine Qm ?_ | refine Qn ?_ | refine Qo ?_ | refine Qp rfl ?_) | (first | refine Qq ?_ | refine Qr ?_) | (first | refine Qs ?_ | refine Qt ?_ | refine Qu ?_) | (first | refine Qv ?_ | refine Qw ?_) | (first | refine Qx ?_ | refine Qy ?_) | (first | refine Qz ?_ | refine Ra ?_ | refine Rb ?_))
          refine retP_ok (st' := prS i0 l (failS 2 (tkg l τ.i).at_ τ)) (by simp) (by simp only [Try.results55]; rfl) (by simp [resP, St.box?, PF.get, loadB, TyK.agg, *]; rfl) (by repeat (first | exact List.Sublist.refl _ | exact List.nil_sublist _ | refine List.Sublist.cons_cons _ ?_ | refine List.Sublist.cons _ ?_)) ?_
          exact ⟨by rw [← HR2.out]; rfl, by rw [← HR2.out]; rfl⟩
        · rw [if_neg h24] at hr
          have hc24 : ¬ (32 : Int) ≤ (acc.length : Int) := by omega
          have hA := row_adv hl hw
          have c2 := row_p' hl i0 τ hw
          have HA := Lib.hid hA
          have HM := Lib.hid hm
          have HR2 := Lib.hid hr
          clear hr hm hA
          generalize (rowS l τ).1 = X at *
          generalize (rowS l τ).2 = τ2 at *
          simp only [aggD, encD_rw, encD_nd, List.map_cons, List.map_nil] at c2
          have C2 := Lib.hid c2
          clear c2
          unfold prS
          repeat (first | (with_reducible first | refine Qa ?_ | refine Qb ?_ | refine Qc ?_ | refine Qd ?_ | refine Qe ?_ | refine Qf ?_ | refine Qg ?_ | refine Qh ?_ | refine Qi ?_ | refine Qj ?_ | refine Qk ?_ | refine Ql ?_ | refine Qm ?_ | refine Qn ?_ | refine Qo ?_ | refine Qp rfl ?_) | (first | refine Qq ?_ | refine Qr ?_) | (first | refine Qs ?_ | refine Qt ?_ | refine Qu ?_) | (first | refine Qv ?_ | refine Qw ?_) | (first | refine Qx ?_ | refine Qy ?_) | (first | refine Qz ?_ | refine Ra ?_ | refine Rb ?_))
          refine Rd 1 1 (B0.out) ?_
          rintro _ _ ⟨rfl, rfl⟩
          repeat (first | (with_reducible first | refine Qa ?_ | refine Qb ?_ | refine Qc ?_ | refine Qd ?_ | refine Qe ?_ | refine Qf ?_ | refine Qg ?_ | refine Qh ?_ | refine Qi ?_ | refine Qj ?_ | refine Qk ?_ | refine Ql ?_ | refine Qm ?_ | refine Qn ?_ | refine Qo ?_ | refine Qp rfl ?_) | (first | refine Qq ?_ | refine Qr ?_) | (first | refine Qs ?_ | refine Qt ?_ | refine Qu ?_) | (first | refine Qv ?_ | refine Qw ?_) | (first | refine Qx ?_ | refine Qy ?_) | (first | refine Qz ?_ | refine Ra ?_ | refine Rb ?_))
          refine Rd 1 1 (C2.out) ?_
          rintro _ _ ⟨rfl, rfl⟩
          repeat (first | (with_reducible first | refine Qa ?_ | refine Qb ?_ | refine Qc ?_ | refine Qd ?_ | refine Qe ?_ | refine Qf ?_ | refine Qg ?_ | refine Qh ?_ | refine Qi ?_ | refine Qj ?_ | refine Qk ?_ | refine Ql ?_ | refine Qm ?_ | refine Qn ?_ | refine Qo ?_ | refine Qp rfl ?_) | (first | refine Qq ?_ | refine Qr ?_) | (first | refine Qs ?_ | refine Qt ?_ | refine Qu ?_) | (first | refine Qv ?_ | refine Qw ?_) | (first | refine Qx ?_ | refine Qy ?_) | (first | refine Qz ?_ | refine Ra ?_ | refine Rb ?_))
          refine POps_bs_a ?_
          refine POps_app_a (acc.length + 1) ?_ ?_ ?_ ?_
          · simp
          · exact rows_map fun _ => encD_len _
          · exact rows_one rfl
          repeat (first | (with_reducible first | refine Qa ?_ | refine Qb ?_ | refine Qc ?_ | refine Qd ?_ | refine Qe ?_ | refine Qf ?_ | refine Qg ?_ | refine Qh ?_ | refine Qi ?_ | refine Qj ?_ | refine Qk ?_ | refine Ql ?_ | refine Qm ?_ | refine Qn ?_ | refine Qo ?_ | refine Qp rfl ?_) | (first | refine Qq ?_ | refine Qr ?_) | (first | refine Qs ?_ | refine Qt ?_ | refine Qu ?_) | (first | refine Qv ?_ | refine Qw ?_) | (first | refine Qx ?_ | refine Qy ?_) | (first | refine Qz ?_ | refine Ra ?_ | refine Rb ?_))
          refine ⟨(m, acc ++ [X], τ2), ⟨HA.out.1, ?_, fun hb => ?_, HR2.out, by simp only [List.length_append, List.length_cons, List.length_nil]; omega⟩, by simp only; omega, ?_, ?_⟩
          · have h1 := HM.out hz
            have h2 := hw
            unfold Wf at h2
            simp only
            omega
          · have h1 := HM.out hz
            have h2 := (HA.out.2 hb).2
            have h3 := HA.out.1
            unfold Wf at h3
            simp only
            omega
          · refine sub_cons (by simp [PF.get] <;> rfl) rfl ?_
            refine sub_cons (by simp [PF.get] <;> rfl) (by simp only [List.map_append, List.map_cons, List.map_nil, encD_rw X]) ?_
            repeat (first | exact sub_nil _ | refine sub_cons (by simp [PF.get]; rfl) (by first | rfl | (simp [*]; done) | fail) ?_)
          · simp only [List.length_append, List.length_cons, List.length_nil, Nat.zero_add]
            repeat (first | exact List.Sublist.refl _ | exact List.nil_sublist _ | refine List.Sublist.cons_cons _ ?_ | refine List.Sublist.cons _ ?_)
      | false =>
        rw [if_neg (by rw [hbg]; simp)] at hr
        have HR2 := Lib.hid hr
        clear hr hm
        unfold prS
        repeat (first | (with_reducible first | refine Qa ?_ | refine Qb ?_ | refine Qc ?_ | refine Qd ?_ | refine Qe ?_ | refine Qf ?_ | refine Qg ?_ | refine Qh ?_ | refine Qi ?_ | refine Qj ?_ | refine Qk ?_ | refine Ql ?_ | refine Qm ?_ | refine Qn ?_ | refine Qo ?_ | refine Qp rfl ?_) | (first | refine Qq ?_ | refine Qr ?_) | (first | refine Qs ?_ | refine Qt ?_ | refine Qu ?_) | (first | refine Qv ?_ | refine Qw ?_) | (first | refine Qx ?_ | refine Qy ?_) | (first | refine Qz ?_ | refine Ra ?_ | refine Rb ?_))
        refine Rd 1 1 (B0.out) ?_
        rintro _ _ ⟨rfl, rfl⟩
        repeat (first | (with_reducible first | refine Qa ?_ | refine Qb ?_ | refine Qc ?_ | refine Qd ?_ | refine Qe ?_ | refine Qf ?_ | refine Qg ?_ | refine Qh ?_ | refine Qi ?_ | refine Qj ?_ | refine Qk ?_ | refine Ql ?_ | refine Qm ?_ | refine Qn ?_ | refine Qo ?_ | refine Qp rfl ?_) | (first | refine Qq ?_ | refine Qr ?_) | (first | refine Qs ?_ | refine Qt ?_ | refine Qu ?_) | (first | refine Qv ?_ | refine Qw ?_) | (first | refine Qx ?_ | refine Qy ?_) | (first | refine Qz ?_ | refine Ra ?_ | refine Rb ?_))
        refine retP_ok (st' := prS i0 l τ) (by simp) (by simp only [Try.results55]; rfl) (by simp [resP, St.box?, PF.get, loadB, TyK.agg, *]; rfl) (by repeat (first | exact List.Sublist.refl _ | exact List.nil_sublist _ | refine List.Sublist.cons_cons _ ?_ | refine List.Sublist.cons _ ?_)) ?_
        exact ⟨by rw [← HR2.out]; rfl, by rw [← HR2.out]; rfl⟩
    · rw [if_neg (by simp [hz])] at hr
      have HR2 := Lib.hid hr
      clear hr hm
      unfold prS
      repeat (first | (with_reducible first | refine Qa ?_ | refine Qb ?_ | refine Qc ?_ | refine Qd ?_ | refine Qe ?_ | refine Qf ?_ | refine Qg ?_ | refine Qh ?_ | refine Qi ?_ | refine Qj ?_ | refine Qk ?_ | refine Ql ?_ | refine Qm ?_ | refine Qn ?_ | refine Qo ?_ | refine Qp rfl ?_) | (first | refine Qq ?_ | refine Qr ?_) | (first | refine Qs ?_ | refine Qt ?_ | refine Qu ?_) | (first | refine Qv ?_ | refine Qw ?_) | (first | refine Qx ?_ | refine Qy ?_) | (first | refine Qz ?_ | refine Ra ?_ | refine Rb ?_))
      refine retP_ok (st' := prS i0 l τ) (by simp) (by simp only [Try.results55]; rfl) (by simp [resP, St.box?, PF.get, loadB, TyK.agg, *]; rfl) (by repeat (first | exact List.Sublist.refl _ | exact List.nil_sublist _ | refine List.Sublist.cons_cons _ ?_ | refine List.Sublist.cons _ ?_)) ?_
      exact ⟨by rw [← HR2.out]; rfl, by rw [← HR2.out]; rfl⟩
set_option maxHeartbeats 4000000 in
theorem list_p {l : List Tk} (hl : TkOk l) (i0 most f1 f2 : Nat) (hmost : most ≤ 24) (more : ST → Bool) (one : ST → Bd × ST) (hca1 : callable Try.prog f1 = true) (hca2 : callable Try.prog f2 = true) (hmo : ∀ σ, Wf l σ → PCalls Try.prog f1 [.ptr i0 0] (prS i0 l σ) fun p s => p = .d (.v (.bool (more σ))) ∧ s = prS i0 l σ) (hon : ∀ σ, Wf l σ → PCalls Try.prog f2 [.ptr i0 0] (prS i0 l σ) fun p s => p = aggD (one σ).1 ∧ s = prS i0 l (one σ).2) (hadv : ∀ σ, Wf l σ → AdvS l σ (one σ).2) (σ : ST) (hw : Wf l σ) : PCalls Try.prog 51 [.ptr i0 0, .d (.v (.int .i64 (most : Int))), .fn (.func f1) [.ptr i0 0] [], .fn (.func f2) [.ptr i0 0] []] (prS i0 l σ) fun p s => p = .d (slD (listS l most more one (l.length + 1) [] σ).1) ∧ s = prS i0 l (listS l most more one (l.length + 1) [] σ).2 := by
  have HG : ∃ r, r = listS l most more one (l.length + 1) [] σ := ⟨_, rfl⟩
  obtain ⟨r, hr⟩ := HG
  have HR := Lib.hid hr.symm
  rw [← hr]
  clear hr
  have HW := Lib.hid hw
  clear hw
  unfold slD
  refine PCalls.enter Try.func51 rfl Try.ntmps51 (by simp) ?_
  simp only [argsF]
  repeat (first | (with_reducible first | refine Qa ?_ | refine Qb ?_ | refine Qc ?_ | refine Qd ?_ | refine Qe ?_ | refine Qf ?_ | refine Qg ?_ | refine Qh ?_ | refine Qi ?_ | refine Qj ?_ | refine Qk ?_ | refine Ql ?_ | refine Qm ?_ | refine Qn ?_ | refine Qo ?_ | refine Qp rfl ?_) | (first | refine Qq ?_ | refine Qr ?_) | (first | refine Qs ?_ | refine Qt ?_ | refine Qu ?_) | (first | refine Qv ?_ | refine Qw ?_) | (first | refine Qx ?_ | refine Qy ?_) | (first | refine Qz ?_ | refine Ra ?_ | refine Rb ?_))
  refine PW_own 9 109 7 (by decide) (by simp [PF.get] <;> rfl) fun g hg => ?_
  refine PW_loop (ι := Nat × List Bd × ST) (fun y => Wf l y.2.2 ∧ 0 < y.1 ∧ (y.2.2.bad = 0 → l.length - y.2.2.i + 1 ≤ y.1) ∧ listS l most more one y.1 y.2.1 y.2.2 = r ∧ y.2.1.length ≤ most) (fun y => [(0, .ptr i0 0), (1, .d (.v (.int .i64 (most : Int)))), (2, .fn (.func f1) [.ptr i0 0] []), (3, .fn (.func f2) [.ptr i0 0] []), (9, .own g (y.2.1.map encD))])
    (fun y => .tok g 109 7 y.2.1.length :: prS i0 l y.2.2) (fun y => y.1) (l.length + 1, [], σ) ⟨HW.out, Nat.succ_pos _, fun _ => by simp only; omega, HR.out, Nat.zero_le _⟩ ?_ ?_ ?_
  · repeat (first | exact sub_nil _ | refine sub_cons (by simp [PF.get]; rfl) (by first | rfl | (simp [*]; done) | fail) ?_)
  · repeat (first | exact List.Sublist.refl _ | exact List.nil_sublist _ | refine List.Sublist.cons_cons _ ?_ | refine List.Sublist.cons _ ?_)
  · rintro ⟨m, acc, τ⟩ ⟨hw, hm0, hm, hr, hacc⟩
    simp only at hw hm0 hm hr hacc ⊢
    obtain ⟨m, rfl⟩ : ∃ k, m = k + 1 := ⟨m - 1, by omega⟩
    have b3 : τ.i ≤ 150000 := Nat.le_trans (hw.le hl) (by decide)
    have B0 := Lib.hid (hmo τ hw)
    have B1 := Lib.hid (tok0_p i0 l τ hl.len hl.pos b3)
    simp only [listS] at hr
    by_cases hz : τ.bad = 0
    · cases hbg : more τ with
      | true =>
        rw [if_pos ⟨hz, hbg⟩] at hr
        by_cases h24 : most ≤ acc.length
        · rw [if_pos h24] at hr
          have hc24 : (most : Int) ≤ (acc.length : Int) := by omega
          have B2 := Lib.hid (fail_p i0 l τ 2 (tkg l τ.i).at_)
          have HR2 := Lib.hid hr
          clear hr hm
          unfold prS
          repeat (first | (with_reducible first | refine Qa ?_ | refine Qb ?_ | refine Qc ?_ | refine Qd ?_ | refine Qe ?_ | refine Qf ?_ | refine Qg ?_ | refine Qh ?_ | refine Qi ?_ | refine Qj ?_ | refine Qk ?_ | refine Ql ?_ | refine Qm ?_ | refine Qn ?_ | refine Qo ?_ | refine Qp rfl ?_) | (first | refine Qq ?_ | refine Qr ?_) | (first | refine Qs ?_ | refine Qt ?_ | refine Qu ?_) | (first | refine Qv ?_ | refine Qw ?_) | (first | refine Qx ?_ | refine Qy ?_) | (first | refine Qz ?_ | refine Ra ?_ | refine Rb ?_))
          refine POps_callB 1 1 (B0.out) ?_ (hca1)
          rintro _ _ ⟨rfl, rfl⟩
          repeat (first | (with_reducible first | refine Qa ?_ | refine Qb ?_ | refine Qc ?_ | refine Qd ?_ | refine Qe ?_ | refine Qf ?_ | refine Qg ?_ | refine Qh ?_ | refine Qi ?_ | refine Qj ?_ | refine Qk ?_ | refine Ql ?_ | refine Qm ?_ | refine Qn ?_ | refine Qo ?_ | refine Qp rfl ?_) | (first | refine Qq ?_ | refine Qr ?_) | (first | refine Qs ?_ | refine Qt ?_ | refine Qu ?_) | (first | refine Qv ?_ | refine Qw ?_) | (first | refine Qx ?_ | refine Qy ?_) | (first | refine Qz ?_ | refine Ra ?_ | refine Rb ?_))
          refine Rd 1 1 (B1.out) ?_
          rintro _ _ ⟨rfl, rfl⟩
          repeat (first | (with_reducible first | refine Qa ?_ | refine Qb ?_ | refine Qc ?_ | refine Qd ?_ | refine Qe ?_ | refine Qf ?_ | refine Qg ?_ | refine Qh ?_ | refine Qi ?_ | refine Qj ?_ | refine Qk ?_ | refine Ql ?_ | refine Qm ?_ | refine Qn ?_ | refine Qo ?_ | refine Qp rfl ?_) | (first | refine Qq ?_ | refine Qr ?_) | (first | refine Qs ?_ | refine Qt ?_ | refine Qu ?_) | (first | refine Qv ?_ | refine Qw ?_) | (first | refine Qx ?_ | refine Qy ?_) | (first | refine Qz ?_ | refine Ra ?_ | refine Rb ?_))
          refine Rd 1 1 (B2.out) ?_
          rintro _ _ ⟨rfl, rfl⟩
          repeat (first | (with_reducible first | refine Qa ?_ | refine Qb ?_ | refine Qc ?_ | refine Qd ?_ | refine Qe ?_ | refine Qf ?_ | refine Qg ?_ | refine Qh ?_ | refine Qi ?_ | refine Qj ?_ | refine Qk ?_ | refine Ql ?_ | refine Qm ?_ | refine Qn ?_ | refine Qo ?_ | refine Qp rfl ?_) | (first | refine Qq ?_ | refine Qr ?_) | (first | refine Qs ?_ | refine Qt ?_ | refine Qu ?_) | (first | refine Qv ?_ | refine Qw ?_) | (first | refine Qx ?_ | refine Qy ?_) | (first | refine Qz ?_ | refine Ra ?_ | refine Rb ?_))
          refine retP_ok (st' := prS i0 l (failS 2 (tkg l τ.i).at_ τ)) (by simp) (by simp only [Try.results51]; rfl) (by simp [resP, St.box?, PF.get, loadB, TyK.agg, *]; rfl) (by repeat (first | exact List.Sublist.refl _ | exact List.nil_sublist _ | refine List.Sublist.cons_cons _ ?_ | refine List.Sublist.cons _ ?_)) ?_
          exact ⟨by rw [← HR2.out]; rfl, by rw [← HR2.out]; rfl⟩
        · rw [if_neg h24] at hr
          have hc24 : ¬ (most : Int) ≤ (acc.length : Int) := by omega
          have hA := hadv τ hw
          have c2 := hon τ hw
          have HA := Lib.hid hA
          have HM := Lib.hid hm
          have HR2 := Lib.hid hr
          clear hr hm hA
          generalize (one τ).1 = X at *
          generalize (one τ).2 = τ2 at *
          simp only [aggD, encD_bd, encD_nd, List.map_cons, List.map_nil] at c2
          have C2 := Lib.hid c2
          clear c2
          unfold prS
          repeat (first | (with_reducible first | refine Qa ?_ | refine Qb ?_ | refine Qc ?_ | refine Qd ?_ | refine Qe ?_ | refine Qf ?_ | refine Qg ?_ | refine Qh ?_ | refine Qi ?_ | refine Qj ?_ | refine Qk ?_ | refine Ql ?_ | refine Qm ?_ | refine Qn ?_ | refine Qo ?_ | refine Qp rfl ?_) | (first | refine Qq ?_ | refine Qr ?_) | (first | refine Qs ?_ | refine Qt ?_ | refine Qu ?_) | (first | refine Qv ?_ | refine Qw ?_) | (first | refine Qx ?_ | refine Qy ?_) | (first | refine Qz ?_ | refine Ra ?_ | refine Rb ?_))
          refine POps_callB 1 1 (B0.out) ?_ (hca1)
          rintro _ _ ⟨rfl, rfl⟩
          repeat (first | (with_reducible first | refine Qa ?_ | refine Qb ?_ | refine Qc ?_ | refine Qd ?_ | refine Qe ?_ | refine Qf ?_ | refine Qg ?_ | refine Qh ?_ | refine Qi ?_ | refine Qj ?_ | refine Qk ?_ | refine Ql ?_ | refine Qm ?_ | refine Qn ?_ | refine Qo ?_ | refine Qp rfl ?_) | (first | refine Qq ?_ | refine Qr ?_) | (first | refine Qs ?_ | refine Qt ?_ | refine Qu ?_) | (first | refine Qv ?_ | refine Qw ?_) | (first | refine Qx ?_ | refine Qy ?_) | (first | refine Qz ?_ | refine Ra ?_ | refine Rb ?_))
          refine POps_callB 1 1 (C2.out) ?_ (hca2)
          rintro _ _ ⟨rfl, rfl⟩
          repeat (first | (with_reducible first | refine Qa ?_ | refine Qb ?_ | refine Qc ?_ | refine Qd ?_ | refine Qe ?_ | refine Qf ?_ | refine Qg ?_ | refine Qh ?_ | refine Qi ?_ | refine Qj ?_ | refine Qk ?_ | refine Ql ?_ | refine Qm ?_ | refine Qn ?_ | refine Qo ?_ | refine Qp rfl ?_) | (first | refine Qq ?_ | refine Qr ?_) | (first | refine Qs ?_ | refine Qt ?_ | refine Qu ?_) | (first | refine Qv ?_ | refine Qw ?_) | (first | refine Qx ?_ | refine Qy ?_) | (first | refine Qz ?_ | refine Ra ?_ | refine Rb ?_))
          refine POps_bs_a ?_
          refine POps_app_a (acc.length + 1) ?_ ?_ ?_ ?_
          · simp
          · exact rows_map fun _ => encD_len _
          · exact rows_one rfl
          repeat (first | (with_reducible first | refine Qa ?_ | refine Qb ?_ | refine Qc ?_ | refine Qd ?_ | refine Qe ?_ | refine Qf ?_ | refine Qg ?_ | refine Qh ?_ | refine Qi ?_ | refine Qj ?_ | refine Qk ?_ | refine Ql ?_ | refine Qm ?_ | refine Qn ?_ | refine Qo ?_ | refine Qp rfl ?_) | (first | refine Qq ?_ | refine Qr ?_) | (first | refine Qs ?_ | refine Qt ?_ | refine Qu ?_) | (first | refine Qv ?_ | refine Qw ?_) | (first | refine Qx ?_ | refine Qy ?_) | (first | refine Qz ?_ | refine Ra ?_ | refine Rb ?_))
          refine ⟨(m, acc ++ [X], τ2), ⟨HA.out.1, ?_, fun hb => ?_, HR2.out, by simp only [List.length_append, List.length_cons, List.length_nil]; omega⟩, by simp only; omega, ?_, ?_⟩
          · have h1 := HM.out hz
            have h2 := hw
            unfold Wf at h2
            simp only
            omega
          · have h1 := HM.out hz
            have h2 := (HA.out.2 hb).2
            have h3 := HA.out.1
            unfold Wf at h3
            simp only
            omega
          · refine sub_cons (by simp [PF.get] <;> rfl) rfl ?_
            refine sub_cons (by simp [PF.get] <;> rfl) rfl ?_
            refine sub_cons (by simp [PF.get] <;> rfl) rfl ?_
            refine sub_cons (by simp [PF.get] <;> rfl) rfl ?_
            refine sub_cons (by simp [PF.get] <;> rfl) (by simp only [List.map_append, List.map_cons, List.map_nil, encD_bd X]) ?_
            repeat (first | exact sub_nil _ | refine sub_cons (by simp [PF.get]; rfl) (by first | rfl | (simp [*]; done) | fail) ?_)
          · simp only [List.length_append, List.length_cons, List.length_nil, Nat.zero_add]
            repeat (first | exact List.Sublist.refl _ | exact List.nil_sublist _ | refine List.Sublist.cons_cons _ ?_ | refine List.Sublist.cons _ ?_)
      | false =>
        rw [if_neg (by rw [hbg]; simp)] at hr
        have HR2 := Lib.hid hr
        clear hr hm
        unfold prS
        repeat (first | (with_reducible first | refine Qa ?_ | refine Qb ?_ | refine Qc ?_ | refine Qd ?_ | refine Qe ?_ | refine Qf ?_ | refine Qg ?_ | refine Qh ?_ | refine Qi ?_ | refine Qj ?_ | refine Qk ?_ | refine Ql ?_ | refine Qm ?_ | refine Qn ?_ | refine Qo ?_ | refine Qp rfl ?_) | (first | refine Qq ?_ | refine Qr ?_) | (first | refine Qs ?_ | refine Qt ?_ | refine Qu ?_) | (first | refine Qv ?_ | refine Qw ?_) | (first | refine Qx ?_ | refine Qy ?_) | (first | refine Qz ?_ | refine Ra ?_ | refine Rb ?_))
        refine POps_callB 1 1 (B0.out) ?_ (hca1)
        rintro _ _ ⟨rfl, rfl⟩
        repeat (first | (with_reducible first | refine Qa ?_ | refine Qb ?_ | refine Qc ?_ | refine Qd ?_ | refine Qe ?_ | refine Qf ?_ | refine Qg ?_ | refine Qh ?_ | refine Qi ?_ | refine Qj ?_ | refine Qk ?_ | refine Ql ?_ | refine Qm ?_ | refine Qn ?_ | refine Qo ?_ | refine Qp rfl ?_) | (first | refine Qq ?_ | refine Qr ?_) | (first | refine Qs ?_ | refine Qt ?_ | refine Qu ?_) | (first | refine Qv ?_ | refine Qw ?_) | (first | refine Qx ?_ | refine Qy ?_) | (first | refine Qz ?_ | refine Ra ?_ | refine Rb ?_))
        refine retP_ok (st' := prS i0 l τ) (by simp) (by simp only [Try.results51]; rfl) (by simp [resP, St.box?, PF.get, loadB, TyK.agg, *]; rfl) (by repeat (first | exact List.Sublist.refl _ | exact List.nil_sublist _ | refine List.Sublist.cons_cons _ ?_ | refine List.Sublist.cons _ ?_)) ?_
        exact ⟨by rw [← HR2.out]; rfl, by rw [← HR2.out]; rfl⟩
    · rw [if_neg (by simp [hz])] at hr
      have HR2 := Lib.hid hr
      clear hr hm
      unfold prS
      repeat (first | (with_reducible first | refine Qa ?_ | refine Qb ?_ | refine Qc ?_ | refine Qd ?_ | refine Qe ?_ | refine Qf ?_ | refine Qg ?_ | refine Qh ?_ | refine Qi ?_ | refine Qj ?_ | refine Qk ?_ | refine Ql ?_ | refine Qm ?_ | refine Qn ?_ | refine Qo ?_ | refine Qp rfl ?_) | (first | refine Qq ?_ | refine Qr ?_) | (first | refine Qs ?_ | refine Qt ?_ | refine Qu ?_) | (first | refine Qv ?_ | refine Qw ?_) | (first | refine Qx ?_ | refine Qy ?_) | (first | refine Qz ?_ | refine Ra ?_ | refine Rb ?_))
      refine retP_ok (st' := prS i0 l τ) (by simp) (by simp only [Try.results51]; rfl) (by simp [resP, St.box?, PF.get, loadB, TyK.agg, *]; rfl) (by repeat (first | exact List.Sublist.refl _ | exact List.nil_sublist _ | refine List.Sublist.cons_cons _ ?_ | refine List.Sublist.cons _ ?_)) ?_
      exact ⟨by rw [← HR2.out]; rfl, by rw [← HR2.out]; rfl⟩
end Go.Proofs.Ytahhgpafjiljfaa

namespace Go.Proofs.Ytahhgpafjiljfaa
open Go.RowKit
set_option maxRecDepth 100000
theorem kind_k {l : List Tk} {σ : ST} (h : ¬ kindS l σ = 0) : (tkg l σ.i).kind ≠ 5 := by
  unfold kindS at h
  split at h
  · exact mark_k ‹_›
  · split at h
    · exact mark_k ‹_›
    · split at h
      · exact mark_k ‹_›
      · exact absurd rfl h
theorem decl_0 {l : List Tk} {σ : ST} (hk : kindS l σ = 0) : declS l σ = (⟨0, (tkg l σ.i).at_, ⟨#[]⟩, [], zNd, [], []⟩, failS 1 (tkg l σ.i).at_ σ) := by
  simp only [declS, hk, if_true]
theorem decl_3 {l : List Tk} {σ : ST} (hk : kindS l σ = 3) : declS l σ = (⟨3, (tkg l σ.i).at_, (nameS l (incS σ)).1, [], (exprS l (exprF l) (wantS l sCol (nameS l (incS σ)).2)).1, [], (rowsS l (l.length + 1) [] (wantS l sBra (exprS l (exprF l) (wantS l sCol (nameS l (incS σ)).2)).2)).1⟩, wantS l sKet (rowsS l (l.length + 1) [] (wantS l sBra (exprS l (exprF l) (wantS l sCol (nameS l (incS σ)).2)).2)).2) := by
  simp only [declS, hk]
  rfl
def teleS (l : List Tk) (σ : ST) : List Bd × ST := listS l 24 (paren0S l) (bindS l) (l.length + 1) [] σ
def consS (l : List Tk) (σ : ST) : List Bd × ST := listS l 16 (openS l) (lineS l) (l.length + 1) [] σ
theorem decl_1 {l : List Tk} {σ : ST} (h0 : ¬ kindS l σ = 0) (h3 : ¬ kindS l σ = 3) : declS l σ = (⟨kindS l σ, (tkg l σ.i).at_, (nameS l (incS σ)).1, (teleS l (nameS l (incS σ)).2).1, (exprS l (exprF l) (wantS l sCol (teleS l (nameS l (incS σ)).2).2)).1, (consS l (wantS l sBra (exprS l (exprF l) (wantS l sCol (teleS l (nameS l (incS σ)).2).2)).2)).1, []⟩, wantS l sKet (consS l (wantS l sBra (exprS l (exprF l) (wantS l sCol (teleS l (nameS l (incS σ)).2).2)).2)).2) := by
  simp only [declS, if_neg h0, if_neg h3]
  rfl
section
variable {l : List Tk} (hl : TkOk l)
include hl
theorem tele_adv {σ : ST} (h : Wf l σ) : Adv l σ (teleS l σ).2 := list_adv hl (fun _ h => bind_adv hl h) _ _ _ h
theorem cons_adv {σ : ST} (h : Wf l σ) : Adv l σ (consS l σ).2 := list_adv hl (fun _ h => line_adv hl h) _ _ _ h
theorem decl_adv {σ : ST} (h : Wf l σ) : AdvS l σ (declS l σ).2 := by
  by_cases h0 : kindS l σ = 0
  · rw [decl_0 h0]
    exact fail_adv hl 1 _ (by decide) h
  · have a0 := inc_adv hl (kind_k h0)
    have a1 := a0.trans (name_adv hl a0.1).adv
    by_cases h3 : kindS l σ = 3
    · rw [decl_3 h3]
      have a3 := a1.trans (want_adv hl sCol a1.1).adv
      have a4 := a3.trans (exprF_adv hl a3.1)
      have a5 := a4.trans (want_adv hl sBra a4.1).adv
      have a6 := a5.trans (rows_adv hl (l.length + 1) [] _ a5.1)
      exact a6.trans (want_adv hl sKet a6.1).adv
    · rw [decl_1 h0 h3]
      have a2 := a1.trans (tele_adv hl a1.1)
      have a3 := a2.trans (want_adv hl sCol a2.1).adv
      have a4 := a3.trans (exprF_adv hl a3.1)
      have a5 := a4.trans (want_adv hl sBra a4.1).adv
      have a6 := a5.trans (cons_adv hl a5.1)
      exact a6.trans (want_adv hl sKet a6.1).adv
end
theorem tele_p {l : List Tk} (hl : TkOk l) (i0 : Nat) (σ : ST) (hw : Wf l σ) : PCalls Try.prog 51 [.ptr i0 0, .d (.v (.int .i64 24)), .fn (.func 52) [.ptr i0 0] [], .fn (.func 53) [.ptr i0 0] []] (prS i0 l σ) fun p s => p = .d (slD (teleS l σ).1) ∧ s = prS i0 l (teleS l σ).2 :=
  list_p hl i0 24 52 53 (by decide) (paren0S l) (bindS l) rfl rfl (fun σ h => paren0_p hl i0 σ h) (fun σ h => bind_p hl i0 σ h) (fun σ h => bind_adv hl h) σ hw
theorem cons_p {l : List Tk} (hl : TkOk l) (i0 : Nat) (σ : ST) (hw : Wf l σ) : PCalls Try.prog 51 [.ptr i0 0, .d (.v (.int .i64 16)), .fn (.func 56) [.ptr i0 0] [], .fn (.func 57) [.ptr i0 0] []] (prS i0 l σ) fun p s => p = .d (slD (consS l σ).1) ∧ s = prS i0 l (consS l σ).2 :=
  list_p hl i0 16 56 57 (by decide) (openS l) (lineS l) rfl rfl (fun σ h => open_p hl i0 σ h) (fun σ h => line_p' hl i0 σ h) (fun σ h => line_adv hl h) σ hw
set_option maxHeartbeats 4000000 in
theorem decl_p' {l : List Tk} (hl : TkOk l) (i0 : Nat) (σ : ST) (hw : Wf l σ) : PCalls Try.prog 29 [.ptr i0 0] (prS i0 l σ) fun p s => p = aggD (declS l σ).1 ∧ s = prS i0 l (declS l σ).2 := by
  have b1 : σ.i ≤ 150000 := Nat.le_trans (hw.le hl) (by decide)
  have ck := Lib.hid (kind_p hl i0 σ hw)
  have ct := Lib.hid (tok0_p i0 l σ hl.len hl.pos b1)
  by_cases h0 : kindS l σ = 0
  · rw [decl_0 h0]
    have cf := fail_p i0 l σ 1 (tkg l σ.i).at_
    rw [h0] at ck
    clear h0
    generalize (tkg l σ.i).at_ = at0 at *
    generalize failS 1 at0 σ = σ1 at *
    unfold zNd
    simp only [aggD, encD_dc, List.map_cons, List.map_nil, Nd.kind, Nd.at, Nd.name, Nd.num, Nd.sub]
    have CF := Lib.hid cf
    clear cf
    refine PCalls.enter Try.func29 rfl Try.ntmps29 (by simp) ?_
    simp only [argsF]
    repeat (first | (with_reducible first | refine Qa ?_ | refine Qb ?_ | refine Qc ?_ | refine Qd ?_ | refine Qe ?_ | refine Qf ?_ | refine Qg ?_ | refine Qh ?_ | refine Qi ?_ | refine Qj ?_ | refine Qk ?_ | refine Ql ?_ | refine Qm ?_ | refine Qn ?_ | refine Qo ?_ | refine Qp rfl ?_) | (first | refine Qq ?_ | refine Qr ?_) | (first | refine Qs ?_ | refine Qt ?_ | refine Qu ?_) | (first | refine Qv ?_ | refine Qw ?_) | (first | refine Qx ?_ | refine Qy ?_) | (first | refine Qz ?_ | refine Ra ?_ | refine Rb ?_))
    refine POps_alloc_a ?_
    intro i1 hi1
    simp only [prS, List.cons_append, List.nil_append, List.append_nil, List.drop_succ_cons, List.drop_zero, List.drop_nil, St.freshB_box, St.freshB_nil, St.freshB_tok, St.freshB_obj] at hi1
    repeat (first | (with_reducible first | refine Qa ?_ | refine Qb ?_ | refine Qc ?_ | refine Qd ?_ | refine Qe ?_ | refine Qf ?_ | refine Qg ?_ | refine Qh ?_ | refine Qi ?_ | refine Qj ?_ | refine Qk ?_ | refine Ql ?_ | refine Qm ?_ | refine Qn ?_ | refine Qo ?_ | refine Qp rfl ?_) | (first | refine Qq ?_ | refine Qr ?_) | (first | refine Qs ?_ | refine Qt ?_ | refine Qu ?_) | (first | refine Qv ?_ | refine Qw ?_) | (first | refine Qx ?_ | refine Qy ?_) | (first | refine Qz ?_ | refine Ra ?_ | refine Rb ?_))
    refine Rd 1 1 (ck.out) ?_
    rintro _ _ ⟨rfl, rfl⟩
    repeat (first | (with_reducible first | refine Qa ?_ | refine Qb ?_ | refine Qc ?_ | refine Qd ?_ | refine Qe ?_ | refine Qf ?_ | refine Qg ?_ | refine Qh ?_ | refine Qi ?_ | refine Qj ?_ | refine Qk ?_ | refine Ql ?_ | refine Qm ?_ | refine Qn ?_ | refine Qo ?_ | refine Qp rfl ?_) | (first | refine Qq ?_ | refine Qr ?_) | (first | refine Qs ?_ | refine Qt ?_ | refine Qu ?_) | (first | refine Qv ?_ | refine Qw ?_) | (first | refine Qx ?_ | refine Qy ?_) | (first | refine Qz ?_ | refine Ra ?_ | refine Rb ?_))
    refine Rd 1 1 (ct.out) ?_
    rintro _ _ ⟨rfl, rfl⟩
    repeat (first | (with_reducible first | refine Qa ?_ | refine Qb ?_ | refine Qc ?_ | refine Qd ?_ | refine Qe ?_ | refine Qf ?_ | refine Qg ?_ | refine Qh ?_ | refine Qi ?_ | refine Qj ?_ | refine Qk ?_ | refine Ql ?_ | refine Qm ?_ | refine Qn ?_ | refine Qo ?_ | refine Qp rfl ?_) | (first | refine Qq ?_ | refine Qr ?_) | (first | refine Qs ?_ | refine Qt ?_ | refine Qu ?_) | (first | refine Qv ?_ | refine Qw ?_) | (first | refine Qx ?_ | refine Qy ?_) | (first | refine Qz ?_ | refine Ra ?_ | refine Rb ?_))
    refine POps_alloc_a ?_
    intro i2 hi2
    simp only [prS, List.cons_append, List.nil_append, List.append_nil, List.drop_succ_cons, List.drop_zero, List.drop_nil, St.freshB_box, St.freshB_nil, St.freshB_tok, St.freshB_obj] at hi2
    repeat (first | (with_reducible first | refine Qa ?_ | refine Qb ?_ | refine Qc ?_ | refine Qd ?_ | refine Qe ?_ | refine Qf ?_ | refine Qg ?_ | refine Qh ?_ | refine Qi ?_ | refine Qj ?_ | refine Qk ?_ | refine Ql ?_ | refine Qm ?_ | refine Qn ?_ | refine Qo ?_ | refine Qp rfl ?_) | (first | refine Qq ?_ | refine Qr ?_) | (first | refine Qs ?_ | refine Qt ?_ | refine Qu ?_) | (first | refine Qv ?_ | refine Qw ?_) | (first | refine Qx ?_ | refine Qy ?_) | (first | refine Qz ?_ | refine Ra ?_ | refine Rb ?_))
    refine Rc ?_
    repeat (first | (with_reducible first | refine Qa ?_ | refine Qb ?_ | refine Qc ?_ | refine Qd ?_ | refine Qe ?_ | refine Qf ?_ | refine Qg ?_ | refine Qh ?_ | refine Qi ?_ | refine Qj ?_ | refine Qk ?_ | refine Ql ?_ | refine Qm ?_ | refine Qn ?_ | refine Qo ?_ | refine Qp rfl ?_) | (first | refine Qq ?_ | refine Qr ?_) | (first | refine Qs ?_ | refine Qt ?_ | refine Qu ?_) | (first | refine Qv ?_ | refine Qw ?_) | (first | refine Qx ?_ | refine Qy ?_) | (first | refine Qz ?_ | refine Ra ?_ | refine Rb ?_))
    refine Rd 2 1 (CF.out) ?_
    rintro _ _ ⟨rfl, rfl⟩
    repeat (first | (with_reducible first | refine Qa ?_ | refine Qb ?_ | refine Qc ?_ | refine Qd ?_ | refine Qe ?_ | refine Qf ?_ | refine Qg ?_ | refine Qh ?_ | refine Qi ?_ | refine Qj ?_ | refine Qk ?_ | refine Ql ?_ | refine Qm ?_ | refine Qn ?_ | refine Qo ?_ | refine Qp rfl ?_) | (first | refine Qq ?_ | refine Qr ?_) | (first | refine Qs ?_ | refine Qt ?_ | refine Qu ?_) | (first | refine Qv ?_ | refine Qw ?_) | (first | refine Qx ?_ | refine Qy ?_) | (first | refine Qz ?_ | refine Ra ?_ | refine Rb ?_))
    refine Rc ?_
    repeat (first | (with_reducible first | refine Qa ?_ | refine Qb ?_ | refine Qc ?_ | refine Qd ?_ | refine Qe ?_ | refine Qf ?_ | refine Qg ?_ | refine Qh ?_ | refine Qi ?_ | refine Qj ?_ | refine Qk ?_ | refine Ql ?_ | refine Qm ?_ | refine Qn ?_ | refine Qo ?_ | refine Qp rfl ?_) | (first | refine Qq ?_ | refine Qr ?_) | (first | refine Qs ?_ | refine Qt ?_ | refine Qu ?_) | (first | refine Qv ?_ | refine Qw ?_) | (first | refine Qx ?_ | refine Qy ?_) | (first | refine Qz ?_ | refine Ra ?_ | refine Rb ?_))
    refine retP_ok (st' := prS i0 l σ1) (by simp) (by simp only [Try.results29]; rfl) (by simp [resP, St.box?, PF.get, loadB, TyK.agg, *]; rfl) (by repeat (first | exact List.Sublist.refl _ | exact List.nil_sublist _ | refine List.Sublist.cons_cons _ ?_ | refine List.Sublist.cons _ ?_)) ?_
    exact ⟨rfl, rfl⟩
  · have a0 := inc_adv hl (kind_k h0)
    have a1 := a0.trans (name_adv hl a0.1).adv
    have cn := name_p i0 l (incS σ) hl.len hl.pos (Nat.le_trans (a0.1.le hl) (by decide))
    have hin := wrap_i b1
    by_cases h3 : kindS l σ = 3
    · rw [decl_3 h3]
      have a3 := a1.trans (want_adv hl sCol a1.1).adv
      have a4 := a3.trans (exprF_adv hl a3.1)
      have a5 := a4.trans (want_adv hl sBra a4.1).adv
      have a6 := a5.trans (rows_adv hl (l.length + 1) [] _ a5.1)
      have c1 := want_p i0 l _ sCol hl.len hl.pos (Nat.le_trans (a1.1.le hl) (by decide))
      have c2 := expr_full hl i0 _ a3.1
      have c3 := want_p i0 l _ sBra hl.len hl.pos (Nat.le_trans (a4.1.le hl) (by decide))
      have c4 := rows_p hl i0 _ a5.1
      have c5 := want_p i0 l _ sKet hl.len hl.pos (Nat.le_trans (a6.1.le hl) (by decide))
      rw [h3] at ck
      clear h0 h3 a0 a1 a3 a4 a5 a6 hw
      generalize (tkg l σ.i).at_ = at0 at *
      obtain ⟨i, a, b⟩ := σ
      simp only at hin b1
      generalize (nameS l (incS ⟨i, a, b⟩)).1 = x at *
      generalize (nameS l (incS ⟨i, a, b⟩)).2 = σ1 at *
      generalize wantS l sCol σ1 = σ2 at *
      generalize (exprS l (exprF l) σ2).1 = A at *
      generalize (exprS l (exprF l) σ2).2 = σ3 at *
      generalize wantS l sBra σ3 = σ4 at *
      generalize (rowsS l (l.length + 1) [] σ4).1 = R at *
      generalize (rowsS l (l.length + 1) [] σ4).2 = σ5 at *
      generalize wantS l sKet σ5 = σ6 at *
      unfold sCol at c1
      unfold sBra at c3
      unfold sKet at c5
      unfold slD at c4
      simp only [aggD, encD_nd, encD_dc, List.map_cons, List.map_nil] at c2 ⊢
      have CN := Lib.hid cn
      have C1 := Lib.hid c1
      have C2 := Lib.hid c2
      have C3 := Lib.hid c3
      have C4 := Lib.hid c4
      have C5 := Lib.hid c5
      clear cn c1 c2 c3 c4 c5
      refine PCalls.enter Try.func29 rfl Try.ntmps29 (by simp) ?_
      simp only [argsF]
      repeat (first | (with_reducible first | refine Qa ?_ | refine Qb ?_ | refine Qc ?_ | refine Qd ?_ | refine Qe ?_ | refine Qf ?_ | refine Qg ?_ | refine Qh ?_ | refine Qi ?_ | refine Qj ?_ | refine Qk ?_ | refine Ql ?_ | refine Qm ?_ | refine Qn ?_ | refine Qo ?_ | refine Qp rfl ?_) | (first | refine Qq ?_ | refine Qr ?_) | (first | refine Qs ?_ | refine Qt ?_ | refine Qu ?_) | (first | refine Qv ?_ | refine Qw ?_) | (first | refine Qx ?_ | refine Qy ?_) | (first | refine Qz ?_ | refine Ra ?_ | refine Rb ?_))
      refine POps_alloc_a ?_
      intro i1 hi1
      simp only [prS, List.cons_append, List.nil_append, List.append_nil, List.drop_succ_cons, List.drop_zero, List.drop_nil, St.freshB_box, St.freshB_nil, St.freshB_tok, St.freshB_obj] at hi1
      repeat (first | (with_reducible first | refine Qa ?_ | refine Qb ?_ | refine Qc ?_ | refine Qd ?_ | refine Qe ?_ | refine Qf ?_ | refine Qg ?_ | refine Qh ?_ | refine Qi ?_ | refine Qj ?_ | refine Qk ?_ | refine Ql ?_ | refine Qm ?_ | refine Qn ?_ | refine Qo ?_ | refine Qp rfl ?_) | (first | refine Qq ?_ | refine Qr ?_) | (first | refine Qs ?_ | refine Qt ?_ | refine Qu ?_) | (first | refine Qv ?_ | refine Qw ?_) | (first | refine Qx ?_ | refine Qy ?_) | (first | refine Qz ?_ | refine Ra ?_ | refine Rb ?_))
      refine Rd 1 1 (ck.out) ?_
      rintro _ _ ⟨rfl, rfl⟩
      repeat (first | (with_reducible first | refine Qa ?_ | refine Qb ?_ | refine Qc ?_ | refine Qd ?_ | refine Qe ?_ | refine Qf ?_ | refine Qg ?_ | refine Qh ?_ | refine Qi ?_ | refine Qj ?_ | refine Qk ?_ | refine Ql ?_ | refine Qm ?_ | refine Qn ?_ | refine Qo ?_ | refine Qp rfl ?_) | (first | refine Qq ?_ | refine Qr ?_) | (first | refine Qs ?_ | refine Qt ?_ | refine Qu ?_) | (first | refine Qv ?_ | refine Qw ?_) | (first | refine Qx ?_ | refine Qy ?_) | (first | refine Qz ?_ | refine Ra ?_ | refine Rb ?_))
      refine Rd 1 1 (ct.out) ?_
      rintro _ _ ⟨rfl, rfl⟩
      repeat (first | (with_reducible first | refine Qa ?_ | refine Qb ?_ | refine Qc ?_ | refine Qd ?_ | refine Qe ?_ | refine Qf ?_ | refine Qg ?_ | refine Qh ?_ | refine Qi ?_ | refine Qj ?_ | refine Qk ?_ | refine Ql ?_ | refine Qm ?_ | refine Qn ?_ | refine Qo ?_ | refine Qp rfl ?_) | (first | refine Qq ?_ | refine Qr ?_) | (first | refine Qs ?_ | refine Qt ?_ | refine Qu ?_) | (first | refine Qv ?_ | refine Qw ?_) | (first | refine Qx ?_ | refine Qy ?_) | (first | refine Qz ?_ | refine Ra ?_ | refine Rb ?_))
      refine POps_alloc_a ?_
      intro i2 hi2
      simp only [prS, List.cons_append, List.nil_append, List.append_nil, List.drop_succ_cons, List.drop_zero, List.drop_nil, St.freshB_box, St.freshB_nil, St.freshB_tok, St.freshB_obj] at hi2
      repeat (first | (with_reducible first | refine Qa ?_ | refine Qb ?_ | refine Qc ?_ | refine Qd ?_ | refine Qe ?_ | refine Qf ?_ | refine Qg ?_ | refine Qh ?_ | refine Qi ?_ | refine Qj ?_ | refine Qk ?_ | refine Ql ?_ | refine Qm ?_ | refine Qn ?_ | refine Qo ?_ | refine Qp rfl ?_) | (first | refine Qq ?_ | refine Qr ?_) | (first | refine Qs ?_ | refine Qt ?_ | refine Qu ?_) | (first | refine Qv ?_ | refine Qw ?_) | (first | refine Qx ?_ | refine Qy ?_) | (first | refine Qz ?_ | refine Ra ?_ | refine Rb ?_))
      refine Rc ?_
      unfold prS
      repeat (first | (with_reducible first | refine Qa ?_ | refine Qb ?_ | refine Qc ?_ | refine Qd ?_ | refine Qe ?_ | refine Qf ?_ | refine Qg ?_ | refine Qh ?_ | refine Qi ?_ | refine Qj ?_ | refine Qk ?_ | refine Ql ?_ | refine Qm ?_ | refine Qn ?_ | refine Qo ?_ | refine Qp rfl ?_) | (first | refine Qq ?_ | refine Qr ?_) | (first | refine Qs ?_ | refine Qt ?_ | refine Qu ?_) | (first | refine Qv ?_ | refine Qw ?_) | (first | refine Qx ?_ | refine Qy ?_) | (first | refine Qz ?_ | refine Ra ?_ | refine Rb ?_))
      refine Rc ?_
      repeat (first | (with_reducible first | refine Qa ?_ | refine Qb ?_ | refine Qc ?_ | refine Qd ?_ | refine Qe ?_ | refine Qf ?_ | refine Qg ?_ | refine Qh ?_ | refine Qi ?_ | refine Qj ?_ | refine Qk ?_ | refine Ql ?_ | refine Qm ?_ | refine Qn ?_ | refine Qo ?_ | refine Qp rfl ?_) | (first | refine Qq ?_ | refine Qr ?_) | (first | refine Qs ?_ | refine Qt ?_ | refine Qu ?_) | (first | refine Qv ?_ | refine Qw ?_) | (first | refine Qx ?_ | refine Qy ?_) | (first | refine Qz ?_ | refine Ra ?_ | refine Rb ?_))
      refine Rd 2 1 (CN.out) ?_
      rintro _ _ ⟨rfl, rfl⟩
      repeat (first | (with_reducible first | refine Qa ?_ | refine Qb ?_ | refine Qc ?_ | refine Qd ?_ | refine Qe ?_ | refine Qf ?_ | refine Qg ?_ | refine Qh ?_ | refine Qi ?_ | refine Qj ?_ | refine Qk ?_ | refine Ql ?_ | refine Qm ?_ | refine Qn ?_ | refine Qo ?_ | refine Qp rfl ?_) | (first | refine Qq ?_ | refine Qr ?_) | (first | refine Qs ?_ | refine Qt ?_ | refine Qu ?_) | (first | refine Qv ?_ | refine Qw ?_) | (first | refine Qx ?_ | refine Qy ?_) | (first | refine Qz ?_ | refine Ra ?_ | refine Rb ?_))
      refine Rc ?_
      repeat (first | (with_reducible first | refine Qa ?_ | refine Qb ?_ | refine Qc ?_ | refine Qd ?_ | refine Qe ?_ | refine Qf ?_ | refine Qg ?_ | refine Qh ?_ | refine Qi ?_ | refine Qj ?_ | refine Qk ?_ | refine Ql ?_ | refine Qm ?_ | refine Qn ?_ | refine Qo ?_ | refine Qp rfl ?_) | (first | refine Qq ?_ | refine Qr ?_) | (first | refine Qs ?_ | refine Qt ?_ | refine Qu ?_) | (first | refine Qv ?_ | refine Qw ?_) | (first | refine Qx ?_ | refine Qy ?_) | (first | refine Qz ?_ | refine Ra ?_ | refine Rb ?_))
      refine Rd 2 1 (C1.out) ?_
      rintro _ _ ⟨rfl, rfl⟩
      repeat (first | (with_reducible first | refine Qa ?_ | refine Qb ?_ | refine Qc ?_ | refine Qd ?_ | refine Qe ?_ | refine Qf ?_ | refine Qg ?_ | refine Qh ?_ | refine Qi ?_ | refine Qj ?_ | refine Qk ?_ | refine Ql ?_ | refine Qm ?_ | refine Qn ?_ | refine Qo ?_ | refine Qp rfl ?_) | (first | refine Qq ?_ | refine Qr ?_) | (first | refine Qs ?_ | refine Qt ?_ | refine Qu ?_) | (first | refine Qv ?_ | refine Qw ?_) | (first | refine Qx ?_ | refine Qy ?_) | (first | refine Qz ?_ | refine Ra ?_ | refine Rb ?_))
      refine Rd 2 1 (C2.out) ?_
      rintro _ _ ⟨rfl, rfl⟩
      repeat (first | (with_reducible first | refine Qa ?_ | refine Qb ?_ | refine Qc ?_ | refine Qd ?_ | refine Qe ?_ | refine Qf ?_ | refine Qg ?_ | refine Qh ?_ | refine Qi ?_ | refine Qj ?_ | refine Qk ?_ | refine Ql ?_ | refine Qm ?_ | refine Qn ?_ | refine Qo ?_ | refine Qp rfl ?_) | (first | refine Qq ?_ | refine Qr ?_) | (first | refine Qs ?_ | refine Qt ?_ | refine Qu ?_) | (first | refine Qv ?_ | refine Qw ?_) | (first | refine Qx ?_ | refine Qy ?_) | (first | refine Qz ?_ | refine Ra ?_ | refine Rb ?_))
      refine Rc ?_
      repeat (first | (with_reducible first | refine Qa ?_ | refine Qb ?_ | refine Qc ?_ | refine Qd ?_ | refine Qe ?_ | refine Qf ?_ | refine Qg ?_ | refine Qh ?_ | refine Qi ?_ | refine Qj ?_ | refine Qk ?_ | refine Ql ?_ | refine Qm ?_ | refine Qn ?_ | refine Qo ?_ | refine Qp rfl ?_) | (first | refine Qq ?_ | refine Qr ?_) | (first | refine Qs ?_ | refine Qt ?_ | refine Qu ?_) | (first | refine Qv ?_ | refine Qw ?_) | (first | refine Qx ?_ | refine Qy ?_) | (first | refine Qz ?_ | refine Ra ?_ | refine Rb ?_))
      refine Rd 2 1 (C3.out) ?_
      rintro _ _ ⟨rfl, rfl⟩
      repeat (first | (with_reducible first | refine Qa ?_ | refine Qb ?_ | refine Qc ?_ | refine Qd ?_ | refine Qe ?_ | refine Qf ?_ | refine Qg ?_ | refine Qh ?_ | refine Qi ?_ | refine Qj ?_ | refine Qk ?_ | refine Ql ?_ | refine Qm ?_ | refine Qn ?_ | refine Qo ?_ | refine Qp rfl ?_) | (first | refine Qq ?_ | refine Qr ?_) | (first | refine Qs ?_ | refine Qt ?_ | refine Qu ?_) | (first | refine Qv ?_ | refine Qw ?_) | (first | refine Qx ?_ | refine Qy ?_) | (first | refine Qz ?_ | refine Ra ?_ | refine Rb ?_))
      refine Rd 2 1 (C4.out) ?_
      rintro _ _ ⟨rfl, rfl⟩
      repeat (first | (with_reducible first | refine Qa ?_ | refine Qb ?_ | refine Qc ?_ | refine Qd ?_ | refine Qe ?_ | refine Qf ?_ | refine Qg ?_ | refine Qh ?_ | refine Qi ?_ | refine Qj ?_ | refine Qk ?_ | refine Ql ?_ | refine Qm ?_ | refine Qn ?_ | refine Qo ?_ | refine Qp rfl ?_) | (first | refine Qq ?_ | refine Qr ?_) | (first | refine Qs ?_ | refine Qt ?_ | refine Qu ?_) | (first | refine Qv ?_ | refine Qw ?_) | (first | refine Qx ?_ | refine Qy ?_) | (first | refine Qz ?_ | refine Ra ?_ | refine Rb ?_))
      refine Rc ?_
      repeat (first | (with_reducible first | refine Qa ?_ | refine Qb ?_ | refine Qc ?_ | refine Qd ?_ | refine Qe ?_ | refine Qf ?_ | refine Qg ?_ | refine Qh ?_ | refine Qi ?_ | refine Qj ?_ | refine Qk ?_ | refine Ql ?_ | refine Qm ?_ | refine Qn ?_ | refine Qo ?_ | refine Qp rfl ?_) | (first | refine Qq ?_ | refine Qr ?_) | (first | refine Qs ?_ | refine Qt ?_ | refine Qu ?_) | (first | refine Qv ?_ | refine Qw ?_) | (first | refine Qx ?_ | refine Qy ?_) | (first | refine Qz ?_ | refine Ra ?_ | refine Rb ?_))
      refine Rd 2 1 (C5.out) ?_
      rintro _ _ ⟨rfl, rfl⟩
      repeat (first | (with_reducible first | refine Qa ?_ | refine Qb ?_ | refine Qc ?_ | refine Qd ?_ | refine Qe ?_ | refine Qf ?_ | refine Qg ?_ | refine Qh ?_ | refine Qi ?_ | refine Qj ?_ | refine Qk ?_ | refine Ql ?_ | refine Qm ?_ | refine Qn ?_ | refine Qo ?_ | refine Qp rfl ?_) | (first | refine Qq ?_ | refine Qr ?_) | (first | refine Qs ?_ | refine Qt ?_ | refine Qu ?_) | (first | refine Qv ?_ | refine Qw ?_) | (first | refine Qx ?_ | refine Qy ?_) | (first | refine Qz ?_ | refine Ra ?_ | refine Rb ?_))
      refine Rc ?_
      repeat (first | (with_reducible first | refine Qa ?_ | refine Qb ?_ | refine Qc ?_ | refine Qd ?_ | refine Qe ?_ | refine Qf ?_ | refine Qg ?_ | refine Qh ?_ | refine Qi ?_ | refine Qj ?_ | refine Qk ?_ | refine Ql ?_ | refine Qm ?_ | refine Qn ?_ | refine Qo ?_ | refine Qp rfl ?_) | (first | refine Qq ?_ | refine Qr ?_) | (first | refine Qs ?_ | refine Qt ?_ | refine Qu ?_) | (first | refine Qv ?_ | refine Qw ?_) | (first | refine Qx ?_ | refine Qy ?_) | (first | refine Qz ?_ | refine Ra ?_ | refine Rb ?_))
      refine retP_ok (st' := prS i0 l σ6) (by simp) (by simp only [Try.results29]; rfl) (by simp [resP, St.box?, PF.get, loadB, TyK.agg, *]; rfl) (by repeat (first | exact List.Sublist.refl _ | exact List.nil_sublist _ | refine List.Sublist.cons_cons _ ?_ | refine List.Sublist.cons _ ?_)) ?_
      exact ⟨rfl, rfl⟩
    · rw [decl_1 h0 h3]
      have a2 := a1.trans (tele_adv hl a1.1)
      have a3 := a2.trans (want_adv hl sCol a2.1).adv
      have a4 := a3.trans (exprF_adv hl a3.1)
      have a5 := a4.trans (want_adv hl sBra a4.1).adv
      have a6 := a5.trans (cons_adv hl a5.1)
      have c0 := tele_p hl i0 _ a1.1
      have c1 := want_p i0 l _ sCol hl.len hl.pos (Nat.le_trans (a2.1.le hl) (by decide))
      have c2 := expr_full hl i0 _ a3.1
      have c3 := want_p i0 l _ sBra hl.len hl.pos (Nat.le_trans (a4.1.le hl) (by decide))
      have c4 := cons_p hl i0 _ a5.1
      have c5 := want_p i0 l _ sKet hl.len hl.pos (Nat.le_trans (a6.1.le hl) (by decide))
      clear a0 a1 a2 a3 a4 a5 a6 hw
      generalize kindS l σ = k at *
      generalize (tkg l σ.i).at_ = at0 at *
      obtain ⟨i, a, b⟩ := σ
      simp only at hin b1
      generalize (nameS l (incS ⟨i, a, b⟩)).1 = x at *
      generalize (nameS l (incS ⟨i, a, b⟩)).2 = σ0 at *
      generalize (teleS l σ0).1 = T at *
      generalize (teleS l σ0).2 = σ1 at *
      generalize wantS l sCol σ1 = σ2 at *
      generalize (exprS l (exprF l) σ2).1 = A at *
      generalize (exprS l (exprF l) σ2).2 = σ3 at *
      generalize wantS l sBra σ3 = σ4 at *
      generalize (consS l σ4).1 = R at *
      generalize (consS l σ4).2 = σ5 at *
      generalize wantS l sKet σ5 = σ6 at *
      unfold sCol at c1
      unfold sBra at c3
      unfold sKet at c5
      unfold slD at c4 c0
      simp only [aggD, encD_nd, encD_dc, List.map_cons, List.map_nil] at c2 ⊢
      have CN := Lib.hid cn
      have C0 := Lib.hid c0
      have C1 := Lib.hid c1
      have C2 := Lib.hid c2
      have C3 := Lib.hid c3
      have C4 := Lib.hid c4
      have C5 := Lib.hid c5
      clear cn c0 c1 c2 c3 c4 c5
      refine PCalls.enter Try.func29 rfl Try.ntmps29 (by simp) ?_
      simp only [argsF]
      repeat (first | (with_reducible first | refine Qa ?_ | refine Qb ?_ | refine Qc ?_ | refine Qd ?_ | refine Qe ?_ | refine Qf ?_ | refine Qg ?_ | refine Qh ?_ | refine Qi ?_ | refine Qj ?_ | refine Qk ?_ | refine Ql ?_ | refine Qm ?_ | refine Qn ?_ | refine Qo ?_ | refine Qp rfl ?_) | (first | refine Qq ?_ | refine Qr ?_) | (first | refine Qs ?_ | refine Qt ?_ | refine Qu ?_) | (first | refine Qv ?_ | refine Qw ?_) | (first | refine Qx ?_ | refine Qy ?_) | (first | refine Qz ?_ | refine Ra ?_ | refine Rb ?_))
      refine POps_alloc_a ?_
      intro i1 hi1
      simp only [prS, List.cons_append, List.nil_append, List.append_nil, List.drop_succ_cons, List.drop_zero, List.drop_nil, St.freshB_box, St.freshB_nil, St.freshB_tok, St.freshB_obj] at hi1
      repeat (first | (with_reducible first | refine Qa ?_ | refine Qb ?_ | refine Qc ?_ | refine Qd ?_ | refine Qe ?_ | refine Qf ?_ | refine Qg ?_ | refine Qh ?_ | refine Qi ?_ | refine Qj ?_ | refine Qk ?_ | refine Ql ?_ | refine Qm ?_ | refine Qn ?_ | refine Qo ?_ | refine Qp rfl ?_) | (first | refine Qq ?_ | refine Qr ?_) | (first | refine Qs ?_ | refine Qt ?_ | refine Qu ?_) | (first | refine Qv ?_ | refine Qw ?_) | (first | refine Qx ?_ | refine Qy ?_) | (first | refine Qz ?_ | refine Ra ?_ | refine Rb ?_))
      refine Rd 1 1 (ck.out) ?_
      rintro _ _ ⟨rfl, rfl⟩
      repeat (first | (with_reducible first | refine Qa ?_ | refine Qb ?_ | refine Qc ?_ | refine Qd ?_ | refine Qe ?_ | refine Qf ?_ | refine Qg ?_ | refine Qh ?_ | refine Qi ?_ | refine Qj ?_ | refine Qk ?_ | refine Ql ?_ | refine Qm ?_ | refine Qn ?_ | refine Qo ?_ | refine Qp rfl ?_) | (first | refine Qq ?_ | refine Qr ?_) | (first | refine Qs ?_ | refine Qt ?_ | refine Qu ?_) | (first | refine Qv ?_ | refine Qw ?_) | (first | refine Qx ?_ | refine Qy ?_) | (first | refine Qz ?_ | refine Ra ?_ | refine Rb ?_))
      refine Rd 1 1 (ct.out) ?_
      rintro _ _ ⟨rfl, rfl⟩
      repeat (first | (with_reducible first | refine Qa ?_ | refine Qb ?_ | refine Qc ?_ | refine Qd ?_ | refine Qe ?_ | refine Qf ?_ | refine Qg ?_ | refine Qh ?_ | refine Qi ?_ | refine Qj ?_ | refine Qk ?_ | refine Ql ?_ | refine Qm ?_ | refine Qn ?_ | refine Qo ?_ | refine Qp rfl ?_) | (first | refine Qq ?_ | refine Qr ?_) | (first | refine Qs ?_ | refine Qt ?_ | refine Qu ?_) | (first | refine Qv ?_ | refine Qw ?_) | (first | refine Qx ?_ | refine Qy ?_) | (first | refine Qz ?_ | refine Ra ?_ | refine Rb ?_))
      refine POps_alloc_a ?_
      intro i2 hi2
      simp only [prS, List.cons_append, List.nil_append, List.append_nil, List.drop_succ_cons, List.drop_zero, List.drop_nil, St.freshB_box, St.freshB_nil, St.freshB_tok, St.freshB_obj] at hi2
      repeat (first | (with_reducible first | refine Qa ?_ | refine Qb ?_ | refine Qc ?_ | refine Qd ?_ | refine Qe ?_ | refine Qf ?_ | refine Qg ?_ | refine Qh ?_ | refine Qi ?_ | refine Qj ?_ | refine Qk ?_ | refine Ql ?_ | refine Qm ?_ | refine Qn ?_ | refine Qo ?_ | refine Qp rfl ?_) | (first | refine Qq ?_ | refine Qr ?_) | (first | refine Qs ?_ | refine Qt ?_ | refine Qu ?_) | (first | refine Qv ?_ | refine Qw ?_) | (first | refine Qx ?_ | refine Qy ?_) | (first | refine Qz ?_ | refine Ra ?_ | refine Rb ?_))
      refine Rc ?_
      unfold prS
      repeat (first | (with_reducible first | refine Qa ?_ | refine Qb ?_ | refine Qc ?_ | refine Qd ?_ | refine Qe ?_ | refine Qf ?_ | refine Qg ?_ | refine Qh ?_ | refine Qi ?_ | refine Qj ?_ | refine Qk ?_ | refine Ql ?_ | refine Qm ?_ | refine Qn ?_ | refine Qo ?_ | refine Qp rfl ?_) | (first | refine Qq ?_ | refine Qr ?_) | (first | refine Qs ?_ | refine Qt ?_ | refine Qu ?_) | (first | refine Qv ?_ | refine Qw ?_) | (first | refine Qx ?_ | refine Qy ?_) | (first | refine Qz ?_ | refine Ra ?_ | refine Rb ?_))
      refine Rc ?_
      repeat (first | (with_reducible first | refine Qa ?_ | refine Qb ?_ | refine Qc ?_ | refine Qd ?_ | refine Qe ?_ | refine Qf ?_ | refine Qg ?_ | refine Qh ?_ | refine Qi ?_ | refine Qj ?_ | refine Qk ?_ | refine Ql ?_ | refine Qm ?_ | refine Qn ?_ | refine Qo ?_ | refine Qp rfl ?_) | (first | refine Qq ?_ | refine Qr ?_) | (first | refine Qs ?_ | refine Qt ?_ | refine Qu ?_) | (first | refine Qv ?_ | refine Qw ?_) | (first | refine Qx ?_ | refine Qy ?_) | (first | refine Qz ?_ | refine Ra ?_ | refine Rb ?_))
      refine Rd 2 1 (CN.out) ?_
      rintro _ _ ⟨rfl, rfl⟩
      repeat (first | (with_reducible first | refine Qa ?_ | refine Qb ?_ | refine Qc ?_ | refine Qd ?_ | refine Qe ?_ | refine Qf ?_ | refine Qg ?_ | refine Qh ?_ | refine Qi ?_ | refine Qj ?_ | refine Qk ?_ | refine Ql ?_ | refine Qm ?_ | refine Qn ?_ | refine Qo ?_ | refine Qp rfl ?_) | (first | refine Qq ?_ | refine Qr ?_) | (first | refine Qs ?_ | refine Qt ?_ | refine Qu ?_) | (first | refine Qv ?_ | refine Qw ?_) | (first | refine Qx ?_ | refine Qy ?_) | (first | refine Qz ?_ | refine Ra ?_ | refine Rb ?_))
      refine Rc ?_
      repeat (first | (with_reducible first | refine Qa ?_ | refine Qb ?_ | refine Qc ?_ | refine Qd ?_ | refine Qe ?_ | refine Qf ?_ | refine Qg ?_ | refine Qh ?_ | refine Qi ?_ | refine Qj ?_ | refine Qk ?_ | refine Ql ?_ | refine Qm ?_ | refine Qn ?_ | refine Qo ?_ | refine Qp rfl ?_) | (first | refine Qq ?_ | refine Qr ?_) | (first | refine Qs ?_ | refine Qt ?_ | refine Qu ?_) | (first | refine Qv ?_ | refine Qw ?_) | (first | refine Qx ?_ | refine Qy ?_) | (first | refine Qz ?_ | refine Ra ?_ | refine Rb ?_))
      refine POps_makeFunc ?_
      repeat (first | (with_reducible first | refine Qa ?_ | refine Qb ?_ | refine Qc ?_ | refine Qd ?_ | refine Qe ?_ | refine Qf ?_ | refine Qg ?_ | refine Qh ?_ | refine Qi ?_ | refine Qj ?_ | refine Qk ?_ | refine Ql ?_ | refine Qm ?_ | refine Qn ?_ | refine Qo ?_ | refine Qp rfl ?_) | (first | refine Qq ?_ | refine Qr ?_) | (first | refine Qs ?_ | refine Qt ?_ | refine Qu ?_) | (first | refine Qv ?_ | refine Qw ?_) | (first | refine Qx ?_ | refine Qy ?_) | (first | refine Qz ?_ | refine Ra ?_ | refine Rb ?_))
      refine POps_makeFunc ?_
      repeat (first | (with_reducible first | refine Qa ?_ | refine Qb ?_ | refine Qc ?_ | refine Qd ?_ | refine Qe ?_ | refine Qf ?_ | refine Qg ?_ | refine Qh ?_ | refine Qi ?_ | refine Qj ?_ | refine Qk ?_ | refine Ql ?_ | refine Qm ?_ | refine Qn ?_ | refine Qo ?_ | refine Qp rfl ?_) | (first | refine Qq ?_ | refine Qr ?_) | (first | refine Qs ?_ | refine Qt ?_ | refine Qu ?_) | (first | refine Qv ?_ | refine Qw ?_) | (first | refine Qx ?_ | refine Qy ?_) | (first | refine Qz ?_ | refine Ra ?_ | refine Rb ?_))
      refine Rd 2 1 (C0.out) ?_
      rintro _ _ ⟨rfl, rfl⟩
      repeat (first | (with_reducible first | refine Qa ?_ | refine Qb ?_ | refine Qc ?_ | refine Qd ?_ | refine Qe ?_ | refine Qf ?_ | refine Qg ?_ | refine Qh ?_ | refine Qi ?_ | refine Qj ?_ | refine Qk ?_ | refine Ql ?_ | refine Qm ?_ | refine Qn ?_ | refine Qo ?_ | refine Qp rfl ?_) | (first | refine Qq ?_ | refine Qr ?_) | (first | refine Qs ?_ | refine Qt ?_ | refine Qu ?_) | (first | refine Qv ?_ | refine Qw ?_) | (first | refine Qx ?_ | refine Qy ?_) | (first | refine Qz ?_ | refine Ra ?_ | refine Rb ?_))
      refine Rc ?_
      repeat (first | (with_reducible first | refine Qa ?_ | refine Qb ?_ | refine Qc ?_ | refine Qd ?_ | refine Qe ?_ | refine Qf ?_ | refine Qg ?_ | refine Qh ?_ | refine Qi ?_ | refine Qj ?_ | refine Qk ?_ | refine Ql ?_ | refine Qm ?_ | refine Qn ?_ | refine Qo ?_ | refine Qp rfl ?_) | (first | refine Qq ?_ | refine Qr ?_) | (first | refine Qs ?_ | refine Qt ?_ | refine Qu ?_) | (first | refine Qv ?_ | refine Qw ?_) | (first | refine Qx ?_ | refine Qy ?_) | (first | refine Qz ?_ | refine Ra ?_ | refine Rb ?_))
      refine Rd 2 1 (C1.out) ?_
      rintro _ _ ⟨rfl, rfl⟩
      repeat (first | (with_reducible first | refine Qa ?_ | refine Qb ?_ | refine Qc ?_ | refine Qd ?_ | refine Qe ?_ | refine Qf ?_ | refine Qg ?_ | refine Qh ?_ | refine Qi ?_ | refine Qj ?_ | refine Qk ?_ | refine Ql ?_ | refine Qm ?_ | refine Qn ?_ | refine Qo ?_ | refine Qp rfl ?_) | (first | refine Qq ?_ | refine Qr ?_) | (first | refine Qs ?_ | refine Qt ?_ | refine Qu ?_) | (first | refine Qv ?_ | refine Qw ?_) | (first | refine Qx ?_ | refine Qy ?_) | (first | refine Qz ?_ | refine Ra ?_ | refine Rb ?_))
      refine Rd 2 1 (C2.out) ?_
      rintro _ _ ⟨rfl, rfl⟩
      repeat (first | (with_reducible first | refine Qa ?_ | refine Qb ?_ | refine Qc ?_ | refine Qd ?_ | refine Qe ?_ | refine Qf ?_ | refine Qg ?_ | refine Qh ?_ | refine Qi ?_ | refine Qj ?_ | refine Qk ?_ | refine Ql ?_ | refine Qm ?_ | refine Qn ?_ | refine Qo ?_ | refine Qp rfl ?_) | (first | refine Qq ?_ | refine Qr ?_) | (first | refine Qs ?_ | refine Qt ?_ | refine Qu ?_) | (first | refine Qv ?_ | refine Qw ?_) | (first | refine Qx ?_ | refine Qy ?_) | (first | refine Qz ?_ | refine Ra ?_ | refine Rb ?_))
      refine Rc ?_
      repeat (first | (with_reducible first | refine Qa ?_ | refine Qb ?_ | refine Qc ?_ | refine Qd ?_ | refine Qe ?_ | refine Qf ?_ | refine Qg ?_ | refine Qh ?_ | refine Qi ?_ | refine Qj ?_ | refine Qk ?_ | refine Ql ?_ | refine Qm ?_ | refine Qn ?_ | refine Qo ?_ | refine Qp rfl ?_) | (first | refine Qq ?_ | refine Qr ?_) | (first | refine Qs ?_ | refine Qt ?_ | refine Qu ?_) | (first | refine Qv ?_ | refine Qw ?_) | (first | refine Qx ?_ | refine Qy ?_) | (first | refine Qz ?_ | refine Ra ?_ | refine Rb ?_))
      refine Rd 2 1 (C3.out) ?_
      rintro _ _ ⟨rfl, rfl⟩
      repeat (first | (with_reducible first | refine Qa ?_ | refine Qb ?_ | refine Qc ?_ | refine Qd ?_ | refine Qe ?_ | refine Qf ?_ | refine Qg ?_ | refine Qh ?_ | refine Qi ?_ | refine Qj ?_ | refine Qk ?_ | refine Ql ?_ | refine Qm ?_ | refine Qn ?_ | refine Qo ?_ | refine Qp rfl ?_) | (first | refine Qq ?_ | refine Qr ?_) | (first | refine Qs ?_ | refine Qt ?_ | refine Qu ?_) | (first | refine Qv ?_ | refine Qw ?_) | (first | refine Qx ?_ | refine Qy ?_) | (first | refine Qz ?_ | refine Ra ?_ | refine Rb ?_))
      refine POps_makeFunc ?_
      repeat (first | (with_reducible first | refine Qa ?_ | refine Qb ?_ | refine Qc ?_ | refine Qd ?_ | refine Qe ?_ | refine Qf ?_ | refine Qg ?_ | refine Qh ?_ | refine Qi ?_ | refine Qj ?_ | refine Qk ?_ | refine Ql ?_ | refine Qm ?_ | refine Qn ?_ | refine Qo ?_ | refine Qp rfl ?_) | (first | refine Qq ?_ | refine Qr ?_) | (first | refine Qs ?_ | refine Qt ?_ | refine Qu ?_) | (first | refine Qv ?_ | refine Qw ?_) | (first | refine Qx ?_ | refine Qy ?_) | (first | refine Qz ?_ | refine Ra ?_ | refine Rb ?_))
      refine POps_makeFunc ?_
      repeat (first | (with_reducible first | refine Qa ?_ | refine Qb ?_ | refine Qc ?_ | refine Qd ?_ | refine Qe ?_ | refine Qf ?_ | refine Qg ?_ | refine Qh ?_ | refine Qi ?_ | refine Qj ?_ | refine Qk ?_ | refine Ql ?_ | refine Qm ?_ | refine Qn ?_ | refine Qo ?_ | refine Qp rfl ?_) | (first | refine Qq ?_ | refine Qr ?_) | (first | refine Qs ?_ | refine Qt ?_ | refine Qu ?_) | (first | refine Qv ?_ | refine Qw ?_) | (first | refine Qx ?_ | refine Qy ?_) | (first | refine Qz ?_ | refine Ra ?_ | refine Rb ?_))
      refine Rd 2 1 (C4.out) ?_
      rintro _ _ ⟨rfl, rfl⟩
      repeat (first | (with_reducible first | refine Qa ?_ | refine Qb ?_ | refine Qc ?_ | refine Qd ?_ | refine Qe ?_ | refine Qf ?_ | refine Qg ?_ | refine Qh ?_ | refine Qi ?_ | refine Qj ?_ | refine Qk ?_ | refine Ql ?_ | refine Qm ?_ | refine Qn ?_ | refine Qo ?_ | refine Qp rfl ?_) | (first | refine Qq ?_ | refine Qr ?_) | (first | refine Qs ?_ | refine Qt ?_ | refine Qu ?_) | (first | refine Qv ?_ | refine Qw ?_) | (first | refine Qx ?_ | refine Qy ?_) | (first | refine Qz ?_ | refine Ra ?_ | refine Rb ?_))
      refine Rc ?_
      repeat (first | (with_reducible first | refine Qa ?_ | refine Qb ?_ | refine Qc ?_ | refine Qd ?_ | refine Qe ?_ | refine Qf ?_ | refine Qg ?_ | refine Qh ?_ | refine Qi ?_ | refine Qj ?_ | refine Qk ?_ | refine Ql ?_ | refine Qm ?_ | refine Qn ?_ | refine Qo ?_ | refine Qp rfl ?_) | (first | refine Qq ?_ | refine Qr ?_) | (first | refine Qs ?_ | refine Qt ?_ | refine Qu ?_) | (first | refine Qv ?_ | refine Qw ?_) | (first | refine Qx ?_ | refine Qy ?_) | (first | refine Qz ?_ | refine Ra ?_ | refine Rb ?_))
      refine Rd 2 1 (C5.out) ?_
      rintro _ _ ⟨rfl, rfl⟩
      repeat (first | (with_reducible first | refine Qa ?_ | refine Qb ?_ | refine Qc ?_ | refine Qd ?_ | refine Qe ?_ | refine Qf ?_ | refine Qg ?_ | refine Qh ?_ | refine Qi ?_ | refine Qj ?_ | refine Qk ?_ | refine Ql ?_ | refine Qm ?_ | refine Qn ?_ | refine Qo ?_ | refine Qp rfl ?_) | (first | refine Qq ?_ | refine Qr ?_) | (first | refine Qs ?_ | refine Qt ?_ | refine Qu ?_) | (first | refine Qv ?_ | refine Qw ?_) | (first | refine Qx ?_ | refine Qy ?_) | (first | refine Qz ?_ | refine Ra ?_ | refine Rb ?_))
      refine Rc ?_
      repeat (first | (with_reducible first | refine Qa ?_ | refine Qb ?_ | refine Qc ?_ | refine Qd ?_ | refine Qe ?_ | refine Qf ?_ | refine Qg ?_ | refine Qh ?_ | refine Qi ?_ | refine Qj ?_ | refine Qk ?_ | refine Ql ?_ | refine Qm ?_ | refine Qn ?_ | refine Qo ?_ | refine Qp rfl ?_) | (first | refine Qq ?_ | refine Qr ?_) | (first | refine Qs ?_ | refine Qt ?_ | refine Qu ?_) | (first | refine Qv ?_ | refine Qw ?_) | (first | refine Qx ?_ | refine Qy ?_) | (first | refine Qz ?_ | refine Ra ?_ | refine Rb ?_))
      refine retP_ok (st' := prS i0 l σ6) (by simp) (by simp only [Try.results29]; rfl) (by simp [resP, St.box?, PF.get, loadB, TyK.agg, *]; rfl) (by repeat (first | exact List.Sublist.refl _ | exact List.nil_sublist _ | refine List.Sublist.cons_cons _ ?_ | refine List.Sublist.cons _ ?_)) ?_
      exact ⟨rfl, rfl⟩
end Go.Proofs.Ytahhgpafjiljfaa

namespace Go.Proofs.Ytahhgpafjiljfaa
open Go.RowKit
set_option maxRecDepth 100000
set_option maxHeartbeats 4000000 in
theorem ppats_p (s : ByteArray) : PCalls Try.prog 14 [.d (.v (.string s))] [] fun p st => p = .tup [.d (slD (patsA s).1), .d (.v (.int .i64 (patsA s).2.1)), .d (.v (.int .i64 (patsA s).2.2))] ∧ st = [] := by
  have hl := startOk s
  have hw := startW s
  have H0 := Lib.hid (start_p s)
  have hE := pats_adv hl ((startL s).length + 1) [] (startS s) hw
  have HE := Lib.hid (fun i0 => pats_p hl i0 (startS s) hw)
  have HD := Lib.hid (fun i0 => end_p' hl i0 (patsS (startL s) ((startL s).length + 1) [] (startS s)).2 hE.1)
  have HA := Lib.hid (show patsA s = if (endS (startL s) (patsS (startL s) ((startL s).length + 1) [] (startS s)).2).bad = 0 then ((patsS (startL s) ((startL s).length + 1) [] (startS s)).1, (s.size : Int), 0) else ([], (endS (startL s) (patsS (startL s) ((startL s).length + 1) [] (startS s)).2).at_, (endS (startL s) (patsS (startL s) ((startL s).length + 1) [] (startS s)).2).bad) from rfl)
  clear hl hw hE
  generalize startS s = σ at *
  generalize startL s = l at *
  generalize (patsS l (l.length + 1) [] σ).1 = x at *
  generalize (patsS l (l.length + 1) [] σ).2 = σ1 at *
  generalize endS l σ1 = σ2 at *
  rw [HA.out]
  clear HA
  unfold slD at HE
  refine PCalls.enter Try.func14 rfl Try.ntmps14 (by simp) ?_
  simp only [argsF]
  repeat (first | (with_reducible first | refine Qa ?_ | refine Qb ?_ | refine Qc ?_ | refine Qd ?_ | refine Qe ?_ | refine Qf ?_ | refine Qg ?_ | refine Qh ?_ | refine Qi ?_ | refine Qj ?_ | refine Qk ?_ | refine Ql ?_ | refine Qm ?_ | refine Qn ?_ | refine Qo ?_ | refine Qp rfl ?_) | (first | refine Qq ?_ | refine Qr ?_) | (first | refine Qs ?_ | refine Qt ?_ | refine Qu ?_) | (first | refine Qv ?_ | refine Qw ?_) | (first | refine Qx ?_ | refine Qy ?_) | (first | refine Qz ?_ | refine Ra ?_ | refine Rb ?_))
  refine Rd 0 0 (H0.out) ?_
  rintro _ _ ⟨i0, rfl, rfl⟩
  refine Qq ?_
  refine Qh ?_
  refine Qj ?_
  repeat (first | (with_reducible first | refine Qa ?_ | refine Qb ?_ | refine Qc ?_ | refine Qd ?_ | refine Qe ?_ | refine Qf ?_ | refine Qg ?_ | refine Qh ?_ | refine Qi ?_ | refine Qj ?_ | refine Qk ?_ | refine Ql ?_ | refine Qm ?_ | refine Qn ?_ | refine Qo ?_ | refine Qp rfl ?_) | (first | refine Qq ?_ | refine Qr ?_) | (first | refine Qs ?_ | refine Qt ?_ | refine Qu ?_) | (first | refine Qv ?_ | refine Qw ?_) | (first | refine Qx ?_ | refine Qy ?_) | (first | refine Qz ?_ | refine Ra ?_ | refine Rb ?_))
  refine Rd 0 1 (HE.out i0) ?_
  rintro _ _ ⟨rfl, rfl⟩
  repeat (first | (with_reducible first | refine Qa ?_ | refine Qb ?_ | refine Qc ?_ | refine Qd ?_ | refine Qe ?_ | refine Qf ?_ | refine Qg ?_ | refine Qh ?_ | refine Qi ?_ | refine Qj ?_ | refine Qk ?_ | refine Ql ?_ | refine Qm ?_ | refine Qn ?_ | refine Qo ?_ | refine Qp rfl ?_) | (first | refine Qq ?_ | refine Qr ?_) | (first | refine Qs ?_ | refine Qt ?_ | refine Qu ?_) | (first | refine Qv ?_ | refine Qw ?_) | (first | refine Qx ?_ | refine Qy ?_) | (first | refine Qz ?_ | refine Ra ?_ | refine Rb ?_))
  refine Rd 0 1 (HD.out i0) ?_
  rintro _ _ ⟨rfl, rfl⟩
  by_cases hz : σ2.bad = 0
  · rw [if_pos hz]
    unfold prS
    repeat (first | (with_reducible first | refine Qa ?_ | refine Qb ?_ | refine Qc ?_ | refine Qd ?_ | refine Qe ?_ | refine Qf ?_ | refine Qg ?_ | refine Qh ?_ | refine Qi ?_ | refine Qj ?_ | refine Qk ?_ | refine Ql ?_ | refine Qm ?_ | refine Qn ?_ | refine Qo ?_ | refine Qp rfl ?_) | (first | refine Qq ?_ | refine Qr ?_) | (first | refine Qs ?_ | refine Qt ?_ | refine Qu ?_) | (first | refine Qv ?_ | refine Qw ?_) | (first | refine Qx ?_ | refine Qy ?_) | (first | refine Qz ?_ | refine Ra ?_ | refine Rb ?_))
    refine retP_ok (by simp) (by simp only [Try.results14]; rfl) (by simp [resP, St.box?, PF.get, loadB, TyK.agg, *]; rfl) (List.nil_sublist _) ?_
    exact ⟨rfl, rfl⟩
  · rw [if_neg hz]
    unfold prS
    repeat (first | (with_reducible first | refine Qa ?_ | refine Qb ?_ | refine Qc ?_ | refine Qd ?_ | refine Qe ?_ | refine Qf ?_ | refine Qg ?_ | refine Qh ?_ | refine Qi ?_ | refine Qj ?_ | refine Qk ?_ | refine Ql ?_ | refine Qm ?_ | refine Qn ?_ | refine Qo ?_ | refine Qp rfl ?_) | (first | refine Qq ?_ | refine Qr ?_) | (first | refine Qs ?_ | refine Qt ?_ | refine Qu ?_) | (first | refine Qv ?_ | refine Qw ?_) | (first | refine Qx ?_ | refine Qy ?_) | (first | refine Qz ?_ | refine Ra ?_ | refine Rb ?_))
    refine PW_drawn [(0, .a), (1, .a), (2, .a), (3, .b), (4, .a), (5, .a), (6, .a), (7, .b), (8, .a), (9, .a), (10, .a)] (by kernel_rfl) (by rfl) (by kernel_rfl) ?_
    repeat (first | (with_reducible first | refine Qa ?_ | refine Qb ?_ | refine Qc ?_ | refine Qd ?_ | refine Qe ?_ | refine Qf ?_ | refine Qg ?_ | refine Qh ?_ | refine Qi ?_ | refine Qj ?_ | refine Qk ?_ | refine Ql ?_ | refine Qm ?_ | refine Qn ?_ | refine Qo ?_ | refine Qp rfl ?_) | (first | refine Qq ?_ | refine Qr ?_) | (first | refine Qs ?_ | refine Qt ?_ | refine Qu ?_) | (first | refine Qv ?_ | refine Qw ?_) | (first | refine Qx ?_ | refine Qy ?_) | (first | refine Qz ?_ | refine Ra ?_ | refine Rb ?_))
    refine retP_ok (by simp) (by simp only [Try.results14]; rfl) (by simp [resP, St.box?, PF.get, loadB, TyK.agg, *]; rfl) (List.nil_sublist _) ?_
    exact ⟨rfl, rfl⟩
set_option maxHeartbeats 4000000 in
theorem file_p (s : ByteArray) : PCalls Try.prog 15 [.d (.v (.string s))] [] fun p st => p = .tup [.d (slD (fileA s).1), .d (.v (.int .i64 (fileA s).2.1)), .d (.v (.int .i64 (fileA s).2.2))] ∧ st = [] := by
  have hl := startOk s
  have hw0 := startW s
  have H0 := Lib.hid (start_p s)
  have HA := Lib.hid (show fileA s = if (fileS (startL s) ((startL s).length + 1) [] (startS s)).2.bad = 0 then ((fileS (startL s) ((startL s).length + 1) [] (startS s)).1, (s.size : Int), 0) else ([], (fileS (startL s) ((startL s).length + 1) [] (startS s)).2.at_, (fileS (startL s) ((startL s).length + 1) [] (startS s)).2.bad) from rfl)
  generalize startS s = σ at *
  generalize startL s = l at *
  have HG : ∃ r, r = fileS l (l.length + 1) [] σ := ⟨_, rfl⟩
  obtain ⟨r, hr⟩ := HG
  have HR := Lib.hid hr.symm
  rw [← hr] at HA
  clear hr
  rw [HA.out]
  clear HA
  have HW := Lib.hid hw0
  clear hw0
  unfold slD
  refine PCalls.enter Try.func15 rfl Try.ntmps15 (by simp) ?_
  simp only [argsF]
  repeat (first | (with_reducible first | refine Qa ?_ | refine Qb ?_ | refine Qc ?_ | refine Qd ?_ | refine Qe ?_ | refine Qf ?_ | refine Qg ?_ | refine Qh ?_ | refine Qi ?_ | refine Qj ?_ | refine Qk ?_ | refine Ql ?_ | refine Qm ?_ | refine Qn ?_ | refine Qo ?_ | refine Qp rfl ?_) | (first | refine Qq ?_ | refine Qr ?_) | (first | refine Qs ?_ | refine Qt ?_ | refine Qu ?_) | (first | refine Qv ?_ | refine Qw ?_) | (first | refine Qx ?_ | refine Qy ?_) | (first | refine Qz ?_ | refine Ra ?_ | refine Rb ?_))
  refine Rd 0 0 (H0.out) ?_
  rintro _ _ ⟨i0, rfl, rfl⟩
  refine Qq ?_
  refine Qh ?_
  refine Qj ?_
  repeat (first | (with_reducible first | refine Qa ?_ | refine Qb ?_ | refine Qc ?_ | refine Qd ?_ | refine Qe ?_ | refine Qf ?_ | refine Qg ?_ | refine Qh ?_ | refine Qi ?_ | refine Qj ?_ | refine Qk ?_ | refine Ql ?_ | refine Qm ?_ | refine Qn ?_ | refine Qo ?_ | refine Qp rfl ?_) | (first | refine Qq ?_ | refine Qr ?_) | (first | refine Qs ?_ | refine Qt ?_ | refine Qu ?_) | (first | refine Qv ?_ | refine Qw ?_) | (first | refine Qx ?_ | refine Qy ?_) | (first | refine Qz ?_ | refine Ra ?_ | refine Rb ?_))
  refine PW_own 6 43 11 (by decide) (by simp [PF.get] <;> rfl) fun g hg => ?_
  refine PW_loop (ι := Nat × List Dc × ST) (fun y => Wf l y.2.2 ∧ 0 < y.1 ∧ (y.2.2.bad = 0 → l.length - y.2.2.i + 1 ≤ y.1) ∧ fileS l y.1 y.2.1 y.2.2 = r ∧ y.2.1.length + y.1 ≤ l.length + 1) (fun y => [(0, .d (.v (.string s))), (5, .ptr i0 0), (6, .own g (y.2.1.map encD))])
    (fun y => .tok g 43 11 y.2.1.length :: prS i0 l y.2.2) (fun y => y.1) (l.length + 1, [], σ) ⟨HW.out, Nat.succ_pos _, fun _ => by simp only; omega, HR.out, by simp⟩ ?_ ?_ ?_
  · repeat (first | exact sub_nil _ | refine sub_cons (by simp [PF.get]; rfl) (by first | rfl | (simp [*]; done) | fail) ?_)
  · repeat (first | exact List.Sublist.refl _ | exact List.nil_sublist _ | refine List.Sublist.cons_cons _ ?_ | refine List.Sublist.cons _ ?_)
  · rintro ⟨m, acc, τ⟩ ⟨hw, hm0, hm, hr, hacc⟩
    simp only at hw hm0 hm hr hacc ⊢
    obtain ⟨m, rfl⟩ : ∃ k, m = k + 1 := ⟨m - 1, by omega⟩
    have b3 : τ.i ≤ 150000 := Nat.le_trans (hw.le hl) (by decide)
    have b4 := hl.len
    have B1 := Lib.hid (tok0_p i0 l τ hl.len hl.pos b3)
    simp only [fileS] at hr
    by_cases hz : τ.bad = 0
    · by_cases hk : (tkg l τ.i).kind = 5
      · rw [if_neg (fun h => h.2 hk)] at hr
        have HR2 := Lib.hid hr
        clear hr hm
        have hk5 := hk
        rw [← HR2.out]
        simp only
        rw [if_pos hz]
        generalize tkg l τ.i = t at *
        unfold prS
        repeat (first | (with_reducible first | refine Qa ?_ | refine Qb ?_ | refine Qc ?_ | refine Qd ?_ | refine Qe ?_ | refine Qf ?_ | refine Qg ?_ | refine Qh ?_ | refine Qi ?_ | refine Qj ?_ | refine Qk ?_ | refine Ql ?_ | refine Qm ?_ | refine Qn ?_ | refine Qo ?_ | refine Qp rfl ?_) | (first | refine Qq ?_ | refine Qr ?_) | (first | refine Qs ?_ | refine Qt ?_ | refine Qu ?_) | (first | refine Qv ?_ | refine Qw ?_) | (first | refine Qx ?_ | refine Qy ?_) | (first | refine Qz ?_ | refine Ra ?_ | refine Rb ?_))
        refine Rd 1 1 (B1.out) ?_
        rintro _ _ ⟨rfl, rfl⟩
        unfold prS
        repeat (first | (with_reducible first | refine Qa ?_ | refine Qb ?_ | refine Qc ?_ | refine Qd ?_ | refine Qe ?_ | refine Qf ?_ | refine Qg ?_ | refine Qh ?_ | refine Qi ?_ | refine Qj ?_ | refine Qk ?_ | refine Ql ?_ | refine Qm ?_ | refine Qn ?_ | refine Qo ?_ | refine Qp rfl ?_) | (first | refine Qq ?_ | refine Qr ?_) | (first | refine Qs ?_ | refine Qt ?_ | refine Qu ?_) | (first | refine Qv ?_ | refine Qw ?_) | (first | refine Qx ?_ | refine Qy ?_) | (first | refine Qz ?_ | refine Ra ?_ | refine Rb ?_))
        refine retP_ok (by simp) (by simp only [Try.results15]; rfl) (by simp [resP, St.box?, PF.get, loadB, TyK.agg, *]; rfl) (List.nil_sublist _) ?_
        exact ⟨rfl, rfl⟩
      · rw [if_pos ⟨hz, hk⟩] at hr
        have hA := decl_adv hl hw
        have c2 := decl_p' hl i0 τ hw
        have HA := Lib.hid hA
        have HM := Lib.hid hm
        have HR2 := Lib.hid hr
        clear hr hm hA
        generalize (declS l τ).1 = X at *
        generalize (declS l τ).2 = τ2 at *
        simp only [aggD, encD_dc, List.map_cons, List.map_nil] at c2
        have C2 := Lib.hid c2
        clear c2
        unfold prS
        repeat (first | (with_reducible first | refine Qa ?_ | refine Qb ?_ | refine Qc ?_ | refine Qd ?_ | refine Qe ?_ | refine Qf ?_ | refine Qg ?_ | refine Qh ?_ | refine Qi ?_ | refine Qj ?_ | refine Qk ?_ | refine Ql ?_ | refine Qm ?_ | refine Qn ?_ | refine Qo ?_ | refine Qp rfl ?_) | (first | refine Qq ?_ | refine Qr ?_) | (first | refine Qs ?_ | refine Qt ?_ | refine Qu ?_) | (first | refine Qv ?_ | refine Qw ?_) | (first | refine Qx ?_ | refine Qy ?_) | (first | refine Qz ?_ | refine Ra ?_ | refine Rb ?_))
        refine Rd 1 1 (B1.out) ?_
        rintro _ _ ⟨rfl, rfl⟩
        repeat (first | (with_reducible first | refine Qa ?_ | refine Qb ?_ | refine Qc ?_ | refine Qd ?_ | refine Qe ?_ | refine Qf ?_ | refine Qg ?_ | refine Qh ?_ | refine Qi ?_ | refine Qj ?_ | refine Qk ?_ | refine Ql ?_ | refine Qm ?_ | refine Qn ?_ | refine Qo ?_ | refine Qp rfl ?_) | (first | refine Qq ?_ | refine Qr ?_) | (first | refine Qs ?_ | refine Qt ?_ | refine Qu ?_) | (first | refine Qv ?_ | refine Qw ?_) | (first | refine Qx ?_ | refine Qy ?_) | (first | refine Qz ?_ | refine Ra ?_ | refine Rb ?_))
        refine Rd 1 1 (C2.out) ?_
        rintro _ _ ⟨rfl, rfl⟩
        repeat (first | (with_reducible first | refine Qa ?_ | refine Qb ?_ | refine Qc ?_ | refine Qd ?_ | refine Qe ?_ | refine Qf ?_ | refine Qg ?_ | refine Qh ?_ | refine Qi ?_ | refine Qj ?_ | refine Qk ?_ | refine Ql ?_ | refine Qm ?_ | refine Qn ?_ | refine Qo ?_ | refine Qp rfl ?_) | (first | refine Qq ?_ | refine Qr ?_) | (first | refine Qs ?_ | refine Qt ?_ | refine Qu ?_) | (first | refine Qv ?_ | refine Qw ?_) | (first | refine Qx ?_ | refine Qy ?_) | (first | refine Qz ?_ | refine Ra ?_ | refine Rb ?_))
        refine POps_bs_a ?_
        refine POps_app_a (acc.length + 1) ?_ ?_ ?_ ?_
        · simp
        · exact rows_map fun _ => encD_len _
        · exact rows_one rfl
        repeat (first | (with_reducible first | refine Qa ?_ | refine Qb ?_ | refine Qc ?_ | refine Qd ?_ | refine Qe ?_ | refine Qf ?_ | refine Qg ?_ | refine Qh ?_ | refine Qi ?_ | refine Qj ?_ | refine Qk ?_ | refine Ql ?_ | refine Qm ?_ | refine Qn ?_ | refine Qo ?_ | refine Qp rfl ?_) | (first | refine Qq ?_ | refine Qr ?_) | (first | refine Qs ?_ | refine Qt ?_ | refine Qu ?_) | (first | refine Qv ?_ | refine Qw ?_) | (first | refine Qx ?_ | refine Qy ?_) | (first | refine Qz ?_ | refine Ra ?_ | refine Rb ?_))
        refine ⟨(m, acc ++ [X], τ2), ⟨HA.out.1, ?_, fun hb => ?_, HR2.out, by simp only [List.length_append, List.length_cons, List.length_nil]; omega⟩, by simp only; omega, ?_, ?_⟩
        · have h1 := HM.out hz
          have h2 := hw
          unfold Wf at h2
          simp only
          omega
        · have h1 := HM.out hz
          have h2 := (HA.out.2 hb).2
          have h3 := HA.out.1
          unfold Wf at h3
          simp only
          omega
        · refine sub_cons (by simp [PF.get] <;> rfl) rfl ?_
          refine sub_cons (by simp [PF.get] <;> rfl) rfl ?_
          refine sub_cons (by simp [PF.get] <;> rfl) (by simp only [List.map_append, List.map_cons, List.map_nil, encD_dc X]) ?_
          repeat (first | exact sub_nil _ | refine sub_cons (by simp [PF.get]; rfl) (by first | rfl | (simp [*]; done) | fail) ?_)
        · simp only [List.length_append, List.length_cons, List.length_nil, Nat.zero_add]
          repeat (first | exact List.Sublist.refl _ | exact List.nil_sublist _ | refine List.Sublist.cons_cons _ ?_ | refine List.Sublist.cons _ ?_)
    · rw [if_neg (fun h => hz h.1)] at hr
      have HR2 := Lib.hid hr
      clear hr hm
      rw [← HR2.out]
      simp only
      rw [if_neg hz]
      unfold prS
      repeat (first | (with_reducible first | refine Qa ?_ | refine Qb ?_ | refine Qc ?_ | refine Qd ?_ | refine Qe ?_ | refine Qf ?_ | refine Qg ?_ | refine Qh ?_ | refine Qi ?_ | refine Qj ?_ | refine Qk ?_ | refine Ql ?_ | refine Qm ?_ | refine Qn ?_ | refine Qo ?_ | refine Qp rfl ?_) | (first | refine Qq ?_ | refine Qr ?_) | (first | refine Qs ?_ | refine Qt ?_ | refine Qu ?_) | (first | refine Qv ?_ | refine Qw ?_) | (first | refine Qx ?_ | refine Qy ?_) | (first | refine Qz ?_ | refine Ra ?_ | refine Rb ?_))
      refine PW_drawn [(0, .a), (1, .a), (2, .a), (3, .b), (4, .a), (5, .a), (6, .a), (7, .b), (8, .a), (9, .a), (10, .a)] (by kernel_rfl) (by rfl) (by kernel_rfl) ?_
      repeat (first | (with_reducible first | refine Qa ?_ | refine Qb ?_ | refine Qc ?_ | refine Qd ?_ | refine Qe ?_ | refine Qf ?_ | refine Qg ?_ | refine Qh ?_ | refine Qi ?_ | refine Qj ?_ | refine Qk ?_ | refine Ql ?_ | refine Qm ?_ | refine Qn ?_ | refine Qo ?_ | refine Qp rfl ?_) | (first | refine Qq ?_ | refine Qr ?_) | (first | refine Qs ?_ | refine Qt ?_ | refine Qu ?_) | (first | refine Qv ?_ | refine Qw ?_) | (first | refine Qx ?_ | refine Qy ?_) | (first | refine Qz ?_ | refine Ra ?_ | refine Rb ?_))
      refine retP_ok (by simp) (by simp only [Try.results15]; rfl) (by simp [resP, St.box?, PF.get, loadB, TyK.agg, *]; rfl) (List.nil_sublist _) ?_
      exact ⟨rfl, rfl⟩
end Go.Proofs.Ytahhgpafjiljfaa

namespace Go.Proofs.Ytahhgpafjiljfaa
open Go.RowKit
set_option maxRecDepth 100000
def aw5T : ByteArray := ⟨(List.append [100, 97, 116, 97, 32, 78, 32, 58, 32, 83, 101, 116, 32, 123, 32, 122, 32, 58, 32, 78, 59, 32, 115, 32, 58, 32, 78, 32, 45, 62, 32, 78, 59, 32, 125, 32] [100, 101, 102, 32, 112, 32, 58, 32, 78, 32, 45, 62, 32, 78, 32, 123, 32, 122, 32, 61, 32, 122, 59, 32, 40, 115, 32, 110, 41, 32, 61, 32, 110, 59, 32, 125]).toArray⟩
def aw5B (x : List Dc × Int × Int) : Bool :=
  x.2.2 == 0 && (match x.1 with
  | [d0, d1] => d0.cons.length == 2 && (match d1.rows with
    | [_, r1] => (match r1.pats with
      | [p0] => p0.kind == 8
      | _ => false)
    | _ => false)
  | _ => false)
theorem aw5B_ok : aw5B (fileA aw5T) = true := by decide +kernel
theorem aw5_get {x : List Dc × Int × Int} (h : aw5B x = true) : x.2.2 = 0 ∧ ∃ d0 d1 r0 r1 p0, x.1 = [d0, d1] ∧ d0.cons.length = 2 ∧ d1.rows = [r0, r1] ∧ r1.pats = [p0] ∧ p0.kind = 8 := by
  unfold aw5B at h
  rw [Bool.and_eq_true] at h
  obtain ⟨h1, h2⟩ := h
  split at h2
  · rename_i d0 d1 e1
    rw [Bool.and_eq_true] at h2
    obtain ⟨h2, h3⟩ := h2
    split at h3
    · rename_i r0 r1 e2
      split at h3
      · rename_i p0 e3
        exact ⟨by simpa using h1, d0, d1, r0, r1, p0, e1, by simpa using h2, e2, e3, by simpa using h3⟩
      · cases h3
    · cases h3
  · cases h2
set_option maxHeartbeats 4000000 in
theorem awake5_p : PCalls Try.prog 16 [] [] fun p st => p = .d (.v (.bool true)) ∧ st = [] := by
  have h0 := file_p aw5T
  obtain ⟨h1, d0, d1, r0, r1, p0, e1, e2, e3, e4, e5⟩ := aw5_get aw5B_ok
  rw [e1, h1] at h0
  generalize (fileA aw5T).2.1 = z at h0
  obtain ⟨k0, a0, n0, t0, ty0, cs0, rw0⟩ := d0
  obtain ⟨k1, a1, n1, t1, ty1, cs1, rw1⟩ := d1
  obtain ⟨ra, ps, hs, bd⟩ := r1
  simp only at e2 e3 e4
  subst e3 e4
  obtain ⟨pk, pa, pn, pm, psb⟩ := p0
  simp only [Nd.kind] at e5
  subst e5
  match cs0, e2 with
  | [c0, c1], _ =>
  simp only [aggD, slD, encD_dc, encD_rw, encD_nd, Nd.kind, Nd.at, Nd.name, Nd.num, Nd.sub, List.map_cons, List.map_nil] at h0
  have H0 := Lib.hid h0
  clear h0 e1 h1 e2
  unfold aw5T at H0
  refine PCalls.enter Try.func16 rfl Try.ntmps16 (by simp) ?_
  simp only [argsF]
  repeat (first | (with_reducible first | refine Qa ?_ | refine Qb ?_ | refine Qc ?_ | refine Qd ?_ | refine Qe ?_ | refine Qf ?_ | refine Qg ?_ | refine Qh ?_ | refine Qi ?_ | refine Qj ?_ | refine Qk ?_ | refine Ql ?_ | refine Qm ?_ | refine Qn ?_ | refine Qo ?_ | refine Qp rfl ?_) | (first | refine Qq ?_ | refine Qr ?_) | (first | refine Qs ?_ | refine Qt ?_ | refine Qu ?_) | (first | refine Qv ?_ | refine Qw ?_) | (first | refine Qx ?_ | refine Qy ?_) | (first | refine Qz ?_ | refine Ra ?_ | refine Rb ?_))
  refine POps_call_a (H0.out) ?_
  repeat (first | (with_reducible first | refine Qa ?_ | refine Qb ?_ | refine Qc ?_ | refine Qd ?_ | refine Qe ?_ | refine Qf ?_ | refine Qg ?_ | refine Qh ?_ | refine Qi ?_ | refine Qj ?_ | refine Qk ?_ | refine Ql ?_ | refine Qm ?_ | refine Qn ?_ | refine Qo ?_ | refine Qp rfl ?_) | (first | refine Qq ?_ | refine Qr ?_) | (first | refine Qs ?_ | refine Qt ?_ | refine Qu ?_) | (first | refine Qv ?_ | refine Qw ?_) | (first | refine Qx ?_ | refine Qy ?_) | (first | refine Qz ?_ | refine Ra ?_ | refine Rb ?_))
  refine retP_ok (by simp) (by simp only [Try.results16]; rfl) (by simp [resP, St.box?, PF.get, loadB, TyK.agg, *]; rfl) (List.nil_sublist _) ?_
  exact ⟨rfl, rfl⟩
end Go.Proofs.Ytahhgpafjiljfaa
