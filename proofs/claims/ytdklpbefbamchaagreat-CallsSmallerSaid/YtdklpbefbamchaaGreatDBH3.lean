import Derived.Test.YtdklpbefbamchaaGreatDBH
import Derived.Test.YtdklpbefbamchaaGreatDBH2
import Derived.Test.YtdklpbefbamchaaGreatDBG1
set_option linter.unusedSimpArgs false
set_option linter.unusedVariables false
set_option maxHeartbeats 16000000
set_option maxRecDepth 100000
namespace Go.Proofs.YtdklpbefbamchaaGreat
open Go.RowKit
theorem Qea : ∀ (m : Nat) (t : Tm), cndT t ≤ m → Qac t = true → Qac (Qan t) = true ∧ cndT (Qan t) ≤ cndT t ∧ ∀ a ∈ Qav t, Qac a = true ∧ cndT a < cndT t := by
  intro m
  induction m with
  | zero => intro t h; have := Qcc t; omega
  | succ m ih =>
    intro t h hg
    by_cases h5 : t.kind = 5
    · obtain ⟨f, a, rfl, hf, ha⟩ := Qey hg h5
      rw [Qdu] at h ⊢
      obtain ⟨e1, e2⟩ := Qfe 0 f a
      have hp := Qcc a
      obtain ⟨q1, q2, q3⟩ := ih f (by omega) hf
      rw [e1, e2]
      refine ⟨q1, by omega, fun x hx => ?_⟩
      rcases List.mem_append.1 hx with hx | hx
      · obtain ⟨r1, r2⟩ := q3 x hx
        exact ⟨r1, by omega⟩
      · rw [List.mem_singleton] at hx; subst hx
        exact ⟨ha, by have := Qcc f; omega⟩
    · obtain ⟨e1, e2⟩ := Qdh h5
      rw [e1, e2]
      exact ⟨hg, Nat.le_refl _, fun x hx => by cases hx⟩
theorem good_leaf {t : Tm} (hg : Qac t = true) (hk : t.kind = 6 ∨ t.kind = 8) : t = .mk t.kind t.num [] := by
 obtain ⟨k, n, sub⟩ := t
 have h := (Qcp hg).1
 have := Qgp h
 simp only [Tm.kind_mk, Tm.num_mk] at hk ⊢
 have h5 := this.2.2.2.2
 have : Qbl k = 0 := by unfold Qbl; rcases hk with rfl | rfl <;> rfl
 rw [this] at h5
 have : sub = [] := List.eq_nil_of_length_eq_zero (by omega)
 rw [this]
def erN (l : List En) : Nat → Tm → Tm
 | 0, t => t
 | m + 1, t => if ((Qan t).kind == 6 && (isE l (Qan t).num 2 && decide (parN l (Qan t).num ≤ (Qav t).length))) = true then Qau (Qan t) (((Qav t).drop (parN l (Qan t).num)).map (erN l m)) else t
theorem erN_le {l : List En} : ∀ (m m' : Nat) (t : Tm), cndT t ≤ m → cndT t ≤ m' → Qac t = true → erN l m t = erN l m' t := by
  intro m
  induction m with
  | zero => intro m' t h; have := Qcc t; omega
  | succ m ih =>
    intro m' t h h' hg
    cases m' with
    | zero => have := Qcc t; omega
    | succ m' =>
      simp only [erN]
      obtain ⟨-, -, q⟩ := Qea _ t (Nat.le_refl _) hg
      split
      · congr 1
        refine List.map_congr_left fun a ha => ?_
        obtain ⟨r1, r2⟩ := q a (List.mem_of_mem_drop ha)
        exact ih m' a (by omega) (by omega) r1
      · rfl
def erT (l : List En) (t : Tm) : Tm := erN l (cndT t) t
theorem er_con {l : List En} {t : Tm} (hg : Qac t = true) (h1 : (Qan t).kind = 6) (h2 : isE l (Qan t).num 2 = true) (h3 : parN l (Qan t).num ≤ (Qav t).length) :
  erT l t = Qau (Qan t) (((Qav t).drop (parN l (Qan t).num)).map (erT l)) := by
 unfold erT
 obtain ⟨m, hm⟩ : ∃ m, cndT t = m + 1 := ⟨cndT t - 1, by have := Qcc t; omega⟩
 rw [hm]
 simp only [erN]
 rw [if_pos (by rw [h1, h2, decide_eq_true h3]; rfl)]
 congr 1
 obtain ⟨-, -, q⟩ := Qea _ t (Nat.le_refl _) hg
 refine List.map_congr_left fun a ha => ?_
 obtain ⟨r1, r2⟩ := q a (List.mem_of_mem_drop ha)
 exact erN_le _ _ a (by omega) (Nat.le_refl _) r1
theorem er_no {l : List En} {t : Tm} (h : ¬ ((Qan t).kind = 6 ∧ isE l (Qan t).num 2 = true ∧ parN l (Qan t).num ≤ (Qav t).length)) : erT l t = t := by
 unfold erT
 obtain ⟨m, hm⟩ : ∃ m, cndT t = m + 1 := ⟨cndT t - 1, by have := Qcc t; omega⟩
 rw [hm]
 simp only [erN]
 rw [if_neg]
 intro hc
 simp only [Bool.and_eq_true, beq_iff_eq, decide_eq_true_eq] at hc
 exact h hc
theorem er_peq {l : List En} {pars : List Tm} (hp : ∀ c : Int, parN l c ≤ pars.length) (hpg : ∀ u ∈ pars, Qac u = true) : ∀ (p : Pt) (t x : Tm), pgT l p = true → Qac t = true → Qac x = true → peqT l p t = true → bldT l pars p = some x → erT l t = erT l x := by
 refine Pt.ind ?_
 intro k n a sub d ih t x gp gt gx he hb
 by_cases h1 : k = 1
 ·subst h1
  rw [bld_var, Option.some.injEq] at hb
  rw [Qig] at he
  simp only [Bool.and_eq_true, beq_iff_eq] at he
  have := good_leaf gt (.inr he.1)
  rw [he.1, he.2] at this
  rw [this, ← hb]
 ·by_cases h2 : k = 2
  ·subst h2
   rw [Qie, Option.map_eq_some_iff] at hb
   obtain ⟨ts, hts, hx⟩ := hb
   rw [Qic] at hx
   rw [Qhe] at he
   simp only [Bool.and_eq_true, beq_iff_eq] at he
   obtain ⟨e1, e2, e3, e4⟩ := he
   simp only [pgT] at gp
   rw [if_neg (by decide), if_neg (by decide), if_neg (by decide), if_pos (by trivial)] at gp
   simp only [Bool.and_eq_true, beq_iff_eq] at gp
   obtain ⟨g1, g2, g3⟩ := gp
   have hi := arN_is (l := l) (c := n) (by omega)
   obtain ⟨f1, f2⟩ := Qgr (h := .mk 6 n []) (show (6 : Int) ≠ 5 by decide) (pars.take (parN l n) ++ ts)
   rw [hx] at f1 f2
   obtain ⟨s1, s2, s3⟩ := Qea _ t (Nat.le_refl _) gt
   obtain ⟨-, -, x3⟩ := Qea _ x (Nat.le_refl _) gx
   have hh := good_leaf s1 (.inl e1)
   rw [e1, e2] at hh
   have hpl : (pars.take (parN l n)).length = parN l n := by rw [List.length_take]; have := hp n; omega
   rw [er_con gt e1 (by rw [e2]; exact hi) (by rw [e2]; omega), er_con gx (by rw [f1]; rfl) (by rw [f1]; exact hi) (by rw [f1, f2, List.length_append, Tm.num_mk]; omega), f1, f2, Tm.num_mk, List.drop_left' hpl, hh, Tm.num_mk]
   congr 1
   have hla : ((Qav t).drop (parN l n)).length = sub.length := by rw [List.length_drop]; omega
   refine List.ext_getElem? fun i => ?_
   rw [List.getElem?_map, List.getElem?_map]
   by_cases hi : i < sub.length
   ·have hpi : sub[i]? = some sub[i] := List.getElem?_eq_getElem hi
    obtain ⟨u, hu, hq⟩ := peqL_get e4 i _ hpi
    obtain ⟨v, hv, hw⟩ := Qir hts i _ hpi
    rw [hu, hv, Option.map_some, Option.map_some]
    have hm := List.getElem_mem hi
    rw [ih _ hm u v (Qih g3 _ hm) (s3 u (List.mem_of_mem_drop (List.mem_of_getElem? hu))).1 (x3 v (by rw [f2]; exact List.mem_append_right _ (List.mem_of_getElem? hv))).1 hq hw]
   ·rw [List.getElem?_eq_none (by omega), List.getElem?_eq_none (by rw [bldL_len hts]; omega)]
  ·rw [bld_no h1 h2] at hb; cases hb
mutual
def svT (vs : List Tm) : Tm → Nat
 | .mk k n sub => if k = 8 ∧ 0 ≤ n then (match vs[n.toNat]? with | some v => cndT v | none => svL vs sub + 1) else svL vs sub + 1
def svL (vs : List Tm) : List Tm → Nat
 | [] => 0
 | t :: ts => svT vs t + svL vs ts
end
theorem sv_not {vs : List Tm} {k n : Int} {sub : List Tm} (h : k ≠ 8) : svT vs (.mk k n sub) = svL vs sub + 1 := by simp only [svT]; rw [if_neg (fun h' => h h'.1)]
theorem sv_nil : ∀ t : Tm, svT [] t = cndT t := by
 refine Tm.ind ?_
 intro k n sub ih
 have : ∀ r : List Tm, (∀ s ∈ r, svT [] s = cndT s) → svL [] r = cndL r := by
  intro r
  induction r with
  | nil => intro _; simp only [svL, cndL]
  | cons s r ihr => intro h; simp only [svL, cndL]; rw [h s (by simp), ihr fun x hx => h x (by simp [hx])]
 simp only [svT, cndT]
 rw [this sub ih]
 simp
theorem sv_snoc {vs : List Tm} (f a : Tm) : svT vs (.mk 5 0 [f, a]) = svT vs f + svT vs a + 1 := by
 rw [sv_not (by decide)]; simp only [svL]; omega
theorem sv_apply {vs : List Tm} (h : Tm) (l : List Tm) : svT vs (Qau h l) = svT vs h + svL vs l + l.length := by
 induction l generalizing h with
 | nil => simp only [Qau, svL, List.length_nil]; omega
 | cons a l ih => simp only [Qau]; rw [ih, sv_snoc]; simp only [svL, List.length_cons]; omega
theorem svL_mem {vs : List Tm} {l : List Tm} {a : Tm} (h : a ∈ l) : svT vs a ≤ svL vs l := by
  induction l with
  | nil => cases h
  | cons b l ih =>
    simp only [svL]
    rcases List.mem_cons.1 h with rfl | h
    · omega
    · have := ih h; omega
theorem sv_sub {l : List En} {pars vs : List Tm} (hp : ∀ c : Int, parN l c ≤ pars.length) {n a : Int} {sub : List Pt} {d x : Tm} (gp : pgT l (.mk 2 n a sub d) = true) (gx : Qac x = true) (hb : bldT l pars (.mk 2 n a sub d) = some x) {s : Pt} (hs : s ∈ sub) : ∃ y, bldT l pars s = some y ∧ Qac y = true ∧ svT vs (erT l y) < svT vs (erT l x) := by
 rw [Qie, Option.map_eq_some_iff] at hb
 obtain ⟨ts, hts, hx⟩ := hb
 rw [Qic] at hx
 obtain ⟨i, hi, rfl⟩ := List.getElem_of_mem hs
 obtain ⟨y, hy, hby⟩ := Qir hts i _ (List.getElem?_eq_getElem hi)
 obtain ⟨f1, f2⟩ := Qgr (h := .mk 6 n []) (show (6 : Int) ≠ 5 by decide) (pars.take (parN l n) ++ ts)
 rw [hx] at f1 f2
 have hpl : (pars.take (parN l n)).length = parN l n := by rw [List.length_take]; have := hp n; omega
 simp only [pgT] at gp
 rw [if_neg (by decide), if_neg (by decide), if_neg (by decide), if_pos (by trivial)] at gp
 simp only [Bool.and_eq_true, beq_iff_eq] at gp
 have his := arN_is (l := l) (c := n) (by omega)
 obtain ⟨-, -, x3⟩ := Qea _ x (Nat.le_refl _) gx
 have hym : y ∈ ts := List.mem_of_getElem? hy
 refine ⟨y, hby, (x3 y (by rw [f2]; exact List.mem_append_right _ hym)).1, ?_⟩
 rw [er_con gx (by rw [f1]; rfl) (by rw [f1]; exact his) (by rw [f1, f2, List.length_append, Tm.num_mk]; omega), f1, f2, Tm.num_mk, List.drop_left' hpl, sv_apply]
 have := svL_mem (vs := vs) (List.mem_map_of_mem (f := erT l) hym)
 rw [sv_not (by decide)]
 omega
theorem papL_no {l : List En} {t : Tm} : ∀ {sub : List Pt}, (∀ p, papB p t = false) → plsL l sub t = true → ∃ s ∈ sub, peqT l s t = true ∨ plsT l s t = true := by
  intro sub
  induction sub with
  | nil => intro _ h; simp only [plsL] at h; cases h
  | cons p ps ih =>
    intro hn h
    simp only [plsL] at h
    rw [hn p, Bool.false_or] at h
    simp only [Bool.or_eq_true] at h
    rcases h with h | h
    · exact ⟨p, by simp, h⟩
    · obtain ⟨s, hs, h⟩ := ih hn h
      exact ⟨s, by simp [hs], h⟩
theorem smaller_law {l : List En} {pars vs : List Tm} (hp : ∀ c : Int, parN l c ≤ pars.length) (hpg : ∀ u ∈ pars, Qac u = true) {t : Tm} (gt : Qac t = true) (hn : ∀ p, papB p t = false) : ∀ (p : Pt) (x : Tm), pgT l p = true → Qac x = true → plsT l p t = true → bldT l pars p = some x → svT vs (erT l t) < svT vs (erT l x) := by
 refine Pt.ind ?_
 intro k n a sub d ih x gp gx hl hb
 by_cases h2 : k = 2
 ·subst h2
  rw [Qii] at hl
  obtain ⟨s, hs, h⟩ := papL_no hn hl
  obtain ⟨y, hy, gy, hlt⟩ := sv_sub (vs := vs) hp gp gx hb hs
  have gs : pgT l s = true := by
   simp only [pgT] at gp
   rw [if_neg (by decide), if_neg (by decide), if_neg (by decide), if_pos (by trivial)] at gp
   simp only [Bool.and_eq_true] at gp
   exact Qih gp.2.2 s hs
  rcases h with h | h
  ·rw [er_peq hp hpg s t y gs gt gy h hy]; exact hlt
  ·exact Nat.lt_trans (ih s hs y gs gy h hy) hlt
 ·rw [pls_no h2] at hl; cases hl
theorem parts_law {l : List En} {pars : List Tm} (hp : ∀ c : Int, parN l c ≤ pars.length) {p : Pt} {t z s0 : Tm} (gp : pgT l p = true) (gs : pgT l (.mk 2 2 0 [p] z) = true) (hb : bldT l pars p = some t) :
    Qat l p t = 1 ∧ Qat l (.mk 2 2 0 [p] z) t = 2 ∧ Qat l (.mk 2 8 0 [.mk 3 0 0 [] s0, .mk 2 2 0 [p] z] z) t = 2 := by
  have h1 := peq_bld p t hp hb
  have h2 : peqT l (.mk 2 2 0 [p] z) t = false := by
    cases h : peqT l (.mk 2 2 0 [p] z) t with
    | false => rfl
    | true =>
      have := peq_uniq _ _ t h1 h gp gs
      simp only [pndT, pndL] at this
      omega
  have h3 : plsT l (.mk 2 2 0 [p] z) t = true := by
    rw [Qii]; simp only [plsL]; rw [h1]; rfl
  have h4 : peqT l (.mk 2 8 0 [.mk 3 0 0 [] s0, .mk 2 2 0 [p] z] z) t = false := by
    rw [Qhe]
    cases (Qav t).drop (parN l 8) with
    | nil => simp only [peqL, Bool.and_false]
    | cons u us => simp only [peqL]; rw [peq_no (by decide) (by decide)]; simp only [Bool.false_and, Bool.and_false]
  have h5 : plsT l (.mk 2 8 0 [.mk 3 0 0 [] s0, .mk 2 2 0 [p] z] z) t = true := by
    rw [Qii]; simp only [plsL]; rw [h2, h3]; simp
  refine ⟨?_, ?_, ?_⟩
  · unfold Qat; rw [h1]; rfl
  · unfold Qat; rw [h2, h3]; rfl
  · unfold Qat; rw [h4, h5]; rfl
def plN (l : List En) : Nat → Tm → Bool
 | 0, _ => false
 | m + 1, t => if t.kind = 8 then true else if ((Qan t).kind == 6 && isE l (Qan t).num 2) = true then ((Qav t).drop (parN l (Qan t).num)).all (plN l m) else false
theorem pl_pap {l : List En} {m : Nat} {t : Tm} (h : plN l m t = true) : ∀ p, papB p t = false := by
  intro p
  cases m with
  | zero => simp only [plN] at h; cases h
  | succ m =>
    simp only [plN] at h
    unfold papB
    by_cases h8 : t.kind = 8
    · have h5 : t.kind ≠ 5 := by omega
      rw [(Qdh h5).2]; simp
    · rw [if_neg h8] at h
      split at h
      · rename_i h6
        simp only [Bool.and_eq_true, beq_iff_eq] at h6
        rw [h6.1]; rfl
      · cases h
theorem Qhu : ∀ (l : List Tm) (h : Tm), cndT (Qau h l) = cndT h + cndL l + l.length
  | [], h => by simp only [Qau, cndL, List.length_nil]; omega
  | a :: l, h => by
    simp only [Qau]
    rw [Qhu l, Qdu]
    simp only [cndL, List.length_cons]; omega
theorem app_good {f a : Tm} (hf : Qac f = true) (ha : Qac a = true) : Qac (.mk 5 0 [f, a]) = true := by
 simp only [Qac, Qbr, hf, ha, Bool.and_self, Bool.and_true]
 rfl
theorem Qip : ∀ (l : List Tm) (h : Tm), Qac h = true → (∀ a ∈ l, Qac a = true) → Qac (Qau h l) = true
 | [], h, hg, _ => hg
 | a :: l, h, hg, hl => Qip l _ (app_good hg (hl a (by simp))) fun b hb => hl b (by simp [hb])
theorem spine_cnd : ∀ (m : Nat) (t : Tm), cndT t ≤ m → Qac t = true → cndT t = cndT (Qan t) + cndL (Qav t) + (Qav t).length := by
  intro m
  induction m with
  | zero => intro t h; have := Qcc t; omega
  | succ m ih =>
    intro t h hg
    by_cases h5 : t.kind = 5
    · obtain ⟨f, a, rfl, hf, ha⟩ := Qey hg h5
      rw [Qdu] at h ⊢
      obtain ⟨e1, e2⟩ := Qfe 0 f a
      have := ih f (by omega) hf
      rw [e1, e2, List.length_append, List.length_singleton, this]
      have h2 : ∀ (x y : List Tm), cndL (x ++ y) = cndL x + cndL y := by
        intro x y
        induction x with
        | nil => simp only [List.nil_append, cndL]; omega
        | cons c cs ihc => simp only [List.cons_append, cndL, ihc]; omega
      rw [h2]; simp only [cndL]; omega
    · obtain ⟨e1, e2⟩ := Qdh h5
      rw [e1, e2]; simp only [cndL, List.length_nil]; omega
theorem cndL_drop : ∀ (l : List Tm) (k : Nat), cndL (l.drop k) ≤ cndL l
 | [], k => by rw [List.drop_nil]; exact Nat.le_refl _
 | a :: l, 0 => Nat.le_refl _
 | a :: l, k + 1 => by have := cndL_drop l k; simp only [List.drop_succ_cons, cndL]; omega
theorem erN_cnd {l : List En} : ∀ (m : Nat) (t : Tm), Qac t = true → cndT (erN l m t) ≤ cndT t := by
  intro m
  induction m with
  | zero => intro t _; exact Nat.le_refl _
  | succ m ih =>
    intro t hg
    simp only [erN]
    split
    · obtain ⟨-, -, q⟩ := Qea _ t (Nat.le_refl _) hg
      have hc := spine_cnd _ t (Nat.le_refl _) hg
      have key : ∀ x : List Tm, (∀ a ∈ x, Qac a = true) → cndL (x.map (erN l m)) ≤ cndL x := by
        intro x
        induction x with
        | nil => intro _; exact Nat.le_refl _
        | cons a x ihx =>
          intro hx
          have h1 := ih a (hx a (by simp))
          have h2 := ihx fun b hb => hx b (by simp [hb])
          simp only [List.map_cons, cndL]; omega
      have h1 := key ((Qav t).drop (parN l (Qan t).num)) fun a ha => (q a (List.mem_of_mem_drop ha)).1
      have h2 := cndL_drop (Qav t) (parN l (Qan t).num)
      rw [Qhu, List.length_map, List.length_drop]
      omega
    · exact Nat.le_refl _
theorem sv_le {vs : List Tm} (hv : ∀ v ∈ vs, cndT v ≤ 60) : ∀ t : Tm, svT vs t ≤ 60 * cndT t := by
  refine Tm.ind ?_
  intro k n sub ih
  have key : ∀ x : List Tm, (∀ a ∈ x, svT vs a ≤ 60 * cndT a) → svL vs x ≤ 60 * cndL x := by
    intro x
    induction x with
    | nil => intro _; simp only [svL, cndL]; omega
    | cons a x ihx =>
      intro hx
      have h1 := hx a (by simp)
      have h2 := ihx fun b hb => hx b (by simp [hb])
      simp only [svL, cndL]; omega
  have h1 := key sub ih
  simp only [svT, cndT]
  split
  · split
    · rename_i v hvv
      have := hv v (List.mem_of_getElem? hvv)
      omega
    · omega
  · omega
theorem bld_good {l : List En} {pars : List Tm} (hl : l.length ≤ 1000) (hF : formedB l = true) (hp2 : pars.length ≤ 2) (hpg : ∀ u ∈ pars, Qac u = true ∧ cndT u = 1) : ∀ (p : Pt) (t : Tm), pgT l p = true → bldT l pars p = some t → Qac t = true ∧ cndT t + 1 ≤ 8 * pndT p := by
  refine Pt.ind ?_
  intro k n a sub d ih t hg hb
  by_cases h1 : k = 1
  · subst h1
    rw [bld_var, Option.some.injEq] at hb
    subst hb
    simp only [pgT] at hg
    rw [if_pos (by trivial)] at hg
    simp only [Bool.and_eq_true, decide_eq_true_eq] at hg
    refine ⟨?_, by simp only [cndT, cndL, pndT]; omega⟩
    have hch : Qdf (.mk 8 n []) = true := by
      unfold Qdf
      have h8 : Qbc 8 = 1048576 := rfl
      exact decide_eq_true ⟨by show (1 : Int) ≤ 8; decide, by show (8 : Int) ≤ 8; decide, rfl, hg.1, by show n ≤ Qbc 8; omega, .inl (by show (8 : Int) ≠ 7; decide)⟩
    simp only [Qac, Qbr, hch]; rfl
  · by_cases h2 : k = 2
    · subst h2
      rw [Qie, Option.map_eq_some_iff] at hb
      obtain ⟨ts, hts, rfl⟩ := hb
      obtain ⟨har, hgs⟩ := Qhf hg
      obtain ⟨i, x, m, rfl, hil, hx, hx0, hpm, hmp, hm24, hs24⟩ := con_at hF har
      have hts2 : ∀ u ∈ ts, Qac u = true := by
        intro u hu
        obtain ⟨j, hj, rfl⟩ := List.getElem_of_mem hu
        have hjs : j < sub.length := by rw [← bldL_len hts]; exact hj
        obtain ⟨v, hv, hw⟩ := Qir hts j _ (List.getElem?_eq_getElem hjs)
        rw [List.getElem?_eq_getElem hj, Option.some.injEq] at hv
        subst hv
        exact (ih _ (List.getElem_mem hjs) _ (hgs _ (List.getElem_mem hjs)) hw).1
      have key : ∀ (s : List Pt) (us : List Tm), (∀ q ∈ s, ∀ t, pgT l q = true → bldT l pars q = some t → Qac t = true ∧ cndT t + 1 ≤ 8 * pndT q) → (∀ q ∈ s, pgT l q = true) → bldL l pars s = some us → cndL us + us.length ≤ 8 * pndL s := by
        intro s
        induction s with
        | nil => intro us _ _ h; simp only [bldL, Option.some.injEq] at h; subst h; simp only [cndL, List.length_nil]; omega
        | cons q s ihs =>
          intro us hi hgq h
          simp only [bldL] at h
          cases hq : bldT l pars q with
          | none => rw [hq] at h; cases h
          | some v =>
            rw [hq] at h
            simp only [Option.map_eq_some_iff] at h
            obtain ⟨r, hr, rfl⟩ := h
            have e1 := (hi q (by simp) v (hgq q (by simp)) hq).2
            have e2 := ihs r (fun z hz => hi z (by simp [hz])) (fun z hz => hgq z (by simp [hz])) hr
            simp only [cndL, List.length_cons, pndL]; omega
      have hk := key sub ts (fun q hq t => ih q hq t) hgs hts
      have hg6 : Qac (.mk 6 i []) = true := by
        have hch : Qdf (.mk 6 i []) = true := by
          unfold Qdf
          have h8 : Qbc 6 = 1048576 := rfl
          exact decide_eq_true ⟨by show (1 : Int) ≤ 6; decide, by show (6 : Int) ≤ 8; decide, rfl, by show (0 : Int) ≤ i; omega, by show (i : Int) ≤ Qbc 6; omega, .inl (by show (6 : Int) ≠ 7; decide)⟩
        simp only [Qac, Qbr, hch]; rfl
      refine ⟨Qip ts _ (Qip _ _ hg6 fun u hu => (hpg u (List.mem_of_mem_take hu)).1) hts2, ?_⟩
      rw [Qhu, Qhu]
      have hpt : ∀ (z : List Tm), (∀ u ∈ z, cndT u = 1) → cndL z = z.length := by
        intro z
        induction z with
        | nil => intro _; rfl
        | cons c z ihz => intro hz; have h1 := hz c (by simp); have h2 := ihz fun b hb => hz b (by simp [hb]); simp only [cndL, List.length_cons]; omega
      have hq := hpt (pars.take (parN l i)) fun u hu => (hpg u (List.mem_of_mem_take hu)).2
      have hq2 : (pars.take (parN l i)).length ≤ 2 := by rw [List.length_take]; omega
      simp only [cndT, cndL, pndT]; omega
    · rw [bld_no h1 h2] at hb; cases hb
theorem sv_pos {vs : List Tm} (t : Tm) : 1 ≤ svT vs t := by
 obtain ⟨k, n, sub⟩ := t
 simp only [svT]
 split
 ·split
  ·rename_i v _; have := Qcc v; omega
  ·omega
 ·omega
theorem svL_len {vs : List Tm} : ∀ l : List Tm, l.length ≤ svL vs l
 | [] => Nat.le_refl _
 | t :: ts => by have := svL_len (vs := vs) ts; have := sv_pos (vs := vs) t; simp only [svL, List.length_cons]; omega
theorem size29_any (vs : List Tm) (hvl : vs.length ≤ 1000) (HN : ∀ v ∈ vs, PCalls Tryz.prog 42 [.d (.sl []), aggD v] [] fun r s => r = .d (.v (.int .i64 (cndT v : Int))) ∧ s = []) : ∀ t : Tm, svT vs t ≤ 1000000000 → PCalls Tryz.prog 42 [.d (.sl (vs.map encD)), aggD t] [] fun r s => r = .d (.v (.int .i64 (svT vs t : Int))) ∧ s = [] := by
 refine Tm.ind ?_
 intro k n sub ih hb
 obtain ⟨R, hR⟩ : ∃ R : Nat, R = svT vs (.mk k n sub) := ⟨_, rfl⟩
 rw [← hR] at hb ⊢
 simp only [svT] at hR
 simp only [aggD, Jl, List.map_cons, List.map_nil, Tm.kind_mk, Tm.num_mk, Tm.sub_mk] at HN ⊢
 by_cases hin : k = 8 ∧ 0 ≤ n ∧ n < vs.length
 ·obtain ⟨rfl, h0, h1⟩ := hin
  obtain ⟨i, rfl⟩ : ∃ i : Nat, n = i := ⟨n.toNat, by omega⟩
  have hil : i < vs.length := by omega
  have hf : Hid (R = cndT vs[i]) := by
   show _ = _
   rw [hR, if_pos ⟨rfl, h0⟩, Int.toNat_natCast, List.getElem?_eq_getElem hil]
  have hx := Qal hil
  have hc1 := Lib.hid (HN _ (List.getElem_mem hil))
  clear hR HN ih
  refine PCalls.enter Tryz.func42 rfl Tryz.ntmps42 (by simp) ?_
  simp only [Qab]
  refine go_ ?_
  refine Jd ?_
  intro i0 hi0
  try simp only [Ja, Rh, Rg, Jb] at hi0
  refine go_ ?_
  refine Jc (hc1.out) ?_
  refine go_ ?_
  refine Jm (by simp) (by simp only [Tryz.results42]; rfl) (by simp [resP, St.box?, PF.get, Jn, TyK.agg, *]; rfl) Nl ?_
  exact ⟨by rw [hf.out]; rfl, rfl⟩
 have HR : Hid (R = 1 + svL vs (sub.drop 0)) := by
  show _ = _
  rw [hR, List.drop_zero]
  by_cases h8 : k = 8 ∧ 0 ≤ n
  ·rw [if_pos h8, List.getElem?_eq_none (by have := h8.1; have := h8.2; omega)]; simp only; omega
  ·rw [if_neg h8]; omega
 have IH : Hid (∀ s ∈ sub, svT vs s ≤ 1000000000 → PCalls Tryz.prog 42 [.d (.sl (vs.map encD)), aggD s] [] fun r st => r = .d (.v (.int .i64 (svT vs s : Int))) ∧ st = []) := fun s hs h => ih s hs h
 have hcase : (k == 8) = false ∨ ((k == 8) = true ∧ n < 0) ∨ ((k == 8) = true ∧ 0 ≤ n ∧ (vs.length : Int) ≤ n) := by
  by_cases h8 : k = 8
  ·subst h8
   by_cases h0 : n < 0
   ·exact .inr (.inl ⟨rfl, h0⟩)
   ·exact .inr (.inr ⟨rfl, by omega, by omega⟩)
  ·exact .inl (by simpa using h8)
 have hsl : sub.length ≤ 1000000000 := by have h1 := HR.out; have h2 := svL_len (vs := vs) sub; rw [List.drop_zero] at h1; omega
 clear hR HN ih hin
 rcases hcase with h8 | ⟨h8, h0⟩ | ⟨h8, h0, h1⟩
 all_goals
  first
  | have h2 : ¬ 0 ≤ n := by omega
  | skip
  first
  | have h3 : ¬ n < vs.length := by omega
  | skip
  refine PCalls.enter Tryz.func42 rfl Tryz.ntmps42 (by simp) ?_
  simp only [Qab]
  refine go_ ?_
  refine Jd ?_
  intro i0 hi0
  try simp only [Ja, Rh, Rg, Jb] at hi0
  refine go_ ?_
  refine Qak (ι := Nat × Nat) (fun y => y.1 ≤ sub.length ∧ y.2 ≤ R ∧ Hid (R = y.2 + svL vs (sub.drop y.1))) (fun y => [(0, .d (.sl (vs.map encD))), (3, .ptr i0 0), (5, .d (.v (.int .i64 (y.2 : Int)))), (6, .d (.v (.int .i64 (y.1 : Int))))]) (fun _ => [.box i0 26 [.d (.v (.int .i64 k)), .d (.v (.int .i64 n)), .d (.sl (sub.map encD))]]) (fun y => sub.length - y.1) (0, 1) ⟨Nat.zero_le _, by have := HR.out; simp only; omega, HR.out⟩ ?_ ?_ ?_
  ·repeat (first | exact Jt _ | refine Js (by simp [PF.get]; rfl) (by first | rfl | (simp [*]; done) | fail) ?_)
  ·repeat (first | exact List.Sublist.refl _ | exact List.nil_sublist _ | refine List.Sublist.cons_cons _ ?_ | refine List.Sublist.cons _ ?_)
  rintro ⟨j, c⟩ ⟨hj, hcR, hR⟩
  simp only at hj hcR hR ⊢
  clear HR
  by_cases hlt : j < sub.length
  ·have hxs := Qal hlt
   have hc : (j : Int) < sub.length := by omega
   have hn1 : (0 : Int) ≤ j := by omega
   have hin := wr64 (n := (j : Int) + 1) (by omega) (by omega)
   have hRo := hR.out
   rw [List.drop_eq_getElem_cons hlt] at hRo
   simp only [svL] at hRo
   have hc1 := Lib.hid (IH.out _ (List.getElem_mem hlt) (by omega))
   have hw1 := wr64 (n := (c : Int) + (svT vs sub[j] : Int)) (by omega) (by omega)
   have hR2 : Hid (R = (c + svT vs sub[j]) + svL vs (sub.drop (j + 1))) := by show _ = _; omega
   have hcR2 : c + svT vs sub[j] ≤ R := by omega
   simp only [aggD, Jl, List.map_cons, List.map_nil] at hc1
   clear hRo hR
   generalize svT vs sub[j] = z at *
   have hcz : ((c + z : Nat) : Int) = (c : Int) + z := by omega
   refine go_ ?_
   refine Jc (hc1.out) ?_
   refine go_ ?_
   refine ⟨(j + 1, c + z), ⟨hlt, hcR2, hR2.out⟩, by simp only; omega, ?_, by repeat (first | exact List.Sublist.refl _ | exact List.nil_sublist _ | refine List.Sublist.cons_cons _ ?_ | refine List.Sublist.cons _ ?_)⟩
   simp only [hcz]
   repeat (first | exact Jt _ | refine Js (by simp [PF.get]; rfl) (by first | rfl | (simp [hin]; done) | fail) ?_)
  ·have hc : ¬ (j : Int) < sub.length := by omega
   have hf : Hid (R = c) := by show _ = _; rw [show R = _ from hR.out, List.drop_of_length_le (by omega)]; rfl
   clear hR
   refine go_ ?_
   refine Jm (by simp) (by simp only [Tryz.results42]; rfl) (by simp [resP, St.box?, PF.get, Jn, TyK.agg, *]; rfl) Nl ?_
   exact ⟨by rw [hf.out]; rfl, rfl⟩
theorem size29_p (vs : List Tm) (hvl : vs.length ≤ 1000) (hv : ∀ v ∈ vs, cndT v ≤ 1000000000) (t : Tm) (h : svT vs t ≤ 1000000000) : PCalls Tryz.prog 42 [.d (.sl (vs.map encD)), aggD t] [] fun r s => r = .d (.v (.int .i64 (svT vs t : Int))) ∧ s = [] := by
 refine size29_any vs hvl (fun v hvm => ?_) t h
 have := size29_any [] (by simp) (fun v hv => by cases hv) v (by rw [sv_nil]; exact hv v hvm)
 rw [sv_nil] at this
 exact this
theorem plain_p (l : List En) (hF : formedB l = true) : ∀ (m : Nat) (t : Tm), cndT t ≤ m → m ≤ 100000 → Qac t = true → PCalls Tryz.prog 41 [.d (.sl (l.map encD)), aggD t] [] fun r s => r = .d (.v (.bool (plN l m t))) ∧ s = [] := by
  intro m
  induction m with
  | zero => intro t h; have := Qcc t; omega
  | succ m ih =>
  intro t hm hm1 hg
  obtain ⟨R, hR⟩ : ∃ R, R = plN l (m + 1) t := ⟨_, rfl⟩
  rw [← hR]
  simp only [plN] at hR
  by_cases h8 : t.kind = 8
  · rw [if_pos h8] at hR
    have h8b : (t.kind == 8) = true := beq_iff_eq.2 h8
    subst hR
    clear ih hg hF hm hm1 h8
    simp only [aggD, Jl, List.map_cons, List.map_nil]
    refine PCalls.enter Tryz.func41 rfl Tryz.ntmps41 (by simp) ?_
    simp only [Qab]
    refine go_ ?_
    refine Jd ?_
    intro i0 hi0
    try simp only [Ja, Rh, Rg, Jb] at hi0
    refine go_ ?_
    refine Jm (by simp) (by simp only [Tryz.results41]; rfl) (by simp [resP, St.box?, PF.get, Jn, TyK.agg, *]; rfl) Nl ?_
    exact ⟨rfl, rfl⟩
  rw [if_neg h8] at hR
  have h8b : (t.kind == 8) = false := beq_eq_false_iff_ne.2 h8
  have hS1 := Lib.hid (Qij t hg)
  have hS2 := Lib.hid (rArgs_p t hg (by omega))
  have hI := Lib.hid (ris_p l (Qan t).num 2)
  have hAl : (Qav t).length ≤ 100000 := Nat.le_trans (Qhh t) (by omega)
  obtain ⟨-, -, hq⟩ := Qea _ t (Nat.le_refl _) hg
  have IH : Hid (∀ a ∈ Qav t, PCalls Tryz.prog 41 [.d (.sl (l.map encD)), aggD a] [] fun r s => r = .d (.v (.bool (plN l m a))) ∧ s = []) := fun a ha => ih a (by have := (hq a ha).2; omega) (by omega) (hq a ha).1
  have hpar : isE l (Qan t).num 2 = true → ∃ (i : Nat) (x : En), (Qan t).num = i ∧ i < l.length ∧ (l.map encD)[i]? = some (encD x) ∧ x.pars = parN l (Qan t).num := fun h => by
    obtain ⟨i, e, hlt, hk⟩ := Qdv h
    have hx : l[i]? = some l[i] := List.getElem?_eq_getElem hlt
    rw [e]
    exact ⟨i, l[i], rfl, hlt, Qal hlt, (parN_at hF hx hk).1⟩
  generalize parN l (Qan t).num = q at *
  simp only [aggD, Jl, List.map_cons, List.map_nil] at hS1 hS2 ⊢
  generalize Qan t = h at *
  generalize Qav t = A at *
  have HR := Lib.hid hR
  clear hR ih hg hF hq h8 hm
  refine PCalls.enter Tryz.func41 rfl Tryz.ntmps41 (by simp) ?_
  simp only [Qab]
  refine go_ ?_
  refine Jd ?_
  intro i0 hi0
  try simp only [Ja, Rh, Rg, Jb] at hi0
  refine go_ ?_
  refine Jc (hS1.out) ?_
  refine go_ ?_
  refine Je ?_
  intro i1 hi1
  try simp only [Ja, Rh, Rg, Jb] at hi1
  refine go_ ?_
  refine Rd ?_
  refine go_ ?_
  refine Jc (hS2.out) ?_
  refine go_ ?_
  rcases Bool.eq_false_or_eq_true (h.kind == 6) with h1 | h1
  rotate_left
  · have h1b : (h.kind != 6) = true := by simpa using h1
    have hf : Hid (R = false) := by show _ = _; rw [HR.out, h1]; rfl
    clear hpar HR
    refine go_ ?_
    refine Jm (by simp) (by simp only [Tryz.results41]; rfl) (by simp [resP, St.box?, PF.get, Jn, TyK.agg, *]; rfl) Nl ?_
    exact ⟨by rw [hf.out]; rfl, rfl⟩
  have h1b : (h.kind != 6) = false := by simpa using h1
  rw [h1] at HR
  clear h1
  cases hb : isE l h.num 2 with
  | false =>
    rw [hb] at hI HR
    have hf : Hid (R = false) := HR.out
    clear hpar HR hb
    refine go_ ?_
    refine Jr (hI.out) ?_
    refine go_ ?_
    refine Jm (by simp) (by simp only [Tryz.results41]; rfl) (by simp [resP, St.box?, PF.get, Jn, TyK.agg, *]; rfl) Nl ?_
    exact ⟨by rw [hf.out]; rfl, rfl⟩
  | true =>
  obtain ⟨i, x, hi, hil, hx, hxp⟩ := hpar hb
  rw [hb] at hI HR
  have HR0 : Hid (R = (A.drop q).all (plN l m)) := HR.out
  rw [hi] at hI
  have hc0 : (i : Int) < l.length := by omega
  have hn0 : (0 : Int) ≤ i := by omega
  clear HR hb hil hpar
  refine go_ ?_
  refine Jr (hI.out) ?_
  refine go_ ?_
  refine Qak (ι := Nat) (fun y => Hid (R = (A.drop y).all (plN l m))) (fun y => [(0, .d (.sl (l.map encD))), (6, .d (.sl (A.map encD))), (7, .d (.v (.int .i64 (y : Int))))]) (fun _ => []) (fun y => A.length - y) q HR0.out ?_ ?_ ?_
  · repeat (first | exact Jt _ | refine Js (by simp [PF.get]; rfl) (by first | rfl | (simp [*]; done) | fail) ?_)
  · repeat (first | exact List.Sublist.refl _ | exact List.nil_sublist _ | refine List.Sublist.cons_cons _ ?_ | refine List.Sublist.cons _ ?_)
  rintro j hR
  clear HR0
  by_cases hlt : j < A.length
  · have hxs := Qal hlt
    have hc : (j : Int) < A.length := by omega
    have hn1 : (0 : Int) ≤ j := by omega
    have hin := wr64 (n := (j : Int) + 1) (by omega) (by omega)
    have hc1 := Lib.hid (IH.out _ (List.getElem_mem hlt))
    have hR2 : Hid (R = (plN l m A[j] && (A.drop (j + 1)).all (plN l m))) := by show _ = _; rw [show R = _ from hR.out, List.drop_eq_getElem_cons hlt]; rfl
    simp only [aggD, Jl, List.map_cons, List.map_nil] at hc1
    clear hR
    generalize plN l m A[j] = z at *
    refine go_ ?_
    refine Jc (hc1.out) ?_
    cases z with
    | false =>
      refine go_ ?_
      refine Jm (by simp) (by simp only [Tryz.results41]; rfl) (by simp [resP, St.box?, PF.get, Jn, TyK.agg, *]; rfl) Nl ?_
      exact ⟨by rw [hR2.out]; rfl, rfl⟩
    | true =>
      refine go_ ?_
      exact ⟨j + 1, hR2.out, by omega, by repeat (first | exact Jt _ | refine Js (by simp [PF.get]; rfl) (by first | rfl | (simp [*]; done) | fail) ?_), by repeat (first | exact List.Sublist.refl _ | exact List.nil_sublist _ | refine List.Sublist.cons_cons _ ?_ | refine List.Sublist.cons _ ?_)⟩
  · have hc : ¬ (j : Int) < A.length := by omega
    have hf : Hid (R = true) := by show _ = _; rw [show R = _ from hR.out, List.drop_of_length_le (by omega)]; rfl
    clear hR
    refine go_ ?_
    refine Jm (by simp) (by simp only [Tryz.results41]; rfl) (by simp [resP, St.box?, PF.get, Jn, TyK.agg, *]; rfl) Nl ?_
    exact ⟨by rw [hf.out]; rfl, rfl⟩
theorem erased_p (l : List En) (hF : formedB l = true) : ∀ (m : Nat) (t : Tm), cndT t ≤ m → m ≤ 100000 → Qac t = true → PCalls Tryz.prog 43 [.d (.sl (l.map encD)), aggD t] [] fun r s => r = aggD (erN l m t) ∧ s = [] := by
  intro m
  induction m with
  | zero => intro t h; have := Qcc t; omega
  | succ m ih =>
  intro t hm hm1 hg
  obtain ⟨R, hR⟩ : ∃ R, R = erN l (m + 1) t := ⟨_, rfl⟩
  rw [← hR]
  simp only [erN] at hR
  have hS1 := Lib.hid (Qij t hg)
  have hS2 := Lib.hid (rArgs_p t hg (by omega))
  have hI := Lib.hid (ris_p l (Qan t).num 2)
  have hAl : (Qav t).length ≤ 100000 := Nat.le_trans (Qhh t) (by omega)
  obtain ⟨-, -, hq⟩ := Qea _ t (Nat.le_refl _) hg
  have IH : Hid (∀ a ∈ Qav t, PCalls Tryz.prog 43 [.d (.sl (l.map encD)), aggD a] [] fun r s => r = aggD (erN l m a) ∧ s = []) := fun a ha => ih a (by have := (hq a ha).2; omega) (by omega) (hq a ha).1
  have hpar : isE l (Qan t).num 2 = true → ∃ (i : Nat) (x : En), (Qan t).num = i ∧ i < l.length ∧ (l.map encD)[i]? = some (encD x) ∧ x.pars = parN l (Qan t).num := fun h => by
    obtain ⟨i, e, hlt, hk⟩ := Qdv h
    have hx : l[i]? = some l[i] := List.getElem?_eq_getElem hlt
    rw [e]
    exact ⟨i, l[i], rfl, hlt, Qal hlt, (parN_at hF hx hk).1⟩
  generalize parN l (Qan t).num = q at *
  simp only [aggD, Jl, List.map_cons, List.map_nil] at hS1 hS2 ⊢
  generalize Qan t = h at *
  generalize Qav t = A at *
  have HR := Lib.hid hR
  clear hR ih hg hF hq hm
  refine PCalls.enter Tryz.func43 rfl Tryz.ntmps43 (by simp) ?_
  simp only [Qab]
  refine go_ ?_
  refine Jd ?_
  intro i0 hi0
  try simp only [Ja, Rh, Rg, Jb] at hi0
  refine go_ ?_
  refine Je ?_
  intro i1 hi1
  try simp only [Ja, Rh, Rg, Jb] at hi1
  refine go_ ?_
  refine Jc (hS1.out) ?_
  refine go_ ?_
  refine Je ?_
  intro i2 hi2
  try simp only [Ja, Rh, Rg, Jb] at hi2
  refine go_ ?_
  refine Rd ?_
  refine go_ ?_
  refine Jc (hS2.out) ?_
  refine go_ ?_
  rcases Bool.eq_false_or_eq_true (h.kind == 6) with h1 | h1
  rotate_left
  · have h1b : (h.kind != 6) = true := by simpa using h1
    have hf : Hid (R = t) := by show _ = _; rw [HR.out, h1]; rfl
    clear hpar HR
    refine go_ ?_
    refine Rd ?_
    refine go_ ?_
    refine Jm (by simp) (by simp only [Tryz.results43]; rfl) (by simp [resP, St.box?, PF.get, Jn, TyK.agg, *]; rfl) Nl ?_
    exact ⟨by rw [hf.out]; rfl, rfl⟩
  have h1b : (h.kind != 6) = false := by simpa using h1
  rw [h1] at HR
  clear h1
  cases hb : isE l h.num 2 with
  | false =>
    rw [hb] at hI HR
    have hf : Hid (R = t) := HR.out
    clear hpar HR hb
    refine go_ ?_
    refine Jr (hI.out) ?_
    refine go_ ?_
    refine Rd ?_
    refine go_ ?_
    refine Jm (by simp) (by simp only [Tryz.results43]; rfl) (by simp [resP, St.box?, PF.get, Jn, TyK.agg, *]; rfl) Nl ?_
    exact ⟨by rw [hf.out]; rfl, rfl⟩
  | true =>
  obtain ⟨i, x, hi, hil, hx, hxp⟩ := hpar hb
  rw [hb] at hI HR
  rw [hi] at hI
  have hc0 : (i : Int) < l.length := by omega
  have hn0 : (0 : Int) ≤ i := by omega
  by_cases hqA : q ≤ A.length
  rotate_left
  · have hf : Hid (R = t) := by show _ = _; rw [HR.out, decide_eq_false hqA]; rfl
    have hlt : (A.length : Int) < q := by omega
    clear HR hb hil hpar
    refine go_ ?_
    refine Jr (hI.out) ?_
    refine go_ ?_
    refine Rd ?_
    refine go_ ?_
    refine Jm (by simp) (by simp only [Tryz.results43]; rfl) (by simp [resP, St.box?, PF.get, Jn, TyK.agg, *]; rfl) Nl ?_
    exact ⟨by rw [hf.out]; rfl, rfl⟩
  have HR0 : Hid (R = Qau h ((A.drop q).map (erN l m))) := by show _ = _; rw [HR.out, decide_eq_true hqA]; rfl
  have hlt : ¬ (A.length : Int) < q := by omega
  clear HR hb hil hpar
  refine go_ ?_
  refine Jr (hI.out) ?_
  refine go_ ?_
  refine Je ?_
  intro i3 hi3
  try simp only [Ja, Rh, Rg, Jb] at hi3
  refine go_ ?_
  refine Rd ?_
  refine go_ ?_
  refine Qak (ι := Nat × Tm) (fun y => Hid (R = Qau y.2 ((A.drop y.1).map (erN l m)))) (fun y => [(0, .d (.sl (l.map encD))), (4, .ptr i1 0), (6, .d (.sl (A.map encD))), (7, .ptr i3 0), (8, .d (.v (.int .i64 (y.1 : Int))))]) (fun y => [.box i3 26 [.d (.v (.int .i64 y.2.kind)), .d (.v (.int .i64 y.2.num)), .d (.sl (y.2.sub.map encD))], .box i1 26 [.d (.v (.int .i64 0)), .d (.v (.int .i64 0)), .nils]]) (fun y => A.length - y.1) (q, h) HR0.out ?_ ?_ ?_
  · repeat (first | exact Jt _ | refine Js (by simp [PF.get]; rfl) (by first | rfl | (simp [hi, hxp]; done) | fail) ?_)
  · simp only [hi]
    repeat (first | exact List.Sublist.refl _ | exact List.nil_sublist _ | refine List.Sublist.cons_cons _ ?_ | refine List.Sublist.cons _ ?_)
  rintro ⟨j, u⟩ hR
  simp only at hR ⊢
  clear HR0
  by_cases hjl : j < A.length
  · have hxs := Qal hjl
    have hc : (j : Int) < A.length := by omega
    have hn1 : (0 : Int) ≤ j := by omega
    have hin := wr64 (n := (j : Int) + 1) (by omega) (by omega)
    have hc1 := Lib.hid (IH.out _ (List.getElem_mem hjl))
    have hA1 := Lib.hid (bA_p u [erN l m A[j]] (by simp))
    have hR2 : Hid (R = Qau (.mk 5 0 [u, erN l m A[j]]) ((A.drop (j + 1)).map (erN l m))) := by show _ = _; rw [show R = _ from hR.out, List.drop_eq_getElem_cons hjl]; rfl
    simp only [apT, List.foldl_cons, List.foldl_nil, aggD, Jl, List.map_cons, List.map_nil, Tm.kind_mk, Tm.num_mk, Tm.sub_mk] at hc1 hA1
    clear hR
    generalize erN l m A[j] = z at *
    refine go_ ?_
    refine Qax [(0, .b), (1, .a), (2, .a), (3, .a), (4, .a), (5, .a), (6, .a), (7, .a), (8, .a), (9, .e)] (by kernel_rfl) (by rfl) (by kernel_rfl) ?_
    refine go_ ?_
    refine Qaa (hc1.out) ?_
    refine go_ ?_
    refine Qbv ?_
    refine go_ ?_
    refine Qaa (hA1.out) ?_
    refine go_ ?_
    refine Qfx ?_
    refine go_ ?_
    refine ⟨(j + 1, .mk 5 0 [u, z]), hR2.out, by simp only; omega, by repeat (first | exact Jt _ | refine Js (by simp [PF.get]; rfl) (by first | rfl | (simp [*]; done) | fail) ?_), ?_⟩
    simp only [Tm.kind_mk, Tm.num_mk, Tm.sub_mk, List.map_cons, List.map_nil, Jl]
    repeat (first | exact List.Sublist.refl _ | exact List.nil_sublist _ | refine List.Sublist.cons_cons _ ?_ | refine List.Sublist.cons _ ?_)
  · have hc : ¬ (j : Int) < A.length := by omega
    have hf : Hid (R = u) := by show _ = _; rw [show R = _ from hR.out, List.drop_of_length_le (by omega)]; rfl
    clear hR
    refine go_ ?_
    refine Rd ?_
    refine go_ ?_
    refine Jm (by simp) (by simp only [Tryz.results43]; rfl) (by simp [resP, St.box?, PF.get, Jn, TyK.agg, *]; rfl) Nl ?_
    exact ⟨by rw [hf.out]; rfl, rfl⟩
def prs29 : List Tm := [.mk 6 0 [], .mk 6 3 []]
theorem Qiq (c : Int) : parN baseL c ≤ 2 := by
  unfold parN Qhm
  have h : baseL.all (fun e => decide (e.pars ≤ 2)) = true := by decide +kernel
  cases hx : baseL[c.toNat]? with
  | none => simp
  | some d =>
    have := List.all_eq_true.1 h d (List.mem_of_getElem? hx)
    simp only [decide_eq_true_eq] at this
    simp only; omega
theorem prs_good : ∀ u ∈ prs29, Qac u = true ∧ cndT u = 1 := by
 intro u hu
 simp only [prs29, List.mem_cons, List.not_mem_nil, or_false] at hu
 rcases hu with rfl | rfl <;> exact ⟨by decide +kernel, by decide +kernel⟩
theorem Qee {l : List En} {p : Pt} (h : pRight l p = true) : formedB l = true ∧ phgT p ≤ 128 ∧ pgT l p = true := by
 have h3 : (formedB l && (decide (phgT p ≤ 128) && pgT l p)) = true := h
 simp only [Bool.and_eq_true, decide_eq_true_eq] at h3
 exact h3
def sucP (p : Pt) : Pt := .mk 2 2 0 [p] (.mk 0 0 [])
def consP (p : Pt) : Pt := .mk 2 8 0 [.mk 3 0 0 [] (.mk 2 0 []), sucP p] (.mk 0 0 [])
theorem cons_right {p : Pt} (h : pRight baseL (sucP p) = true) (h2 : pndT p ≤ 100) : pRight baseL (consP p) = true := by
 obtain ⟨h3, h4, h5⟩ := Qee h
 unfold pRight
 rw [h3]
 have h6 := phg_nd p
 have h7 : phgT (consP p) ≤ 128 := by
  unfold consP sucP
  simp only [phgT, phgL]
  omega
 have ha : arN baseL 8 = 2 := by decide +kernel
 have h8 : pgT baseL (consP p) = true := by
  unfold consP
  simp only [pgT, pgL]
  have q1 : Qbs (Tm.mk 0 0 []) = true := by decide +kernel
  have q2 : Qad (Tm.mk 2 0 []) = true := by decide +kernel
  rw [if_neg (by decide), if_neg (by decide), if_neg (by decide), if_pos (by trivial), ha, h5, q1, q2]
  rfl
 rw [decide_eq_true h7, h8]; rfl
theorem parts29_p (p : Pt) : PCalls Tryz.prog 6 [aggD p] [] fun r s => r = .d (.v (.bool true)) ∧ s = [] := by
  have hO := Lib.hid (of29_p [p])
  have hW := Lib.hid Qjn
  have hB := Lib.hid rbase_p
  obtain ⟨hof1, hof2⟩ := Qjb [p] 300
  generalize ofL [p] 300 = W at *
  by_cases h2 : 0 < W.2
  rotate_left
  · generalize baseL = B at *
    clear hof1 hof2
    simp only [aggD, Qao, Jl, List.map_cons, List.map_nil] at hO ⊢
    refine PCalls.enter Tryz.func6 rfl Tryz.ntmps6 (by simp) ?_
    simp only [Qab]
    refine go_ ?_
    refine Jd ?_
    intro i0 hi0
    try simp only [Ja, Rh, Rg, Jb] at hi0
    refine go_ ?_
    refine Jc (hB.out) ?_
    refine go_ ?_
    refine Qam ?_
    refine go_ ?_
    refine Jc (hO.out) ?_
    refine go_ ?_
    refine Jc (hW.out) ?_
    refine go_ ?_
    refine Jm (by simp) (by simp only [Tryz.results6]; rfl) (by simp [resP, St.box?, PF.get, Jn, TyK.agg, *]; rfl) Nl ?_
    exact ⟨rfl, rfl⟩
  obtain ⟨e1, e2⟩ := hof2 h2
  simp only [pndL] at e2
  have hpn : pndT p ≤ 300 := by omega
  rw [e1] at hO
  clear hof1 hof2 e1 e2
  have hR1 := Lib.hid (Qhy baseL p Qft (by omega))
  have HT : Hid (pRight baseL p = true → PCalls Tryz.prog 20 [.d (.sl (baseL.map encD)), aggD p, .d (.sl (prs29.map encD))] [] fun r s => r = bldP (bldT baseL prs29 p) ∧ s = []) := fun h => r24Term_p baseL Qer prs29 (by decide) (fun c => Qiq c) p (Qee h).2.2
  have HS : Hid (∀ t : Tm, PCalls Tryz.prog 15 [aggD t] [] fun p s => p = .d (.v (.bool (Qad t))) ∧ s = []) := fun t => Qfc t
  have hR2 := Lib.hid (Qhy baseL (sucP p) Qft (by unfold sucP; simp only [pndT, pndL]; omega))
  have hZ := Lib.hid (rpSize_p p)
  have hC0 := Lib.hid (bC_p 0)
  have hC3 := Lib.hid (bC_p 3)
  have hS0 := Lib.hid (bS_p 0)
  have HL : Hid (∀ t : Tm, pRight baseL p = true → bldT baseL prs29 p = some t → Qad t = true → pRight baseL (sucP p) = true → pndT p ≤ 100 →
      PCalls Tryz.prog 40 [.d (.sl (baseL.map encD)), aggD p, aggD t] [] (fun r s => r = .d (.v (.int .i64 1)) ∧ s = []) ∧
      PCalls Tryz.prog 40 [.d (.sl (baseL.map encD)), aggD (sucP p), aggD t] [] (fun r s => r = .d (.v (.int .i64 2)) ∧ s = []) ∧
      PCalls Tryz.prog 40 [.d (.sl (baseL.map encD)), aggD (consP p), aggD t] [] (fun r s => r = .d (.v (.int .i64 2)) ∧ s = [])) := by
    intro t h1 hb ht h3 h4
    obtain ⟨l1, l2, l3⟩ := parts_law (z := .mk 0 0 []) (s0 := .mk 2 0 []) (fun c => Qiq c) (Qee h1).2.2 (Qee h3).2.2 hb
    have q1 := Qgl baseL p t Qft (by omega)
    have q2 := Qgl baseL (sucP p) t Qft (by unfold sucP; simp only [pndT, pndL]; omega)
    have q3 := Qgl baseL (consP p) t Qft (by unfold consP sucP; simp only [pndT, pndL]; omega)
    rw [if_pos ⟨h1, ht⟩, l1] at q1
    rw [if_pos ⟨h3, ht⟩, show Qat baseL (sucP p) t = 2 from l2] at q2
    rw [if_pos ⟨cons_right h3 h4, ht⟩, show Qat baseL (consP p) t = 2 from l3] at q3
    exact ⟨q1, q2, q3⟩
  generalize pRight baseL p = r1 at *
  generalize pRight baseL (sucP p) = r2 at *
  generalize bldT baseL prs29 p = o at *
  generalize baseL = B at *
  simp only [sucP, consP, prs29, aggD, Qao, Jl, List.map_cons, List.map_nil, Pt.kind_mk, Pt.num_mk, Pt.at_mk, Pt.sub_mk, Pt.t_mk, Tm.kind_mk, Tm.num_mk, Tm.sub_mk] at hO hR1 HT HS hR2 hZ hC0 hC3 hS0 HL ⊢
  cases r1 with
  | false =>
    clear HT HL HS hR2 hZ
    refine PCalls.enter Tryz.func6 rfl Tryz.ntmps6 (by simp) ?_
    simp only [Qab]
    refine go_ ?_
    refine Jd ?_
    intro i0 hi0
    try simp only [Ja, Rh, Rg, Jb] at hi0
    refine go_ ?_
    refine Jc (hB.out) ?_
    refine go_ ?_
    refine Qam ?_
    refine go_ ?_
    refine Jc (hO.out) ?_
    refine go_ ?_
    refine Jr (hR1.out) ?_
    refine go_ ?_
    refine Jc (hW.out) ?_
    refine go_ ?_
    refine Jm (by simp) (by simp only [Tryz.results6]; rfl) (by simp [resP, St.box?, PF.get, Jn, TyK.agg, *]; rfl) Nl ?_
    exact ⟨rfl, rfl⟩
  | true =>
  have hT := Lib.hid (HT.out rfl)
  clear HT
  cases o with
  | none =>
    simp only [bldP, aggD, Jl, List.map_nil, Tm.kind_mk, Tm.num_mk, Tm.sub_mk] at hT
    clear HL HS hR2 hZ
    refine PCalls.enter Tryz.func6 rfl Tryz.ntmps6 (by simp) ?_
    simp only [Qab]
    refine go_ ?_
    refine Jd ?_
    intro i0 hi0
    try simp only [Ja, Rh, Rg, Jb] at hi0
    refine go_ ?_
    refine Jc (hB.out) ?_
    refine go_ ?_
    refine Qam ?_
    refine go_ ?_
    refine Jc (hO.out) ?_
    refine go_ ?_
    refine Jr (hR1.out) ?_
    refine go_ ?_
    refine Jc (hC0.out) ?_
    refine go_ ?_
    refine Jc (hC3.out) ?_
    refine go_ ?_
    refine Qam ?_
    refine go_ ?_
    refine Jc (hT.out) ?_
    refine go_ ?_
    refine Je ?_
    intro i1 hi1
    try simp only [Ja, Rh, Rg, Jb] at hi1
    refine go_ ?_
    refine Rd ?_
    refine go_ ?_
    refine Jc (hW.out) ?_
    refine go_ ?_
    refine Jm (by simp) (by simp only [Tryz.results6]; rfl) (by simp [resP, St.box?, PF.get, Jn, TyK.agg, *]; rfl) Nl ?_
    exact ⟨rfl, rfl⟩
  | some t =>
  simp only [bldP, aggD, Jl] at hT
  have hSt := Lib.hid (HS.out t)
  have HL2 := Lib.hid (fun h1 h2 h3 => HL.out t rfl rfl h1 h2 h3)
  clear HL HS
  generalize Qad t = sh at *
  cases sh with
  | false =>
    clear HL2 hR2 hZ
    refine PCalls.enter Tryz.func6 rfl Tryz.ntmps6 (by simp) ?_
    simp only [Qab]
    refine go_ ?_
    refine Jd ?_
    intro i0 hi0
    try simp only [Ja, Rh, Rg, Jb] at hi0
    refine go_ ?_
    refine Jc (hB.out) ?_
    refine go_ ?_
    refine Qam ?_
    refine go_ ?_
    refine Jc (hO.out) ?_
    refine go_ ?_
    refine Jr (hR1.out) ?_
    refine go_ ?_
    refine Jc (hC0.out) ?_
    refine go_ ?_
    refine Jc (hC3.out) ?_
    refine go_ ?_
    refine Qam ?_
    refine go_ ?_
    refine Jc (hT.out) ?_
    refine go_ ?_
    refine Je ?_
    intro i1 hi1
    try simp only [Ja, Rh, Rg, Jb] at hi1
    refine go_ ?_
    refine Rd ?_
    refine go_ ?_
    refine Jr (hSt.out) ?_
    refine go_ ?_
    refine Jc (hW.out) ?_
    refine go_ ?_
    refine Jm (by simp) (by simp only [Tryz.results6]; rfl) (by simp [resP, St.box?, PF.get, Jn, TyK.agg, *]; rfl) Nl ?_
    exact ⟨rfl, rfl⟩
  | true =>
  by_cases hbad : r2 = false ∨ ¬ pndT p ≤ 100
  · clear HL2
    have hz : r2 = true → (100 : Int) < min (pndT p : Int) 8193 := fun h => by
      rcases hbad with h1 | h1
      · rw [h] at h1; cases h1
      · omega
    clear hbad
    generalize min (pndT p : Int) 8193 = z at *
    refine PCalls.enter Tryz.func6 rfl Tryz.ntmps6 (by simp) ?_
    simp only [Qab]
    refine go_ ?_
    refine Jd ?_
    intro i0 hi0
    try simp only [Ja, Rh, Rg, Jb] at hi0
    refine go_ ?_
    refine Jc (hB.out) ?_
    refine go_ ?_
    refine Qam ?_
    refine go_ ?_
    refine Jc (hO.out) ?_
    refine go_ ?_
    refine Jr (hR1.out) ?_
    refine go_ ?_
    refine Jc (hC0.out) ?_
    refine go_ ?_
    refine Jc (hC3.out) ?_
    refine go_ ?_
    refine Qam ?_
    refine go_ ?_
    refine Jc (hT.out) ?_
    refine go_ ?_
    refine Je ?_
    intro i1 hi1
    try simp only [Ja, Rh, Rg, Jb] at hi1
    refine go_ ?_
    refine Rd ?_
    refine go_ ?_
    refine Jr (hSt.out) ?_
    refine go_ ?_
    refine Qam ?_
    refine go_ ?_
    refine Je ?_
    intro i2 hi2
    try simp only [Ja, Rh, Rg, Jb] at hi2
    refine go_ ?_
    refine Rd ?_
    refine go_ ?_
    refine Qek (J := Qcy [(i2, _)]) [(0, .a), (1, .a), (2, .a), (3, .a), (4, .a), (5, .e), (6, .e)] (by kernel_rfl) (by rfl) (by kernel_rfl) (by (repeat (first | exact Qap _ | refine Ju (by simp [St.box?, *] <;> rfl) ?_))) ?_
    repeat (first | with_reducible refine Qaw ?_ | refine Qay ?_ | refine Qbe ?_ | refine Qbg ?_)
    refine Qdp (hS0.out) ?_
    repeat (first | with_reducible refine Qaw ?_ | refine Qay ?_ | refine Qbe ?_ | refine Qbg ?_)
    refine PJ_bs ?_ rfl (by decide) rfl (by simp; rfl) (by rfl) (by simp; rfl) (by rfl) (by decide) (by decide) (by simp [nev, nevA, nevB, Jp, PF.eval, PF.get, PF.wants, cPV, Qag, PV.rows, Qah, evUn, Jq, Qaj, Qai, Jn, TyK.agg, Qaf, St.box?, St.tok?, St.setBox, St.setTok, Qae, spl, PV.ps, PV.one, Jo, aggD, slD, Jh, Jk, Ji, Jj, Jg, Jf, *]; rfl) (by simp [Qco, toDs, PV.toD]; rfl)
    repeat (first | with_reducible refine Qaw ?_ | refine Qay ?_ | refine Qbe ?_ | refine Qbg ?_)
    refine Qgh rfl (by decide) rfl (by simp; rfl) (fun i hi => by simp only [Ja, Rh, Rg] at hi; (repeat (first | exact Qap _ | refine Ju (by simp [St.box?, *] <;> rfl) ?_))) ?_
    intro i3 hi3
    try simp only [Ja, Rh, Rg, Jb] at hi3
    repeat (first | with_reducible refine Qaw ?_ | refine Qay ?_ | refine Qbe ?_ | refine Qbg ?_)
    refine Qgi rfl rfl (by simp [nev, nevA, nevB, Jp, PF.eval, PF.get, PF.wants, cPV, Qag, PV.rows, Qah, evUn, Jq, Qaj, Qai, Jn, TyK.agg, Qaf, St.box?, St.tok?, St.setBox, St.setTok, Qae, spl, PV.ps, PV.one, Jo, aggD, slD, Jh, Jk, Ji, Jj, Jg, Jf, *]; rfl) (by rfl) (by simp [nev, nevA, nevB, Jp, PF.eval, PF.get, PF.wants, cPV, Qag, PV.rows, Qah, evUn, Jq, Qaj, Qai, Jn, TyK.agg, Qaf, St.box?, St.tok?, St.setBox, St.setTok, Qae, spl, PV.ps, PV.one, Jo, aggD, slD, Jh, Jk, Ji, Jj, Jg, Jf, *]; rfl) (by simp [PV.ps, aggD, slD, Jh, Jk, Ji, Jj, Jg, Jf]; rfl) (by first | rfl | (simp [*]; done) | (simp [PV.one, *]; done) | fail) (by simp; rfl) (by first | (simp; done) | fail) (by simp [nev, nevA, nevB, Jp, PF.eval, PF.get, PF.wants, cPV, Qag, PV.rows, Qah, evUn, Jq, Qaj, Qai, Jn, TyK.agg, Qaf, St.box?, St.tok?, St.setBox, St.setTok, Qae, spl, PV.ps, PV.one, Jo, aggD, slD, Jh, Jk, Ji, Jj, Jg, Jf, *]; rfl) (by rfl) (by first | (simp; done) | fail) (by simp [St.setBox, spl, *]; rfl) (by (repeat (first | exact Qap _ | refine Ju (by simp [St.box?, *] <;> rfl) ?_))) ?_
    repeat (first | with_reducible refine Qaw ?_ | refine Qay ?_ | refine Qbe ?_ | refine Qbg ?_)
    refine go_ ?_
    refine Jc (hR2.out) ?_
    cases r2 with
    | false =>
      refine go_ ?_
      refine Jc (hW.out) ?_
      refine go_ ?_
      refine Jm (by simp) (by simp only [Tryz.results6]; rfl) (by simp [resP, St.box?, PF.get, Jn, TyK.agg, *]; rfl) Nl ?_
      exact ⟨rfl, rfl⟩
    | true =>
      have hz2 := hz rfl
      clear hz
      refine go_ ?_
      refine Jr (hZ.out) ?_
      refine go_ ?_
      refine Jc (hW.out) ?_
      refine go_ ?_
      refine Jm (by simp) (by simp only [Tryz.results6]; rfl) (by simp [resP, St.box?, PF.get, Jn, TyK.agg, *]; rfl) Nl ?_
      exact ⟨rfl, rfl⟩
  have hr2 : r2 = true := by cases r2 <;> simp_all
  have h100 : pndT p ≤ 100 := Decidable.byContradiction fun h => hbad (.inr h)
  subst hr2
  obtain ⟨hL1, hL2, hL3⟩ := HL2.out rfl rfl h100
  have hl1 := Lib.hid hL1
  have hl2 := Lib.hid hL2
  have hl3 := Lib.hid hL3
  have hz2 : ¬ (100 : Int) < min (pndT p : Int) 8193 := by omega
  clear HL2 hL1 hL2 hL3 hbad
  generalize min (pndT p : Int) 8193 = z at *
  refine PCalls.enter Tryz.func6 rfl Tryz.ntmps6 (by simp) ?_
  simp only [Qab]
  refine go_ ?_
  refine Jd ?_
  intro i0 hi0
  try simp only [Ja, Rh, Rg, Jb] at hi0
  refine go_ ?_
  refine Jc (hB.out) ?_
  refine go_ ?_
  refine Qam ?_
  refine go_ ?_
  refine Jc (hO.out) ?_
  refine go_ ?_
  refine Jr (hR1.out) ?_
  refine go_ ?_
  refine Jc (hC0.out) ?_
  refine go_ ?_
  refine Jc (hC3.out) ?_
  refine go_ ?_
  refine Qam ?_
  refine go_ ?_
  refine Jc (hT.out) ?_
  refine go_ ?_
  refine Je ?_
  intro i1 hi1
  try simp only [Ja, Rh, Rg, Jb] at hi1
  refine go_ ?_
  refine Rd ?_
  refine go_ ?_
  refine Jr (hSt.out) ?_
  refine go_ ?_
  refine Qam ?_
  refine go_ ?_
  refine Je ?_
  intro i2 hi2
  try simp only [Ja, Rh, Rg, Jb] at hi2
  refine go_ ?_
  refine Rd ?_
  refine go_ ?_
  refine Qek (J := Qcy [(i2, _)]) [(0, .a), (1, .a), (2, .a), (3, .a), (4, .a), (5, .e), (6, .e)] (by kernel_rfl) (by rfl) (by kernel_rfl) (by (repeat (first | exact Qap _ | refine Ju (by simp [St.box?, *] <;> rfl) ?_))) ?_
  repeat (first | with_reducible refine Qaw ?_ | refine Qay ?_ | refine Qbe ?_ | refine Qbg ?_)
  refine Qdp (hS0.out) ?_
  repeat (first | with_reducible refine Qaw ?_ | refine Qay ?_ | refine Qbe ?_ | refine Qbg ?_)
  refine PJ_bs ?_ rfl (by decide) rfl (by simp; rfl) (by rfl) (by simp; rfl) (by rfl) (by decide) (by decide) (by simp [nev, nevA, nevB, Jp, PF.eval, PF.get, PF.wants, cPV, Qag, PV.rows, Qah, evUn, Jq, Qaj, Qai, Jn, TyK.agg, Qaf, St.box?, St.tok?, St.setBox, St.setTok, Qae, spl, PV.ps, PV.one, Jo, aggD, slD, Jh, Jk, Ji, Jj, Jg, Jf, *]; rfl) (by simp [Qco, toDs, PV.toD]; rfl)
  repeat (first | with_reducible refine Qaw ?_ | refine Qay ?_ | refine Qbe ?_ | refine Qbg ?_)
  refine Qgh rfl (by decide) rfl (by simp; rfl) (fun i hi => by simp only [Ja, Rh, Rg] at hi; (repeat (first | exact Qap _ | refine Ju (by simp [St.box?, *] <;> rfl) ?_))) ?_
  intro i3 hi3
  try simp only [Ja, Rh, Rg, Jb] at hi3
  repeat (first | with_reducible refine Qaw ?_ | refine Qay ?_ | refine Qbe ?_ | refine Qbg ?_)
  refine Qgi rfl rfl (by simp [nev, nevA, nevB, Jp, PF.eval, PF.get, PF.wants, cPV, Qag, PV.rows, Qah, evUn, Jq, Qaj, Qai, Jn, TyK.agg, Qaf, St.box?, St.tok?, St.setBox, St.setTok, Qae, spl, PV.ps, PV.one, Jo, aggD, slD, Jh, Jk, Ji, Jj, Jg, Jf, *]; rfl) (by rfl) (by simp [nev, nevA, nevB, Jp, PF.eval, PF.get, PF.wants, cPV, Qag, PV.rows, Qah, evUn, Jq, Qaj, Qai, Jn, TyK.agg, Qaf, St.box?, St.tok?, St.setBox, St.setTok, Qae, spl, PV.ps, PV.one, Jo, aggD, slD, Jh, Jk, Ji, Jj, Jg, Jf, *]; rfl) (by simp [PV.ps, aggD, slD, Jh, Jk, Ji, Jj, Jg, Jf]; rfl) (by first | rfl | (simp [*]; done) | (simp [PV.one, *]; done) | fail) (by simp; rfl) (by first | (simp; done) | fail) (by simp [nev, nevA, nevB, Jp, PF.eval, PF.get, PF.wants, cPV, Qag, PV.rows, Qah, evUn, Jq, Qaj, Qai, Jn, TyK.agg, Qaf, St.box?, St.tok?, St.setBox, St.setTok, Qae, spl, PV.ps, PV.one, Jo, aggD, slD, Jh, Jk, Ji, Jj, Jg, Jf, *]; rfl) (by rfl) (by first | (simp; done) | fail) (by simp [St.setBox, spl, *]; rfl) (by (repeat (first | exact Qap _ | refine Ju (by simp [St.box?, *] <;> rfl) ?_))) ?_
  repeat (first | with_reducible refine Qaw ?_ | refine Qay ?_ | refine Qbe ?_ | refine Qbg ?_)
  refine go_ ?_
  refine Jc (hR2.out) ?_
  refine go_ ?_
  refine Jr (hZ.out) ?_
  refine go_ ?_
  refine Jc (hl1.out) ?_
  refine go_ ?_
  refine Jr (hl2.out) ?_
  refine go_ ?_
  refine Jr (hl3.out) ?_
  refine go_ ?_
  refine Jr (hW.out) ?_
  refine go_ ?_
  refine Jm (by simp) (by simp only [Tryz.results6]; rfl) (by simp [resP, St.box?, PF.get, Jn, TyK.agg, *]; rfl) Nl ?_
  exact ⟨rfl, rfl⟩
theorem parts_walk (p : Pt) (cs : List Value) (w : World) (h : PtC w p cs) : Calls Tryz.prog 6 #[.agg cs.toArray] w fun e w' => e = .returned (.bool true) ∧ Below w.heap.size w w' := by
 refine PCalls.top ((parts29_p p).mono fun _ _ h => h.1) ?_
 exact Qby (rel_rep (K := K0 w) (fun b o v _ h => ⟨v, h⟩) h) (Qel _ _)
end Go.Proofs.YtdklpbefbamchaaGreat
