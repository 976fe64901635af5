import Derived.Test.YtdklpbefbamchaaGreatBE
import Derived.Test.YtdklpbefbamchaaGreatBS3
import Derived.Test.YtdklpbefbamchaaGreatBE1
import Derived.Test.YtdklpbefbamchaaGreatBE4
import Derived.Test.YtdklpbefbamchaaGreatBS
import Derived.Test.YtdklpbefbamchaaGreatBA5
import Derived.Test.YtdklpbefbamchaaGreatBN
import Derived.Test.YtdklpbefbamchaaGreatT2
import Derived.Deep.RegionHeld3
import Derived.Test.YtdklpbefbamchaaGreatBV
import Derived.Test.YtdklpbefbamchaaGreatBE2
import Derived.Test.YtdklpbefbamchaaGreatBA6
import Derived.Test.YtdklpbefbamchaaGreatBS2
set_option linter.unusedSimpArgs false
set_option linter.unusedVariables false
set_option maxHeartbeats 16000000
set_option maxRecDepth 100000
namespace Go.Proofs.YtdklpbefbamchaaGreat
open Go.RowKit
inductive Pt where
 | mk (kind n at_ : Int) (sub : List Pt) (t : Tm)
theorem Pt.ind {P : Pt → Prop} (h : ∀ k n a sub t, (∀ s ∈ sub, P s) → P (.mk k n a sub t)) : ∀ p, P p := by
 intro p
 exact Pt.rec (motive_1 := P) (motive_2 := fun l => ∀ s ∈ l, P s) (fun k n a sub t ih => h k n a sub t ih) (fun s hs => by cases hs) (fun p ps h1 h2 s hs => by
  cases hs with
  | head => exact h1
  | tail _ hm => exact h2 s hm) p
def Pt.kind : Pt → Int | .mk k _ _ _ _ => k
def Pt.num : Pt → Int | .mk _ n _ _ _ => n
def Pt.at_ : Pt → Int | .mk _ _ a _ _ => a
def Pt.sub : Pt → List Pt | .mk _ _ _ s _ => s
def Pt.t : Pt → Tm | .mk _ _ _ _ t => t
mutual
def ptD : Pt → List Dt
 | .mk k n a sub t => [.v (.int .i64 k), .v (.int .i64 n), .v (.int .i64 a), .s 7 (ptDs sub)] ++ tmD t
def ptDs : List Pt → List (List Dt)
 | [] => []
 | p :: ps => ptD p :: ptDs ps
end
theorem Qix (l : List Pt) : ptDs l = l.map ptD := by
 induction l with
 | nil => rfl
 | cons t ts ih => simp only [ptDs, List.map_cons, ih]
theorem ptD_len (p : Pt) : (ptD p).length = 7 := by cases p; simp only [ptD, List.length_append, tmD_len]; rfl
instance : Enc Pt := ⟨7, ptD, ptD_len⟩
theorem ptD_ok : ∀ (p : Pt), ∀ d ∈ ptD p, DtOk d := by
 refine Pt.ind ?_
 intro k n a sub t ih d hd
 simp only [ptD, List.mem_append, List.mem_cons, List.not_mem_nil, or_false] at hd
 rcases hd with (rfl | rfl | rfl | rfl) | hd
 ·exact .v trivial
 ·exact .v trivial
 ·exact .v trivial
 ·refine .s (by decide) (fun f hf => ?_) fun f hf d hd => ?_
  ·rw [Qix] at hf; obtain ⟨t, _, rfl⟩ := List.mem_map.1 hf; exact ptD_len t
  ·rw [Qix] at hf; obtain ⟨t, ht, rfl⟩ := List.mem_map.1 hf; exact ih t ht d hd
 ·exact tmD_ok t d hd
instance : EncOk Pt := ⟨ptD_ok⟩
@[simp] theorem Qap (p : Pt) : encD p = [.v (.int .i64 p.kind), .v (.int .i64 p.num), .v (.int .i64 p.at_), .sl (p.sub.map encD), .v (.int .i64 p.t.kind), .v (.int .i64 p.t.num), .sl (p.t.sub.map encD)] := by
  cases p with
  | mk k n a sub t =>
    have h := Jl t
    unfold encD at h ⊢
    simp only [Enc.enc] at h ⊢
    simp only [ptD, Qdt, h, dtL, dtD, Qdw, Qix, List.map_map, Pt.kind, Pt.num, Pt.at_, Pt.sub, Pt.t]
    rfl
@[simp] theorem Pt.kind_mk (k n a : Int) (l : List Pt) (t : Tm) : (Pt.mk k n a l t).kind = k := rfl
@[simp] theorem Pt.num_mk (k n a : Int) (l : List Pt) (t : Tm) : (Pt.mk k n a l t).num = n := rfl
@[simp] theorem Pt.at_mk (k n a : Int) (l : List Pt) (t : Tm) : (Pt.mk k n a l t).at_ = a := rfl
@[simp] theorem Pt.sub_mk (k n a : Int) (l : List Pt) (t : Tm) : (Pt.mk k n a l t).sub = l := rfl
@[simp] theorem Pt.t_mk (k n a : Int) (l : List Pt) (t : Tm) : (Pt.mk k n a l t).t = t := rfl
theorem rows7 (l : List Pt) : ∀ row ∈ l.map encD, row.length = 7 := by
 intro row h
 obtain ⟨p, _, rfl⟩ := List.mem_map.1 h
 rw [Qir]; rfl
mutual
def pndT : Pt → Nat
 | .mk _ _ _ sub _ => pndL sub + 1
def pndL : List Pt → Nat
 | [] => 0
 | p :: ps => pndT p + pndL ps
end
theorem pnd_pos (p : Pt) : 1 ≤ pndT p := by cases p; simp only [pndT]; omega
theorem Qgm : ∀ (l : List Pt), l.length ≤ pndL l
 | [] => Nat.le_refl _
 | p :: ps => by have := Qgm ps; have := pnd_pos p; simp only [pndL, List.length_cons]; omega
theorem pnd_mem : ∀ {l : List Pt} (p : Pt), p ∈ l → pndT p ≤ pndL l
  | q :: ps, p, h => by
    simp only [pndL]
    rcases List.mem_cons.1 h with rfl | h
    · omega
    · have := pnd_mem p h; omega
mutual
def pbT : Pt → Int → Pt × Int
 | .mk k n a sub t, l => (.mk k n a (pbL sub (l - 1)).1 t, (pbL sub (l - 1)).2)
def pbL : List Pt → Int → List Pt × Int
 | [], l => ([], l)
 | p :: ps, l => if -9000 < l then ((pbT p l).1 :: (pbL ps (pbT p l).2).1, (pbL ps (pbT p l).2).2) else ([], l)
end
theorem Qgl : ∀ (p : Pt) (l : Int), (pbT p l).2 ≤ l - 1 ∧ (-9000 < (pbT p l).2 → (pbT p l).1 = p ∧ (pbT p l).2 = l - pndT p) := by
  refine Pt.ind ?_
  intro k n a sub t ih l
  have : ∀ (ls : List Pt), (∀ s ∈ ls, ∀ (l : Int), (pbT s l).2 ≤ l - 1 ∧ (-9000 < (pbT s l).2 → (pbT s l).1 = s ∧ (pbT s l).2 = l - pndT s)) → ∀ l : Int, (pbL ls l).2 ≤ l ∧ (-9000 < (pbL ls l).2 → (pbL ls l).1 = ls ∧ (pbL ls l).2 = l - pndL ls) := by
    intro ls
    induction ls with
    | nil => intro _ l; simp only [pbL, pndL]; exact ⟨by omega, fun _ => ⟨trivial, by omega⟩⟩
    | cons t ts iht =>
      intro hl l
      simp only [pbL, pndL]
      by_cases h9 : -9000 < l
      · rw [if_pos h9]
        obtain ⟨h1, h3⟩ := hl t (by simp) l
        obtain ⟨h4, h6⟩ := iht (fun s hs => hl s (by simp [hs])) (pbT t l).2
        refine ⟨by simp only; omega, fun h => ?_⟩
        simp only at h ⊢
        obtain ⟨h7, h8⟩ := h6 h
        obtain ⟨h10, h11⟩ := h3 (by omega)
        exact ⟨by rw [h10, h7], by omega⟩
      · rw [if_neg h9]
        refine ⟨by simp only; omega, fun h => ?_⟩
        simp only at h
        exact absurd h h9
  obtain ⟨h1, h3⟩ := this sub ih (l - 1)
  simp only [pbT, pndT]
  refine ⟨by omega, fun h => ?_⟩
  obtain ⟨h4, h5⟩ := h3 h
  exact ⟨by rw [h4], by omega⟩
theorem pbL_facts : ∀ (ls : List Pt) (l : Int), (pbL ls l).2 ≤ l ∧ (-9000 < (pbL ls l).2 → (pbL ls l).1 = ls ∧ (pbL ls l).2 = l - pndL ls)
  | [], l => by simp only [pbL, pndL]; exact ⟨by omega, fun _ => ⟨trivial, by omega⟩⟩
  | t :: ts, l => by
    simp only [pbL, pndL]
    by_cases h9 : -9000 < l
    · rw [if_pos h9]
      obtain ⟨h1, h3⟩ := Qgl t l
      obtain ⟨h4, h6⟩ := pbL_facts ts (pbT t l).2
      refine ⟨by simp only; omega, fun h => ?_⟩
      simp only at h ⊢
      obtain ⟨h7, h8⟩ := h6 h
      obtain ⟨h10, h11⟩ := h3 (by omega)
      exact ⟨by rw [h10, h7], by omega⟩
    · rw [if_neg h9]
      refine ⟨by simp only; omega, fun h => ?_⟩
      simp only at h
      exact absurd h h9
theorem pb_lo : ∀ (t : Pt) (l : Int), -9000 < l → -9000 ≤ (pbT t l).2 := by
  refine Pt.ind ?_
  intro k n a sub t ih l hl
  have : ∀ (ls : List Pt), (∀ s ∈ ls, ∀ l, -9000 < l → -9000 ≤ (pbT s l).2) → ∀ l, -9000 ≤ l → -9000 ≤ (pbL ls l).2 := by
    intro ls
    induction ls with
    | nil => intro _ l h; simp only [pbL]; exact h
    | cons t ts iht =>
      intro hs l h
      simp only [pbL]
      split
      · rename_i h9
        exact iht (fun s h => hs s (by simp [h])) _ (hs t (by simp) l h9)
      · exact h
  simp only [pbT]
  exact this sub ih (l - 1) (by omega)
theorem pbL_count : ∀ (ls : List Pt) (l : Int), ((pbL ls l).1.length : Int) ≤ max 0 (l + 9000)
  | [], l => by simp only [pbL, List.length_nil]; omega
  | t :: ts, l => by
    have h1 := pbL_count ts (pbT t l).2
    have h2 := (Qgl t l).1
    simp only [pbL]
    split
    · simp only [List.length_cons]; omega
    · simp only [List.length_nil]; omega
mutual
def phgT : Pt → Nat
 | .mk _ _ _ sub _ => phgL sub + 1
def phgL : List Pt → Nat
 | [] => 0
 | p :: ps => max (phgT p) (phgL ps)
end
theorem phg_pos (p : Pt) : 1 ≤ phgT p := by cases p; simp only [phgT]; omega
theorem phgL_append (a b : List Pt) : phgL (a ++ b) = max (phgL a) (phgL b) := by
 induction a with
 | nil => simp only [List.nil_append, phgL]; omega
 | cons p ps ih => simp only [List.cons_append, phgL, ih]; omega
theorem Qfe (a b : List Pt) : pndL (a ++ b) = pndL a + pndL b := by
 induction a with
 | nil => simp only [List.nil_append, pndL]; omega
 | cons p ps ih => simp only [List.cons_append, pndL, ih]; omega
theorem pnd_sub (p : Pt) : pndT p = pndL p.sub + 1 := by cases p; simp only [pndT, Pt.sub]
theorem phg_sub (p : Pt) : phgT p = phgL p.sub + 1 := by cases p; simp only [phgT, Pt.sub]
def arN (l : List En) (c : Int) : Int :=
 if isE l c 2 = true then (match l[c.toNat]? with | some x => ((Qat x.ty).length : Int) - x.pars | none => -1) else -1
mutual
def pgT (l : List En) : Pt → Bool
  | .mk k n _ sub t =>
    if k = 1 then decide (0 ≤ n) && (decide (n ≤ 1048576) && (((sub.length : Int) == 0) && Qbp t))
    else if k = 3 then (n == 0) && (((sub.length : Int) == 0) && Qai t)
    else if k = 4 then (n == 0) && (((sub.length : Int) == 0) && Qbp t)
    else if k = 2 then (arN l n == (sub.length : Int)) && (Qbp t && pgL l sub)
    else false
def pgL (l : List En) : List Pt → Bool
 | [] => true
 | p :: ps => pgT l p && pgL l ps
end
theorem pgL_mem {l : List En} : ∀ {r : List Pt}, pgL l r = true → ∀ s ∈ r, pgT l s = true := by
  intro r
  induction r with
  | nil => intro _ s h; cases h
  | cons p ps ih =>
    intro h s hs
    simp only [pgL, Bool.and_eq_true] at h
    rcases List.mem_cons.1 hs with rfl | hs
    · exact h.1
    · exact ih h.2 s hs
theorem pgL_all (l : List En) : ∀ r : List Pt, pgL l r = r.all (pgT l)
 | [] => rfl
 | p :: ps => by simp only [pgL, List.all_cons, pgL_all l ps]
noncomputable def pRight (l : List En) (p : Pt) : Bool := formedB l && (decide (phgT p ≤ 128) && pgT l p)
theorem arN_no {l : List En} {c : Int} (h : isE l c 2 = false) : arN l c = -1 := by unfold arN; rw [h]; rfl
theorem arN_at {l : List En} {i : Nat} {x : En} (hx : l[i]? = some x) (hk : x.kind = 2) : arN l i = ((Qat x.ty).length : Int) - x.pars := by
 unfold arN
 rw [if_pos (by rw [is_at hx, hk]; rfl), Int.toNat_natCast, hx]
theorem arN_is {l : List En} {c : Int} (h : 0 ≤ arN l c) : isE l c 2 = true := by
 cases hi : isE l c 2 with
 | true => rfl
 | false => rw [arN_no hi] at h; omega
theorem arN_get {l : List En} {c : Int} (h : 0 ≤ arN l c) : ∃ (i : Nat) (x : En), c = i ∧ i < l.length ∧ l[i]? = some x ∧ x.kind = 2 := by
 obtain ⟨i, rfl, hlt, hk⟩ := Qei (arN_is h)
 exact ⟨i, l[i], rfl, hlt, List.getElem?_eq_getElem hlt, hk⟩
def parN (l : List En) (c : Int) : Nat := (Qhm l c).toNat
theorem parN_at {l : List En} {i : Nat} {x : En} (hF : formedB l = true) (hx : l[i]? = some x) (hk : x.kind = 2) : x.pars = parN l i ∧ parN l i ≤ 24 ∧ arN l i = ((Qat x.ty).length : Int) - parN l i ∧ parN l i ≤ (Qat x.ty).length ∧ (Qat x.ty).length ≤ 24 := by
 obtain ⟨q, m, d, hq, hqi, hd, hdk, hm, hdm, hm1, hn0, hn1, hs, h24, hmt, -⟩ := Qjf hF hx hk
 have e : parN l i = m := by unfold parN Qhm; rw [Int.toNat_natCast, hx]; simp only [hm]; omega
 rw [e]
 exact ⟨hm, hm1, by rw [arN_at hx hk, hm], hmt, h24⟩
mutual
def bldT (l : List En) (pars : List Tm) : Pt → Option Tm
 | .mk k n _ sub _ => if k = 1 then some (.mk 8 n []) else if k = 2 then (bldL l pars sub).map fun ts => Qba (Qba (.mk 6 n []) (pars.take (parN l n))) ts else none
def bldL (l : List En) (pars : List Tm) : List Pt → Option (List Tm)
  | [] => some []
  | p :: ps => match bldT l pars p with
    | none => none
    | some t => (bldL l pars ps).map fun ts => t :: ts
end
theorem bld_var {l : List En} {pars : List Tm} {n a : Int} {sub : List Pt} {t : Tm} : bldT l pars (.mk 1 n a sub t) = some (.mk 8 n []) := by simp only [bldT]; rfl
theorem bld_con {l : List En} {pars : List Tm} {n a : Int} {sub : List Pt} {t : Tm} : bldT l pars (.mk 2 n a sub t) = (bldL l pars sub).map fun ts => Qba (Qba (.mk 6 n []) (pars.take (parN l n))) ts := by simp only [bldT]; rfl
theorem bld_no {l : List En} {pars : List Tm} {k n a : Int} {sub : List Pt} {t : Tm} (h1 : k ≠ 1) (h2 : k ≠ 2) : bldT l pars (.mk k n a sub t) = none := by simp only [bldT]; rw [if_neg h1, if_neg h2]
theorem bldL_len {l : List En} {pars : List Tm} : ∀ {ps : List Pt} {ts : List Tm}, bldL l pars ps = some ts → ts.length = ps.length := by
  intro ps
  induction ps with
  | nil => intro ts h; simp only [bldL, Option.some.injEq] at h; subst h; rfl
  | cons p ps ih =>
    intro ts h
    simp only [bldL] at h
    cases hp : bldT l pars p with
    | none => rw [hp] at h; cases h
    | some t =>
      rw [hp] at h
      simp only [Option.map_eq_some_iff] at h
      obtain ⟨r, hr, rfl⟩ := h
      rw [List.length_cons, List.length_cons, ih hr]
structure Ak where
 no : Bool
 stuck : Bool
 vars : List Int
 terms : List Tm
def Qfw (l : List En) (t : Tm) : Bool := ((Qbo t).kind == 6) && (decide (0 ≤ arN l (Qbo t).num) && (((Qbr t).length : Int) == (parN l (Qbo t).num : Int) + arN l (Qbo t).num))
mutual
def akT (l : List En) : Pt → Tm → Ak → Ak
  | .mk k n _ sub _, t, σ =>
    if (σ.no || (σ.stuck || (k == 3))) = true then σ
    else if k = 1 then ⟨σ.no, σ.stuck, σ.vars ++ [n], σ.terms ++ [Qel t]⟩
    else if k = 4 then ⟨true, σ.stuck, σ.vars, σ.terms⟩
    else if Qfw l t = true then (if (Qbo t).num = n then akL l sub ((Qbr t).drop (parN l n)) σ else ⟨true, σ.stuck, σ.vars, σ.terms⟩)
    else ⟨σ.no, true, σ.vars, σ.terms⟩
def akL (l : List En) : List Pt → List Tm → Ak → Ak
 | [], _, σ => σ
 | _ :: _, [], σ => σ
 | p :: ps, t :: ts, σ => akL l ps ts (akT l p t σ)
end
mutual
def pvT : Pt → List Int
 | .mk k n _ sub _ => if k = 1 then [n] else pvL sub
def pvL : List Pt → List Int
 | [] => []
 | p :: ps => pvT p ++ pvL ps
end
mutual
def chT (vs : List Tm) : Tm → Tm
 | .mk k n sub => if k = 8 ∧ n < vs.length then (vs[n.toNat]?).getD (.mk 0 0 []) else .mk k n (chL vs sub)
def chL (vs : List Tm) : List Tm → List Tm
 | [] => []
 | t :: ts => chT vs t :: chL vs ts
end
theorem chL_map (vs : List Tm) : ∀ l : List Tm, chL vs l = l.map (chT vs)
 | [] => rfl
 | t :: ts => by simp only [chL, List.map_cons, chL_map vs ts]
theorem ch_not {vs : List Tm} {k n : Int} {sub : List Tm} (h : k ≠ 8) : chT vs (.mk k n sub) = .mk k n (sub.map (chT vs)) := by simp only [chT, chL_map]; rw [if_neg (fun h' => h h'.1)]
theorem ch_var {vs : List Tm} {n : Int} {sub : List Tm} (h : n < vs.length) : chT vs (.mk 8 n sub) = (vs[n.toNat]?).getD (.mk 0 0 []) := by simp only [chT]; rw [if_pos ⟨trivial, h⟩]
theorem ch_apply (vs : List Tm) (h : Tm) (l : List Tm) : chT vs (Qba h l) = Qba (chT vs h) (l.map (chT vs)) := by
 induction l generalizing h with
 | nil => rfl
 | cons a l ih => simp only [Qba, List.map_cons]; rw [ih, ch_not (by decide)]; rfl
theorem app_shaped {f a : Tm} {n : Int} (h : Qai (.mk 5 n [f, a]) = true) : Qai f = true ∧ Qai a = true := by
 obtain ⟨h1, h2, h3⟩ := Qbd h
 have hg := (Qcs h1).2
 simp only [chgT, chgL, cndT, cndL] at h2 h3
 exact ⟨Qgz (hg f (by simp)) (by omega) (by omega), Qgz (hg a (by simp)) (by omega) (by omega)⟩
theorem Qjo : ∀ (m : Nat) (t : Tm), cndT t ≤ m → Qai t = true → ∀ a ∈ Qbr t, Qai a = true := by
  intro m
  induction m with
  | zero => intro t h; have := Qeo t; omega
  | succ m ih =>
    intro t h hs a ha
    by_cases h5 : t.kind = 5
    · obtain ⟨f, b, rfl, -, -⟩ := Qhj (Qbd hs).1 h5
      rw [Qex] at h
      have hb := Qeo b
      rw [(Qhr 0 f b).2] at ha
      rcases List.mem_append.1 ha with ha | ha
      · exact ih f (by omega) (app_shaped hs).1 a ha
      · rw [List.mem_singleton] at ha; subst ha; exact (app_shaped hs).2
    · rw [(Qfs h5).2] at ha; cases ha
theorem spine_ap {h : Tm} (hk : h.kind ≠ 5) (l : List Tm) : Qbo (Qba h l) = h ∧ Qbr (Qba h l) = l := by
 rcases Qfu l with rfl | ⟨m, a, rfl⟩
 ·exact Qfs hk
 ·rw [Qef]
  have := spine_ap hk m
  obtain ⟨e1, e2⟩ := Qhr 0 (Qba h m) a
  rw [e1, e2, this.1, this.2]; exact ⟨rfl, rfl⟩
termination_by l.length
decreasing_by rename_i h; subst h; simp
theorem pg_con {l : List En} {n a : Int} {sub : List Pt} {d : Tm} (h : pgT l (.mk 2 n a sub d) = true) : arN l n = (sub.length : Int) ∧ Qbp d = true ∧ ∀ s ∈ sub, pgT l s = true := by
 simp only [pgT] at h
 rw [if_neg (by decide), if_neg (by decide), if_neg (by decide), if_pos (by trivial)] at h
 simp only [Bool.and_eq_true, beq_iff_eq] at h
 exact ⟨h.1, h.2.1, pgL_mem h.2.2⟩
theorem pg_var {l : List En} {n a : Int} {sub : List Pt} {d : Tm} (h : pgT l (.mk 1 n a sub d) = true) : 0 ≤ n ∧ n ≤ 1048576 ∧ sub = [] ∧ Qbp d = true := by
 simp only [pgT] at h
 rw [if_pos (by trivial)] at h
 simp only [Bool.and_eq_true, beq_iff_eq, decide_eq_true_eq] at h
 exact ⟨h.1, h.2.1, List.eq_nil_of_length_eq_zero (by omega), h.2.2.2⟩
def vaT (vs : List Tm) (n : Int) : Tm := (vs[n.toNat]?).getD (.mk 0 0 [])
theorem full_ap {l : List En} {n : Int} {us : List Tm} (h0 : 0 ≤ arN l n) (hl : (us.length : Int) = parN l n + arN l n) : Qfw l (Qba (.mk 6 n []) us) = true ∧ (Qbo (Qba (.mk 6 n []) us)).num = n ∧ Qbr (Qba (.mk 6 n []) us) = us := by
 obtain ⟨e1, e2⟩ := spine_ap (h := .mk 6 n []) (show (6 : Int) ≠ 5 by decide) us
 unfold Qfw
 rw [e1, e2]
 refine ⟨?_, rfl, rfl⟩
 simp only [Tm.kind_mk, Tm.num_mk, BEq.rfl, Bool.true_and, hl, Bool.and_true]
 exact decide_eq_true h0
theorem back_law {l : List En} {pars vs : List Tm} (hp : ∀ c : Int, parN l c ≤ pars.length) (hvs : ∀ v ∈ vs, Qai v = true) : ∀ (p : Pt) (t : Tm) (σ : Ak), pgT l p = true → bldT l pars p = some t → (∀ n ∈ pvT p, n < vs.length) → Qai (chT vs t) = true → σ.no = false → σ.stuck = false →
    akT l p (chT vs t) σ = ⟨false, false, σ.vars ++ pvT p, σ.terms ++ (pvT p).map (vaT vs)⟩ := by
  refine Pt.ind ?_
  intro k n a sub d ih t σ gp hb hv hs h1 h2
  by_cases k1 : k = 1
  · subst k1
    rw [bld_var, Option.some.injEq] at hb
    subst hb
    obtain ⟨n0, -, -, -⟩ := pg_var gp
    have hn : n < vs.length := hv n (by simp only [pvT]; rw [if_pos (by trivial)]; simp)
    rw [ch_var hn]
    have hsh : Qai ((vs[n.toNat]?).getD (.mk 0 0 [])) = true := by
      rw [List.getElem?_eq_getElem (by omega)]
      exact hvs _ (List.getElem_mem _)
    simp only [akT, pvT]
    rw [h1, h2, if_neg (by decide), if_pos (by trivial), if_pos (by trivial)]
    simp only [List.map_cons, List.map_nil, vaT]
    unfold Qel
    rw [if_pos hsh]
  · by_cases k2 : k = 2
    · subst k2
      obtain ⟨har, -, hsg⟩ := pg_con gp
      rw [bld_con, Option.map_eq_some_iff] at hb
      obtain ⟨ts, hts, rfl⟩ := hb
      rw [← Qfi, ch_apply, ch_not (by decide), List.map_nil] at hs ⊢
      have hpl : (pars.take (parN l n)).length = parN l n := by rw [List.length_take]; have := hp n; omega
      have htl := bldL_len hts
      obtain ⟨f1, f2, f3⟩ := full_ap (l := l) (n := n) (us := (pars.take (parN l n) ++ ts).map (chT vs)) (by omega) (by rw [List.length_map, List.length_append, hpl, har]; omega)
      have hsa := Qjo _ _ (Nat.le_refl _) hs
      rw [f3] at hsa
      simp only [akT, pvT]
      rw [h1, h2, if_neg (by decide), if_neg (by decide), if_neg (by decide), if_pos f1, if_pos f2, if_neg (by decide), f3, List.map_append, List.drop_left' (by rw [List.length_map, hpl])]
      have hsts : ∀ u ∈ ts, Qai (chT vs u) = true := fun u hu => hsa _ (List.mem_map_of_mem (List.mem_append_right _ hu))
      have hvv : ∀ m ∈ pvL sub, m < vs.length := fun m hm => hv m (by simp only [pvT]; rw [if_neg (by decide)]; exact hm)
      clear f1 f2 f3 hs hsa hv har gp
      have key : ∀ (ss : List Pt) (us : List Tm) (τ : Ak), (∀ s ∈ ss, s ∈ sub) → bldL l pars ss = some us → (∀ m ∈ pvL ss, m < vs.length) → (∀ u ∈ us, Qai (chT vs u) = true) → τ.no = false → τ.stuck = false → akL l ss (us.map (chT vs)) τ = ⟨false, false, τ.vars ++ pvL ss, τ.terms ++ (pvL ss).map (vaT vs)⟩ := by
        intro ss
        induction ss with
        | nil =>
          intro us τ _ hb _ _ t1 t2
          simp only [bldL, Option.some.injEq] at hb
          subst hb
          simp only [List.map_nil, akL, pvL, List.append_nil]
          cases τ; simp only at t1 t2; subst t1 t2; rfl
        | cons s ss ihs =>
          intro us τ hm hb hv hu t1 t2
          simp only [bldL] at hb
          cases hbs : bldT l pars s with
          | none => rw [hbs] at hb; cases hb
          | some u =>
            rw [hbs] at hb
            simp only [Option.map_eq_some_iff] at hb
            obtain ⟨r, hr, rfl⟩ := hb
            simp only [List.map_cons, akL]
            have hv1 : ∀ m ∈ pvT s, m < vs.length := fun m hm => hv m (by simp only [pvL]; exact List.mem_append_left _ hm)
            have hv2 : ∀ m ∈ pvL ss, m < vs.length := fun m hm => hv m (by simp only [pvL]; exact List.mem_append_right _ hm)
            rw [ih s (hm s (by simp)) u τ (hsg s (hm s (by simp))) hbs hv1 (hu u (by simp)) t1 t2, ihs r _ (fun q hq => hm q (by simp [hq])) hr hv2 (fun q hq => hu q (by simp [hq])) rfl rfl]
            simp only [pvL, List.map_append, List.append_assoc]
      exact key sub ts σ (fun s h => h) hts hvv hsts h1 h2
    · rw [bld_no k1 k2] at hb; cases hb
theorem other_law {l : List En} {pars vs : List Tm} (hp : ∀ c : Int, parN l c ≤ pars.length) {n m a b : Int} {sub s2 : List Pt} {d e t : Tm} {σ : Ak} (gp : pgT l (.mk 2 n a sub d) = true) (hb : bldT l pars (.mk 2 n a sub d) = some t) (hnm : n ≠ m) (h1 : σ.no = false) (h2 : σ.stuck = false) :
  akT l (.mk 2 m b s2 e) (chT vs t) σ = ⟨true, false, σ.vars, σ.terms⟩ := by
 obtain ⟨har, -, hsg⟩ := pg_con gp
 rw [bld_con, Option.map_eq_some_iff] at hb
 obtain ⟨ts, hts, rfl⟩ := hb
 rw [← Qfi, ch_apply, ch_not (by decide), List.map_nil]
 have hpl : (pars.take (parN l n)).length = parN l n := by rw [List.length_take]; have := hp n; omega
 have htl := bldL_len hts
 obtain ⟨f1, f2, f3⟩ := full_ap (l := l) (n := n) (us := (pars.take (parN l n) ++ ts).map (chT vs)) (by omega) (by rw [List.length_map, List.length_append, hpl, har]; omega)
 simp only [akT]
 rw [h1, h2, if_neg (by decide), if_neg (by decide), if_neg (by decide), if_pos f1, if_neg (by rw [f2]; exact hnm)]
structure Rs where
 names : List ByteArray
 e : Int
 at_ : Int
def Rs.fail (σ : Rs) (e a : Int) : Rs := if σ.e = 0 then ⟨σ.names, e, a⟩ else σ
def zTm : Tm := .mk 0 0 []
def upto (a n : Nat) : List Int := (List.range n).map fun i => ((a + i : Nat) : Int)
structure RdOk (l : List En) (p : Pt) (σ τ : Rs) (nd hg : Nat) : Prop where
 good : pgT l p = true
 num : ∃ m, τ.names.length = σ.names.length + m ∧ m ≤ nd ∧ pvT p = upto σ.names.length m
 nd : pndT p ≤ nd
 hg : phgT p ≤ hg
structure RdsOk (l : List En) (p : List Pt) (σ τ : Rs) (nd hg : Nat) : Prop where
 good : pgL l p = true
 num : ∃ m, τ.names.length = σ.names.length + m ∧ m ≤ nd ∧ pvL p = upto σ.names.length m
 nd : pndL p ≤ nd
 hg : phgL p ≤ hg
theorem tmConst_p (n : Int) : PCalls Tryz.prog 117 [.d (.v (.int .i64 n))] [] fun p s => p = aggD (Tm.mk 6 n []) ∧ s = [] := by
 have hc := Lib.hid (tnode_p 6 n [])
 simp only [aggD, Jl, List.map_cons, List.map_nil, Tm.kind_mk, Tm.num_mk, Tm.sub_mk] at hc ⊢
 refine PCalls.enter Tryz.func117 rfl Tryz.ntmps117 (by simp) ?_
 simp only [Qab]
 refine go_ ?_
 refine Je ?_
 intro i0 hi0
 refine go_ ?_
 refine Jc (hc.out) ?_
 refine go_ ?_
 refine Rd ?_
 refine go_ ?_
 refine Jm (by simp) (by simp only [Tryz.results117]; rfl) (by simp [resP, St.box?, PF.get, Jn, TyK.agg, *]; rfl) Nl ?_
 exact ⟨by simp [tupP, PV.norm2, PV.norm1, PV.norm0], rfl⟩
theorem tmFree_p (n : Int) : PCalls Tryz.prog 116 [.d (.v (.int .i64 n))] [] fun p s => p = aggD (Tm.mk 8 n []) ∧ s = [] := by
 have hc := Lib.hid (tnode_p 8 n [])
 simp only [aggD, Jl, List.map_cons, List.map_nil, Tm.kind_mk, Tm.num_mk, Tm.sub_mk] at hc ⊢
 refine PCalls.enter Tryz.func116 rfl Tryz.ntmps116 (by simp) ?_
 simp only [Qab]
 refine go_ ?_
 refine Je ?_
 intro i0 hi0
 refine go_ ?_
 refine Jc (hc.out) ?_
 refine go_ ?_
 refine Rd ?_
 refine go_ ?_
 refine Jm (by simp) (by simp only [Tryz.results116]; rfl) (by simp [resP, St.box?, PF.get, Jn, TyK.agg, *]; rfl) Nl ?_
 exact ⟨by simp [tupP, PV.norm2, PV.norm1, PV.norm0], rfl⟩
theorem tmPi_p (a b : Tm) : PCalls Tryz.prog 162 [aggD a, aggD b] [] fun p s => p = aggD (Tm.mk 3 0 [a, b]) ∧ s = [] := by
 have hc := Lib.hid (tnode_p 3 0 [a, b])
 simp only [aggD, Jl, List.map_cons, List.map_nil, Tm.kind_mk, Tm.num_mk, Tm.sub_mk] at hc ⊢
 refine PCalls.enter Tryz.func162 rfl Tryz.ntmps162 (by simp) ?_
 simp only [Qab]
 refine go_ ?_
 refine Jd ?_
 intro i2 hi2
 try simp only [Ja, Rh, Rg, Jb] at hi2
 refine go_ ?_
 refine Jd ?_
 intro i3 hi3
 try simp only [Ja, Rh, Rg, Jb] at hi3
 refine go_ ?_
 refine Je ?_
 intro i4 hi4
 try simp only [Ja, Rh, Rg, Jb] at hi4
 refine go_ ?_
 refine Qao ?_
 refine go_ ?_
 refine Jc (hc.out) ?_
 refine go_ ?_
 refine Rd ?_
 refine go_ ?_
 refine Jm (by simp) (by simp only [Tryz.results162]; rfl) (by simp [resP, St.box?, PF.get, Jn, TyK.agg, *]; rfl) Nl ?_
 exact ⟨by simp [tupP, PV.norm2, PV.norm1, PV.norm0], rfl⟩
theorem tmApp_p (a b : Tm) : PCalls Tryz.prog 118 [aggD a, aggD b] [] fun p s => p = aggD (Tm.mk 5 0 [a, b]) ∧ s = [] := by
 have hc := Lib.hid (tnode_p 5 0 [a, b])
 simp only [aggD, Jl, List.map_cons, List.map_nil, Tm.kind_mk, Tm.num_mk, Tm.sub_mk] at hc ⊢
 refine PCalls.enter Tryz.func118 rfl Tryz.ntmps118 (by simp) ?_
 simp only [Qab]
 refine go_ ?_
 refine Jd ?_
 intro i2 hi2
 try simp only [Ja, Rh, Rg, Jb] at hi2
 refine go_ ?_
 refine Jd ?_
 intro i3 hi3
 try simp only [Ja, Rh, Rg, Jb] at hi3
 refine go_ ?_
 refine Je ?_
 intro i4 hi4
 try simp only [Ja, Rh, Rg, Jb] at hi4
 refine go_ ?_
 refine Qao ?_
 refine go_ ?_
 refine Jc (hc.out) ?_
 refine go_ ?_
 refine Rd ?_
 refine go_ ?_
 refine Jm (by simp) (by simp only [Tryz.results118]; rfl) (by simp [resP, St.box?, PF.get, Jn, TyK.agg, *]; rfl) Nl ?_
 exact ⟨by simp [tupP, PV.norm2, PV.norm1, PV.norm0], rfl⟩
end Go.Proofs.YtdklpbefbamchaaGreat
namespace Go.Proofs.YtdklpbefbamchaaGreat
open Go.RowKit Go.WideMaps
def plI : Option Nat → Int
 | some i => i
 | none => -1
def ixQ (pr : Pt → Bool) : List Pt → Nat → Option Nat
 | [], _ => none
 | y :: r, i => if pr y = true then some i else ixQ pr r (i + 1)
theorem ixQ_some (pr : Pt → Bool) : ∀ (l : List Pt) (i : Nat), (ixQ pr l i).isSome = l.any pr := by
  intro l
  induction l with
  | nil => intro i; rfl
  | cons y r ih =>
    intro i
    rw [ixQ, List.any_cons]
    cases pr y with
    | true => simp
    | false => simp [ih]
theorem ixq_p (c : List Pt) (f : FuncId) (cap : List PV) (st0 : St) (pr : Pt → Bool) (hca : Qbl Tryz.prog f = true) (hcap : cap.map PV.norm1 = cap) (h : ∀ v ∈ c, PCalls Tryz.prog f (aggD v :: cap) st0 fun p s => p = .d (.v (.bool (pr v))) ∧ s = st0) :
    PCalls Tryz.prog 194 [.d (.sl (c.map encD)), .fn (.func f) [] cap] st0 fun p s => p = .d (.v (.int .i64 (plI (ixQ pr c 0)))) ∧ s = st0 := by
  obtain ⟨R, hR⟩ : ∃ R, R = ixQ pr c 0 := ⟨_, rfl⟩
  rw [← hR]
  have HR : Hid (R = ixQ pr (c.drop 0) 0) := hR
  have HC := Lib.hid h
  have HCA := Lib.hid hca
  have HCP := Lib.hid hcap
  clear hR h hca hcap
  refine PCalls.enter Tryz.func194 rfl Tryz.ntmps194 (by simp) ?_
  simp only [Qab]
  refine Qea (t := 0) (rows := c.map encD) (by simp [PF.get] <;> rfl) rfl fun hml => ?_
  rw [List.length_map] at hml
  unfold maxLen at hml
  refine go_ ?_
  refine Qak (ι := Nat) (fun y => y ≤ c.length ∧ Hid (R = ixQ pr (c.drop y) y)) (fun y => [(0, .d (.sl (c.map encD))), (1, .fn (.func f) [] cap), (7, .d (.v (.int .i64 c.length))), (8, .d (.v (.int .i64 (y : Int))))]) (fun _ => st0) (fun y => c.length - y) 0 ⟨Nat.zero_le _, HR.out⟩ ?_ ?_ ?_
  · repeat (first | exact Jt _ | refine Js (by simp [PF.get]; rfl) (by first | rfl | (simp [*]; done) | fail) ?_)
  · exact List.Sublist.refl _
  · rintro j ⟨hj, hR⟩
    clear HR
    by_cases hlt : j < c.length
    · have hx := Qal hlt
      have hc : (j : Int) < c.length := by omega
      have hn : (0 : Int) ≤ j := by omega
      have hin := wr64 (n := (j : Int) + 1) (by omega) (by omega)
      have hR2 : Hid (R = if pr c[j] = true then some j else ixQ pr (c.drop (j + 1)) (j + 1)) := by
        rw [show R = _ from hR.out, List.drop_eq_getElem_cons hlt]; rfl
      have hc1 := Lib.hid (HC.out _ (List.getElem_mem hlt))
      simp only [aggD, Qap, List.map_cons, List.map_nil] at hc1
      clear hR
      generalize pr c[j] = q at *
      refine go_ ?_
      refine POps_callC 0 st0.length hc1.out (L := []) (M := []) ?_ HCA.out (hL := rfl) (h0 := by simp) (hM := by simp) (hn := by simp [PV.norm1, PV.norm0, HCP.out])
      rintro p s ⟨rfl, rfl⟩
      simp only [List.nil_append, List.append_nil]
      cases q with
      | true =>
        have hf : Hid (R = some j) := by show _ = _; rw [show R = _ from hR2.out]; rfl
        clear hR2
        refine go_ ?_
        refine Jm (st' := s) (by simp) (by simp only [Tryz.results194]; rfl) (by simp [resP, St.box?, PF.get, Jn, TyK.agg, *]; rfl) (by repeat (first | exact List.Sublist.refl _ | exact List.nil_sublist _ | refine List.Sublist.cons_cons _ ?_ | refine List.Sublist.cons _ ?_)) ?_
        exact ⟨by rw [hf.out]; rfl, rfl⟩
      | false =>
        have hR3 : Hid (R = ixQ pr (c.drop (j + 1)) (j + 1)) := by show _ = _; rw [show R = _ from hR2.out]; rfl
        clear hR2
        refine go_ ?_
        exact ⟨j + 1, ⟨hlt, hR3⟩, by omega, by repeat (first | exact Jt _ | refine Js (by simp [PF.get]; rfl) (by first | rfl | (simp [*]; done) | fail) ?_), List.Sublist.refl _⟩
    · have hc : ¬ (j : Int) < c.length := by omega
      have hf : Hid (R = none) := by rw [show R = _ from hR.out, List.drop_of_length_le (by omega)]; rfl
      refine go_ ?_
      refine Jm (st' := st0) (by simp) (by simp only [Tryz.results194]; rfl) (by simp [resP, St.box?, PF.get, Jn, TyK.agg, *]; rfl) (by repeat (first | exact List.Sublist.refl _ | exact List.nil_sublist _ | refine List.Sublist.cons_cons _ ?_ | refine List.Sublist.cons _ ?_)) ?_
      exact ⟨by rw [hf.out]; rfl, rfl⟩
theorem ctq_p (c : List Pt) (f : FuncId) (cap : List PV) (st0 : St) (pr : Pt → Bool) (hca : Qbl Tryz.prog f = true) (hcap : cap.map PV.norm1 = cap) (h : ∀ v ∈ c, PCalls Tryz.prog f (aggD v :: cap) st0 fun p s => p = .d (.v (.bool (pr v))) ∧ s = st0) :
    PCalls Tryz.prog 135 [.d (.sl (c.map encD)), .fn (.func f) [] cap] st0 fun p s => p = .d (.v (.bool (c.any pr))) ∧ s = st0 := by
  have hc := Lib.hid (ixq_p c f cap st0 pr hca hcap h)
  rw [← ixQ_some pr c 0]
  clear h hca hcap
  generalize ixQ pr c 0 = o at *
  cases o with
  | some i =>
    have hi : (0 : Int) ≤ (i : Int) := by omega
    simp only [plI] at hc
    refine PCalls.enter Tryz.func135 rfl Tryz.ntmps135 (by simp) ?_
    simp only [Qab]
    refine go_ ?_
    refine Rf (hc.out) ?_
    rintro p s ⟨rfl, rfl⟩
    refine go_ ?_
    refine Jm (st' := s) (by simp) (by simp only [Tryz.results135]; rfl) (by simp [resP, St.box?, PF.get, Jn, TyK.agg, *]; rfl) (by repeat (first | exact List.Sublist.refl _ | exact List.nil_sublist _ | refine List.Sublist.cons_cons _ ?_ | refine List.Sublist.cons _ ?_)) ?_
    exact ⟨by simp [tupP, PV.norm2, PV.norm1, PV.norm0, *], rfl⟩
  | none =>
    simp only [plI] at hc
    refine PCalls.enter Tryz.func135 rfl Tryz.ntmps135 (by simp) ?_
    simp only [Qab]
    refine go_ ?_
    refine Rf (hc.out) ?_
    rintro p s ⟨rfl, rfl⟩
    refine go_ ?_
    refine Jm (st' := s) (by simp) (by simp only [Tryz.results135]; rfl) (by simp [resP, St.box?, PF.get, Jn, TyK.agg, *]; rfl) (by repeat (first | exact List.Sublist.refl _ | exact List.nil_sublist _ | refine List.Sublist.cons_cons _ ?_ | refine List.Sublist.cons _ ?_)) ?_
    exact ⟨rfl, rfl⟩
theorem psize_p : ∀ (p : Pt) (h : Int), 0 ≤ h → h + pndT p ≤ 8000 → PCalls Tryz.prog 193 [aggD p, .d (.v (.int .i64 h))] [] fun r s => r = .d (.v (.int .i64 (h + pndT p))) ∧ s = [] := by
 refine Pt.ind ?_
 intro k n a sub t ih h h0 h1
 have hw := wr64 (n := h + 1) (by omega) (by omega)
 obtain ⟨R, hR⟩ : ∃ R : Int, R = h + pndT (.mk k n a sub t) := ⟨_, rfl⟩
 rw [← hR] at h1 ⊢
 have HR : Hid (R = h + 1 + pndL sub) := by show _ = _; rw [hR]; simp only [pndT]; omega
 simp only [aggD, Qap, List.map_cons, List.map_nil, Pt.kind_mk, Pt.num_mk, Pt.at_mk, Pt.sub_mk, Pt.t_mk]
 have IH := Lib.hid ih
 clear ih hR
 refine PCalls.enter Tryz.func193 rfl Tryz.ntmps193 (by simp) ?_
 simp only [Qab]
 refine go_ ?_
 refine Jd ?_
 intro i0 hi0
 try simp only [Ja, Rh, Rg, Jb] at hi0
 refine go_ ?_
 refine Qea (t := 10) (rows := sub.map encD) (by simp [PF.get] <;> rfl) rfl fun hl => ?_
 rw [List.length_map] at hl
 refine Qak (ι := Nat × Int) (fun y => y.1 ≤ sub.length ∧ 0 ≤ y.2 ∧ Hid (R = y.2 + pndL (sub.drop y.1))) (fun y => [(1, .d (.v (.int .i64 y.2))), (10, .d (.sl (sub.map encD))), (11, .d (.v (.int .i64 sub.length))), (12, .d (.v (.int .i64 (y.1 : Int))))]) (fun _ => []) (fun y => sub.length - y.1) (0, h + 1) ⟨Nat.zero_le _, by simp only; omega, HR.out⟩ ?_ ?_ ?_
 ·repeat (first | exact Jt _ | refine Js (by simp [PF.get]; rfl) (by first | rfl | (simp [*]; done) | fail) ?_)
 ·repeat (first | exact List.Sublist.refl _ | exact List.nil_sublist _ | refine List.Sublist.cons_cons _ ?_ | refine List.Sublist.cons _ ?_)
 ·rintro ⟨j, x⟩ ⟨hj, hx0, hR⟩
  simp only at hj hx0 hR ⊢
  unfold maxLen at hl
  have hRo := hR.out
  clear h0 hw HR
  by_cases hlt : j < sub.length
  ·have hx := Qal hlt
   have hc : (j : Int) < sub.length := by omega
   have hn : (0 : Int) ≤ j := by omega
   have hin := wr64 (n := (j : Int) + 1) (by omega) (by omega)
   rw [List.drop_eq_getElem_cons hlt] at hRo
   simp only [pndL] at hRo
   have hb : ¬ 8192 < x := by omega
   have hR2 : Hid (R = (x + pndT sub[j]) + pndL (sub.drop (j + 1))) := by show _ = _; omega
   have hc1 := Lib.hid (IH.out _ (List.getElem_mem hlt) x hx0 (by omega))
   have hx2 : 0 ≤ x + (pndT sub[j] : Int) := by omega
   clear hRo hR
   generalize x + (pndT sub[j] : Int) = x' at *
   refine go_ ?_
   refine Je ?_
   intro i2 hi2
   try simp only [Ja, Rh, Rg, Jb] at hi2
   refine go_ ?_
   refine Rd ?_
   refine go_ ?_
   refine Jc (hc1.out) ?_
   refine go_ ?_
   exact ⟨(j + 1, x'), ⟨hlt, hx2, hR2⟩, by simp only; omega, by repeat (first | exact Jt _ | refine Js (by simp [PF.get]; rfl) (by first | rfl | (simp [*]; done) | fail) ?_), by repeat (first | exact List.Sublist.refl _ | exact List.nil_sublist _ | refine List.Sublist.cons_cons _ ?_ | refine List.Sublist.cons _ ?_)⟩
  ·have hc : ¬ (j : Int) < sub.length := by omega
   have hf : Hid (R = x) := by rw [List.drop_of_length_le (by omega)] at hRo; simp only [pndL] at hRo; show _ = _; omega
   clear hRo hR
   refine go_ ?_
   refine Jm (by simp) (by simp only [Tryz.results193]; rfl) (by simp [resP, St.box?, PF.get, Jn, TyK.agg, *]; rfl) Nl ?_
   exact ⟨by rw [hf.out]; rfl, rfl⟩
theorem pSize_p (p : Pt) (h : pndT p ≤ 8000) : PCalls Tryz.prog 131 [aggD p] [] fun r s => r = .d (.v (.int .i64 (pndT p : Int))) ∧ s = [] := by
 have hc := psize_p p 0 (by decide) (by omega)
 rw [Int.zero_add] at hc
 have hc := Lib.hid hc
 simp only [aggD, Qap, List.map_cons, List.map_nil] at hc ⊢
 refine PCalls.enter Tryz.func131 rfl Tryz.ntmps131 (by simp) ?_
 simp only [Qab]
 refine go_ ?_
 refine Jd ?_
 intro i0 hi0
 refine go_ ?_
 refine Jc (hc.out) ?_
 refine go_ ?_
 refine Jm (by simp) (by simp only [Tryz.results131]; rfl) (by simp [resP, St.box?, PF.get, Jn, TyK.agg, *]; rfl) Nl ?_
 exact ⟨rfl, rfl⟩
def pdp (p : Pt) (h : Int) : Int := min (h + phgT p - 1) 129
theorem pdeep_p : ∀ (p : Pt) (h : Int), 0 ≤ h → h ≤ 129 → PCalls Tryz.prog 132 [aggD p, .d (.v (.int .i64 h))] [] fun r s => r = .d (.v (.int .i64 (pdp p h))) ∧ s = [] := by
 refine Pt.ind ?_
 intro k n a sub t ih h h0 h1
 have hw := wr64 (n := h + 1) (by omega) (by omega)
 have HR := Lib.hid (show pdp (.mk k n a sub t) h = min (h + phgL sub) 129 by unfold pdp; simp only [phgT]; omega)
 generalize pdp (.mk k n a sub t) h = R at *
 simp only [aggD, Qap, List.map_cons, List.map_nil, Pt.kind_mk, Pt.num_mk, Pt.at_mk, Pt.sub_mk, Pt.t_mk]
 have IH := Lib.hid ih
 clear ih
 by_cases hb : 128 < h
 ·have hf : Hid (R = h) := by have := HR.out; show _ = _; omega
  refine PCalls.enter Tryz.func132 rfl Tryz.ntmps132 (by simp) ?_
  simp only [Qab]
  refine go_ ?_
  refine Jd ?_
  intro i0 hi0
  try simp only [Ja, Rh, Rg, Jb] at hi0
  refine go_ ?_
  refine Jm (by simp) (by simp only [Tryz.results132]; rfl) (by simp [resP, St.box?, PF.get, Jn, TyK.agg, *]; rfl) Nl ?_
  exact ⟨by rw [hf.out]; rfl, rfl⟩
 ·have HR2 : Hid (R = max h (min (h + phgL sub) 129)) := by have := HR.out; show _ = _; omega
  refine PCalls.enter Tryz.func132 rfl Tryz.ntmps132 (by simp) ?_
  simp only [Qab]
  refine go_ ?_
  refine Jd ?_
  intro i0 hi0
  try simp only [Ja, Rh, Rg, Jb] at hi0
  refine go_ ?_
  refine Qea (t := 13) (rows := sub.map encD) (by simp [PF.get] <;> rfl) rfl fun hl => ?_
  rw [List.length_map] at hl
  refine Qak (ι := Nat × Int) (fun y => y.1 ≤ sub.length ∧ h ≤ y.2 ∧ y.2 ≤ 129 ∧ Hid (R = max y.2 (min (h + phgL (sub.drop y.1)) 129))) (fun y => [(1, .d (.v (.int .i64 h))), (5, .d (.v (.int .i64 y.2))), (13, .d (.sl (sub.map encD))), (14, .d (.v (.int .i64 sub.length))), (15, .d (.v (.int .i64 (y.1 : Int))))]) (fun _ => []) (fun y => sub.length - y.1) (0, h) ⟨Nat.zero_le _, by simp only; omega, by simp only; omega, HR2.out⟩ ?_ ?_ ?_
  ·repeat (first | exact Jt _ | refine Js (by simp [PF.get]; rfl) (by first | rfl | (simp [*]; done) | fail) ?_)
  ·repeat (first | exact List.Sublist.refl _ | exact List.nil_sublist _ | refine List.Sublist.cons_cons _ ?_ | refine List.Sublist.cons _ ?_)
  ·rintro ⟨j, x⟩ ⟨hj, hx0, hx1, hR⟩
   simp only at hj hx0 hx1 hR ⊢
   unfold maxLen at hl
   have hRo := hR.out
   by_cases hlt : j < sub.length
   ·have hx := Qal hlt
    have hc : (j : Int) < sub.length := by omega
    have hn : (0 : Int) ≤ j := by omega
    have hin := wr64 (n := (j : Int) + 1) (by omega) (by omega)
    rw [List.drop_eq_getElem_cons hlt] at hRo
    simp only [phgL] at hRo
    have hp := phg_pos sub[j]
    have hR2 : Hid (R = max (max x (pdp sub[j] (h + 1))) (min (h + phgL (sub.drop (j + 1))) 129)) := by show _ = _; unfold pdp; omega
    have hc1 := Lib.hid (IH.out _ (List.getElem_mem hlt) (h + 1) (by omega) (by omega))
    have hp2 : pdp sub[j] (h + 1) ≤ 129 := by unfold pdp; omega
    clear hRo hR hp
    generalize pdp sub[j] (h + 1) = x' at *
    have hmx : h ≤ max x x' ∧ max x x' ≤ 129 := by omega
    refine go_ ?_
    refine Je ?_
    intro i2 hi2
    try simp only [Ja, Rh, Rg, Jb] at hi2
    refine go_ ?_
    refine Rd ?_
    refine go_ ?_
    refine Jc (hc1.out) ?_
    refine go_ ?_
    refine POps_max (max x x') (cmax_if x x').symm ?_
    refine go_ ?_
    exact ⟨(j + 1, max x x'), ⟨hlt, hmx.1, hmx.2, hR2⟩, by simp only; omega, by repeat (first | exact Jt _ | refine Js (by simp [PF.get]; rfl) (by first | rfl | (simp [*]; done) | fail) ?_), by repeat (first | exact List.Sublist.refl _ | exact List.nil_sublist _ | refine List.Sublist.cons_cons _ ?_ | refine List.Sublist.cons _ ?_)⟩
   ·have hc : ¬ (j : Int) < sub.length := by omega
    have hf : Hid (R = x) := by rw [List.drop_of_length_le (by omega)] at hRo; simp only [phgL] at hRo; show _ = _; omega
    clear hRo hR
    refine go_ ?_
    refine Jm (by simp) (by simp only [Tryz.results132]; rfl) (by simp [resP, St.box?, PF.get, Jn, TyK.agg, *]; rfl) Nl ?_
    exact ⟨by rw [hf.out]; rfl, rfl⟩
theorem Qhn (p : Pt) (h : pndT p ≤ 8000) : PCalls Tryz.prog 81 [aggD p] [] fun r s => r = .d (.v (.bool (decide (phgT p ≤ 128)))) ∧ s = [] := by
 have hS := Lib.hid (pSize_p p h)
 have hD := Lib.hid (pdeep_p p 1 (by decide) (by decide))
 have HR : Hid (decide (phgT p ≤ 128) = decide (pdp p 1 ≤ 128)) := by show _ = _; rw [decide_eq_decide]; unfold pdp; omega
 have hz : (pndT p : Int) ≤ 8192 := by omega
 clear h
 generalize pdp p 1 = d at *
 generalize pndT p = z at *
 rw [HR.out]
 clear HR
 simp only [aggD, Qap, List.map_cons, List.map_nil] at hS hD ⊢
 by_cases hd : d ≤ 128
 ·rw [decide_eq_true hd]
  refine PCalls.enter Tryz.func81 rfl Tryz.ntmps81 (by simp) ?_
  simp only [Qab]
  refine go_ ?_
  refine Jd ?_
  intro i0 hi0
  refine go_ ?_
  refine Jc (hS.out) ?_
  refine go_ ?_
  refine Jr (hD.out) ?_
  refine go_ ?_
  refine Jm (by simp) (by simp only [Tryz.results81]; rfl) (by simp [resP, St.box?, PF.get, Jn, TyK.agg, *]; rfl) Nl ?_
  exact ⟨by simp [tupP, PV.norm2, PV.norm1, PV.norm0, hd], rfl⟩
 ·rw [decide_eq_false hd]
  refine PCalls.enter Tryz.func81 rfl Tryz.ntmps81 (by simp) ?_
  simp only [Qab]
  refine go_ ?_
  refine Jd ?_
  intro i0 hi0
  refine go_ ?_
  refine Jc (hS.out) ?_
  refine go_ ?_
  refine Jr (hD.out) ?_
  refine go_ ?_
  refine Jm (by simp) (by simp only [Tryz.results81]; rfl) (by simp [resP, St.box?, PF.get, Jn, TyK.agg, *]; rfl) Nl ?_
  exact ⟨by simp [tupP, PV.norm2, PV.norm1, PV.norm0, hd], rfl⟩
theorem pnone_p (t : Tm) : PCalls Tryz.prog 133 [aggD t] [] fun p s => p = .d (.v (.bool (Qbp t))) ∧ s = [] := by
 obtain ⟨R, hR⟩ : ∃ R, R = Qbp t := ⟨_, rfl⟩
 rw [← hR]
 unfold Qbp at hR
 have HR := Lib.hid hR
 clear hR
 simp only [aggD, Jl, List.map_cons, List.map_nil]
 refine PCalls.enter Tryz.func133 rfl Tryz.ntmps133 (by simp) ?_
 simp only [Qab]
 refine go_ ?_
 refine Jd ?_
 intro i0 hi0
 refine go_ ?_
 rcases Bool.eq_false_or_eq_true (t.kind == 0) with h1 | h1
 rotate_left
 ·refine go_ ?_
  refine Jm (by simp) (by simp only [Tryz.results133]; rfl) (by simp [resP, St.box?, PF.get, Jn, TyK.agg, *]; rfl) Nl ?_
  exact ⟨by rw [HR.out]; simp [tupP, PV.norm2, PV.norm1, PV.norm0, *], rfl⟩
 refine go_ ?_
 rcases Bool.eq_false_or_eq_true (t.num == 0) with h2 | h2
 rotate_left
 ·refine go_ ?_
  refine Jm (by simp) (by simp only [Tryz.results133]; rfl) (by simp [resP, St.box?, PF.get, Jn, TyK.agg, *]; rfl) Nl ?_
  exact ⟨by rw [HR.out]; simp [tupP, PV.norm2, PV.norm1, PV.norm0, *], rfl⟩
 refine go_ ?_
 refine Jm (by simp) (by simp only [Tryz.results133]; rfl) (by simp [resP, St.box?, PF.get, Jn, TyK.agg, *]; rfl) Nl ?_
 exact ⟨by rw [HR.out]; simp [tupP, PV.norm2, PV.norm1, PV.norm0, *], rfl⟩
theorem rpzero_p (t : Tm) : PCalls Tryz.prog 123 [aggD t] [] fun p s => p = .d (.v (.bool (Qbp t))) ∧ s = [] := by
 obtain ⟨R, hR⟩ : ∃ R, R = Qbp t := ⟨_, rfl⟩
 rw [← hR]
 unfold Qbp at hR
 have HR := Lib.hid hR
 clear hR
 simp only [aggD, Jl, List.map_cons, List.map_nil]
 refine PCalls.enter Tryz.func123 rfl Tryz.ntmps123 (by simp) ?_
 simp only [Qab]
 refine go_ ?_
 refine Jd ?_
 intro i0 hi0
 refine go_ ?_
 rcases Bool.eq_false_or_eq_true (t.kind == 0) with h1 | h1
 rotate_left
 ·refine go_ ?_
  refine Jm (by simp) (by simp only [Tryz.results123]; rfl) (by simp [resP, St.box?, PF.get, Jn, TyK.agg, *]; rfl) Nl ?_
  exact ⟨by rw [HR.out]; simp [tupP, PV.norm2, PV.norm1, PV.norm0, *], rfl⟩
 refine go_ ?_
 rcases Bool.eq_false_or_eq_true (t.num == 0) with h2 | h2
 rotate_left
 ·refine go_ ?_
  refine Jm (by simp) (by simp only [Tryz.results123]; rfl) (by simp [resP, St.box?, PF.get, Jn, TyK.agg, *]; rfl) Nl ?_
  exact ⟨by rw [HR.out]; simp [tupP, PV.norm2, PV.norm1, PV.norm0, *], rfl⟩
 refine go_ ?_
 refine Jm (by simp) (by simp only [Tryz.results123]; rfl) (by simp [resP, St.box?, PF.get, Jn, TyK.agg, *]; rfl) Nl ?_
 exact ⟨by rw [HR.out]; simp [tupP, PV.norm2, PV.norm1, PV.norm0, *], rfl⟩
end Go.Proofs.YtdklpbefbamchaaGreat
namespace Go.Proofs.YtdklpbefbamchaaGreat
open Go.RowKit
theorem isE_no {l : List En} {c k : Int} (h : isE l c k = false) : c < 0 ∨ (0 ≤ c ∧ (l.length : Int) ≤ c) ∨ ∃ (i : Nat) (x : En), c = i ∧ i < l.length ∧ l[i]? = some x ∧ x.kind ≠ k := by
 by_cases h0 : c < 0
 ·exact .inl h0
 ·by_cases h1 : (l.length : Int) ≤ c
  ·exact .inr (.inl ⟨by omega, h1⟩)
  ·obtain ⟨i, rfl⟩ : ∃ i : Nat, c = i := ⟨c.toNat, by omega⟩
   have hlt : i < l.length := by omega
   have hx : l[i]? = some l[i] := List.getElem?_eq_getElem hlt
   refine .inr (.inr ⟨i, l[i], rfl, hlt, hx, fun hk => ?_⟩)
   rw [is_at hx, hk] at h
   simp at h
theorem parity_p (l : List En) (c : Int) (hF : formedB l = true) : PCalls Tryz.prog 134 [.d (.sl (l.map encD)), .d (.v (.int .i64 c))] [] fun p s => p = .d (.v (.int .i64 (arN l c))) ∧ s = [] := by
  cases hi : isE l c 2 with
  | false =>
    rw [arN_no hi]
    rcases isE_no hi with h | ⟨h0, h⟩ | ⟨i, x, rfl, hlt, hx, hk⟩
    · clear hi
      refine PCalls.enter Tryz.func134 rfl Tryz.ntmps134 (by simp) ?_
      simp only [Qab]
      refine go_ ?_
      refine Jm (by simp) (by simp only [Tryz.results134]; rfl) (by simp [resP, St.box?, PF.get, Jn, TyK.agg, *]; rfl) Nl ?_
      exact ⟨rfl, rfl⟩
    · clear hi
      have h2 : ¬ c < 0 := by omega
      refine PCalls.enter Tryz.func134 rfl Tryz.ntmps134 (by simp) ?_
      simp only [Qab]
      refine go_ ?_
      refine Jm (by simp) (by simp only [Tryz.results134]; rfl) (by simp [resP, St.box?, PF.get, Jn, TyK.agg, *]; rfl) Nl ?_
      exact ⟨rfl, rfl⟩
    · clear hi
      have hge := Qal hlt
      have he : l[i] = x := Option.some.inj ((List.getElem?_eq_getElem hlt).symm.trans hx)
      rw [he] at hge
      have h2 : ¬ (i : Int) < 0 := by omega
      have hn : (0 : Int) ≤ i := by omega
      have h3 : (i : Int) < l.length := by omega
      have h4 : ¬ (l.length : Int) ≤ i := by omega
      have hkb : (x.kind != 2) = true := bne_iff_ne.2 hk
      clear he hx hk hlt
      refine PCalls.enter Tryz.func134 rfl Tryz.ntmps134 (by simp) ?_
      simp only [Qab]
      refine go_ ?_
      refine Jm (by simp) (by simp only [Tryz.results134]; rfl) (by simp [resP, St.box?, PF.get, Jn, TyK.agg, *]; rfl) Nl ?_
      exact ⟨rfl, rfl⟩
  | true =>
    obtain ⟨i, rfl, hlt, hk⟩ := Qei hi
    have hx : l[i]? = some l[i] := List.getElem?_eq_getElem hlt
    obtain ⟨q, m, d, hq, hqi, hd, hdk, hm, hdm, hm1, hn0, hn1, hs, h24, hmt, -⟩ := Qjf hF hx hk
    rw [arN_at hx hk, hm]
    have hge := Qal hlt
    have h2 : ¬ (i : Int) < 0 := by omega
    have hn : (0 : Int) ≤ i := by omega
    have h3 : (i : Int) < l.length := by omega
    have h4 : ¬ (l.length : Int) ≤ i := by omega
    have HG := Lib.hid (Qbd hs).1
    generalize l[i] = x at *
    have hkb : (x.kind != 2) = false := by rw [hk]; rfl
    obtain ⟨R, hR⟩ : ∃ R, R = (Qat x.ty).length := ⟨_, rfl⟩
    rw [← hR] at h24 hmt ⊢
    have HR : Hid (R = 0 + (Qat x.ty).length) := by show _ = _; omega
    have hws := wr64 (n := (R : Int) - m) (by omega) (by omega)
    clear hR hx hk hq hqi hd hdk hdm hm1 hn0 hn1 hs hlt hi hF
    refine PCalls.enter Tryz.func134 rfl Tryz.ntmps134 (by simp) ?_
    simp only [Qab]
    refine go_ ?_
    refine Je ?_
    intro i6 hi6
    try simp only [Ja, Rh, Rg, Jb] at hi6
    refine go_ ?_
    refine Rd ?_
    refine go_ ?_
    refine Qak (ι := Nat × Tm × Nat) (fun y => Hid (R = y.1 + (Qat y.2.1).length) ∧ Hid (Qaj y.2.1 = true)) (fun y => [(0, .d (.sl (l.map encD))), (1, .d (.v (.int .i64 (i : Int)))), (5, .d (.v (.int .i64 (y.1 : Int)))), (6, .ptr y.2.2 0)]) (fun y => [.box y.2.2 26 [.d (.v (.int .i64 y.2.1.kind)), .d (.v (.int .i64 y.2.1.num)), .d (.sl (y.2.1.sub.map encD))]]) (fun y => cndT y.2.1) (0, x.ty, i6) ⟨HR.out, HG.out⟩ ?_ ?_ ?_
    · repeat (first | exact Jt _ | refine Js (by simp [PF.get]; rfl) (by first | rfl | (simp [*]; done) | fail) ?_)
    · repeat (first | exact List.Sublist.refl _ | exact List.nil_sublist _ | refine List.Sublist.cons_cons _ ?_ | refine List.Sublist.cons _ ?_)
    · rintro ⟨n, t, i7⟩ ⟨hR, hG⟩
      simp only at hR hG ⊢
      clear HR HG
      by_cases k3 : t.kind = 3
      · obtain ⟨a, b, rfl, ga, gb⟩ := Qgi hG.out k3
        have hR2 : Hid (R = (n + 1) + (Qat b).length) := by
          have := hR.out
          rw [(Qij 0 a b).1, List.length_cons] at this
          show _ = _; omega
        have hnd := Qex 3 0 a b
        have hin := wr64 (n := (n : Int) + 1) (by omega) (by have := hR2.out; omega)
        clear hR k3 hG
        simp only [Tm.kind_mk, Tm.num_mk, Tm.sub_mk, List.map_cons, List.map_nil]
        refine go_ ?_
        refine Je ?_
        intro i8 hi8
        try simp only [Ja, Rh, Rg, Jb] at hi8
        refine go_ ?_
        refine Rd ?_
        refine go_ ?_
        refine Rd ?_
        refine go_ ?_
        exact ⟨(n + 1, b, i8), ⟨hR2, gb⟩, by simp only; omega, by repeat (first | exact Jt _ | refine Js (by simp [PF.get]; rfl) (by first | rfl | (simp [*]; done) | fail) ?_), by repeat (first | exact List.Sublist.refl _ | exact List.nil_sublist _ | refine List.Sublist.cons_cons _ ?_ | refine List.Sublist.cons _ ?_)⟩
      · have hf : Hid (R = n) := by
          have := hR.out
          rw [(Qii k3).1, List.length_nil] at this
          exact this
        have hfo : (n : Int) = R := by have := hf.out; omega
        clear hR hG
        rw [hfo]
        refine go_ ?_
        refine Jm (by simp) (by simp only [Tryz.results134]; rfl) (by simp [resP, St.box?, PF.get, Jn, TyK.agg, *]; rfl) Nl ?_
        exact ⟨rfl, rfl⟩
theorem rarity_p (l : List En) (c : Int) (hF : formedB l = true) : PCalls Tryz.prog 122 [.d (.sl (l.map encD)), .d (.v (.int .i64 c))] [] fun p s => p = .d (.v (.int .i64 (arN l c))) ∧ s = [] := by
  have hI := Lib.hid (ris_p l c 2)
  cases hi : isE l c 2 with
  | false =>
    rw [hi] at hI
    rw [arN_no hi]
    clear hi
    refine PCalls.enter Tryz.func122 rfl Tryz.ntmps122 (by simp) ?_
    simp only [Qab]
    refine go_ ?_
    refine Jc (hI.out) ?_
    refine go_ ?_
    refine Jm (by simp) (by simp only [Tryz.results122]; rfl) (by simp [resP, St.box?, PF.get, Jn, TyK.agg, *]; rfl) Nl ?_
    exact ⟨rfl, rfl⟩
  | true =>
    rw [hi] at hI
    obtain ⟨i, rfl, hlt, hk⟩ := Qei hi
    have hx : l[i]? = some l[i] := List.getElem?_eq_getElem hlt
    obtain ⟨q, m, d, hq, hqi, hd, hdk, hm, hdm, hm1, hn0, hn1, hs, h24, hmt, -⟩ := Qjf hF hx hk
    rw [arN_at hx hk, hm]
    have hge := Qal hlt
    have h2 : ¬ (i : Int) < 0 := by omega
    have hn : (0 : Int) ≤ i := by omega
    have h3 : (i : Int) < l.length := by omega
    have hT := Lib.hid (rTele_p l[i].ty (Qbd hs).1 (by have := (Qbd hs).2.2; omega))
    simp only [aggD, Jl, List.map_cons, List.map_nil] at hT
    generalize l[i] = x at *
    have hws := wr64 (n := ((Qat x.ty).length : Int) - m) (by omega) (by omega)
    generalize Qat x.ty = L at *
    clear hx hk hq hqi hd hdk hdm hm1 hn0 hn1 hs hlt hi hF
    refine PCalls.enter Tryz.func122 rfl Tryz.ntmps122 (by simp) ?_
    simp only [Qab]
    refine go_ ?_
    refine Jc (hI.out) ?_
    refine go_ ?_
    refine Qan [(0, .a), (1, .a), (2, .a), (3, .a), (4, .a), (5, .a), (6, .a), (7, .a), (8, .a), (9, .a), (10, .a), (11, .a), (12, .a), (13, .a)] (by kernel_rfl) (by rfl) (by kernel_rfl) ?_
    refine go_ ?_
    refine Qaa (hT.out) ?_
    refine go_ ?_
    refine Jm (by simp) (by simp only [Tryz.results122]; rfl) (by simp [resP, St.box?, PF.get, Jn, TyK.agg, *]; rfl) Nl ?_
    exact ⟨rfl, rfl⟩
theorem good1_p (l : List En) (p : Pt) (b : Nat) (R : Bool) (h : PCalls Tryz.prog 82 [.d (.sl (l.map encD)), aggD p] [] fun r s => r = .d (.v (.bool R)) ∧ s = []) :
  PCalls Tryz.prog 136 [aggD p, .ptr b 0] [.box b 22 [.d (.sl (l.map encD))]] fun r s => r = .d (.v (.bool (!R))) ∧ s = [.box b 22 [.d (.sl (l.map encD))]] := by
 have hc := Lib.hid h
 clear h
 simp only [aggD, Qap, List.map_cons, List.map_nil] at hc ⊢
 refine PCalls.enter Tryz.func136 rfl Tryz.ntmps136 (by simp) ?_
 simp only [Qab]
 refine go_ ?_
 refine Jd ?_
 intro i0 hi0
 try simp only [Ja, Rh, Rg, Jb] at hi0
 refine go_ ?_
 refine Jc (hc.out) ?_
 refine go_ ?_
 refine Jm (st' := [.box b 22 [.d (.sl (l.map encD))]]) (by simp) (by simp only [Tryz.results136]; rfl) (by simp [resP, St.box?, PF.get, Jn, TyK.agg, *]; rfl) (by repeat (first | exact List.Sublist.refl _ | exact List.nil_sublist _ | refine List.Sublist.cons_cons _ ?_ | refine List.Sublist.cons _ ?_)) ?_
 exact ⟨by simp [tupP, PV.norm2, PV.norm1, PV.norm0], rfl⟩
theorem pgL_any (l : List En) (r : List Pt) : (!(r.any fun p => !pgT l p)) = pgL l r := by
 rw [pgL_all]
 induction r with
 | nil => rfl
 | cons p ps ih => simp only [List.any_cons, List.all_cons, Bool.not_or, Bool.not_not, ih]
theorem Qie (l : List En) (hF : formedB l = true) : ∀ p : Pt, PCalls Tryz.prog 82 [.d (.sl (l.map encD)), aggD p] [] fun r s => r = .d (.v (.bool (pgT l p))) ∧ s = [] := by
  refine Pt.ind ?_
  intro k n a sub t ih
  obtain ⟨R, hR⟩ : ∃ R, R = pgT l (.mk k n a sub t) := ⟨_, rfl⟩
  rw [← hR]
  simp only [pgT] at hR
  have HR0 := Lib.hid hR
  have hN := Lib.hid (pnone_p t)
  have hS := Lib.hid (Qdc t)
  have hA := Lib.hid (parity_p l n hF)
  have IH := Lib.hid ih
  simp only [aggD, Qap, Jl, List.map_cons, List.map_nil, Pt.kind_mk, Pt.num_mk, Pt.at_mk, Pt.sub_mk, Pt.t_mk] at hN hS ⊢
  clear hR ih
  by_cases k1 : k = 1
  · have HR : Hid (R = (decide (0 ≤ n) && (decide (n ≤ 1048576) && (((sub.length : Int) == 0) && Qbp t)))) := by show _ = _; rw [show R = _ from HR0.out, if_pos k1]
    subst k1
    clear HR0 hS hA IH
    generalize Qbp t = q at *
    refine PCalls.enter Tryz.func82 rfl Tryz.ntmps82 (by simp) ?_
    simp only [Qab]
    refine go_ ?_
    refine Jd ?_
    intro i0 hi0
    try simp only [Ja, Rh, Rg, Jb] at hi0
    refine go_ ?_
    refine Jd ?_
    intro i1 hi1
    try simp only [Ja, Rh, Rg, Jb] at hi1
    refine go_ ?_
    by_cases h1 : 0 ≤ n
    rotate_left
    · refine go_ ?_
      refine Jm (by simp) (by simp only [Tryz.results82]; rfl) (by simp [resP, St.box?, PF.get, Jn, TyK.agg, *]; rfl) Nl ?_
      exact ⟨by rw [HR.out]; simp [tupP, PV.norm2, PV.norm1, PV.norm0, *], rfl⟩
    refine go_ ?_
    by_cases h2 : n ≤ 1048576
    rotate_left
    · refine go_ ?_
      refine Jm (by simp) (by simp only [Tryz.results82]; rfl) (by simp [resP, St.box?, PF.get, Jn, TyK.agg, *]; rfl) Nl ?_
      exact ⟨by rw [HR.out]; simp [tupP, PV.norm2, PV.norm1, PV.norm0, *], rfl⟩
    refine go_ ?_
    rcases Bool.eq_false_or_eq_true (((sub.length : Int) == 0)) with hls | hls
    rotate_left
    · refine go_ ?_
      refine Jm (by simp) (by simp only [Tryz.results82]; rfl) (by simp [resP, St.box?, PF.get, Jn, TyK.agg, *]; rfl) Nl ?_
      exact ⟨by rw [HR.out]; simp [tupP, PV.norm2, PV.norm1, PV.norm0, *], rfl⟩
    refine go_ ?_
    refine Jr (hN.out) ?_
    refine go_ ?_
    refine Jm (by simp) (by simp only [Tryz.results82]; rfl) (by simp [resP, St.box?, PF.get, Jn, TyK.agg, *]; rfl) Nl ?_
    exact ⟨by rw [HR.out]; simp [tupP, PV.norm2, PV.norm1, PV.norm0, *], rfl⟩
  by_cases k3 : k = 3
  · have HR : Hid (R = ((n == 0) && (((sub.length : Int) == 0) && Qai t))) := by show _ = _; rw [show R = _ from HR0.out, if_neg k1, if_pos k3]
    subst k3
    clear HR0 hN hA IH
    generalize Qai t = q at *
    refine PCalls.enter Tryz.func82 rfl Tryz.ntmps82 (by simp) ?_
    simp only [Qab]
    refine go_ ?_
    refine Jd ?_
    intro i0 hi0
    try simp only [Ja, Rh, Rg, Jb] at hi0
    refine go_ ?_
    refine Jd ?_
    intro i1 hi1
    try simp only [Ja, Rh, Rg, Jb] at hi1
    refine go_ ?_
    rcases Bool.eq_false_or_eq_true (n == 0) with h1 | h1
    rotate_left
    · refine go_ ?_
      refine Jm (by simp) (by simp only [Tryz.results82]; rfl) (by simp [resP, St.box?, PF.get, Jn, TyK.agg, *]; rfl) Nl ?_
      exact ⟨by rw [HR.out]; simp [tupP, PV.norm2, PV.norm1, PV.norm0, *], rfl⟩
    refine go_ ?_
    rcases Bool.eq_false_or_eq_true (((sub.length : Int) == 0)) with hls | hls
    rotate_left
    · refine go_ ?_
      refine Jm (by simp) (by simp only [Tryz.results82]; rfl) (by simp [resP, St.box?, PF.get, Jn, TyK.agg, *]; rfl) Nl ?_
      exact ⟨by rw [HR.out]; simp [tupP, PV.norm2, PV.norm1, PV.norm0, *], rfl⟩
    refine go_ ?_
    refine Jr (hS.out) ?_
    refine go_ ?_
    refine Jm (by simp) (by simp only [Tryz.results82]; rfl) (by simp [resP, St.box?, PF.get, Jn, TyK.agg, *]; rfl) Nl ?_
    exact ⟨by rw [HR.out]; simp [tupP, PV.norm2, PV.norm1, PV.norm0, *], rfl⟩
  by_cases k4 : k = 4
  · have HR : Hid (R = ((n == 0) && (((sub.length : Int) == 0) && Qbp t))) := by show _ = _; rw [show R = _ from HR0.out, if_neg k1, if_neg k3, if_pos k4]
    subst k4
    clear HR0 hS hA IH
    generalize Qbp t = q at *
    refine PCalls.enter Tryz.func82 rfl Tryz.ntmps82 (by simp) ?_
    simp only [Qab]
    refine go_ ?_
    refine Jd ?_
    intro i0 hi0
    try simp only [Ja, Rh, Rg, Jb] at hi0
    refine go_ ?_
    refine Jd ?_
    intro i1 hi1
    try simp only [Ja, Rh, Rg, Jb] at hi1
    refine go_ ?_
    rcases Bool.eq_false_or_eq_true (n == 0) with h1 | h1
    rotate_left
    · refine go_ ?_
      refine Jm (by simp) (by simp only [Tryz.results82]; rfl) (by simp [resP, St.box?, PF.get, Jn, TyK.agg, *]; rfl) Nl ?_
      exact ⟨by rw [HR.out]; simp [tupP, PV.norm2, PV.norm1, PV.norm0, *], rfl⟩
    refine go_ ?_
    rcases Bool.eq_false_or_eq_true (((sub.length : Int) == 0)) with hls | hls
    rotate_left
    · refine go_ ?_
      refine Jm (by simp) (by simp only [Tryz.results82]; rfl) (by simp [resP, St.box?, PF.get, Jn, TyK.agg, *]; rfl) Nl ?_
      exact ⟨by rw [HR.out]; simp [tupP, PV.norm2, PV.norm1, PV.norm0, *], rfl⟩
    refine go_ ?_
    refine Jr (hN.out) ?_
    refine go_ ?_
    refine Jm (by simp) (by simp only [Tryz.results82]; rfl) (by simp [resP, St.box?, PF.get, Jn, TyK.agg, *]; rfl) Nl ?_
    exact ⟨by rw [HR.out]; simp [tupP, PV.norm2, PV.norm1, PV.norm0, *], rfl⟩
  by_cases k2 : k = 2
  rotate_left
  · have HR : Hid (R = false) := by show _ = _; rw [show R = _ from HR0.out, if_neg k1, if_neg k3, if_neg k4, if_neg k2]
    clear HR0 hS hN hA IH
    refine PCalls.enter Tryz.func82 rfl Tryz.ntmps82 (by simp) ?_
    simp only [Qab]
    refine go_ ?_
    refine Jd ?_
    intro i0 hi0
    try simp only [Ja, Rh, Rg, Jb] at hi0
    refine go_ ?_
    refine Jd ?_
    intro i1 hi1
    try simp only [Ja, Rh, Rg, Jb] at hi1
    refine go_ ?_
    refine Jm (by simp) (by simp only [Tryz.results82]; rfl) (by simp [resP, St.box?, PF.get, Jn, TyK.agg, *]; rfl) Nl ?_
    exact ⟨by rw [HR.out]; rfl, rfl⟩
  have HR : Hid (R = ((arN l n == (sub.length : Int)) && (Qbp t && pgL l sub))) := by show _ = _; rw [show R = _ from HR0.out, if_neg k1, if_neg k3, if_neg k4, if_pos k2]
  subst k2
  have hC := fun b => ctq_p sub 136 [.ptr b 0] [.box b 22 [.d (.sl (l.map encD))]] (fun p => !pgT l p) rfl rfl fun p hp => good1_p l p b _ (IH.out p hp)
  have HC := Lib.hid hC
  have HB := Lib.hid (pgL_any l sub)
  clear HR0 hS IH hC k1 k3 k4
  generalize (sub.any fun p => !pgT l p) = c at *
  rw [← HB.out] at HR
  generalize Qbp t = q at *
  generalize arN l n = m at *
  clear HB
  refine PCalls.enter Tryz.func82 rfl Tryz.ntmps82 (by simp) ?_
  simp only [Qab]
  refine go_ ?_
  refine Jd ?_
  intro i0 hi0
  try simp only [Ja, Rh, Rg, Jb] at hi0
  refine go_ ?_
  refine Jd ?_
  intro i1 hi1
  try simp only [Ja, Rh, Rg, Jb] at hi1
  refine go_ ?_
  refine Qan [(0, .b), (1, .a), (2, .b), (3, .a), (4, .a), (5, .b), (6, .a), (7, .a), (8, .a), (9, .a), (10, .b), (11, .a), (12, .a), (13, .a)] (by kernel_rfl) (by rfl) (by kernel_rfl) ?_
  refine go_ ?_
  refine Qaa (hA.out) ?_
  refine go_ ?_
  by_cases h1 : m = (sub.length : Int)
  rotate_left
  · have h1b : (m == (sub.length : Int)) = false := beq_eq_false_iff_ne.2 h1
    have h1c : (m != (sub.length : Int)) = true := bne_iff_ne.2 h1
    refine go_ ?_
    refine Jm (by simp) (by simp only [Tryz.results82]; rfl) (by simp [resP, St.box?, PF.get, Jn, TyK.agg, *]; rfl) Nl ?_
    exact ⟨by rw [HR.out]; simp [tupP, PV.norm2, PV.norm1, PV.norm0, *], rfl⟩
  have h1b : (m == (sub.length : Int)) = true := beq_iff_eq.2 h1
  have h1c : (m != (sub.length : Int)) = false := by rw [h1]; simp
  clear h1
  refine go_ ?_
  refine Qas (hN.out) ?_
  refine go_ ?_
  cases q with
  | false =>
    refine go_ ?_
    refine Jm (by simp) (by simp only [Tryz.results82]; rfl) (by simp [resP, St.box?, PF.get, Jn, TyK.agg, *]; rfl) Nl ?_
    exact ⟨by rw [HR.out]; simp [tupP, PV.norm2, PV.norm1, PV.norm0], rfl⟩
  | true =>
    refine go_ ?_
    refine Qib ?_
    refine go_ ?_
    refine Re 1 1 (HC.out i0) ?_
    rintro p s ⟨rfl, rfl⟩
    simp only [List.cons_append, List.nil_append, List.append_nil, Ja, Rh, Rg]
    refine go_ ?_
    refine Jm (by simp) (by simp only [Tryz.results82]; rfl) (by simp [resP, St.box?, PF.get, Jn, TyK.agg, *]; rfl) Nl ?_
    exact ⟨by rw [HR.out, h1b]; simp [tupP, PV.norm2, PV.norm1, PV.norm0], rfl⟩
theorem pRight_p (l : List En) (p : Pt) (ho : ∀ e ∈ l, EnOk e) (h : pndT p ≤ 8000) : PCalls Tryz.prog 63 [.d (.sl (l.map encD)), aggD p] [] fun r s => r = .d (.v (.bool (pRight l p))) ∧ s = [] := by
  have hF := Lib.hid (Qgy l ho)
  have hS := Lib.hid (Qhn p h)
  have HR := Lib.hid (show pRight l p = (formedB l && (decide (phgT p ≤ 128) && pgT l p)) from rfl)
  have HG := Lib.hid (fun hf : formedB l = true => Qie l hf p)
  generalize pRight l p = R at *
  generalize decide (phgT p ≤ 128) = sm at *
  generalize pgT l p = g at *
  clear h ho
  simp only [aggD, Qap, List.map_cons, List.map_nil] at hS HG ⊢
  cases hf : formedB l with
  | false =>
    rw [hf] at hF HR
    refine PCalls.enter Tryz.func63 rfl Tryz.ntmps63 (by simp) ?_
    simp only [Qab]
    refine go_ ?_
    refine Jd ?_
    intro i0 hi0
    refine go_ ?_
    refine Jc (hF.out) ?_
    refine go_ ?_
    refine Jm (by simp) (by simp only [Tryz.results63]; rfl) (by simp [resP, St.box?, PF.get, Jn, TyK.agg, *]; rfl) Nl ?_
    exact ⟨by rw [HR.out]; rfl, rfl⟩
  | true =>
    rw [hf] at hF HR
    have hG := Lib.hid (HG.out hf)
    clear HG
    refine PCalls.enter Tryz.func63 rfl Tryz.ntmps63 (by simp) ?_
    simp only [Qab]
    refine go_ ?_
    refine Jd ?_
    intro i0 hi0
    refine go_ ?_
    refine Jc (hF.out) ?_
    refine go_ ?_
    refine Jr (hS.out) ?_
    cases sm with
    | false =>
      refine go_ ?_
      refine Jm (by simp) (by simp only [Tryz.results63]; rfl) (by simp [resP, St.box?, PF.get, Jn, TyK.agg, *]; rfl) Nl ?_
      exact ⟨by rw [HR.out]; rfl, rfl⟩
    | true =>
      refine go_ ?_
      refine Jr (hG.out) ?_
      refine go_ ?_
      refine Jm (by simp) (by simp only [Tryz.results63]; rfl) (by simp [resP, St.box?, PF.get, Jn, TyK.agg, *]; rfl) Nl ?_
      exact ⟨by rw [HR.out]; simp [tupP, PV.norm2, PV.norm1, PV.norm0], rfl⟩
end Go.Proofs.YtdklpbefbamchaaGreat
