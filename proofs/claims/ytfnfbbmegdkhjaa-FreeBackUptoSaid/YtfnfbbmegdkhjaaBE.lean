import Derived.Test.YtfnfbbmegdkhjaaBA
import Derived.Lib.SlicesCompact
import Derived.Test.YtfnfbbmegdkhjaaBA1
import Derived.Test.YtfnfbbmegdkhjaaTab
import Derived.Test.YtfnfbbmegdkhjaaBD
import Derived.Test.YtfnfbbmegdkhjaaSh
import Derived.Shelf.Sort.Plain
import Derived.Shelf.Slices.In.SortNone
import Derived.Shelf.Slices.CompactI
import Derived.Ground.NamesProg
import Derived.Ground.Names2Prog
import Derived.Sort.OwnSortedInts
import Derived.Lib.OwnBridge
import Derived.Lib.RowBridge
import Derived.BigQuiet
import Derived.SizedLaws
import Derived.BigRegion
import Derived.RegionTactic
import Derived.ChangeAlike
import Derived.Deep.LoopGhost
set_option linter.unusedSimpArgs false
set_option linter.unusedVariables false
namespace Go.Proofs.Ytfnfbbmegdkhjaa
open Go.RowKit
/-- a term of the core -/
inductive Tm where
  | mk (kind n : Int) (sub : List Tm)
theorem Tm.ind {P : Tm → Prop} (h : ∀ k n sub, (∀ s ∈ sub, P s) → P (.mk k n sub)) : ∀ t, P t := by
  intro t
  exact Tm.rec (motive_1 := P) (motive_2 := fun l => ∀ s ∈ l, P s) (fun k n sub ih => h k n sub ih) (fun s hs => by cases hs) (fun t ts h1 h2 s hs => by
    cases hs with
    | head => exact h1
    | tail _ hm => exact h2 s hm) t
/-- the fields -/
def Tm.kind : Tm → Int | .mk k _ _ => k
def Tm.num : Tm → Int | .mk _ n _ => n
def Tm.sub : Tm → List Tm | .mk _ _ s => s
mutual
def tmD : Tm → List Dt
  | .mk k n sub => [.v (.int .i64 k), .v (.int .i64 n), .s 3 (tmDs sub)]
def tmDs : List Tm → List (List Dt)
  | [] => []
  | t :: ts => tmD t :: tmDs ts
end
theorem tmDs_map (l : List Tm) : tmDs l = l.map tmD := by
  induction l with
  | nil => rfl
  | cons t ts ih => simp only [tmDs, List.map_cons, ih]
theorem tmD_len (t : Tm) : (tmD t).length = 3 := by cases t; simp only [tmD]; rfl
instance : Enc Tm := ⟨3, tmD, tmD_len⟩
theorem tmD_ok : ∀ (t : Tm), ∀ d ∈ tmD t, DtOk d := by
  refine Tm.ind ?_
  intro k n sub ih d hd
  simp only [tmD, List.mem_cons, List.not_mem_nil, or_false] at hd
  rcases hd with rfl | rfl | rfl
  · exact .v trivial
  · exact .v trivial
  · refine .s (by decide) (fun f hf => ?_) fun f hf d hd => ?_
    · rw [tmDs_map] at hf; obtain ⟨t, _, rfl⟩ := List.mem_map.1 hf; exact tmD_len t
    · rw [tmDs_map] at hf; obtain ⟨t, ht, rfl⟩ := List.mem_map.1 hf; exact ih t ht d hd
instance : EncOk Tm := ⟨tmD_ok⟩
@[simp] theorem Jk (t : Tm) : encD t = [.v (.int .i64 t.kind), .v (.int .i64 t.num), .sl (t.sub.map encD)] := by
  cases t with
  | mk k n sub =>
    unfold encD
    simp only [Enc.enc, tmD, dtL, dtD, dtLL_map, tmDs_map, List.map_map, Tm.kind, Tm.num, Tm.sub]
    rfl
@[simp] theorem Ju (k n : Int) (l : List Tm) : (Tm.mk k n l).kind = k := rfl
@[simp] theorem Jv (k n : Int) (l : List Tm) : (Tm.mk k n l).num = n := rfl
@[simp] theorem Jw (k n : Int) (l : List Tm) : (Tm.mk k n l).sub = l := rfl
end Go.Proofs.Ytfnfbbmegdkhjaa

namespace Go.Proofs.Ytfnfbbmegdkhjaa
open Go.RowKit
mutual
def cszT : Tm → Int → Int
  | .mk _ _ sub, h => cszL sub (h + 1)
def cszL : List Tm → Int → Int
  | [], h => h
  | t :: ts, h => if 8192 < h then h else cszL ts (cszT t h)
end
theorem cszL_big (ts : List Tm) (h : Int) (hb : 8192 < h) : cszL ts h = h := by
  cases ts with
  | nil => rfl
  | cons t ts => simp only [cszL]; rw [if_pos hb]
theorem csz_bd : ∀ (t : Tm) (h : Int), 0 ≤ h → h ≤ 8192 → h + 1 ≤ cszT t h ∧ cszT t h ≤ 8193 := by
  refine Tm.ind ?_
  intro k n sub ih h h0 h1
  have : ∀ (l : List Tm), (∀ s ∈ l, ∀ (h : Int), 0 ≤ h → h ≤ 8192 → h + 1 ≤ cszT s h ∧ cszT s h ≤ 8193) → ∀ h : Int, 0 ≤ h → h ≤ 8193 → h ≤ cszL l h ∧ cszL l h ≤ 8193 := by
    intro l
    induction l with
    | nil => intro _ h h0 h1; simp only [cszL]; omega
    | cons t ts iht =>
      intro hl h h0 h1
      simp only [cszL]
      by_cases hb : 8192 < h
      · rw [if_pos hb]; omega
      · rw [if_neg hb]
        have h3 := hl t (by simp) h h0 (by omega)
        have h4 := iht (fun s hs => hl s (by simp [hs])) (cszT t h) (by omega) h3.2
        omega
  simp only [cszT]
  have := this sub ih (h + 1) (by omega) (by omega)
  omega
mutual
def ceqT : Tm → Tm → Bool
  | .mk k n s, .mk k' n' s' => (k == k') && (n == n') && ceqL s s'
def ceqL : List Tm → List Tm → Bool
  | [], [] => true
  | t :: ts, t' :: ts' => ceqT t t' && ceqL ts ts'
  | _, _ => false
end
theorem ceqL_length : ∀ {a b : List Tm}, ceqL a b = true → a.length = b.length := by
  intro a
  induction a with
  | nil => intro b h; cases b <;> simp_all [ceqL]
  | cons t ts ih => intro b h; cases b with
    | nil => simp [ceqL] at h
    | cons t' ts' => simp only [ceqL, Bool.and_eq_true] at h; simp [ih h.2]
theorem eqT_iff : ∀ (a b : Tm), ceqT a b = true ↔ a = b := by
  refine Tm.ind ?_
  intro k n sub ih b
  cases b with
  | mk k' n' sub' =>
    simp only [ceqT, Bool.and_eq_true, beq_iff_eq, Tm.mk.injEq]
    have : ∀ (l l' : List Tm), (∀ s ∈ l, ∀ b, ceqT s b = true ↔ s = b) → (ceqL l l' = true ↔ l = l') := by
      intro l
      induction l with
      | nil => intro l' _; cases l' <;> simp [ceqL]
      | cons t ts iht =>
        intro l' hl
        cases l' with
        | nil => simp [ceqL]
        | cons t' ts' =>
          simp only [ceqL, Bool.and_eq_true, List.cons.injEq]
          rw [hl t (by simp), iht ts' (fun s hs => hl s (by simp [hs]))]
    rw [this sub sub' ih]
    constructor
    · rintro ⟨⟨h1, h2⟩, h3⟩; exact ⟨h1, h2, h3⟩
    · rintro ⟨h1, h2, h3⟩; exact ⟨⟨h1, h2⟩, h3⟩
def subsOf (k : Int) : Int := if k = 3 ∨ k = 4 ∨ k = 5 then 2 else if k = 7 then 1 else 0
def mostOf (k : Int) : Int := if k = 2 then 7 else if k = 3 ∨ k = 4 ∨ k = 5 then 0 else 1048576
def fst0 (l : List Tm) : Int := match l with | [] => 0 | t :: _ => t.kind
def cheadB (t : Tm) : Bool := decide (1 ≤ t.kind ∧ t.kind ≤ 8 ∧ (t.sub.length : Int) = subsOf t.kind ∧ 0 ≤ t.num ∧ t.num ≤ mostOf t.kind ∧ (t.kind ≠ 7 ∨ fst0 t.sub = 2))
mutual
def goodB : Tm → Bool
  | .mk k n sub => cheadB (.mk k n sub) && cgoodL sub
def cgoodL : List Tm → Bool
  | [] => true
  | t :: ts => goodB t && cgoodL ts
end
mutual
def cdpT : Tm → Int → Int
  | .mk _ _ sub, h => if 128 < h then h else cdpL sub h h
def cdpL : List Tm → Int → Int → Int
  | [], _, m => m
  | t :: ts, h, m => cdpL ts h (max m (cdpT t (h + 1)))
end
def csizeT (t : Tm) : Int := cszT t 0
def cdepthT (t : Tm) : Int := if 8192 < csizeT t then 129 else cdpT t 1
def shapedB (t : Tm) : Bool := decide (cdepthT t ≤ 128) && goodB t
theorem cdp_bd : ∀ (t : Tm) (h : Int), h ≤ 129 → h ≤ cdpT t h ∧ cdpT t h ≤ 129 := by
  refine Tm.ind ?_
  intro k n sub ih h h1
  have : ∀ (l : List Tm), (∀ s ∈ l, ∀ (h : Int), h ≤ 129 → h ≤ cdpT s h ∧ cdpT s h ≤ 129) → ∀ h m : Int, h ≤ 128 → m ≤ 129 → m ≤ cdpL l h m ∧ cdpL l h m ≤ 129 := by
    intro l
    induction l with
    | nil => intro _ h m _ _; simp only [cdpL]; omega
    | cons t ts iht =>
      intro hl h m h1 h2
      simp only [cdpL]
      have h3 := hl t (by simp) (h + 1) (by omega)
      have h4 := iht (fun s hs => hl s (by simp [hs])) h (max m (cdpT t (h + 1))) h1 (by omega)
      omega
  simp only [cdpT]
  by_cases hb : 128 < h
  · rw [if_pos hb]; omega
  · rw [if_neg hb]; exact this sub ih h h (by omega) h1
theorem cmax_if (g x : Int) : max g x = if g < x then x else g := by split <;> omega
def csameB (t u : Tm) : Bool := shapedB t && shapedB u && ceqT t u
mutual
def cndT : Tm → Nat
  | .mk _ _ sub => cndL sub + 1
def cndL : List Tm → Nat
  | [] => 0
  | t :: ts => cndT t + cndL ts
end
theorem cndL_append (a b : List Tm) : cndL (a ++ b) = cndL a + cndL b := by
  induction a with
  | nil => simp [cndL]
  | cons t ts ih => simp only [List.cons_append, cndL, ih]; omega
theorem cndT_pos (t : Tm) : 1 ≤ cndT t := by cases t; simp only [cndT]; omega
theorem cndL_len (a : List Tm) : a.length ≤ cndL a := by
  induction a with
  | nil => simp [cndL]
  | cons t ts ih => simp only [cndL, List.length_cons]; have := cndT_pos t; omega
theorem csz_nd : ∀ (t : Tm) (h : Int), 0 ≤ h → h ≤ 8192 → cszT t h = min (h + cndT t) 8193 := by
  refine Tm.ind ?_
  intro k n sub ih h h0 h1
  have : ∀ (l : List Tm), (∀ s ∈ l, ∀ (h : Int), 0 ≤ h → h ≤ 8192 → cszT s h = min (h + cndT s) 8193) → ∀ h : Int, 0 ≤ h → h ≤ 8193 → cszL l h = min (h + cndL l) 8193 := by
    intro l
    induction l with
    | nil => intro _ h h0 h1; simp only [cszL, cndL]; omega
    | cons t ts iht =>
      intro hl h h0 h1
      simp only [cszL, cndL]
      have hp := cndT_pos t
      by_cases hb : 8192 < h
      · rw [if_pos hb]; omega
      · rw [if_neg hb, hl t (by simp) h h0 (by omega), iht (fun s hs => hl s (by simp [hs])) _ (by omega) (by omega)]
        omega
  simp only [cszT, cndT]
  rw [this sub ih (h + 1) (by omega) (by omega)]; omega
mutual
def chgT : Tm → Nat
  | .mk _ _ sub => chgL sub + 1
def chgL : List Tm → Nat
  | [] => 0
  | t :: ts => max (chgT t) (chgL ts)
end
theorem cdp_hg : ∀ (t : Tm) (h : Int), 0 ≤ h → h ≤ 129 → cdpT t h = min (h + chgT t - 1) 129 := by
  refine Tm.ind ?_
  intro k n sub ih h h0 h1
  have : ∀ (l : List Tm), (∀ s ∈ l, ∀ (h : Int), 0 ≤ h → h ≤ 129 → cdpT s h = min (h + chgT s - 1) 129) → ∀ h m : Int, 0 ≤ h → h ≤ 128 → h ≤ m → cdpL l h m = max m (min (h + chgL l) 129) := by
    intro l
    induction l with
    | nil => intro _ h m _ _ _; simp only [cdpL, chgL]; omega
    | cons t ts iht =>
      intro hl h m h0 h1 h2
      simp only [cdpL, chgL]
      rw [hl t (by simp) (h + 1) (by omega) (by omega), iht (fun s hs => hl s (by simp [hs])) h _ h0 h1 (by omega)]
      omega
  simp only [cdpT, chgT]
  by_cases hb : 128 < h
  · rw [if_pos hb]; omega
  · rw [if_neg hb, this sub ih h h h0 (by omega) (Int.le_refl _)]; omega
theorem chgL_append (a b : List Tm) : chgL (a ++ b) = max (chgL a) (chgL b) := by
  induction a with
  | nil => simp [chgL]
  | cons t ts ih => simp only [List.cons_append, chgL, ih]; omega
/-- the next level -/
def clvl (ts : List Tm) : List Tm := ts.flatMap Tm.sub
theorem cnd_sub (t : Tm) : cndT t = cndL t.sub + 1 := by cases t; simp only [cndT, Tm.sub]
theorem chg_sub (t : Tm) : chgT t = chgL t.sub + 1 := by cases t; simp only [chgT, Tm.sub]
theorem clvl_nd (ts : List Tm) : cndL (clvl ts) ≤ cndL ts := by
  unfold clvl
  induction ts with
  | nil => simp
  | cons t ts ih => rw [List.flatMap_cons, cndL_append]; simp only [cndL]; rw [cnd_sub t]; omega
theorem clvl_hg (ts : List Tm) (h : ts ≠ []) : chgL ts = chgL (clvl ts) + 1 := by
  unfold clvl
  induction ts with
  | nil => exact absurd rfl h
  | cons t ts ih =>
    rw [List.flatMap_cons, chgL_append]; simp only [chgL]; rw [chg_sub t]
    by_cases he : ts = []
    · subst he; simp [chgL]
    · rw [ih he]; omega
theorem clvl_take (ts : List Tm) (k : Nat) (h : k < ts.length) : clvl (ts.take (k + 1)) = clvl (ts.take k) ++ ts[k].sub := by
  unfold clvl; rw [List.take_succ_eq_append_getElem h]; simp only [List.flatMap_append, List.flatMap_cons, List.flatMap_nil, List.append_nil]
theorem cndL_take (ts : List Tm) (k : Nat) : cndL (ts.take k) ≤ cndL ts := by
  have := cndL_append (ts.take k) (ts.drop k)
  rw [List.take_append_drop] at this; omega
/-- how many binders more stand above a Sub -/
def undB (k : Int) (i : Int) : Int := if i = 1 ∧ (k = 3 ∨ k = 4) then 1 else 0
mutual
def lsT : Tm → Int → Int
  | .mk k n sub, b => if k = 1 then max 0 (n + 1 - b) else lsL k sub 0 b 0
def lsL : Int → List Tm → Nat → Int → Int → Int
  | _, [], _, _, m => m
  | k, t :: ts, i, b, m => lsL k ts (i + 1) b (max m (lsT t (b + undB k i)))
end
theorem und_bd (k i : Int) : 0 ≤ undB k i ∧ undB k i ≤ 1 := by unfold undB; split <;> omega
theorem mostOf_le (k : Int) : mostOf k ≤ 1048576 := by unfold mostOf; (repeat' split) <;> omega
theorem head_num {k n : Int} {sub : List Tm} (h : cheadB (.mk k n sub) = true) : 1 ≤ k ∧ k ≤ 8 ∧ 0 ≤ n ∧ n ≤ 1048576 ∧ (sub.length : Int) = subsOf k := by
  have := of_decide_eq_true h
  simp only [Tm.kind, Tm.num, Tm.sub] at this
  have := mostOf_le k
  omega
theorem cgoodL_mem {l : List Tm} (h : cgoodL l = true) : ∀ s ∈ l, goodB s = true := by
  induction l with
  | nil => intro s hs; cases hs
  | cons t ts ih =>
    simp only [cgoodL, Bool.and_eq_true] at h
    intro s hs
    cases hs with
    | head => exact h.1
    | tail _ hm => exact ih h.2 s hm
theorem good_parts {k n : Int} {sub : List Tm} (h : goodB (.mk k n sub) = true) : cheadB (.mk k n sub) = true ∧ ∀ s ∈ sub, goodB s = true := by
  simp only [goodB, Bool.and_eq_true] at h
  exact ⟨h.1, cgoodL_mem h.2⟩
theorem hgL_mem {l : List Tm} : ∀ s ∈ l, chgT s ≤ chgL l := by
  induction l with
  | nil => intro s hs; cases hs
  | cons t ts ih =>
    intro s hs
    simp only [chgL]
    cases hs with
    | head => omega
    | tail _ hm => have := ih s hm; omega
theorem ls_bd : ∀ (t : Tm) (b : Int), goodB t = true → 0 ≤ b → 0 ≤ lsT t b ∧ lsT t b ≤ 1048577 := by
  refine Tm.ind ?_
  intro k n sub ih b hg hb
  obtain ⟨hh, hs⟩ := good_parts hg
  have hn := head_num hh
  have : ∀ (l : List Tm), (∀ s ∈ l, ∀ b : Int, goodB s = true → 0 ≤ b → 0 ≤ lsT s b ∧ lsT s b ≤ 1048577) → (∀ s ∈ l, goodB s = true) → ∀ (i : Nat) (m : Int), 0 ≤ m → m ≤ 1048577 → 0 ≤ lsL k l i b m ∧ lsL k l i b m ≤ 1048577 := by
    intro l
    induction l with
    | nil => intro _ _ i m h0 h1; simp only [lsL]; omega
    | cons t ts iht =>
      intro h1 h2 i m h3 h4
      simp only [lsL]
      have hu := und_bd k i
      have h5 := h1 t (by simp) (b + undB k i) (h2 t (by simp)) (by omega)
      exact iht (fun s hs => h1 s (by simp [hs])) (fun s hs => h2 s (by simp [hs])) (i + 1) _ (by omega) (by omega)
  simp only [lsT]
  split
  · omega
  · exact this sub ih hs 0 0 (by omega) (by omega)
/-- what is shaped is not deep -/
theorem shaped_hg {t : Tm} (h : shapedB t = true) : goodB t = true ∧ chgT t ≤ 128 ∧ cndT t ≤ 8192 := by
  unfold shapedB at h
  rw [Bool.and_eq_true, decide_eq_true_iff] at h
  refine ⟨h.2, ?_, ?_⟩
  · have h1 := h.1
    unfold cdepthT at h1
    split at h1
    · omega
    · have := cdp_hg t 1 (by omega) (by omega); omega
  · have h1 := h.1
    unfold cdepthT at h1
    split at h1
    · omega
    · rename_i h2
      have := csz_nd t 0 (by omega) (by omega)
      unfold csizeT at h2; omega
def looseT (t : Tm) : Int := if shapedB t = true then lsT t 0 else 0
def applyT (f : Tm) : List Tm → Tm
  | [] => f
  | a :: l => applyT (.mk 5 0 [f, a]) l
theorem applyT_append (l l' : List Tm) : ∀ (f : Tm), applyT f (l ++ l') = applyT (applyT f l) l' := by
  induction l with
  | nil => intro f; rfl
  | cons a l ih => intro f; exact ih _
theorem dpL_ge : ∀ (l : List Tm) (h m : Int), m ≤ cdpL l h m := by
  intro l
  induction l with
  | nil => intro h m; simp only [cdpL]; omega
  | cons t ts ih => intro h m; simp only [cdpL]; have := ih h (max m (cdpT t (h + 1))); omega
theorem dp_app (k n : Int) (y : Tm) (ts : List Tm) (h : Int) (hh : h ≤ 128) : cdpT y (h + 1) ≤ cdpT (.mk k n (y :: ts)) h := by
  simp only [cdpT]
  rw [if_neg (by omega)]
  simp only [cdpL]
  have := dpL_ge ts h (max h (cdpT y (h + 1)))
  omega
theorem dp_spine : ∀ (l : List Tm) (x : Tm) (h : Int), h + l.length ≤ 129 → cdpT x (h + l.length) ≤ cdpT (applyT x l) h := by
  intro l
  induction l with
  | nil => intro x h _; simp [applyT]
  | cons a l ih =>
    intro x h hh
    simp only [List.length_cons, Int.natCast_add] at hh ⊢
    have h1 := ih (.mk 5 0 [x, a]) h (by omega)
    have h2 := dp_app 5 0 x [a] (h + l.length) (by omega)
    rw [show h + ((l.length : Int) + ((1 : Nat) : Int)) = h + l.length + 1 by omega]
    exact Int.le_trans h2 h1
theorem spine_len {x : Tm} {l : List Tm} (h : shapedB (applyT x l) = true) : l.length ≤ 127 := by
  rcases Nat.lt_or_ge l.length 128 with hl | hl
  · omega
  · exfalso
    have hd : cdpT (applyT x l) 1 ≤ 128 := by
      simp only [shapedB, Bool.and_eq_true] at h
      have := of_decide_eq_true h.1
      unfold cdepthT at this
      split at this <;> omega
    have e : applyT x l = applyT (applyT x (l.take (l.length - 128))) (l.drop (l.length - 128)) := by rw [← applyT_append, List.take_append_drop]
    rw [e] at hd
    have hdl : (l.drop (l.length - 128)).length = 128 := by simp; omega
    have h1 := dp_spine (l.drop (l.length - 128)) (applyT x (l.take (l.length - 128))) 1 (by rw [hdl]; decide)
    rw [hdl] at h1
    have h2 := (cdp_bd (applyT x (l.take (l.length - 128))) (1 + ((128 : Nat) : Int)) (by decide)).1
    have : (1 : Int) + ((128 : Nat) : Int) = 129 := by decide
    omega
theorem good_app {x : Tm} (hg : goodB x = true) (h5 : x.kind = 5) : ∃ y b, x = .mk 5 0 [y, b] ∧ goodB y = true ∧ goodB b = true := by
  cases x with
  | mk k n sub =>
    have h5' : k = 5 := h5
    subst h5'
    obtain ⟨h1, h2⟩ := good_parts hg
    have h3 := of_decide_eq_true h1
    simp only [Tm.kind, Tm.num, Tm.sub] at h3
    obtain ⟨_, _, hl, hn0, hn1, _⟩ := h3
    have hl2 : sub.length = 2 := by have : subsOf 5 = 2 := by decide
                                    omega
    have hn : n = 0 := by have : mostOf 5 = 0 := by decide
                          omega
    subst hn
    match sub, hl2 with
    | [y, b], _ => exact ⟨y, b, rfl, h2 y (by simp), h2 b (by simp)⟩
end Go.Proofs.Ytfnfbbmegdkhjaa

namespace Go.Proofs.Ytfnfbbmegdkhjaa
open Go Go.Lib Go.RowKit
def putL : List Int → Int → List Int
  | [], n => [n]
  | x :: xs, n => if x < n then x :: putL xs n else if n < x then n :: x :: xs else x :: xs
mutual
/-- the numbers of all nodes of two kinds, rising -/
def nmT (a b : Int) : Tm → List Int
  | .mk k n sub => nmS a b sub (if k = a ∨ k = b then [n] else [])
def nmS (a b : Int) : List Tm → List Int → List Int
  | [], out => out
  | t :: ts, out => nmS a b ts ((nmT a b t).foldl putL out)
end
theorem putL_len (n : Int) : ∀ l : List Int, (putL l n).length ≤ l.length + 1
  | [] => by simp [putL]
  | x :: xs => by
    have := putL_len n xs
    simp only [putL]
    split
    · simp; omega
    · split <;> simp
theorem putL_mem (n y : Int) : ∀ l : List Int, y ∈ putL l n ↔ y = n ∨ y ∈ l
  | [] => by simp [putL]
  | x :: xs => by
    have := putL_mem n y xs
    simp only [putL]
    split
    · simp only [List.mem_cons, this]
      constructor
      · rintro (h | h | h)
        · exact .inr (.inl h)
        · exact .inl h
        · exact .inr (.inr h)
      · rintro (h | h | h)
        · exact .inr (.inl h)
        · exact .inl h
        · exact .inr (.inr h)
    · split
      · simp only [List.mem_cons]
      · have : x = n := by omega
        subst this
        simp only [List.mem_cons]
        constructor
        · exact fun h => .inr h
        · rintro (h | h)
          · exact .inl h
          · exact h
theorem fold_len : ∀ (l out : List Int), (l.foldl putL out).length ≤ out.length + l.length := by
  intro l
  induction l with
  | nil => intro out; simp
  | cons x xs ih =>
    intro out
    have h1 := ih (putL out x)
    have h2 := putL_len x out
    simp only [List.foldl_cons, List.length_cons]
    omega
theorem fold_mem (y : Int) : ∀ (l out : List Int), y ∈ l.foldl putL out ↔ y ∈ out ∨ y ∈ l := by
  intro l
  induction l with
  | nil => intro out; simp
  | cons x xs ih =>
    intro out
    simp only [List.foldl_cons, ih, putL_mem, List.mem_cons]
    constructor
    · rintro ((h | h) | h)
      · exact .inr (.inl h)
      · exact .inl h
      · exact .inr (.inr h)
    · rintro (h | h | h)
      · exact .inl (.inr h)
      · exact .inl (.inl h)
      · exact .inr h
theorem nm_len (a b : Int) : ∀ t : Tm, (nmT a b t).length ≤ cndT t := by
  refine Tm.ind ?_
  intro k n sub ih
  have : ∀ (l : List Tm), (∀ s ∈ l, (nmT a b s).length ≤ cndT s) → ∀ out, (nmS a b l out).length ≤ out.length + cndL l := by
    intro l
    induction l with
    | nil => intro _ out; simp only [nmS]; omega
    | cons t ts iht =>
      intro hl out
      have h1 := iht (fun s hs => hl s (by simp [hs])) ((nmT a b t).foldl putL out)
      have h2 := fold_len (nmT a b t) out
      have h3 := hl t (by simp)
      simp only [nmS, cndL]
      omega
  have h := this sub ih (if k = a ∨ k = b then [n] else [])
  have h2 : (if k = a ∨ k = b then [n] else []).length ≤ 1 := by split <;> simp
  simp only [nmT, cndT]
  omega
theorem asc_ext : ∀ (l m : List Int), l.Pairwise (· < ·) → m.Pairwise (· < ·) → (∀ y, y ∈ l ↔ y ∈ m) → l = m
  | [], [], _, _, _ => rfl
  | [], y :: m, _, _, h => absurd ((h y).2 (by simp)) (by simp)
  | x :: l, [], _, _, h => absurd ((h x).1 (by simp)) (by simp)
  | x :: l, y :: m, hl, hm, h => by
    rw [List.pairwise_cons] at hl hm
    have hxy : x = y := by
      have h1 := (h x).1 (by simp)
      have h2 := (h y).2 (by simp)
      simp only [List.mem_cons] at h1 h2
      rcases h1 with h1 | h1
      · exact h1
      · rcases h2 with h2 | h2
        · exact h2.symm
        · have h3 := hm.1 x h1; have h4 := hl.1 y h2; omega
    subst hxy
    congr 1
    refine asc_ext l m hl.2 hm.2 fun z => ?_
    have hz := h z
    simp only [List.mem_cons] at hz
    constructor
    · intro hzl
      have h3 := hl.1 z hzl
      rcases hz.1 (.inr hzl) with h | h
      · omega
      · exact h
    · intro hzl
      have h3 := hm.1 z hzl
      rcases hz.2 (.inr hzl) with h | h
      · omega
      · exact h
theorem compact_inv (d : Array Int) (hd : ∀ i, i + 1 < d.size → d[i]! ≤ d[i + 1]!) : ∀ m, m ≤ d.size →
    (compactUpTo d m).Pairwise (· < ·) ∧ (∀ y, y ∈ compactUpTo d m ↔ ∃ j, j < m ∧ y = d[j]!) ∧ ∀ y ∈ compactUpTo d m, 0 < m ∧ y ≤ d[m - 1]!
  | 0, _ => by
    have e : compactUpTo d 0 = [] := by simp [compactUpTo]
    rw [e]
    refine ⟨List.Pairwise.nil, fun y => ⟨fun h => (by simp at h), ?_⟩, fun y h => (by simp at h)⟩
    rintro ⟨j, hj, _⟩; omega
  | m + 1, hm => by
    obtain ⟨h1, h2, h3⟩ := compact_inv d hd m (by omega)
    rw [compactUpTo_succ]
    by_cases hk : keeps d m = true
    · rw [if_pos hk]
      have hlt : ∀ y ∈ compactUpTo d m, y < d[m]! := by
        intro y hy
        obtain ⟨hm0, hle⟩ := h3 y hy
        have h4 := hd (m - 1) (by omega)
        rw [show m - 1 + 1 = m by omega] at h4
        unfold keeps at hk
        rw [decide_eq_true_iff] at hk
        rcases hk with hk | hk
        · omega
        · have h5 : d[m]! ≠ d[m - 1]! := hk
          omega
      refine ⟨?_, ?_, ?_⟩
      · rw [List.pairwise_append]
        refine ⟨h1, List.pairwise_singleton _ _, ?_⟩
        intro a ha b hb
        simp at hb
        rw [hb]; simpa using hlt a ha
      · intro y
        rw [List.mem_append, h2 y]
        simp only [List.mem_singleton]
        constructor
        · rintro (⟨j, hj, e⟩ | e)
          · exact ⟨j, by omega, e⟩
          · exact ⟨m, by omega, e⟩
        · rintro ⟨j, hj, e⟩
          by_cases hjm : j = m
          · subst hjm; exact .inr e
          · exact .inl ⟨j, by omega, e⟩
      · intro y hy
        rw [List.mem_append] at hy
        refine ⟨by omega, ?_⟩
        simp only [Nat.add_sub_cancel]
        rcases hy with hy | hy
        · have := hlt y hy; omega
        · simp at hy; rw [hy]; simp
    · rw [if_neg hk, List.append_nil]
      have hk' : m ≠ 0 ∧ d[m]! = d[m - 1]! := by
        unfold keeps at hk
        rw [decide_eq_true_iff] at hk
        constructor
        · exact fun e => hk (.inl e)
        · exact Classical.byContradiction fun e => hk (.inr e)
      refine ⟨h1, ?_, ?_⟩
      · intro y
        rw [h2 y]
        constructor
        · rintro ⟨j, hj, e⟩; exact ⟨j, by omega, e⟩
        · rintro ⟨j, hj, e⟩
          by_cases hjm : j = m
          · subst hjm; exact ⟨j - 1, by omega, by rw [e, hk'.2]⟩
          · exact ⟨j, by omega, e⟩
      · intro y hy
        obtain ⟨_, h4⟩ := h3 y hy
        refine ⟨by omega, ?_⟩
        simp only [Nat.add_sub_cancel]
        rw [hk'.2]; exact h4
/-- the elements, rising, each once -/
theorem rise_asc (l : List Int) : (compact (l.mergeSort fun x y => decide (x ≤ y))).Pairwise (· < ·) ∧ ∀ y, y ∈ compact (l.mergeSort fun x y => decide (x ≤ y)) ↔ y ∈ l := by
  have hs := List.pairwise_mergeSort (le := fun x y : Int => decide (x ≤ y)) (by intro a b c h1 h2; simp at *; omega) (by intro a b; simp; omega) l
  generalize hS : l.mergeSort (fun x y => decide (x ≤ y)) = S at *
  have hmem : ∀ y, y ∈ S ↔ y ∈ l := fun y => by rw [← hS]; exact List.mem_mergeSort
  have hd : ∀ i, i + 1 < S.toArray.size → S.toArray[i]! ≤ S.toArray[i + 1]! := by
    intro i hi
    have hi' : i + 1 < S.length := by simpa using hi
    rw [List.pairwise_iff_getElem] at hs
    have := hs i (i + 1) (by omega) hi' (by omega)
    simp at this
    simp [getElem!_pos, hi', show i < S.length by omega]
    exact this
  obtain ⟨h1, h2, -⟩ := compact_inv S.toArray hd S.length (by simp)
  refine ⟨h1, fun y => ?_⟩
  show y ∈ compactUpTo _ _ ↔ _
  rw [h2 y, ← hmem y, List.mem_iff_getElem]
  constructor
  · rintro ⟨j, hj, e⟩
    exact ⟨j, hj, by rw [e]; simp [hj]⟩
  · rintro ⟨j, hj, e⟩
    exact ⟨j, hj, by rw [← e]; simp [hj]⟩
theorem putL_asc (n : Int) : ∀ l : List Int, l.Pairwise (· < ·) → (putL l n).Pairwise (· < ·)
  | [], _ => List.pairwise_singleton _ _
  | x :: xs, h => by
    rw [List.pairwise_cons] at h
    simp only [putL]
    split
    · rename_i hx
      rw [List.pairwise_cons]
      refine ⟨fun y hy => ?_, putL_asc n xs h.2⟩
      rw [putL_mem] at hy
      rcases hy with rfl | hy
      · exact hx
      · exact h.1 y hy
    · split
      · rename_i hx
        rw [List.pairwise_cons]
        refine ⟨fun y hy => ?_, List.pairwise_cons.2 h⟩
        cases hy with
        | head => exact hx
        | tail _ hy => have := h.1 y hy; omega
      · exact List.pairwise_cons.2 h
theorem fold_asc : ∀ (l out : List Int), out.Pairwise (· < ·) → (l.foldl putL out).Pairwise (· < ·)
  | [], _, h => h
  | x :: xs, out, h => fold_asc xs (putL out x) (putL_asc x out h)
mutual
/-- the numbers of all nodes of two kinds -/
def clT (a b : Int) : Tm → List Int
  | .mk k n sub => (if k = a ∨ k = b then [n] else []) ++ clS a b sub
def clS (a b : Int) : List Tm → List Int
  | [] => []
  | t :: ts => clT a b t ++ clS a b ts
end
theorem clS_append (a b : Int) : ∀ l m : List Tm, clS a b (l ++ m) = clS a b l ++ clS a b m
  | [], _ => rfl
  | t :: l, m => by simp only [List.cons_append, clS, clS_append a b l m, List.append_assoc]
theorem cl_len (a b : Int) : ∀ t : Tm, (clT a b t).length ≤ cndT t := by
  refine Tm.ind ?_
  intro k n sub ih
  have : ∀ (l : List Tm), (∀ s ∈ l, (clT a b s).length ≤ cndT s) → (clS a b l).length ≤ cndL l := by
    intro l
    induction l with
    | nil => intro _; simp [clS, cndL]
    | cons t ts iht =>
      intro hl
      have h1 := iht (fun s hs => hl s (by simp [hs]))
      have h3 := hl t (by simp)
      simp only [clS, cndL, List.length_append]
      omega
  have h := this sub ih
  have h2 : (if k = a ∨ k = b then [n] else []).length ≤ 1 := by split <;> simp
  simp only [clT, cndT, List.length_append]
  omega
theorem nm_cl (a b y : Int) : ∀ t : Tm, (y ∈ nmT a b t ↔ y ∈ clT a b t) := by
  refine Tm.ind ?_
  intro k n sub ih
  have : ∀ (l : List Tm), (∀ s ∈ l, (y ∈ nmT a b s ↔ y ∈ clT a b s)) → ∀ out, (y ∈ nmS a b l out ↔ y ∈ out ∨ y ∈ clS a b l) := by
    intro l
    induction l with
    | nil => intro _ out; simp [nmS, clS]
    | cons t ts iht =>
      intro hl out
      simp only [nmS, clS, List.mem_append]
      rw [iht (fun s hs => hl s (by simp [hs])), fold_mem, hl t (by simp)]
      exact or_assoc
  simp only [nmT, clT, List.mem_append]
  exact this sub ih _
theorem nm_asc (a b : Int) : ∀ t : Tm, (nmT a b t).Pairwise (· < ·)
  | .mk k n sub => by
    have : ∀ (l : List Tm) (out : List Int), out.Pairwise (· < ·) → (nmS a b l out).Pairwise (· < ·) := by
      intro l
      induction l with
      | nil => intro out h; simpa only [nmS] using h
      | cons t ts iht => intro out h; simp only [nmS]; exact iht _ (fold_asc _ _ h)
    simp only [nmT]
    refine this sub _ ?_
    split
    · exact List.pairwise_singleton _ _
    · exact List.Pairwise.nil
/-- the program's numbers are the document's -/
theorem rise_nm (a b : Int) (t : Tm) : compact ((clT a b t).mergeSort fun x y => decide (x ≤ y)) = nmT a b t := by
  obtain ⟨h1, h2⟩ := rise_asc (clT a b t)
  exact asc_ext _ _ h1 (nm_asc a b t) fun y => by rw [h2 y, nm_cl]
def enT (a b : Int) (t : Tm) : List Int := if shapedB t = true then nmT a b t else []
end Go.Proofs.Ytfnfbbmegdkhjaa

namespace Go.Proofs.Ytfnfbbmegdkhjaa
open Go.RowKit
set_option maxRecDepth 100000
theorem wr64 {n : Int} (h0 : -9223372036854775808 ≤ n) (h1 : n ≤ 9223372036854775807) : IntKind.i64.wrap n = n := IntWalk.i64_in _ (by omega)
set_option maxHeartbeats 4000000 in
theorem tsize_p : ∀ (t : Tm) (h : Int), 0 ≤ h → h ≤ 8192 → PCalls Try.prog 159 [aggD t, .d (.v (.int .i64 h))] [] fun p s => p = .d (.v (.int .i64 (cszT t h))) ∧ s = [] := by
  refine Tm.ind ?_
  intro k n sub ih h h0 h1
  have hw := wr64 (n := h + 1) (by omega) (by omega)
  have HR := Lib.hid (show cszT (.mk k n sub) h = cszL sub (h + 1) by simp only [cszT])
  generalize cszT (.mk k n sub) h = R at *
  simp only [aggD, Jk, List.map_cons, List.map_nil, Ju, Jv, Jw]
  have IH := Lib.hid ih
  clear ih
  refine PCalls.enter Try.func159 rfl Try.ntmps159 (by simp) ?_
  simp only [argsF]
  refine go_ ?_
  refine Jc ?_
  intro i0 hi0
  try simp only [Rh, Rg, Rf, Ja] at hi0
  refine go_ ?_
  refine PW_slen (t := 10) (rows := sub.map encD) (by simp [PF.get] <;> rfl) rfl fun hl => ?_
  rw [List.length_map] at hl
  refine PW_loop (ι := Nat × Int) (fun y => y.1 ≤ sub.length ∧ 0 ≤ y.2 ∧ y.2 ≤ 8193 ∧ Hid (R = cszL (sub.drop y.1) y.2)) (fun y => [(1, .d (.v (.int .i64 y.2))), (10, .d (.sl (sub.map encD))), (11, .d (.v (.int .i64 sub.length))), (12, .d (.v (.int .i64 (y.1 : Int))))]) (fun _ => []) (fun y => sub.length - y.1) (0, h + 1) ⟨Nat.zero_le _, by simp only; omega, by simp only; omega, HR.out⟩ ?_ ?_ ?_
  · repeat (first | exact Js _ | refine Jr (by simp [PF.get]; rfl) (by first | rfl | (simp [*]; done) | fail) ?_)
  · repeat (first | exact List.Sublist.refl _ | exact List.nil_sublist _ | refine List.Sublist.cons_cons _ ?_ | refine List.Sublist.cons _ ?_)
  · rintro ⟨j, x⟩ ⟨hj, hx0, hx1, hR⟩
    simp only at hj hx0 hx1 hR ⊢
    unfold maxLen at hl
    clear h0 h1 hw HR
    by_cases hlt : j < sub.length
    · have hx := get_enc hlt
      have hc : (j : Int) < sub.length := by omega
      have hn : (0 : Int) ≤ j := by omega
      have hin := wr64 (n := (j : Int) + 1) (by omega) (by omega)
      by_cases hb : 8192 < x
      · have hf : Hid (R = x) := by rw [show R = _ from hR.out]; exact cszL_big _ _ hb
        refine go_ ?_
        refine Jd ?_
        intro i2 hi2
        try simp only [Rh, Rg, Rf, Ja] at hi2
        refine go_ ?_
        refine Rc ?_
        refine go_ ?_
        refine Jl (by simp) (by simp only [Try.results159]; rfl) (by simp [resP, St.box?, PF.get, Jm, TyK.agg, *]; rfl) (List.nil_sublist _) ?_
        exact ⟨by rw [hf.out]; rfl, rfl⟩
      · have hR2 : Hid (R = cszL (sub.drop (j + 1)) (cszT sub[j] x)) := by
          rw [show R = _ from hR.out, List.drop_eq_getElem_cons hlt]
          show _ = _
          simp only [cszL]
          rw [if_neg hb]
        have hb2 := csz_bd sub[j] x hx0 (by omega)
        have hc1 := Lib.hid (IH.out _ (List.getElem_mem hlt) x hx0 (by omega))
        generalize cszT sub[j] x = x' at *
        refine go_ ?_
        refine Jd ?_
        intro i2 hi2
        try simp only [Rh, Rg, Rf, Ja] at hi2
        refine go_ ?_
        refine Rc ?_
        refine go_ ?_
        refine Jb (hc1.out) ?_
        refine go_ ?_
        exact ⟨(j + 1, x'), ⟨hlt, by omega, by omega, hR2⟩, by simp only; omega, by repeat (first | exact Js _ | refine Jr (by simp [PF.get]; rfl) (by first | rfl | (simp [*]; done) | fail) ?_), by repeat (first | exact List.Sublist.refl _ | exact List.nil_sublist _ | refine List.Sublist.cons_cons _ ?_ | refine List.Sublist.cons _ ?_)⟩
    · have hc : ¬ (j : Int) < sub.length := by omega
      have hf : Hid (R = x) := by rw [show R = _ from hR.out, List.drop_of_length_le (by omega)]; rfl
      refine go_ ?_
      refine Jl (by simp) (by simp only [Try.results159]; rfl) (by simp [resP, St.box?, PF.get, Jm, TyK.agg, *]; rfl) (List.nil_sublist _) ?_
      exact ⟨by rw [hf.out]; rfl, rfl⟩
theorem tSize_p (t : Tm) : PCalls Try.prog 140 [aggD t] [] fun p s => p = .d (.v (.int .i64 (csizeT t))) ∧ s = [] := by
  have hc := Lib.hid (tsize_p t 0 (by decide) (by decide))
  have HR := Lib.hid (show cszT t 0 = csizeT t from rfl)
  rw [HR.out] at hc
  simp only [aggD, Jk, List.map_cons, List.map_nil]
  refine PCalls.enter Try.func140 rfl Try.ntmps140 (by simp) ?_
  simp only [argsF]
  refine go_ ?_
  refine Jc ?_
  intro i0 hi0
  refine go_ ?_
  refine Jb (hc.out) ?_
  refine go_ ?_
  refine Jl (by simp) (by simp only [Try.results140]; rfl) (by simp [resP, St.box?, PF.get, Jm, TyK.agg, *]; rfl) (List.nil_sublist _) ?_
  exact ⟨rfl, rfl⟩
set_option maxHeartbeats 4000000 in
theorem tdeep_p : ∀ (t : Tm) (h : Int), 0 ≤ h → h ≤ 129 → PCalls Try.prog 141 [aggD t, .d (.v (.int .i64 h))] [] fun p s => p = .d (.v (.int .i64 (cdpT t h))) ∧ s = [] := by
  refine Tm.ind ?_
  intro k n sub ih h h0 h1
  have hw := wr64 (n := h + 1) (by omega) (by omega)
  have HR := Lib.hid (show cdpT (.mk k n sub) h = if 128 < h then h else cdpL sub h h by simp only [cdpT])
  generalize cdpT (.mk k n sub) h = R at *
  simp only [aggD, Jk, List.map_cons, List.map_nil, Ju, Jv, Jw]
  have IH := Lib.hid ih
  clear ih
  by_cases hb : 128 < h
  · have hf : Hid (R = h) := by rw [show R = _ from HR.out, if_pos hb]; rfl
    refine PCalls.enter Try.func141 rfl Try.ntmps141 (by simp) ?_
    simp only [argsF]
    refine go_ ?_
    refine Jc ?_
    intro i0 hi0
    try simp only [Rh, Rg, Rf, Ja] at hi0
    refine go_ ?_
    refine Jl (by simp) (by simp only [Try.results141]; rfl) (by simp [resP, St.box?, PF.get, Jm, TyK.agg, *]; rfl) (List.nil_sublist _) ?_
    exact ⟨by rw [hf.out]; rfl, rfl⟩
  · have HR2 : Hid (R = cdpL sub h h) := by rw [show R = _ from HR.out, if_neg hb]; rfl
    refine PCalls.enter Try.func141 rfl Try.ntmps141 (by simp) ?_
    simp only [argsF]
    refine go_ ?_
    refine Jc ?_
    intro i0 hi0
    try simp only [Rh, Rg, Rf, Ja] at hi0
    refine go_ ?_
    refine PW_slen (t := 13) (rows := sub.map encD) (by simp [PF.get] <;> rfl) rfl fun hl => ?_
    rw [List.length_map] at hl
    refine PW_loop (ι := Nat × Int) (fun y => y.1 ≤ sub.length ∧ 0 ≤ y.2 ∧ y.2 ≤ 129 ∧ Hid (R = cdpL (sub.drop y.1) h y.2)) (fun y => [(1, .d (.v (.int .i64 h))), (5, .d (.v (.int .i64 y.2))), (13, .d (.sl (sub.map encD))), (14, .d (.v (.int .i64 sub.length))), (15, .d (.v (.int .i64 (y.1 : Int))))]) (fun _ => []) (fun y => sub.length - y.1) (0, h) ⟨Nat.zero_le _, by simp only; omega, by simp only; omega, HR2.out⟩ ?_ ?_ ?_
    · repeat (first | exact Js _ | refine Jr (by simp [PF.get]; rfl) (by first | rfl | (simp [*]; done) | fail) ?_)
    · repeat (first | exact List.Sublist.refl _ | exact List.nil_sublist _ | refine List.Sublist.cons_cons _ ?_ | refine List.Sublist.cons _ ?_)
    · rintro ⟨j, x⟩ ⟨hj, hx0, hx1, hR⟩
      simp only at hj hx0 hx1 hR ⊢
      unfold maxLen at hl
      by_cases hlt : j < sub.length
      · have hx := get_enc hlt
        have hc : (j : Int) < sub.length := by omega
        have hn : (0 : Int) ≤ j := by omega
        have hin := wr64 (n := (j : Int) + 1) (by omega) (by omega)
        have hR2 : Hid (R = cdpL (sub.drop (j + 1)) h (max x (cdpT sub[j] (h + 1)))) := by
          rw [show R = _ from hR.out, List.drop_eq_getElem_cons hlt]
          show _ = _
          simp only [cdpL]
        have hb2 := cdp_bd sub[j] (h + 1) (by omega)
        have hc1 := Lib.hid (IH.out _ (List.getElem_mem hlt) (h + 1) (by omega) (by omega))
        generalize cdpT sub[j] (h + 1) = x' at *
        have hmx : 0 ≤ max x x' ∧ max x x' ≤ 129 := by omega
        refine go_ ?_
        refine Jd ?_
        intro i2 hi2
        try simp only [Rh, Rg, Rf, Ja] at hi2
        refine go_ ?_
        refine Rc ?_
        refine go_ ?_
        refine Jb (hc1.out) ?_
        refine go_ ?_
        refine POps_max (max x x') (cmax_if x x').symm ?_
        refine go_ ?_
        exact ⟨(j + 1, max x x'), ⟨hlt, hmx.1, hmx.2, hR2⟩, by simp only; omega, by repeat (first | exact Js _ | refine Jr (by simp [PF.get]; rfl) (by first | rfl | (simp [*]; done) | fail) ?_), by repeat (first | exact List.Sublist.refl _ | exact List.nil_sublist _ | refine List.Sublist.cons_cons _ ?_ | refine List.Sublist.cons _ ?_)⟩
      · have hc : ¬ (j : Int) < sub.length := by omega
        have hf : Hid (R = x) := by rw [show R = _ from hR.out, List.drop_of_length_le (by omega)]; rfl
        refine go_ ?_
        refine Jl (by simp) (by simp only [Try.results141]; rfl) (by simp [resP, St.box?, PF.get, Jm, TyK.agg, *]; rfl) (List.nil_sublist _) ?_
        exact ⟨by rw [hf.out]; rfl, rfl⟩
set_option maxHeartbeats 4000000 in
theorem tDepth_p (t : Tm) : PCalls Try.prog 113 [aggD t] [] fun p s => p = .d (.v (.int .i64 (cdepthT t))) ∧ s = [] := by
  have hS := Lib.hid (tSize_p t)
  have hD := Lib.hid (tdeep_p t 1 (by decide) (by decide))
  have HR := Lib.hid (show cdepthT t = if 8192 < csizeT t then 129 else cdpT t 1 from rfl)
  generalize csizeT t = z at *
  simp only [aggD, Jk, List.map_cons, List.map_nil]
  by_cases hz : 8192 < z
  · rw [HR.out, if_pos hz]
    refine PCalls.enter Try.func113 rfl Try.ntmps113 (by simp) ?_
    simp only [argsF]
    refine go_ ?_
    refine Jc ?_
    intro i0 hi0
    refine go_ ?_
    refine Jb (hS.out) ?_
    refine go_ ?_
    refine Jl (by simp) (by simp only [Try.results113]; rfl) (by simp [resP, St.box?, PF.get, Jm, TyK.agg, *]; rfl) (List.nil_sublist _) ?_
    exact ⟨rfl, rfl⟩
  · rw [HR.out, if_neg hz]
    refine PCalls.enter Try.func113 rfl Try.ntmps113 (by simp) ?_
    simp only [argsF]
    refine go_ ?_
    refine Jc ?_
    intro i0 hi0
    refine go_ ?_
    refine Jb (hS.out) ?_
    refine go_ ?_
    refine Jb (hD.out) ?_
    refine go_ ?_
    refine Jl (by simp) (by simp only [Try.results113]; rfl) (by simp [resP, St.box?, PF.get, Jm, TyK.agg, *]; rfl) (List.nil_sublist _) ?_
    exact ⟨rfl, rfl⟩
end Go.Proofs.Ytfnfbbmegdkhjaa

namespace Go.Proofs.Ytfnfbbmegdkhjaa
open Go.RowKit
set_option maxRecDepth 100000
theorem head_no {k n : Int} {sub : List Tm} (h : ¬ (1 ≤ k ∧ k ≤ 8 ∧ (sub.length : Int) = subsOf k ∧ 0 ≤ n ∧ n ≤ mostOf k ∧ (k ≠ 7 ∨ fst0 sub = 2))) : cheadB (.mk k n sub) = false := by
  unfold cheadB
  simp only [Ju, Jv, Jw]
  exact decide_eq_false h
theorem head_yes {k n : Int} {sub : List Tm} (h : 1 ≤ k ∧ k ≤ 8 ∧ (sub.length : Int) = subsOf k ∧ 0 ≤ n ∧ n ≤ mostOf k ∧ (k ≠ 7 ∨ fst0 sub = 2)) : cheadB (.mk k n sub) = true := by
  unfold cheadB
  simp only [Ju, Jv, Jw]
  exact decide_eq_true h
set_option maxHeartbeats 8000000 in
theorem thead_p (t : Tm) : PCalls Try.prog 142 [aggD t] [] fun p s => p = .d (.v (.bool (cheadB t))) ∧ s = [] := by
  obtain ⟨k, n, sub⟩ := t
  simp only [aggD, Jk, List.map_cons, List.map_nil, Ju, Jv, Jw]
  by_cases h1 : k < 1
  · rw [head_no (by omega)]
    refine PCalls.enter Try.func142 rfl Try.ntmps142 (by simp) ?_
    simp only [argsF]
    refine go_ ?_
    refine Jc ?_
    intro i0 hi0
    refine go_ ?_
    refine Jl (by simp) (by simp only [Try.results142]; rfl) (by simp [resP, St.box?, PF.get, Jm, TyK.agg, *]; rfl) (List.nil_sublist _) ?_
    exact ⟨rfl, rfl⟩
  by_cases h8 : 8 < k
  · rw [head_no (by omega)]
    refine PCalls.enter Try.func142 rfl Try.ntmps142 (by simp) ?_
    simp only [argsF]
    refine go_ ?_
    refine Jc ?_
    intro i0 hi0
    refine go_ ?_
    refine Jl (by simp) (by simp only [Try.results142]; rfl) (by simp [resP, St.box?, PF.get, Jm, TyK.agg, *]; rfl) (List.nil_sublist _) ?_
    exact ⟨rfl, rfl⟩
  have hk : k = 1 ∨ k = 2 ∨ k = 3 ∨ k = 4 ∨ k = 5 ∨ k = 6 ∨ k = 7 ∨ k = 8 := by omega
  by_cases hl : (sub.length : Int) = subsOf k
  · by_cases h0 : 0 ≤ n
    · by_cases hm : n ≤ mostOf k
      · by_cases h7 : k = 7
        · subst h7
          match sub, show sub.length = 1 by simp [subsOf] at hl; omega with
          | [x], _ =>
          have HR : Hid (cheadB (.mk 7 n [x]) = (x.kind == 2)) := by
            by_cases hx : x.kind = 2
            · rw [head_yes (k := 7) (n := n) (sub := [x]) ⟨by omega, by omega, rfl, h0, hm, .inr hx⟩, hx]; rfl
            · rw [head_no (k := 7) (n := n) (sub := [x]) (fun h => hx (h.2.2.2.2.2.resolve_left (fun h => h rfl)))]
              exact (beq_eq_false_iff_ne.2 hx).symm
          rw [HR.out]
          simp only [mostOf, Int.reduceEq, reduceIte, or_false, or_true, or_self] at hm
          clear HR hl hk h1 h8
          refine PCalls.enter Try.func142 rfl Try.ntmps142 (by simp) ?_
          simp only [argsF]
          refine go_ ?_
          refine Jc ?_
          intro i0 hi0
          refine go_ ?_
          refine Jl (by simp) (by simp only [Try.results142]; rfl) (by simp [resP, St.box?, PF.get, Jm, TyK.agg, *]; rfl) (List.nil_sublist _) ?_
          exact ⟨rfl, rfl⟩
        · rw [head_yes ⟨by omega, by omega, hl, h0, hm, .inl h7⟩]
          refine PCalls.enter Try.func142 rfl Try.ntmps142 (by simp) ?_
          simp only [argsF]
          refine go_ ?_
          refine Jc ?_
          intro i0 hi0
          refine go_ ?_
          refine Qq (p := .d (.v (.int .i64 (subsOf k)))) ?_ (he := by (try clear hl); (try clear hl1); (try clear h0); (try clear hm); (try clear h7'); (try clear h7); clear h1 h8; rcases hk with rfl | rfl | rfl | rfl | rfl | rfl | rfl | rfl <;> (simp [subsOf, mostOf, nev, nevA, PF.eval, PF.get, cPV, partA, TyK.agg] <;> rfl))
          refine go_ ?_
          refine Qq (p := .d (.v (.int .i64 (mostOf k)))) ?_ (he := by (try clear hl); (try clear hl1); (try clear h0); (try clear hm); (try clear h7'); (try clear h7); clear h1 h8; rcases hk with rfl | rfl | rfl | rfl | rfl | rfl | rfl | rfl <;> (simp [subsOf, mostOf, nev, nevA, PF.eval, PF.get, cPV, partA, TyK.agg] <;> rfl))
          refine go_ ?_
          refine Jl (by simp) (by simp only [Try.results142]; rfl) (by simp [resP, St.box?, PF.get, Jm, TyK.agg, *]; rfl) (List.nil_sublist _) ?_
          exact ⟨rfl, rfl⟩
      · rw [head_no (fun h => hm h.2.2.2.2.1)]
        refine PCalls.enter Try.func142 rfl Try.ntmps142 (by simp) ?_
        simp only [argsF]
        refine go_ ?_
        refine Jc ?_
        intro i0 hi0
        refine go_ ?_
        refine Qq (p := .d (.v (.int .i64 (subsOf k)))) ?_ (he := by (try clear hl); (try clear hl1); (try clear h0); (try clear hm); (try clear h7'); (try clear h7); clear h1 h8; rcases hk with rfl | rfl | rfl | rfl | rfl | rfl | rfl | rfl <;> (simp [subsOf, mostOf, nev, nevA, PF.eval, PF.get, cPV, partA, TyK.agg] <;> rfl))
        refine go_ ?_
        refine Qq (p := .d (.v (.int .i64 (mostOf k)))) ?_ (he := by (try clear hl); (try clear hl1); (try clear h0); (try clear hm); (try clear h7'); (try clear h7); clear h1 h8; rcases hk with rfl | rfl | rfl | rfl | rfl | rfl | rfl | rfl <;> (simp [subsOf, mostOf, nev, nevA, PF.eval, PF.get, cPV, partA, TyK.agg] <;> rfl))
        refine go_ ?_
        refine Jl (by simp) (by simp only [Try.results142]; rfl) (by simp [resP, St.box?, PF.get, Jm, TyK.agg, *]; rfl) (List.nil_sublist _) ?_
        exact ⟨rfl, rfl⟩
    · rw [head_no (fun h => h0 h.2.2.2.1)]
      refine PCalls.enter Try.func142 rfl Try.ntmps142 (by simp) ?_
      simp only [argsF]
      refine go_ ?_
      refine Jc ?_
      intro i0 hi0
      refine go_ ?_
      refine Qq (p := .d (.v (.int .i64 (subsOf k)))) ?_ (he := by (try clear hl); (try clear hl1); (try clear h0); (try clear hm); (try clear h7'); (try clear h7); clear h1 h8; rcases hk with rfl | rfl | rfl | rfl | rfl | rfl | rfl | rfl <;> (simp [subsOf, mostOf, nev, nevA, PF.eval, PF.get, cPV, partA, TyK.agg] <;> rfl))
      refine go_ ?_
      refine Qq (p := .d (.v (.int .i64 (mostOf k)))) ?_ (he := by (try clear hl); (try clear hl1); (try clear h0); (try clear hm); (try clear h7'); (try clear h7); clear h1 h8; rcases hk with rfl | rfl | rfl | rfl | rfl | rfl | rfl | rfl <;> (simp [subsOf, mostOf, nev, nevA, PF.eval, PF.get, cPV, partA, TyK.agg] <;> rfl))
      refine go_ ?_
      refine Jl (by simp) (by simp only [Try.results142]; rfl) (by simp [resP, St.box?, PF.get, Jm, TyK.agg, *]; rfl) (List.nil_sublist _) ?_
      exact ⟨rfl, rfl⟩
  · rw [head_no (fun h => hl h.2.2.1)]
    refine PCalls.enter Try.func142 rfl Try.ntmps142 (by simp) ?_
    simp only [argsF]
    refine go_ ?_
    refine Jc ?_
    intro i0 hi0
    refine go_ ?_
    refine Qq (p := .d (.v (.int .i64 (subsOf k)))) ?_ (he := by (try clear hl); (try clear hl1); (try clear h0); (try clear hm); (try clear h7'); (try clear h7); clear h1 h8; rcases hk with rfl | rfl | rfl | rfl | rfl | rfl | rfl | rfl <;> (simp [subsOf, mostOf, nev, nevA, PF.eval, PF.get, cPV, partA, TyK.agg] <;> rfl))
    refine go_ ?_
    refine Qq (p := .d (.v (.int .i64 (mostOf k)))) ?_ (he := by (try clear hl); (try clear hl1); (try clear h0); (try clear hm); (try clear h7'); (try clear h7); clear h1 h8; rcases hk with rfl | rfl | rfl | rfl | rfl | rfl | rfl | rfl <;> (simp [subsOf, mostOf, nev, nevA, PF.eval, PF.get, cPV, partA, TyK.agg] <;> rfl))
    refine go_ ?_
    refine Jl (by simp) (by simp only [Try.results142]; rfl) (by simp [resP, St.box?, PF.get, Jm, TyK.agg, *]; rfl) (List.nil_sublist _) ?_
    exact ⟨rfl, rfl⟩
set_option maxHeartbeats 4000000 in
theorem tgood_p : ∀ (t : Tm), PCalls Try.prog 114 [aggD t] [] fun p s => p = .d (.v (.bool (goodB t))) ∧ s = [] := by
  refine Tm.ind ?_
  intro k n sub ih
  have HH := Lib.hid (thead_p (.mk k n sub))
  have HR := Lib.hid (show goodB (.mk k n sub) = (cheadB (.mk k n sub) && cgoodL sub) by simp only [goodB])
  generalize goodB (.mk k n sub) = R at *
  generalize cheadB (.mk k n sub) = hb at *
  have hh := HH.out
  simp only [aggD, Jk, List.map_cons, List.map_nil, Ju, Jv, Jw] at hh ⊢
  clear HH
  have HH := Lib.hid hh
  clear hh
  have IH := Lib.hid ih
  clear ih
  cases hb with
  | false =>
    have hf : Hid (R = false) := by rw [show R = _ from HR.out]; rfl
    refine PCalls.enter Try.func114 rfl Try.ntmps114 (by simp) ?_
    simp only [argsF]
    refine go_ ?_
    refine Jc ?_
    intro i0 hi0
    refine go_ ?_
    refine Jb (HH.out) ?_
    refine go_ ?_
    refine Jl (by simp) (by simp only [Try.results114]; rfl) (by simp [resP, St.box?, PF.get, Jm, TyK.agg, *]; rfl) (List.nil_sublist _) ?_
    exact ⟨by rw [hf.out]; rfl, rfl⟩
  | true =>
    have HR2 : Hid (R = cgoodL sub) := by rw [show R = _ from HR.out]; rfl
    refine PCalls.enter Try.func114 rfl Try.ntmps114 (by simp) ?_
    simp only [argsF]
    refine go_ ?_
    refine Jc ?_
    intro i0 hi0
    refine go_ ?_
    refine Jb (HH.out) ?_
    refine go_ ?_
    refine PW_slen (t := 9) (rows := sub.map encD) (by simp [PF.get] <;> rfl) rfl fun hl => ?_
    rw [List.length_map] at hl
    refine PW_loop (ι := Nat) (fun y => y ≤ sub.length ∧ Hid (R = cgoodL (sub.drop y))) (fun y => [(9, .d (.sl (sub.map encD))), (10, .d (.v (.int .i64 sub.length))), (11, .d (.v (.int .i64 (y : Int))))]) (fun _ => []) (fun y => sub.length - y) 0 ⟨Nat.zero_le _, HR2.out⟩ ?_ ?_ ?_
    · repeat (first | exact Js _ | refine Jr (by simp [PF.get]; rfl) (by first | rfl | (simp [*]; done) | fail) ?_)
    · repeat (first | exact List.Sublist.refl _ | exact List.nil_sublist _ | refine List.Sublist.cons_cons _ ?_ | refine List.Sublist.cons _ ?_)
    · rintro j ⟨hj, hR⟩
      unfold maxLen at hl
      clear HR HR2
      by_cases hlt : j < sub.length
      · have hx := get_enc hlt
        have hc : (j : Int) < sub.length := by omega
        have hn : (0 : Int) ≤ j := by omega
        have hin := wr64 (n := (j : Int) + 1) (by omega) (by omega)
        have hR2 : Hid (R = (goodB sub[j] && cgoodL (sub.drop (j + 1)))) := by
          rw [show R = _ from hR.out, List.drop_eq_getElem_cons hlt]
          show _ = _
          simp only [cgoodL]
        have hc1 := Lib.hid (IH.out _ (List.getElem_mem hlt))
        clear hR
        generalize goodB sub[j] = b at *
        cases b with
        | false =>
          have hf : Hid (R = false) := by rw [show R = _ from hR2.out]; rfl
          refine go_ ?_
          refine Jd ?_
          intro i2 hi2
          try simp only [Rh, Rg, Rf, Ja] at hi2
          refine go_ ?_
          refine Rc ?_
          refine go_ ?_
          refine Jb (hc1.out) ?_
          refine go_ ?_
          refine Jl (by simp) (by simp only [Try.results114]; rfl) (by simp [resP, St.box?, PF.get, Jm, TyK.agg, *]; rfl) (List.nil_sublist _) ?_
          exact ⟨by rw [hf.out]; rfl, rfl⟩
        | true =>
          have hR3 : Hid (R = cgoodL (sub.drop (j + 1))) := by rw [show R = _ from hR2.out]; rfl
          refine go_ ?_
          refine Jd ?_
          intro i2 hi2
          try simp only [Rh, Rg, Rf, Ja] at hi2
          refine go_ ?_
          refine Rc ?_
          refine go_ ?_
          refine Jb (hc1.out) ?_
          refine go_ ?_
          exact ⟨j + 1, ⟨hlt, hR3⟩, by omega, by repeat (first | exact Js _ | refine Jr (by simp [PF.get]; rfl) (by first | rfl | (simp [*]; done) | fail) ?_), by repeat (first | exact List.Sublist.refl _ | exact List.nil_sublist _ | refine List.Sublist.cons_cons _ ?_ | refine List.Sublist.cons _ ?_)⟩
      · have hc : ¬ (j : Int) < sub.length := by omega
        have hf : Hid (R = true) := by rw [show R = _ from hR.out, List.drop_of_length_le (by omega)]; rfl
        refine go_ ?_
        refine Jl (by simp) (by simp only [Try.results114]; rfl) (by simp [resP, St.box?, PF.get, Jm, TyK.agg, *]; rfl) (List.nil_sublist _) ?_
        exact ⟨by rw [hf.out]; rfl, rfl⟩
set_option maxHeartbeats 4000000 in
theorem tshaped_p (t : Tm) : PCalls Try.prog 81 [aggD t] [] fun p s => p = .d (.v (.bool (shapedB t))) ∧ s = [] := by
  have hD := Lib.hid (tDepth_p t)
  have hG := Lib.hid (tgood_p t)
  have HR := Lib.hid (show shapedB t = (decide (cdepthT t ≤ 128) && goodB t) from rfl)
  generalize cdepthT t = z at *
  generalize goodB t = g at *
  simp only [aggD, Jk, List.map_cons, List.map_nil]
  by_cases hz : z ≤ 128
  · rw [HR.out]
    refine PCalls.enter Try.func81 rfl Try.ntmps81 (by simp) ?_
    simp only [argsF]
    refine go_ ?_
    refine Jc ?_
    intro i0 hi0
    refine go_ ?_
    refine Jb (hD.out) ?_
    refine go_ ?_
    refine Jb (hG.out) ?_
    refine go_ ?_
    refine Jl (by simp) (by simp only [Try.results81]; rfl) (by simp [resP, St.box?, PF.get, Jm, TyK.agg, *]; rfl) (List.nil_sublist _) ?_
    exact ⟨by simp [hz] <;> rfl, rfl⟩
  · rw [HR.out]
    refine PCalls.enter Try.func81 rfl Try.ntmps81 (by simp) ?_
    simp only [argsF]
    refine go_ ?_
    refine Jc ?_
    intro i0 hi0
    refine go_ ?_
    refine Jb (hD.out) ?_
    refine go_ ?_
    refine Jl (by simp) (by simp only [Try.results81]; rfl) (by simp [resP, St.box?, PF.get, Jm, TyK.agg, *]; rfl) (List.nil_sublist _) ?_
    exact ⟨by simp [hz] <;> rfl, rfl⟩
end Go.Proofs.Ytfnfbbmegdkhjaa

namespace Go.Proofs.Ytfnfbbmegdkhjaa
open Go.RowKit
set_option maxRecDepth 100000
theorem cnd_take {l : List Tm} {m : Nat} : min (m : Int) (cndL l) ≤ cndL (l.take m) := by
  by_cases h : l.length ≤ m
  · rw [List.take_of_length_le h]; omega
  · have := cndL_len (l.take m)
    rw [List.length_take] at this
    omega
theorem rows3 (l : List Tm) : ∀ row ∈ l.map encD, row.length = 3 := rows_of rfl
theorem get_last {α : Type} [Enc α] (a : List α) (x : α) : ((a ++ [x]).map encD)[a.length]? = some (encD x) := by simp
set_option maxHeartbeats 4000000 in
theorem rSize_p (t : Tm) : PCalls Try.prog 36 [aggD t] [] fun p s => p = .d (.v (.int .i64 (csizeT t))) ∧ s = [] := by
  have HR := Lib.hid (show csizeT t = min (0 + (cndL [t] : Int)) 8193 by unfold csizeT; rw [csz_nd t 0 (by decide) (by decide)]; simp only [cndL]; omega)
  generalize csizeT t = R at *
  simp only [aggD, Jk, List.map_cons, List.map_nil]
  refine PCalls.enter Try.func36 rfl Try.ntmps36 (by simp) ?_
  simp only [argsF]
  refine go_ ?_
  refine Jc ?_
  intro i0 hi0
  refine go_ ?_
  refine POps_bs_a ?_
  refine go_ ?_
  refine PW_loop (ι := List Tm × Nat) (fun y => y.2 ≤ 8193 ∧ y.1.length ≤ y.2 * 8193 + 1 ∧ Hid (R = min ((y.2 : Int) + cndL y.1) 8193)) (fun y => [(3, .d (.sl (y.1.map encD))), (4, .d (.v (.int .i64 (y.2 : Int))))]) (fun _ => []) (fun y => 8193 - y.2) ([t], 0) ⟨Nat.zero_le _, by simp, HR.out⟩ ?_ ?_ ?_
  · repeat (first | exact Js _ | refine Jr (by simp [PF.get]; rfl) (by first | rfl | (simp [*]; done) | fail) ?_)
  · repeat (first | exact List.Sublist.refl _ | exact List.nil_sublist _ | refine List.Sublist.cons_cons _ ?_ | refine List.Sublist.cons _ ?_)
  · rintro ⟨l, m⟩ ⟨hm, hll, hR⟩
    simp only at hm hll hR ⊢
    clear HR
    by_cases hl : l = []
    · subst hl
      have hf : Hid (R = m) := by rw [show R = _ from hR.out]; simp only [cndL]; show _ = _; omega
      refine go_ ?_
      refine Jl (by simp) (by simp only [Try.results36]; rfl) (by simp [resP, St.box?, PF.get, Jm, TyK.agg, *]; rfl) (List.nil_sublist _) ?_
      exact ⟨by rw [hf.out]; rfl, rfl⟩
    · obtain ⟨a, x, rfl⟩ : ∃ a x, l = a ++ [x] := by
        rcases List.eq_nil_or_concat l with h | ⟨a, x, h⟩
        · exact absurd h hl
        · exact ⟨a, x, by rw [h, List.concat_eq_append]⟩
      clear hl
      have hx := get_last a x
      have hal1 : a.length + 1 ≤ m * 8193 + 1 := by rw [List.length_append, List.length_singleton] at hll; exact hll
      have hal : a.length ≤ 100000000 := by omega
      have hw1 := wr64 (n := (a.length : Int)) (by omega) (by omega)
      have hw2 := wr64 (n := (m : Int) + 1) (by omega) (by omega)
      have hn2 : (0 : Int) ≤ (a.length : Int) := by omega
      by_cases hb : (m : Int) ≤ 8192
      · have hR2 : Hid (R = min (((m + 1 : Nat) : Int) + cndL (a ++ x.sub.take 8193)) 8193) := by
          rw [show R = _ from hR.out]
          have h1 := cnd_take (l := x.sub) (m := 8193)
          have h2 : cndL (x.sub.take 8193) ≤ cndL x.sub := by
            have := cndL_append (x.sub.take 8193) (x.sub.drop 8193)
            rw [List.take_append_drop] at this; omega
          rw [cndL_append, cndL_append]
          simp only [cndL, cnd_sub x]
          show _ = _
          omega
        have e1 : ∀ r, List.drop 0 (List.take a.length (List.map encD a ++ r)) = List.map encD a := fun r => by rw [List.drop_zero, List.take_left' (by simp)]
        have e2 : List.drop 0 (List.take (min x.sub.length 8193) (List.map encD x.sub)) = List.map encD (x.sub.take 8193) := by
          rw [List.drop_zero]
          rcases Nat.le_total x.sub.length 8193 with h | h
          · rw [Nat.min_eq_left h, List.take_of_length_le h, List.take_of_length_le (by simp)]
          · rw [Nat.min_eq_right h, List.map_take]
        have em : (if (8193 : Int) < (x.sub.length : Int) then (8193 : Int) else x.sub.length) = ((min x.sub.length 8193 : Nat) : Int) := by split <;> omega
        have htl : (x.sub.take 8193).length ≤ 8193 := by rw [List.length_take]; omega
        refine go_ ?_
        refine Jd ?_
        intro i1 hi1
        try simp only [Rh, Rg, Rf, Ja] at hi1
        refine go_ ?_
        refine Rc ?_
        refine go_ ?_
        refine PW_drawnJ (J := keepJ [(i1, _)]) [(1, .a), (2, .a), (3, .a), (4, .a), (5, .a), (7, .a), (8, .a), (9, .a), (10, .a), (11, .a), (12, .a), (13, .a), (0, .e), (6, .e), (14, .e), (15, .a)] (by kernel_rfl) (by rfl) (by kernel_rfl) (by (repeat (first | exact keepJ_nil _ | refine Jt (by simp [St.box?, *] <;> rfl) ?_))) ?_
        repeat (first | with_reducible refine PJ_nil ?_ | refine PJ_gn2 ?_ | refine PJ_s2 ?_ | refine PJ_b2 ?_)
        refine PJ_slice 0 a.length ?_ ?_ (e1 _)
        rotate_left
        · simpa using rows3 (a ++ [x])
        repeat (first | with_reducible refine PJ_nil ?_ | refine PJ_gn2 ?_ | refine PJ_s2 ?_ | refine PJ_b2 ?_)
        refine PJ_min (((min x.sub.length 8193 : Nat) : Int)) em ?_
        repeat (first | with_reducible refine PJ_nil ?_ | refine PJ_gn2 ?_ | refine PJ_s2 ?_ | refine PJ_b2 ?_)
        refine PJ_slice 0 (min x.sub.length 8193) ?_ ?_ e2
        rotate_left
        · exact rows3 _
        repeat (first | with_reducible refine PJ_nil ?_ | refine PJ_gn2 ?_ | refine PJ_s2 ?_ | refine PJ_b2 ?_)
        refine PJ_bs0 (fun g hg => by (repeat (first | exact keepJ_nil _ | refine Jt (by simp [St.box?, *] <;> rfl) ?_))) ?_
        intro g hg
        repeat (first | with_reducible refine PJ_nil ?_ | refine PJ_gn2 ?_ | refine PJ_s2 ?_ | refine PJ_b2 ?_)
        refine PJ_app a.length ?_ ?_ ?_ ?_ ?_
        · simp
        · simp
        · exact rows3 a
        · (repeat (first | exact keepJ_nil _ | refine Jt (by simp [St.box?, *] <;> rfl) ?_))
        repeat (first | with_reducible refine PJ_nil ?_ | refine PJ_gn2 ?_ | refine PJ_s2 ?_ | refine PJ_b2 ?_)
        refine PJ_app (a.length + (x.sub.take 8193).length) ?_ ?_ ?_ ?_ ?_
        · simp
        · simp
        · exact fun row h => rows3 x.sub row (List.mem_of_mem_take h)
        · (repeat (first | exact keepJ_nil _ | refine Jt (by simp [St.box?, *] <;> rfl) ?_))
        refine PJ_s2 ?_
        refine PJ_nil ?_
        refine Qj ?_
        refine PW_norm 3 (by simp [PF.get] <;> rfl) ?_
        refine go_ ?_
        refine ⟨(a ++ x.sub.take 8193, m + 1), ⟨by simp only; omega, by simp only; rw [List.length_append]; omega, hR2⟩, by simp only; omega, ?_, by repeat (first | exact List.Sublist.refl _ | exact List.nil_sublist _ | refine List.Sublist.cons_cons _ ?_ | refine List.Sublist.cons _ ?_)⟩
        simp only [PV.norm0]
        repeat (first | exact Js _ | refine Jr (by simp [PF.get]; rfl) (by first | rfl | (simp [hw2]; done) | fail) ?_)
      · have hf : Hid (R = m) := by rw [show R = _ from hR.out]; show _ = _; omega
        refine go_ ?_
        refine Jl (by simp) (by simp only [Try.results36]; rfl) (by simp [resP, St.box?, PF.get, Jm, TyK.agg, *]; rfl) (List.nil_sublist _) ?_
        exact ⟨by rw [hf.out]; rfl, rfl⟩
theorem cdep_hg (t : Tm) (h : ¬ 8192 < csizeT t) : cdepthT t = min ((0 : Int) + chgL [t]) 129 := by
  unfold cdepthT
  rw [if_neg h, cdp_hg t 1 (by decide) (by decide)]
  simp only [chgL]
  omega
theorem size_nd (t : Tm) : csizeT t = min (cndT t : Int) 8193 := by
  unfold csizeT
  rw [csz_nd t 0 (by decide) (by decide)]; omega
set_option maxHeartbeats 4000000 in
theorem rDepth_p (t : Tm) : PCalls Try.prog 54 [aggD t] [] fun p s => p = .d (.v (.int .i64 (cdepthT t))) ∧ s = [] := by
  have hS := Lib.hid (rSize_p t)
  by_cases hz : 8192 < csizeT t
  · have hR : cdepthT t = 129 := by unfold cdepthT; rw [if_pos hz]
    rw [hR]
    generalize csizeT t = z at *
    simp only [aggD, Jk, List.map_cons, List.map_nil]
    refine PCalls.enter Try.func54 rfl Try.ntmps54 (by simp) ?_
    simp only [argsF]
    refine go_ ?_
    refine Jc ?_
    intro i0 hi0
    refine go_ ?_
    refine Jb (hS.out) ?_
    refine go_ ?_
    refine Jl (by simp) (by simp only [Try.results54]; rfl) (by simp [resP, St.box?, PF.get, Jm, TyK.agg, *]; rfl) (List.nil_sublist _) ?_
    exact ⟨rfl, rfl⟩
  · have HR := Lib.hid (cdep_hg t hz)
    have hnd : cndL [t] ≤ 8192 := by have := size_nd t; simp only [cndL]; omega
    generalize csizeT t = z at *
    generalize cdepthT t = R at *
    simp only [aggD, Jk, List.map_cons, List.map_nil]
    refine PCalls.enter Try.func54 rfl Try.ntmps54 (by simp) ?_
    simp only [argsF]
    refine go_ ?_
    refine Jc ?_
    intro i0 hi0
    refine go_ ?_
    refine Jb (hS.out) ?_
    refine go_ ?_
    refine POps_bs_a ?_
    refine go_ ?_
    refine PW_loop (ι := List Tm × Nat) (fun y => y.2 ≤ 129 ∧ cndL y.1 ≤ 8192 ∧ Hid (R = min ((y.2 : Int) + chgL y.1) 129)) (fun y => [(3, .d (.sl (y.1.map encD))), (4, .d (.v (.int .i64 (y.2 : Int))))]) (fun _ => []) (fun y => 129 - y.2) ([t], 0) ⟨Nat.zero_le _, hnd, HR.out⟩ ?_ ?_ ?_
    · repeat (first | exact Js _ | refine Jr (by simp [PF.get]; rfl) (by first | rfl | (simp [*]; done) | fail) ?_)
    · repeat (first | exact List.Sublist.refl _ | exact List.nil_sublist _ | refine List.Sublist.cons_cons _ ?_ | refine List.Sublist.cons _ ?_)
    · rintro ⟨l, m⟩ ⟨hm, hnd, hR⟩
      simp only at hm hnd hR ⊢
      clear HR
      by_cases hl : l = []
      · subst hl
        have hf : Hid (R = m) := by rw [show R = _ from hR.out]; simp only [chgL]; show _ = _; omega
        refine go_ ?_
        refine Jl (by simp) (by simp only [Try.results54]; rfl) (by simp [resP, St.box?, PF.get, Jm, TyK.agg, *]; rfl) (List.nil_sublist _) ?_
        exact ⟨by rw [hf.out]; rfl, rfl⟩
      · have hpos : 0 < l.length := List.length_pos_iff.2 hl
        by_cases hb : (m : Int) < 129
        · have hw2 := wr64 (n := (m : Int) + 1) (by omega) (by omega)
          have hll : l.length ≤ 8192 := Nat.le_trans (cndL_len l) hnd
          have hR2 : Hid (R = min (((m + 1 : Nat) : Int) + chgL (clvl l)) 129) := by
            rw [show R = _ from hR.out, clvl_hg l hl]
            show _ = _
            omega
          have hnd2 : cndL (clvl l) ≤ 8192 := Nat.le_trans (clvl_nd l) hnd
          clear hR
          have hl' := hl
          refine go_ ?_
          refine POps_bs0 ?_ (by decide) (by first | (simp [nev, nevA, nevB, Jo, PF.eval, PF.get, PF.wants, cPV, cCell, PV.rows, evBin, evUn, Jp, evLen, loadA, Jm, TyK.agg, partA, St.box?, St.tok?, St.setBox, St.setTok, fillO, spl, PV.ps, PV.one, Jn, aggD, slD, Jg, Jj, Jh, Ji, Jf, Je, *]; done) | fail) (by simp; rfl) (by rfl) (by simp; rfl) (by rfl) (by decide)
          intro g hg
          refine go_ ?_
          refine PW_loop (ι := Nat) (fun y => y ≤ l.length) (fun y => [(3, .d (.sl (l.map encD))), (4, .d (.v (.int .i64 (m : Int)))), (5, .own g ((clvl (l.take y)).map encD)), (6, .d (.v (.int .i64 (y : Int))))]) (fun y => [.tok g 28 3 (clvl (l.take y)).length]) (fun y => l.length - y) 0 (Nat.zero_le _) ?_ ?_ ?_
          · repeat (first | exact Js _ | refine Jr (by simp [PF.get]; rfl) (by first | rfl | (simp [*]; done) | fail) ?_)
          · repeat (first | exact List.Sublist.refl _ | exact List.nil_sublist _ | refine List.Sublist.cons_cons _ ?_ | refine List.Sublist.cons _ ?_)
          · rintro k hk
            by_cases hlt : k < l.length
            · have hx := get_enc hlt
              have hc : (k : Int) < l.length := by omega
              have hn : (0 : Int) ≤ k := by omega
              have hin := wr64 (n := (k : Int) + 1) (by omega) (by omega)
              have ht := clvl_take l k hlt
              have hlen : (clvl (l.take (k + 1))).length ≤ 8192 := Nat.le_trans (cndL_len _) (Nat.le_trans (clvl_nd _) (Nat.le_trans (cndL_take l (k + 1)) hnd))
              have HT := Lib.hid ht
              rw [ht, List.length_append] at hlen
              clear ht
              refine go_ ?_
              refine POps_app_a ((clvl (l.take k)).length + l[k].sub.length) ?_ ?_ ?_ ?_
              · simp
              · exact rows3 _
              · exact rows3 _
              refine go_ ?_
              refine ⟨k + 1, hlt, by omega, ?_, ?_⟩
              · rw [HT.out]
                repeat (first | exact Js _ | refine Jr (by simp [PF.get]; rfl) (by first | rfl | (simp [*]; done) | fail) ?_)
              · rw [HT.out, List.length_append]
                repeat (first | exact List.Sublist.refl _ | exact List.nil_sublist _ | refine List.Sublist.cons_cons _ ?_ | refine List.Sublist.cons _ ?_)
            · have hc : ¬ (k : Int) < l.length := by omega
              have htk : l.take k = l := List.take_of_length_le (by omega)
              rw [htk]
              refine gs_ ?_
              refine Qc ?_
              refine gs_ ?_
              refine PW_norm 5 (by simp [PF.get] <;> rfl) ?_
              refine go_ ?_
              refine ⟨(clvl l, m + 1), ⟨by simp only; omega, hnd2, hR2⟩, by simp only; omega, ?_, by repeat (first | exact List.Sublist.refl _ | exact List.nil_sublist _ | refine List.Sublist.cons_cons _ ?_ | refine List.Sublist.cons _ ?_)⟩
              simp only [PV.norm0]
              repeat (first | exact Js _ | refine Jr (by simp [PF.get]; rfl) (by first | rfl | (simp [hw2]; done) | fail) ?_)
        · have hf : Hid (R = m) := by rw [show R = _ from hR.out]; show _ = _; omega
          refine go_ ?_
          refine Jl (by simp) (by simp only [Try.results54]; rfl) (by simp [resP, St.box?, PF.get, Jm, TyK.agg, *]; rfl) (List.nil_sublist _) ?_
          exact ⟨by rw [hf.out]; rfl, rfl⟩
end Go.Proofs.Ytfnfbbmegdkhjaa

namespace Go.Proofs.Ytfnfbbmegdkhjaa
open Go.RowKit
set_option maxRecDepth 100000
set_option maxHeartbeats 4000000 in
theorem tunder_p (t : Tm) (i : Int) : PCalls Try.prog 136 [aggD t, .d (.v (.int .i64 i))] [] fun p s => p = .d (.v (.int .i64 (undB t.kind i))) ∧ s = [] := by
  have HR := Lib.hid (show undB t.kind i = if i = 1 ∧ (t.kind = 3 ∨ t.kind = 4) then 1 else 0 from rfl)
  simp only [aggD, Jk, List.map_cons, List.map_nil]
  by_cases h1 : i = 1
  · by_cases h3 : t.kind = 3
    · have hf : Hid (undB t.kind i = 1) := by rw [show undB t.kind i = _ from HR.out, if_pos ⟨h1, .inl h3⟩]; rfl
      rw [hf.out]
      clear HR hf
      subst h1
      refine PCalls.enter Try.func136 rfl Try.ntmps136 (by simp) ?_
      simp only [argsF]
      refine go_ ?_
      refine Jc ?_
      intro i0 hi0
      refine go_ ?_
      refine Jl (by simp) (by simp only [Try.results136]; rfl) (by simp [resP, St.box?, PF.get, Jm, TyK.agg, *]; rfl) (List.nil_sublist _) ?_
      exact ⟨rfl, rfl⟩
    · by_cases h4 : t.kind = 4
      · have hf : Hid (undB t.kind i = 1) := by rw [show undB t.kind i = _ from HR.out, if_pos ⟨h1, .inr h4⟩]; rfl
        rw [hf.out]
        clear HR hf h3
        subst h1
        refine PCalls.enter Try.func136 rfl Try.ntmps136 (by simp) ?_
        simp only [argsF]
        refine go_ ?_
        refine Jc ?_
        intro i0 hi0
        refine go_ ?_
        refine Jl (by simp) (by simp only [Try.results136]; rfl) (by simp [resP, St.box?, PF.get, Jm, TyK.agg, *]; rfl) (List.nil_sublist _) ?_
        exact ⟨rfl, rfl⟩
      · have hf : Hid (undB t.kind i = 0) := by rw [show undB t.kind i = _ from HR.out, if_neg (fun h => h.2.elim h3 h4)]; rfl
        rw [hf.out]
        clear HR hf
        subst h1
        refine PCalls.enter Try.func136 rfl Try.ntmps136 (by simp) ?_
        simp only [argsF]
        refine go_ ?_
        refine Jc ?_
        intro i0 hi0
        refine go_ ?_
        refine Jl (by simp) (by simp only [Try.results136]; rfl) (by simp [resP, St.box?, PF.get, Jm, TyK.agg, *]; rfl) (List.nil_sublist _) ?_
        exact ⟨rfl, rfl⟩
  · have hf : Hid (undB t.kind i = 0) := by rw [show undB t.kind i = _ from HR.out, if_neg (fun h => h1 h.1)]; rfl
    rw [hf.out]
    clear HR hf
    refine PCalls.enter Try.func136 rfl Try.ntmps136 (by simp) ?_
    simp only [argsF]
    refine go_ ?_
    refine Jc ?_
    intro i0 hi0
    refine go_ ?_
    refine Jl (by simp) (by simp only [Try.results136]; rfl) (by simp [resP, St.box?, PF.get, Jm, TyK.agg, *]; rfl) (List.nil_sublist _) ?_
    exact ⟨rfl, rfl⟩
/-- the document's: how many binders more -/
def benB (k i : Int) : Int := if i = 1 ∧ k ≠ 5 then 1 else 0
set_option maxHeartbeats 4000000 in
theorem rbeneath_p (t : Tm) (i : Int) : PCalls Try.prog 73 [aggD t, .d (.v (.int .i64 i))] [] fun p s => p = .d (.v (.int .i64 (benB t.kind i))) ∧ s = [] := by
  have HR := Lib.hid (show benB t.kind i = if i = 1 ∧ t.kind ≠ 5 then 1 else 0 from rfl)
  simp only [aggD, Jk, List.map_cons, List.map_nil]
  by_cases h1 : i = 1
  · by_cases h3 : t.kind = 5
    · have hf : Hid (benB t.kind i = 0) := by rw [show benB t.kind i = _ from HR.out, if_neg (fun h => h.2 h3)]; rfl
      rw [hf.out]
      clear HR hf
      subst h1
      refine PCalls.enter Try.func73 rfl Try.ntmps73 (by simp) ?_
      simp only [argsF]
      refine go_ ?_
      refine Jc ?_
      intro i0 hi0
      refine go_ ?_
      refine Jl (by simp) (by simp only [Try.results73]; rfl) (by simp [resP, St.box?, PF.get, Jm, TyK.agg, *]; rfl) (List.nil_sublist _) ?_
      exact ⟨rfl, rfl⟩
    · have hf : Hid (benB t.kind i = 1) := by rw [show benB t.kind i = _ from HR.out, if_pos ⟨h1, h3⟩]; rfl
      rw [hf.out]
      clear HR hf
      subst h1
      refine PCalls.enter Try.func73 rfl Try.ntmps73 (by simp) ?_
      simp only [argsF]
      refine go_ ?_
      refine Jc ?_
      intro i0 hi0
      refine go_ ?_
      refine Jl (by simp) (by simp only [Try.results73]; rfl) (by simp [resP, St.box?, PF.get, Jm, TyK.agg, *]; rfl) (List.nil_sublist _) ?_
      exact ⟨rfl, rfl⟩
  · have hf : Hid (benB t.kind i = 0) := by rw [show benB t.kind i = _ from HR.out, if_neg (fun h => h1 h.1)]; rfl
    rw [hf.out]
    clear HR hf
    refine PCalls.enter Try.func73 rfl Try.ntmps73 (by simp) ?_
    simp only [argsF]
    refine go_ ?_
    refine Jc ?_
    intro i0 hi0
    refine go_ ?_
    refine Jl (by simp) (by simp only [Try.results73]; rfl) (by simp [resP, St.box?, PF.get, Jm, TyK.agg, *]; rfl) (List.nil_sublist _) ?_
    exact ⟨rfl, rfl⟩
/-- of terms that are good both are the same -/
theorem ben_und {k n : Int} {sub : List Tm} (h : goodB (.mk k n sub) = true) (j : Nat) (hj : j < sub.length) : benB k (j : Int) = undB k (j : Int) := by
  have h1 := head_num (good_parts h).1
  have hs : (sub.length : Int) = subsOf k := h1.2.2.2.2
  unfold benB undB
  by_cases e : (j : Int) = 1
  · have : k = 3 ∨ k = 4 ∨ k = 5 := by
      unfold subsOf at hs
      split at hs
      · assumption
      · split at hs <;> omega
    rcases this with rfl | rfl | rfl <;> simp [e]
  · rw [if_neg (fun h => e h.1), if_neg (fun h => e h.1)]
theorem ls_var {n b : Int} {sub : List Tm} : lsT (.mk 1 n sub) b = max 0 (n + 1 - b) := by simp only [lsT]; rfl
theorem ls_not {k n b : Int} {sub : List Tm} (h : ¬ k = 1) : lsT (.mk k n sub) b = lsL k sub 0 b 0 := by simp only [lsT]; rw [if_neg h]
theorem max_if2 (a b : Int) : (if a < b then b else a) = max a b := (cmax_if a b).symm
theorem good_1 {n : Int} {sub : List Tm} (h : goodB (.mk 1 n sub) = true) : sub = [] := by
  have h1 := head_num (good_parts h).1
  have hs : (sub.length : Int) = subsOf 1 := h1.2.2.2.2
  exact List.eq_nil_of_length_eq_zero (by simpa [subsOf] using hs)
set_option maxHeartbeats 4000000 in
theorem tloose_p : ∀ (t : Tm) (b : Int), goodB t = true → 0 ≤ b → b + chgT t ≤ 1000 → PCalls Try.prog 108 [aggD t, .d (.v (.int .i64 b))] [] fun p s => p = .d (.v (.int .i64 (lsT t b))) ∧ s = [] := by
  refine Tm.ind ?_
  intro k n sub ih b hg h0 h1
  have hnum := head_num (good_parts hg).1
  simp only [aggD, Jk, List.map_cons, List.map_nil, Ju, Jv, Jw]
  by_cases hk : k = 1
  · subst hk
    rw [ls_var]
    have hw1 := wr64 (n := n + 1) (by omega) (by omega)
    have hw2 := wr64 (n := n + 1 - b) (by omega) (by omega)
    clear ih hg hnum
    refine PCalls.enter Try.func108 rfl Try.ntmps108 (by simp) ?_
    simp only [argsF]
    refine go_ ?_
    refine Jc ?_
    intro i0 hi0
    refine go_ ?_
    refine POps_max ((max 0 (n + 1 - b))) (max_if2 _ _) ?_
    refine go_ ?_
    refine Jl (by simp) (by simp only [Try.results108]; rfl) (by simp [resP, St.box?, PF.get, Jm, TyK.agg, *]; rfl) (List.nil_sublist _) ?_
    exact ⟨rfl, rfl⟩
  · rw [ls_not hk]
    have HR : ∃ R, R = lsL k sub 0 b 0 := ⟨_, rfl⟩
    obtain ⟨R, hR0⟩ := HR
    rw [← hR0]
    have hgs := (good_parts hg).2
    have hhg : ∀ s ∈ sub, (chgT s : Int) + 1 ≤ chgT (.mk k n sub) := fun s hs => by
      have h2 : chgT s ≤ chgL sub := hgL_mem s hs
      simp only [chgT]; omega
    have hll : sub.length ≤ 2 := by
      have := hnum.2.2.2.2
      unfold subsOf at this
      split at this
      · omega
      · split at this <;> omega
    have IH := Lib.hid ih
    have CU := Lib.hid (tunder_p (.mk k n sub))
    simp only [aggD, Jk, List.map_cons, List.map_nil, Ju, Jv, Jw] at CU
    clear ih hg hnum
    refine PCalls.enter Try.func108 rfl Try.ntmps108 (by simp) ?_
    simp only [argsF]
    refine go_ ?_
    refine Jc ?_
    intro i0 hi0
    refine go_ ?_
    refine PW_loop (ι := Nat × Int) (fun y => y.1 ≤ sub.length ∧ 0 ≤ y.2 ∧ y.2 ≤ 1048577 ∧ Hid (R = lsL k (sub.drop y.1) y.1 b y.2)) (fun y => [(1, .d (.v (.int .i64 b))), (2, .ptr i0 0), (5, .d (.v (.int .i64 y.2))), (18, .d (.sl (sub.map encD))), (19, .d (.v (.int .i64 sub.length))), (20, .d (.v (.int .i64 (y.1 : Int))))]) (fun _ => [.box i0 28 [.d (.v (.int .i64 k)), .d (.v (.int .i64 n)), .d (.sl (sub.map encD))]]) (fun y => sub.length - y.1) (0, 0) ⟨Nat.zero_le _, by decide, by simp only; omega, hR0⟩ ?_ ?_ ?_
    · repeat (first | exact Js _ | refine Jr (by simp [PF.get]; rfl) (by first | rfl | (simp [*]; done) | fail) ?_)
    · repeat (first | exact List.Sublist.refl _ | exact List.nil_sublist _ | refine List.Sublist.cons_cons _ ?_ | refine List.Sublist.cons _ ?_)
    · rintro ⟨j, m⟩ ⟨hj, hm0, hm1, hR⟩
      simp only at hj hm0 hm1 hR ⊢
      clear hR0
      by_cases hlt : j < sub.length
      · have hx := get_enc hlt
        have hc : (j : Int) < sub.length := by omega
        have hn : (0 : Int) ≤ j := by omega
        have hin := wr64 (n := (j : Int) + 1) (by omega) (by omega)
        have hu := und_bd k j
        have hh := hhg _ (List.getElem_mem hlt)
        have hR2 : Hid (R = lsL k (sub.drop (j + 1)) (j + 1) b (max m (lsT sub[j] (b + undB k j)))) := by
          rw [show R = _ from hR.out, List.drop_eq_getElem_cons hlt]
          show _ = _
          simp only [lsL]
        have hb2 := ls_bd sub[j] (b + undB k j) (hgs _ (List.getElem_mem hlt)) (by omega)
        have hc1 := Lib.hid (IH.out _ (List.getElem_mem hlt) (b + undB k j) (hgs _ (List.getElem_mem hlt)) (by omega) (by omega))
        have hcu := Lib.hid (CU.out j)
        have hw := wr64 (n := b + undB k j) (by omega) (by omega)
        clear hR hgs hhg hu
        generalize lsT sub[j] (b + undB k j) = x' at *
        generalize undB k j = u at *
        have hmx : 0 ≤ max m x' ∧ max m x' ≤ 1048577 := by omega
        refine go_ ?_
        refine Jd ?_
        intro i2 hi2
        try simp only [Rh, Rg, Rf, Ja] at hi2
        refine go_ ?_
        refine Rc ?_
        refine go_ ?_
        refine PW_drawn [(0, .a), (1, .b), (2, .a), (3, .b), (4, .a), (5, .a), (6, .a), (7, .a), (8, .a), (9, .a)] (by kernel_rfl) (by rfl) (by kernel_rfl) ?_
        refine go_ ?_
        refine POrd_call_a (hcu.out) ?_
        refine go_ ?_
        refine POrd_call_a (hc1.out) ?_
        refine go_ ?_
        refine POrd_max ((max m x')) (max_if2 _ _) ?_
        refine go_ ?_
        exact ⟨(j + 1, max m x'), ⟨hlt, hmx.1, hmx.2, hR2⟩, by simp only; omega, by repeat (first | exact Js _ | refine Jr (by simp [PF.get]; rfl) (by first | rfl | (simp [*]; done) | fail) ?_), by repeat (first | exact List.Sublist.refl _ | exact List.nil_sublist _ | refine List.Sublist.cons_cons _ ?_ | refine List.Sublist.cons _ ?_)⟩
      · have hc : ¬ (j : Int) < sub.length := by omega
        have hf : Hid (R = m) := by rw [show R = _ from hR.out, List.drop_of_length_le (by omega)]; rfl
        refine go_ ?_
        refine Jl (by simp) (by simp only [Try.results108]; rfl) (by simp [resP, St.box?, PF.get, Jm, TyK.agg, *]; rfl) (List.nil_sublist _) ?_
        exact ⟨by rw [hf.out]; rfl, rfl⟩
set_option maxHeartbeats 4000000 in
theorem rloose_p : ∀ (t : Tm) (b : Int), goodB t = true → 0 ≤ b → b + chgT t ≤ 1000 → PCalls Try.prog 22 [aggD t, .d (.v (.int .i64 b))] [] fun p s => p = .d (.v (.int .i64 (lsT t b))) ∧ s = [] := by
  refine Tm.ind ?_
  intro k n sub ih b hg h0 h1
  have hnum := head_num (good_parts hg).1
  by_cases hk : k = 1 ∧ b ≤ n
  · obtain ⟨hk, hbn⟩ := hk
    subst hk
    simp only [aggD, Jk, List.map_cons, List.map_nil, Ju, Jv, Jw]
    have HR : Hid (lsT (.mk 1 n sub) b = n - b + 1) := by rw [ls_var]; show _ = _; omega
    rw [HR.out]
    have hw1 := wr64 (n := n - b) (by omega) (by omega)
    have hw2 := wr64 (n := n - b + 1) (by omega) (by omega)
    clear ih hg hnum HR
    refine PCalls.enter Try.func22 rfl Try.ntmps22 (by simp) ?_
    simp only [argsF]
    refine go_ ?_
    refine Jc ?_
    intro i0 hi0
    refine go_ ?_
    refine Jl (by simp) (by simp only [Try.results22]; rfl) (by simp [resP, St.box?, PF.get, Jm, TyK.agg, *]; rfl) (List.nil_sublist _) ?_
    exact ⟨rfl, rfl⟩
  · by_cases hk1 : k = 1
    · subst hk1
      obtain rfl := good_1 hg
      have hbn : ¬ b ≤ n := fun h => hk ⟨rfl, h⟩
      have HR : Hid (lsT (.mk 1 n []) b = 0) := by rw [ls_var]; show _ = _; omega
      rw [HR.out]
      simp only [aggD, Jk, List.map_cons, List.map_nil, Ju, Jv, Jw]
      clear ih hg hnum HR hk h1
      refine PCalls.enter Try.func22 rfl Try.ntmps22 (by simp) ?_
      simp only [argsF]
      refine go_ ?_
      refine Jc ?_
      intro i0 hi0
      refine go_ ?_
      refine PW_loop (ι := Unit) (fun _ => True) (fun _ => [(2, .ptr i0 0), (5, .d (.v (.int .i64 0))), (6, .d (.v (.int .i64 0)))]) (fun _ => [.box i0 28 [.d (.v (.int .i64 1)), .d (.v (.int .i64 n)), .d (.sl [])]]) (fun _ => 0) () trivial ?_ ?_ ?_
      · repeat (first | exact Js _ | refine Jr (by simp [PF.get]; rfl) (by first | rfl | (simp [*]; done) | fail) ?_)
      · repeat (first | exact List.Sublist.refl _ | exact List.nil_sublist _ | refine List.Sublist.cons_cons _ ?_ | refine List.Sublist.cons _ ?_)
      · rintro _ _
        refine go_ ?_
        refine Jl (by simp) (by simp only [Try.results22]; rfl) (by simp [resP, St.box?, PF.get, Jm, TyK.agg, *]; rfl) (List.nil_sublist _) ?_
        exact ⟨rfl, rfl⟩
    · have HR : ∃ R, R = lsL k sub 0 b 0 := ⟨_, rfl⟩
      obtain ⟨R, hR0⟩ := HR
      rw [ls_not hk1, ← hR0]
      have hgs := (good_parts hg).2
      have hbe := fun j hj => ben_und hg j hj
      have hhg : ∀ s ∈ sub, (chgT s : Int) + 1 ≤ chgT (.mk k n sub) := fun s hs => by
        have h2 : chgT s ≤ chgL sub := hgL_mem s hs
        simp only [chgT]; omega
      have hll : sub.length ≤ 2 := by
        have := hnum.2.2.2.2
        unfold subsOf at this
        split at this
        · omega
        · split at this <;> omega
      have IH := Lib.hid ih
      have CU := Lib.hid (rbeneath_p (.mk k n sub))
      simp only [aggD, Jk, List.map_cons, List.map_nil, Ju, Jv, Jw] at CU ⊢
      have HB := Lib.hid hbe
      clear ih hg hnum hk hbe
      refine PCalls.enter Try.func22 rfl Try.ntmps22 (by simp) ?_
      simp only [argsF]
      refine go_ ?_
      refine Jc ?_
      intro i0 hi0
      refine go_ ?_
      refine PW_loop (ι := Nat × Int) (fun y => y.1 ≤ sub.length ∧ 0 ≤ y.2 ∧ y.2 ≤ 1048577 ∧ Hid (R = lsL k (sub.drop y.1) y.1 b y.2)) (fun y => [(1, .d (.v (.int .i64 b))), (2, .ptr i0 0), (5, .d (.v (.int .i64 y.2))), (6, .d (.v (.int .i64 (y.1 : Int))))]) (fun _ => [.box i0 28 [.d (.v (.int .i64 k)), .d (.v (.int .i64 n)), .d (.sl (sub.map encD))]]) (fun y => sub.length - y.1) (0, 0) ⟨Nat.zero_le _, by decide, by simp only; omega, hR0⟩ ?_ ?_ ?_
      · repeat (first | exact Js _ | refine Jr (by simp [PF.get]; rfl) (by first | rfl | (simp [*]; done) | fail) ?_)
      · repeat (first | exact List.Sublist.refl _ | exact List.nil_sublist _ | refine List.Sublist.cons_cons _ ?_ | refine List.Sublist.cons _ ?_)
      · rintro ⟨j, m⟩ ⟨hj, hm0, hm1, hR⟩
        simp only at hj hm0 hm1 hR ⊢
        clear hR0 hk1
        by_cases hlt : j < sub.length
        · have hx := get_enc hlt
          have hc : (j : Int) < sub.length := by omega
          have hn : (0 : Int) ≤ j := by omega
          have hin := wr64 (n := (j : Int) + 1) (by omega) (by omega)
          have hu := und_bd k j
          have hh := hhg _ (List.getElem_mem hlt)
          have hR2 : Hid (R = lsL k (sub.drop (j + 1)) (j + 1) b (max m (lsT sub[j] (b + undB k j)))) := by
            rw [show R = _ from hR.out, List.drop_eq_getElem_cons hlt]
            show _ = _
            simp only [lsL]
          have hb2 := ls_bd sub[j] (b + undB k j) (hgs _ (List.getElem_mem hlt)) (by omega)
          have hc1 := Lib.hid (IH.out _ (List.getElem_mem hlt) (b + undB k j) (hgs _ (List.getElem_mem hlt)) (by omega) (by omega))
          have hcu := CU.out j
          rw [HB.out j hlt] at hcu
          have HCU := Lib.hid hcu
          have hw := wr64 (n := b + undB k j) (by omega) (by omega)
          clear hR hgs hhg hu hcu
          generalize lsT sub[j] (b + undB k j) = x' at *
          generalize undB k j = u at *
          have hmx : 0 ≤ max m x' ∧ max m x' ≤ 1048577 := by omega
          refine go_ ?_
          refine PW_drawn [(0, .a), (1, .a), (2, .b), (3, .a), (4, .a), (5, .a), (6, .a), (7, .b), (8, .a), (9, .a), (10, .a), (11, .a), (12, .a), (13, .a)] (by kernel_rfl) (by rfl) (by kernel_rfl) ?_
          refine go_ ?_
          refine POrd_call_a (HCU.out) ?_
          refine go_ ?_
          refine POrd_call_a (hc1.out) ?_
          refine go_ ?_
          refine POrd_max ((max m x')) (max_if2 _ _) ?_
          refine go_ ?_
          exact ⟨(j + 1, max m x'), ⟨hlt, hmx.1, hmx.2, hR2⟩, by simp only; omega, by repeat (first | exact Js _ | refine Jr (by simp [PF.get]; rfl) (by first | rfl | (simp [*]; done) | fail) ?_), by repeat (first | exact List.Sublist.refl _ | exact List.nil_sublist _ | refine List.Sublist.cons_cons _ ?_ | refine List.Sublist.cons _ ?_)⟩
        · have hc : ¬ (j : Int) < sub.length := by omega
          have hf : Hid (R = m) := by rw [show R = _ from hR.out, List.drop_of_length_le (by omega)]; rfl
          refine go_ ?_
          refine Jl (by simp) (by simp only [Try.results22]; rfl) (by simp [resP, St.box?, PF.get, Jm, TyK.agg, *]; rfl) (List.nil_sublist _) ?_
          exact ⟨by rw [hf.out]; rfl, rfl⟩
end Go.Proofs.Ytfnfbbmegdkhjaa

namespace Go.Proofs.Ytfnfbbmegdkhjaa
open Go.RowKit
set_option maxRecDepth 100000
theorem eqT_mk (k n k' n' : Int) (s s' : List Tm) : ceqT (.mk k n s) (.mk k' n' s') = ((k == k') && (n == n') && ceqL s s') := by simp only [ceqT]
theorem eqL_ne {a b : List Tm} (h : ¬ a.length = b.length) : ceqL a b = false := by
  cases e : ceqL a b with
  | false => rfl
  | true => exact absurd (ceqL_length e) h
theorem eqL_step {a b : List Tm} {j : Nat} (h1 : j < a.length) (h2 : j < b.length) : ceqL (a.drop j) (b.drop j) = (ceqT a[j] b[j] && ceqL (a.drop (j + 1)) (b.drop (j + 1))) := by
  rw [List.drop_eq_getElem_cons h1, List.drop_eq_getElem_cons h2]
  simp only [ceqL]
theorem eqL_end {a b : List Tm} {j : Nat} (h1 : a.length ≤ j) (h2 : b.length ≤ j) : ceqL (a.drop j) (b.drop j) = true := by
  rw [List.drop_of_length_le h1, List.drop_of_length_le h2]; rfl
set_option maxHeartbeats 4000000 in
theorem tequal_p : ∀ (t u : Tm), PCalls Try.prog 102 [aggD t, aggD u] [] fun p s => p = .d (.v (.bool (ceqT t u))) ∧ s = [] := by
  refine Tm.ind ?_
  intro k n a ih u
  obtain ⟨k', n', b⟩ := u
  rw [eqT_mk]
  simp only [aggD, Jk, List.map_cons, List.map_nil, Ju, Jv, Jw]
  have IH := Lib.hid ih
  clear ih
  by_cases hk : k = k'
  rotate_left
  · have hf : ((k == k') && (n == n') && ceqL a b) = false := by rw [beq_eq_false_iff_ne.2 hk]; rfl
    rw [hf]
    clear hf
    refine PCalls.enter Try.func102 rfl Try.ntmps102 (by simp) ?_
    simp only [argsF]
    refine go_ ?_
    refine Jc ?_
    intro i0 hi0
    refine go_ ?_
    refine Jc ?_
    intro i1 hi1
    try simp only [Rh, Rg, Rf, Ja] at hi1
    refine go_ ?_
    refine Jl (by simp) (by simp only [Try.results102]; rfl) (by simp [resP, St.box?, PF.get, Jm, TyK.agg, *]; rfl) (List.nil_sublist _) ?_
    exact ⟨rfl, rfl⟩
  by_cases hn : n = n'
  rotate_left
  · have hf : ((k == k') && (n == n') && ceqL a b) = false := by rw [beq_eq_false_iff_ne.2 hn, Bool.and_false]; rfl
    rw [hf]
    clear hf
    subst hk
    refine PCalls.enter Try.func102 rfl Try.ntmps102 (by simp) ?_
    simp only [argsF]
    refine go_ ?_
    refine Jc ?_
    intro i0 hi0
    refine go_ ?_
    refine Jc ?_
    intro i1 hi1
    try simp only [Rh, Rg, Rf, Ja] at hi1
    refine go_ ?_
    refine Jl (by simp) (by simp only [Try.results102]; rfl) (by simp [resP, St.box?, PF.get, Jm, TyK.agg, *]; rfl) (List.nil_sublist _) ?_
    exact ⟨rfl, rfl⟩
  subst hk hn
  by_cases hl : a.length = b.length
  rotate_left
  · rw [eqL_ne hl, Bool.and_false]
    have hl2 : ((a.length : Int) != b.length) = true := bne_iff_ne.2 (by omega)
    refine PCalls.enter Try.func102 rfl Try.ntmps102 (by simp) ?_
    simp only [argsF]
    refine go_ ?_
    refine Jc ?_
    intro i0 hi0
    refine go_ ?_
    refine Jc ?_
    intro i1 hi1
    try simp only [Rh, Rg, Rf, Ja] at hi1
    refine go_ ?_
    refine Jl (by simp) (by simp only [Try.results102]; rfl) (by simp [resP, St.box?, PF.get, Jm, TyK.agg, *]; rfl) (List.nil_sublist _) ?_
    exact ⟨rfl, rfl⟩
  obtain ⟨m, ha, hb⟩ : ∃ m, a.length = m ∧ b.length = m := ⟨_, hl, rfl⟩
  clear hl
  obtain ⟨R, hR0⟩ : ∃ R, R = ceqL a b := ⟨_, rfl⟩
  rw [← hR0, beq_self_eq_true, beq_self_eq_true, Bool.true_and, Bool.true_and]
  have HR0 := Lib.hid hR0
  clear hR0
  refine PCalls.enter Try.func102 rfl Try.ntmps102 (by simp) ?_
  simp only [argsF]
  refine go_ ?_
  refine Jc ?_
  intro i0 hi0
  refine go_ ?_
  refine Jc ?_
  intro i1 hi1
  try simp only [Rh, Rg, Rf, Ja] at hi1
  refine go_ ?_
  refine PW_slen (t := 28) (rows := a.map encD) (by simp [PF.get] <;> rfl) rfl fun hml => ?_
  rw [List.length_map, ha] at hml
  refine PW_loop (ι := Nat) (fun y => y ≤ m ∧ Hid (R = ceqL (a.drop y) (b.drop y))) (fun y => [(2, .ptr i0 0), (3, .ptr i1 0), (29, .d (.v (.int .i64 m))), (30, .d (.v (.int .i64 (y : Int))))]) (fun _ => [.box i1 28 [.d (.v (.int .i64 k)), .d (.v (.int .i64 n)), .d (.sl (b.map encD))], .box i0 28 [.d (.v (.int .i64 k)), .d (.v (.int .i64 n)), .d (.sl (a.map encD))]]) (fun y => m - y) 0 ⟨Nat.zero_le _, HR0.out⟩ ?_ ?_ ?_
  · repeat (first | exact Js _ | refine Jr (by simp [PF.get]; rfl) (by first | rfl | (simp [*]; done) | fail) ?_)
  · repeat (first | exact List.Sublist.refl _ | exact List.nil_sublist _ | refine List.Sublist.cons_cons _ ?_ | refine List.Sublist.cons _ ?_)
  · rintro j ⟨hj, hR⟩
    clear HR0
    unfold maxLen at hml
    by_cases hlt : j < m
    · have h1 : j < a.length := by omega
      have h2 : j < b.length := by omega
      have hx := get_enc h1
      have hy := get_enc h2
      have hc : (j : Int) < m := by omega
      have hn : (0 : Int) ≤ j := by omega
      have hin := wr64 (n := (j : Int) + 1) (by omega) (by omega)
      have hR2 : Hid (R = (ceqT a[j] b[j] && ceqL (a.drop (j + 1)) (b.drop (j + 1)))) := by rw [show R = _ from hR.out, eqL_step h1 h2]; rfl
      have hc1 := Lib.hid (IH.out _ (List.getElem_mem h1) b[j])
      clear hR
      generalize ceqT a[j] b[j] = e at *
      cases e with
      | false =>
        have hf : Hid (R = false) := by rw [show R = _ from hR2.out]; rfl
        refine go_ ?_
        refine PW_drawn [(0, .a), (1, .b), (2, .a), (3, .a), (4, .a), (5, .a), (6, .b), (7, .a), (8, .a), (9, .a), (10, .a), (11, .a)] (by kernel_rfl) (by rfl) (by kernel_rfl) ?_
        refine go_ ?_
        refine POrd_call_a (hc1.out) ?_
        refine go_ ?_
        refine Jl (by simp) (by simp only [Try.results102]; rfl) (by simp [resP, St.box?, PF.get, Jm, TyK.agg, *]; rfl) (List.nil_sublist _) ?_
        exact ⟨by rw [hf.out]; rfl, rfl⟩
      | true =>
        have hR3 : Hid (R = ceqL (a.drop (j + 1)) (b.drop (j + 1))) := by rw [show R = _ from hR2.out]; rfl
        refine go_ ?_
        refine PW_drawn [(0, .a), (1, .b), (2, .a), (3, .a), (4, .a), (5, .a), (6, .b), (7, .a), (8, .a), (9, .a), (10, .a), (11, .a)] (by kernel_rfl) (by rfl) (by kernel_rfl) ?_
        refine go_ ?_
        refine POrd_call_a (hc1.out) ?_
        refine go_ ?_
        exact ⟨j + 1, ⟨hlt, hR3⟩, by omega, by repeat (first | exact Js _ | refine Jr (by simp [PF.get]; rfl) (by first | rfl | (simp [*]; done) | fail) ?_), by repeat (first | exact List.Sublist.refl _ | exact List.nil_sublist _ | refine List.Sublist.cons_cons _ ?_ | refine List.Sublist.cons _ ?_)⟩
    · have hc : ¬ (j : Int) < m := by omega
      have hf : Hid (R = true) := by rw [show R = _ from hR.out, eqL_end (by omega) (by omega)]; rfl
      refine go_ ?_
      refine Jl (by simp) (by simp only [Try.results102]; rfl) (by simp [resP, St.box?, PF.get, Jm, TyK.agg, *]; rfl) (List.nil_sublist _) ?_
      exact ⟨by rw [hf.out]; rfl, rfl⟩
set_option maxHeartbeats 4000000 in
theorem requal_p : ∀ (t u : Tm), PCalls Try.prog 33 [aggD t, aggD u] [] fun p s => p = .d (.v (.bool (ceqT t u))) ∧ s = [] := by
  refine Tm.ind ?_
  intro k n a ih u
  obtain ⟨k', n', b⟩ := u
  rw [eqT_mk]
  simp only [aggD, Jk, List.map_cons, List.map_nil, Ju, Jv, Jw]
  have IH := Lib.hid ih
  clear ih
  by_cases hk : k = k'
  rotate_left
  · have hf : ((k == k') && (n == n') && ceqL a b) = false := by rw [beq_eq_false_iff_ne.2 hk]; rfl
    rw [hf]
    clear hf
    refine PCalls.enter Try.func33 rfl Try.ntmps33 (by simp) ?_
    simp only [argsF]
    refine go_ ?_
    refine Jc ?_
    intro i0 hi0
    refine go_ ?_
    refine Jc ?_
    intro i1 hi1
    try simp only [Rh, Rg, Rf, Ja] at hi1
    refine go_ ?_
    refine Jl (by simp) (by simp only [Try.results33]; rfl) (by simp [resP, St.box?, PF.get, Jm, TyK.agg, *]; rfl) (List.nil_sublist _) ?_
    exact ⟨rfl, rfl⟩
  by_cases hn : n = n'
  rotate_left
  · have hf : ((k == k') && (n == n') && ceqL a b) = false := by rw [beq_eq_false_iff_ne.2 hn, Bool.and_false]; rfl
    rw [hf]
    clear hf
    subst hk
    refine PCalls.enter Try.func33 rfl Try.ntmps33 (by simp) ?_
    simp only [argsF]
    refine go_ ?_
    refine Jc ?_
    intro i0 hi0
    refine go_ ?_
    refine Jc ?_
    intro i1 hi1
    try simp only [Rh, Rg, Rf, Ja] at hi1
    refine go_ ?_
    refine Jl (by simp) (by simp only [Try.results33]; rfl) (by simp [resP, St.box?, PF.get, Jm, TyK.agg, *]; rfl) (List.nil_sublist _) ?_
    exact ⟨rfl, rfl⟩
  subst hk hn
  by_cases hl : a.length = b.length
  rotate_left
  · rw [eqL_ne hl, Bool.and_false]
    have hl2 : ((a.length : Int) != b.length) = true := bne_iff_ne.2 (by omega)
    refine PCalls.enter Try.func33 rfl Try.ntmps33 (by simp) ?_
    simp only [argsF]
    refine go_ ?_
    refine Jc ?_
    intro i0 hi0
    refine go_ ?_
    refine Jc ?_
    intro i1 hi1
    try simp only [Rh, Rg, Rf, Ja] at hi1
    refine go_ ?_
    refine Jl (by simp) (by simp only [Try.results33]; rfl) (by simp [resP, St.box?, PF.get, Jm, TyK.agg, *]; rfl) (List.nil_sublist _) ?_
    exact ⟨rfl, rfl⟩
  obtain ⟨m, ha, hb⟩ : ∃ m, a.length = m ∧ b.length = m := ⟨_, hl, rfl⟩
  clear hl
  obtain ⟨R, hR0⟩ : ∃ R, R = ceqL a b := ⟨_, rfl⟩
  rw [← hR0, beq_self_eq_true, beq_self_eq_true, Bool.true_and, Bool.true_and]
  have HR0 := Lib.hid hR0
  clear hR0
  refine PCalls.enter Try.func33 rfl Try.ntmps33 (by simp) ?_
  simp only [argsF]
  refine PW_slenA (t := 0) (i := 2) (rows := a.map encD) (by simp [PF.get] <;> rfl) rfl fun hml => ?_
  rw [List.length_map, ha] at hml
  refine go_ ?_
  refine Jc ?_
  intro i0 hi0
  refine go_ ?_
  refine Jc ?_
  intro i1 hi1
  try simp only [Rh, Rg, Rf, Ja] at hi1
  refine go_ ?_
  refine PW_loop (ι := Nat) (fun y => y ≤ m ∧ Hid (R = ceqL (a.drop y) (b.drop y))) (fun y => [(2, .ptr i0 0), (3, .ptr i1 0), (5, .d (.v (.int .i64 (y : Int))))]) (fun _ => [.box i1 28 [.d (.v (.int .i64 k)), .d (.v (.int .i64 n)), .d (.sl (b.map encD))], .box i0 28 [.d (.v (.int .i64 k)), .d (.v (.int .i64 n)), .d (.sl (a.map encD))]]) (fun y => m - y) 0 ⟨Nat.zero_le _, HR0.out⟩ ?_ ?_ ?_
  · repeat (first | exact Js _ | refine Jr (by simp [PF.get]; rfl) (by first | rfl | (simp [*]; done) | fail) ?_)
  · repeat (first | exact List.Sublist.refl _ | exact List.nil_sublist _ | refine List.Sublist.cons_cons _ ?_ | refine List.Sublist.cons _ ?_)
  · rintro j ⟨hj, hR⟩
    clear HR0
    unfold maxLen at hml
    by_cases hlt : j < m
    · have h1 : j < a.length := by omega
      have h2 : j < b.length := by omega
      have hx := get_enc h1
      have hy := get_enc h2
      have hc : (j : Int) < m := by omega
      have hn : (0 : Int) ≤ j := by omega
      have hin := wr64 (n := (j : Int) + 1) (by omega) (by omega)
      have hR2 : Hid (R = (ceqT a[j] b[j] && ceqL (a.drop (j + 1)) (b.drop (j + 1)))) := by rw [show R = _ from hR.out, eqL_step h1 h2]; rfl
      have hc1 := Lib.hid (IH.out _ (List.getElem_mem h1) b[j])
      clear hR
      generalize ceqT a[j] b[j] = e at *
      cases e with
      | false =>
        have hf : Hid (R = false) := by rw [show R = _ from hR2.out]; rfl
        refine go_ ?_
        refine PW_drawn [(0, .a), (1, .b), (2, .a), (3, .a), (4, .a), (5, .a), (6, .b), (7, .a), (8, .a), (9, .a), (10, .a), (11, .a)] (by kernel_rfl) (by rfl) (by kernel_rfl) ?_
        refine go_ ?_
        refine POrd_call_a (hc1.out) ?_
        refine go_ ?_
        refine Jl (by simp) (by simp only [Try.results33]; rfl) (by simp [resP, St.box?, PF.get, Jm, TyK.agg, *]; rfl) (List.nil_sublist _) ?_
        exact ⟨by rw [hf.out]; rfl, rfl⟩
      | true =>
        have hR3 : Hid (R = ceqL (a.drop (j + 1)) (b.drop (j + 1))) := by rw [show R = _ from hR2.out]; rfl
        refine go_ ?_
        refine PW_drawn [(0, .a), (1, .b), (2, .a), (3, .a), (4, .a), (5, .a), (6, .b), (7, .a), (8, .a), (9, .a), (10, .a), (11, .a)] (by kernel_rfl) (by rfl) (by kernel_rfl) ?_
        refine go_ ?_
        refine POrd_call_a (hc1.out) ?_
        refine go_ ?_
        exact ⟨j + 1, ⟨hlt, hR3⟩, by omega, by repeat (first | exact Js _ | refine Jr (by simp [PF.get]; rfl) (by first | rfl | (simp [*]; done) | fail) ?_), by repeat (first | exact List.Sublist.refl _ | exact List.nil_sublist _ | refine List.Sublist.cons_cons _ ?_ | refine List.Sublist.cons _ ?_)⟩
    · have hc : ¬ (j : Int) < m := by omega
      have hf : Hid (R = true) := by rw [show R = _ from hR.out, eqL_end (by omega) (by omega)]; rfl
      refine go_ ?_
      refine Jl (by simp) (by simp only [Try.results33]; rfl) (by simp [resP, St.box?, PF.get, Jm, TyK.agg, *]; rfl) (List.nil_sublist _) ?_
      exact ⟨by rw [hf.out]; rfl, rfl⟩
end Go.Proofs.Ytfnfbbmegdkhjaa

namespace Go.Proofs.Ytfnfbbmegdkhjaa
open Go.RowKit
set_option maxRecDepth 100000
theorem PCalls.norm {P : Program} {f : FuncId} {args : List PV} {st : St} {R R' : PV → St → Prop} (h : PCalls P f args st R) (hr : ∀ p s, R p s → R' p.norm0 []) : PCalls P f args st R' :=
  fun F K w vs h1 h2 => (h F K w vs h1 h2).mono fun _ _ ⟨v, K', p, _, a, b, c, d, e⟩ => ⟨v, K', p.norm0, [], a, b, c.sub (List.nil_sublist _), leq_norm0 _ _ _ _ d, hr _ _ e⟩
theorem rows1 (l : List Int) : ∀ row ∈ l.map encD, row.length = 1 := rows_of rfl
theorem cnd_mem {l : List Tm} : ∀ s ∈ l, cndT s ≤ cndL l := by
  induction l with
  | nil => intro s hs; cases hs
  | cons t ts ih =>
    intro s hs
    simp only [cndL]
    rcases List.mem_cons.1 hs with rfl | hs
    · omega
    · have := ih s hs; omega
theorem rows1a (l m : List Int) : ∀ row ∈ l.map encD ++ m.map encD, row.length = 1 := fun row h => (List.mem_append.1 h).elim (rows1 _ row) (rows1 _ row)
theorem clS_take {a b : Int} {l : List Tm} {j : Nat} (h : j < l.length) : clS a b (l.take (j + 1)) = clS a b (l.take j) ++ clT a b l[j] := by
  rw [List.take_succ_eq_append_getElem h, clS_append]
  simp only [clS, List.append_nil]
theorem clS_len (a b : Int) (l : List Tm) : (clS a b l).length ≤ cndL l := by
  induction l with
  | nil => exact Nat.le_refl _
  | cons t ts ih =>
    have := cl_len a b t
    simp only [clS, cndL, List.length_append]; omega
set_option maxHeartbeats 4000000 in
theorem collect_o : ∀ (t : Tm) (a b : Int), cndT t ≤ 100000 → PCalls Try.prog 101 [aggD t, .d (.v (.int .i64 a)), .d (.v (.int .i64 b))] [] fun p s => ∃ g, p = .own g ((clT a b t).map encD) ∧ s = [.tok g 3 1 (clT a b t).length] := by
  refine Tm.ind ?_
  intro k n sub ih a b hnd
  have hc0 : clT a b (.mk k n sub) = (if k = a ∨ k = b then [n] else []) ++ clS a b sub := by simp only [clT]
  have hns : cndL sub ≤ 100000 := by simp only [cndT] at hnd; omega
  have IH : Hid (∀ s ∈ sub, PCalls Try.prog 101 [aggD s, .d (.v (.int .i64 a)), .d (.v (.int .i64 b))] [] fun p st => p = .d (.sl ((clT a b s).map encD)) ∧ st = []) := fun s hs =>
    (ih s hs a b (by have := cnd_mem s hs; omega)).norm fun p st ⟨g, e1, e2⟩ => ⟨by rw [e1]; rfl, rfl⟩
  have hl0 : (if k = a ∨ k = b then [n] else []).length ≤ 1 := by split <;> simp
  simp only [aggD, Jk, List.map_cons, List.map_nil, Ju, Jv, Jw]
  clear ih hnd
  rw [hc0]
  clear hc0
  obtain ⟨r0, hr0⟩ : ∃ r0, (if k = a ∨ k = b then [n] else []) = r0 := ⟨_, rfl⟩
  rw [hr0] at hl0 ⊢
  refine PCalls.enter Try.func101 rfl Try.ntmps101 (by simp) ?_
  simp only [argsF]
  refine go_ ?_
  refine Jc ?_
  intro i0 hi0
  refine Qq ?_
  refine Qh ?_
  refine Qj ?_
  refine gs_ ?_
  refine Qc ?_
  refine gs_ ?_
  refine PW_own 7 3 1 (by decide) (by simp [PF.get] <;> rfl) fun g hg => ?_
  by_cases hk : k = a ∨ k = b
  · rw [if_pos hk] at hr0
    by_cases h1 : k = a
    · clear hk
      refine go_ ?_
      refine POps_bs_a ?_
      refine go_ ?_
      refine POps_app_a 1 ?_ ?_ ?_ ?_
      · rfl
      · simp
      · simp
      refine gs_ ?_
      clear h1
      refine go_ ?_
      refine PW_slenA (t := 0) (i := 2) (rows := sub.map encD) (by simp [PF.get] <;> rfl) rfl fun hml => ?_
      rw [List.length_map] at hml
      refine PW_loop (ι := Nat) (fun y => y ≤ sub.length) (fun y => [(1, .d (.v (.int .i64 a))), (2, .d (.v (.int .i64 b))), (7, .own g ((r0 ++ clS a b (sub.take y)).map encD)), (26, .d (.sl (sub.map encD))), (27, .d (.v (.int .i64 sub.length))), (28, .d (.v (.int .i64 (y : Int))))]) (fun y => [.tok g 3 1 (r0 ++ clS a b (sub.take y)).length]) (fun y => sub.length - y) 0 (Nat.zero_le _) ?_ ?_ ?_
      · subst hr0
        repeat (first | exact Js _ | refine Jr (by simp [PF.get]; rfl) (by first | rfl | (simp [clS, List.take_zero, List.append_nil]; done) | fail) ?_)
      · subst hr0
        simp only [clS, List.take_zero, List.append_nil]
        repeat (first | exact List.Sublist.refl _ | exact List.nil_sublist _ | refine List.Sublist.cons_cons _ ?_ | refine List.Sublist.cons _ ?_)
      · rintro j hj
        clear hr0
        unfold maxLen at hml
        by_cases hlt : j < sub.length
        · have hx := get_enc hlt
          have hc : (j : Int) < sub.length := by omega
          have hn : (0 : Int) ≤ j := by omega
          have hin := wr64 (n := (j : Int) + 1) (by omega) (by omega)
          have hT := clS_take (a := a) (b := b) hlt
          have hlen := Nat.le_trans (clS_len a b (sub.take (j + 1))) (Nat.le_trans (cndL_take sub (j + 1)) hns)
          rw [hT, List.length_append] at hlen
          have hlA : (r0 ++ clS a b (sub.take j)).length ≤ 100001 := by rw [List.length_append]; omega
          have HT := Lib.hid hT
          clear hT
          have hc1 := Lib.hid (IH.out _ (List.getElem_mem hlt))
          generalize clT a b sub[j] = x at *
          refine go_ ?_
          refine Jd ?_
          intro i2 hi2
          try simp only [Rh, Rg, Rf, Ja] at hi2
          refine go_ ?_
          refine Rc ?_
          refine go_ ?_
          refine Jb (hc1.out) ?_
          refine go_ ?_
          refine POps_app_a ((r0 ++ clS a b (sub.take j)).length + x.length) ?_ ?_ ?_ ?_
          · simp
          · exact rows1a _ _
          · exact rows1 _
          refine go_ ?_
          refine ⟨j + 1, hlt, by omega, ?_, ?_⟩
          · rw [HT.out, ← List.append_assoc]
            repeat (first | exact Js _ | refine Jr (by simp [PF.get]; rfl) (by first | rfl | (simp [*]; done) | fail) ?_)
          · rw [HT.out, ← List.append_assoc]
            simp only [List.length_append]
            repeat (first | exact List.Sublist.refl _ | exact List.nil_sublist _ | refine List.Sublist.cons_cons _ ?_ | refine List.Sublist.cons _ ?_)
        · have hc : ¬ (j : Int) < sub.length := by omega
          have htk : sub.take j = sub := List.take_of_length_le (by omega)
          rw [htk]
          refine go_ ?_
          refine retP_keep (st' := [.tok g 3 1 (r0 ++ clS a b sub).length]) (by simp) (by simp only [Try.results101]; rfl) (by simp [resP, PF.get]; rfl) (by repeat (first | exact List.Sublist.refl _ | exact List.nil_sublist _ | refine List.Sublist.cons_cons _ ?_ | refine List.Sublist.cons _ ?_)) ⟨g, by simp [tupP], rfl⟩
    · have h2 : k = b := hk.resolve_left h1
      clear hk
      have h1b : ¬ b = a := fun e => h1 (h2.trans e)
      refine go_ ?_
      refine POps_bs_a ?_
      refine go_ ?_
      refine POps_app_a 1 ?_ ?_ ?_ ?_
      · rfl
      · simp
      · simp
      refine gs_ ?_
      clear h1 h2 h1b
      refine go_ ?_
      refine PW_slenA (t := 0) (i := 2) (rows := sub.map encD) (by simp [PF.get] <;> rfl) rfl fun hml => ?_
      rw [List.length_map] at hml
      refine PW_loop (ι := Nat) (fun y => y ≤ sub.length) (fun y => [(1, .d (.v (.int .i64 a))), (2, .d (.v (.int .i64 b))), (7, .own g ((r0 ++ clS a b (sub.take y)).map encD)), (26, .d (.sl (sub.map encD))), (27, .d (.v (.int .i64 sub.length))), (28, .d (.v (.int .i64 (y : Int))))]) (fun y => [.tok g 3 1 (r0 ++ clS a b (sub.take y)).length]) (fun y => sub.length - y) 0 (Nat.zero_le _) ?_ ?_ ?_
      · subst hr0
        repeat (first | exact Js _ | refine Jr (by simp [PF.get]; rfl) (by first | rfl | (simp [clS, List.take_zero, List.append_nil]; done) | fail) ?_)
      · subst hr0
        simp only [clS, List.take_zero, List.append_nil]
        repeat (first | exact List.Sublist.refl _ | exact List.nil_sublist _ | refine List.Sublist.cons_cons _ ?_ | refine List.Sublist.cons _ ?_)
      · rintro j hj
        clear hr0
        unfold maxLen at hml
        by_cases hlt : j < sub.length
        · have hx := get_enc hlt
          have hc : (j : Int) < sub.length := by omega
          have hn : (0 : Int) ≤ j := by omega
          have hin := wr64 (n := (j : Int) + 1) (by omega) (by omega)
          have hT := clS_take (a := a) (b := b) hlt
          have hlen := Nat.le_trans (clS_len a b (sub.take (j + 1))) (Nat.le_trans (cndL_take sub (j + 1)) hns)
          rw [hT, List.length_append] at hlen
          have hlA : (r0 ++ clS a b (sub.take j)).length ≤ 100001 := by rw [List.length_append]; omega
          have HT := Lib.hid hT
          clear hT
          have hc1 := Lib.hid (IH.out _ (List.getElem_mem hlt))
          generalize clT a b sub[j] = x at *
          refine go_ ?_
          refine Jd ?_
          intro i2 hi2
          try simp only [Rh, Rg, Rf, Ja] at hi2
          refine go_ ?_
          refine Rc ?_
          refine go_ ?_
          refine Jb (hc1.out) ?_
          refine go_ ?_
          refine POps_app_a ((r0 ++ clS a b (sub.take j)).length + x.length) ?_ ?_ ?_ ?_
          · simp
          · exact rows1a _ _
          · exact rows1 _
          refine go_ ?_
          refine ⟨j + 1, hlt, by omega, ?_, ?_⟩
          · rw [HT.out, ← List.append_assoc]
            repeat (first | exact Js _ | refine Jr (by simp [PF.get]; rfl) (by first | rfl | (simp [*]; done) | fail) ?_)
          · rw [HT.out, ← List.append_assoc]
            simp only [List.length_append]
            repeat (first | exact List.Sublist.refl _ | exact List.nil_sublist _ | refine List.Sublist.cons_cons _ ?_ | refine List.Sublist.cons _ ?_)
        · have hc : ¬ (j : Int) < sub.length := by omega
          have htk : sub.take j = sub := List.take_of_length_le (by omega)
          rw [htk]
          refine go_ ?_
          refine retP_keep (st' := [.tok g 3 1 (r0 ++ clS a b sub).length]) (by simp) (by simp only [Try.results101]; rfl) (by simp [resP, PF.get]; rfl) (by repeat (first | exact List.Sublist.refl _ | exact List.nil_sublist _ | refine List.Sublist.cons_cons _ ?_ | refine List.Sublist.cons _ ?_)) ⟨g, by simp [tupP], rfl⟩
  · rw [if_neg hk] at hr0
    have h1 : ¬ k = a := fun h => hk (.inl h)
    have h2 : ¬ k = b := fun h => hk (.inr h)
    clear hk
    refine go_ ?_
    refine PW_slenA (t := 0) (i := 2) (rows := sub.map encD) (by simp [PF.get] <;> rfl) rfl fun hml => ?_
    rw [List.length_map] at hml
    refine PW_loop (ι := Nat) (fun y => y ≤ sub.length) (fun y => [(1, .d (.v (.int .i64 a))), (2, .d (.v (.int .i64 b))), (7, .own g ((r0 ++ clS a b (sub.take y)).map encD)), (26, .d (.sl (sub.map encD))), (27, .d (.v (.int .i64 sub.length))), (28, .d (.v (.int .i64 (y : Int))))]) (fun y => [.tok g 3 1 (r0 ++ clS a b (sub.take y)).length]) (fun y => sub.length - y) 0 (Nat.zero_le _) ?_ ?_ ?_
    · subst hr0
      repeat (first | exact Js _ | refine Jr (by simp [PF.get]; rfl) (by first | rfl | (simp [clS, List.take_zero, List.append_nil]; done) | fail) ?_)
    · subst hr0
      simp only [clS, List.take_zero, List.append_nil]
      repeat (first | exact List.Sublist.refl _ | exact List.nil_sublist _ | refine List.Sublist.cons_cons _ ?_ | refine List.Sublist.cons _ ?_)
    · rintro j hj
      clear hr0
      unfold maxLen at hml
      by_cases hlt : j < sub.length
      · have hx := get_enc hlt
        have hc : (j : Int) < sub.length := by omega
        have hn : (0 : Int) ≤ j := by omega
        have hin := wr64 (n := (j : Int) + 1) (by omega) (by omega)
        have hT := clS_take (a := a) (b := b) hlt
        have hlen := Nat.le_trans (clS_len a b (sub.take (j + 1))) (Nat.le_trans (cndL_take sub (j + 1)) hns)
        rw [hT, List.length_append] at hlen
        have hlA : (r0 ++ clS a b (sub.take j)).length ≤ 100001 := by rw [List.length_append]; omega
        have HT := Lib.hid hT
        clear hT
        have hc1 := Lib.hid (IH.out _ (List.getElem_mem hlt))
        generalize clT a b sub[j] = x at *
        refine go_ ?_
        refine Jd ?_
        intro i2 hi2
        try simp only [Rh, Rg, Rf, Ja] at hi2
        refine go_ ?_
        refine Rc ?_
        refine go_ ?_
        refine Jb (hc1.out) ?_
        refine go_ ?_
        refine POps_app_a ((r0 ++ clS a b (sub.take j)).length + x.length) ?_ ?_ ?_ ?_
        · simp
        · exact rows1a _ _
        · exact rows1 _
        refine go_ ?_
        refine ⟨j + 1, hlt, by omega, ?_, ?_⟩
        · rw [HT.out, ← List.append_assoc]
          repeat (first | exact Js _ | refine Jr (by simp [PF.get]; rfl) (by first | rfl | (simp [*]; done) | fail) ?_)
        · rw [HT.out, ← List.append_assoc]
          simp only [List.length_append]
          repeat (first | exact List.Sublist.refl _ | exact List.nil_sublist _ | refine List.Sublist.cons_cons _ ?_ | refine List.Sublist.cons _ ?_)
      · have hc : ¬ (j : Int) < sub.length := by omega
        have htk : sub.take j = sub := List.take_of_length_le (by omega)
        rw [htk]
        refine go_ ?_
        refine retP_keep (st' := [.tok g 3 1 (r0 ++ clS a b sub).length]) (by simp) (by simp only [Try.results101]; rfl) (by simp [resP, PF.get]; rfl) (by repeat (first | exact List.Sublist.refl _ | exact List.nil_sublist _ | refine List.Sublist.cons_cons _ ?_ | refine List.Sublist.cons _ ?_)) ⟨g, by simp [tupP], rfl⟩
end Go.Proofs.Ytfnfbbmegdkhjaa

namespace Go.Proofs.Ytfnfbbmegdkhjaa
open Go.RowKit Go.Shelf
set_option maxRecDepth 100000
theorem rep_tm {S : Nat → Prop} {w : World} {t : Tm} {cs : List Value} : Rep S w t cs ↔ ∃ v, cs = [.int .i64 t.kind, .int .i64 t.num, v] ∧ RepS S w v t.sub := by
  cases t with
  | mk k n sub =>
  unfold Rep RepS
  simp only [Enc.enc, Enc.sz, tmD, tmDs_map, RepF, Tm.kind, Tm.num, Tm.sub]
  constructor
  · rintro ⟨c, cr, rfl, h1, c, cr, rfl, h2, c, cr, rfl, h5, rfl⟩
    simp only [RepV] at h1 h2
    obtain ⟨rfl, -⟩ := h1
    obtain ⟨rfl, -⟩ := h2
    exact ⟨_, rfl, h5⟩
  · rintro ⟨v, rfl, h5⟩
    exact ⟨_, _, rfl, by simp [RepV, Value.oneCell'], _, _, rfl, by simp [RepV, Value.oneCell'], _, _, rfl, h5, rfl⟩
/-- whole numbers that a call made, in a block of its own -/
theorem PCalls.ownI {P : Program} {f : FuncId} {args : List PV} {E : TypeId} {l : List Int} (h : PCalls P f args [] fun p s => ∃ g, p = .own g (l.map encD) ∧ s = [.tok g E 1 l.length]) {w : World} {vs : Array Value} (ha : RelVs (K0 w) w args vs) :
    Calls P f vs w fun e w' => ∃ u c, e = .returned (.slice u l.length c) ∧ w'.ownsRow w.heap.size E 1 (.slice u l.length c) l.length (l.map (Value.int .i64)) ∧ Below w.heap.size w w' := by
  refine (h (F0 w) (K0 w) w vs (rel0 w) ha).mono ?_
  rintro e w' ⟨v, K', p, st', rfl, hx, hr, hv, g, rfl, rfl⟩
  obtain ⟨u, xs, h1, h2, h3, h4, h5⟩ := hr.ents _ (List.mem_singleton.2 rfl)
  generalize hrows : l.map encD = rows at hv
  cases hv with
  | @own _ _ _ u' hd hg hle heq =>
  rw [h1] at hg
  obtain rfl := Option.some.inj hg
  have hlen : rows.length = l.length := by rw [← hrows, List.length_map]
  have hvu := heq (by rw [h3, hlen])
  subst hvu
  obtain ⟨a, cap, hv, hc1, hc2⟩ := rows_form hd
  subst hv
  rw [hlen] at *
  refine ⟨a, cap, rfl, ?_, hx.os, hx.tape, hx.output, hx.size, fun k hk => hx.hp k hk⟩
  have hxs : xs = l.map (Value.int .i64) := by
    obtain ⟨ys, hy, a', cap', he, hcell⟩ := hd.rv (es := 1) (by decide) (by rw [← hrows]; exact rows1 l)
    have hyl : ys = l.map (Value.int .i64) := by
      refine List.ext_getElem? fun i => ?_
      by_cases hi : i < l.length
      · have hr1 : rows[i]? = some [D.v (.int .i64 l[i])] := by rw [← hrows, List.getElem?_map, List.getElem?_eq_getElem hi]; rfl
        obtain ⟨x, h6, h7⟩ := hy.2.2 i 0 _ (.v (.int .i64 l[i])) hr1 rfl
        cases h7
        rw [show i * 1 + 0 = i by omega] at h6
        rw [h6, List.getElem?_map, List.getElem?_eq_getElem hi]; rfl
      · rw [List.getElem?_eq_none (by rw [hy.1, ← hrows, List.length_map]; omega), List.getElem?_eq_none (by rw [List.length_map]; omega)]
    rw [← hyl]
    have hxl : xs.length = l.length := by rw [h4.1]; omega
    have hyll : ys.length = l.length := by rw [hyl, List.length_map]
    rcases h4.2 with ⟨e1, e2⟩ | ⟨g', cap2, cur, e1, e2, e3, e4, e5, e6, e7⟩
    · rw [List.eq_nil_of_length_eq_zero (hxl.trans e2), List.eq_nil_of_length_eq_zero (hyll.trans e2)]
    · refine List.ext_getElem? fun i => ?_
      by_cases hi : i < l.length
      · obtain ⟨y, hyi⟩ : ∃ y, ys[i]? = some y := ⟨_, List.getElem?_eq_getElem (by omega)⟩
        injection e1 with e8 _ _
        injection he with e9 _ _
        have h8 := (hcell ⟨g', 0, none⟩ (by rw [← e9, e8]) i y hyi).1
        rw [hyi, ← e7, List.getElem?_take, if_pos (by omega)]
        rw [addr_plus, Nat.zero_add, cell_at e3] at h8
        simpa using h8
      · rw [List.getElem?_eq_none (by omega), List.getElem?_eq_none (by omega)]
  rw [hxs] at h4
  refine ⟨h4.1, ?_⟩
  rcases h4.2 with h | ⟨g', cap', cur, e1, e2, e3, e4⟩
  · exact .inl h
  · refine .inr ⟨g', cap', cur, e1, ?_, e3, e4⟩
    have := (h5 g' (by rw [e1]; rfl)).1
    exact Nat.le_of_not_lt this
theorem own_block {w : World} {base e n : Nat} {u : Option Addr} {c : Nat} {N : List Int} (h : w.ownsRow base e 1 (.slice u n c) n (N.map (Value.int .i64))) (hn : N.length = n) (h0 : 0 < n) :
    ∃ g cur, u = some ⟨g, 0, none⟩ ∧ base ≤ g ∧ g < w.heap.size ∧ w.heap[g]? = some (.cells cur e (0, 0)) ∧ n ≤ c ∧ c ≤ maxLen ∧ cur.size = c * 1 ∧ cur.toList.take N.length = N.map (Value.int .i64) := by
  rcases h.2 with ⟨e0, _⟩ | ⟨g', cap', cur, e0, hb, hg, hn', hm, hs, ht⟩
  · cases e0; omega
  · injection e0 with e1 _ e3
    subst e1; subst e3
    have hlt : g' < w.heap.size := by
      obtain ⟨h1, _⟩ := Array.getElem?_eq_some_iff.1 hg; exact h1
    exact ⟨g', cur, rfl, hb, hlt, hg, hn', hm, hs, by rw [hn]; simpa using ht⟩
theorem slsort_any (N : List Int) (u : Option Addr) (c base : Nat) (w : World) (hN5 : N.length ≤ 50000) (hbase : base ≤ w.heap.size) (hown : w.ownsRow base 3 1 (.slice u N.length c) N.length (N.map (Value.int .i64))) :
    Calls Try.prog 133 #[.slice u N.length c] w fun e w' => e = .returned (.tuple #[]) ∧ w'.ownsRow base 3 1 (.slice u N.length c) N.length ((N.mergeSort fun x y => decide (x ≤ y)).map (Value.int .i64)) ∧ Below base w w' := by
  by_cases h0 : 0 < N.length
  · obtain ⟨g, cur, rfl, hb, hlt, hg, hnc, hm, hs, ht⟩ := own_block hown rfl h0
    have H := Any.slices_Sort_int Try.lays189 g 0 c N w (holds_of_blockI hg ht) hlt (by omega)
    refine H.mono ?_
    rintro e w' ⟨rfl, n, os, rfl⟩
    refine ⟨rfl, ownsRow_sortedI (by simp) hb hg hnc hm hs, ?_⟩
    exact (Below.refl base w).grown (grownBy_sortedI _) hbase (fun k hk => by cases hk; exact hb)
  · have hN : N = [] := List.length_eq_zero_iff.1 (by omega)
    subst hN
    refine (Any.slices_Sort_int_none Try.lays189 u c w).mono ?_
    rintro e w' ⟨rfl, rfl⟩
    exact ⟨rfl, by simpa using hown, Below.refl _ _⟩
theorem slcompact_any (N : List Int) (u : Option Addr) (c base : Nat) (w : World) (hown : w.ownsRow base 3 1 (.slice u N.length c) N.length (N.map (Value.int .i64))) :
    Calls Try.prog 134 #[.slice u N.length c] w fun e w' => e = .returned (.slice u (Lib.compact N).length c) ∧ w'.ownsRow base 3 1 (.slice u (Lib.compact N).length c) (Lib.compact N).length ((Lib.compact N).map (Value.int .i64)) ∧ Below base w w' := by
  by_cases h0 : 0 < N.length
  · obtain ⟨g, cur, rfl, hb, hlt, hg, hnc, hm, hs, ht⟩ := own_block hown rfl h0
    have hle := Lib.compact_length_le N
    have H := Any.slices_Compact_int Try.laysNm220 g 0 c N w (holds_of_blockI hg ht) (by unfold maxLen at hm; omega) hnc
    refine H.mono ?_
    rintro e w' ⟨rfl, q, rfl⟩
    have h := Lib.ownsRow_putRow (q := q) (ys := Lib.compact N ++ List.replicate (N.length - (Lib.compact N).length) 0) hown (by simp; omega) hle
    rw [List.take_left'] at h
    · exact ⟨rfl, h, Lib.below_putRow (Below.refl _ _) hb⟩
    · rfl
  · have hN : N = [] := List.length_eq_zero_iff.1 (by omega)
    subst hN
    refine (Any.slices_Compact_int_empty Try.laysNm220 u c w).mono ?_
    rintro e w' ⟨rfl, rfl⟩
    exact ⟨rfl, hown, Below.refl _ _⟩
set_option maxHeartbeats 4000000 in
theorem rising_any (a b : Int) (t : Tm) (u : Option Addr) (c base : Nat) (w : World) (hnd : cndT t ≤ 20000) (hbase : base ≤ w.heap.size) (hown : w.ownsRow base 3 1 (.slice u (clT a b t).length c) (clT a b t).length ((clT a b t).map (Value.int .i64))) :
    Calls Try.prog 100 #[.slice u (clT a b t).length c] w fun e w' => e = .returned (.slice u (nmT a b t).length c) ∧ w'.ownsRow base 3 1 (.slice u (nmT a b t).length c) (nmT a b t).length ((nmT a b t).map (Value.int .i64)) ∧ Below base w w' := by
  have hR := rise_nm a b t
  have S1 := Lib.hid (slsort_any _ u c base w (by have := cl_len a b t; omega) hbase hown)
  have hml : ((clT a b t).mergeSort fun x y => decide (x ≤ y)).length = (clT a b t).length := List.length_mergeSort _
  rw [← hml] at S1 ⊢
  generalize ((clT a b t).mergeSort fun x y => decide (x ≤ y)) = S at *
  generalize nmT a b t = R at *
  clear hown hml
  have HR := Lib.hid hR
  clear hR
  go_enter Try.func100, Try.ntmps100
  go_wp2_with fail
  refine S1.out.mono ?_
  rintro e w1 ⟨rfl, ho1, hb1⟩
  have C := Lib.hid (slcompact_any S u c base w1 ho1)
  have HB1 := Lib.hid hb1
  clear ho1 hb1 S1
  go_wp2_with fail
  refine C.out.mono ?_
  rw [HR.out]
  rintro e w2 ⟨rfl, ho2, hb2⟩
  have HO := Lib.hid ho2
  have HB := Lib.hid (HB1.out.trans hb2)
  clear ho2 hb2 C
  go_wp2_with fail
  go_ret
  exact ⟨rfl, HO.out, HB.out⟩
end Go.Proofs.Ytfnfbbmegdkhjaa

namespace Go.Proofs.Ytfnfbbmegdkhjaa
open Go.RowKit
set_option maxRecDepth 100000
theorem relK0 {α : Type} [Enc α] [EncOk α] {w : World} {t : α} {cs : List Value} (h : Rep (fun _ => True) w t cs) : RelV (K0 w) w (aggD t) (.agg cs.toArray) := rel_rep (K := K0 w) (fun b o v _ h => ⟨v, h⟩) h
theorem rvI (K : Nat → Nat → Prop) (w : World) (l : List Int) : RV K w 1 (l.map encD) (l.map (Value.int .i64)) := by
  refine ⟨by simp, rows1 l, fun i j row d hi hj => ?_⟩
  rw [List.getElem?_map] at hi
  obtain ⟨n, hn, rfl⟩ := Option.map_eq_some_iff.1 hi
  have hj0 : j = 0 := by
    have := (List.getElem?_eq_some_iff.1 hj).1
    simpa [Je] using this
  subst hj0
  obtain rfl : D.v (.int .i64 n) = d := Option.some.inj hj
  exact ⟨.int .i64 n, by rw [show i * 1 + 0 = i by omega, List.getElem?_map, hn]; rfl, .v trivial⟩
theorem relI {w w' : World} {base e : Nat} {v : Value} {l : List Int} (h : w'.ownsRow base e 1 v l.length (l.map (Value.int .i64))) (hb : w.heap.size ≤ base) {K' : Kp} (hK : ∀ b o u, w.heap.size ≤ b → w'.cell? ⟨b, o, none⟩ = some u → K'.cell b o) : RelD K'.cell w' (.sl (l.map encD)) v := by
  refine (rvI K'.cell w' l).rel (E := e) (n := l.length) ⟨h.1, ?_⟩ (by rw [List.length_map]) fun b hv o ho => ?_
  · rcases h.2 with h | ⟨g, cap, cur, e1, e2, e3⟩
    · exact .inl h
    · exact .inr ⟨g, cap, cur, e1, Nat.zero_le _, e3⟩
  · rcases h.2 with ⟨e1, -⟩ | ⟨g, cap, cur, e1, e2, e3, e4, e5, e6, e7⟩
    · rw [e1] at hv; cases hv
    · rw [e1] at hv
      obtain rfl : g = b := Option.some.inj hv
      obtain ⟨u, hu⟩ : ∃ u, cur[o]? = some u := ⟨_, Array.getElem?_eq_getElem (by omega)⟩
      exact hK g o u (by omega) (by rw [cell_at e3]; exact hu)
set_option maxHeartbeats 4000000 in
theorem tfrees_p (t : Tm) : PCalls Try.prog 58 [aggD t] [] fun p s => p = .d (.sl ((enT 8 8 t).map encD)) ∧ s = [] := by
  refine PCalls.data fun K w vs ha => ?_
  obtain ⟨v, rfl, hv⟩ := ha.one
  obtain ⟨cs, rfl, ht⟩ := rep_rel hv
  obtain ⟨sv, rfl, hsub⟩ := rep_tm.1 ht
  obtain ⟨ad, nn, cap, rfl⟩ := hsub.form
  have E := boxes1 w #[.int .i64 t.kind, .int .i64 t.num, .slice ad nn cap] 28
  have HT := Lib.hid ht
  have HE := Lib.hid E
  have SH := Lib.hid (((tshaped_p t).mono fun _ _ h => h.1).top (relVs_cons (relK0 (ht.later E.2.1)) (relVs_nil _ _)))
  clear hv ha hsub ht E
  cases hb : shapedB t with
  | true =>
    have hE : enT 8 8 t = nmT 8 8 t := if_pos hb
    have hnd := (shaped_hg hb).2.2
    rw [hb] at SH
    rw [hE]
    clear hE hb
    go_enter Try.func58, Try.ntmps58
    go_wp2_with fail
    refine SH.out.mono ?_
    rintro e w1 ⟨rfl, hb1⟩
    have h1 := (hb1.block w.heap.size (by have := HE.out.2.2; omega)).trans HE.out.1
    have c0 := cell_at h1 0
    have c1 := cell_at h1 1
    have c2 := cell_at h1 2
    have HW1 := Lib.hid (HE.out.2.1.trans (hb1.mono HE.out.2.1.size))
    have C := Lib.hid ((collect_o t 8 8 (by omega)).ownI (relVs_cons (relK0 (HT.out.later HW1.out)) (relVs_cons (.d (.v trivial)) (relVs_cons (.d (.v trivial)) (relVs_nil _ _)))))
    clear hb1 SH h1
    go_wp2_with fail
    refine C.out.mono ?_
    rintro e w2 ⟨u, c, rfl, ho, hb2⟩
    have R := Lib.hid (rising_any 8 8 t u c w1.heap.size w2 (by omega) hb2.size ho)
    have HB2 := Lib.hid hb2
    clear hb2 ho C c0 c1 c2
    go_wp2_with fail
    refine R.out.mono ?_
    rintro e w3 ⟨rfl, ho3, hb3⟩
    have HS := Lib.hid ho3
    have HB := Lib.hid (HW1.out.trans ((HB2.out.trans hb3).mono HW1.out.size))
    have HZ := Lib.hid HW1.out.size
    clear hb3 ho3 R
    go_wp2_with fail
    go_ret
    exact ⟨_, rfl, HB.out, fun K' hK => .d (relI HS.out HZ.out hK)⟩
  | false =>
    have hE : enT 8 8 t = [] := if_neg (by rw [hb]; simp)
    rw [hb] at SH
    rw [hE]
    clear hE hb
    go_enter Try.func58, Try.ntmps58
    go_wp2_with fail
    refine SH.out.mono ?_
    rintro e w1 ⟨rfl, hb1⟩
    have HW1 := Lib.hid (HE.out.2.1.trans (hb1.mono HE.out.2.1.size))
    clear hb1
    go_wp2_with fail
    go_ret
    exact ⟨_, rfl, HW1.out, fun K' hK => .d (.nil (by decide))⟩
set_option maxHeartbeats 4000000 in
theorem tentries_p (t : Tm) : PCalls Try.prog 191 [aggD t] [] fun p s => p = .d (.sl ((enT 6 7 t).map encD)) ∧ s = [] := by
  refine PCalls.data fun K w vs ha => ?_
  obtain ⟨v, rfl, hv⟩ := ha.one
  obtain ⟨cs, rfl, ht⟩ := rep_rel hv
  obtain ⟨sv, rfl, hsub⟩ := rep_tm.1 ht
  obtain ⟨ad, nn, cap, rfl⟩ := hsub.form
  have E := boxes1 w #[.int .i64 t.kind, .int .i64 t.num, .slice ad nn cap] 28
  have HT := Lib.hid ht
  have HE := Lib.hid E
  have SH := Lib.hid (((tshaped_p t).mono fun _ _ h => h.1).top (relVs_cons (relK0 (ht.later E.2.1)) (relVs_nil _ _)))
  clear hv ha hsub ht E
  cases hb : shapedB t with
  | true =>
    have hE : enT 6 7 t = nmT 6 7 t := if_pos hb
    have hnd := (shaped_hg hb).2.2
    rw [hb] at SH
    rw [hE]
    clear hE hb
    go_enter Try.func191, Try.ntmps191
    go_wp2_with fail
    refine SH.out.mono ?_
    rintro e w1 ⟨rfl, hb1⟩
    have h1 := (hb1.block w.heap.size (by have := HE.out.2.2; omega)).trans HE.out.1
    have c0 := cell_at h1 0
    have c1 := cell_at h1 1
    have c2 := cell_at h1 2
    have HW1 := Lib.hid (HE.out.2.1.trans (hb1.mono HE.out.2.1.size))
    have C := Lib.hid ((collect_o t 6 7 (by omega)).ownI (relVs_cons (relK0 (HT.out.later HW1.out)) (relVs_cons (.d (.v trivial)) (relVs_cons (.d (.v trivial)) (relVs_nil _ _)))))
    clear hb1 SH h1
    go_wp2_with fail
    refine C.out.mono ?_
    rintro e w2 ⟨u, c, rfl, ho, hb2⟩
    have R := Lib.hid (rising_any 6 7 t u c w1.heap.size w2 (by omega) hb2.size ho)
    have HB2 := Lib.hid hb2
    clear hb2 ho C c0 c1 c2
    go_wp2_with fail
    refine R.out.mono ?_
    rintro e w3 ⟨rfl, ho3, hb3⟩
    have HS := Lib.hid ho3
    have HB := Lib.hid (HW1.out.trans ((HB2.out.trans hb3).mono HW1.out.size))
    have HZ := Lib.hid HW1.out.size
    clear hb3 ho3 R
    go_wp2_with fail
    go_ret
    exact ⟨_, rfl, HB.out, fun K' hK => .d (relI HS.out HZ.out hK)⟩
  | false =>
    have hE : enT 6 7 t = [] := if_neg (by rw [hb]; simp)
    rw [hb] at SH
    rw [hE]
    clear hE hb
    go_enter Try.func191, Try.ntmps191
    go_wp2_with fail
    refine SH.out.mono ?_
    rintro e w1 ⟨rfl, hb1⟩
    have HW1 := Lib.hid (HE.out.2.1.trans (hb1.mono HE.out.2.1.size))
    clear hb1
    go_wp2_with fail
    go_ret
    exact ⟨_, rfl, HW1.out, fun K' hK => .d (.nil (by decide))⟩
end Go.Proofs.Ytfnfbbmegdkhjaa

namespace Go.Proofs.Ytfnfbbmegdkhjaa
open Go.RowKit
set_option maxRecDepth 100000
set_option maxHeartbeats 8000000 in
theorem rgood_p : ∀ (t : Tm), PCalls Try.prog 55 [aggD t] [] fun p s => p = .d (.v (.bool (goodB t))) ∧ s = [] := by
  refine Tm.ind ?_
  intro k n sub ih
  have HR := Lib.hid (show goodB (.mk k n sub) = (cheadB (.mk k n sub) && cgoodL sub) by simp only [goodB])
  simp only [aggD, Jk, List.map_cons, List.map_nil, Ju, Jv, Jw]
  have IH := Lib.hid ih
  clear ih
  by_cases hk : k = 1 ∨ k = 2 ∨ k = 3 ∨ k = 4 ∨ k = 5 ∨ k = 6 ∨ k = 7 ∨ k = 8
  rotate_left
  · have hf : Hid (goodB (.mk k n sub) = false) := by rw [show goodB (.mk k n sub) = _ from HR.out, head_no (by omega)]; rfl
    rw [hf.out]
    have h1 : ¬ k = 1 := by omega
    have h2 : ¬ k = 2 := by omega
    have h3 : ¬ k = 3 := by omega
    have h4 : ¬ k = 4 := by omega
    have h5 : ¬ k = 5 := by omega
    have h6 : ¬ k = 6 := by omega
    have h7 : ¬ k = 7 := by omega
    have h8 : ¬ k = 8 := by omega
    clear hk HR hf
    refine PCalls.enter Try.func55 rfl Try.ntmps55 (by simp) ?_
    simp only [argsF]
    refine go_ ?_
    refine Jc ?_
    intro i0 hi0
    refine go_ ?_
    refine Jl (by simp) (by simp only [Try.results55]; rfl) (by simp [resP, St.box?, PF.get, Jm, TyK.agg, *]; rfl) (List.nil_sublist _) ?_
    exact ⟨rfl, rfl⟩
  · rcases hk with rfl | rfl | rfl | rfl | rfl | rfl | rfl | rfl
    · by_cases hs : sub = []
      · by_cases h0 : n < 0
        · have hf : Hid (goodB (.mk 1 n sub) = false) := by rw [show goodB (.mk 1 n sub) = _ from HR.out, head_no (fun h => absurd h.2.2.2.1 (by omega))]; rfl
          rw [hf.out]
          clear HR hf IH
          refine PCalls.enter Try.func55 rfl Try.ntmps55 (by simp) ?_
          simp only [argsF]
          refine go_ ?_
          refine Jc ?_
          intro i0 hi0
          refine go_ ?_
          refine Jl (by simp) (by simp only [Try.results55]; rfl) (by simp [resP, St.box?, PF.get, Jm, TyK.agg, *]; rfl) (List.nil_sublist _) ?_
          exact ⟨rfl, rfl⟩
        · by_cases hm : 1048576 < n
          · have hf : Hid (goodB (.mk 1 n sub) = false) := by rw [show goodB (.mk 1 n sub) = _ from HR.out, head_no (fun h => absurd h.2.2.2.2.1 (by simp [mostOf]; omega))]; rfl
            rw [hf.out]
            clear HR hf IH
            refine PCalls.enter Try.func55 rfl Try.ntmps55 (by simp) ?_
            simp only [argsF]
            refine go_ ?_
            refine Jc ?_
            intro i0 hi0
            refine go_ ?_
            refine Jl (by simp) (by simp only [Try.results55]; rfl) (by simp [resP, St.box?, PF.get, Jm, TyK.agg, *]; rfl) (List.nil_sublist _) ?_
            exact ⟨rfl, rfl⟩
          · subst hs
            have HR2 : Hid (goodB (.mk 1 n []) = true) := by rw [show goodB (.mk 1 n []) = _ from HR.out, head_yes ⟨by decide, by decide, rfl, by omega, by simp [mostOf]; omega, .inl (by decide)⟩]; rfl
            generalize goodB (.mk 1 n []) = R at *
            clear HR
            refine PCalls.enter Try.func55 rfl Try.ntmps55 (by simp) ?_
            simp only [argsF]
            refine go_ ?_
            refine Jc ?_
            intro i0 hi0
            refine go_ ?_
            refine PW_loop (ι := Unit) (fun _ => True) (fun _ => [(3, .d (.v (.int .i64 0))), (5, .d (.v (.int .i64 0)))]) (fun _ => []) (fun _ => 0) () trivial ?_ ?_ ?_
            · repeat (first | exact Js _ | refine Jr (by simp [PF.get]; rfl) (by first | rfl | (simp [*]; done) | fail) ?_)
            · repeat (first | exact List.Sublist.refl _ | exact List.nil_sublist _ | refine List.Sublist.cons_cons _ ?_ | refine List.Sublist.cons _ ?_)
            · rintro _ _
              refine go_ ?_
              refine Jl (by simp) (by simp only [Try.results55]; rfl) (by simp [resP, St.box?, PF.get, Jm, TyK.agg, *]; rfl) (List.nil_sublist _) ?_
              exact ⟨by rw [HR2.out]; rfl, rfl⟩
      · have hf : Hid (goodB (.mk 1 n sub) = false) := by rw [show goodB (.mk 1 n sub) = _ from HR.out, head_no (fun h => hs (List.eq_nil_of_length_eq_zero (by have := h.2.2.1; simp [subsOf] at this; first | exact this | (rw [this]; rfl))))]; rfl
        rw [hf.out]
        clear HR hf IH
        refine PCalls.enter Try.func55 rfl Try.ntmps55 (by simp) ?_
        simp only [argsF]
        refine go_ ?_
        refine Jc ?_
        intro i0 hi0
        refine go_ ?_
        refine Jl (by simp) (by simp only [Try.results55]; rfl) (by simp [resP, St.box?, PF.get, Jm, TyK.agg, *]; rfl) (List.nil_sublist _) ?_
        exact ⟨rfl, rfl⟩
    · by_cases hs : sub = []
      · by_cases h0 : n < 0
        · have hf : Hid (goodB (.mk 2 n sub) = false) := by rw [show goodB (.mk 2 n sub) = _ from HR.out, head_no (fun h => absurd h.2.2.2.1 (by omega))]; rfl
          rw [hf.out]
          clear HR hf IH
          refine PCalls.enter Try.func55 rfl Try.ntmps55 (by simp) ?_
          simp only [argsF]
          refine go_ ?_
          refine Jc ?_
          intro i0 hi0
          refine go_ ?_
          refine Jl (by simp) (by simp only [Try.results55]; rfl) (by simp [resP, St.box?, PF.get, Jm, TyK.agg, *]; rfl) (List.nil_sublist _) ?_
          exact ⟨rfl, rfl⟩
        · by_cases hm : 7 < n
          · have hf : Hid (goodB (.mk 2 n sub) = false) := by rw [show goodB (.mk 2 n sub) = _ from HR.out, head_no (fun h => absurd h.2.2.2.2.1 (by simp [mostOf]; omega))]; rfl
            rw [hf.out]
            clear HR hf IH
            refine PCalls.enter Try.func55 rfl Try.ntmps55 (by simp) ?_
            simp only [argsF]
            refine go_ ?_
            refine Jc ?_
            intro i0 hi0
            refine go_ ?_
            refine Jl (by simp) (by simp only [Try.results55]; rfl) (by simp [resP, St.box?, PF.get, Jm, TyK.agg, *]; rfl) (List.nil_sublist _) ?_
            exact ⟨rfl, rfl⟩
          · subst hs
            have HR2 : Hid (goodB (.mk 2 n []) = true) := by rw [show goodB (.mk 2 n []) = _ from HR.out, head_yes ⟨by decide, by decide, rfl, by omega, by simp [mostOf]; omega, .inl (by decide)⟩]; rfl
            generalize goodB (.mk 2 n []) = R at *
            clear HR
            refine PCalls.enter Try.func55 rfl Try.ntmps55 (by simp) ?_
            simp only [argsF]
            refine go_ ?_
            refine Jc ?_
            intro i0 hi0
            refine go_ ?_
            refine PW_loop (ι := Unit) (fun _ => True) (fun _ => [(3, .d (.v (.int .i64 0))), (5, .d (.v (.int .i64 0)))]) (fun _ => []) (fun _ => 0) () trivial ?_ ?_ ?_
            · repeat (first | exact Js _ | refine Jr (by simp [PF.get]; rfl) (by first | rfl | (simp [*]; done) | fail) ?_)
            · repeat (first | exact List.Sublist.refl _ | exact List.nil_sublist _ | refine List.Sublist.cons_cons _ ?_ | refine List.Sublist.cons _ ?_)
            · rintro _ _
              refine go_ ?_
              refine Jl (by simp) (by simp only [Try.results55]; rfl) (by simp [resP, St.box?, PF.get, Jm, TyK.agg, *]; rfl) (List.nil_sublist _) ?_
              exact ⟨by rw [HR2.out]; rfl, rfl⟩
      · have hf : Hid (goodB (.mk 2 n sub) = false) := by rw [show goodB (.mk 2 n sub) = _ from HR.out, head_no (fun h => hs (List.eq_nil_of_length_eq_zero (by have := h.2.2.1; simp [subsOf] at this; first | exact this | (rw [this]; rfl))))]; rfl
        rw [hf.out]
        clear HR hf IH
        refine PCalls.enter Try.func55 rfl Try.ntmps55 (by simp) ?_
        simp only [argsF]
        refine go_ ?_
        refine Jc ?_
        intro i0 hi0
        refine go_ ?_
        refine Jl (by simp) (by simp only [Try.results55]; rfl) (by simp [resP, St.box?, PF.get, Jm, TyK.agg, *]; rfl) (List.nil_sublist _) ?_
        exact ⟨rfl, rfl⟩
    · by_cases hs : sub.length = 2
      · by_cases h0 : n < 0
        · have hf : Hid (goodB (.mk 3 n sub) = false) := by rw [show goodB (.mk 3 n sub) = _ from HR.out, head_no (fun h => absurd h.2.2.2.1 (by omega))]; rfl
          rw [hf.out]
          clear HR hf IH
          refine PCalls.enter Try.func55 rfl Try.ntmps55 (by simp) ?_
          simp only [argsF]
          refine go_ ?_
          refine Jc ?_
          intro i0 hi0
          refine go_ ?_
          refine Jl (by simp) (by simp only [Try.results55]; rfl) (by simp [resP, St.box?, PF.get, Jm, TyK.agg, *]; rfl) (List.nil_sublist _) ?_
          exact ⟨rfl, rfl⟩
        · by_cases hm : 0 < n
          · have hf : Hid (goodB (.mk 3 n sub) = false) := by rw [show goodB (.mk 3 n sub) = _ from HR.out, head_no (fun h => absurd h.2.2.2.2.1 (by simp [mostOf]; omega))]; rfl
            rw [hf.out]
            clear HR hf IH
            refine PCalls.enter Try.func55 rfl Try.ntmps55 (by simp) ?_
            simp only [argsF]
            refine go_ ?_
            refine Jc ?_
            intro i0 hi0
            refine go_ ?_
            refine Jl (by simp) (by simp only [Try.results55]; rfl) (by simp [resP, St.box?, PF.get, Jm, TyK.agg, *]; rfl) (List.nil_sublist _) ?_
            exact ⟨rfl, rfl⟩
          · have HR2 : Hid (goodB (.mk 3 n sub) = cgoodL sub) := by rw [show goodB (.mk 3 n sub) = _ from HR.out, head_yes ⟨by decide, by decide, by rw [hs]; rfl, by omega, by simp [mostOf]; omega, .inl (by decide)⟩]; rfl
            generalize goodB (.mk 3 n sub) = R at *
            clear HR
            refine PCalls.enter Try.func55 rfl Try.ntmps55 (by simp) ?_
            simp only [argsF]
            refine go_ ?_
            refine Jc ?_
            intro i0 hi0
            refine go_ ?_
            refine PW_loop (ι := Nat) (fun y => y ≤ 2 ∧ Hid (R = cgoodL (List.drop y sub))) (fun y => [(1, .ptr i0 0), (3, .d (.v (.int .i64 2))), (5, .d (.v (.int .i64 (y : Int))))]) (fun _ => [.box i0 28 [.d (.v (.int .i64 3)), .d (.v (.int .i64 n)), .d (.sl (sub.map encD))]]) (fun y => 2 - y) 0 ⟨Nat.zero_le _, HR2.out⟩ ?_ ?_ ?_
            · repeat (first | exact Js _ | refine Jr (by simp [PF.get]; rfl) (by first | rfl | (simp [*]; done) | fail) ?_)
            · repeat (first | exact List.Sublist.refl _ | exact List.nil_sublist _ | refine List.Sublist.cons_cons _ ?_ | refine List.Sublist.cons _ ?_)
            · rintro j ⟨hj, hR⟩
              clear HR2
              by_cases hlt : j < 2
              · have hlt2 : j < (sub : List Tm).length := by rw [hs]; exact hlt
                have hx0 := get_enc hlt2
                have hc : (j : Int) < 2 := by omega
                have hn : (0 : Int) ≤ j := by omega
                have hin := wr64 (n := (j : Int) + 1) (by omega) (by omega)
                have hR2 : Hid (R = (goodB (sub : List Tm)[j] && cgoodL (List.drop (j + 1) sub))) := by
                  rw [show R = _ from hR.out, List.drop_eq_getElem_cons hlt2]
                  show _ = _
                  simp only [cgoodL]
                have hc1 := Lib.hid (IH.out _ (List.getElem_mem hlt2))
                clear hR
                generalize goodB (sub : List Tm)[j] = b at *
                cases b with
                | false =>
                  have hf : Hid (R = false) := by rw [show R = _ from hR2.out]; rfl
                  refine go_ ?_
                  refine Jb (hc1.out) ?_
                  refine go_ ?_
                  refine Jl (by simp) (by simp only [Try.results55]; rfl) (by simp [resP, St.box?, PF.get, Jm, TyK.agg, *]; rfl) (List.nil_sublist _) ?_
                  exact ⟨by rw [hf.out]; rfl, rfl⟩
                | true =>
                  have hR3 : Hid (R = cgoodL (List.drop (j + 1) sub)) := by rw [show R = _ from hR2.out]; rfl
                  refine go_ ?_
                  refine Jb (hc1.out) ?_
                  refine go_ ?_
                  exact ⟨j + 1, ⟨hlt, hR3⟩, by omega, by repeat (first | exact Js _ | refine Jr (by simp [PF.get]; rfl) (by first | rfl | (simp [*]; done) | fail) ?_), by repeat (first | exact List.Sublist.refl _ | exact List.nil_sublist _ | refine List.Sublist.cons_cons _ ?_ | refine List.Sublist.cons _ ?_)⟩
              · have hc : ¬ (j : Int) < 2 := by omega
                have hf : Hid (R = true) := by rw [show R = _ from hR.out, List.drop_of_length_le (by rw [hs]; omega)]; rfl
                refine go_ ?_
                refine Jl (by simp) (by simp only [Try.results55]; rfl) (by simp [resP, St.box?, PF.get, Jm, TyK.agg, *]; rfl) (List.nil_sublist _) ?_
                exact ⟨by rw [hf.out]; rfl, rfl⟩
      · have hf : Hid (goodB (.mk 3 n sub) = false) := by rw [show goodB (.mk 3 n sub) = _ from HR.out, head_no (fun h => hs (by have := h.2.2.1; simp [subsOf] at this; omega))]; rfl
        have hs2 : ¬ (sub.length : Int) = 2 := by omega
        rw [hf.out]
        clear HR hf IH
        refine PCalls.enter Try.func55 rfl Try.ntmps55 (by simp) ?_
        simp only [argsF]
        refine go_ ?_
        refine Jc ?_
        intro i0 hi0
        refine go_ ?_
        refine Jl (by simp) (by simp only [Try.results55]; rfl) (by simp [resP, St.box?, PF.get, Jm, TyK.agg, *]; rfl) (List.nil_sublist _) ?_
        exact ⟨rfl, rfl⟩
    · by_cases hs : sub.length = 2
      · by_cases h0 : n < 0
        · have hf : Hid (goodB (.mk 4 n sub) = false) := by rw [show goodB (.mk 4 n sub) = _ from HR.out, head_no (fun h => absurd h.2.2.2.1 (by omega))]; rfl
          rw [hf.out]
          clear HR hf IH
          refine PCalls.enter Try.func55 rfl Try.ntmps55 (by simp) ?_
          simp only [argsF]
          refine go_ ?_
          refine Jc ?_
          intro i0 hi0
          refine go_ ?_
          refine Jl (by simp) (by simp only [Try.results55]; rfl) (by simp [resP, St.box?, PF.get, Jm, TyK.agg, *]; rfl) (List.nil_sublist _) ?_
          exact ⟨rfl, rfl⟩
        · by_cases hm : 0 < n
          · have hf : Hid (goodB (.mk 4 n sub) = false) := by rw [show goodB (.mk 4 n sub) = _ from HR.out, head_no (fun h => absurd h.2.2.2.2.1 (by simp [mostOf]; omega))]; rfl
            rw [hf.out]
            clear HR hf IH
            refine PCalls.enter Try.func55 rfl Try.ntmps55 (by simp) ?_
            simp only [argsF]
            refine go_ ?_
            refine Jc ?_
            intro i0 hi0
            refine go_ ?_
            refine Jl (by simp) (by simp only [Try.results55]; rfl) (by simp [resP, St.box?, PF.get, Jm, TyK.agg, *]; rfl) (List.nil_sublist _) ?_
            exact ⟨rfl, rfl⟩
          · have HR2 : Hid (goodB (.mk 4 n sub) = cgoodL sub) := by rw [show goodB (.mk 4 n sub) = _ from HR.out, head_yes ⟨by decide, by decide, by rw [hs]; rfl, by omega, by simp [mostOf]; omega, .inl (by decide)⟩]; rfl
            generalize goodB (.mk 4 n sub) = R at *
            clear HR
            refine PCalls.enter Try.func55 rfl Try.ntmps55 (by simp) ?_
            simp only [argsF]
            refine go_ ?_
            refine Jc ?_
            intro i0 hi0
            refine go_ ?_
            refine PW_loop (ι := Nat) (fun y => y ≤ 2 ∧ Hid (R = cgoodL (List.drop y sub))) (fun y => [(1, .ptr i0 0), (3, .d (.v (.int .i64 2))), (5, .d (.v (.int .i64 (y : Int))))]) (fun _ => [.box i0 28 [.d (.v (.int .i64 4)), .d (.v (.int .i64 n)), .d (.sl (sub.map encD))]]) (fun y => 2 - y) 0 ⟨Nat.zero_le _, HR2.out⟩ ?_ ?_ ?_
            · repeat (first | exact Js _ | refine Jr (by simp [PF.get]; rfl) (by first | rfl | (simp [*]; done) | fail) ?_)
            · repeat (first | exact List.Sublist.refl _ | exact List.nil_sublist _ | refine List.Sublist.cons_cons _ ?_ | refine List.Sublist.cons _ ?_)
            · rintro j ⟨hj, hR⟩
              clear HR2
              by_cases hlt : j < 2
              · have hlt2 : j < (sub : List Tm).length := by rw [hs]; exact hlt
                have hx0 := get_enc hlt2
                have hc : (j : Int) < 2 := by omega
                have hn : (0 : Int) ≤ j := by omega
                have hin := wr64 (n := (j : Int) + 1) (by omega) (by omega)
                have hR2 : Hid (R = (goodB (sub : List Tm)[j] && cgoodL (List.drop (j + 1) sub))) := by
                  rw [show R = _ from hR.out, List.drop_eq_getElem_cons hlt2]
                  show _ = _
                  simp only [cgoodL]
                have hc1 := Lib.hid (IH.out _ (List.getElem_mem hlt2))
                clear hR
                generalize goodB (sub : List Tm)[j] = b at *
                cases b with
                | false =>
                  have hf : Hid (R = false) := by rw [show R = _ from hR2.out]; rfl
                  refine go_ ?_
                  refine Jb (hc1.out) ?_
                  refine go_ ?_
                  refine Jl (by simp) (by simp only [Try.results55]; rfl) (by simp [resP, St.box?, PF.get, Jm, TyK.agg, *]; rfl) (List.nil_sublist _) ?_
                  exact ⟨by rw [hf.out]; rfl, rfl⟩
                | true =>
                  have hR3 : Hid (R = cgoodL (List.drop (j + 1) sub)) := by rw [show R = _ from hR2.out]; rfl
                  refine go_ ?_
                  refine Jb (hc1.out) ?_
                  refine go_ ?_
                  exact ⟨j + 1, ⟨hlt, hR3⟩, by omega, by repeat (first | exact Js _ | refine Jr (by simp [PF.get]; rfl) (by first | rfl | (simp [*]; done) | fail) ?_), by repeat (first | exact List.Sublist.refl _ | exact List.nil_sublist _ | refine List.Sublist.cons_cons _ ?_ | refine List.Sublist.cons _ ?_)⟩
              · have hc : ¬ (j : Int) < 2 := by omega
                have hf : Hid (R = true) := by rw [show R = _ from hR.out, List.drop_of_length_le (by rw [hs]; omega)]; rfl
                refine go_ ?_
                refine Jl (by simp) (by simp only [Try.results55]; rfl) (by simp [resP, St.box?, PF.get, Jm, TyK.agg, *]; rfl) (List.nil_sublist _) ?_
                exact ⟨by rw [hf.out]; rfl, rfl⟩
      · have hf : Hid (goodB (.mk 4 n sub) = false) := by rw [show goodB (.mk 4 n sub) = _ from HR.out, head_no (fun h => hs (by have := h.2.2.1; simp [subsOf] at this; omega))]; rfl
        have hs2 : ¬ (sub.length : Int) = 2 := by omega
        rw [hf.out]
        clear HR hf IH
        refine PCalls.enter Try.func55 rfl Try.ntmps55 (by simp) ?_
        simp only [argsF]
        refine go_ ?_
        refine Jc ?_
        intro i0 hi0
        refine go_ ?_
        refine Jl (by simp) (by simp only [Try.results55]; rfl) (by simp [resP, St.box?, PF.get, Jm, TyK.agg, *]; rfl) (List.nil_sublist _) ?_
        exact ⟨rfl, rfl⟩
    · by_cases hs : sub.length = 2
      · by_cases h0 : n < 0
        · have hf : Hid (goodB (.mk 5 n sub) = false) := by rw [show goodB (.mk 5 n sub) = _ from HR.out, head_no (fun h => absurd h.2.2.2.1 (by omega))]; rfl
          rw [hf.out]
          clear HR hf IH
          refine PCalls.enter Try.func55 rfl Try.ntmps55 (by simp) ?_
          simp only [argsF]
          refine go_ ?_
          refine Jc ?_
          intro i0 hi0
          refine go_ ?_
          refine Jl (by simp) (by simp only [Try.results55]; rfl) (by simp [resP, St.box?, PF.get, Jm, TyK.agg, *]; rfl) (List.nil_sublist _) ?_
          exact ⟨rfl, rfl⟩
        · by_cases hm : 0 < n
          · have hf : Hid (goodB (.mk 5 n sub) = false) := by rw [show goodB (.mk 5 n sub) = _ from HR.out, head_no (fun h => absurd h.2.2.2.2.1 (by simp [mostOf]; omega))]; rfl
            rw [hf.out]
            clear HR hf IH
            refine PCalls.enter Try.func55 rfl Try.ntmps55 (by simp) ?_
            simp only [argsF]
            refine go_ ?_
            refine Jc ?_
            intro i0 hi0
            refine go_ ?_
            refine Jl (by simp) (by simp only [Try.results55]; rfl) (by simp [resP, St.box?, PF.get, Jm, TyK.agg, *]; rfl) (List.nil_sublist _) ?_
            exact ⟨rfl, rfl⟩
          · have HR2 : Hid (goodB (.mk 5 n sub) = cgoodL sub) := by rw [show goodB (.mk 5 n sub) = _ from HR.out, head_yes ⟨by decide, by decide, by rw [hs]; rfl, by omega, by simp [mostOf]; omega, .inl (by decide)⟩]; rfl
            generalize goodB (.mk 5 n sub) = R at *
            clear HR
            refine PCalls.enter Try.func55 rfl Try.ntmps55 (by simp) ?_
            simp only [argsF]
            refine go_ ?_
            refine Jc ?_
            intro i0 hi0
            refine go_ ?_
            refine PW_loop (ι := Nat) (fun y => y ≤ 2 ∧ Hid (R = cgoodL (List.drop y sub))) (fun y => [(1, .ptr i0 0), (3, .d (.v (.int .i64 2))), (5, .d (.v (.int .i64 (y : Int))))]) (fun _ => [.box i0 28 [.d (.v (.int .i64 5)), .d (.v (.int .i64 n)), .d (.sl (sub.map encD))]]) (fun y => 2 - y) 0 ⟨Nat.zero_le _, HR2.out⟩ ?_ ?_ ?_
            · repeat (first | exact Js _ | refine Jr (by simp [PF.get]; rfl) (by first | rfl | (simp [*]; done) | fail) ?_)
            · repeat (first | exact List.Sublist.refl _ | exact List.nil_sublist _ | refine List.Sublist.cons_cons _ ?_ | refine List.Sublist.cons _ ?_)
            · rintro j ⟨hj, hR⟩
              clear HR2
              by_cases hlt : j < 2
              · have hlt2 : j < (sub : List Tm).length := by rw [hs]; exact hlt
                have hx0 := get_enc hlt2
                have hc : (j : Int) < 2 := by omega
                have hn : (0 : Int) ≤ j := by omega
                have hin := wr64 (n := (j : Int) + 1) (by omega) (by omega)
                have hR2 : Hid (R = (goodB (sub : List Tm)[j] && cgoodL (List.drop (j + 1) sub))) := by
                  rw [show R = _ from hR.out, List.drop_eq_getElem_cons hlt2]
                  show _ = _
                  simp only [cgoodL]
                have hc1 := Lib.hid (IH.out _ (List.getElem_mem hlt2))
                clear hR
                generalize goodB (sub : List Tm)[j] = b at *
                cases b with
                | false =>
                  have hf : Hid (R = false) := by rw [show R = _ from hR2.out]; rfl
                  refine go_ ?_
                  refine Jb (hc1.out) ?_
                  refine go_ ?_
                  refine Jl (by simp) (by simp only [Try.results55]; rfl) (by simp [resP, St.box?, PF.get, Jm, TyK.agg, *]; rfl) (List.nil_sublist _) ?_
                  exact ⟨by rw [hf.out]; rfl, rfl⟩
                | true =>
                  have hR3 : Hid (R = cgoodL (List.drop (j + 1) sub)) := by rw [show R = _ from hR2.out]; rfl
                  refine go_ ?_
                  refine Jb (hc1.out) ?_
                  refine go_ ?_
                  exact ⟨j + 1, ⟨hlt, hR3⟩, by omega, by repeat (first | exact Js _ | refine Jr (by simp [PF.get]; rfl) (by first | rfl | (simp [*]; done) | fail) ?_), by repeat (first | exact List.Sublist.refl _ | exact List.nil_sublist _ | refine List.Sublist.cons_cons _ ?_ | refine List.Sublist.cons _ ?_)⟩
              · have hc : ¬ (j : Int) < 2 := by omega
                have hf : Hid (R = true) := by rw [show R = _ from hR.out, List.drop_of_length_le (by rw [hs]; omega)]; rfl
                refine go_ ?_
                refine Jl (by simp) (by simp only [Try.results55]; rfl) (by simp [resP, St.box?, PF.get, Jm, TyK.agg, *]; rfl) (List.nil_sublist _) ?_
                exact ⟨by rw [hf.out]; rfl, rfl⟩
      · have hf : Hid (goodB (.mk 5 n sub) = false) := by rw [show goodB (.mk 5 n sub) = _ from HR.out, head_no (fun h => hs (by have := h.2.2.1; simp [subsOf] at this; omega))]; rfl
        have hs2 : ¬ (sub.length : Int) = 2 := by omega
        rw [hf.out]
        clear HR hf IH
        refine PCalls.enter Try.func55 rfl Try.ntmps55 (by simp) ?_
        simp only [argsF]
        refine go_ ?_
        refine Jc ?_
        intro i0 hi0
        refine go_ ?_
        refine Jl (by simp) (by simp only [Try.results55]; rfl) (by simp [resP, St.box?, PF.get, Jm, TyK.agg, *]; rfl) (List.nil_sublist _) ?_
        exact ⟨rfl, rfl⟩
    · by_cases hs : sub = []
      · by_cases h0 : n < 0
        · have hf : Hid (goodB (.mk 6 n sub) = false) := by rw [show goodB (.mk 6 n sub) = _ from HR.out, head_no (fun h => absurd h.2.2.2.1 (by omega))]; rfl
          rw [hf.out]
          clear HR hf IH
          refine PCalls.enter Try.func55 rfl Try.ntmps55 (by simp) ?_
          simp only [argsF]
          refine go_ ?_
          refine Jc ?_
          intro i0 hi0
          refine go_ ?_
          refine Jl (by simp) (by simp only [Try.results55]; rfl) (by simp [resP, St.box?, PF.get, Jm, TyK.agg, *]; rfl) (List.nil_sublist _) ?_
          exact ⟨rfl, rfl⟩
        · by_cases hm : 1048576 < n
          · have hf : Hid (goodB (.mk 6 n sub) = false) := by rw [show goodB (.mk 6 n sub) = _ from HR.out, head_no (fun h => absurd h.2.2.2.2.1 (by simp [mostOf]; omega))]; rfl
            rw [hf.out]
            clear HR hf IH
            refine PCalls.enter Try.func55 rfl Try.ntmps55 (by simp) ?_
            simp only [argsF]
            refine go_ ?_
            refine Jc ?_
            intro i0 hi0
            refine go_ ?_
            refine Jl (by simp) (by simp only [Try.results55]; rfl) (by simp [resP, St.box?, PF.get, Jm, TyK.agg, *]; rfl) (List.nil_sublist _) ?_
            exact ⟨rfl, rfl⟩
          · subst hs
            have HR2 : Hid (goodB (.mk 6 n []) = true) := by rw [show goodB (.mk 6 n []) = _ from HR.out, head_yes ⟨by decide, by decide, rfl, by omega, by simp [mostOf]; omega, .inl (by decide)⟩]; rfl
            generalize goodB (.mk 6 n []) = R at *
            clear HR
            refine PCalls.enter Try.func55 rfl Try.ntmps55 (by simp) ?_
            simp only [argsF]
            refine go_ ?_
            refine Jc ?_
            intro i0 hi0
            refine go_ ?_
            refine PW_loop (ι := Unit) (fun _ => True) (fun _ => [(3, .d (.v (.int .i64 0))), (5, .d (.v (.int .i64 0)))]) (fun _ => []) (fun _ => 0) () trivial ?_ ?_ ?_
            · repeat (first | exact Js _ | refine Jr (by simp [PF.get]; rfl) (by first | rfl | (simp [*]; done) | fail) ?_)
            · repeat (first | exact List.Sublist.refl _ | exact List.nil_sublist _ | refine List.Sublist.cons_cons _ ?_ | refine List.Sublist.cons _ ?_)
            · rintro _ _
              refine go_ ?_
              refine Jl (by simp) (by simp only [Try.results55]; rfl) (by simp [resP, St.box?, PF.get, Jm, TyK.agg, *]; rfl) (List.nil_sublist _) ?_
              exact ⟨by rw [HR2.out]; rfl, rfl⟩
      · have hf : Hid (goodB (.mk 6 n sub) = false) := by rw [show goodB (.mk 6 n sub) = _ from HR.out, head_no (fun h => hs (List.eq_nil_of_length_eq_zero (by have := h.2.2.1; simp [subsOf] at this; first | exact this | (rw [this]; rfl))))]; rfl
        rw [hf.out]
        clear HR hf IH
        refine PCalls.enter Try.func55 rfl Try.ntmps55 (by simp) ?_
        simp only [argsF]
        refine go_ ?_
        refine Jc ?_
        intro i0 hi0
        refine go_ ?_
        refine Jl (by simp) (by simp only [Try.results55]; rfl) (by simp [resP, St.box?, PF.get, Jm, TyK.agg, *]; rfl) (List.nil_sublist _) ?_
        exact ⟨rfl, rfl⟩
    · by_cases hs : sub.length = 1
      · by_cases h0 : n < 0
        · have hf : Hid (goodB (.mk 7 n sub) = false) := by rw [show goodB (.mk 7 n sub) = _ from HR.out, head_no (fun h => absurd h.2.2.2.1 (by omega))]; rfl
          rw [hf.out]
          clear HR hf IH
          refine PCalls.enter Try.func55 rfl Try.ntmps55 (by simp) ?_
          simp only [argsF]
          refine go_ ?_
          refine Jc ?_
          intro i0 hi0
          refine go_ ?_
          refine Jl (by simp) (by simp only [Try.results55]; rfl) (by simp [resP, St.box?, PF.get, Jm, TyK.agg, *]; rfl) (List.nil_sublist _) ?_
          exact ⟨rfl, rfl⟩
        · by_cases hm : 1048576 < n
          · have hf : Hid (goodB (.mk 7 n sub) = false) := by rw [show goodB (.mk 7 n sub) = _ from HR.out, head_no (fun h => absurd h.2.2.2.2.1 (by simp [mostOf]; omega))]; rfl
            rw [hf.out]
            clear HR hf IH
            refine PCalls.enter Try.func55 rfl Try.ntmps55 (by simp) ?_
            simp only [argsF]
            refine go_ ?_
            refine Jc ?_
            intro i0 hi0
            refine go_ ?_
            refine Jl (by simp) (by simp only [Try.results55]; rfl) (by simp [resP, St.box?, PF.get, Jm, TyK.agg, *]; rfl) (List.nil_sublist _) ?_
            exact ⟨rfl, rfl⟩
          · match sub, hs with
            | [x], _ =>
            by_cases hx : x.kind = 2
            rotate_left
            · have hf : Hid (goodB (.mk 7 n [x]) = false) := by rw [show goodB (.mk 7 n [x]) = _ from HR.out, head_no (k := 7) (n := n) (sub := [x]) (fun h => hx (h.2.2.2.2.2.resolve_left (fun h => h rfl)))]; rfl
              rw [hf.out]
              clear HR hf IH
              refine PCalls.enter Try.func55 rfl Try.ntmps55 (by simp) ?_
              simp only [argsF]
              refine go_ ?_
              refine Jc ?_
              intro i0 hi0
              refine go_ ?_
              refine Jl (by simp) (by simp only [Try.results55]; rfl) (by simp [resP, St.box?, PF.get, Jm, TyK.agg, *]; rfl) (List.nil_sublist _) ?_
              exact ⟨rfl, rfl⟩
            · have HR2 : Hid (goodB (.mk 7 n [x]) = cgoodL [x]) := by rw [show goodB (.mk 7 n [x]) = _ from HR.out, head_yes (k := 7) (n := n) (sub := [x]) ⟨by decide, by decide, rfl, by omega, by simp [mostOf]; omega, .inr hx⟩]; rfl
              have hx2 : (x.kind != 2) = false := by rw [hx]; rfl
              clear hx
              generalize goodB (.mk 7 n [x]) = R at *
              clear HR
              refine PCalls.enter Try.func55 rfl Try.ntmps55 (by simp) ?_
              simp only [argsF]
              refine go_ ?_
              refine Jc ?_
              intro i0 hi0
              refine go_ ?_
              refine PW_loop (ι := Nat) (fun y => y ≤ 1 ∧ Hid (R = cgoodL (List.drop y [x]))) (fun y => [(1, .ptr i0 0), (3, .d (.v (.int .i64 1))), (5, .d (.v (.int .i64 (y : Int))))]) (fun _ => [.box i0 28 [.d (.v (.int .i64 7)), .d (.v (.int .i64 n)), .d (.sl ([[.v (.int .i64 x.kind), .v (.int .i64 x.num), .sl (x.sub.map encD)]]))]]) (fun y => 1 - y) 0 ⟨Nat.zero_le _, HR2.out⟩ ?_ ?_ ?_
              · repeat (first | exact Js _ | refine Jr (by simp [PF.get]; rfl) (by first | rfl | (simp [*]; done) | fail) ?_)
              · repeat (first | exact List.Sublist.refl _ | exact List.nil_sublist _ | refine List.Sublist.cons_cons _ ?_ | refine List.Sublist.cons _ ?_)
              · rintro j ⟨hj, hR⟩
                clear HR2
                by_cases hlt : j < 1
                · obtain rfl : j = 0 := by omega
                  have hR2 : Hid (R = (goodB x && cgoodL [])) := by rw [show R = _ from hR.out]; rfl
                  have hc1 := Lib.hid (IH.out x (by simp))
                  clear hR
                  generalize goodB x = b at *
                  cases b with
                  | false =>
                    have hf : Hid (R = false) := by rw [show R = _ from hR2.out]; rfl
                    refine go_ ?_
                    refine Jb (hc1.out) ?_
                    refine go_ ?_
                    refine Jl (by simp) (by simp only [Try.results55]; rfl) (by simp [resP, St.box?, PF.get, Jm, TyK.agg, *]; rfl) (List.nil_sublist _) ?_
                    exact ⟨by rw [hf.out]; rfl, rfl⟩
                  | true =>
                    have hR3 : Hid (R = cgoodL (List.drop (0 + 1) [x])) := by rw [show R = _ from hR2.out]; rfl
                    refine go_ ?_
                    refine Jb (hc1.out) ?_
                    refine go_ ?_
                    exact ⟨0 + 1, ⟨by omega, hR3⟩, by omega, by repeat (first | exact Js _ | refine Jr (by simp [PF.get]; rfl) (by first | rfl | (simp [*]; done) | fail) ?_), by repeat (first | exact List.Sublist.refl _ | exact List.nil_sublist _ | refine List.Sublist.cons_cons _ ?_ | refine List.Sublist.cons _ ?_)⟩
                · have hc : ¬ (j : Int) < 1 := by omega
                  have hf : Hid (R = true) := by rw [show R = _ from hR.out, List.drop_of_length_le (by simp; omega)]; rfl
                  refine go_ ?_
                  refine Jl (by simp) (by simp only [Try.results55]; rfl) (by simp [resP, St.box?, PF.get, Jm, TyK.agg, *]; rfl) (List.nil_sublist _) ?_
                  exact ⟨by rw [hf.out]; rfl, rfl⟩
      · have hf : Hid (goodB (.mk 7 n sub) = false) := by rw [show goodB (.mk 7 n sub) = _ from HR.out, head_no (fun h => hs (by have := h.2.2.1; simp [subsOf] at this; omega))]; rfl
        have hs2 : ¬ (sub.length : Int) = 1 := by omega
        rw [hf.out]
        clear HR hf IH
        refine PCalls.enter Try.func55 rfl Try.ntmps55 (by simp) ?_
        simp only [argsF]
        refine go_ ?_
        refine Jc ?_
        intro i0 hi0
        refine go_ ?_
        refine Jl (by simp) (by simp only [Try.results55]; rfl) (by simp [resP, St.box?, PF.get, Jm, TyK.agg, *]; rfl) (List.nil_sublist _) ?_
        exact ⟨rfl, rfl⟩
    · by_cases hs : sub = []
      · by_cases h0 : n < 0
        · have hf : Hid (goodB (.mk 8 n sub) = false) := by rw [show goodB (.mk 8 n sub) = _ from HR.out, head_no (fun h => absurd h.2.2.2.1 (by omega))]; rfl
          rw [hf.out]
          clear HR hf IH
          refine PCalls.enter Try.func55 rfl Try.ntmps55 (by simp) ?_
          simp only [argsF]
          refine go_ ?_
          refine Jc ?_
          intro i0 hi0
          refine go_ ?_
          refine Jl (by simp) (by simp only [Try.results55]; rfl) (by simp [resP, St.box?, PF.get, Jm, TyK.agg, *]; rfl) (List.nil_sublist _) ?_
          exact ⟨rfl, rfl⟩
        · by_cases hm : 1048576 < n
          · have hf : Hid (goodB (.mk 8 n sub) = false) := by rw [show goodB (.mk 8 n sub) = _ from HR.out, head_no (fun h => absurd h.2.2.2.2.1 (by simp [mostOf]; omega))]; rfl
            rw [hf.out]
            clear HR hf IH
            refine PCalls.enter Try.func55 rfl Try.ntmps55 (by simp) ?_
            simp only [argsF]
            refine go_ ?_
            refine Jc ?_
            intro i0 hi0
            refine go_ ?_
            refine Jl (by simp) (by simp only [Try.results55]; rfl) (by simp [resP, St.box?, PF.get, Jm, TyK.agg, *]; rfl) (List.nil_sublist _) ?_
            exact ⟨rfl, rfl⟩
          · subst hs
            have HR2 : Hid (goodB (.mk 8 n []) = true) := by rw [show goodB (.mk 8 n []) = _ from HR.out, head_yes ⟨by decide, by decide, rfl, by omega, by simp [mostOf]; omega, .inl (by decide)⟩]; rfl
            generalize goodB (.mk 8 n []) = R at *
            clear HR
            refine PCalls.enter Try.func55 rfl Try.ntmps55 (by simp) ?_
            simp only [argsF]
            refine go_ ?_
            refine Jc ?_
            intro i0 hi0
            refine go_ ?_
            refine PW_loop (ι := Unit) (fun _ => True) (fun _ => [(3, .d (.v (.int .i64 0))), (5, .d (.v (.int .i64 0)))]) (fun _ => []) (fun _ => 0) () trivial ?_ ?_ ?_
            · repeat (first | exact Js _ | refine Jr (by simp [PF.get]; rfl) (by first | rfl | (simp [*]; done) | fail) ?_)
            · repeat (first | exact List.Sublist.refl _ | exact List.nil_sublist _ | refine List.Sublist.cons_cons _ ?_ | refine List.Sublist.cons _ ?_)
            · rintro _ _
              refine go_ ?_
              refine Jl (by simp) (by simp only [Try.results55]; rfl) (by simp [resP, St.box?, PF.get, Jm, TyK.agg, *]; rfl) (List.nil_sublist _) ?_
              exact ⟨by rw [HR2.out]; rfl, rfl⟩
      · have hf : Hid (goodB (.mk 8 n sub) = false) := by rw [show goodB (.mk 8 n sub) = _ from HR.out, head_no (fun h => hs (List.eq_nil_of_length_eq_zero (by have := h.2.2.1; simp [subsOf] at this; first | exact this | (rw [this]; rfl))))]; rfl
        rw [hf.out]
        clear HR hf IH
        refine PCalls.enter Try.func55 rfl Try.ntmps55 (by simp) ?_
        simp only [argsF]
        refine go_ ?_
        refine Jc ?_
        intro i0 hi0
        refine go_ ?_
        refine Jl (by simp) (by simp only [Try.results55]; rfl) (by simp [resP, St.box?, PF.get, Jm, TyK.agg, *]; rfl) (List.nil_sublist _) ?_
        exact ⟨rfl, rfl⟩
theorem rshaped_p (t : Tm) : PCalls Try.prog 13 [aggD t] [] fun p s => p = .d (.v (.bool (shapedB t))) ∧ s = [] := by
  have hD := Lib.hid (rDepth_p t)
  have hG := Lib.hid (rgood_p t)
  have HR := Lib.hid (show shapedB t = (decide (cdepthT t ≤ 128) && goodB t) from rfl)
  generalize cdepthT t = z at *
  generalize goodB t = g at *
  simp only [aggD, Jk, List.map_cons, List.map_nil]
  by_cases hz : z ≤ 128
  · rw [HR.out]
    refine PCalls.enter Try.func13 rfl Try.ntmps13 (by simp) ?_
    simp only [argsF]
    refine go_ ?_
    refine Jc ?_
    intro i0 hi0
    refine go_ ?_
    refine Jb (hD.out) ?_
    refine go_ ?_
    refine Jb (hG.out) ?_
    refine go_ ?_
    refine Jl (by simp) (by simp only [Try.results13]; rfl) (by simp [resP, St.box?, PF.get, Jm, TyK.agg, *]; rfl) (List.nil_sublist _) ?_
    exact ⟨by simp [hz] <;> rfl, rfl⟩
  · rw [HR.out]
    refine PCalls.enter Try.func13 rfl Try.ntmps13 (by simp) ?_
    simp only [argsF]
    refine go_ ?_
    refine Jc ?_
    intro i0 hi0
    refine go_ ?_
    refine Jb (hD.out) ?_
    refine go_ ?_
    refine Jl (by simp) (by simp only [Try.results13]; rfl) (by simp [resP, St.box?, PF.get, Jm, TyK.agg, *]; rfl) (List.nil_sublist _) ?_
    exact ⟨by simp [hz] <;> rfl, rfl⟩
end Go.Proofs.Ytfnfbbmegdkhjaa

namespace Go.Proofs.Ytfnfbbmegdkhjaa
open Go.RowKit
set_option maxRecDepth 100000
theorem rleaf_p (k n : Int) : PCalls Try.prog 76 [.d (.v (.int .i64 k)), .d (.v (.int .i64 n))] [] fun p s => p = aggD (Tm.mk k n []) ∧ s = [] := by
  refine PCalls.enter Try.func76 rfl Try.ntmps76 (by simp) ?_
  simp only [argsF]
  refine go_ ?_
  refine Jd ?_
  intro i0 hi0
  refine go_ ?_
  refine Rc ?_
  refine go_ ?_
  refine Jl (by simp) (by simp only [Try.results76]; rfl) (by simp [resP, St.box?, PF.get, Jm, TyK.agg, *]; rfl) (List.nil_sublist _) ?_
  exact ⟨by simp [aggD, tupP, PV.norm2, PV.norm1, PV.norm0], rfl⟩
set_option maxHeartbeats 4000000 in
theorem rtwo_p (k : Int) (a b : Tm) : PCalls Try.prog 112 [.d (.v (.int .i64 k)), aggD a, aggD b] [] fun p s => p = aggD (Tm.mk k 0 [a, b]) ∧ s = [] := by
  simp only [aggD, Jk, List.map_cons, List.map_nil, Ju, Jv, Jw]
  refine PCalls.enter Try.func112 rfl Try.ntmps112 (by simp) ?_
  simp only [argsF]
  refine go_ ?_
  refine Jc ?_
  intro i0 hi0
  refine go_ ?_
  refine Jc ?_
  intro i1 hi1
  try simp only [Rh, Rg, Rf, Ja] at hi1
  refine go_ ?_
  refine Jd ?_
  intro i2 hi2
  try simp only [Rh, Rg, Rf, Ja] at hi2
  refine go_ ?_
  refine POps_bs_a ?_
  refine go_ ?_
  refine Rc ?_
  refine go_ ?_
  refine Jl (by simp) (by simp only [Try.results112]; rfl) (by simp [resP, St.box?, PF.get, Jm, TyK.agg, *]; rfl) (List.nil_sublist _) ?_
  exact ⟨by simp [tupP, PV.norm2, PV.norm1, PV.norm0], rfl⟩
theorem tnode_p (k n : Int) (l : List Tm) : PCalls Try.prog 109 [.d (.v (.int .i64 k)), .d (.v (.int .i64 n)), .d (.sl (l.map encD))] [] fun p s => p = aggD (Tm.mk k n l) ∧ s = [] := by
  refine PCalls.enter Try.func109 rfl Try.ntmps109 (by simp) ?_
  simp only [argsF]
  refine go_ ?_
  refine Jd ?_
  intro i0 hi0
  refine go_ ?_
  refine Rc ?_
  refine go_ ?_
  refine Jl (by simp) (by simp only [Try.results109]; rfl) (by simp [resP, St.box?, PF.get, Jm, TyK.agg, *]; rfl) (List.nil_sublist _) ?_
  exact ⟨by simp [aggD, tupP, PV.norm2, PV.norm1, PV.norm0], rfl⟩
theorem tsort_p (n : Int) : PCalls Try.prog 144 [.d (.v (.int .i64 n))] [] fun p s => p = aggD (Tm.mk 2 n []) ∧ s = [] := by
  have hc := Lib.hid (tnode_p 2 n [])
  simp only [aggD, Jk, List.map_cons, List.map_nil, Ju, Jv, Jw] at hc ⊢
  refine PCalls.enter Try.func144 rfl Try.ntmps144 (by simp) ?_
  simp only [argsF]
  refine go_ ?_
  refine Jd ?_
  intro i0 hi0
  refine go_ ?_
  refine Jb (hc.out) ?_
  refine go_ ?_
  refine Rc ?_
  refine go_ ?_
  refine Jl (by simp) (by simp only [Try.results144]; rfl) (by simp [resP, St.box?, PF.get, Jm, TyK.agg, *]; rfl) (List.nil_sublist _) ?_
  exact ⟨by simp [tupP, PV.norm2, PV.norm1, PV.norm0], rfl⟩
set_option maxHeartbeats 4000000 in
theorem tLoose_p (t : Tm) : PCalls Try.prog 74 [aggD t] [] fun p s => p = .d (.v (.int .i64 (looseT t))) ∧ s = [] := by
  have hS := Lib.hid (tshaped_p t)
  have HR := Lib.hid (show looseT t = if shapedB t = true then lsT t 0 else 0 from rfl)
  cases hb : shapedB t with
  | true =>
    obtain ⟨h1, h2, h3⟩ := shaped_hg hb
    have hL := Lib.hid (tloose_p t 0 h1 (by decide) (by omega))
    rw [HR.out, if_pos hb]
    rw [hb] at hS
    clear HR hb h1 h2 h3
    simp only [aggD, Jk, List.map_cons, List.map_nil] at hS hL ⊢
    refine PCalls.enter Try.func74 rfl Try.ntmps74 (by simp) ?_
    simp only [argsF]
    refine go_ ?_
    refine Jc ?_
    intro i0 hi0
    refine go_ ?_
    refine Jb (hS.out) ?_
    refine go_ ?_
    refine Jb (hL.out) ?_
    refine go_ ?_
    refine Jl (by simp) (by simp only [Try.results74]; rfl) (by simp [resP, St.box?, PF.get, Jm, TyK.agg, *]; rfl) (List.nil_sublist _) ?_
    exact ⟨rfl, rfl⟩
  | false =>
    rw [HR.out, if_neg (by rw [hb]; simp)]
    rw [hb] at hS
    clear HR hb
    simp only [aggD, Jk, List.map_cons, List.map_nil] at hS ⊢
    refine PCalls.enter Try.func74 rfl Try.ntmps74 (by simp) ?_
    simp only [argsF]
    refine go_ ?_
    refine Jc ?_
    intro i0 hi0
    refine go_ ?_
    refine Jb (hS.out) ?_
    refine go_ ?_
    refine Jl (by simp) (by simp only [Try.results74]; rfl) (by simp [resP, St.box?, PF.get, Jm, TyK.agg, *]; rfl) (List.nil_sublist _) ?_
    exact ⟨rfl, rfl⟩
set_option maxHeartbeats 4000000 in
theorem tSame_p (t u : Tm) : PCalls Try.prog 64 [aggD t, aggD u] [] fun p s => p = .d (.v (.bool (csameB t u))) ∧ s = [] := by
  have hT := Lib.hid (tshaped_p t)
  have hU := Lib.hid (tshaped_p u)
  have hE := Lib.hid (tequal_p t u)
  have HR := Lib.hid (show csameB t u = (shapedB t && shapedB u && ceqT t u) from rfl)
  generalize csameB t u = R at *
  generalize shapedB t = a at *
  generalize shapedB u = b at *
  generalize ceqT t u = c at *
  simp only [aggD, Jk, List.map_cons, List.map_nil] at hT hU hE ⊢
  cases a with
  | false =>
    refine PCalls.enter Try.func64 rfl Try.ntmps64 (by simp) ?_
    simp only [argsF]
    refine go_ ?_
    refine Jc ?_
    intro i0 hi0
    refine go_ ?_
    refine Jc ?_
    intro i1 hi1
    try simp only [Rh, Rg, Rf, Ja] at hi1
    refine go_ ?_
    refine Jb (hT.out) ?_
    refine go_ ?_
    refine Jl (by simp) (by simp only [Try.results64]; rfl) (by simp [resP, St.box?, PF.get, Jm, TyK.agg, *]; rfl) (List.nil_sublist _) ?_
    exact ⟨by rw [HR.out]; rfl, rfl⟩
  | true =>
    cases b with
    | false =>
      refine PCalls.enter Try.func64 rfl Try.ntmps64 (by simp) ?_
      simp only [argsF]
      refine go_ ?_
      refine Jc ?_
      intro i0 hi0
      refine go_ ?_
      refine Jc ?_
      intro i1 hi1
      try simp only [Rh, Rg, Rf, Ja] at hi1
      refine go_ ?_
      refine Jb (hT.out) ?_
      refine go_ ?_
      refine Jb (hU.out) ?_
      refine go_ ?_
      refine Jl (by simp) (by simp only [Try.results64]; rfl) (by simp [resP, St.box?, PF.get, Jm, TyK.agg, *]; rfl) (List.nil_sublist _) ?_
      exact ⟨by rw [HR.out]; rfl, rfl⟩
    | true =>
      refine PCalls.enter Try.func64 rfl Try.ntmps64 (by simp) ?_
      simp only [argsF]
      refine go_ ?_
      refine Jc ?_
      intro i0 hi0
      refine go_ ?_
      refine Jc ?_
      intro i1 hi1
      try simp only [Rh, Rg, Rf, Ja] at hi1
      refine go_ ?_
      refine Jb (hT.out) ?_
      refine go_ ?_
      refine Jb (hU.out) ?_
      refine go_ ?_
      refine Jb (hE.out) ?_
      refine go_ ?_
      refine Jl (by simp) (by simp only [Try.results64]; rfl) (by simp [resP, St.box?, PF.get, Jm, TyK.agg, *]; rfl) (List.nil_sublist _) ?_
      exact ⟨by rw [HR.out]; rfl, rfl⟩
set_option maxHeartbeats 4000000 in
theorem rsameall_p (a b : List Tm) : PCalls Try.prog 28 [.d (.sl (a.map encD)), .d (.sl (b.map encD))] [] fun p s => p = .d (.v (.bool (ceqL a b))) ∧ s = [] := by
  by_cases hl : a.length = b.length
  rotate_left
  · rw [eqL_ne hl]
    have hl2 : ((a.length : Int) != b.length) = true := bne_iff_ne.2 (by omega)
    refine PCalls.enter Try.func28 rfl Try.ntmps28 (by simp) ?_
    simp only [argsF]
    refine go_ ?_
    refine Jl (by simp) (by simp only [Try.results28]; rfl) (by simp [resP, St.box?, PF.get, Jm, TyK.agg, *]; rfl) (List.nil_sublist _) ?_
    exact ⟨rfl, rfl⟩
  obtain ⟨m, ha, hb⟩ : ∃ m, a.length = m ∧ b.length = m := ⟨_, hl, rfl⟩
  clear hl
  obtain ⟨R, hR0⟩ : ∃ R, R = ceqL a b := ⟨_, rfl⟩
  rw [← hR0]
  have HR0 := Lib.hid hR0
  clear hR0
  refine PCalls.enter Try.func28 rfl Try.ntmps28 (by simp) ?_
  simp only [argsF]
  refine PW_slen (t := 0) (rows := a.map encD) (by simp [PF.get] <;> rfl) rfl fun hml => ?_
  rw [List.length_map, ha] at hml
  refine go_ ?_
  refine PW_loop (ι := Nat) (fun y => y ≤ m ∧ Hid (R = ceqL (a.drop y) (b.drop y))) (fun y => [(0, .d (.sl (a.map encD))), (1, .d (.sl (b.map encD))), (5, .d (.v (.int .i64 (y : Int))))]) (fun _ => []) (fun y => m - y) 0 ⟨Nat.zero_le _, HR0.out⟩ ?_ ?_ ?_
  · repeat (first | exact Js _ | refine Jr (by simp [PF.get]; rfl) (by first | rfl | (simp [*]; done) | fail) ?_)
  · repeat (first | exact List.Sublist.refl _ | exact List.nil_sublist _ | refine List.Sublist.cons_cons _ ?_ | refine List.Sublist.cons _ ?_)
  · rintro j ⟨hj, hR⟩
    clear HR0
    unfold maxLen at hml
    by_cases hlt : j < m
    · have h1 : j < a.length := by omega
      have h2 : j < b.length := by omega
      have hx := get_enc h1
      have hy := get_enc h2
      have hc : (j : Int) < m := by omega
      have hn : (0 : Int) ≤ j := by omega
      have hin := wr64 (n := (j : Int) + 1) (by omega) (by omega)
      have hR2 : Hid (R = (ceqT a[j] b[j] && ceqL (a.drop (j + 1)) (b.drop (j + 1)))) := by rw [show R = _ from hR.out, eqL_step h1 h2]; rfl
      have hc1 := Lib.hid (requal_p a[j] b[j])
      clear hR
      generalize ceqT a[j] b[j] = e at *
      cases e with
      | false =>
        have hf : Hid (R = false) := by rw [show R = _ from hR2.out]; rfl
        refine go_ ?_
        refine PW_drawn [(0, .a), (1, .a), (2, .a), (3, .a), (4, .a), (5, .a), (6, .a), (7, .a), (8, .a), (9, .a)] (by kernel_rfl) (by rfl) (by kernel_rfl) ?_
        refine go_ ?_
        refine POrd_call_a (hc1.out) ?_
        refine go_ ?_
        refine Jl (by simp) (by simp only [Try.results28]; rfl) (by simp [resP, St.box?, PF.get, Jm, TyK.agg, *]; rfl) (List.nil_sublist _) ?_
        exact ⟨by rw [hf.out]; rfl, rfl⟩
      | true =>
        have hR3 : Hid (R = ceqL (a.drop (j + 1)) (b.drop (j + 1))) := by rw [show R = _ from hR2.out]; rfl
        refine go_ ?_
        refine PW_drawn [(0, .a), (1, .a), (2, .a), (3, .a), (4, .a), (5, .a), (6, .a), (7, .a), (8, .a), (9, .a)] (by kernel_rfl) (by rfl) (by kernel_rfl) ?_
        refine go_ ?_
        refine POrd_call_a (hc1.out) ?_
        refine go_ ?_
        exact ⟨j + 1, ⟨hlt, hR3⟩, by omega, by repeat (first | exact Js _ | refine Jr (by simp [PF.get]; rfl) (by first | rfl | (simp [*]; done) | fail) ?_), by repeat (first | exact List.Sublist.refl _ | exact List.nil_sublist _ | refine List.Sublist.cons_cons _ ?_ | refine List.Sublist.cons _ ?_)⟩
    · have hc : ¬ (j : Int) < m := by omega
      have hf : Hid (R = true) := by rw [show R = _ from hR.out, eqL_end (by omega) (by omega)]; rfl
      refine go_ ?_
      refine Jl (by simp) (by simp only [Try.results28]; rfl) (by simp [resP, St.box?, PF.get, Jm, TyK.agg, *]; rfl) (List.nil_sublist _) ?_
      exact ⟨by rw [hf.out]; rfl, rfl⟩
end Go.Proofs.Ytfnfbbmegdkhjaa

namespace Go.Proofs.Ytfnfbbmegdkhjaa
open Go.RowKit
set_option maxRecDepth 100000
set_option maxHeartbeats 4000000 in
theorem tcloned_p : ∀ (t : Tm), cndT t ≤ 100000 → PCalls Try.prog 106 [aggD t] [] fun p s => p = aggD t ∧ s = [] := by
  refine Tm.ind ?_
  intro k n sub ih hnd
  have hns : cndL sub ≤ 100000 := by simp only [cndT] at hnd; omega
  have hsl : sub.length ≤ 100000 := Nat.le_trans (cndL_len sub) hns
  have IH : Hid (∀ s ∈ sub, PCalls Try.prog 106 [aggD s] [] fun p st => p = aggD s ∧ st = []) := fun s hs => ih s hs (by have := cnd_mem s hs; omega)
  simp only [aggD, Jk, List.map_cons, List.map_nil, Ju, Jv, Jw]
  clear ih hnd hns
  refine PCalls.enter Try.func106 rfl Try.ntmps106 (by simp) ?_
  simp only [argsF]
  refine go_ ?_
  refine Jc ?_
  intro i0 hi0
  refine go_ ?_
  refine Jd ?_
  intro i1 hi1
  try simp only [Rh, Rg, Rf, Ja] at hi1
  refine go_ ?_
  refine Jd ?_
  intro i2 hi2
  try simp only [Rh, Rg, Rf, Ja] at hi2
  refine go_ ?_
  refine Rc ?_
  refine gs_ ?_
  refine PW_ownB i2 2 28 3 (by simp [nev, nevA, nevB, Jo, PF.eval, PF.get, PF.wants, cPV, cCell, PV.rows, evBin, evUn, Jp, evLen, loadA, Jm, TyK.agg, partA, St.box?, St.tok?, St.setBox, St.setTok, fillO, spl, PV.ps, PV.one, Jn, aggD, slD, Jg, Jj, Jh, Ji, Jf, Je, *]; rfl) (by rfl) (by rfl) (by intro g; simp [St.setBox, *]; rfl) (by decide) ?_
  intro g hg
  refine go_ ?_
  refine PW_loop (ι := Nat) (fun y => y ≤ sub.length) (fun y => [(2, .ptr i1 0), (3, .ptr i2 0), (12, .d (.sl (sub.map encD))), (13, .d (.v (.int .i64 sub.length))), (14, .d (.v (.int .i64 (y : Int))))]) (fun y => [.tok g 28 3 y, .box i2 28 [.d (.v (.int .i64 k)), .d (.v (.int .i64 n)), .own g ((sub.map encD).take y)], .box i1 28 [.d (.v (.int .i64 0)), .d (.v (.int .i64 0)), .nils]]) (fun y => sub.length - y) 0 (Nat.zero_le _) ?_ ?_ ?_
  · repeat (first | exact Js _ | refine Jr (by simp [PF.get]; rfl) (by first | rfl | (simp [*]; done) | fail) ?_)
  · repeat (first | exact List.Sublist.refl _ | exact List.nil_sublist _ | refine List.Sublist.cons_cons _ ?_ | refine List.Sublist.cons _ ?_)
  · rintro j hj
    by_cases hlt : j < sub.length
    · have hx := get_enc hlt
      have hc : (j : Int) < sub.length := by omega
      have hn : (0 : Int) ≤ j := by omega
      have hin := wr64 (n := (j : Int) + 1) (by omega) (by omega)
      have hc1 := Lib.hid (IH.out _ (List.getElem_mem hlt))
      have hT : (sub.map encD).take (j + 1) = (sub.map encD).take j ++ [encD sub[j]] := by rw [← List.map_take, List.take_succ_eq_append_getElem hlt, List.map_append, List.map_take]; rfl
      have hlen : (sub.take j).length = j := by rw [List.length_take]; omega
      have HT := Lib.hid hT
      clear hT
      refine go_ ?_
      refine Jd ?_
      intro i3 hi3
      try simp only [Rh, Rg, Rf, Ja] at hi3
      refine go_ ?_
      refine Rc ?_
      refine go_ ?_
      refine PW_drawnL (J := keepJ [(i2, _), (i3, _)]) [(0, .a), (1, .a), (2, .a), (3, .a), (4, .a), (5, .e), (6, .a), (7, .e)] (by kernel_rfl) (by rfl) (by kernel_rfl) (by (repeat (first | exact keepJ_nil _ | refine Jt (by simp [St.box?, *] <;> rfl) ?_))) ?_
      repeat (first | with_reducible refine PL_nil ?_ | refine PL_gn2 ?_ | refine PL_s2 ?_ | refine PL_b2 ?_)
      refine PL_call2 (hc1.out) ?_
      repeat (first | with_reducible refine PL_nil ?_ | refine PL_gn2 ?_ | refine PL_s2 ?_ | refine PL_b2 ?_)
      refine PL_bs ?_ rfl (by decide) rfl (by simp; rfl) (by rfl) (by simp; rfl) (by rfl) (by decide) (by decide) (by simp [nev, nevA, nevB, Jo, PF.eval, PF.get, PF.wants, cPV, cCell, PV.rows, evBin, evUn, Jp, evLen, loadA, Jm, TyK.agg, partA, St.box?, St.tok?, St.setBox, St.setTok, fillO, spl, PV.ps, PV.one, Jn, aggD, slD, Jg, Jj, Jh, Ji, Jf, Je, *]; rfl) (by simp [rowsOf, toDs, PV.toD]; rfl)
      refine PL_app (j + 1) ?_ ?_ ?_ ?_ ?_
      rotate_left
      · exact fun row h => rows3 sub row (List.mem_of_mem_take h)
      · exact rows_one rfl
      · simp; omega
      · exact .inr (by (repeat (first | exact keepJ_nil _ | refine Jt (by simp [St.box?, *] <;> rfl) ?_)))
      repeat (first | with_reducible refine PL_nil ?_ | refine PL_gn2 ?_ | refine PL_s2 ?_ | refine PL_b2 ?_)
      refine PL_store rfl rfl (by simp [nev, nevA, nevB, Jo, PF.eval, PF.get, PF.wants, cPV, cCell, PV.rows, evBin, evUn, Jp, evLen, loadA, Jm, TyK.agg, partA, St.box?, St.tok?, St.setBox, St.setTok, fillO, spl, PV.ps, PV.one, Jn, aggD, slD, Jg, Jj, Jh, Ji, Jf, Je, *]; rfl) (by rfl) (by simp [nev, nevA, nevB, Jo, PF.eval, PF.get, PF.wants, cPV, cCell, PV.rows, evBin, evUn, Jp, evLen, loadA, Jm, TyK.agg, partA, St.box?, St.tok?, St.setBox, St.setTok, fillO, spl, PV.ps, PV.one, Jn, aggD, slD, Jg, Jj, Jh, Ji, Jf, Je, *]; rfl) (by simp [PV.ps, aggD, slD, Jg, Jj, Jh, Ji, Jf, Je]; rfl) (by first | rfl | (simp [*]; done) | (simp [PV.one, *]; done) | fail) (by simp; rfl) (by first | (simp; done) | fail) (by simp [nev, nevA, nevB, Jo, PF.eval, PF.get, PF.wants, cPV, cCell, PV.rows, evBin, evUn, Jp, evLen, loadA, Jm, TyK.agg, partA, St.box?, St.tok?, St.setBox, St.setTok, fillO, spl, PV.ps, PV.one, Jn, aggD, slD, Jg, Jj, Jh, Ji, Jf, Je, *]; rfl) (by rfl) (by first | (simp; done) | fail) (by simp [St.setBox, spl, *]; rfl) (by first | exact .inl (by decide +kernel) | exact .inr (by (repeat (first | exact keepJ_nil _ | refine Jt (by simp [St.box?, *] <;> rfl) ?_)))) ?_
      repeat (first | with_reducible refine PL_nil ?_ | refine PL_gn2 ?_ | refine PL_s2 ?_ | refine PL_b2 ?_)
      refine go_ ?_
      refine ⟨j + 1, hlt, by omega, ?_, ?_⟩
      · repeat (first | exact Js _ | refine Jr (by simp [PF.get]; rfl) (by first | rfl | (simp [*]; done) | fail) ?_)
      · rw [HT.out]
        simp only [Jk]
        repeat (first | exact List.Sublist.refl _ | exact List.nil_sublist _ | refine List.Sublist.cons_cons _ ?_ | refine List.Sublist.cons _ ?_)
    · have hc : ¬ (j : Int) < sub.length := by omega
      have hj2 : j = sub.length := by omega
      subst hj2
      have htk : (sub.map encD).take sub.length = sub.map encD := List.take_of_length_le (by simp)
      rw [htk]
      refine go_ ?_
      refine Rc ?_
      refine go_ ?_
      refine Jl (by simp) (by simp only [Try.results106]; rfl) (by simp [resP, St.box?, PF.get, Jm, TyK.agg, *]; rfl) (List.nil_sublist _) ?_
      exact ⟨by simp [tupP, PV.norm2, PV.norm1, PV.norm0], rfl⟩
end Go.Proofs.Ytfnfbbmegdkhjaa

namespace Go.Proofs.Ytfnfbbmegdkhjaa
open Go.RowKit
set_option maxRecDepth 100000
/-- a shaped term's copy; of another one the zero term -/
def copyT (t : Tm) : Tm := if shapedB t = true then t else .mk 0 0 []
set_option maxHeartbeats 4000000 in
theorem tCopy_p (t : Tm) : PCalls Try.prog 68 [aggD t] [] fun p s => p = aggD (copyT t) ∧ s = [] := by
  have hS := Lib.hid (tshaped_p t)
  have HR := Lib.hid (show copyT t = if shapedB t = true then t else .mk 0 0 [] from rfl)
  cases hb : shapedB t with
  | true =>
    have hL := Lib.hid (tcloned_p t (by have := (shaped_hg hb).2.2; omega))
    rw [HR.out, if_pos hb]
    rw [hb] at hS
    clear HR hb
    simp only [aggD, Jk, List.map_cons, List.map_nil] at hS hL ⊢
    refine PCalls.enter Try.func68 rfl Try.ntmps68 (by simp) ?_
    simp only [argsF]
    refine go_ ?_
    refine Jc ?_
    intro i0 hi0
    refine go_ ?_
    refine Jd ?_
    intro i1 hi1
    try simp only [Rh, Rg, Rf, Ja] at hi1
    refine go_ ?_
    refine Jb (hS.out) ?_
    refine go_ ?_
    refine Jb (hL.out) ?_
    refine go_ ?_
    refine Rc ?_
    refine go_ ?_
    refine Jl (by simp) (by simp only [Try.results68]; rfl) (by simp [resP, St.box?, PF.get, Jm, TyK.agg, *]; rfl) (List.nil_sublist _) ?_
    exact ⟨by simp [tupP, PV.norm2, PV.norm1, PV.norm0], rfl⟩
  | false =>
    rw [HR.out, if_neg (by rw [hb]; simp)]
    rw [hb] at hS
    clear HR hb
    simp only [aggD, Jk, List.map_cons, List.map_nil, Ju, Jv, Jw] at hS ⊢
    refine PCalls.enter Try.func68 rfl Try.ntmps68 (by simp) ?_
    simp only [argsF]
    refine go_ ?_
    refine Jc ?_
    intro i0 hi0
    refine go_ ?_
    refine Jd ?_
    intro i1 hi1
    try simp only [Rh, Rg, Rf, Ja] at hi1
    refine go_ ?_
    refine Jb (hS.out) ?_
    refine go_ ?_
    refine Rc ?_
    refine go_ ?_
    refine Jl (by simp) (by simp only [Try.results68]; rfl) (by simp [resP, St.box?, PF.get, Jm, TyK.agg, *]; rfl) (List.nil_sublist _) ?_
    exact ⟨by simp [tupP, PV.norm2, PV.norm1, PV.norm0], rfl⟩
/-- the walk of put: what is behind, what is done -/
def putG : List Int → Int → Bool → List Int
  | [], n, d => if d = true then [] else [n]
  | x :: xs, n, d => if d = true then x :: putG xs n true else if n ≤ x then (if n < x then [n, x] else [x]) ++ putG xs n true else x :: putG xs n false
theorem putG_true (l : List Int) (n : Int) : putG l n true = l := by
  induction l with
  | nil => simp [putG]
  | cons x xs ih => simp [putG, ih]
theorem putG_eq (l : List Int) (n : Int) : putG l n false = putL l n := by
  induction l with
  | nil => simp [putG, putL]
  | cons x xs ih =>
    simp only [putG, putL, putG_true, ih]
    simp only [Bool.false_eq_true, if_false]
    by_cases h1 : x < n
    · rw [if_neg (by omega), if_pos h1]
    · rw [if_neg h1, if_pos (by omega)]
      by_cases h2 : n < x
      · rw [if_pos h2, if_pos h2]; rfl
      · rw [if_neg h2, if_neg h2]; rfl
set_option maxHeartbeats 4000000 in
theorem rput_p (l : List Int) (n : Int) (hl : l.length ≤ 100000) : PCalls Try.prog 85 [.d (.sl (l.map encD)), .d (.v (.int .i64 n))] [] fun p s => p = .d (.sl ((putL l n).map encD)) ∧ s = [] := by
  obtain ⟨R, hR0⟩ : ∃ R, R = putG l n false := ⟨_, rfl⟩
  rw [← putG_eq, ← hR0]
  have HR0 := Lib.hid hR0
  clear hR0
  refine PCalls.enter Try.func85 rfl Try.ntmps85 (by simp) ?_
  simp only [argsF]
  refine go_ ?_
  refine POps_bs0 ?_ (by decide) (by first | (simp [nev, nevA, nevB, Jo, PF.eval, PF.get, PF.wants, cPV, cCell, PV.rows, evBin, evUn, Jp, evLen, loadA, Jm, TyK.agg, partA, St.box?, St.tok?, St.setBox, St.setTok, fillO, spl, PV.ps, PV.one, Jn, aggD, slD, Jg, Jj, Jh, Ji, Jf, Je, *]; done) | fail) (by simp; rfl) (by rfl) (by simp; rfl) (by rfl) (by decide)
  intro g hg
  refine go_ ?_
  refine PW_loop (ι := Nat × List Int × Bool) (fun y => y.1 ≤ l.length ∧ y.2.1.length ≤ 2 * y.1 ∧ Hid (R = y.2.1 ++ putG (l.drop y.1) n y.2.2)) (fun y => [(0, .d (.sl (l.map encD))), (1, .d (.v (.int .i64 n))), (5, .own g (y.2.1.map encD)), (6, .d (.v (.bool y.2.2))), (7, .d (.v (.int .i64 (y.1 : Int))))]) (fun y => [.tok g 3 1 y.2.1.length]) (fun y => l.length - y.1) (0, [], false) ⟨Nat.zero_le _, Nat.le_refl _, HR0.out⟩ ?_ ?_ ?_
  · repeat (first | exact Js _ | refine Jr (by simp [PF.get]; rfl) (by first | rfl | (simp [*]; done) | fail) ?_)
  · repeat (first | exact List.Sublist.refl _ | exact List.nil_sublist _ | refine List.Sublist.cons_cons _ ?_ | refine List.Sublist.cons _ ?_)
  · rintro ⟨j, o, d⟩ ⟨hj, ho, hR⟩
    simp only at hj ho hR ⊢
    clear HR0
    by_cases hlt : j < l.length
    · have hx := get_enc hlt
      have hc : (j : Int) < l.length := by omega
      have hn : (0 : Int) ≤ j := by omega
      have hin := wr64 (n := (j : Int) + 1) (by omega) (by omega)
      have hR2 := hR.out
      rw [List.drop_eq_getElem_cons hlt] at hR2
      simp only [putG] at hR2
      cases d with
      | true =>
        simp only [if_true] at hR2
        have HR2 := Lib.hid hR2
        clear hR2 hR
        refine go_ ?_
        refine POps_bs_a ?_
        refine go_ ?_
        refine POps_app_a (o.length + 1) ?_ ?_ ?_ ?_
        · simp
        · exact rows1 _
        · exact rows_one rfl
        refine go_ ?_
        refine ⟨(j + 1, o ++ [l[j]], true), ⟨hlt, by simp; omega, by rw [show R = _ from HR2.out, List.append_assoc]; rfl⟩, by simp only; omega, ?_, ?_⟩
        · repeat (first | exact Js _ | refine Jr (by simp [PF.get]; rfl) (by first | rfl | (simp [Je, hin]; done) | fail) ?_)
        · simp only [List.length_append, List.length_singleton]
          repeat (first | exact List.Sublist.refl _ | exact List.nil_sublist _ | refine List.Sublist.cons_cons _ ?_ | refine List.Sublist.cons _ ?_)
      | false =>
        simp only [Bool.false_eq_true, if_false] at hR2
        by_cases h1 : n ≤ l[j]
        · rw [if_pos h1] at hR2
          by_cases h2 : n < l[j]
          · rw [if_pos h2] at hR2
            have HR2 := Lib.hid hR2
            clear hR2 hR
            refine go_ ?_
            refine POps_bs_a ?_
            refine go_ ?_
            refine POps_app_a (o.length + 1) ?_ ?_ ?_ ?_
            · simp
            · exact rows1 _
            · exact rows_one rfl
            refine go_ ?_
            refine POps_bs_a ?_
            refine go_ ?_
            refine POps_app_a (o.length + 2) ?_ ?_ ?_ ?_
            · simp
            · simpa [Je] using rows1a o [n]
            · exact rows_one rfl
            refine go_ ?_
            refine ⟨(j + 1, o ++ [n, l[j]], true), ⟨hlt, by simp; omega, by rw [show R = _ from HR2.out, List.append_assoc]; rfl⟩, by simp only; omega, ?_, ?_⟩
            · repeat (first | exact Js _ | refine Jr (by simp [PF.get]; rfl) (by first | rfl | (simp [Je, hin]; done) | fail) ?_)
            · simp only [List.length_append, List.length_cons, List.length_nil]
              repeat (first | exact List.Sublist.refl _ | exact List.nil_sublist _ | refine List.Sublist.cons_cons _ ?_ | refine List.Sublist.cons _ ?_)
          · rw [if_neg h2] at hR2
            have HR2 := Lib.hid hR2
            clear hR2 hR
            refine go_ ?_
            refine POps_bs_a ?_
            refine go_ ?_
            refine POps_app_a (o.length + 1) ?_ ?_ ?_ ?_
            · simp
            · exact rows1 _
            · exact rows_one rfl
            refine go_ ?_
            refine ⟨(j + 1, o ++ [l[j]], true), ⟨hlt, by simp; omega, by rw [show R = _ from HR2.out, List.append_assoc]; rfl⟩, by simp only; omega, ?_, ?_⟩
            · repeat (first | exact Js _ | refine Jr (by simp [PF.get]; rfl) (by first | rfl | (simp [Je, hin]; done) | fail) ?_)
            · simp only [List.length_append, List.length_singleton]
              repeat (first | exact List.Sublist.refl _ | exact List.nil_sublist _ | refine List.Sublist.cons_cons _ ?_ | refine List.Sublist.cons _ ?_)
        · rw [if_neg h1] at hR2
          have HR2 := Lib.hid hR2
          clear hR2 hR
          refine go_ ?_
          refine POps_bs_a ?_
          refine go_ ?_
          refine POps_app_a (o.length + 1) ?_ ?_ ?_ ?_
          · simp
          · exact rows1 _
          · exact rows_one rfl
          refine go_ ?_
          refine ⟨(j + 1, o ++ [l[j]], false), ⟨hlt, by simp; omega, by rw [show R = _ from HR2.out, List.append_assoc]; rfl⟩, by simp only; omega, ?_, ?_⟩
          · repeat (first | exact Js _ | refine Jr (by simp [PF.get]; rfl) (by first | rfl | (simp [Je, hin]; done) | fail) ?_)
          · simp only [List.length_append, List.length_singleton]
            repeat (first | exact List.Sublist.refl _ | exact List.nil_sublist _ | refine List.Sublist.cons_cons _ ?_ | refine List.Sublist.cons _ ?_)
    · have hc : ¬ (j : Int) < l.length := by omega
      have hR2 := hR.out
      rw [List.drop_of_length_le (by omega)] at hR2
      cases d with
      | true =>
        have hf : Hid (R = o) := by show _ = _; rw [show R = _ from hR2]; simp [putG]
        clear hR2 hR
        refine go_ ?_
        refine Jl (by simp) (by simp only [Try.results85]; rfl) (by simp [resP, St.box?, PF.get, Jm, TyK.agg, *]; rfl) (List.nil_sublist _) ?_
        exact ⟨by rw [hf.out]; rfl, rfl⟩
      | false =>
        have hf : Hid (R = o ++ [n]) := by show _ = _; rw [show R = _ from hR2]; simp [putG]
        clear hR2 hR
        refine go_ ?_
        refine POps_bs_a ?_
        refine go_ ?_
        refine POps_app_a (o.length + 1) ?_ ?_ ?_ ?_
        · simp
        · exact rows1 _
        · exact rows_one rfl
        refine go_ ?_
        refine Jl (by simp) (by simp only [Try.results85]; rfl) (by simp [resP, St.box?, PF.get, Jm, TyK.agg, *]; rfl) (List.nil_sublist _) ?_
        exact ⟨by rw [hf.out]; simp [tupP, PV.norm2, PV.norm1, PV.norm0, Je], rfl⟩
end Go.Proofs.Ytfnfbbmegdkhjaa

namespace Go.Proofs.Ytfnfbbmegdkhjaa
open Go.RowKit
set_option maxRecDepth 100000
theorem lst3 {cs : List Value} (h : cs.length = 3) : ∃ a b c, cs = [a, b, c] := by
  match cs, h with
  | [a, b, c], _ => exact ⟨a, b, c, rfl⟩
section
variable {H : Type} {P : Program}
end
section
variable {H : Type} {enc : TypeId × Value → H} {w : World} {base : Nat} {spare : Nat → Bool} {held : Bool}
end
end Go.Proofs.Ytfnfbbmegdkhjaa

namespace Go.Proofs.Ytfnfbbmegdkhjaa
open Go.RowKit
set_option maxRecDepth 100000
theorem cndL_take1 {l : List Tm} {j : Nat} (h : j < l.length) : cndL (l.take (j + 1)) = cndL (l.take j) + cndT l[j] := by
  rw [List.take_succ_eq_append_getElem h, cndL_append]; simp only [cndL]; omega
set_option maxHeartbeats 8000000 in
theorem rnumbers_p : ∀ (t : Tm) (a b : Int), cndT t ≤ 50000 → PCalls Try.prog 44 [aggD t, .d (.v (.int .i64 a)), .d (.v (.int .i64 b))] [] fun p s => p = .d (.sl ((nmT a b t).map encD)) ∧ s = [] := by
  refine Tm.ind ?_
  intro k n sub ih a b hnd
  have hc0 : nmT a b (.mk k n sub) = nmS a b sub (if k = a ∨ k = b then [n] else []) := by simp only [nmT]
  have hns : cndL sub + 1 ≤ 50000 := by simp only [cndT] at hnd; omega
  have hsl : sub.length ≤ 50000 := Nat.le_trans (cndL_len sub) (by omega)
  have IH : Hid (∀ s ∈ sub, PCalls Try.prog 44 [aggD s, .d (.v (.int .i64 a)), .d (.v (.int .i64 b))] [] fun p st => p = .d (.sl ((nmT a b s).map encD)) ∧ st = []) := fun s hs => ih s hs a b (by have := cnd_mem s hs; omega)
  simp only [aggD, Jk, List.map_cons, List.map_nil, Ju, Jv, Jw]
  clear ih hnd
  rw [hc0]
  clear hc0
  have hl0 : (if k = a ∨ k = b then [n] else []).length ≤ 1 := by split <;> simp
  obtain ⟨r0, hr0⟩ : ∃ r0, (if k = a ∨ k = b then [n] else []) = r0 := ⟨_, rfl⟩
  rw [hr0] at hl0 ⊢
  obtain ⟨R, hR0⟩ : ∃ R, R = nmS a b sub r0 := ⟨_, rfl⟩
  rw [← hR0]
  have HR0 := Lib.hid hR0
  clear hR0
  refine PCalls.enter Try.func44 rfl Try.ntmps44 (by simp) ?_
  simp only [argsF]
  refine go_ ?_
  refine Jc ?_
  intro i0 hi0
  refine go_ ?_
  refine POps_bs0 ?_ (by decide) (by first | (simp [nev, nevA, nevB, Jo, PF.eval, PF.get, PF.wants, cPV, cCell, PV.rows, evBin, evUn, Jp, evLen, loadA, Jm, TyK.agg, partA, St.box?, St.tok?, St.setBox, St.setTok, fillO, spl, PV.ps, PV.one, Jn, aggD, slD, Jg, Jj, Jh, Ji, Jf, Je, *]; done) | fail) (by simp; rfl) (by rfl) (by simp; rfl) (by rfl) (by decide)
  intro g hg
  by_cases hk : k = a ∨ k = b
  · rw [if_pos hk] at hr0
    by_cases h1 : k = a
    · clear hk
      have h1c : (k == a) = true := beq_iff_eq.2 h1
      clear h1
      refine gs_ ?_
      refine Qc ?_
      refine gs_ ?_
      refine Qc ?_
      refine go_ ?_
      refine POps_bs_a ?_
      refine go_ ?_
      refine POps_app_a 1 ?_ ?_ ?_ ?_
      · rfl
      · simp
      · simp
      refine gs_ ?_
      refine PW_norm 7 (by simp [PF.get] <;> rfl) ?_
      refine go_ ?_
      clear h1c
      refine PW_loop (ι := Nat × List Int) (fun y => y.1 ≤ sub.length ∧ y.2.length ≤ 1 + cndL (sub.take y.1) ∧ Hid (R = nmS a b (sub.drop y.1) y.2)) (fun y => [(1, .d (.v (.int .i64 a))), (2, .d (.v (.int .i64 b))), (3, .ptr i0 0), (7, .d (.sl (y.2.map encD))), (8, .d (.v (.int .i64 (y.1 : Int))))]) (fun _ => [.box i0 28 [.d (.v (.int .i64 k)), .d (.v (.int .i64 n)), .d (.sl (sub.map encD))]]) (fun y => sub.length - y.1) (0, r0) ⟨Nat.zero_le _, by simp only; omega, HR0.out⟩ ?_ ?_ ?_
      · subst hr0
        repeat (first | exact Js _ | refine Jr (by simp [PF.get]; rfl) (by first | rfl | (simp [Je]; done) | fail) ?_)
      · repeat (first | exact List.Sublist.refl _ | exact List.nil_sublist _ | refine List.Sublist.cons_cons _ ?_ | refine List.Sublist.cons _ ?_)
      · rintro ⟨j, o⟩ ⟨hj, ho, hR⟩
        simp only at hj ho hR ⊢
        clear HR0 hr0
        by_cases hlt : j < sub.length
        · have hx := get_enc hlt
          have hc : (j : Int) < sub.length := by omega
          have hn : (0 : Int) ≤ j := by omega
          have hin := wr64 (n := (j : Int) + 1) (by omega) (by omega)
          have hR2 : Hid (R = nmS a b (sub.drop (j + 1)) ((nmT a b sub[j]).foldl putL o)) := by
            rw [show R = _ from hR.out, List.drop_eq_getElem_cons hlt]
            show _ = _
            simp only [nmS]
          have hc1 := Lib.hid (IH.out _ (List.getElem_mem hlt))
          have hT1 := cndL_take1 hlt
          have hT2 := cndL_take sub (j + 1)
          have hnl := nm_len a b sub[j]
          have hfl := fold_len (nmT a b sub[j]) o
          clear hR
          generalize nmT a b sub[j] = l at *
          generalize hF : l.foldl putL o = F at *
          have HF := Lib.hid hF
          clear hF
          refine go_ ?_
          refine Jb (hc1.out) ?_
          refine go_ ?_
          refine PW_loop (ι := Nat × List Int) (fun y => y.1 ≤ l.length ∧ y.2.length ≤ o.length + y.1 ∧ Hid ((l.drop y.1).foldl putL y.2 = F)) (fun y => [(1, .d (.v (.int .i64 a))), (2, .d (.v (.int .i64 b))), (3, .ptr i0 0), (7, .d (.sl (y.2.map encD))), (8, .d (.v (.int .i64 (j : Int)))), (9, .d (.sl (l.map encD))), (10, .d (.v (.int .i64 (y.1 : Int))))]) (fun _ => [.box i0 28 [.d (.v (.int .i64 k)), .d (.v (.int .i64 n)), .d (.sl (sub.map encD))]]) (fun y => l.length - y.1) (0, o) ⟨Nat.zero_le _, Nat.le_refl _, HF.out⟩ ?_ ?_ ?_
          · repeat (first | exact Js _ | refine Jr (by simp [PF.get]; rfl) (by first | rfl | (simp [*]; done) | fail) ?_)
          · repeat (first | exact List.Sublist.refl _ | exact List.nil_sublist _ | refine List.Sublist.cons_cons _ ?_ | refine List.Sublist.cons _ ?_)
          · rintro ⟨m, q⟩ ⟨hm, hq, hG⟩
            simp only at hm hq hG ⊢
            clear HF
            by_cases hlm : m < l.length
            · have hxm := get_enc hlm
              have hcm : (m : Int) < l.length := by omega
              have hnm : (0 : Int) ≤ m := by omega
              have him := wr64 (n := (m : Int) + 1) (by omega) (by omega)
              have hG2 : Hid ((l.drop (m + 1)).foldl putL (putL q l[m]) = F) := by
                have := hG.out
                rw [List.drop_eq_getElem_cons hlm] at this
                exact this
              have hp := Lib.hid (rput_p q l[m] (by omega))
              have hpl := putL_len l[m] q
              clear hG
              generalize putL q l[m] = q' at *
              refine go_ ?_
              refine Jb (hp.out) ?_
              refine go_ ?_
              exact ⟨(m + 1, q'), ⟨hlm, by simp only; omega, hG2⟩, by simp only; omega, by repeat (first | exact Js _ | refine Jr (by simp [PF.get]; rfl) (by first | rfl | (simp [*]; done) | fail) ?_), by repeat (first | exact List.Sublist.refl _ | exact List.nil_sublist _ | refine List.Sublist.cons_cons _ ?_ | refine List.Sublist.cons _ ?_)⟩
            · have hcm : ¬ (m : Int) < l.length := by omega
              have hf : Hid (q = F) := by have := hG.out; rw [List.drop_of_length_le (by omega)] at this; exact this
              rw [← hf.out] at hR2 hfl
              refine go_ ?_
              exact ⟨(j + 1, q), ⟨hlt, by simp only; omega, hR2⟩, by simp only; omega, by repeat (first | exact Js _ | refine Jr (by simp [PF.get]; rfl) (by first | rfl | (simp [*]; done) | fail) ?_), by repeat (first | exact List.Sublist.refl _ | exact List.nil_sublist _ | refine List.Sublist.cons_cons _ ?_ | refine List.Sublist.cons _ ?_)⟩
        · have hc : ¬ (j : Int) < sub.length := by omega
          have hf : Hid (R = o) := by show _ = _; rw [show R = _ from hR.out, List.drop_of_length_le (by omega)]; simp only [nmS]
          refine go_ ?_
          refine Jl (by simp) (by simp only [Try.results44]; rfl) (by simp [resP, St.box?, PF.get, Jm, TyK.agg, *]; rfl) (List.nil_sublist _) ?_
          exact ⟨by rw [hf.out]; rfl, rfl⟩
    · have h2 : k = b := hk.resolve_left h1
      clear hk
      have h1b : (k == a) = false := beq_eq_false_iff_ne.2 h1
      have h2b : (k == b) = true := beq_iff_eq.2 h2
      clear h1 h2
      refine gs_ ?_
      refine Qc ?_
      refine gs_ ?_
      refine Qc ?_
      refine go_ ?_
      refine POps_bs_a ?_
      refine go_ ?_
      refine POps_app_a 1 ?_ ?_ ?_ ?_
      · rfl
      · simp
      · simp
      refine gs_ ?_
      refine PW_norm 7 (by simp [PF.get] <;> rfl) ?_
      refine go_ ?_
      clear h1b h2b
      refine PW_loop (ι := Nat × List Int) (fun y => y.1 ≤ sub.length ∧ y.2.length ≤ 1 + cndL (sub.take y.1) ∧ Hid (R = nmS a b (sub.drop y.1) y.2)) (fun y => [(1, .d (.v (.int .i64 a))), (2, .d (.v (.int .i64 b))), (3, .ptr i0 0), (7, .d (.sl (y.2.map encD))), (8, .d (.v (.int .i64 (y.1 : Int))))]) (fun _ => [.box i0 28 [.d (.v (.int .i64 k)), .d (.v (.int .i64 n)), .d (.sl (sub.map encD))]]) (fun y => sub.length - y.1) (0, r0) ⟨Nat.zero_le _, by simp only; omega, HR0.out⟩ ?_ ?_ ?_
      · subst hr0
        repeat (first | exact Js _ | refine Jr (by simp [PF.get]; rfl) (by first | rfl | (simp [Je]; done) | fail) ?_)
      · repeat (first | exact List.Sublist.refl _ | exact List.nil_sublist _ | refine List.Sublist.cons_cons _ ?_ | refine List.Sublist.cons _ ?_)
      · rintro ⟨j, o⟩ ⟨hj, ho, hR⟩
        simp only at hj ho hR ⊢
        clear HR0 hr0
        by_cases hlt : j < sub.length
        · have hx := get_enc hlt
          have hc : (j : Int) < sub.length := by omega
          have hn : (0 : Int) ≤ j := by omega
          have hin := wr64 (n := (j : Int) + 1) (by omega) (by omega)
          have hR2 : Hid (R = nmS a b (sub.drop (j + 1)) ((nmT a b sub[j]).foldl putL o)) := by
            rw [show R = _ from hR.out, List.drop_eq_getElem_cons hlt]
            show _ = _
            simp only [nmS]
          have hc1 := Lib.hid (IH.out _ (List.getElem_mem hlt))
          have hT1 := cndL_take1 hlt
          have hT2 := cndL_take sub (j + 1)
          have hnl := nm_len a b sub[j]
          have hfl := fold_len (nmT a b sub[j]) o
          clear hR
          generalize nmT a b sub[j] = l at *
          generalize hF : l.foldl putL o = F at *
          have HF := Lib.hid hF
          clear hF
          refine go_ ?_
          refine Jb (hc1.out) ?_
          refine go_ ?_
          refine PW_loop (ι := Nat × List Int) (fun y => y.1 ≤ l.length ∧ y.2.length ≤ o.length + y.1 ∧ Hid ((l.drop y.1).foldl putL y.2 = F)) (fun y => [(1, .d (.v (.int .i64 a))), (2, .d (.v (.int .i64 b))), (3, .ptr i0 0), (7, .d (.sl (y.2.map encD))), (8, .d (.v (.int .i64 (j : Int)))), (9, .d (.sl (l.map encD))), (10, .d (.v (.int .i64 (y.1 : Int))))]) (fun _ => [.box i0 28 [.d (.v (.int .i64 k)), .d (.v (.int .i64 n)), .d (.sl (sub.map encD))]]) (fun y => l.length - y.1) (0, o) ⟨Nat.zero_le _, Nat.le_refl _, HF.out⟩ ?_ ?_ ?_
          · repeat (first | exact Js _ | refine Jr (by simp [PF.get]; rfl) (by first | rfl | (simp [*]; done) | fail) ?_)
          · repeat (first | exact List.Sublist.refl _ | exact List.nil_sublist _ | refine List.Sublist.cons_cons _ ?_ | refine List.Sublist.cons _ ?_)
          · rintro ⟨m, q⟩ ⟨hm, hq, hG⟩
            simp only at hm hq hG ⊢
            clear HF
            by_cases hlm : m < l.length
            · have hxm := get_enc hlm
              have hcm : (m : Int) < l.length := by omega
              have hnm : (0 : Int) ≤ m := by omega
              have him := wr64 (n := (m : Int) + 1) (by omega) (by omega)
              have hG2 : Hid ((l.drop (m + 1)).foldl putL (putL q l[m]) = F) := by
                have := hG.out
                rw [List.drop_eq_getElem_cons hlm] at this
                exact this
              have hp := Lib.hid (rput_p q l[m] (by omega))
              have hpl := putL_len l[m] q
              clear hG
              generalize putL q l[m] = q' at *
              refine go_ ?_
              refine Jb (hp.out) ?_
              refine go_ ?_
              exact ⟨(m + 1, q'), ⟨hlm, by simp only; omega, hG2⟩, by simp only; omega, by repeat (first | exact Js _ | refine Jr (by simp [PF.get]; rfl) (by first | rfl | (simp [*]; done) | fail) ?_), by repeat (first | exact List.Sublist.refl _ | exact List.nil_sublist _ | refine List.Sublist.cons_cons _ ?_ | refine List.Sublist.cons _ ?_)⟩
            · have hcm : ¬ (m : Int) < l.length := by omega
              have hf : Hid (q = F) := by have := hG.out; rw [List.drop_of_length_le (by omega)] at this; exact this
              rw [← hf.out] at hR2 hfl
              refine go_ ?_
              exact ⟨(j + 1, q), ⟨hlt, by simp only; omega, hR2⟩, by simp only; omega, by repeat (first | exact Js _ | refine Jr (by simp [PF.get]; rfl) (by first | rfl | (simp [*]; done) | fail) ?_), by repeat (first | exact List.Sublist.refl _ | exact List.nil_sublist _ | refine List.Sublist.cons_cons _ ?_ | refine List.Sublist.cons _ ?_)⟩
        · have hc : ¬ (j : Int) < sub.length := by omega
          have hf : Hid (R = o) := by show _ = _; rw [show R = _ from hR.out, List.drop_of_length_le (by omega)]; simp only [nmS]
          refine go_ ?_
          refine Jl (by simp) (by simp only [Try.results44]; rfl) (by simp [resP, St.box?, PF.get, Jm, TyK.agg, *]; rfl) (List.nil_sublist _) ?_
          exact ⟨by rw [hf.out]; rfl, rfl⟩
  · rw [if_neg hk] at hr0
    have h1 : ¬ k = a := fun h => hk (.inl h)
    have h2 : ¬ k = b := fun h => hk (.inr h)
    clear hk
    refine gs_ ?_
    refine PW_norm 7 (by simp [PF.get] <;> rfl) ?_
    refine go_ ?_
    clear h1 h2
    refine PW_loop (ι := Nat × List Int) (fun y => y.1 ≤ sub.length ∧ y.2.length ≤ 1 + cndL (sub.take y.1) ∧ Hid (R = nmS a b (sub.drop y.1) y.2)) (fun y => [(1, .d (.v (.int .i64 a))), (2, .d (.v (.int .i64 b))), (3, .ptr i0 0), (7, .d (.sl (y.2.map encD))), (8, .d (.v (.int .i64 (y.1 : Int))))]) (fun _ => [.box i0 28 [.d (.v (.int .i64 k)), .d (.v (.int .i64 n)), .d (.sl (sub.map encD))]]) (fun y => sub.length - y.1) (0, r0) ⟨Nat.zero_le _, by simp only; omega, HR0.out⟩ ?_ ?_ ?_
    · subst hr0
      repeat (first | exact Js _ | refine Jr (by simp [PF.get]; rfl) (by first | rfl | (simp [Je]; done) | fail) ?_)
    · repeat (first | exact List.Sublist.refl _ | exact List.nil_sublist _ | refine List.Sublist.cons_cons _ ?_ | refine List.Sublist.cons _ ?_)
    · rintro ⟨j, o⟩ ⟨hj, ho, hR⟩
      simp only at hj ho hR ⊢
      clear HR0 hr0
      by_cases hlt : j < sub.length
      · have hx := get_enc hlt
        have hc : (j : Int) < sub.length := by omega
        have hn : (0 : Int) ≤ j := by omega
        have hin := wr64 (n := (j : Int) + 1) (by omega) (by omega)
        have hR2 : Hid (R = nmS a b (sub.drop (j + 1)) ((nmT a b sub[j]).foldl putL o)) := by
          rw [show R = _ from hR.out, List.drop_eq_getElem_cons hlt]
          show _ = _
          simp only [nmS]
        have hc1 := Lib.hid (IH.out _ (List.getElem_mem hlt))
        have hT1 := cndL_take1 hlt
        have hT2 := cndL_take sub (j + 1)
        have hnl := nm_len a b sub[j]
        have hfl := fold_len (nmT a b sub[j]) o
        clear hR
        generalize nmT a b sub[j] = l at *
        generalize hF : l.foldl putL o = F at *
        have HF := Lib.hid hF
        clear hF
        refine go_ ?_
        refine Jb (hc1.out) ?_
        refine go_ ?_
        refine PW_loop (ι := Nat × List Int) (fun y => y.1 ≤ l.length ∧ y.2.length ≤ o.length + y.1 ∧ Hid ((l.drop y.1).foldl putL y.2 = F)) (fun y => [(1, .d (.v (.int .i64 a))), (2, .d (.v (.int .i64 b))), (3, .ptr i0 0), (7, .d (.sl (y.2.map encD))), (8, .d (.v (.int .i64 (j : Int)))), (9, .d (.sl (l.map encD))), (10, .d (.v (.int .i64 (y.1 : Int))))]) (fun _ => [.box i0 28 [.d (.v (.int .i64 k)), .d (.v (.int .i64 n)), .d (.sl (sub.map encD))]]) (fun y => l.length - y.1) (0, o) ⟨Nat.zero_le _, Nat.le_refl _, HF.out⟩ ?_ ?_ ?_
        · repeat (first | exact Js _ | refine Jr (by simp [PF.get]; rfl) (by first | rfl | (simp [*]; done) | fail) ?_)
        · repeat (first | exact List.Sublist.refl _ | exact List.nil_sublist _ | refine List.Sublist.cons_cons _ ?_ | refine List.Sublist.cons _ ?_)
        · rintro ⟨m, q⟩ ⟨hm, hq, hG⟩
          simp only at hm hq hG ⊢
          clear HF
          by_cases hlm : m < l.length
          · have hxm := get_enc hlm
            have hcm : (m : Int) < l.length := by omega
            have hnm : (0 : Int) ≤ m := by omega
            have him := wr64 (n := (m : Int) + 1) (by omega) (by omega)
            have hG2 : Hid ((l.drop (m + 1)).foldl putL (putL q l[m]) = F) := by
              have := hG.out
              rw [List.drop_eq_getElem_cons hlm] at this
              exact this
            have hp := Lib.hid (rput_p q l[m] (by omega))
            have hpl := putL_len l[m] q
            clear hG
            generalize putL q l[m] = q' at *
            refine go_ ?_
            refine Jb (hp.out) ?_
            refine go_ ?_
            exact ⟨(m + 1, q'), ⟨hlm, by simp only; omega, hG2⟩, by simp only; omega, by repeat (first | exact Js _ | refine Jr (by simp [PF.get]; rfl) (by first | rfl | (simp [*]; done) | fail) ?_), by repeat (first | exact List.Sublist.refl _ | exact List.nil_sublist _ | refine List.Sublist.cons_cons _ ?_ | refine List.Sublist.cons _ ?_)⟩
          · have hcm : ¬ (m : Int) < l.length := by omega
            have hf : Hid (q = F) := by have := hG.out; rw [List.drop_of_length_le (by omega)] at this; exact this
            rw [← hf.out] at hR2 hfl
            refine go_ ?_
            exact ⟨(j + 1, q), ⟨hlt, by simp only; omega, hR2⟩, by simp only; omega, by repeat (first | exact Js _ | refine Jr (by simp [PF.get]; rfl) (by first | rfl | (simp [*]; done) | fail) ?_), by repeat (first | exact List.Sublist.refl _ | exact List.nil_sublist _ | refine List.Sublist.cons_cons _ ?_ | refine List.Sublist.cons _ ?_)⟩
      · have hc : ¬ (j : Int) < sub.length := by omega
        have hf : Hid (R = o) := by show _ = _; rw [show R = _ from hR.out, List.drop_of_length_le (by omega)]; simp only [nmS]
        refine go_ ?_
        refine Jl (by simp) (by simp only [Try.results44]; rfl) (by simp [resP, St.box?, PF.get, Jm, TyK.agg, *]; rfl) (List.nil_sublist _) ?_
        exact ⟨by rw [hf.out]; rfl, rfl⟩
end Go.Proofs.Ytfnfbbmegdkhjaa

namespace Go.Proofs.Ytfnfbbmegdkhjaa
open Go.RowKit
set_option maxRecDepth 100000
/-- is a term right, with so many loose variables and entries? -/
def rightT (t : Tm) (f e : Int) : Bool := shapedB t && decide (lsT t 0 ≤ f) && (nmT 6 7 t).all fun n => decide (n < e)
theorem asc_last {l : List Int} (h : l.Pairwise (· < ·)) (e : Int) (hl : 0 < l.length) : (l.all fun n => decide (n < e)) = decide (l[l.length - 1] < e) := by
  rcases List.eq_nil_or_concat l with rfl | ⟨a, x, hx⟩
  · simp at hl
  · rw [List.concat_eq_append] at hx
    subst hx
    have h1 := (List.pairwise_append.1 h).2.2
    rw [List.all_append]
    simp only [List.all_cons, List.all_nil, Bool.and_true, List.length_append, List.length_singleton, Nat.add_sub_cancel]
    rw [List.getElem_append_right (Nat.le_refl _)]
    simp only [Nat.sub_self, List.getElem_cons_zero]
    by_cases hx : x < e
    · have : (a.all fun n => decide (n < e)) = true := List.all_eq_true.2 fun y hy => decide_eq_true (by have := h1 y hy x (by simp); omega)
      rw [this, decide_eq_true hx]; rfl
    · rw [decide_eq_false hx, Bool.and_false]
set_option maxHeartbeats 4000000 in
theorem tRight_p (t : Tm) (f e : Int) : PCalls Try.prog 168 [aggD t, .d (.v (.int .i64 f)), .d (.v (.int .i64 e))] [] fun p s => p = .d (.v (.bool (rightT t f e))) ∧ s = [] := by
  have hS := Lib.hid (tshaped_p t)
  have HR := Lib.hid (show rightT t f e = (shapedB t && decide (lsT t 0 ≤ f) && (nmT 6 7 t).all fun n => decide (n < e)) from rfl)
  have HE := Lib.hid (tentries_p t)
  generalize rightT t f e = R at *
  cases hb : shapedB t with
  | true =>
    obtain ⟨h1, h2, h3⟩ := shaped_hg hb
    have hL := Lib.hid (tloose_p t 0 h1 (by decide) (by omega))
    have hlen := Nat.le_trans (nm_len 6 7 t) h3
    have hasc := asc_last (nm_asc 6 7 t) e
    rw [hb] at hS HR
    have hen : enT 6 7 t = nmT 6 7 t := if_pos hb
    rw [hen] at HE
    clear hb h1 h2 h3 hen
    generalize lsT t 0 = z at *
    generalize nmT 6 7 t = l at *
    simp only [aggD, Jk, List.map_cons, List.map_nil] at hS hL HE ⊢
    by_cases hz : z ≤ f
    · have hz2 : ¬ f < z := by omega
      by_cases hl : l = []
      · subst hl
        have hf : Hid (R = true) := by show _ = _; rw [HR.out]; simp [hz]
        clear hasc hlen HR
        refine PCalls.enter Try.func168 rfl Try.ntmps168 (by simp) ?_
        simp only [argsF]
        refine go_ ?_
        refine Jc ?_
        intro i0 hi0
        refine go_ ?_
        refine Jb (hS.out) ?_
        refine go_ ?_
        refine Jb (hL.out) ?_
        refine go_ ?_
        refine Jb (HE.out) ?_
        refine go_ ?_
        refine Jl (by simp) (by simp only [Try.results168]; rfl) (by simp [resP, St.box?, PF.get, Jm, TyK.agg, *]; rfl) (List.nil_sublist _) ?_
        exact ⟨by rw [hf.out]; rfl, rfl⟩
      · have hpos : 0 < l.length := List.length_pos_iff.2 hl
        have hlt : l.length - 1 < l.length := by omega
        have hf : Hid (R = decide (l[l.length - 1] < e)) := by show _ = _; rw [HR.out, hasc hpos]; simp [hz]
        have hx := get_enc hlt
        have hq : ¬ (l.length : Int) = 0 := by omega
        have hw : IntKind.i64.wrap ((l.length : Int) - 1) = ((l.length - 1 : Nat) : Int) := by rw [wr64 (by omega) (by omega)]; omega
        have hn : (0 : Int) ≤ ((l.length - 1 : Nat) : Int) := by omega
        clear hasc HR
        generalize hk : l.length - 1 = k at *
        refine PCalls.enter Try.func168 rfl Try.ntmps168 (by simp) ?_
        simp only [argsF]
        refine go_ ?_
        refine Jc ?_
        intro i0 hi0
        refine go_ ?_
        refine Jb (hS.out) ?_
        refine go_ ?_
        refine Jb (hL.out) ?_
        refine go_ ?_
        refine Jb (HE.out) ?_
        refine go_ ?_
        refine Jl (by simp) (by simp only [Try.results168]; rfl) (by simp [resP, St.box?, PF.get, Jm, TyK.agg, *]; rfl) (List.nil_sublist _) ?_
        exact ⟨by rw [hf.out]; rfl, rfl⟩
    · have hz2 : f < z := by omega
      have hf : Hid (R = false) := by show _ = _; rw [HR.out]; simp [hz]
      clear hasc hlen HR
      refine PCalls.enter Try.func168 rfl Try.ntmps168 (by simp) ?_
      simp only [argsF]
      refine go_ ?_
      refine Jc ?_
      intro i0 hi0
      refine go_ ?_
      refine Jb (hS.out) ?_
      refine go_ ?_
      refine Jb (hL.out) ?_
      refine go_ ?_
      refine Jl (by simp) (by simp only [Try.results168]; rfl) (by simp [resP, St.box?, PF.get, Jm, TyK.agg, *]; rfl) (List.nil_sublist _) ?_
      exact ⟨by rw [hf.out]; rfl, rfl⟩
  | false =>
    have hf : Hid (R = false) := by show _ = _; rw [HR.out, hb]; rfl
    rw [hb] at hS
    clear HR hb
    simp only [aggD, Jk, List.map_cons, List.map_nil] at hS ⊢
    refine PCalls.enter Try.func168 rfl Try.ntmps168 (by simp) ?_
    simp only [argsF]
    refine go_ ?_
    refine Jc ?_
    intro i0 hi0
    refine go_ ?_
    refine Jb (hS.out) ?_
    refine go_ ?_
    refine Jl (by simp) (by simp only [Try.results168]; rfl) (by simp [resP, St.box?, PF.get, Jm, TyK.agg, *]; rfl) (List.nil_sublist _) ?_
    exact ⟨by rw [hf.out]; rfl, rfl⟩
set_option maxHeartbeats 4000000 in
theorem rRight_p (t : Tm) (f e : Int) : PCalls Try.prog 43 [aggD t, .d (.v (.int .i64 f)), .d (.v (.int .i64 e))] [] fun p s => p = .d (.v (.bool (rightT t f e))) ∧ s = [] := by
  have hS := Lib.hid (rshaped_p t)
  have HR := Lib.hid (show rightT t f e = (shapedB t && decide (lsT t 0 ≤ f) && (nmT 6 7 t).all fun n => decide (n < e)) from rfl)
  generalize rightT t f e = R at *
  cases hb : shapedB t with
  | true =>
    obtain ⟨h1, h2, h3⟩ := shaped_hg hb
    have hL := Lib.hid (rloose_p t 0 h1 (by decide) (by omega))
    have HN := Lib.hid (rnumbers_p t 6 7 (by omega))
    have hlen := Nat.le_trans (nm_len 6 7 t) h3
    rw [hb] at hS HR
    clear hb h1 h2 h3
    generalize lsT t 0 = z at *
    generalize nmT 6 7 t = l at *
    simp only [aggD, Jk, List.map_cons, List.map_nil] at hS hL HN ⊢
    by_cases hz : z ≤ f
    · have hz2 : ¬ f < z := by omega
      have hR0 : Hid (R = (l.drop 0).all fun n => decide (n < e)) := by show _ = _; rw [HR.out]; simp [hz]
      clear HR
      refine PCalls.enter Try.func43 rfl Try.ntmps43 (by simp) ?_
      simp only [argsF]
      refine go_ ?_
      refine Jc ?_
      intro i0 hi0
      refine go_ ?_
      refine Jb (hS.out) ?_
      refine go_ ?_
      refine Jb (hL.out) ?_
      refine go_ ?_
      refine Jb (HN.out) ?_
      refine go_ ?_
      refine PW_loop (ι := Nat) (fun y => y ≤ l.length ∧ Hid (R = (l.drop y).all fun n => decide (n < e))) (fun y => [(2, .d (.v (.int .i64 e))), (7, .d (.sl (l.map encD))), (8, .d (.v (.int .i64 (y : Int))))]) (fun _ => []) (fun y => l.length - y) 0 ⟨Nat.zero_le _, hR0⟩ ?_ ?_ ?_
      · repeat (first | exact Js _ | refine Jr (by simp [PF.get]; rfl) (by first | rfl | (simp [*]; done) | fail) ?_)
      · repeat (first | exact List.Sublist.refl _ | exact List.nil_sublist _ | refine List.Sublist.cons_cons _ ?_ | refine List.Sublist.cons _ ?_)
      · rintro j ⟨hj, hR⟩
        clear hR0
        by_cases hlt : j < l.length
        · have hx := get_enc hlt
          have hc : (j : Int) < l.length := by omega
          have hn : (0 : Int) ≤ j := by omega
          have hin := wr64 (n := (j : Int) + 1) (by omega) (by omega)
          have hR2 : Hid (R = (decide (l[j] < e) && (l.drop (j + 1)).all fun n => decide (n < e))) := by
            rw [show R = _ from hR.out, List.drop_eq_getElem_cons hlt]; rfl
          clear hR
          by_cases hle : l[j] < e
          · have hR3 : Hid (R = (l.drop (j + 1)).all fun n => decide (n < e)) := by show _ = _; rw [show R = _ from hR2.out, decide_eq_true hle]; rfl
            have hle2 : ¬ e ≤ l[j] := by omega
            clear hR2
            refine go_ ?_
            exact ⟨j + 1, ⟨hlt, hR3⟩, by omega, by repeat (first | exact Js _ | refine Jr (by simp [PF.get]; rfl) (by first | rfl | (simp [*]; done) | fail) ?_), by repeat (first | exact List.Sublist.refl _ | exact List.nil_sublist _ | refine List.Sublist.cons_cons _ ?_ | refine List.Sublist.cons _ ?_)⟩
          · have hf : Hid (R = false) := by show _ = _; rw [show R = _ from hR2.out, decide_eq_false hle]; rfl
            have hle2 : e ≤ l[j] := by omega
            clear hR2
            refine go_ ?_
            refine Jl (by simp) (by simp only [Try.results43]; rfl) (by simp [resP, St.box?, PF.get, Jm, TyK.agg, *]; rfl) (List.nil_sublist _) ?_
            exact ⟨by rw [hf.out]; rfl, rfl⟩
        · have hc : ¬ (j : Int) < l.length := by omega
          have hf : Hid (R = true) := by show _ = _; rw [show R = _ from hR.out, List.drop_of_length_le (by omega)]; rfl
          refine go_ ?_
          refine Jl (by simp) (by simp only [Try.results43]; rfl) (by simp [resP, St.box?, PF.get, Jm, TyK.agg, *]; rfl) (List.nil_sublist _) ?_
          exact ⟨by rw [hf.out]; rfl, rfl⟩
    · have hz2 : f < z := by omega
      have hf : Hid (R = false) := by show _ = _; rw [HR.out]; simp [hz]
      clear HR
      refine PCalls.enter Try.func43 rfl Try.ntmps43 (by simp) ?_
      simp only [argsF]
      refine go_ ?_
      refine Jc ?_
      intro i0 hi0
      refine go_ ?_
      refine Jb (hS.out) ?_
      refine go_ ?_
      refine Jb (hL.out) ?_
      refine go_ ?_
      refine Jl (by simp) (by simp only [Try.results43]; rfl) (by simp [resP, St.box?, PF.get, Jm, TyK.agg, *]; rfl) (List.nil_sublist _) ?_
      exact ⟨by rw [hf.out]; rfl, rfl⟩
  | false =>
    have hf : Hid (R = false) := by show _ = _; rw [HR.out, hb]; rfl
    rw [hb] at hS
    clear HR hb
    simp only [aggD, Jk, List.map_cons, List.map_nil] at hS ⊢
    refine PCalls.enter Try.func43 rfl Try.ntmps43 (by simp) ?_
    simp only [argsF]
    refine go_ ?_
    refine Jc ?_
    intro i0 hi0
    refine go_ ?_
    refine Jb (hS.out) ?_
    refine go_ ?_
    refine Jl (by simp) (by simp only [Try.results43]; rfl) (by simp [resP, St.box?, PF.get, Jm, TyK.agg, *]; rfl) (List.nil_sublist _) ?_
    exact ⟨by rw [hf.out]; rfl, rfl⟩
end Go.Proofs.Ytfnfbbmegdkhjaa

namespace Go.Proofs.Ytfnfbbmegdkhjaa
open Go.RowKit
set_option maxRecDepth 100000
/-- a slice whose cells are kept -/
def SlK (K : Nat → Nat → Prop) (w : World) (sz : Nat) (v : Value) (css : List (List Value)) : Prop := SlN w sz v css ∧ ∀ b off n cap, v = .slice (some ⟨b, off, none⟩) n cap → ∀ o, off ≤ o → o < off + css.length * sz → K b o
theorem SlK.later {K : Nat → Nat → Prop} {w w' : World} {sz : Nat} {v : Value} {css : List (List Value)} (h : SlK K w sz v css) (hb : Below w.heap.size w w') : SlK K w' sz v css := ⟨h.1.later hb, h.2⟩
variable {K : Nat → Nat → Prop}
mutual
/-- three cells hold a term -/
def TmC (K : Nat → Nat → Prop) (w : World) : Tm → List Value → Prop
  | .mk k n sub, cs => ∃ s css, cs = [.int .i64 k, .int .i64 n, s] ∧ SlK K w 3 s css ∧ TmCs K w sub css
def TmCs (K : Nat → Nat → Prop) (w : World) : List Tm → List (List Value) → Prop
  | [], css => css = []
  | t :: ts, css => ∃ c cr, css = c :: cr ∧ TmC K w t c ∧ TmCs K w ts cr
end
theorem TmCs.length {w : World} : ∀ {ts : List Tm} {css : List (List Value)}, TmCs K w ts css → css.length = ts.length := by
  intro ts
  induction ts with
  | nil => intro css h; simp only [TmCs] at h; subst h; rfl
  | cons t ts ih => intro css h; simp only [TmCs] at h; obtain ⟨c, cr, rfl, _, h2⟩ := h; simp [ih h2]
theorem TmCs.get {w : World} : ∀ {ts : List Tm} {css : List (List Value)}, TmCs K w ts css → ∀ (i : Nat) (h : i < ts.length), ∃ c, css[i]? = some c ∧ TmC K w ts[i] c := by
  intro ts
  induction ts with
  | nil => intro css _ i h; simp at h
  | cons t ts ih =>
    intro css h i hi
    simp only [TmCs] at h
    obtain ⟨c, cr, rfl, h1, h2⟩ := h
    cases i with
    | zero => exact ⟨c, rfl, h1⟩
    | succ i =>
      obtain ⟨c', hc', h'⟩ := ih h2 i (by simpa using hi)
      exact ⟨c', by simpa using hc', by simpa using h'⟩
theorem TmCs.mk {w : World} : ∀ {ts : List Tm} {css : List (List Value)}, css.length = ts.length → (∀ (i : Nat) (h : i < ts.length), ∃ c, css[i]? = some c ∧ TmC K w ts[i] c) → TmCs K w ts css := by
  intro ts
  induction ts with
  | nil => intro css hl _; simp only [TmCs]; exact List.eq_nil_of_length_eq_zero hl
  | cons t ts ih =>
    intro css hl h
    match css, hl with
    | c :: cr, hl =>
      simp only [TmCs]
      obtain ⟨c0, e0, h0⟩ := h 0 (by simp)
      simp at e0; subst e0
      refine ⟨c, cr, rfl, h0, ih (by simpa using hl) fun i hi => ?_⟩
      obtain ⟨c', hc', h'⟩ := h (i + 1) (by simpa using hi)
      exact ⟨c', by simpa using hc', by simpa using h'⟩
theorem TmC.later {w w' : World} (hb : Below w.heap.size w w') : ∀ (t : Tm) (cs : List Value), TmC K w t cs → TmC K w' t cs := by
  refine Tm.ind ?_
  intro k n sub ih cs h
  simp only [TmC] at h ⊢
  obtain ⟨s, css, rfl, h1, h2⟩ := h
  refine ⟨s, css, rfl, h1.later hb, TmCs.mk h2.length fun i hi => ?_⟩
  obtain ⟨c, hc, h3⟩ := h2.get i hi
  exact ⟨c, hc, ih _ (List.getElem_mem hi) c h3⟩
theorem TmCs.later {w w' : World} (hb : Below w.heap.size w w') {ts : List Tm} {css : List (List Value)} (h : TmCs K w ts css) : TmCs K w' ts css :=
  TmCs.mk h.length fun i hi => by
    obtain ⟨c, hc, h3⟩ := h.get i hi
    exact ⟨c, hc, h3.later hb⟩
/-- a slice of terms -/
def TmS (K : Nat → Nat → Prop) (w : World) (v : Value) (ts : List Tm) : Prop := ∃ css, SlK K w 3 v css ∧ TmCs K w ts css
theorem TmS.later {w w' : World} {v : Value} {ts : List Tm} (h : TmS K w v ts) (hb : Below w.heap.size w w') : TmS K w' v ts := by
  obtain ⟨css, h1, h2⟩ := h
  exact ⟨css, h1.later hb, h2.later hb⟩
theorem TmC.iff {w : World} {k n : Int} {sub : List Tm} {cs : List Value} : TmC K w (.mk k n sub) cs ↔ ∃ s, cs = [.int .i64 k, .int .i64 n, s] ∧ TmS K w s sub := by
  simp only [TmC]
  constructor
  · rintro ⟨s, css, rfl, h1, h2⟩; exact ⟨s, rfl, css, h1, h2⟩
  · rintro ⟨s, rfl, css, h1, h2⟩; exact ⟨s, css, rfl, h1, h2⟩
theorem TmC.open {w : World} {t : Tm} {cs : List Value} (h : TmC K w t cs) : ∃ s, cs = [.int .i64 t.kind, .int .i64 t.num, s] ∧ TmS K w s t.sub := by
  cases t; exact TmC.iff.1 h
/-- a slice of terms as a value: its shape, and its elements' cells -/
theorem TmS.open {w : World} {v : Value} {ts : List Tm} (h : TmS K w v ts) : ∃ a cap, v = .slice a ts.length cap ∧ ts.length ≤ cap ∧ cap ≤ maxLen ∧
    (ts ≠ [] → ∃ b off, a = some ⟨b, off, none⟩ ∧ ∀ (i : Nat) (hi : i < ts.length), ∃ s, w.cell? ⟨b, off + i * 3, none⟩ = some (.int .i64 ts[i].kind) ∧ w.cell? ⟨b, off + i * 3 + 1, none⟩ = some (.int .i64 ts[i].num) ∧ w.cell? ⟨b, off + i * 3 + 2, none⟩ = some s ∧ TmS K w s ts[i].sub) := by
  obtain ⟨css, ⟨⟨a, cap, hv, hl, hm, hc⟩, -⟩, h2⟩ := h
  have hlen := h2.length
  rw [hlen] at hv hl
  refine ⟨a, cap, hv, hl, hm, fun hne => ?_⟩
  obtain ⟨b, off, ha, hcell⟩ := hc (by intro e; rw [e] at hlen; simp at hlen; exact hne (List.eq_nil_of_length_eq_zero hlen.symm))
  refine ⟨b, off, ha, fun i hi => ?_⟩
  obtain ⟨c, hci, htm⟩ := h2.get i hi
  obtain ⟨s, hs, hsub⟩ := htm.open
  have hx := (hcell i c hci).2
  subst hs
  exact ⟨s, by simpa using hx 0 _ rfl, hx 1 _ rfl, hx 2 _ rfl, hsub⟩
/-- an element of a slice of terms, in a later world -/
theorem TmC.shut {w : World} {t : Tm} {s : Value} (h : TmS K w s t.sub) : TmC K w t [.int .i64 t.kind, .int .i64 t.num, s] := by
  cases t; exact TmC.iff.2 ⟨s, rfl, h⟩
theorem csub_at {w wr : World} {a : Option Addr} {cap : Nat} {ts : List Tm} (h : TmS K w (.slice a ts.length cap) ts) (hb : Below w.heap.size w wr) (k : Nat) (hlt : k < ts.length) :
    ∃ b off a' cap', a = some ⟨b, off, none⟩ ∧ wr.cell? ⟨b, off + k * 3, none⟩ = some (.int .i64 ts[k].kind) ∧ wr.cell? ⟨b, off + k * 3 + 1, none⟩ = some (.int .i64 ts[k].num) ∧
      wr.cell? ⟨b, off + k * 3 + 2, none⟩ = some (.slice a' ts[k].sub.length cap') ∧ TmC K wr ts[k] [.int .i64 ts[k].kind, .int .i64 ts[k].num, .slice a' ts[k].sub.length cap'] := by
  obtain ⟨a0, c0, hv, _, _, hget⟩ := h.open
  simp only [Value.slice.injEq] at hv
  obtain ⟨rfl, _, rfl⟩ := hv
  obtain ⟨b, off, rfl, hgg⟩ := hget (by intro e; rw [e] at hlt; simp at hlt)
  obtain ⟨sv, c0, c1, c2, hsv⟩ := hgg k hlt
  obtain ⟨a', cap', rfl, -⟩ := hsv.open
  refine ⟨b, off, a', cap', rfl, ?_, ?_, ?_, (TmC.shut hsv).later hb⟩
  · exact (hb.cell (World.block_lt_of_cell? w _ c0)).trans c0
  · exact (hb.cell (World.block_lt_of_cell? w _ c1)).trans c1
  · exact (hb.cell (World.block_lt_of_cell? w _ c2)).trans c2
theorem tm_open {w : World} {t : Tm} {cs : List Value} (h : TmC K w t cs) : ∃ a cap, cs = [.int .i64 t.kind, .int .i64 t.num, .slice a t.sub.length cap] ∧ TmS K w (.slice a t.sub.length cap) t.sub ∧ t.sub.length ≤ 9223372036854775807 := by
  obtain ⟨s, rfl, hs⟩ := h.open
  obtain ⟨a, cap, rfl, h1, h2, _⟩ := hs.open
  exact ⟨a, cap, rfl, hs, by unfold maxLen at h2; omega⟩
theorem own_litN {w : World} {xs : List Value} {n size : Nat} (e : TypeId) (hn : xs.length = n * size) (hm : n ≤ maxLen) :
    (w.alloc (.cells xs.toArray e)).ownsRow w.heap.size e size (.slice (some ⟨w.heap.size, 0, none⟩) n n) n xs :=
  ⟨hn, .inr ⟨w.heap.size, n, xs.toArray, rfl, Nat.le_refl _, heap_alloc_new w _, Nat.le_refl _, hm, by simp; omega, by rw [← hn]; simp⟩⟩
theorem info24 : (Try.prog.info? 28).map (fun i => (i.zero, i.size, i.bytes)) = some (some (.agg #[.int .i64 0, .int .i64 0, .slice none 0 0]), 3, 40) := by kernel_rfl
theorem set3_heap (w : World) (B k : Nat) (u v x : Value) (h : k ≠ B) : (((w.setCell ⟨B, 0, none⟩ u).setCell ⟨B, 1, none⟩ v).setCell ⟨B, 2, none⟩ x).heap[k]? = w.heap[k]? := by
  rw [Below.heap_setCell _ _ _ _ h, Below.heap_setCell _ _ _ _ h, Below.heap_setCell _ _ _ _ h]
theorem set3_below {B0 B : Nat} {w0 w : World} (h : Below B0 w0 w) (hB : B0 ≤ B) (u v x : Value) : Below B0 w0 (((w.setCell ⟨B, 0, none⟩ u).setCell ⟨B, 1, none⟩ v).setCell ⟨B, 2, none⟩ x) :=
  ((h.setCell hB _).setCell hB _).setCell hB _
/-- a slice whose cells lie in blocks of 'S' -/
def SlF (S : Nat → Prop) (w : World) (sz : Nat) (v : Value) (css : List (List Value)) : Prop :=
  ∃ a cap, v = .slice a css.length cap ∧ css.length ≤ cap ∧ cap ≤ maxLen ∧ (css ≠ [] → ∃ b off, a = some ⟨b, off, none⟩ ∧ S b ∧ ∀ i c, css[i]? = some c → c.length = sz ∧ ∀ j x, c[j]? = some x → w.cell? ⟨b, off + i * sz + j, none⟩ = some x)
mutual
def TmF (S : Nat → Prop) (w : World) : Tm → List Value → Prop
  | .mk k n sub, cs => ∃ s css, cs = [.int .i64 k, .int .i64 n, s] ∧ SlF S w 3 s css ∧ TmFs S w sub css
def TmFs (S : Nat → Prop) (w : World) : List Tm → List (List Value) → Prop
  | [], css => css = []
  | t :: ts, css => ∃ c cr, css = c :: cr ∧ TmF S w t c ∧ TmFs S w ts cr
end
theorem TmFs.length {S : Nat → Prop} {w : World} : ∀ {ts : List Tm} {css : List (List Value)}, TmFs S w ts css → css.length = ts.length := by
  intro ts
  induction ts with
  | nil => intro css h; simp only [TmFs] at h; subst h; rfl
  | cons t ts ih => intro css h; simp only [TmFs] at h; obtain ⟨c, cr, rfl, _, h2⟩ := h; simp [ih h2]
theorem TmF.three {S : Nat → Prop} {w : World} {t : Tm} {cs : List Value} (h : TmF S w t cs) : cs.length = 3 := by
  cases t; simp only [TmF] at h; obtain ⟨s, css, rfl, _⟩ := h; rfl
theorem TmFs.three {S : Nat → Prop} {w : World} : ∀ {ts : List Tm} {css : List (List Value)}, TmFs S w ts css → ∀ c ∈ css, c.length = 3 := by
  intro ts
  induction ts with
  | nil => intro css h c hc; simp only [TmFs] at h; subst h; cases hc
  | cons t ts ih =>
    intro css h c hc
    simp only [TmFs] at h
    obtain ⟨c0, cr, rfl, h1, h2⟩ := h
    cases hc with
    | head => exact h1.three
    | tail _ hm => exact ih h2 c hm
/-- a boxed struct of three cells -/
def Box3 (w : World) (B : Nat) (x y z : Value) : Prop := w.heap[B]? = some (.cells #[x, y, z] 28)
theorem Box3.new (w : World) (x y z : Value) : Box3 (w.alloc (.cells #[x, y, z] 28)) w.heap.size x y z := heap_alloc_new w _
theorem Box3.later {w w' : World} {B n : Nat} {x y z : Value} (h : Box3 w B x y z) (hb : Below n w w') (hB : B < n) : Box3 w' B x y z := (hb.block _ hB).trans h
theorem Box3.cells {w : World} {B : Nat} {x y z : Value} (h : Box3 w B x y z) : w.cell? ⟨B, 0, none⟩ = some x ∧ w.cell? ⟨B, 1, none⟩ = some y ∧ w.cell? ⟨B, 2, none⟩ = some z := by
  unfold Box3 at h
  refine ⟨?_, ?_, ?_⟩ <;> · rw [cell_of_row w B _ _ _ _ h]; rfl
theorem Box3.free {w : World} {B : Nat} {x y z : Value} (h : Box3 w B x y z) (i : Nat) : w.frozen? ⟨B, i, none⟩ = false := by
  unfold Box3 at h
  unfold World.frozen?; rw [h]; simp
theorem Box3.set {w : World} {B : Nat} {x y z : Value} (h : Box3 w B x y z) (u v t : Value) : Box3 (((w.setCell ⟨B, 0, none⟩ u).setCell ⟨B, 1, none⟩ v).setCell ⟨B, 2, none⟩ t) B u v t := by
  exact set_block (set_block (set_block h 0 u) 1 v) 2 t
theorem flat_set (y0 y1 y2 : Value) : ∀ (ds : List (List Value)) (k : Nat), (∀ c ∈ ds, c.length = 3) → k < ds.length → (ds.set k [y0, y1, y2]).flatten = ((ds.flatten.set (k * 3) y0).set (k * 3 + 1) y1).set (k * 3 + 2) y2 := by
  intro ds
  induction ds with
  | nil => intro k _ hk; simp at hk
  | cons c cr ih =>
    intro k h3 hk
    have hc := h3 c (by simp)
    match c, hc with
    | [a, b, d], _ =>
      cases k with
      | zero => simp
      | succ k =>
        have := ih k (fun c hc => h3 c (by simp [hc])) (by simpa using hk)
        simp only [List.set_cons_succ, List.flatten_cons, List.cons_append, List.nil_append]
        rw [this, show (k + 1) * 3 = k * 3 + 1 + 1 + 1 by omega]
        simp only [List.set_cons_succ, show k * 3 + 1 + 1 + 1 + 1 = (k * 3 + 1) + 1 + 1 + 1 from rfl, show k * 3 + 1 + 1 + 1 + 2 = (k * 3 + 2) + 1 + 1 + 1 from rfl]
theorem set_block' {w : World} {B : Nat} {c : Array Value} {e : TypeId} {fr : Nat × Nat} (h : w.heap[B]? = some (.cells c e fr)) (i : Nat) (u : Value) : (w.setCell ⟨B, i, none⟩ u).heap[B]? = some (.cells (c.setIfInBounds i u) e fr) := by
  unfold World.setCell
  simp [Array.getElem?_modify, h]
theorem row_set {w : World} {base : Nat} {g n cap : Nat} {ds : List (List Value)} (h : w.ownsRow base 28 3 (.slice (some ⟨g, 0, none⟩) n cap) n ds.flatten) (hn : ds.length = n) (h3 : ∀ c ∈ ds, c.length = 3) (k : Nat) (hk : k < n) (y0 y1 y2 : Value) :
    (((w.setCell ⟨g, k * 3, none⟩ y0).setCell ⟨g, k * 3 + 1, none⟩ y1).setCell ⟨g, k * 3 + 2, none⟩ y2).ownsRow base 28 3 (.slice (some ⟨g, 0, none⟩) n cap) n (ds.set k [y0, y1, y2]).flatten := by
  obtain ⟨h0, h1⟩ := h
  have hfl := flat_set y0 y1 y2 ds k h3 (by omega)
  refine ⟨by rw [hfl]; simpa using h0, .inr ?_⟩
  rcases h1 with ⟨h1, _⟩ | ⟨g', cap', cur, hv, hg, hh, hnc, hc, hsz, htk⟩
  · cases h1
  · simp only [Value.slice.injEq, Option.some.injEq, Addr.mk.injEq, and_true, true_and] at hv
    obtain ⟨rfl, rfl⟩ := hv
    refine ⟨g, cap, _, rfl, hg, set_block' (set_block' (set_block' hh (k * 3) y0) (k * 3 + 1) y1) (k * 3 + 2) y2, hnc, hc, by simpa using hsz, ?_⟩
    rw [hfl, ← htk]
    simp [List.take_set]
theorem row_drew {w : World} {base e sz n : Nat} {v : Value} {xs : List Value} (h : w.ownsRow base e sz v n xs) : w.drew.ownsRow base e sz v n xs := h
/-- the cells of a term, by their shape -/
def Cs3 (c : List Value) : Prop := ∃ (k n : Int) (a : Option Addr) (len cap : Nat), c = [.int .i64 k, .int .i64 n, .slice a len cap]
theorem Cs3.three {c : List Value} (h : Cs3 c) : c.length = 3 := by obtain ⟨_, _, _, _, _, rfl⟩ := h; rfl
set_option maxRecDepth 100000 in
set_option maxHeartbeats 2000000 in
theorem reverse_any (base : Nat) (v : Value) (css : List (List Value)) (w : World) (hown : w.ownsRow base 28 3 v css.length css.flatten) (h3 : ∀ c ∈ css, Cs3 c) :
    Calls Try.prog 127 #[v] w fun e w' => e = .returned (.tuple #[]) ∧ w'.ownsRow base 28 3 v css.length css.reverse.flatten ∧ Below base w w' := by
  obtain ⟨a, cap, rfl, hll⟩ : ∃ a cap, v = .slice a css.length cap ∧ css.length ≤ 9223372036854775807 := by
    rcases hown.2 with ⟨h1, h2⟩ | ⟨g, cap, cur, hv, _, _, h1, h2, _⟩
    · exact ⟨none, 0, by rw [h1, h2], by omega⟩
    · exact ⟨_, cap, hv, by unfold maxLen at h2; omega⟩
  have HO := Lib.hid hown
  have H3 := Lib.hid h3
  clear hown h3
  go_enter Try.func127, Try.ntmps127
  go_wp2_with fail
  go_loopw [2, 3] (fun i j wr => ∃ (k : Nat) (ds : List (List Value)), i = .int .i64 k ∧ j = .int .i64 ((css.length : Int) - 1 - k) ∧ 2 * k ≤ css.length ∧ Hid (ds.length = css.length) ∧ Hid (∀ c ∈ ds, Cs3 c) ∧ Hid (wr.ownsRow base 28 3 (.slice a css.length cap) css.length ds.flatten) ∧ Hid (∀ m, m < css.length → ds[m]? = if m < k ∨ css.length - k ≤ m then css[css.length - 1 - m]? else css[m]?) ∧ Hid (Below base w wr)) (fun i _ _ => css.length - (intOf i).toNat)
  case atStart => 
    exact ⟨0, css, rfl, by simp, by omega, rfl, H3.out, HO.out, (fun m hm => by rw [if_neg (by omega)]), Below.refl _ _⟩
  case round =>
    obtain ⟨k, ds, rfl, rfl, hk, hdl, hd3, hown, hds, hbel⟩ := hrel
    by_cases hlt : (k : Int) < (css.length : Int) - 1 - k
    · obtain ⟨m, hm⟩ : ∃ m : Nat, (css.length : Int) - 1 - k = m := ⟨css.length - 1 - k, by omega⟩
      have hmn : k + m + 1 = css.length := by omega
      obtain ⟨g, rfl, hgb⟩ : ∃ g, a = some ⟨g, 0, none⟩ ∧ base ≤ g := by
        rcases hown.out.2 with ⟨h1, h2⟩ | ⟨g, cap', cur, hv, h1, _⟩
        · omega
        · simp only [Value.slice.injEq] at hv
          exact ⟨g, hv.1, h1⟩
      obtain ⟨x0, x1, x2, xl, xc, hx⟩ := (hd3.out _ (List.getElem_mem (l := ds) (n := k) (by have := hdl.out; omega)))
      obtain ⟨y0, y1, y2, yl, yc, hy⟩ := (hd3.out _ (List.getElem_mem (l := ds) (n := m) (by have := hdl.out; omega)))
      have hsl := SlN.own hown.out hdl.out (fun c hc => (hd3.out c hc).three)
      have hcellk : ∀ (i : Nat) (hi : i < ds.length) (x0 x1 x2 : Value), ds[i] = [x0, x1, x2] → wr.cell? ⟨g, i * 3, none⟩ = some x0 ∧ wr.cell? ⟨g, i * 3 + 1, none⟩ = some x1 ∧ wr.cell? ⟨g, i * 3 + 2, none⟩ = some x2 := by
        intro i hi x0 x1 x2 he
        obtain ⟨a', cap', hv, _, _, hc⟩ := hsl
        simp only [Value.slice.injEq] at hv
        obtain ⟨b, off, hb, hcc⟩ := hc (by intro e; rw [e] at hi; simp at hi)
        rw [← hv.1] at hb
        simp only [Option.some.injEq, Addr.mk.injEq, and_true] at hb
        obtain ⟨rfl, rfl⟩ := hb
        have := (hcc i _ (by rw [List.getElem?_eq_getElem hi, he])).2
        have h0 := this 0 x0 rfl
        have h1 := this 1 x1 rfl
        have h2 := this 2 x2 rfl
        simp at h0 h1 h2
        exact ⟨h0, h1, h2⟩
      obtain ⟨c0, c1, c2⟩ := hcellk k (by have := hdl.out; omega) _ _ _ hx
      obtain ⟨d0, d1, d2⟩ := hcellk m (by have := hdl.out; omega) _ _ _ hy
      have hfr : ∀ i, wr.frozen? ⟨g, i, none⟩ = false := by
        intro i
        rcases hown.out.2 with ⟨h1, h2⟩ | ⟨g', cap', cur, hv, h1, hh, _⟩
        · cases h1
        · simp only [Value.slice.injEq, Option.some.injEq, Addr.mk.injEq, and_true] at hv
          obtain ⟨rfl, _⟩ := hv
          unfold World.frozen?; rw [hh]; simp
      have f0 := hfr (k * 3)
      have f1 := hfr (k * 3 + 1)
      have f2 := hfr (k * 3 + 2)
      have g0 := hfr (m * 3)
      have g1 := hfr (m * 3 + 1)
      have g2 := hfr (m * 3 + 2)
      have b0 : (0:Int) ≤ k := by omega
      have b1 : (0:Int) ≤ m := by omega
      have b2 : (k:Int) < css.length := by omega
      have b3 : (m:Int) < css.length := by omega
      have hkm : (k : Int) < m := by omega
      rw [hm]
      have F0 : wr.drew.frozen? ⟨g, k * 3, none⟩ = false := f0
      have F1 : wr.drew.frozen? ⟨g, k * 3 + 1, none⟩ = false := f1
      have F2 : wr.drew.frozen? ⟨g, k * 3 + 2, none⟩ = false := f2
      have G0 : wr.drew.frozen? ⟨g, m * 3, none⟩ = false := g0
      have G1 : wr.drew.frozen? ⟨g, m * 3 + 1, none⟩ = false := g1
      have G2 : wr.drew.frozen? ⟨g, m * 3 + 2, none⟩ = false := g2
      have C0 : wr.drew.cell? ⟨g, k * 3, none⟩ = some (.int .i64 x0) := c0
      have C1 : wr.drew.cell? ⟨g, k * 3 + 1, none⟩ = some (.int .i64 x1) := c1
      have C2 : wr.drew.cell? ⟨g, k * 3 + 2, none⟩ = some (.slice x2 xl xc) := c2
      clear hlt hcellk hfr hsl
      go_wp2_with fail
      go_region
      have hdl' := hdl.out
      have r1 := row_set hown.out hdl' (fun c hc => (hd3.out c hc).three) k (by omega) (.int .i64 y0) (.int .i64 y1) (.slice y2 yl yc)
      have r2 := row_set r1 (by simpa using hdl') (fun c hc => by
        rcases List.mem_or_eq_of_mem_set hc with h | h
        · exact (hd3.out c h).three
        · rw [h]; rfl) m (by omega) (.int .i64 x0) (.int .i64 x1) (.slice x2 xl xc)
      have hF : Hid (Below base w (((((((wr.setCell ⟨g, k * 3, none⟩ (.int .i64 y0)).setCell ⟨g, k * 3 + 1, none⟩ (.int .i64 y1)).setCell ⟨g, k * 3 + 2, none⟩ (.slice y2 yl yc)).setCell ⟨g, m * 3, none⟩ (.int .i64 x0)).setCell ⟨g, m * 3 + 1, none⟩ (.int .i64 x1)).setCell ⟨g, m * 3 + 2, none⟩ (.slice x2 xl xc)).drew)) :=
        ((((((hbel.out.setCell (p := ⟨g, k * 3, none⟩) hgb _).setCell (p := ⟨g, k * 3 + 1, none⟩) hgb _).setCell (p := ⟨g, k * 3 + 2, none⟩) hgb _).setCell (p := ⟨g, m * 3, none⟩) hgb _).setCell (p := ⟨g, m * 3 + 1, none⟩) hgb _).setCell (p := ⟨g, m * 3 + 2, none⟩) hgb _).drew
      have hR : Hid (((((((wr.setCell ⟨g, k * 3, none⟩ (.int .i64 y0)).setCell ⟨g, k * 3 + 1, none⟩ (.int .i64 y1)).setCell ⟨g, k * 3 + 2, none⟩ (.slice y2 yl yc)).setCell ⟨g, m * 3, none⟩ (.int .i64 x0)).setCell ⟨g, m * 3 + 1, none⟩ (.int .i64 x1)).setCell ⟨g, m * 3 + 2, none⟩ (.slice x2 xl xc)).drew.ownsRow base 28 3 (.slice (some ⟨g, 0, none⟩) css.length cap) css.length ((ds.set k [.int .i64 y0, .int .i64 y1, .slice y2 yl yc]).set m [.int .i64 x0, .int .i64 x1, .slice x2 xl xc]).flatten) := row_drew r2
      have hnew : Hid (∀ i, i < css.length → ((ds.set k [.int .i64 y0, .int .i64 y1, .slice y2 yl yc]).set m [.int .i64 x0, .int .i64 x1, .slice x2 xl xc])[i]? = if i < k + 1 ∨ css.length - (k + 1) ≤ i then css[css.length - 1 - i]? else css[i]?) := by
        intro i hi
        have ek := hds.out k (by omega)
        have em := hds.out m (by omega)
        rw [if_neg (by omega), List.getElem?_eq_getElem (by omega), hx] at ek
        rw [if_neg (by omega), List.getElem?_eq_getElem (by omega), hy] at em
        by_cases h1 : i = m
        · subst h1
          rw [List.getElem?_set_self (by simp; omega), if_pos (by omega), show css.length - 1 - i = k by omega]; exact ek
        · rw [List.getElem?_set_ne (by omega)]
          by_cases h2 : i = k
          · subst h2
            rw [List.getElem?_set_self (by omega), if_pos (by omega), show css.length - 1 - i = m by omega]; exact em
          · rw [List.getElem?_set_ne (by omega), hds.out i hi]
            by_cases h3 : i < k ∨ css.length - k ≤ i
            · rw [if_pos h3, if_pos (by omega)]
            · rw [if_neg h3, if_neg (by omega)]
      have hl2 : Hid (((ds.set k [.int .i64 y0, .int .i64 y1, .slice y2 yl yc]).set m [.int .i64 x0, .int .i64 x1, .slice x2 xl xc]).length = css.length) := by show _ = _; simpa using hdl'
      have h32 : Hid (∀ c ∈ ((ds.set k [.int .i64 y0, .int .i64 y1, .slice y2 yl yc]).set m [.int .i64 x0, .int .i64 x1, .slice x2 xl xc]), Cs3 c) := by
        intro c hc
        rcases List.mem_or_eq_of_mem_set hc with h | h
        · rcases List.mem_or_eq_of_mem_set h with h | h
          · exact hd3.out c h
          · exact ⟨_, _, _, _, _, h⟩
        · exact ⟨_, _, _, _, _, h⟩
      clear r1 r2 c0 c1 c2 d0 d1 d2 f0 f1 f2 g0 g1 g2 F0 F1 F2 G0 G1 G2 C0 C1 C2 hx hy hown hds hbel hd3 hdl
      go_wp2_with fail
      go_roundw
      case rel => exact ⟨k + 1, _, by simp, by simp; omega, by omega, hl2, h32, hR, hnew, hF⟩
      case measure => simp [intOf]; omega
    · go_wp2_with fail
      exact bodyPost_end (v := .tuple #[]) (by simp [results, Try.results127, go_sem]) rfl ⟨rfl, by
        have e : ds = css.reverse := by
          apply List.ext_getElem?
          intro i
          by_cases hi : i < css.length
          · rw [hds.out i hi, List.getElem?_reverse hi]
            by_cases hc : i < k ∨ css.length - k ≤ i
            · rw [if_pos hc]
            · rw [if_neg hc, show css.length - 1 - i = i by omega]
          · rw [List.getElem?_eq_none (by have := hdl.out; omega), List.getElem?_eq_none (by simp; omega)]
        rw [← e]; exact hown.out, hbel.out⟩
theorem tmc_cs3 {w : World} {t : Tm} {c : List Value} (h : TmC K w t c) : Cs3 c := by
  obtain ⟨a, cap, rfl, _⟩ := tm_open h
  exact ⟨_, _, _, _, _, rfl⟩
theorem tmcs_cs3 {w : World} : ∀ {ts : List Tm} {css : List (List Value)}, TmCs K w ts css → ∀ c ∈ css, Cs3 c := by
  intro ts
  induction ts with
  | nil => intro css h c hc; simp only [TmCs] at h; subst h; cases hc
  | cons t ts ih =>
    intro css h c hc
    simp only [TmCs] at h
    obtain ⟨c0, cr, rfl, h1, h2⟩ := h
    cases hc with
    | head => exact tmc_cs3 h1
    | tail _ hm => exact ih h2 c hm
theorem TmCs.snoc {w : World} {t : Tm} {c : List Value} (hc : TmC K w t c) : ∀ {ts : List Tm} {css : List (List Value)}, TmCs K w ts css → TmCs K w (ts ++ [t]) (css ++ [c]) := by
  intro ts
  induction ts with
  | nil => intro css h; simp only [TmCs] at h; subst h; simp only [List.nil_append, TmCs]; exact ⟨_, _, rfl, hc, rfl⟩
  | cons t' ts ih => intro css h; simp only [TmCs] at h; obtain ⟨c', cr, rfl, h1, h2⟩ := h; simp only [List.cons_append, TmCs]; exact ⟨_, _, rfl, h1, ih h2⟩
theorem own_sh3 {w : World} {base e : Nat} {v : Value} {n : Nat} {xs : List Value} (h : w.ownsRow base e 3 v n xs) (hn : 0 < n) : ∃ g cap, v = .slice (some ⟨g, 0, none⟩) n cap := by
  rcases h.2 with ⟨_, h0⟩ | ⟨g, cap, cur, hv, _⟩
  · omega
  · exact ⟨g, cap, hv⟩
theorem cown_move {w w' : World} {base e sz n : Nat} {v : Value} {xs : List Value} (h : w.ownsRow base e sz v n xs) (hm : ∀ b, base ≤ b → w'.heap[b]? = w.heap[b]?) : w'.ownsRow base e sz v n xs := by
  refine ⟨h.1, ?_⟩
  rcases h.2 with h2 | ⟨g, cap, cur, hv, hg, hh, r⟩
  · exact .inl h2
  · exact .inr ⟨g, cap, cur, hv, hg, (hm g hg).trans hh, r⟩
theorem TmCs.rev {w : World} : ∀ {ts : List Tm} {css : List (List Value)}, TmCs K w ts css → TmCs K w ts.reverse css.reverse := by
  intro ts
  induction ts with
  | nil => intro css h; simp only [TmCs] at h; subst h; simp only [List.reverse_nil, TmCs]
  | cons t' ts ih => intro css h; simp only [TmCs] at h; obtain ⟨c', cr, rfl, h1, h2⟩ := h; rw [List.reverse_cons, List.reverse_cons]; exact TmCs.snoc h1 (ih h2)
set_option maxRecDepth 100000 in
set_option maxHeartbeats 2000000 in
theorem spine_any (t : Tm) (cs : List Value) (w : World) (hKn : ∀ b o, w.heap.size ≤ b → K b o) (hs : shapedB t = true) (ht : TmC K w t cs) :
    Calls Try.prog 149 #[.agg cs.toArray] w fun e w' => ∃ (h : Tm) (l : List Tm) (k n : Int) (a : Option Addr) (len cap : Nat) (al : Option Addr) (cl : Nat), e = .returned (.tuple #[.agg #[.int .i64 k, .int .i64 n, .slice a len cap], .slice al l.length cl]) ∧
      h.kind ≠ 5 ∧ applyT h l = t ∧ TmC K w' h [.int .i64 k, .int .i64 n, .slice a len cap] ∧ TmS K w' (.slice al l.length cl) l ∧ Below w.heap.size w w' := by
  obtain ⟨i0, hi, hz0, hz1, hz2⟩ := info_parts info24
  have HKN := Lib.hid hKn
  clear hKn
  have ht0 := ht
  obtain ⟨a, cap, rfl, hsub, hlen⟩ := tm_open ht
  have HS := Lib.hid hs
  have HG : Hid (goodB t = true) := by
    simp only [shapedB, Bool.and_eq_true] at hs
    exact hs.2
  clear hs ht hsub
  let W3 := ((w.alloc (.cells #[.int .i64 t.kind, .int .i64 t.num, .slice a t.sub.length cap] 28)).alloc (.cells #[.int .i64 0, .int .i64 0, .slice none 0 0] 28)).alloc (.cells #[.int .i64 t.kind, .int .i64 t.num, .slice a t.sub.length cap] 28)
  have BX0 : Hid (Box3 W3 (w.heap.size + 1 + 1) (.int .i64 t.kind) (.int .i64 t.num) (.slice a t.sub.length cap)) := by
    have h := Box3.new ((w.alloc (.cells #[.int .i64 t.kind, .int .i64 t.num, .slice a t.sub.length cap] 28)).alloc (.cells #[.int .i64 0, .int .i64 0, .slice none 0 0] 28)) (.int .i64 t.kind) (.int .i64 t.num) (.slice a t.sub.length cap)
    simp at h
    exact h
  have BX1 : Hid (Box3 W3 (w.heap.size + 1) (.int .i64 0) (.int .i64 0) (.slice none 0 0)) := by
    have h := Box3.new (w.alloc (.cells #[.int .i64 t.kind, .int .i64 t.num, .slice a t.sub.length cap] 28)) (.int .i64 0) (.int .i64 0) (.slice none 0 0)
    have h2 := h.later ((Below.refl _ _).alloc (Nat.le_refl _) (.cells #[.int .i64 t.kind, .int .i64 t.num, .slice a t.sub.length cap] 28)) (by simp)
    simp at h2
    exact h2
  have hd : Hid (Below w.heap.size w W3) := (((Below.refl _ _).alloc (Nat.le_refl _) _).alloc (by simp) _).alloc (by simp; omega) _
  have HT := Lib.hid ht0
  clear ht0
  go_enter Try.func149, Try.ntmps149
  go_wp2_with fail
  go_loopg [4] 129 (fun g v wr => ∃ (x : Tm) (xs : List Tm) (css : List (List Value)) (k n : Int) (a : Option Addr) (len cap : Nat) (av : Option Addr) (cv : Nat), v = .slice av xs.length cv ∧ g + xs.length = 129 ∧ Hid (applyT x xs.reverse = t) ∧ Hid (goodB x = true) ∧ Hid (TmC K w x [.int .i64 k, .int .i64 n, .slice a len cap]) ∧ Hid (TmCs K w xs css) ∧
      Hid (wr.ownsRow (w.heap.size + 3) 28 3 (.slice av xs.length cv) xs.length css.flatten) ∧ Box3 wr (w.heap.size + 1 + 1) (.int .i64 k) (.int .i64 n) (.slice a len cap) ∧ Hid (Box3 wr (w.heap.size + 1) (.int .i64 0) (.int .i64 0) (.slice none 0 0)) ∧ Hid (Below w.heap.size w wr) ∧ w.heap.size + 3 ≤ wr.heap.size)
  case atStart =>
    refine ⟨t, [], [], _, _, _, _, _, none, 0, rfl, rfl, rfl, HG.out, HT.out, ?_, ?_, BX0.out, BX1.out, hd.out, by simp⟩
    · show TmCs K w [] []
      simp only [TmCs]
    · exact ⟨rfl, .inl ⟨rfl, rfl⟩⟩
  case round =>
    obtain ⟨x, xs, css, k, n, a1, len, cap1, av, cv, rfl, hg, HA, HGX, HX, HXS, hown, BX, BR, hbel, hlo⟩ := hrel
    obtain ⟨c0, c1, c2⟩ := BX.cells
    obtain ⟨ax, capx, hex, hsubx, hlx⟩ := tm_open HX.out
    simp only [List.cons.injEq, Value.int.injEq, true_and, and_true, Value.slice.injEq] at hex
    obtain ⟨rfl, rfl, rfl, rfl, rfl⟩ := hex
    by_cases h5 : x.kind = 5
    · obtain ⟨y, b, rfl, hgy, hgb⟩ := good_app HGX.out h5
      clear h5
      simp only [Tm.kind, Tm.num, Tm.sub, List.length_cons, List.length_nil, Nat.zero_add, Nat.reduceAdd] at c0 c1 c2 HX BX hsubx hlx
      obtain ⟨bb, off, a', cap', rfl, e0, e1, e2, hty⟩ := csub_at (ts := [y, b]) hsubx (Below.refl _ _) 0 (by simp)
      obtain ⟨bb', off', a'', cap'', hbb, j0, j1, j2, htb⟩ := csub_at (ts := [y, b]) hsubx (Below.refl _ _) 1 (by simp)
      simp only [Option.some.injEq, Addr.mk.injEq, and_true] at hbb
      obtain ⟨rfl, rfl⟩ := hbb
      have hbl : bb < w.heap.size := World.block_lt_of_cell? w _ e0
      simp only [List.getElem_cons_zero, List.getElem_cons_succ] at hty htb e0 e1 e2 j0 j1 j2
      have mvc : Hid (∀ wz, Below w.heap.size w wz → wz.cell? ⟨bb, off, none⟩ = some (.int .i64 y.kind) ∧ wz.cell? ⟨bb, off + 1, none⟩ = some (.int .i64 y.num) ∧ wz.cell? ⟨bb, off + 2, none⟩ = some (.slice a' y.sub.length cap') ∧ wz.cell? ⟨bb, off + 3, none⟩ = some (.int .i64 b.kind) ∧ wz.cell? ⟨bb, off + 3 + 1, none⟩ = some (.int .i64 b.num) ∧ wz.cell? ⟨bb, off + 3 + 2, none⟩ = some (.slice a'' b.sub.length cap'')) := by
        intro wz hz
        simp only [Nat.zero_mul, Nat.one_mul, Nat.add_zero] at e0 e1 e2 j0 j1 j2
        exact ⟨(hz.cell hbl).trans e0, (hz.cell hbl).trans e1, (hz.cell hbl).trans e2, (hz.cell hbl).trans j0, (hz.cell hbl).trans j1, (hz.cell hbl).trans j2⟩
      clear e0 e1 e2 j0 j1 j2
      obtain ⟨-, -, -, j0, j1, j2⟩ := mvc.out wr hbel.out
      have HTY := Lib.hid hty
      have HTB := Lib.hid htb
      clear hty htb hsubx HX
      have hd8 : decide ((8192 : Int) ≤ xs.length) = false := by simp; omega
      have hlen1 : xs.length + 1 ≤ 127 := by
        have h1 := HA.out
        have h2 : applyT y (b :: xs.reverse) = t := h1
        have h3 := spine_len (x := y) (l := b :: xs.reverse) (by rw [h2]; exact HS.out)
        simpa using h3
      have hsl : Hid (SlN (wr.alloc (.cells #[.int .i64 b.kind, .int .i64 b.num, .slice a'' b.sub.length cap''] 28)) 3 (.slice (some ⟨wr.heap.size, 0, none⟩) 1 1) [[.int .i64 b.kind, .int .i64 b.num, .slice a'' b.sub.length cap'']]) :=
        SlN.own (own_litN (w := wr) (xs := [.int .i64 b.kind, .int .i64 b.num, .slice a'' b.sub.length cap'']) (n := 1) (size := 3) 28 rfl (by decide)) rfl (by intro c hc; simp at hc; subst hc; rfl)
      have BXA := Lib.hid BX
      clear BX
      go_wp2_with (at_builtin; refine wpList_app_sl rfl _ _ 23 rfl (w.heap.size + 3) 28 i0 (.agg #[.int .i64 0, .int .i64 0, .slice none 0 0]) 3 40 Try.underlying23 hi hz0 hz1 hz2 rfl (by decide) _ _ _ (hown.out.alloc _) _ _ hsl.out rfl rfl (by intro c hc u hu; simp at hc; subst hc; simp at hu; rcases hu with rfl | rfl | rfl <;> rfl) (by intro c hc; simp at hc; subst hc; rfl) (by unfold maxLen; simp; omega) (by simp; omega) (by simp; omega) ?_)
      intro v2 w2 hown2 hb2 hg2
      obtain ⟨g2, cap2, rfl⟩ := own_sh3 hown2 (by omega)
      have hbe2 : Below w.heap.size w w2 := (hbel.out.alloc (by omega) _).trans (hb2.mono (by omega))
      have hs2 := hb2.size
      have BX2 := (BXA.out.later ((Below.refl _ _).alloc (Nat.le_refl _) (.cells #[.int .i64 b.kind, .int .i64 b.num, .slice a'' b.sub.length cap''] 28)) (by omega)).later hb2 (by omega)
      have BR2 := Lib.hid ((BR.out.later ((Below.refl _ _).alloc (Nat.le_refl _) (.cells #[.int .i64 b.kind, .int .i64 b.num, .slice a'' b.sub.length cap''] 28)) (by omega)).later hb2 (by omega))
      obtain ⟨e0, e1, e2, -, -, -⟩ := mvc.out w2 hbe2
      obtain ⟨d0, d1, d2⟩ := BX2.cells
      have g0 := BX2.free 0
      have g1 := BX2.free 1
      have g2f := BX2.free 2
      have HBX2 := Lib.hid BX2
      have HO2 := Lib.hid hown2
      have HBE2 := Lib.hid hbe2
      simp at hs2
      clear BX2 hown2 hbe2 hb2 hg2 c0 c1 c2 j0 j1 j2 hown BXA hsl
      go_wp2_with fail
      go_roundg (gk - 1)
      case measure => omega
      case rel =>
        refine ⟨y, xs ++ [b], css ++ [[Value.int .i64 b.kind, Value.int .i64 b.num, Value.slice a'' b.sub.length cap'']], y.kind, y.num, a', y.sub.length, cap', some ⟨g2, 0, none⟩, cap2, by simp, by simp; omega, ?_, hgy, HTY.out, Lib.hid (TmCs.snoc HTB.out HXS.out), ?_, HBX2.out.set _ _ _, ?_, set3_below HBE2.out (by omega) _ _ _, by simp; omega⟩
        · have h := HA.out
          show _ = _
          rw [List.reverse_append]; exact h
        · have h := cown_move (w' := ((w2.setCell ⟨w.heap.size + 1 + 1, 0, none⟩ (.int .i64 y.kind)).setCell ⟨w.heap.size + 1 + 1, 1, none⟩ (.int .i64 y.num)).setCell ⟨w.heap.size + 1 + 1, 2, none⟩ (.slice a' y.sub.length cap')) HO2.out (fun b hb => set3_heap _ _ _ _ _ _ (by omega))
          show World.ownsRow _ _ _ _ _ _ _
          rw [List.length_append, List.flatten_append]
          simpa using h
        · show Box3 _ _ _ _ _
          unfold Box3
          rw [set3_heap _ _ _ _ _ _ (by omega)]
          exact BR2.out
    · have hd5 : decide (x.kind = 5) = false := by simp [h5]
      go_wp2_with fail
      refine (reverse_any (w.heap.size + 3) _ css wr (by rw [HXS.out.length]; exact hown.out) (tmcs_cs3 HXS.out)).mono ?_
      rintro e w4 ⟨rfl, hown4, hb4⟩
      have HO4 := Lib.hid hown4
      have BX4 := BX.later hb4 (by omega)
      have BR4 := BR.out.later hb4 (by omega)
      obtain ⟨d0, d1, d2⟩ := BX4.cells
      obtain ⟨q0, q1, q2⟩ := BR4.cells
      have f0 := BR4.free 0
      have f1 := BR4.free 1
      have f2 := BR4.free 2
      have HB4 := Lib.hid (hbel.out.trans (hb4.mono (by omega)))
      clear BX4 BR4 c0 c1 c2 BX hown4 hb4
      go_wp2_with fail
      have HLC := HXS.out.length
      have hF := set3_below (B := w.heap.size + 1) HB4.out (by omega) (.int .i64 x.kind) (.int .i64 x.num) (.slice a1 x.sub.length cap1)
      have hO := cown_move (w' := ((w4.setCell ⟨w.heap.size + 1, 0, none⟩ (.int .i64 x.kind)).setCell ⟨w.heap.size + 1, 1, none⟩ (.int .i64 x.num)).setCell ⟨w.heap.size + 1, 2, none⟩ (.slice a1 x.sub.length cap1)) HO4.out (fun b hb => set3_heap _ _ _ _ _ _ (by omega))
      have hS := SlN.own hO (by simp) (fun c hc => (tmcs_cs3 HXS.out c (by simpa using hc)).three)
      refine bodyPost_ret (v := .tuple #[.agg #[.int .i64 x.kind, .int .i64 x.num, .slice a1 x.sub.length cap1], .slice av xs.length cv]) (by simp [results, Try.results149, go_sem, q0, q1, q2]) rfl ⟨x, xs.reverse, x.kind, x.num, a1, x.sub.length, cap1, av, cv, by simp, h5, HA.out, HX.out.later hF, ?_, hF⟩
      rw [List.length_reverse]
      exact ⟨css.reverse, ⟨hS, fun b off n' cap' e o _ _ => HKN.out b o (by injection e with e1 _ _; have := (hO.lt b (by rw [e1]; rfl)).1; omega)⟩, (TmCs.rev HXS.out).later hF⟩
end Go.Proofs.Ytfnfbbmegdkhjaa
