import Derived.Test.YtfnfbbmegdkhjaaBA
import Derived.Lib.SlicesCompact
import Derived.Test.YtfnfbbmegdkhjaaBA1
import Derived.Test.YtfnfbbmegdkhjaaTab
import Derived.Test.YtfnfbbmegdkhjaaBD
import Derived.Test.YtfnfbbmegdkhjaaSh
import Derived.Shelf.Sort.Plain
import Derived.Shelf.Slices.In.SortNone
import Derived.Shelf.Slices.CompactI
import Derived.Ground.NamesProg
import Derived.Ground.Names2Prog
import Derived.Sort.OwnSortedInts
import Derived.Lib.OwnBridge
import Derived.Lib.RowBridge
import Derived.BigQuiet
import Derived.SizedLaws
set_option linter.unusedSimpArgs false
set_option linter.unusedVariables false
namespace Go.Proofs.Ytfnfbbmegdkhjaa
open Go.RowKit
/-- a term of the core -/
inductive Tm where
  | mk (kind n : Int) (sub : List Tm)
theorem Tm.ind {P : Tm → Prop} (h : ∀ k n sub, (∀ s ∈ sub, P s) → P (.mk k n sub)) : ∀ t, P t := by
  intro t
  exact Tm.rec (motive_1 := P) (motive_2 := fun l => ∀ s ∈ l, P s) (fun k n sub ih => h k n sub ih) (fun s hs => by cases hs) (fun t ts h1 h2 s hs => by
    cases hs with
    | head => exact h1
    | tail _ hm => exact h2 s hm) t
/-- the fields -/
def Tm.kind : Tm → Int | .mk k _ _ => k
def Tm.num : Tm → Int | .mk _ n _ => n
def Tm.sub : Tm → List Tm | .mk _ _ s => s
mutual
def tmD : Tm → List Dt
  | .mk k n sub => [.v (.int .i64 k), .v (.int .i64 n), .s 3 (tmDs sub)]
def tmDs : List Tm → List (List Dt)
  | [] => []
  | t :: ts => tmD t :: tmDs ts
end
theorem tmDs_map (l : List Tm) : tmDs l = l.map tmD := by
  induction l with
  | nil => rfl
  | cons t ts ih => simp only [tmDs, List.map_cons, ih]
theorem tmD_len (t : Tm) : (tmD t).length = 3 := by cases t; simp only [tmD]; rfl
instance : Enc Tm := ⟨3, tmD, tmD_len⟩
theorem tmD_ok : ∀ (t : Tm), ∀ d ∈ tmD t, DtOk d := by
  refine Tm.ind ?_
  intro k n sub ih d hd
  simp only [tmD, List.mem_cons, List.not_mem_nil, or_false] at hd
  rcases hd with rfl | rfl | rfl
  · exact .v trivial
  · exact .v trivial
  · refine .s (by decide) (fun f hf => ?_) fun f hf d hd => ?_
    · rw [tmDs_map] at hf; obtain ⟨t, _, rfl⟩ := List.mem_map.1 hf; exact tmD_len t
    · rw [tmDs_map] at hf; obtain ⟨t, ht, rfl⟩ := List.mem_map.1 hf; exact ih t ht d hd
instance : EncOk Tm := ⟨tmD_ok⟩
@[simp] theorem encD_tm (t : Tm) : encD t = [.v (.int .i64 t.kind), .v (.int .i64 t.num), .sl (t.sub.map encD)] := by
  cases t with
  | mk k n sub =>
    unfold encD
    simp only [Enc.enc, tmD, dtL, dtD, dtLL_map, tmDs_map, List.map_map, Tm.kind, Tm.num, Tm.sub]
    rfl
@[simp] theorem Tm.kind_mk (k n : Int) (l : List Tm) : (Tm.mk k n l).kind = k := rfl
@[simp] theorem Tm.num_mk (k n : Int) (l : List Tm) : (Tm.mk k n l).num = n := rfl
@[simp] theorem Tm.sub_mk (k n : Int) (l : List Tm) : (Tm.mk k n l).sub = l := rfl
end Go.Proofs.Ytfnfbbmegdkhjaa

namespace Go.Proofs.Ytfnfbbmegdkhjaa
open Go.RowKit
mutual
def cszT : Tm → Int → Int
  | .mk _ _ sub, h => cszL sub (h + 1)
def cszL : List Tm → Int → Int
  | [], h => h
  | t :: ts, h => if 8192 < h then h else cszL ts (cszT t h)
end
theorem cszL_big (ts : List Tm) (h : Int) (hb : 8192 < h) : cszL ts h = h := by
  cases ts with
  | nil => rfl
  | cons t ts => simp only [cszL]; rw [if_pos hb]
theorem csz_bd : ∀ (t : Tm) (h : Int), 0 ≤ h → h ≤ 8192 → h + 1 ≤ cszT t h ∧ cszT t h ≤ 8193 := by
  refine Tm.ind ?_
  intro k n sub ih h h0 h1
  have : ∀ (l : List Tm), (∀ s ∈ l, ∀ (h : Int), 0 ≤ h → h ≤ 8192 → h + 1 ≤ cszT s h ∧ cszT s h ≤ 8193) → ∀ h : Int, 0 ≤ h → h ≤ 8193 → h ≤ cszL l h ∧ cszL l h ≤ 8193 := by
    intro l
    induction l with
    | nil => intro _ h h0 h1; simp only [cszL]; omega
    | cons t ts iht =>
      intro hl h h0 h1
      simp only [cszL]
      by_cases hb : 8192 < h
      · rw [if_pos hb]; omega
      · rw [if_neg hb]
        have h3 := hl t (by simp) h h0 (by omega)
        have h4 := iht (fun s hs => hl s (by simp [hs])) (cszT t h) (by omega) h3.2
        omega
  simp only [cszT]
  have := this sub ih (h + 1) (by omega) (by omega)
  omega
mutual
def ceqT : Tm → Tm → Bool
  | .mk k n s, .mk k' n' s' => (k == k') && (n == n') && ceqL s s'
def ceqL : List Tm → List Tm → Bool
  | [], [] => true
  | t :: ts, t' :: ts' => ceqT t t' && ceqL ts ts'
  | _, _ => false
end
theorem ceqL_length : ∀ {a b : List Tm}, ceqL a b = true → a.length = b.length := by
  intro a
  induction a with
  | nil => intro b h; cases b <;> simp_all [ceqL]
  | cons t ts ih => intro b h; cases b with
    | nil => simp [ceqL] at h
    | cons t' ts' => simp only [ceqL, Bool.and_eq_true] at h; simp [ih h.2]
theorem eqT_iff : ∀ (a b : Tm), ceqT a b = true ↔ a = b := by
  refine Tm.ind ?_
  intro k n sub ih b
  cases b with
  | mk k' n' sub' =>
    simp only [ceqT, Bool.and_eq_true, beq_iff_eq, Tm.mk.injEq]
    have : ∀ (l l' : List Tm), (∀ s ∈ l, ∀ b, ceqT s b = true ↔ s = b) → (ceqL l l' = true ↔ l = l') := by
      intro l
      induction l with
      | nil => intro l' _; cases l' <;> simp [ceqL]
      | cons t ts iht =>
        intro l' hl
        cases l' with
        | nil => simp [ceqL]
        | cons t' ts' =>
          simp only [ceqL, Bool.and_eq_true, List.cons.injEq]
          rw [hl t (by simp), iht ts' (fun s hs => hl s (by simp [hs]))]
    rw [this sub sub' ih]
    constructor
    · rintro ⟨⟨h1, h2⟩, h3⟩; exact ⟨h1, h2, h3⟩
    · rintro ⟨h1, h2, h3⟩; exact ⟨⟨h1, h2⟩, h3⟩
def subsOf (k : Int) : Int := if k = 3 ∨ k = 4 ∨ k = 5 then 2 else if k = 7 then 1 else 0
def mostOf (k : Int) : Int := if k = 2 then 7 else if k = 3 ∨ k = 4 ∨ k = 5 then 0 else 1048576
def fst0 (l : List Tm) : Int := match l with | [] => 0 | t :: _ => t.kind
def cheadB (t : Tm) : Bool := decide (1 ≤ t.kind ∧ t.kind ≤ 8 ∧ (t.sub.length : Int) = subsOf t.kind ∧ 0 ≤ t.num ∧ t.num ≤ mostOf t.kind ∧ (t.kind ≠ 7 ∨ fst0 t.sub = 2))
mutual
def goodB : Tm → Bool
  | .mk k n sub => cheadB (.mk k n sub) && cgoodL sub
def cgoodL : List Tm → Bool
  | [] => true
  | t :: ts => goodB t && cgoodL ts
end
mutual
def cdpT : Tm → Int → Int
  | .mk _ _ sub, h => if 128 < h then h else cdpL sub h h
def cdpL : List Tm → Int → Int → Int
  | [], _, m => m
  | t :: ts, h, m => cdpL ts h (max m (cdpT t (h + 1)))
end
def csizeT (t : Tm) : Int := cszT t 0
def cdepthT (t : Tm) : Int := if 8192 < csizeT t then 129 else cdpT t 1
def shapedB (t : Tm) : Bool := decide (cdepthT t ≤ 128) && goodB t
theorem cdp_bd : ∀ (t : Tm) (h : Int), h ≤ 129 → h ≤ cdpT t h ∧ cdpT t h ≤ 129 := by
  refine Tm.ind ?_
  intro k n sub ih h h1
  have : ∀ (l : List Tm), (∀ s ∈ l, ∀ (h : Int), h ≤ 129 → h ≤ cdpT s h ∧ cdpT s h ≤ 129) → ∀ h m : Int, h ≤ 128 → m ≤ 129 → m ≤ cdpL l h m ∧ cdpL l h m ≤ 129 := by
    intro l
    induction l with
    | nil => intro _ h m _ _; simp only [cdpL]; omega
    | cons t ts iht =>
      intro hl h m h1 h2
      simp only [cdpL]
      have h3 := hl t (by simp) (h + 1) (by omega)
      have h4 := iht (fun s hs => hl s (by simp [hs])) h (max m (cdpT t (h + 1))) h1 (by omega)
      omega
  simp only [cdpT]
  by_cases hb : 128 < h
  · rw [if_pos hb]; omega
  · rw [if_neg hb]; exact this sub ih h h (by omega) h1
theorem cmax_if (g x : Int) : max g x = if g < x then x else g := by split <;> omega
def csameB (t u : Tm) : Bool := shapedB t && shapedB u && ceqT t u
mutual
def cndT : Tm → Nat
  | .mk _ _ sub => cndL sub + 1
def cndL : List Tm → Nat
  | [] => 0
  | t :: ts => cndT t + cndL ts
end
theorem cndL_append (a b : List Tm) : cndL (a ++ b) = cndL a + cndL b := by
  induction a with
  | nil => simp [cndL]
  | cons t ts ih => simp only [List.cons_append, cndL, ih]; omega
theorem cndT_pos (t : Tm) : 1 ≤ cndT t := by cases t; simp only [cndT]; omega
theorem cndL_len (a : List Tm) : a.length ≤ cndL a := by
  induction a with
  | nil => simp [cndL]
  | cons t ts ih => simp only [cndL, List.length_cons]; have := cndT_pos t; omega
theorem csz_nd : ∀ (t : Tm) (h : Int), 0 ≤ h → h ≤ 8192 → cszT t h = min (h + cndT t) 8193 := by
  refine Tm.ind ?_
  intro k n sub ih h h0 h1
  have : ∀ (l : List Tm), (∀ s ∈ l, ∀ (h : Int), 0 ≤ h → h ≤ 8192 → cszT s h = min (h + cndT s) 8193) → ∀ h : Int, 0 ≤ h → h ≤ 8193 → cszL l h = min (h + cndL l) 8193 := by
    intro l
    induction l with
    | nil => intro _ h h0 h1; simp only [cszL, cndL]; omega
    | cons t ts iht =>
      intro hl h h0 h1
      simp only [cszL, cndL]
      have hp := cndT_pos t
      by_cases hb : 8192 < h
      · rw [if_pos hb]; omega
      · rw [if_neg hb, hl t (by simp) h h0 (by omega), iht (fun s hs => hl s (by simp [hs])) _ (by omega) (by omega)]
        omega
  simp only [cszT, cndT]
  rw [this sub ih (h + 1) (by omega) (by omega)]; omega
mutual
def chgT : Tm → Nat
  | .mk _ _ sub => chgL sub + 1
def chgL : List Tm → Nat
  | [] => 0
  | t :: ts => max (chgT t) (chgL ts)
end
theorem cdp_hg : ∀ (t : Tm) (h : Int), 0 ≤ h → h ≤ 129 → cdpT t h = min (h + chgT t - 1) 129 := by
  refine Tm.ind ?_
  intro k n sub ih h h0 h1
  have : ∀ (l : List Tm), (∀ s ∈ l, ∀ (h : Int), 0 ≤ h → h ≤ 129 → cdpT s h = min (h + chgT s - 1) 129) → ∀ h m : Int, 0 ≤ h → h ≤ 128 → h ≤ m → cdpL l h m = max m (min (h + chgL l) 129) := by
    intro l
    induction l with
    | nil => intro _ h m _ _ _; simp only [cdpL, chgL]; omega
    | cons t ts iht =>
      intro hl h m h0 h1 h2
      simp only [cdpL, chgL]
      rw [hl t (by simp) (h + 1) (by omega) (by omega), iht (fun s hs => hl s (by simp [hs])) h _ h0 h1 (by omega)]
      omega
  simp only [cdpT, chgT]
  by_cases hb : 128 < h
  · rw [if_pos hb]; omega
  · rw [if_neg hb, this sub ih h h h0 (by omega) (Int.le_refl _)]; omega
theorem chgL_append (a b : List Tm) : chgL (a ++ b) = max (chgL a) (chgL b) := by
  induction a with
  | nil => simp [chgL]
  | cons t ts ih => simp only [List.cons_append, chgL, ih]; omega
/-- the next level -/
def clvl (ts : List Tm) : List Tm := ts.flatMap Tm.sub
theorem cnd_sub (t : Tm) : cndT t = cndL t.sub + 1 := by cases t; simp only [cndT, Tm.sub]
theorem chg_sub (t : Tm) : chgT t = chgL t.sub + 1 := by cases t; simp only [chgT, Tm.sub]
theorem clvl_nd (ts : List Tm) : cndL (clvl ts) ≤ cndL ts := by
  unfold clvl
  induction ts with
  | nil => simp
  | cons t ts ih => rw [List.flatMap_cons, cndL_append]; simp only [cndL]; rw [cnd_sub t]; omega
theorem clvl_hg (ts : List Tm) (h : ts ≠ []) : chgL ts = chgL (clvl ts) + 1 := by
  unfold clvl
  induction ts with
  | nil => exact absurd rfl h
  | cons t ts ih =>
    rw [List.flatMap_cons, chgL_append]; simp only [chgL]; rw [chg_sub t]
    by_cases he : ts = []
    · subst he; simp [chgL]
    · rw [ih he]; omega
theorem clvl_take (ts : List Tm) (k : Nat) (h : k < ts.length) : clvl (ts.take (k + 1)) = clvl (ts.take k) ++ ts[k].sub := by
  unfold clvl; rw [List.take_succ_eq_append_getElem h]; simp only [List.flatMap_append, List.flatMap_cons, List.flatMap_nil, List.append_nil]
theorem cndL_take (ts : List Tm) (k : Nat) : cndL (ts.take k) ≤ cndL ts := by
  have := cndL_append (ts.take k) (ts.drop k)
  rw [List.take_append_drop] at this; omega
/-- how many binders more stand above a Sub -/
def undB (k : Int) (i : Int) : Int := if i = 1 ∧ (k = 3 ∨ k = 4) then 1 else 0
mutual
def lsT : Tm → Int → Int
  | .mk k n sub, b => if k = 1 then max 0 (n + 1 - b) else lsL k sub 0 b 0
def lsL : Int → List Tm → Nat → Int → Int → Int
  | _, [], _, _, m => m
  | k, t :: ts, i, b, m => lsL k ts (i + 1) b (max m (lsT t (b + undB k i)))
end
theorem und_bd (k i : Int) : 0 ≤ undB k i ∧ undB k i ≤ 1 := by unfold undB; split <;> omega
theorem mostOf_le (k : Int) : mostOf k ≤ 1048576 := by unfold mostOf; (repeat' split) <;> omega
theorem head_num {k n : Int} {sub : List Tm} (h : cheadB (.mk k n sub) = true) : 1 ≤ k ∧ k ≤ 8 ∧ 0 ≤ n ∧ n ≤ 1048576 ∧ (sub.length : Int) = subsOf k := by
  have := of_decide_eq_true h
  simp only [Tm.kind, Tm.num, Tm.sub] at this
  have := mostOf_le k
  omega
theorem cgoodL_mem {l : List Tm} (h : cgoodL l = true) : ∀ s ∈ l, goodB s = true := by
  induction l with
  | nil => intro s hs; cases hs
  | cons t ts ih =>
    simp only [cgoodL, Bool.and_eq_true] at h
    intro s hs
    cases hs with
    | head => exact h.1
    | tail _ hm => exact ih h.2 s hm
theorem good_parts {k n : Int} {sub : List Tm} (h : goodB (.mk k n sub) = true) : cheadB (.mk k n sub) = true ∧ ∀ s ∈ sub, goodB s = true := by
  simp only [goodB, Bool.and_eq_true] at h
  exact ⟨h.1, cgoodL_mem h.2⟩
theorem hgL_mem {l : List Tm} : ∀ s ∈ l, chgT s ≤ chgL l := by
  induction l with
  | nil => intro s hs; cases hs
  | cons t ts ih =>
    intro s hs
    simp only [chgL]
    cases hs with
    | head => omega
    | tail _ hm => have := ih s hm; omega
theorem ls_bd : ∀ (t : Tm) (b : Int), goodB t = true → 0 ≤ b → 0 ≤ lsT t b ∧ lsT t b ≤ 1048577 := by
  refine Tm.ind ?_
  intro k n sub ih b hg hb
  obtain ⟨hh, hs⟩ := good_parts hg
  have hn := head_num hh
  have : ∀ (l : List Tm), (∀ s ∈ l, ∀ b : Int, goodB s = true → 0 ≤ b → 0 ≤ lsT s b ∧ lsT s b ≤ 1048577) → (∀ s ∈ l, goodB s = true) → ∀ (i : Nat) (m : Int), 0 ≤ m → m ≤ 1048577 → 0 ≤ lsL k l i b m ∧ lsL k l i b m ≤ 1048577 := by
    intro l
    induction l with
    | nil => intro _ _ i m h0 h1; simp only [lsL]; omega
    | cons t ts iht =>
      intro h1 h2 i m h3 h4
      simp only [lsL]
      have hu := und_bd k i
      have h5 := h1 t (by simp) (b + undB k i) (h2 t (by simp)) (by omega)
      exact iht (fun s hs => h1 s (by simp [hs])) (fun s hs => h2 s (by simp [hs])) (i + 1) _ (by omega) (by omega)
  simp only [lsT]
  split
  · omega
  · exact this sub ih hs 0 0 (by omega) (by omega)
/-- what is shaped is not deep -/
theorem shaped_hg {t : Tm} (h : shapedB t = true) : goodB t = true ∧ chgT t ≤ 128 ∧ cndT t ≤ 8192 := by
  unfold shapedB at h
  rw [Bool.and_eq_true, decide_eq_true_iff] at h
  refine ⟨h.2, ?_, ?_⟩
  · have h1 := h.1
    unfold cdepthT at h1
    split at h1
    · omega
    · have := cdp_hg t 1 (by omega) (by omega); omega
  · have h1 := h.1
    unfold cdepthT at h1
    split at h1
    · omega
    · rename_i h2
      have := csz_nd t 0 (by omega) (by omega)
      unfold csizeT at h2; omega
def looseT (t : Tm) : Int := if shapedB t = true then lsT t 0 else 0
end Go.Proofs.Ytfnfbbmegdkhjaa

namespace Go.Proofs.Ytfnfbbmegdkhjaa
open Go Go.Lib Go.RowKit
def putL : List Int → Int → List Int
  | [], n => [n]
  | x :: xs, n => if x < n then x :: putL xs n else if n < x then n :: x :: xs else x :: xs
mutual
/-- the numbers of all nodes of two kinds, rising -/
def nmT (a b : Int) : Tm → List Int
  | .mk k n sub => nmS a b sub (if k = a ∨ k = b then [n] else [])
def nmS (a b : Int) : List Tm → List Int → List Int
  | [], out => out
  | t :: ts, out => nmS a b ts ((nmT a b t).foldl putL out)
end
theorem putL_len (n : Int) : ∀ l : List Int, (putL l n).length ≤ l.length + 1
  | [] => by simp [putL]
  | x :: xs => by
    have := putL_len n xs
    simp only [putL]
    split
    · simp; omega
    · split <;> simp
theorem putL_mem (n y : Int) : ∀ l : List Int, y ∈ putL l n ↔ y = n ∨ y ∈ l
  | [] => by simp [putL]
  | x :: xs => by
    have := putL_mem n y xs
    simp only [putL]
    split
    · simp only [List.mem_cons, this]
      constructor
      · rintro (h | h | h)
        · exact .inr (.inl h)
        · exact .inl h
        · exact .inr (.inr h)
      · rintro (h | h | h)
        · exact .inr (.inl h)
        · exact .inl h
        · exact .inr (.inr h)
    · split
      · simp only [List.mem_cons]
      · have : x = n := by omega
        subst this
        simp only [List.mem_cons]
        constructor
        · exact fun h => .inr h
        · rintro (h | h)
          · exact .inl h
          · exact h
theorem fold_len : ∀ (l out : List Int), (l.foldl putL out).length ≤ out.length + l.length := by
  intro l
  induction l with
  | nil => intro out; simp
  | cons x xs ih =>
    intro out
    have h1 := ih (putL out x)
    have h2 := putL_len x out
    simp only [List.foldl_cons, List.length_cons]
    omega
theorem fold_mem (y : Int) : ∀ (l out : List Int), y ∈ l.foldl putL out ↔ y ∈ out ∨ y ∈ l := by
  intro l
  induction l with
  | nil => intro out; simp
  | cons x xs ih =>
    intro out
    simp only [List.foldl_cons, ih, putL_mem, List.mem_cons]
    constructor
    · rintro ((h | h) | h)
      · exact .inr (.inl h)
      · exact .inl h
      · exact .inr (.inr h)
    · rintro (h | h | h)
      · exact .inl (.inr h)
      · exact .inl (.inl h)
      · exact .inr h
theorem nm_len (a b : Int) : ∀ t : Tm, (nmT a b t).length ≤ cndT t := by
  refine Tm.ind ?_
  intro k n sub ih
  have : ∀ (l : List Tm), (∀ s ∈ l, (nmT a b s).length ≤ cndT s) → ∀ out, (nmS a b l out).length ≤ out.length + cndL l := by
    intro l
    induction l with
    | nil => intro _ out; simp only [nmS]; omega
    | cons t ts iht =>
      intro hl out
      have h1 := iht (fun s hs => hl s (by simp [hs])) ((nmT a b t).foldl putL out)
      have h2 := fold_len (nmT a b t) out
      have h3 := hl t (by simp)
      simp only [nmS, cndL]
      omega
  have h := this sub ih (if k = a ∨ k = b then [n] else [])
  have h2 : (if k = a ∨ k = b then [n] else []).length ≤ 1 := by split <;> simp
  simp only [nmT, cndT]
  omega
theorem asc_ext : ∀ (l m : List Int), l.Pairwise (· < ·) → m.Pairwise (· < ·) → (∀ y, y ∈ l ↔ y ∈ m) → l = m
  | [], [], _, _, _ => rfl
  | [], y :: m, _, _, h => absurd ((h y).2 (by simp)) (by simp)
  | x :: l, [], _, _, h => absurd ((h x).1 (by simp)) (by simp)
  | x :: l, y :: m, hl, hm, h => by
    rw [List.pairwise_cons] at hl hm
    have hxy : x = y := by
      have h1 := (h x).1 (by simp)
      have h2 := (h y).2 (by simp)
      simp only [List.mem_cons] at h1 h2
      rcases h1 with h1 | h1
      · exact h1
      · rcases h2 with h2 | h2
        · exact h2.symm
        · have h3 := hm.1 x h1; have h4 := hl.1 y h2; omega
    subst hxy
    congr 1
    refine asc_ext l m hl.2 hm.2 fun z => ?_
    have hz := h z
    simp only [List.mem_cons] at hz
    constructor
    · intro hzl
      have h3 := hl.1 z hzl
      rcases hz.1 (.inr hzl) with h | h
      · omega
      · exact h
    · intro hzl
      have h3 := hm.1 z hzl
      rcases hz.2 (.inr hzl) with h | h
      · omega
      · exact h
theorem compact_inv (d : Array Int) (hd : ∀ i, i + 1 < d.size → d[i]! ≤ d[i + 1]!) : ∀ m, m ≤ d.size →
    (compactUpTo d m).Pairwise (· < ·) ∧ (∀ y, y ∈ compactUpTo d m ↔ ∃ j, j < m ∧ y = d[j]!) ∧ ∀ y ∈ compactUpTo d m, 0 < m ∧ y ≤ d[m - 1]!
  | 0, _ => by
    have e : compactUpTo d 0 = [] := by simp [compactUpTo]
    rw [e]
    refine ⟨List.Pairwise.nil, fun y => ⟨fun h => (by simp at h), ?_⟩, fun y h => (by simp at h)⟩
    rintro ⟨j, hj, _⟩; omega
  | m + 1, hm => by
    obtain ⟨h1, h2, h3⟩ := compact_inv d hd m (by omega)
    rw [compactUpTo_succ]
    by_cases hk : keeps d m = true
    · rw [if_pos hk]
      have hlt : ∀ y ∈ compactUpTo d m, y < d[m]! := by
        intro y hy
        obtain ⟨hm0, hle⟩ := h3 y hy
        have h4 := hd (m - 1) (by omega)
        rw [show m - 1 + 1 = m by omega] at h4
        unfold keeps at hk
        rw [decide_eq_true_iff] at hk
        rcases hk with hk | hk
        · omega
        · have h5 : d[m]! ≠ d[m - 1]! := hk
          omega
      refine ⟨?_, ?_, ?_⟩
      · rw [List.pairwise_append]
        refine ⟨h1, List.pairwise_singleton _ _, ?_⟩
        intro a ha b hb
        simp at hb
        rw [hb]; simpa using hlt a ha
      · intro y
        rw [List.mem_append, h2 y]
        simp only [List.mem_singleton]
        constructor
        · rintro (⟨j, hj, e⟩ | e)
          · exact ⟨j, by omega, e⟩
          · exact ⟨m, by omega, e⟩
        · rintro ⟨j, hj, e⟩
          by_cases hjm : j = m
          · subst hjm; exact .inr e
          · exact .inl ⟨j, by omega, e⟩
      · intro y hy
        rw [List.mem_append] at hy
        refine ⟨by omega, ?_⟩
        simp only [Nat.add_sub_cancel]
        rcases hy with hy | hy
        · have := hlt y hy; omega
        · simp at hy; rw [hy]; simp
    · rw [if_neg hk, List.append_nil]
      have hk' : m ≠ 0 ∧ d[m]! = d[m - 1]! := by
        unfold keeps at hk
        rw [decide_eq_true_iff] at hk
        constructor
        · exact fun e => hk (.inl e)
        · exact Classical.byContradiction fun e => hk (.inr e)
      refine ⟨h1, ?_, ?_⟩
      · intro y
        rw [h2 y]
        constructor
        · rintro ⟨j, hj, e⟩; exact ⟨j, by omega, e⟩
        · rintro ⟨j, hj, e⟩
          by_cases hjm : j = m
          · subst hjm; exact ⟨j - 1, by omega, by rw [e, hk'.2]⟩
          · exact ⟨j, by omega, e⟩
      · intro y hy
        obtain ⟨_, h4⟩ := h3 y hy
        refine ⟨by omega, ?_⟩
        simp only [Nat.add_sub_cancel]
        rw [hk'.2]; exact h4
/-- the elements, rising, each once -/
theorem rise_asc (l : List Int) : (compact (l.mergeSort fun x y => decide (x ≤ y))).Pairwise (· < ·) ∧ ∀ y, y ∈ compact (l.mergeSort fun x y => decide (x ≤ y)) ↔ y ∈ l := by
  have hs := List.pairwise_mergeSort (le := fun x y : Int => decide (x ≤ y)) (by intro a b c h1 h2; simp at *; omega) (by intro a b; simp; omega) l
  generalize hS : l.mergeSort (fun x y => decide (x ≤ y)) = S at *
  have hmem : ∀ y, y ∈ S ↔ y ∈ l := fun y => by rw [← hS]; exact List.mem_mergeSort
  have hd : ∀ i, i + 1 < S.toArray.size → S.toArray[i]! ≤ S.toArray[i + 1]! := by
    intro i hi
    have hi' : i + 1 < S.length := by simpa using hi
    rw [List.pairwise_iff_getElem] at hs
    have := hs i (i + 1) (by omega) hi' (by omega)
    simp at this
    simp [getElem!_pos, hi', show i < S.length by omega]
    exact this
  obtain ⟨h1, h2, -⟩ := compact_inv S.toArray hd S.length (by simp)
  refine ⟨h1, fun y => ?_⟩
  show y ∈ compactUpTo _ _ ↔ _
  rw [h2 y, ← hmem y, List.mem_iff_getElem]
  constructor
  · rintro ⟨j, hj, e⟩
    exact ⟨j, hj, by rw [e]; simp [hj]⟩
  · rintro ⟨j, hj, e⟩
    exact ⟨j, hj, by rw [← e]; simp [hj]⟩
theorem putL_asc (n : Int) : ∀ l : List Int, l.Pairwise (· < ·) → (putL l n).Pairwise (· < ·)
  | [], _ => List.pairwise_singleton _ _
  | x :: xs, h => by
    rw [List.pairwise_cons] at h
    simp only [putL]
    split
    · rename_i hx
      rw [List.pairwise_cons]
      refine ⟨fun y hy => ?_, putL_asc n xs h.2⟩
      rw [putL_mem] at hy
      rcases hy with rfl | hy
      · exact hx
      · exact h.1 y hy
    · split
      · rename_i hx
        rw [List.pairwise_cons]
        refine ⟨fun y hy => ?_, List.pairwise_cons.2 h⟩
        cases hy with
        | head => exact hx
        | tail _ hy => have := h.1 y hy; omega
      · exact List.pairwise_cons.2 h
theorem fold_asc : ∀ (l out : List Int), out.Pairwise (· < ·) → (l.foldl putL out).Pairwise (· < ·)
  | [], _, h => h
  | x :: xs, out, h => fold_asc xs (putL out x) (putL_asc x out h)
mutual
/-- the numbers of all nodes of two kinds -/
def clT (a b : Int) : Tm → List Int
  | .mk k n sub => (if k = a ∨ k = b then [n] else []) ++ clS a b sub
def clS (a b : Int) : List Tm → List Int
  | [] => []
  | t :: ts => clT a b t ++ clS a b ts
end
theorem clS_append (a b : Int) : ∀ l m : List Tm, clS a b (l ++ m) = clS a b l ++ clS a b m
  | [], _ => rfl
  | t :: l, m => by simp only [List.cons_append, clS, clS_append a b l m, List.append_assoc]
theorem cl_len (a b : Int) : ∀ t : Tm, (clT a b t).length ≤ cndT t := by
  refine Tm.ind ?_
  intro k n sub ih
  have : ∀ (l : List Tm), (∀ s ∈ l, (clT a b s).length ≤ cndT s) → (clS a b l).length ≤ cndL l := by
    intro l
    induction l with
    | nil => intro _; simp [clS, cndL]
    | cons t ts iht =>
      intro hl
      have h1 := iht (fun s hs => hl s (by simp [hs]))
      have h3 := hl t (by simp)
      simp only [clS, cndL, List.length_append]
      omega
  have h := this sub ih
  have h2 : (if k = a ∨ k = b then [n] else []).length ≤ 1 := by split <;> simp
  simp only [clT, cndT, List.length_append]
  omega
theorem nm_cl (a b y : Int) : ∀ t : Tm, (y ∈ nmT a b t ↔ y ∈ clT a b t) := by
  refine Tm.ind ?_
  intro k n sub ih
  have : ∀ (l : List Tm), (∀ s ∈ l, (y ∈ nmT a b s ↔ y ∈ clT a b s)) → ∀ out, (y ∈ nmS a b l out ↔ y ∈ out ∨ y ∈ clS a b l) := by
    intro l
    induction l with
    | nil => intro _ out; simp [nmS, clS]
    | cons t ts iht =>
      intro hl out
      simp only [nmS, clS, List.mem_append]
      rw [iht (fun s hs => hl s (by simp [hs])), fold_mem, hl t (by simp)]
      exact or_assoc
  simp only [nmT, clT, List.mem_append]
  exact this sub ih _
theorem nm_asc (a b : Int) : ∀ t : Tm, (nmT a b t).Pairwise (· < ·)
  | .mk k n sub => by
    have : ∀ (l : List Tm) (out : List Int), out.Pairwise (· < ·) → (nmS a b l out).Pairwise (· < ·) := by
      intro l
      induction l with
      | nil => intro out h; simpa only [nmS] using h
      | cons t ts iht => intro out h; simp only [nmS]; exact iht _ (fold_asc _ _ h)
    simp only [nmT]
    refine this sub _ ?_
    split
    · exact List.pairwise_singleton _ _
    · exact List.Pairwise.nil
/-- the program's numbers are the document's -/
theorem rise_nm (a b : Int) (t : Tm) : compact ((clT a b t).mergeSort fun x y => decide (x ≤ y)) = nmT a b t := by
  obtain ⟨h1, h2⟩ := rise_asc (clT a b t)
  exact asc_ext _ _ h1 (nm_asc a b t) fun y => by rw [h2 y, nm_cl]
def enT (a b : Int) (t : Tm) : List Int := if shapedB t = true then nmT a b t else []
end Go.Proofs.Ytfnfbbmegdkhjaa

namespace Go.Proofs.Ytfnfbbmegdkhjaa
open Go.RowKit
set_option maxRecDepth 100000
theorem wr64 {n : Int} (h0 : -9223372036854775808 ≤ n) (h1 : n ≤ 9223372036854775807) : IntKind.i64.wrap n = n := IntWalk.i64_in _ (by omega)
set_option maxHeartbeats 4000000 in
theorem tsize_p : ∀ (t : Tm) (h : Int), 0 ≤ h → h ≤ 8192 → PCalls Try.prog 159 [aggD t, .d (.v (.int .i64 h))] [] fun p s => p = .d (.v (.int .i64 (cszT t h))) ∧ s = [] := by
  refine Tm.ind ?_
  intro k n sub ih h h0 h1
  have hw := wr64 (n := h + 1) (by omega) (by omega)
  have HR := Lib.hid (show cszT (.mk k n sub) h = cszL sub (h + 1) by simp only [cszT])
  generalize cszT (.mk k n sub) h = R at *
  simp only [aggD, encD_tm, List.map_cons, List.map_nil, Tm.kind_mk, Tm.num_mk, Tm.sub_mk]
  have IH := Lib.hid ih
  clear ih
  refine PCalls.enter Try.func159 rfl Try.ntmps159 (by simp) ?_
  simp only [argsF]
  refine go_ ?_
  refine POps_box_a ?_
  intro i0 hi0
  try simp only [St.freshB_box, St.freshB_nil, St.freshB_tok, St.freshB_obj] at hi0
  refine go_ ?_
  refine PW_slen (t := 10) (rows := sub.map encD) (by simp [PF.get] <;> rfl) rfl fun hl => ?_
  rw [List.length_map] at hl
  refine PW_loop (ι := Nat × Int) (fun y => y.1 ≤ sub.length ∧ 0 ≤ y.2 ∧ y.2 ≤ 8193 ∧ Hid (R = cszL (sub.drop y.1) y.2)) (fun y => [(1, .d (.v (.int .i64 y.2))), (10, .d (.sl (sub.map encD))), (11, .d (.v (.int .i64 sub.length))), (12, .d (.v (.int .i64 (y.1 : Int))))]) (fun _ => []) (fun y => sub.length - y.1) (0, h + 1) ⟨Nat.zero_le _, by simp only; omega, by simp only; omega, HR.out⟩ ?_ ?_ ?_
  · repeat (first | exact sub_nil _ | refine sub_cons (by simp [PF.get]; rfl) (by first | rfl | (simp [*]; done) | fail) ?_)
  · repeat (first | exact List.Sublist.refl _ | exact List.nil_sublist _ | refine List.Sublist.cons_cons _ ?_ | refine List.Sublist.cons _ ?_)
  · rintro ⟨j, x⟩ ⟨hj, hx0, hx1, hR⟩
    simp only at hj hx0 hx1 hR ⊢
    unfold maxLen at hl
    clear h0 h1 hw HR
    by_cases hlt : j < sub.length
    · have hx := get_enc hlt
      have hc : (j : Int) < sub.length := by omega
      have hn : (0 : Int) ≤ j := by omega
      have hin := wr64 (n := (j : Int) + 1) (by omega) (by omega)
      by_cases hb : 8192 < x
      · have hf : Hid (R = x) := by rw [show R = _ from hR.out]; exact cszL_big _ _ hb
        refine go_ ?_
        refine POps_alloc_a ?_
        intro i2 hi2
        try simp only [St.freshB_box, St.freshB_nil, St.freshB_tok, St.freshB_obj] at hi2
        refine go_ ?_
        refine Rc ?_
        refine go_ ?_
        refine retP_ok (by simp) (by simp only [Try.results159]; rfl) (by simp [resP, St.box?, PF.get, loadB, TyK.agg, *]; rfl) (List.nil_sublist _) ?_
        exact ⟨by rw [hf.out]; rfl, rfl⟩
      · have hR2 : Hid (R = cszL (sub.drop (j + 1)) (cszT sub[j] x)) := by
          rw [show R = _ from hR.out, List.drop_eq_getElem_cons hlt]
          show _ = _
          simp only [cszL]
          rw [if_neg hb]
        have hb2 := csz_bd sub[j] x hx0 (by omega)
        have hc1 := Lib.hid (IH.out _ (List.getElem_mem hlt) x hx0 (by omega))
        generalize cszT sub[j] x = x' at *
        refine go_ ?_
        refine POps_alloc_a ?_
        intro i2 hi2
        try simp only [St.freshB_box, St.freshB_nil, St.freshB_tok, St.freshB_obj] at hi2
        refine go_ ?_
        refine Rc ?_
        refine go_ ?_
        refine POps_call_a (hc1.out) ?_
        refine go_ ?_
        exact ⟨(j + 1, x'), ⟨hlt, by omega, by omega, hR2⟩, by simp only; omega, by repeat (first | exact sub_nil _ | refine sub_cons (by simp [PF.get]; rfl) (by first | rfl | (simp [*]; done) | fail) ?_), by repeat (first | exact List.Sublist.refl _ | exact List.nil_sublist _ | refine List.Sublist.cons_cons _ ?_ | refine List.Sublist.cons _ ?_)⟩
    · have hc : ¬ (j : Int) < sub.length := by omega
      have hf : Hid (R = x) := by rw [show R = _ from hR.out, List.drop_of_length_le (by omega)]; rfl
      refine go_ ?_
      refine retP_ok (by simp) (by simp only [Try.results159]; rfl) (by simp [resP, St.box?, PF.get, loadB, TyK.agg, *]; rfl) (List.nil_sublist _) ?_
      exact ⟨by rw [hf.out]; rfl, rfl⟩
theorem tSize_p (t : Tm) : PCalls Try.prog 140 [aggD t] [] fun p s => p = .d (.v (.int .i64 (csizeT t))) ∧ s = [] := by
  have hc := Lib.hid (tsize_p t 0 (by decide) (by decide))
  have HR := Lib.hid (show cszT t 0 = csizeT t from rfl)
  rw [HR.out] at hc
  simp only [aggD, encD_tm, List.map_cons, List.map_nil]
  refine PCalls.enter Try.func140 rfl Try.ntmps140 (by simp) ?_
  simp only [argsF]
  refine go_ ?_
  refine POps_box_a ?_
  intro i0 hi0
  refine go_ ?_
  refine POps_call_a (hc.out) ?_
  refine go_ ?_
  refine retP_ok (by simp) (by simp only [Try.results140]; rfl) (by simp [resP, St.box?, PF.get, loadB, TyK.agg, *]; rfl) (List.nil_sublist _) ?_
  exact ⟨rfl, rfl⟩
set_option maxHeartbeats 4000000 in
theorem tdeep_p : ∀ (t : Tm) (h : Int), 0 ≤ h → h ≤ 129 → PCalls Try.prog 141 [aggD t, .d (.v (.int .i64 h))] [] fun p s => p = .d (.v (.int .i64 (cdpT t h))) ∧ s = [] := by
  refine Tm.ind ?_
  intro k n sub ih h h0 h1
  have hw := wr64 (n := h + 1) (by omega) (by omega)
  have HR := Lib.hid (show cdpT (.mk k n sub) h = if 128 < h then h else cdpL sub h h by simp only [cdpT])
  generalize cdpT (.mk k n sub) h = R at *
  simp only [aggD, encD_tm, List.map_cons, List.map_nil, Tm.kind_mk, Tm.num_mk, Tm.sub_mk]
  have IH := Lib.hid ih
  clear ih
  by_cases hb : 128 < h
  · have hf : Hid (R = h) := by rw [show R = _ from HR.out, if_pos hb]; rfl
    refine PCalls.enter Try.func141 rfl Try.ntmps141 (by simp) ?_
    simp only [argsF]
    refine go_ ?_
    refine POps_box_a ?_
    intro i0 hi0
    try simp only [St.freshB_box, St.freshB_nil, St.freshB_tok, St.freshB_obj] at hi0
    refine go_ ?_
    refine retP_ok (by simp) (by simp only [Try.results141]; rfl) (by simp [resP, St.box?, PF.get, loadB, TyK.agg, *]; rfl) (List.nil_sublist _) ?_
    exact ⟨by rw [hf.out]; rfl, rfl⟩
  · have HR2 : Hid (R = cdpL sub h h) := by rw [show R = _ from HR.out, if_neg hb]; rfl
    refine PCalls.enter Try.func141 rfl Try.ntmps141 (by simp) ?_
    simp only [argsF]
    refine go_ ?_
    refine POps_box_a ?_
    intro i0 hi0
    try simp only [St.freshB_box, St.freshB_nil, St.freshB_tok, St.freshB_obj] at hi0
    refine go_ ?_
    refine PW_slen (t := 13) (rows := sub.map encD) (by simp [PF.get] <;> rfl) rfl fun hl => ?_
    rw [List.length_map] at hl
    refine PW_loop (ι := Nat × Int) (fun y => y.1 ≤ sub.length ∧ 0 ≤ y.2 ∧ y.2 ≤ 129 ∧ Hid (R = cdpL (sub.drop y.1) h y.2)) (fun y => [(1, .d (.v (.int .i64 h))), (5, .d (.v (.int .i64 y.2))), (13, .d (.sl (sub.map encD))), (14, .d (.v (.int .i64 sub.length))), (15, .d (.v (.int .i64 (y.1 : Int))))]) (fun _ => []) (fun y => sub.length - y.1) (0, h) ⟨Nat.zero_le _, by simp only; omega, by simp only; omega, HR2.out⟩ ?_ ?_ ?_
    · repeat (first | exact sub_nil _ | refine sub_cons (by simp [PF.get]; rfl) (by first | rfl | (simp [*]; done) | fail) ?_)
    · repeat (first | exact List.Sublist.refl _ | exact List.nil_sublist _ | refine List.Sublist.cons_cons _ ?_ | refine List.Sublist.cons _ ?_)
    · rintro ⟨j, x⟩ ⟨hj, hx0, hx1, hR⟩
      simp only at hj hx0 hx1 hR ⊢
      unfold maxLen at hl
      by_cases hlt : j < sub.length
      · have hx := get_enc hlt
        have hc : (j : Int) < sub.length := by omega
        have hn : (0 : Int) ≤ j := by omega
        have hin := wr64 (n := (j : Int) + 1) (by omega) (by omega)
        have hR2 : Hid (R = cdpL (sub.drop (j + 1)) h (max x (cdpT sub[j] (h + 1)))) := by
          rw [show R = _ from hR.out, List.drop_eq_getElem_cons hlt]
          show _ = _
          simp only [cdpL]
        have hb2 := cdp_bd sub[j] (h + 1) (by omega)
        have hc1 := Lib.hid (IH.out _ (List.getElem_mem hlt) (h + 1) (by omega) (by omega))
        generalize cdpT sub[j] (h + 1) = x' at *
        have hmx : 0 ≤ max x x' ∧ max x x' ≤ 129 := by omega
        refine go_ ?_
        refine POps_alloc_a ?_
        intro i2 hi2
        try simp only [St.freshB_box, St.freshB_nil, St.freshB_tok, St.freshB_obj] at hi2
        refine go_ ?_
        refine Rc ?_
        refine go_ ?_
        refine POps_call_a (hc1.out) ?_
        refine go_ ?_
        refine POps_max (max x x') (cmax_if x x').symm ?_
        refine go_ ?_
        exact ⟨(j + 1, max x x'), ⟨hlt, hmx.1, hmx.2, hR2⟩, by simp only; omega, by repeat (first | exact sub_nil _ | refine sub_cons (by simp [PF.get]; rfl) (by first | rfl | (simp [*]; done) | fail) ?_), by repeat (first | exact List.Sublist.refl _ | exact List.nil_sublist _ | refine List.Sublist.cons_cons _ ?_ | refine List.Sublist.cons _ ?_)⟩
      · have hc : ¬ (j : Int) < sub.length := by omega
        have hf : Hid (R = x) := by rw [show R = _ from hR.out, List.drop_of_length_le (by omega)]; rfl
        refine go_ ?_
        refine retP_ok (by simp) (by simp only [Try.results141]; rfl) (by simp [resP, St.box?, PF.get, loadB, TyK.agg, *]; rfl) (List.nil_sublist _) ?_
        exact ⟨by rw [hf.out]; rfl, rfl⟩
set_option maxHeartbeats 4000000 in
theorem tDepth_p (t : Tm) : PCalls Try.prog 113 [aggD t] [] fun p s => p = .d (.v (.int .i64 (cdepthT t))) ∧ s = [] := by
  have hS := Lib.hid (tSize_p t)
  have hD := Lib.hid (tdeep_p t 1 (by decide) (by decide))
  have HR := Lib.hid (show cdepthT t = if 8192 < csizeT t then 129 else cdpT t 1 from rfl)
  generalize csizeT t = z at *
  simp only [aggD, encD_tm, List.map_cons, List.map_nil]
  by_cases hz : 8192 < z
  · rw [HR.out, if_pos hz]
    refine PCalls.enter Try.func113 rfl Try.ntmps113 (by simp) ?_
    simp only [argsF]
    refine go_ ?_
    refine POps_box_a ?_
    intro i0 hi0
    refine go_ ?_
    refine POps_call_a (hS.out) ?_
    refine go_ ?_
    refine retP_ok (by simp) (by simp only [Try.results113]; rfl) (by simp [resP, St.box?, PF.get, loadB, TyK.agg, *]; rfl) (List.nil_sublist _) ?_
    exact ⟨rfl, rfl⟩
  · rw [HR.out, if_neg hz]
    refine PCalls.enter Try.func113 rfl Try.ntmps113 (by simp) ?_
    simp only [argsF]
    refine go_ ?_
    refine POps_box_a ?_
    intro i0 hi0
    refine go_ ?_
    refine POps_call_a (hS.out) ?_
    refine go_ ?_
    refine POps_call_a (hD.out) ?_
    refine go_ ?_
    refine retP_ok (by simp) (by simp only [Try.results113]; rfl) (by simp [resP, St.box?, PF.get, loadB, TyK.agg, *]; rfl) (List.nil_sublist _) ?_
    exact ⟨rfl, rfl⟩
end Go.Proofs.Ytfnfbbmegdkhjaa

namespace Go.Proofs.Ytfnfbbmegdkhjaa
open Go.RowKit
set_option maxRecDepth 100000
theorem head_no {k n : Int} {sub : List Tm} (h : ¬ (1 ≤ k ∧ k ≤ 8 ∧ (sub.length : Int) = subsOf k ∧ 0 ≤ n ∧ n ≤ mostOf k ∧ (k ≠ 7 ∨ fst0 sub = 2))) : cheadB (.mk k n sub) = false := by
  unfold cheadB
  simp only [Tm.kind_mk, Tm.num_mk, Tm.sub_mk]
  exact decide_eq_false h
theorem head_yes {k n : Int} {sub : List Tm} (h : 1 ≤ k ∧ k ≤ 8 ∧ (sub.length : Int) = subsOf k ∧ 0 ≤ n ∧ n ≤ mostOf k ∧ (k ≠ 7 ∨ fst0 sub = 2)) : cheadB (.mk k n sub) = true := by
  unfold cheadB
  simp only [Tm.kind_mk, Tm.num_mk, Tm.sub_mk]
  exact decide_eq_true h
set_option maxHeartbeats 8000000 in
theorem thead_p (t : Tm) : PCalls Try.prog 142 [aggD t] [] fun p s => p = .d (.v (.bool (cheadB t))) ∧ s = [] := by
  obtain ⟨k, n, sub⟩ := t
  simp only [aggD, encD_tm, List.map_cons, List.map_nil, Tm.kind_mk, Tm.num_mk, Tm.sub_mk]
  by_cases h1 : k < 1
  · rw [head_no (by omega)]
    refine PCalls.enter Try.func142 rfl Try.ntmps142 (by simp) ?_
    simp only [argsF]
    refine go_ ?_
    refine POps_box_a ?_
    intro i0 hi0
    refine go_ ?_
    refine retP_ok (by simp) (by simp only [Try.results142]; rfl) (by simp [resP, St.box?, PF.get, loadB, TyK.agg, *]; rfl) (List.nil_sublist _) ?_
    exact ⟨rfl, rfl⟩
  by_cases h8 : 8 < k
  · rw [head_no (by omega)]
    refine PCalls.enter Try.func142 rfl Try.ntmps142 (by simp) ?_
    simp only [argsF]
    refine go_ ?_
    refine POps_box_a ?_
    intro i0 hi0
    refine go_ ?_
    refine retP_ok (by simp) (by simp only [Try.results142]; rfl) (by simp [resP, St.box?, PF.get, loadB, TyK.agg, *]; rfl) (List.nil_sublist _) ?_
    exact ⟨rfl, rfl⟩
  have hk : k = 1 ∨ k = 2 ∨ k = 3 ∨ k = 4 ∨ k = 5 ∨ k = 6 ∨ k = 7 ∨ k = 8 := by omega
  by_cases hl : (sub.length : Int) = subsOf k
  · by_cases h0 : 0 ≤ n
    · by_cases hm : n ≤ mostOf k
      · by_cases h7 : k = 7
        · subst h7
          match sub, show sub.length = 1 by simp [subsOf] at hl; omega with
          | [x], _ =>
          have HR : Hid (cheadB (.mk 7 n [x]) = (x.kind == 2)) := by
            by_cases hx : x.kind = 2
            · rw [head_yes (k := 7) (n := n) (sub := [x]) ⟨by omega, by omega, rfl, h0, hm, .inr hx⟩, hx]; rfl
            · rw [head_no (k := 7) (n := n) (sub := [x]) (fun h => hx (h.2.2.2.2.2.resolve_left (fun h => h rfl)))]
              exact (beq_eq_false_iff_ne.2 hx).symm
          rw [HR.out]
          simp only [mostOf, Int.reduceEq, reduceIte, or_false, or_true, or_self] at hm
          clear HR hl hk h1 h8
          refine PCalls.enter Try.func142 rfl Try.ntmps142 (by simp) ?_
          simp only [argsF]
          refine go_ ?_
          refine POps_box_a ?_
          intro i0 hi0
          refine go_ ?_
          refine retP_ok (by simp) (by simp only [Try.results142]; rfl) (by simp [resP, St.box?, PF.get, loadB, TyK.agg, *]; rfl) (List.nil_sublist _) ?_
          exact ⟨rfl, rfl⟩
        · rw [head_yes ⟨by omega, by omega, hl, h0, hm, .inl h7⟩]
          refine PCalls.enter Try.func142 rfl Try.ntmps142 (by simp) ?_
          simp only [argsF]
          refine go_ ?_
          refine POps_box_a ?_
          intro i0 hi0
          refine go_ ?_
          refine Qq (p := .d (.v (.int .i64 (subsOf k)))) ?_ (he := by (try clear hl); (try clear hl1); (try clear h0); (try clear hm); (try clear h7'); (try clear h7); clear h1 h8; rcases hk with rfl | rfl | rfl | rfl | rfl | rfl | rfl | rfl <;> (simp [subsOf, mostOf, nev, nevA, PF.eval, PF.get, cPV, partA, TyK.agg] <;> rfl))
          refine go_ ?_
          refine Qq (p := .d (.v (.int .i64 (mostOf k)))) ?_ (he := by (try clear hl); (try clear hl1); (try clear h0); (try clear hm); (try clear h7'); (try clear h7); clear h1 h8; rcases hk with rfl | rfl | rfl | rfl | rfl | rfl | rfl | rfl <;> (simp [subsOf, mostOf, nev, nevA, PF.eval, PF.get, cPV, partA, TyK.agg] <;> rfl))
          refine go_ ?_
          refine retP_ok (by simp) (by simp only [Try.results142]; rfl) (by simp [resP, St.box?, PF.get, loadB, TyK.agg, *]; rfl) (List.nil_sublist _) ?_
          exact ⟨rfl, rfl⟩
      · rw [head_no (fun h => hm h.2.2.2.2.1)]
        refine PCalls.enter Try.func142 rfl Try.ntmps142 (by simp) ?_
        simp only [argsF]
        refine go_ ?_
        refine POps_box_a ?_
        intro i0 hi0
        refine go_ ?_
        refine Qq (p := .d (.v (.int .i64 (subsOf k)))) ?_ (he := by (try clear hl); (try clear hl1); (try clear h0); (try clear hm); (try clear h7'); (try clear h7); clear h1 h8; rcases hk with rfl | rfl | rfl | rfl | rfl | rfl | rfl | rfl <;> (simp [subsOf, mostOf, nev, nevA, PF.eval, PF.get, cPV, partA, TyK.agg] <;> rfl))
        refine go_ ?_
        refine Qq (p := .d (.v (.int .i64 (mostOf k)))) ?_ (he := by (try clear hl); (try clear hl1); (try clear h0); (try clear hm); (try clear h7'); (try clear h7); clear h1 h8; rcases hk with rfl | rfl | rfl | rfl | rfl | rfl | rfl | rfl <;> (simp [subsOf, mostOf, nev, nevA, PF.eval, PF.get, cPV, partA, TyK.agg] <;> rfl))
        refine go_ ?_
        refine retP_ok (by simp) (by simp only [Try.results142]; rfl) (by simp [resP, St.box?, PF.get, loadB, TyK.agg, *]; rfl) (List.nil_sublist _) ?_
        exact ⟨rfl, rfl⟩
    · rw [head_no (fun h => h0 h.2.2.2.1)]
      refine PCalls.enter Try.func142 rfl Try.ntmps142 (by simp) ?_
      simp only [argsF]
      refine go_ ?_
      refine POps_box_a ?_
      intro i0 hi0
      refine go_ ?_
      refine Qq (p := .d (.v (.int .i64 (subsOf k)))) ?_ (he := by (try clear hl); (try clear hl1); (try clear h0); (try clear hm); (try clear h7'); (try clear h7); clear h1 h8; rcases hk with rfl | rfl | rfl | rfl | rfl | rfl | rfl | rfl <;> (simp [subsOf, mostOf, nev, nevA, PF.eval, PF.get, cPV, partA, TyK.agg] <;> rfl))
      refine go_ ?_
      refine Qq (p := .d (.v (.int .i64 (mostOf k)))) ?_ (he := by (try clear hl); (try clear hl1); (try clear h0); (try clear hm); (try clear h7'); (try clear h7); clear h1 h8; rcases hk with rfl | rfl | rfl | rfl | rfl | rfl | rfl | rfl <;> (simp [subsOf, mostOf, nev, nevA, PF.eval, PF.get, cPV, partA, TyK.agg] <;> rfl))
      refine go_ ?_
      refine retP_ok (by simp) (by simp only [Try.results142]; rfl) (by simp [resP, St.box?, PF.get, loadB, TyK.agg, *]; rfl) (List.nil_sublist _) ?_
      exact ⟨rfl, rfl⟩
  · rw [head_no (fun h => hl h.2.2.1)]
    refine PCalls.enter Try.func142 rfl Try.ntmps142 (by simp) ?_
    simp only [argsF]
    refine go_ ?_
    refine POps_box_a ?_
    intro i0 hi0
    refine go_ ?_
    refine Qq (p := .d (.v (.int .i64 (subsOf k)))) ?_ (he := by (try clear hl); (try clear hl1); (try clear h0); (try clear hm); (try clear h7'); (try clear h7); clear h1 h8; rcases hk with rfl | rfl | rfl | rfl | rfl | rfl | rfl | rfl <;> (simp [subsOf, mostOf, nev, nevA, PF.eval, PF.get, cPV, partA, TyK.agg] <;> rfl))
    refine go_ ?_
    refine Qq (p := .d (.v (.int .i64 (mostOf k)))) ?_ (he := by (try clear hl); (try clear hl1); (try clear h0); (try clear hm); (try clear h7'); (try clear h7); clear h1 h8; rcases hk with rfl | rfl | rfl | rfl | rfl | rfl | rfl | rfl <;> (simp [subsOf, mostOf, nev, nevA, PF.eval, PF.get, cPV, partA, TyK.agg] <;> rfl))
    refine go_ ?_
    refine retP_ok (by simp) (by simp only [Try.results142]; rfl) (by simp [resP, St.box?, PF.get, loadB, TyK.agg, *]; rfl) (List.nil_sublist _) ?_
    exact ⟨rfl, rfl⟩
set_option maxHeartbeats 4000000 in
theorem tgood_p : ∀ (t : Tm), PCalls Try.prog 114 [aggD t] [] fun p s => p = .d (.v (.bool (goodB t))) ∧ s = [] := by
  refine Tm.ind ?_
  intro k n sub ih
  have HH := Lib.hid (thead_p (.mk k n sub))
  have HR := Lib.hid (show goodB (.mk k n sub) = (cheadB (.mk k n sub) && cgoodL sub) by simp only [goodB])
  generalize goodB (.mk k n sub) = R at *
  generalize cheadB (.mk k n sub) = hb at *
  have hh := HH.out
  simp only [aggD, encD_tm, List.map_cons, List.map_nil, Tm.kind_mk, Tm.num_mk, Tm.sub_mk] at hh ⊢
  clear HH
  have HH := Lib.hid hh
  clear hh
  have IH := Lib.hid ih
  clear ih
  cases hb with
  | false =>
    have hf : Hid (R = false) := by rw [show R = _ from HR.out]; rfl
    refine PCalls.enter Try.func114 rfl Try.ntmps114 (by simp) ?_
    simp only [argsF]
    refine go_ ?_
    refine POps_box_a ?_
    intro i0 hi0
    refine go_ ?_
    refine POps_call_a (HH.out) ?_
    refine go_ ?_
    refine retP_ok (by simp) (by simp only [Try.results114]; rfl) (by simp [resP, St.box?, PF.get, loadB, TyK.agg, *]; rfl) (List.nil_sublist _) ?_
    exact ⟨by rw [hf.out]; rfl, rfl⟩
  | true =>
    have HR2 : Hid (R = cgoodL sub) := by rw [show R = _ from HR.out]; rfl
    refine PCalls.enter Try.func114 rfl Try.ntmps114 (by simp) ?_
    simp only [argsF]
    refine go_ ?_
    refine POps_box_a ?_
    intro i0 hi0
    refine go_ ?_
    refine POps_call_a (HH.out) ?_
    refine go_ ?_
    refine PW_slen (t := 9) (rows := sub.map encD) (by simp [PF.get] <;> rfl) rfl fun hl => ?_
    rw [List.length_map] at hl
    refine PW_loop (ι := Nat) (fun y => y ≤ sub.length ∧ Hid (R = cgoodL (sub.drop y))) (fun y => [(9, .d (.sl (sub.map encD))), (10, .d (.v (.int .i64 sub.length))), (11, .d (.v (.int .i64 (y : Int))))]) (fun _ => []) (fun y => sub.length - y) 0 ⟨Nat.zero_le _, HR2.out⟩ ?_ ?_ ?_
    · repeat (first | exact sub_nil _ | refine sub_cons (by simp [PF.get]; rfl) (by first | rfl | (simp [*]; done) | fail) ?_)
    · repeat (first | exact List.Sublist.refl _ | exact List.nil_sublist _ | refine List.Sublist.cons_cons _ ?_ | refine List.Sublist.cons _ ?_)
    · rintro j ⟨hj, hR⟩
      unfold maxLen at hl
      clear HR HR2
      by_cases hlt : j < sub.length
      · have hx := get_enc hlt
        have hc : (j : Int) < sub.length := by omega
        have hn : (0 : Int) ≤ j := by omega
        have hin := wr64 (n := (j : Int) + 1) (by omega) (by omega)
        have hR2 : Hid (R = (goodB sub[j] && cgoodL (sub.drop (j + 1)))) := by
          rw [show R = _ from hR.out, List.drop_eq_getElem_cons hlt]
          show _ = _
          simp only [cgoodL]
        have hc1 := Lib.hid (IH.out _ (List.getElem_mem hlt))
        clear hR
        generalize goodB sub[j] = b at *
        cases b with
        | false =>
          have hf : Hid (R = false) := by rw [show R = _ from hR2.out]; rfl
          refine go_ ?_
          refine POps_alloc_a ?_
          intro i2 hi2
          try simp only [St.freshB_box, St.freshB_nil, St.freshB_tok, St.freshB_obj] at hi2
          refine go_ ?_
          refine Rc ?_
          refine go_ ?_
          refine POps_call_a (hc1.out) ?_
          refine go_ ?_
          refine retP_ok (by simp) (by simp only [Try.results114]; rfl) (by simp [resP, St.box?, PF.get, loadB, TyK.agg, *]; rfl) (List.nil_sublist _) ?_
          exact ⟨by rw [hf.out]; rfl, rfl⟩
        | true =>
          have hR3 : Hid (R = cgoodL (sub.drop (j + 1))) := by rw [show R = _ from hR2.out]; rfl
          refine go_ ?_
          refine POps_alloc_a ?_
          intro i2 hi2
          try simp only [St.freshB_box, St.freshB_nil, St.freshB_tok, St.freshB_obj] at hi2
          refine go_ ?_
          refine Rc ?_
          refine go_ ?_
          refine POps_call_a (hc1.out) ?_
          refine go_ ?_
          exact ⟨j + 1, ⟨hlt, hR3⟩, by omega, by repeat (first | exact sub_nil _ | refine sub_cons (by simp [PF.get]; rfl) (by first | rfl | (simp [*]; done) | fail) ?_), by repeat (first | exact List.Sublist.refl _ | exact List.nil_sublist _ | refine List.Sublist.cons_cons _ ?_ | refine List.Sublist.cons _ ?_)⟩
      · have hc : ¬ (j : Int) < sub.length := by omega
        have hf : Hid (R = true) := by rw [show R = _ from hR.out, List.drop_of_length_le (by omega)]; rfl
        refine go_ ?_
        refine retP_ok (by simp) (by simp only [Try.results114]; rfl) (by simp [resP, St.box?, PF.get, loadB, TyK.agg, *]; rfl) (List.nil_sublist _) ?_
        exact ⟨by rw [hf.out]; rfl, rfl⟩
set_option maxHeartbeats 4000000 in
theorem tshaped_p (t : Tm) : PCalls Try.prog 81 [aggD t] [] fun p s => p = .d (.v (.bool (shapedB t))) ∧ s = [] := by
  have hD := Lib.hid (tDepth_p t)
  have hG := Lib.hid (tgood_p t)
  have HR := Lib.hid (show shapedB t = (decide (cdepthT t ≤ 128) && goodB t) from rfl)
  generalize cdepthT t = z at *
  generalize goodB t = g at *
  simp only [aggD, encD_tm, List.map_cons, List.map_nil]
  by_cases hz : z ≤ 128
  · rw [HR.out]
    refine PCalls.enter Try.func81 rfl Try.ntmps81 (by simp) ?_
    simp only [argsF]
    refine go_ ?_
    refine POps_box_a ?_
    intro i0 hi0
    refine go_ ?_
    refine POps_call_a (hD.out) ?_
    refine go_ ?_
    refine POps_call_a (hG.out) ?_
    refine go_ ?_
    refine retP_ok (by simp) (by simp only [Try.results81]; rfl) (by simp [resP, St.box?, PF.get, loadB, TyK.agg, *]; rfl) (List.nil_sublist _) ?_
    exact ⟨by simp [hz] <;> rfl, rfl⟩
  · rw [HR.out]
    refine PCalls.enter Try.func81 rfl Try.ntmps81 (by simp) ?_
    simp only [argsF]
    refine go_ ?_
    refine POps_box_a ?_
    intro i0 hi0
    refine go_ ?_
    refine POps_call_a (hD.out) ?_
    refine go_ ?_
    refine retP_ok (by simp) (by simp only [Try.results81]; rfl) (by simp [resP, St.box?, PF.get, loadB, TyK.agg, *]; rfl) (List.nil_sublist _) ?_
    exact ⟨by simp [hz] <;> rfl, rfl⟩
end Go.Proofs.Ytfnfbbmegdkhjaa

namespace Go.Proofs.Ytfnfbbmegdkhjaa
open Go.RowKit
set_option maxRecDepth 100000
theorem cnd_take {l : List Tm} {m : Nat} : min (m : Int) (cndL l) ≤ cndL (l.take m) := by
  by_cases h : l.length ≤ m
  · rw [List.take_of_length_le h]; omega
  · have := cndL_len (l.take m)
    rw [List.length_take] at this
    omega
theorem rows3 (l : List Tm) : ∀ row ∈ l.map encD, row.length = 3 := rows_of rfl
theorem get_last {α : Type} [Enc α] (a : List α) (x : α) : ((a ++ [x]).map encD)[a.length]? = some (encD x) := by simp
set_option maxHeartbeats 4000000 in
theorem rSize_p (t : Tm) : PCalls Try.prog 36 [aggD t] [] fun p s => p = .d (.v (.int .i64 (csizeT t))) ∧ s = [] := by
  have HR := Lib.hid (show csizeT t = min (0 + (cndL [t] : Int)) 8193 by unfold csizeT; rw [csz_nd t 0 (by decide) (by decide)]; simp only [cndL]; omega)
  generalize csizeT t = R at *
  simp only [aggD, encD_tm, List.map_cons, List.map_nil]
  refine PCalls.enter Try.func36 rfl Try.ntmps36 (by simp) ?_
  simp only [argsF]
  refine go_ ?_
  refine POps_box_a ?_
  intro i0 hi0
  refine go_ ?_
  refine POps_bs_a ?_
  refine go_ ?_
  refine PW_loop (ι := List Tm × Nat) (fun y => y.2 ≤ 8193 ∧ y.1.length ≤ y.2 * 8193 + 1 ∧ Hid (R = min ((y.2 : Int) + cndL y.1) 8193)) (fun y => [(3, .d (.sl (y.1.map encD))), (4, .d (.v (.int .i64 (y.2 : Int))))]) (fun _ => []) (fun y => 8193 - y.2) ([t], 0) ⟨Nat.zero_le _, by simp, HR.out⟩ ?_ ?_ ?_
  · repeat (first | exact sub_nil _ | refine sub_cons (by simp [PF.get]; rfl) (by first | rfl | (simp [*]; done) | fail) ?_)
  · repeat (first | exact List.Sublist.refl _ | exact List.nil_sublist _ | refine List.Sublist.cons_cons _ ?_ | refine List.Sublist.cons _ ?_)
  · rintro ⟨l, m⟩ ⟨hm, hll, hR⟩
    simp only at hm hll hR ⊢
    clear HR
    by_cases hl : l = []
    · subst hl
      have hf : Hid (R = m) := by rw [show R = _ from hR.out]; simp only [cndL]; show _ = _; omega
      refine go_ ?_
      refine retP_ok (by simp) (by simp only [Try.results36]; rfl) (by simp [resP, St.box?, PF.get, loadB, TyK.agg, *]; rfl) (List.nil_sublist _) ?_
      exact ⟨by rw [hf.out]; rfl, rfl⟩
    · obtain ⟨a, x, rfl⟩ : ∃ a x, l = a ++ [x] := by
        rcases List.eq_nil_or_concat l with h | ⟨a, x, h⟩
        · exact absurd h hl
        · exact ⟨a, x, by rw [h, List.concat_eq_append]⟩
      clear hl
      have hx := get_last a x
      have hal1 : a.length + 1 ≤ m * 8193 + 1 := by rw [List.length_append, List.length_singleton] at hll; exact hll
      have hal : a.length ≤ 100000000 := by omega
      have hw1 := wr64 (n := (a.length : Int)) (by omega) (by omega)
      have hw2 := wr64 (n := (m : Int) + 1) (by omega) (by omega)
      have hn2 : (0 : Int) ≤ (a.length : Int) := by omega
      by_cases hb : (m : Int) ≤ 8192
      · have hR2 : Hid (R = min (((m + 1 : Nat) : Int) + cndL (a ++ x.sub.take 8193)) 8193) := by
          rw [show R = _ from hR.out]
          have h1 := cnd_take (l := x.sub) (m := 8193)
          have h2 : cndL (x.sub.take 8193) ≤ cndL x.sub := by
            have := cndL_append (x.sub.take 8193) (x.sub.drop 8193)
            rw [List.take_append_drop] at this; omega
          rw [cndL_append, cndL_append]
          simp only [cndL, cnd_sub x]
          show _ = _
          omega
        have e1 : ∀ r, List.drop 0 (List.take a.length (List.map encD a ++ r)) = List.map encD a := fun r => by rw [List.drop_zero, List.take_left' (by simp)]
        have e2 : List.drop 0 (List.take (min x.sub.length 8193) (List.map encD x.sub)) = List.map encD (x.sub.take 8193) := by
          rw [List.drop_zero]
          rcases Nat.le_total x.sub.length 8193 with h | h
          · rw [Nat.min_eq_left h, List.take_of_length_le h, List.take_of_length_le (by simp)]
          · rw [Nat.min_eq_right h, List.map_take]
        have em : (if (8193 : Int) < (x.sub.length : Int) then (8193 : Int) else x.sub.length) = ((min x.sub.length 8193 : Nat) : Int) := by split <;> omega
        have htl : (x.sub.take 8193).length ≤ 8193 := by rw [List.length_take]; omega
        refine go_ ?_
        refine POps_alloc_a ?_
        intro i1 hi1
        try simp only [St.freshB_box, St.freshB_nil, St.freshB_tok, St.freshB_obj] at hi1
        refine go_ ?_
        refine Rc ?_
        refine go_ ?_
        refine PW_drawnJ (J := keepJ [(i1, _)]) [(1, .a), (2, .a), (3, .a), (4, .a), (5, .a), (7, .a), (8, .a), (9, .a), (10, .a), (11, .a), (12, .a), (13, .a), (0, .e), (6, .e), (14, .e), (15, .a)] (by kernel_rfl) (by rfl) (by kernel_rfl) (by (repeat (first | exact keepJ_nil _ | refine keepJ_cons (by simp [St.box?, *] <;> rfl) ?_))) ?_
        repeat (first | with_reducible refine PJ_nil ?_ | refine PJ_gn2 ?_ | refine PJ_s2 ?_ | refine PJ_b2 ?_)
        refine PJ_slice 0 a.length ?_ ?_ (e1 _)
        rotate_left
        · simpa using rows3 (a ++ [x])
        repeat (first | with_reducible refine PJ_nil ?_ | refine PJ_gn2 ?_ | refine PJ_s2 ?_ | refine PJ_b2 ?_)
        refine PJ_min (((min x.sub.length 8193 : Nat) : Int)) em ?_
        repeat (first | with_reducible refine PJ_nil ?_ | refine PJ_gn2 ?_ | refine PJ_s2 ?_ | refine PJ_b2 ?_)
        refine PJ_slice 0 (min x.sub.length 8193) ?_ ?_ e2
        rotate_left
        · exact rows3 _
        repeat (first | with_reducible refine PJ_nil ?_ | refine PJ_gn2 ?_ | refine PJ_s2 ?_ | refine PJ_b2 ?_)
        refine PJ_bs0 (fun g hg => by (repeat (first | exact keepJ_nil _ | refine keepJ_cons (by simp [St.box?, *] <;> rfl) ?_))) ?_
        intro g hg
        repeat (first | with_reducible refine PJ_nil ?_ | refine PJ_gn2 ?_ | refine PJ_s2 ?_ | refine PJ_b2 ?_)
        refine PJ_app a.length ?_ ?_ ?_ ?_ ?_
        · simp
        · simp
        · exact rows3 a
        · (repeat (first | exact keepJ_nil _ | refine keepJ_cons (by simp [St.box?, *] <;> rfl) ?_))
        repeat (first | with_reducible refine PJ_nil ?_ | refine PJ_gn2 ?_ | refine PJ_s2 ?_ | refine PJ_b2 ?_)
        refine PJ_app (a.length + (x.sub.take 8193).length) ?_ ?_ ?_ ?_ ?_
        · simp
        · simp
        · exact fun row h => rows3 x.sub row (List.mem_of_mem_take h)
        · (repeat (first | exact keepJ_nil _ | refine keepJ_cons (by simp [St.box?, *] <;> rfl) ?_))
        refine PJ_s2 ?_
        refine PJ_nil ?_
        refine Qj ?_
        refine PW_norm 3 (by simp [PF.get] <;> rfl) ?_
        refine go_ ?_
        refine ⟨(a ++ x.sub.take 8193, m + 1), ⟨by simp only; omega, by simp only; rw [List.length_append]; omega, hR2⟩, by simp only; omega, ?_, by repeat (first | exact List.Sublist.refl _ | exact List.nil_sublist _ | refine List.Sublist.cons_cons _ ?_ | refine List.Sublist.cons _ ?_)⟩
        simp only [PV.norm0]
        repeat (first | exact sub_nil _ | refine sub_cons (by simp [PF.get]; rfl) (by first | rfl | (simp [hw2]; done) | fail) ?_)
      · have hf : Hid (R = m) := by rw [show R = _ from hR.out]; show _ = _; omega
        refine go_ ?_
        refine retP_ok (by simp) (by simp only [Try.results36]; rfl) (by simp [resP, St.box?, PF.get, loadB, TyK.agg, *]; rfl) (List.nil_sublist _) ?_
        exact ⟨by rw [hf.out]; rfl, rfl⟩
theorem cdep_hg (t : Tm) (h : ¬ 8192 < csizeT t) : cdepthT t = min ((0 : Int) + chgL [t]) 129 := by
  unfold cdepthT
  rw [if_neg h, cdp_hg t 1 (by decide) (by decide)]
  simp only [chgL]
  omega
theorem size_nd (t : Tm) : csizeT t = min (cndT t : Int) 8193 := by
  unfold csizeT
  rw [csz_nd t 0 (by decide) (by decide)]; omega
set_option maxHeartbeats 4000000 in
theorem rDepth_p (t : Tm) : PCalls Try.prog 54 [aggD t] [] fun p s => p = .d (.v (.int .i64 (cdepthT t))) ∧ s = [] := by
  have hS := Lib.hid (rSize_p t)
  by_cases hz : 8192 < csizeT t
  · have hR : cdepthT t = 129 := by unfold cdepthT; rw [if_pos hz]
    rw [hR]
    generalize csizeT t = z at *
    simp only [aggD, encD_tm, List.map_cons, List.map_nil]
    refine PCalls.enter Try.func54 rfl Try.ntmps54 (by simp) ?_
    simp only [argsF]
    refine go_ ?_
    refine POps_box_a ?_
    intro i0 hi0
    refine go_ ?_
    refine POps_call_a (hS.out) ?_
    refine go_ ?_
    refine retP_ok (by simp) (by simp only [Try.results54]; rfl) (by simp [resP, St.box?, PF.get, loadB, TyK.agg, *]; rfl) (List.nil_sublist _) ?_
    exact ⟨rfl, rfl⟩
  · have HR := Lib.hid (cdep_hg t hz)
    have hnd : cndL [t] ≤ 8192 := by have := size_nd t; simp only [cndL]; omega
    generalize csizeT t = z at *
    generalize cdepthT t = R at *
    simp only [aggD, encD_tm, List.map_cons, List.map_nil]
    refine PCalls.enter Try.func54 rfl Try.ntmps54 (by simp) ?_
    simp only [argsF]
    refine go_ ?_
    refine POps_box_a ?_
    intro i0 hi0
    refine go_ ?_
    refine POps_call_a (hS.out) ?_
    refine go_ ?_
    refine POps_bs_a ?_
    refine go_ ?_
    refine PW_loop (ι := List Tm × Nat) (fun y => y.2 ≤ 129 ∧ cndL y.1 ≤ 8192 ∧ Hid (R = min ((y.2 : Int) + chgL y.1) 129)) (fun y => [(3, .d (.sl (y.1.map encD))), (4, .d (.v (.int .i64 (y.2 : Int))))]) (fun _ => []) (fun y => 129 - y.2) ([t], 0) ⟨Nat.zero_le _, hnd, HR.out⟩ ?_ ?_ ?_
    · repeat (first | exact sub_nil _ | refine sub_cons (by simp [PF.get]; rfl) (by first | rfl | (simp [*]; done) | fail) ?_)
    · repeat (first | exact List.Sublist.refl _ | exact List.nil_sublist _ | refine List.Sublist.cons_cons _ ?_ | refine List.Sublist.cons _ ?_)
    · rintro ⟨l, m⟩ ⟨hm, hnd, hR⟩
      simp only at hm hnd hR ⊢
      clear HR
      by_cases hl : l = []
      · subst hl
        have hf : Hid (R = m) := by rw [show R = _ from hR.out]; simp only [chgL]; show _ = _; omega
        refine go_ ?_
        refine retP_ok (by simp) (by simp only [Try.results54]; rfl) (by simp [resP, St.box?, PF.get, loadB, TyK.agg, *]; rfl) (List.nil_sublist _) ?_
        exact ⟨by rw [hf.out]; rfl, rfl⟩
      · have hpos : 0 < l.length := List.length_pos_iff.2 hl
        by_cases hb : (m : Int) < 129
        · have hw2 := wr64 (n := (m : Int) + 1) (by omega) (by omega)
          have hll : l.length ≤ 8192 := Nat.le_trans (cndL_len l) hnd
          have hR2 : Hid (R = min (((m + 1 : Nat) : Int) + chgL (clvl l)) 129) := by
            rw [show R = _ from hR.out, clvl_hg l hl]
            show _ = _
            omega
          have hnd2 : cndL (clvl l) ≤ 8192 := Nat.le_trans (clvl_nd l) hnd
          clear hR
          have hl' := hl
          refine go_ ?_
          refine POps_bs0 ?_ (by decide) (by first | (simp [nev, nevA, nevB, evBuild, PF.eval, PF.get, PF.wants, cPV, cCell, PV.rows, evBin, evUn, evConv, evLen, loadA, loadB, TyK.agg, partA, St.box?, St.tok?, St.setBox, St.setTok, fillO, spl, PV.ps, PV.one, evalArgs, aggD, slD, encD_nd, encD_bd, encD_rw, encD_dc, encD_str, encD_int, *]; done) | fail) (by simp; rfl) (by rfl) (by simp; rfl) (by rfl) (by decide)
          intro g hg
          refine go_ ?_
          refine PW_loop (ι := Nat) (fun y => y ≤ l.length) (fun y => [(3, .d (.sl (l.map encD))), (4, .d (.v (.int .i64 (m : Int)))), (5, .own g ((clvl (l.take y)).map encD)), (6, .d (.v (.int .i64 (y : Int))))]) (fun y => [.tok g 28 3 (clvl (l.take y)).length]) (fun y => l.length - y) 0 (Nat.zero_le _) ?_ ?_ ?_
          · repeat (first | exact sub_nil _ | refine sub_cons (by simp [PF.get]; rfl) (by first | rfl | (simp [*]; done) | fail) ?_)
          · repeat (first | exact List.Sublist.refl _ | exact List.nil_sublist _ | refine List.Sublist.cons_cons _ ?_ | refine List.Sublist.cons _ ?_)
          · rintro k hk
            by_cases hlt : k < l.length
            · have hx := get_enc hlt
              have hc : (k : Int) < l.length := by omega
              have hn : (0 : Int) ≤ k := by omega
              have hin := wr64 (n := (k : Int) + 1) (by omega) (by omega)
              have ht := clvl_take l k hlt
              have hlen : (clvl (l.take (k + 1))).length ≤ 8192 := Nat.le_trans (cndL_len _) (Nat.le_trans (clvl_nd _) (Nat.le_trans (cndL_take l (k + 1)) hnd))
              have HT := Lib.hid ht
              rw [ht, List.length_append] at hlen
              clear ht
              refine go_ ?_
              refine POps_app_a ((clvl (l.take k)).length + l[k].sub.length) ?_ ?_ ?_ ?_
              · simp
              · exact rows3 _
              · exact rows3 _
              refine go_ ?_
              refine ⟨k + 1, hlt, by omega, ?_, ?_⟩
              · rw [HT.out]
                repeat (first | exact sub_nil _ | refine sub_cons (by simp [PF.get]; rfl) (by first | rfl | (simp [*]; done) | fail) ?_)
              · rw [HT.out, List.length_append]
                repeat (first | exact List.Sublist.refl _ | exact List.nil_sublist _ | refine List.Sublist.cons_cons _ ?_ | refine List.Sublist.cons _ ?_)
            · have hc : ¬ (k : Int) < l.length := by omega
              have htk : l.take k = l := List.take_of_length_le (by omega)
              rw [htk]
              refine gs_ ?_
              refine Qc ?_
              refine gs_ ?_
              refine PW_norm 5 (by simp [PF.get] <;> rfl) ?_
              refine go_ ?_
              refine ⟨(clvl l, m + 1), ⟨by simp only; omega, hnd2, hR2⟩, by simp only; omega, ?_, by repeat (first | exact List.Sublist.refl _ | exact List.nil_sublist _ | refine List.Sublist.cons_cons _ ?_ | refine List.Sublist.cons _ ?_)⟩
              simp only [PV.norm0]
              repeat (first | exact sub_nil _ | refine sub_cons (by simp [PF.get]; rfl) (by first | rfl | (simp [hw2]; done) | fail) ?_)
        · have hf : Hid (R = m) := by rw [show R = _ from hR.out]; show _ = _; omega
          refine go_ ?_
          refine retP_ok (by simp) (by simp only [Try.results54]; rfl) (by simp [resP, St.box?, PF.get, loadB, TyK.agg, *]; rfl) (List.nil_sublist _) ?_
          exact ⟨by rw [hf.out]; rfl, rfl⟩
end Go.Proofs.Ytfnfbbmegdkhjaa

namespace Go.Proofs.Ytfnfbbmegdkhjaa
open Go.RowKit
set_option maxRecDepth 100000
set_option maxHeartbeats 4000000 in
theorem tunder_p (t : Tm) (i : Int) : PCalls Try.prog 136 [aggD t, .d (.v (.int .i64 i))] [] fun p s => p = .d (.v (.int .i64 (undB t.kind i))) ∧ s = [] := by
  have HR := Lib.hid (show undB t.kind i = if i = 1 ∧ (t.kind = 3 ∨ t.kind = 4) then 1 else 0 from rfl)
  simp only [aggD, encD_tm, List.map_cons, List.map_nil]
  by_cases h1 : i = 1
  · by_cases h3 : t.kind = 3
    · have hf : Hid (undB t.kind i = 1) := by rw [show undB t.kind i = _ from HR.out, if_pos ⟨h1, .inl h3⟩]; rfl
      rw [hf.out]
      clear HR hf
      subst h1
      refine PCalls.enter Try.func136 rfl Try.ntmps136 (by simp) ?_
      simp only [argsF]
      refine go_ ?_
      refine POps_box_a ?_
      intro i0 hi0
      refine go_ ?_
      refine retP_ok (by simp) (by simp only [Try.results136]; rfl) (by simp [resP, St.box?, PF.get, loadB, TyK.agg, *]; rfl) (List.nil_sublist _) ?_
      exact ⟨rfl, rfl⟩
    · by_cases h4 : t.kind = 4
      · have hf : Hid (undB t.kind i = 1) := by rw [show undB t.kind i = _ from HR.out, if_pos ⟨h1, .inr h4⟩]; rfl
        rw [hf.out]
        clear HR hf h3
        subst h1
        refine PCalls.enter Try.func136 rfl Try.ntmps136 (by simp) ?_
        simp only [argsF]
        refine go_ ?_
        refine POps_box_a ?_
        intro i0 hi0
        refine go_ ?_
        refine retP_ok (by simp) (by simp only [Try.results136]; rfl) (by simp [resP, St.box?, PF.get, loadB, TyK.agg, *]; rfl) (List.nil_sublist _) ?_
        exact ⟨rfl, rfl⟩
      · have hf : Hid (undB t.kind i = 0) := by rw [show undB t.kind i = _ from HR.out, if_neg (fun h => h.2.elim h3 h4)]; rfl
        rw [hf.out]
        clear HR hf
        subst h1
        refine PCalls.enter Try.func136 rfl Try.ntmps136 (by simp) ?_
        simp only [argsF]
        refine go_ ?_
        refine POps_box_a ?_
        intro i0 hi0
        refine go_ ?_
        refine retP_ok (by simp) (by simp only [Try.results136]; rfl) (by simp [resP, St.box?, PF.get, loadB, TyK.agg, *]; rfl) (List.nil_sublist _) ?_
        exact ⟨rfl, rfl⟩
  · have hf : Hid (undB t.kind i = 0) := by rw [show undB t.kind i = _ from HR.out, if_neg (fun h => h1 h.1)]; rfl
    rw [hf.out]
    clear HR hf
    refine PCalls.enter Try.func136 rfl Try.ntmps136 (by simp) ?_
    simp only [argsF]
    refine go_ ?_
    refine POps_box_a ?_
    intro i0 hi0
    refine go_ ?_
    refine retP_ok (by simp) (by simp only [Try.results136]; rfl) (by simp [resP, St.box?, PF.get, loadB, TyK.agg, *]; rfl) (List.nil_sublist _) ?_
    exact ⟨rfl, rfl⟩
/-- the document's: how many binders more -/
def benB (k i : Int) : Int := if i = 1 ∧ k ≠ 5 then 1 else 0
set_option maxHeartbeats 4000000 in
theorem rbeneath_p (t : Tm) (i : Int) : PCalls Try.prog 73 [aggD t, .d (.v (.int .i64 i))] [] fun p s => p = .d (.v (.int .i64 (benB t.kind i))) ∧ s = [] := by
  have HR := Lib.hid (show benB t.kind i = if i = 1 ∧ t.kind ≠ 5 then 1 else 0 from rfl)
  simp only [aggD, encD_tm, List.map_cons, List.map_nil]
  by_cases h1 : i = 1
  · by_cases h3 : t.kind = 5
    · have hf : Hid (benB t.kind i = 0) := by rw [show benB t.kind i = _ from HR.out, if_neg (fun h => h.2 h3)]; rfl
      rw [hf.out]
      clear HR hf
      subst h1
      refine PCalls.enter Try.func73 rfl Try.ntmps73 (by simp) ?_
      simp only [argsF]
      refine go_ ?_
      refine POps_box_a ?_
      intro i0 hi0
      refine go_ ?_
      refine retP_ok (by simp) (by simp only [Try.results73]; rfl) (by simp [resP, St.box?, PF.get, loadB, TyK.agg, *]; rfl) (List.nil_sublist _) ?_
      exact ⟨rfl, rfl⟩
    · have hf : Hid (benB t.kind i = 1) := by rw [show benB t.kind i = _ from HR.out, if_pos ⟨h1, h3⟩]; rfl
      rw [hf.out]
      clear HR hf
      subst h1
      refine PCalls.enter Try.func73 rfl Try.ntmps73 (by simp) ?_
      simp only [argsF]
      refine go_ ?_
      refine POps_box_a ?_
      intro i0 hi0
      refine go_ ?_
      refine retP_ok (by simp) (by simp only [Try.results73]; rfl) (by simp [resP, St.box?, PF.get, loadB, TyK.agg, *]; rfl) (List.nil_sublist _) ?_
      exact ⟨rfl, rfl⟩
  · have hf : Hid (benB t.kind i = 0) := by rw [show benB t.kind i = _ from HR.out, if_neg (fun h => h1 h.1)]; rfl
    rw [hf.out]
    clear HR hf
    refine PCalls.enter Try.func73 rfl Try.ntmps73 (by simp) ?_
    simp only [argsF]
    refine go_ ?_
    refine POps_box_a ?_
    intro i0 hi0
    refine go_ ?_
    refine retP_ok (by simp) (by simp only [Try.results73]; rfl) (by simp [resP, St.box?, PF.get, loadB, TyK.agg, *]; rfl) (List.nil_sublist _) ?_
    exact ⟨rfl, rfl⟩
/-- of terms that are good both are the same -/
theorem ben_und {k n : Int} {sub : List Tm} (h : goodB (.mk k n sub) = true) (j : Nat) (hj : j < sub.length) : benB k (j : Int) = undB k (j : Int) := by
  have h1 := head_num (good_parts h).1
  have hs : (sub.length : Int) = subsOf k := h1.2.2.2.2
  unfold benB undB
  by_cases e : (j : Int) = 1
  · have : k = 3 ∨ k = 4 ∨ k = 5 := by
      unfold subsOf at hs
      split at hs
      · assumption
      · split at hs <;> omega
    rcases this with rfl | rfl | rfl <;> simp [e]
  · rw [if_neg (fun h => e h.1), if_neg (fun h => e h.1)]
theorem ls_var {n b : Int} {sub : List Tm} : lsT (.mk 1 n sub) b = max 0 (n + 1 - b) := by simp only [lsT]; rfl
theorem ls_not {k n b : Int} {sub : List Tm} (h : ¬ k = 1) : lsT (.mk k n sub) b = lsL k sub 0 b 0 := by simp only [lsT]; rw [if_neg h]
theorem max_if2 (a b : Int) : (if a < b then b else a) = max a b := (cmax_if a b).symm
theorem good_1 {n : Int} {sub : List Tm} (h : goodB (.mk 1 n sub) = true) : sub = [] := by
  have h1 := head_num (good_parts h).1
  have hs : (sub.length : Int) = subsOf 1 := h1.2.2.2.2
  exact List.eq_nil_of_length_eq_zero (by simpa [subsOf] using hs)
set_option maxHeartbeats 4000000 in
theorem tloose_p : ∀ (t : Tm) (b : Int), goodB t = true → 0 ≤ b → b + chgT t ≤ 1000 → PCalls Try.prog 108 [aggD t, .d (.v (.int .i64 b))] [] fun p s => p = .d (.v (.int .i64 (lsT t b))) ∧ s = [] := by
  refine Tm.ind ?_
  intro k n sub ih b hg h0 h1
  have hnum := head_num (good_parts hg).1
  simp only [aggD, encD_tm, List.map_cons, List.map_nil, Tm.kind_mk, Tm.num_mk, Tm.sub_mk]
  by_cases hk : k = 1
  · subst hk
    rw [ls_var]
    have hw1 := wr64 (n := n + 1) (by omega) (by omega)
    have hw2 := wr64 (n := n + 1 - b) (by omega) (by omega)
    clear ih hg hnum
    refine PCalls.enter Try.func108 rfl Try.ntmps108 (by simp) ?_
    simp only [argsF]
    refine go_ ?_
    refine POps_box_a ?_
    intro i0 hi0
    refine go_ ?_
    refine POps_max ((max 0 (n + 1 - b))) (max_if2 _ _) ?_
    refine go_ ?_
    refine retP_ok (by simp) (by simp only [Try.results108]; rfl) (by simp [resP, St.box?, PF.get, loadB, TyK.agg, *]; rfl) (List.nil_sublist _) ?_
    exact ⟨rfl, rfl⟩
  · rw [ls_not hk]
    have HR : ∃ R, R = lsL k sub 0 b 0 := ⟨_, rfl⟩
    obtain ⟨R, hR0⟩ := HR
    rw [← hR0]
    have hgs := (good_parts hg).2
    have hhg : ∀ s ∈ sub, (chgT s : Int) + 1 ≤ chgT (.mk k n sub) := fun s hs => by
      have h2 : chgT s ≤ chgL sub := hgL_mem s hs
      simp only [chgT]; omega
    have hll : sub.length ≤ 2 := by
      have := hnum.2.2.2.2
      unfold subsOf at this
      split at this
      · omega
      · split at this <;> omega
    have IH := Lib.hid ih
    have CU := Lib.hid (tunder_p (.mk k n sub))
    simp only [aggD, encD_tm, List.map_cons, List.map_nil, Tm.kind_mk, Tm.num_mk, Tm.sub_mk] at CU
    clear ih hg hnum
    refine PCalls.enter Try.func108 rfl Try.ntmps108 (by simp) ?_
    simp only [argsF]
    refine go_ ?_
    refine POps_box_a ?_
    intro i0 hi0
    refine go_ ?_
    refine PW_loop (ι := Nat × Int) (fun y => y.1 ≤ sub.length ∧ 0 ≤ y.2 ∧ y.2 ≤ 1048577 ∧ Hid (R = lsL k (sub.drop y.1) y.1 b y.2)) (fun y => [(1, .d (.v (.int .i64 b))), (2, .ptr i0 0), (5, .d (.v (.int .i64 y.2))), (18, .d (.sl (sub.map encD))), (19, .d (.v (.int .i64 sub.length))), (20, .d (.v (.int .i64 (y.1 : Int))))]) (fun _ => [.box i0 28 [.d (.v (.int .i64 k)), .d (.v (.int .i64 n)), .d (.sl (sub.map encD))]]) (fun y => sub.length - y.1) (0, 0) ⟨Nat.zero_le _, by decide, by simp only; omega, hR0⟩ ?_ ?_ ?_
    · repeat (first | exact sub_nil _ | refine sub_cons (by simp [PF.get]; rfl) (by first | rfl | (simp [*]; done) | fail) ?_)
    · repeat (first | exact List.Sublist.refl _ | exact List.nil_sublist _ | refine List.Sublist.cons_cons _ ?_ | refine List.Sublist.cons _ ?_)
    · rintro ⟨j, m⟩ ⟨hj, hm0, hm1, hR⟩
      simp only at hj hm0 hm1 hR ⊢
      clear hR0
      by_cases hlt : j < sub.length
      · have hx := get_enc hlt
        have hc : (j : Int) < sub.length := by omega
        have hn : (0 : Int) ≤ j := by omega
        have hin := wr64 (n := (j : Int) + 1) (by omega) (by omega)
        have hu := und_bd k j
        have hh := hhg _ (List.getElem_mem hlt)
        have hR2 : Hid (R = lsL k (sub.drop (j + 1)) (j + 1) b (max m (lsT sub[j] (b + undB k j)))) := by
          rw [show R = _ from hR.out, List.drop_eq_getElem_cons hlt]
          show _ = _
          simp only [lsL]
        have hb2 := ls_bd sub[j] (b + undB k j) (hgs _ (List.getElem_mem hlt)) (by omega)
        have hc1 := Lib.hid (IH.out _ (List.getElem_mem hlt) (b + undB k j) (hgs _ (List.getElem_mem hlt)) (by omega) (by omega))
        have hcu := Lib.hid (CU.out j)
        have hw := wr64 (n := b + undB k j) (by omega) (by omega)
        clear hR hgs hhg hu
        generalize lsT sub[j] (b + undB k j) = x' at *
        generalize undB k j = u at *
        have hmx : 0 ≤ max m x' ∧ max m x' ≤ 1048577 := by omega
        refine go_ ?_
        refine POps_alloc_a ?_
        intro i2 hi2
        try simp only [St.freshB_box, St.freshB_nil, St.freshB_tok, St.freshB_obj] at hi2
        refine go_ ?_
        refine Rc ?_
        refine go_ ?_
        refine PW_drawn [(0, .a), (1, .b), (2, .a), (3, .b), (4, .a), (5, .a), (6, .a), (7, .a), (8, .a), (9, .a)] (by kernel_rfl) (by rfl) (by kernel_rfl) ?_
        refine go_ ?_
        refine POrd_call_a (hcu.out) ?_
        refine go_ ?_
        refine POrd_call_a (hc1.out) ?_
        refine go_ ?_
        refine POrd_max ((max m x')) (max_if2 _ _) ?_
        refine go_ ?_
        exact ⟨(j + 1, max m x'), ⟨hlt, hmx.1, hmx.2, hR2⟩, by simp only; omega, by repeat (first | exact sub_nil _ | refine sub_cons (by simp [PF.get]; rfl) (by first | rfl | (simp [*]; done) | fail) ?_), by repeat (first | exact List.Sublist.refl _ | exact List.nil_sublist _ | refine List.Sublist.cons_cons _ ?_ | refine List.Sublist.cons _ ?_)⟩
      · have hc : ¬ (j : Int) < sub.length := by omega
        have hf : Hid (R = m) := by rw [show R = _ from hR.out, List.drop_of_length_le (by omega)]; rfl
        refine go_ ?_
        refine retP_ok (by simp) (by simp only [Try.results108]; rfl) (by simp [resP, St.box?, PF.get, loadB, TyK.agg, *]; rfl) (List.nil_sublist _) ?_
        exact ⟨by rw [hf.out]; rfl, rfl⟩
set_option maxHeartbeats 4000000 in
theorem rloose_p : ∀ (t : Tm) (b : Int), goodB t = true → 0 ≤ b → b + chgT t ≤ 1000 → PCalls Try.prog 22 [aggD t, .d (.v (.int .i64 b))] [] fun p s => p = .d (.v (.int .i64 (lsT t b))) ∧ s = [] := by
  refine Tm.ind ?_
  intro k n sub ih b hg h0 h1
  have hnum := head_num (good_parts hg).1
  by_cases hk : k = 1 ∧ b ≤ n
  · obtain ⟨hk, hbn⟩ := hk
    subst hk
    simp only [aggD, encD_tm, List.map_cons, List.map_nil, Tm.kind_mk, Tm.num_mk, Tm.sub_mk]
    have HR : Hid (lsT (.mk 1 n sub) b = n - b + 1) := by rw [ls_var]; show _ = _; omega
    rw [HR.out]
    have hw1 := wr64 (n := n - b) (by omega) (by omega)
    have hw2 := wr64 (n := n - b + 1) (by omega) (by omega)
    clear ih hg hnum HR
    refine PCalls.enter Try.func22 rfl Try.ntmps22 (by simp) ?_
    simp only [argsF]
    refine go_ ?_
    refine POps_box_a ?_
    intro i0 hi0
    refine go_ ?_
    refine retP_ok (by simp) (by simp only [Try.results22]; rfl) (by simp [resP, St.box?, PF.get, loadB, TyK.agg, *]; rfl) (List.nil_sublist _) ?_
    exact ⟨rfl, rfl⟩
  · by_cases hk1 : k = 1
    · subst hk1
      obtain rfl := good_1 hg
      have hbn : ¬ b ≤ n := fun h => hk ⟨rfl, h⟩
      have HR : Hid (lsT (.mk 1 n []) b = 0) := by rw [ls_var]; show _ = _; omega
      rw [HR.out]
      simp only [aggD, encD_tm, List.map_cons, List.map_nil, Tm.kind_mk, Tm.num_mk, Tm.sub_mk]
      clear ih hg hnum HR hk h1
      refine PCalls.enter Try.func22 rfl Try.ntmps22 (by simp) ?_
      simp only [argsF]
      refine go_ ?_
      refine POps_box_a ?_
      intro i0 hi0
      refine go_ ?_
      refine PW_loop (ι := Unit) (fun _ => True) (fun _ => [(2, .ptr i0 0), (5, .d (.v (.int .i64 0))), (6, .d (.v (.int .i64 0)))]) (fun _ => [.box i0 28 [.d (.v (.int .i64 1)), .d (.v (.int .i64 n)), .d (.sl [])]]) (fun _ => 0) () trivial ?_ ?_ ?_
      · repeat (first | exact sub_nil _ | refine sub_cons (by simp [PF.get]; rfl) (by first | rfl | (simp [*]; done) | fail) ?_)
      · repeat (first | exact List.Sublist.refl _ | exact List.nil_sublist _ | refine List.Sublist.cons_cons _ ?_ | refine List.Sublist.cons _ ?_)
      · rintro _ _
        refine go_ ?_
        refine retP_ok (by simp) (by simp only [Try.results22]; rfl) (by simp [resP, St.box?, PF.get, loadB, TyK.agg, *]; rfl) (List.nil_sublist _) ?_
        exact ⟨rfl, rfl⟩
    · have HR : ∃ R, R = lsL k sub 0 b 0 := ⟨_, rfl⟩
      obtain ⟨R, hR0⟩ := HR
      rw [ls_not hk1, ← hR0]
      have hgs := (good_parts hg).2
      have hbe := fun j hj => ben_und hg j hj
      have hhg : ∀ s ∈ sub, (chgT s : Int) + 1 ≤ chgT (.mk k n sub) := fun s hs => by
        have h2 : chgT s ≤ chgL sub := hgL_mem s hs
        simp only [chgT]; omega
      have hll : sub.length ≤ 2 := by
        have := hnum.2.2.2.2
        unfold subsOf at this
        split at this
        · omega
        · split at this <;> omega
      have IH := Lib.hid ih
      have CU := Lib.hid (rbeneath_p (.mk k n sub))
      simp only [aggD, encD_tm, List.map_cons, List.map_nil, Tm.kind_mk, Tm.num_mk, Tm.sub_mk] at CU ⊢
      have HB := Lib.hid hbe
      clear ih hg hnum hk hbe
      refine PCalls.enter Try.func22 rfl Try.ntmps22 (by simp) ?_
      simp only [argsF]
      refine go_ ?_
      refine POps_box_a ?_
      intro i0 hi0
      refine go_ ?_
      refine PW_loop (ι := Nat × Int) (fun y => y.1 ≤ sub.length ∧ 0 ≤ y.2 ∧ y.2 ≤ 1048577 ∧ Hid (R = lsL k (sub.drop y.1) y.1 b y.2)) (fun y => [(1, .d (.v (.int .i64 b))), (2, .ptr i0 0), (5, .d (.v (.int .i64 y.2))), (6, .d (.v (.int .i64 (y.1 : Int))))]) (fun _ => [.box i0 28 [.d (.v (.int .i64 k)), .d (.v (.int .i64 n)), .d (.sl (sub.map encD))]]) (fun y => sub.length - y.1) (0, 0) ⟨Nat.zero_le _, by decide, by simp only; omega, hR0⟩ ?_ ?_ ?_
      · repeat (first | exact sub_nil _ | refine sub_cons (by simp [PF.get]; rfl) (by first | rfl | (simp [*]; done) | fail) ?_)
      · repeat (first | exact List.Sublist.refl _ | exact List.nil_sublist _ | refine List.Sublist.cons_cons _ ?_ | refine List.Sublist.cons _ ?_)
      · rintro ⟨j, m⟩ ⟨hj, hm0, hm1, hR⟩
        simp only at hj hm0 hm1 hR ⊢
        clear hR0 hk1
        by_cases hlt : j < sub.length
        · have hx := get_enc hlt
          have hc : (j : Int) < sub.length := by omega
          have hn : (0 : Int) ≤ j := by omega
          have hin := wr64 (n := (j : Int) + 1) (by omega) (by omega)
          have hu := und_bd k j
          have hh := hhg _ (List.getElem_mem hlt)
          have hR2 : Hid (R = lsL k (sub.drop (j + 1)) (j + 1) b (max m (lsT sub[j] (b + undB k j)))) := by
            rw [show R = _ from hR.out, List.drop_eq_getElem_cons hlt]
            show _ = _
            simp only [lsL]
          have hb2 := ls_bd sub[j] (b + undB k j) (hgs _ (List.getElem_mem hlt)) (by omega)
          have hc1 := Lib.hid (IH.out _ (List.getElem_mem hlt) (b + undB k j) (hgs _ (List.getElem_mem hlt)) (by omega) (by omega))
          have hcu := CU.out j
          rw [HB.out j hlt] at hcu
          have HCU := Lib.hid hcu
          have hw := wr64 (n := b + undB k j) (by omega) (by omega)
          clear hR hgs hhg hu hcu
          generalize lsT sub[j] (b + undB k j) = x' at *
          generalize undB k j = u at *
          have hmx : 0 ≤ max m x' ∧ max m x' ≤ 1048577 := by omega
          refine go_ ?_
          refine PW_drawn [(0, .a), (1, .a), (2, .b), (3, .a), (4, .a), (5, .a), (6, .a), (7, .b), (8, .a), (9, .a), (10, .a), (11, .a), (12, .a), (13, .a)] (by kernel_rfl) (by rfl) (by kernel_rfl) ?_
          refine go_ ?_
          refine POrd_call_a (HCU.out) ?_
          refine go_ ?_
          refine POrd_call_a (hc1.out) ?_
          refine go_ ?_
          refine POrd_max ((max m x')) (max_if2 _ _) ?_
          refine go_ ?_
          exact ⟨(j + 1, max m x'), ⟨hlt, hmx.1, hmx.2, hR2⟩, by simp only; omega, by repeat (first | exact sub_nil _ | refine sub_cons (by simp [PF.get]; rfl) (by first | rfl | (simp [*]; done) | fail) ?_), by repeat (first | exact List.Sublist.refl _ | exact List.nil_sublist _ | refine List.Sublist.cons_cons _ ?_ | refine List.Sublist.cons _ ?_)⟩
        · have hc : ¬ (j : Int) < sub.length := by omega
          have hf : Hid (R = m) := by rw [show R = _ from hR.out, List.drop_of_length_le (by omega)]; rfl
          refine go_ ?_
          refine retP_ok (by simp) (by simp only [Try.results22]; rfl) (by simp [resP, St.box?, PF.get, loadB, TyK.agg, *]; rfl) (List.nil_sublist _) ?_
          exact ⟨by rw [hf.out]; rfl, rfl⟩
end Go.Proofs.Ytfnfbbmegdkhjaa

namespace Go.Proofs.Ytfnfbbmegdkhjaa
open Go.RowKit
set_option maxRecDepth 100000
theorem eqT_mk (k n k' n' : Int) (s s' : List Tm) : ceqT (.mk k n s) (.mk k' n' s') = ((k == k') && (n == n') && ceqL s s') := by simp only [ceqT]
theorem eqL_ne {a b : List Tm} (h : ¬ a.length = b.length) : ceqL a b = false := by
  cases e : ceqL a b with
  | false => rfl
  | true => exact absurd (ceqL_length e) h
theorem eqL_step {a b : List Tm} {j : Nat} (h1 : j < a.length) (h2 : j < b.length) : ceqL (a.drop j) (b.drop j) = (ceqT a[j] b[j] && ceqL (a.drop (j + 1)) (b.drop (j + 1))) := by
  rw [List.drop_eq_getElem_cons h1, List.drop_eq_getElem_cons h2]
  simp only [ceqL]
theorem eqL_end {a b : List Tm} {j : Nat} (h1 : a.length ≤ j) (h2 : b.length ≤ j) : ceqL (a.drop j) (b.drop j) = true := by
  rw [List.drop_of_length_le h1, List.drop_of_length_le h2]; rfl
set_option maxHeartbeats 4000000 in
theorem tequal_p : ∀ (t u : Tm), PCalls Try.prog 102 [aggD t, aggD u] [] fun p s => p = .d (.v (.bool (ceqT t u))) ∧ s = [] := by
  refine Tm.ind ?_
  intro k n a ih u
  obtain ⟨k', n', b⟩ := u
  rw [eqT_mk]
  simp only [aggD, encD_tm, List.map_cons, List.map_nil, Tm.kind_mk, Tm.num_mk, Tm.sub_mk]
  have IH := Lib.hid ih
  clear ih
  by_cases hk : k = k'
  rotate_left
  · have hf : ((k == k') && (n == n') && ceqL a b) = false := by rw [beq_eq_false_iff_ne.2 hk]; rfl
    rw [hf]
    clear hf
    refine PCalls.enter Try.func102 rfl Try.ntmps102 (by simp) ?_
    simp only [argsF]
    refine go_ ?_
    refine POps_box_a ?_
    intro i0 hi0
    refine go_ ?_
    refine POps_box_a ?_
    intro i1 hi1
    try simp only [St.freshB_box, St.freshB_nil, St.freshB_tok, St.freshB_obj] at hi1
    refine go_ ?_
    refine retP_ok (by simp) (by simp only [Try.results102]; rfl) (by simp [resP, St.box?, PF.get, loadB, TyK.agg, *]; rfl) (List.nil_sublist _) ?_
    exact ⟨rfl, rfl⟩
  by_cases hn : n = n'
  rotate_left
  · have hf : ((k == k') && (n == n') && ceqL a b) = false := by rw [beq_eq_false_iff_ne.2 hn, Bool.and_false]; rfl
    rw [hf]
    clear hf
    subst hk
    refine PCalls.enter Try.func102 rfl Try.ntmps102 (by simp) ?_
    simp only [argsF]
    refine go_ ?_
    refine POps_box_a ?_
    intro i0 hi0
    refine go_ ?_
    refine POps_box_a ?_
    intro i1 hi1
    try simp only [St.freshB_box, St.freshB_nil, St.freshB_tok, St.freshB_obj] at hi1
    refine go_ ?_
    refine retP_ok (by simp) (by simp only [Try.results102]; rfl) (by simp [resP, St.box?, PF.get, loadB, TyK.agg, *]; rfl) (List.nil_sublist _) ?_
    exact ⟨rfl, rfl⟩
  subst hk hn
  by_cases hl : a.length = b.length
  rotate_left
  · rw [eqL_ne hl, Bool.and_false]
    have hl2 : ((a.length : Int) != b.length) = true := bne_iff_ne.2 (by omega)
    refine PCalls.enter Try.func102 rfl Try.ntmps102 (by simp) ?_
    simp only [argsF]
    refine go_ ?_
    refine POps_box_a ?_
    intro i0 hi0
    refine go_ ?_
    refine POps_box_a ?_
    intro i1 hi1
    try simp only [St.freshB_box, St.freshB_nil, St.freshB_tok, St.freshB_obj] at hi1
    refine go_ ?_
    refine retP_ok (by simp) (by simp only [Try.results102]; rfl) (by simp [resP, St.box?, PF.get, loadB, TyK.agg, *]; rfl) (List.nil_sublist _) ?_
    exact ⟨rfl, rfl⟩
  obtain ⟨m, ha, hb⟩ : ∃ m, a.length = m ∧ b.length = m := ⟨_, hl, rfl⟩
  clear hl
  obtain ⟨R, hR0⟩ : ∃ R, R = ceqL a b := ⟨_, rfl⟩
  rw [← hR0, beq_self_eq_true, beq_self_eq_true, Bool.true_and, Bool.true_and]
  have HR0 := Lib.hid hR0
  clear hR0
  refine PCalls.enter Try.func102 rfl Try.ntmps102 (by simp) ?_
  simp only [argsF]
  refine go_ ?_
  refine POps_box_a ?_
  intro i0 hi0
  refine go_ ?_
  refine POps_box_a ?_
  intro i1 hi1
  try simp only [St.freshB_box, St.freshB_nil, St.freshB_tok, St.freshB_obj] at hi1
  refine go_ ?_
  refine PW_slen (t := 28) (rows := a.map encD) (by simp [PF.get] <;> rfl) rfl fun hml => ?_
  rw [List.length_map, ha] at hml
  refine PW_loop (ι := Nat) (fun y => y ≤ m ∧ Hid (R = ceqL (a.drop y) (b.drop y))) (fun y => [(2, .ptr i0 0), (3, .ptr i1 0), (29, .d (.v (.int .i64 m))), (30, .d (.v (.int .i64 (y : Int))))]) (fun _ => [.box i1 28 [.d (.v (.int .i64 k)), .d (.v (.int .i64 n)), .d (.sl (b.map encD))], .box i0 28 [.d (.v (.int .i64 k)), .d (.v (.int .i64 n)), .d (.sl (a.map encD))]]) (fun y => m - y) 0 ⟨Nat.zero_le _, HR0.out⟩ ?_ ?_ ?_
  · repeat (first | exact sub_nil _ | refine sub_cons (by simp [PF.get]; rfl) (by first | rfl | (simp [*]; done) | fail) ?_)
  · repeat (first | exact List.Sublist.refl _ | exact List.nil_sublist _ | refine List.Sublist.cons_cons _ ?_ | refine List.Sublist.cons _ ?_)
  · rintro j ⟨hj, hR⟩
    clear HR0
    unfold maxLen at hml
    by_cases hlt : j < m
    · have h1 : j < a.length := by omega
      have h2 : j < b.length := by omega
      have hx := get_enc h1
      have hy := get_enc h2
      have hc : (j : Int) < m := by omega
      have hn : (0 : Int) ≤ j := by omega
      have hin := wr64 (n := (j : Int) + 1) (by omega) (by omega)
      have hR2 : Hid (R = (ceqT a[j] b[j] && ceqL (a.drop (j + 1)) (b.drop (j + 1)))) := by rw [show R = _ from hR.out, eqL_step h1 h2]; rfl
      have hc1 := Lib.hid (IH.out _ (List.getElem_mem h1) b[j])
      clear hR
      generalize ceqT a[j] b[j] = e at *
      cases e with
      | false =>
        have hf : Hid (R = false) := by rw [show R = _ from hR2.out]; rfl
        refine go_ ?_
        refine PW_drawn [(0, .a), (1, .b), (2, .a), (3, .a), (4, .a), (5, .a), (6, .b), (7, .a), (8, .a), (9, .a), (10, .a), (11, .a)] (by kernel_rfl) (by rfl) (by kernel_rfl) ?_
        refine go_ ?_
        refine POrd_call_a (hc1.out) ?_
        refine go_ ?_
        refine retP_ok (by simp) (by simp only [Try.results102]; rfl) (by simp [resP, St.box?, PF.get, loadB, TyK.agg, *]; rfl) (List.nil_sublist _) ?_
        exact ⟨by rw [hf.out]; rfl, rfl⟩
      | true =>
        have hR3 : Hid (R = ceqL (a.drop (j + 1)) (b.drop (j + 1))) := by rw [show R = _ from hR2.out]; rfl
        refine go_ ?_
        refine PW_drawn [(0, .a), (1, .b), (2, .a), (3, .a), (4, .a), (5, .a), (6, .b), (7, .a), (8, .a), (9, .a), (10, .a), (11, .a)] (by kernel_rfl) (by rfl) (by kernel_rfl) ?_
        refine go_ ?_
        refine POrd_call_a (hc1.out) ?_
        refine go_ ?_
        exact ⟨j + 1, ⟨hlt, hR3⟩, by omega, by repeat (first | exact sub_nil _ | refine sub_cons (by simp [PF.get]; rfl) (by first | rfl | (simp [*]; done) | fail) ?_), by repeat (first | exact List.Sublist.refl _ | exact List.nil_sublist _ | refine List.Sublist.cons_cons _ ?_ | refine List.Sublist.cons _ ?_)⟩
    · have hc : ¬ (j : Int) < m := by omega
      have hf : Hid (R = true) := by rw [show R = _ from hR.out, eqL_end (by omega) (by omega)]; rfl
      refine go_ ?_
      refine retP_ok (by simp) (by simp only [Try.results102]; rfl) (by simp [resP, St.box?, PF.get, loadB, TyK.agg, *]; rfl) (List.nil_sublist _) ?_
      exact ⟨by rw [hf.out]; rfl, rfl⟩
set_option maxHeartbeats 4000000 in
theorem requal_p : ∀ (t u : Tm), PCalls Try.prog 33 [aggD t, aggD u] [] fun p s => p = .d (.v (.bool (ceqT t u))) ∧ s = [] := by
  refine Tm.ind ?_
  intro k n a ih u
  obtain ⟨k', n', b⟩ := u
  rw [eqT_mk]
  simp only [aggD, encD_tm, List.map_cons, List.map_nil, Tm.kind_mk, Tm.num_mk, Tm.sub_mk]
  have IH := Lib.hid ih
  clear ih
  by_cases hk : k = k'
  rotate_left
  · have hf : ((k == k') && (n == n') && ceqL a b) = false := by rw [beq_eq_false_iff_ne.2 hk]; rfl
    rw [hf]
    clear hf
    refine PCalls.enter Try.func33 rfl Try.ntmps33 (by simp) ?_
    simp only [argsF]
    refine go_ ?_
    refine POps_box_a ?_
    intro i0 hi0
    refine go_ ?_
    refine POps_box_a ?_
    intro i1 hi1
    try simp only [St.freshB_box, St.freshB_nil, St.freshB_tok, St.freshB_obj] at hi1
    refine go_ ?_
    refine retP_ok (by simp) (by simp only [Try.results33]; rfl) (by simp [resP, St.box?, PF.get, loadB, TyK.agg, *]; rfl) (List.nil_sublist _) ?_
    exact ⟨rfl, rfl⟩
  by_cases hn : n = n'
  rotate_left
  · have hf : ((k == k') && (n == n') && ceqL a b) = false := by rw [beq_eq_false_iff_ne.2 hn, Bool.and_false]; rfl
    rw [hf]
    clear hf
    subst hk
    refine PCalls.enter Try.func33 rfl Try.ntmps33 (by simp) ?_
    simp only [argsF]
    refine go_ ?_
    refine POps_box_a ?_
    intro i0 hi0
    refine go_ ?_
    refine POps_box_a ?_
    intro i1 hi1
    try simp only [St.freshB_box, St.freshB_nil, St.freshB_tok, St.freshB_obj] at hi1
    refine go_ ?_
    refine retP_ok (by simp) (by simp only [Try.results33]; rfl) (by simp [resP, St.box?, PF.get, loadB, TyK.agg, *]; rfl) (List.nil_sublist _) ?_
    exact ⟨rfl, rfl⟩
  subst hk hn
  by_cases hl : a.length = b.length
  rotate_left
  · rw [eqL_ne hl, Bool.and_false]
    have hl2 : ((a.length : Int) != b.length) = true := bne_iff_ne.2 (by omega)
    refine PCalls.enter Try.func33 rfl Try.ntmps33 (by simp) ?_
    simp only [argsF]
    refine go_ ?_
    refine POps_box_a ?_
    intro i0 hi0
    refine go_ ?_
    refine POps_box_a ?_
    intro i1 hi1
    try simp only [St.freshB_box, St.freshB_nil, St.freshB_tok, St.freshB_obj] at hi1
    refine go_ ?_
    refine retP_ok (by simp) (by simp only [Try.results33]; rfl) (by simp [resP, St.box?, PF.get, loadB, TyK.agg, *]; rfl) (List.nil_sublist _) ?_
    exact ⟨rfl, rfl⟩
  obtain ⟨m, ha, hb⟩ : ∃ m, a.length = m ∧ b.length = m := ⟨_, hl, rfl⟩
  clear hl
  obtain ⟨R, hR0⟩ : ∃ R, R = ceqL a b := ⟨_, rfl⟩
  rw [← hR0, beq_self_eq_true, beq_self_eq_true, Bool.true_and, Bool.true_and]
  have HR0 := Lib.hid hR0
  clear hR0
  refine PCalls.enter Try.func33 rfl Try.ntmps33 (by simp) ?_
  simp only [argsF]
  refine PW_slenA (t := 0) (i := 2) (rows := a.map encD) (by simp [PF.get] <;> rfl) rfl fun hml => ?_
  rw [List.length_map, ha] at hml
  refine go_ ?_
  refine POps_box_a ?_
  intro i0 hi0
  refine go_ ?_
  refine POps_box_a ?_
  intro i1 hi1
  try simp only [St.freshB_box, St.freshB_nil, St.freshB_tok, St.freshB_obj] at hi1
  refine go_ ?_
  refine PW_loop (ι := Nat) (fun y => y ≤ m ∧ Hid (R = ceqL (a.drop y) (b.drop y))) (fun y => [(2, .ptr i0 0), (3, .ptr i1 0), (5, .d (.v (.int .i64 (y : Int))))]) (fun _ => [.box i1 28 [.d (.v (.int .i64 k)), .d (.v (.int .i64 n)), .d (.sl (b.map encD))], .box i0 28 [.d (.v (.int .i64 k)), .d (.v (.int .i64 n)), .d (.sl (a.map encD))]]) (fun y => m - y) 0 ⟨Nat.zero_le _, HR0.out⟩ ?_ ?_ ?_
  · repeat (first | exact sub_nil _ | refine sub_cons (by simp [PF.get]; rfl) (by first | rfl | (simp [*]; done) | fail) ?_)
  · repeat (first | exact List.Sublist.refl _ | exact List.nil_sublist _ | refine List.Sublist.cons_cons _ ?_ | refine List.Sublist.cons _ ?_)
  · rintro j ⟨hj, hR⟩
    clear HR0
    unfold maxLen at hml
    by_cases hlt : j < m
    · have h1 : j < a.length := by omega
      have h2 : j < b.length := by omega
      have hx := get_enc h1
      have hy := get_enc h2
      have hc : (j : Int) < m := by omega
      have hn : (0 : Int) ≤ j := by omega
      have hin := wr64 (n := (j : Int) + 1) (by omega) (by omega)
      have hR2 : Hid (R = (ceqT a[j] b[j] && ceqL (a.drop (j + 1)) (b.drop (j + 1)))) := by rw [show R = _ from hR.out, eqL_step h1 h2]; rfl
      have hc1 := Lib.hid (IH.out _ (List.getElem_mem h1) b[j])
      clear hR
      generalize ceqT a[j] b[j] = e at *
      cases e with
      | false =>
        have hf : Hid (R = false) := by rw [show R = _ from hR2.out]; rfl
        refine go_ ?_
        refine PW_drawn [(0, .a), (1, .b), (2, .a), (3, .a), (4, .a), (5, .a), (6, .b), (7, .a), (8, .a), (9, .a), (10, .a), (11, .a)] (by kernel_rfl) (by rfl) (by kernel_rfl) ?_
        refine go_ ?_
        refine POrd_call_a (hc1.out) ?_
        refine go_ ?_
        refine retP_ok (by simp) (by simp only [Try.results33]; rfl) (by simp [resP, St.box?, PF.get, loadB, TyK.agg, *]; rfl) (List.nil_sublist _) ?_
        exact ⟨by rw [hf.out]; rfl, rfl⟩
      | true =>
        have hR3 : Hid (R = ceqL (a.drop (j + 1)) (b.drop (j + 1))) := by rw [show R = _ from hR2.out]; rfl
        refine go_ ?_
        refine PW_drawn [(0, .a), (1, .b), (2, .a), (3, .a), (4, .a), (5, .a), (6, .b), (7, .a), (8, .a), (9, .a), (10, .a), (11, .a)] (by kernel_rfl) (by rfl) (by kernel_rfl) ?_
        refine go_ ?_
        refine POrd_call_a (hc1.out) ?_
        refine go_ ?_
        exact ⟨j + 1, ⟨hlt, hR3⟩, by omega, by repeat (first | exact sub_nil _ | refine sub_cons (by simp [PF.get]; rfl) (by first | rfl | (simp [*]; done) | fail) ?_), by repeat (first | exact List.Sublist.refl _ | exact List.nil_sublist _ | refine List.Sublist.cons_cons _ ?_ | refine List.Sublist.cons _ ?_)⟩
    · have hc : ¬ (j : Int) < m := by omega
      have hf : Hid (R = true) := by rw [show R = _ from hR.out, eqL_end (by omega) (by omega)]; rfl
      refine go_ ?_
      refine retP_ok (by simp) (by simp only [Try.results33]; rfl) (by simp [resP, St.box?, PF.get, loadB, TyK.agg, *]; rfl) (List.nil_sublist _) ?_
      exact ⟨by rw [hf.out]; rfl, rfl⟩
end Go.Proofs.Ytfnfbbmegdkhjaa

namespace Go.Proofs.Ytfnfbbmegdkhjaa
open Go.RowKit
set_option maxRecDepth 100000
theorem PCalls.norm {P : Program} {f : FuncId} {args : List PV} {st : St} {R R' : PV → St → Prop} (h : PCalls P f args st R) (hr : ∀ p s, R p s → R' p.norm0 []) : PCalls P f args st R' :=
  fun F K w vs h1 h2 => (h F K w vs h1 h2).mono fun _ _ ⟨v, K', p, _, a, b, c, d, e⟩ => ⟨v, K', p.norm0, [], a, b, c.sub (List.nil_sublist _), leq_norm0 _ _ _ _ d, hr _ _ e⟩
theorem rows1 (l : List Int) : ∀ row ∈ l.map encD, row.length = 1 := rows_of rfl
theorem cnd_mem {l : List Tm} : ∀ s ∈ l, cndT s ≤ cndL l := by
  induction l with
  | nil => intro s hs; cases hs
  | cons t ts ih =>
    intro s hs
    simp only [cndL]
    rcases List.mem_cons.1 hs with rfl | hs
    · omega
    · have := ih s hs; omega
theorem rows1a (l m : List Int) : ∀ row ∈ l.map encD ++ m.map encD, row.length = 1 := fun row h => (List.mem_append.1 h).elim (rows1 _ row) (rows1 _ row)
theorem clS_take {a b : Int} {l : List Tm} {j : Nat} (h : j < l.length) : clS a b (l.take (j + 1)) = clS a b (l.take j) ++ clT a b l[j] := by
  rw [List.take_succ_eq_append_getElem h, clS_append]
  simp only [clS, List.append_nil]
theorem clS_len (a b : Int) (l : List Tm) : (clS a b l).length ≤ cndL l := by
  induction l with
  | nil => exact Nat.le_refl _
  | cons t ts ih =>
    have := cl_len a b t
    simp only [clS, cndL, List.length_append]; omega
set_option maxHeartbeats 4000000 in
theorem collect_o : ∀ (t : Tm) (a b : Int), cndT t ≤ 100000 → PCalls Try.prog 101 [aggD t, .d (.v (.int .i64 a)), .d (.v (.int .i64 b))] [] fun p s => ∃ g, p = .own g ((clT a b t).map encD) ∧ s = [.tok g 3 1 (clT a b t).length] := by
  refine Tm.ind ?_
  intro k n sub ih a b hnd
  have hc0 : clT a b (.mk k n sub) = (if k = a ∨ k = b then [n] else []) ++ clS a b sub := by simp only [clT]
  have hns : cndL sub ≤ 100000 := by simp only [cndT] at hnd; omega
  have IH : Hid (∀ s ∈ sub, PCalls Try.prog 101 [aggD s, .d (.v (.int .i64 a)), .d (.v (.int .i64 b))] [] fun p st => p = .d (.sl ((clT a b s).map encD)) ∧ st = []) := fun s hs =>
    (ih s hs a b (by have := cnd_mem s hs; omega)).norm fun p st ⟨g, e1, e2⟩ => ⟨by rw [e1]; rfl, rfl⟩
  have hl0 : (if k = a ∨ k = b then [n] else []).length ≤ 1 := by split <;> simp
  simp only [aggD, encD_tm, List.map_cons, List.map_nil, Tm.kind_mk, Tm.num_mk, Tm.sub_mk]
  clear ih hnd
  rw [hc0]
  clear hc0
  obtain ⟨r0, hr0⟩ : ∃ r0, (if k = a ∨ k = b then [n] else []) = r0 := ⟨_, rfl⟩
  rw [hr0] at hl0 ⊢
  refine PCalls.enter Try.func101 rfl Try.ntmps101 (by simp) ?_
  simp only [argsF]
  refine go_ ?_
  refine POps_box_a ?_
  intro i0 hi0
  refine Qq ?_
  refine Qh ?_
  refine Qj ?_
  refine gs_ ?_
  refine Qc ?_
  refine gs_ ?_
  refine PW_own 7 3 1 (by decide) (by simp [PF.get] <;> rfl) fun g hg => ?_
  by_cases hk : k = a ∨ k = b
  · rw [if_pos hk] at hr0
    by_cases h1 : k = a
    · clear hk
      refine go_ ?_
      refine POps_bs_a ?_
      refine go_ ?_
      refine POps_app_a 1 ?_ ?_ ?_ ?_
      · rfl
      · simp
      · simp
      refine gs_ ?_
      clear h1
      refine go_ ?_
      refine PW_slenA (t := 0) (i := 2) (rows := sub.map encD) (by simp [PF.get] <;> rfl) rfl fun hml => ?_
      rw [List.length_map] at hml
      refine PW_loop (ι := Nat) (fun y => y ≤ sub.length) (fun y => [(1, .d (.v (.int .i64 a))), (2, .d (.v (.int .i64 b))), (7, .own g ((r0 ++ clS a b (sub.take y)).map encD)), (26, .d (.sl (sub.map encD))), (27, .d (.v (.int .i64 sub.length))), (28, .d (.v (.int .i64 (y : Int))))]) (fun y => [.tok g 3 1 (r0 ++ clS a b (sub.take y)).length]) (fun y => sub.length - y) 0 (Nat.zero_le _) ?_ ?_ ?_
      · subst hr0
        repeat (first | exact sub_nil _ | refine sub_cons (by simp [PF.get]; rfl) (by first | rfl | (simp [clS, List.take_zero, List.append_nil]; done) | fail) ?_)
      · subst hr0
        simp only [clS, List.take_zero, List.append_nil]
        repeat (first | exact List.Sublist.refl _ | exact List.nil_sublist _ | refine List.Sublist.cons_cons _ ?_ | refine List.Sublist.cons _ ?_)
      · rintro j hj
        clear hr0
        unfold maxLen at hml
        by_cases hlt : j < sub.length
        · have hx := get_enc hlt
          have hc : (j : Int) < sub.length := by omega
          have hn : (0 : Int) ≤ j := by omega
          have hin := wr64 (n := (j : Int) + 1) (by omega) (by omega)
          have hT := clS_take (a := a) (b := b) hlt
          have hlen := Nat.le_trans (clS_len a b (sub.take (j + 1))) (Nat.le_trans (cndL_take sub (j + 1)) hns)
          rw [hT, List.length_append] at hlen
          have hlA : (r0 ++ clS a b (sub.take j)).length ≤ 100001 := by rw [List.length_append]; omega
          have HT := Lib.hid hT
          clear hT
          have hc1 := Lib.hid (IH.out _ (List.getElem_mem hlt))
          generalize clT a b sub[j] = x at *
          refine go_ ?_
          refine POps_alloc_a ?_
          intro i2 hi2
          try simp only [St.freshB_box, St.freshB_nil, St.freshB_tok, St.freshB_obj] at hi2
          refine go_ ?_
          refine Rc ?_
          refine go_ ?_
          refine POps_call_a (hc1.out) ?_
          refine go_ ?_
          refine POps_app_a ((r0 ++ clS a b (sub.take j)).length + x.length) ?_ ?_ ?_ ?_
          · simp
          · exact rows1a _ _
          · exact rows1 _
          refine go_ ?_
          refine ⟨j + 1, hlt, by omega, ?_, ?_⟩
          · rw [HT.out, ← List.append_assoc]
            repeat (first | exact sub_nil _ | refine sub_cons (by simp [PF.get]; rfl) (by first | rfl | (simp [*]; done) | fail) ?_)
          · rw [HT.out, ← List.append_assoc]
            simp only [List.length_append]
            repeat (first | exact List.Sublist.refl _ | exact List.nil_sublist _ | refine List.Sublist.cons_cons _ ?_ | refine List.Sublist.cons _ ?_)
        · have hc : ¬ (j : Int) < sub.length := by omega
          have htk : sub.take j = sub := List.take_of_length_le (by omega)
          rw [htk]
          refine go_ ?_
          refine retP_keep (st' := [.tok g 3 1 (r0 ++ clS a b sub).length]) (by simp) (by simp only [Try.results101]; rfl) (by simp [resP, PF.get]; rfl) (by repeat (first | exact List.Sublist.refl _ | exact List.nil_sublist _ | refine List.Sublist.cons_cons _ ?_ | refine List.Sublist.cons _ ?_)) ⟨g, by simp [tupP], rfl⟩
    · have h2 : k = b := hk.resolve_left h1
      clear hk
      have h1b : ¬ b = a := fun e => h1 (h2.trans e)
      refine go_ ?_
      refine POps_bs_a ?_
      refine go_ ?_
      refine POps_app_a 1 ?_ ?_ ?_ ?_
      · rfl
      · simp
      · simp
      refine gs_ ?_
      clear h1 h2 h1b
      refine go_ ?_
      refine PW_slenA (t := 0) (i := 2) (rows := sub.map encD) (by simp [PF.get] <;> rfl) rfl fun hml => ?_
      rw [List.length_map] at hml
      refine PW_loop (ι := Nat) (fun y => y ≤ sub.length) (fun y => [(1, .d (.v (.int .i64 a))), (2, .d (.v (.int .i64 b))), (7, .own g ((r0 ++ clS a b (sub.take y)).map encD)), (26, .d (.sl (sub.map encD))), (27, .d (.v (.int .i64 sub.length))), (28, .d (.v (.int .i64 (y : Int))))]) (fun y => [.tok g 3 1 (r0 ++ clS a b (sub.take y)).length]) (fun y => sub.length - y) 0 (Nat.zero_le _) ?_ ?_ ?_
      · subst hr0
        repeat (first | exact sub_nil _ | refine sub_cons (by simp [PF.get]; rfl) (by first | rfl | (simp [clS, List.take_zero, List.append_nil]; done) | fail) ?_)
      · subst hr0
        simp only [clS, List.take_zero, List.append_nil]
        repeat (first | exact List.Sublist.refl _ | exact List.nil_sublist _ | refine List.Sublist.cons_cons _ ?_ | refine List.Sublist.cons _ ?_)
      · rintro j hj
        clear hr0
        unfold maxLen at hml
        by_cases hlt : j < sub.length
        · have hx := get_enc hlt
          have hc : (j : Int) < sub.length := by omega
          have hn : (0 : Int) ≤ j := by omega
          have hin := wr64 (n := (j : Int) + 1) (by omega) (by omega)
          have hT := clS_take (a := a) (b := b) hlt
          have hlen := Nat.le_trans (clS_len a b (sub.take (j + 1))) (Nat.le_trans (cndL_take sub (j + 1)) hns)
          rw [hT, List.length_append] at hlen
          have hlA : (r0 ++ clS a b (sub.take j)).length ≤ 100001 := by rw [List.length_append]; omega
          have HT := Lib.hid hT
          clear hT
          have hc1 := Lib.hid (IH.out _ (List.getElem_mem hlt))
          generalize clT a b sub[j] = x at *
          refine go_ ?_
          refine POps_alloc_a ?_
          intro i2 hi2
          try simp only [St.freshB_box, St.freshB_nil, St.freshB_tok, St.freshB_obj] at hi2
          refine go_ ?_
          refine Rc ?_
          refine go_ ?_
          refine POps_call_a (hc1.out) ?_
          refine go_ ?_
          refine POps_app_a ((r0 ++ clS a b (sub.take j)).length + x.length) ?_ ?_ ?_ ?_
          · simp
          · exact rows1a _ _
          · exact rows1 _
          refine go_ ?_
          refine ⟨j + 1, hlt, by omega, ?_, ?_⟩
          · rw [HT.out, ← List.append_assoc]
            repeat (first | exact sub_nil _ | refine sub_cons (by simp [PF.get]; rfl) (by first | rfl | (simp [*]; done) | fail) ?_)
          · rw [HT.out, ← List.append_assoc]
            simp only [List.length_append]
            repeat (first | exact List.Sublist.refl _ | exact List.nil_sublist _ | refine List.Sublist.cons_cons _ ?_ | refine List.Sublist.cons _ ?_)
        · have hc : ¬ (j : Int) < sub.length := by omega
          have htk : sub.take j = sub := List.take_of_length_le (by omega)
          rw [htk]
          refine go_ ?_
          refine retP_keep (st' := [.tok g 3 1 (r0 ++ clS a b sub).length]) (by simp) (by simp only [Try.results101]; rfl) (by simp [resP, PF.get]; rfl) (by repeat (first | exact List.Sublist.refl _ | exact List.nil_sublist _ | refine List.Sublist.cons_cons _ ?_ | refine List.Sublist.cons _ ?_)) ⟨g, by simp [tupP], rfl⟩
  · rw [if_neg hk] at hr0
    have h1 : ¬ k = a := fun h => hk (.inl h)
    have h2 : ¬ k = b := fun h => hk (.inr h)
    clear hk
    refine go_ ?_
    refine PW_slenA (t := 0) (i := 2) (rows := sub.map encD) (by simp [PF.get] <;> rfl) rfl fun hml => ?_
    rw [List.length_map] at hml
    refine PW_loop (ι := Nat) (fun y => y ≤ sub.length) (fun y => [(1, .d (.v (.int .i64 a))), (2, .d (.v (.int .i64 b))), (7, .own g ((r0 ++ clS a b (sub.take y)).map encD)), (26, .d (.sl (sub.map encD))), (27, .d (.v (.int .i64 sub.length))), (28, .d (.v (.int .i64 (y : Int))))]) (fun y => [.tok g 3 1 (r0 ++ clS a b (sub.take y)).length]) (fun y => sub.length - y) 0 (Nat.zero_le _) ?_ ?_ ?_
    · subst hr0
      repeat (first | exact sub_nil _ | refine sub_cons (by simp [PF.get]; rfl) (by first | rfl | (simp [clS, List.take_zero, List.append_nil]; done) | fail) ?_)
    · subst hr0
      simp only [clS, List.take_zero, List.append_nil]
      repeat (first | exact List.Sublist.refl _ | exact List.nil_sublist _ | refine List.Sublist.cons_cons _ ?_ | refine List.Sublist.cons _ ?_)
    · rintro j hj
      clear hr0
      unfold maxLen at hml
      by_cases hlt : j < sub.length
      · have hx := get_enc hlt
        have hc : (j : Int) < sub.length := by omega
        have hn : (0 : Int) ≤ j := by omega
        have hin := wr64 (n := (j : Int) + 1) (by omega) (by omega)
        have hT := clS_take (a := a) (b := b) hlt
        have hlen := Nat.le_trans (clS_len a b (sub.take (j + 1))) (Nat.le_trans (cndL_take sub (j + 1)) hns)
        rw [hT, List.length_append] at hlen
        have hlA : (r0 ++ clS a b (sub.take j)).length ≤ 100001 := by rw [List.length_append]; omega
        have HT := Lib.hid hT
        clear hT
        have hc1 := Lib.hid (IH.out _ (List.getElem_mem hlt))
        generalize clT a b sub[j] = x at *
        refine go_ ?_
        refine POps_alloc_a ?_
        intro i2 hi2
        try simp only [St.freshB_box, St.freshB_nil, St.freshB_tok, St.freshB_obj] at hi2
        refine go_ ?_
        refine Rc ?_
        refine go_ ?_
        refine POps_call_a (hc1.out) ?_
        refine go_ ?_
        refine POps_app_a ((r0 ++ clS a b (sub.take j)).length + x.length) ?_ ?_ ?_ ?_
        · simp
        · exact rows1a _ _
        · exact rows1 _
        refine go_ ?_
        refine ⟨j + 1, hlt, by omega, ?_, ?_⟩
        · rw [HT.out, ← List.append_assoc]
          repeat (first | exact sub_nil _ | refine sub_cons (by simp [PF.get]; rfl) (by first | rfl | (simp [*]; done) | fail) ?_)
        · rw [HT.out, ← List.append_assoc]
          simp only [List.length_append]
          repeat (first | exact List.Sublist.refl _ | exact List.nil_sublist _ | refine List.Sublist.cons_cons _ ?_ | refine List.Sublist.cons _ ?_)
      · have hc : ¬ (j : Int) < sub.length := by omega
        have htk : sub.take j = sub := List.take_of_length_le (by omega)
        rw [htk]
        refine go_ ?_
        refine retP_keep (st' := [.tok g 3 1 (r0 ++ clS a b sub).length]) (by simp) (by simp only [Try.results101]; rfl) (by simp [resP, PF.get]; rfl) (by repeat (first | exact List.Sublist.refl _ | exact List.nil_sublist _ | refine List.Sublist.cons_cons _ ?_ | refine List.Sublist.cons _ ?_)) ⟨g, by simp [tupP], rfl⟩
end Go.Proofs.Ytfnfbbmegdkhjaa

namespace Go.Proofs.Ytfnfbbmegdkhjaa
open Go.RowKit Go.Shelf
set_option maxRecDepth 100000
theorem rep_tm {S : Nat → Prop} {w : World} {t : Tm} {cs : List Value} : Rep S w t cs ↔ ∃ v, cs = [.int .i64 t.kind, .int .i64 t.num, v] ∧ RepS S w v t.sub := by
  cases t with
  | mk k n sub =>
  unfold Rep RepS
  simp only [Enc.enc, Enc.sz, tmD, tmDs_map, RepF, Tm.kind, Tm.num, Tm.sub]
  constructor
  · rintro ⟨c, cr, rfl, h1, c, cr, rfl, h2, c, cr, rfl, h5, rfl⟩
    simp only [RepV] at h1 h2
    obtain ⟨rfl, -⟩ := h1
    obtain ⟨rfl, -⟩ := h2
    exact ⟨_, rfl, h5⟩
  · rintro ⟨v, rfl, h5⟩
    exact ⟨_, _, rfl, by simp [RepV, Value.oneCell'], _, _, rfl, by simp [RepV, Value.oneCell'], _, _, rfl, h5, rfl⟩
/-- whole numbers that a call made, in a block of its own -/
theorem PCalls.ownI {P : Program} {f : FuncId} {args : List PV} {E : TypeId} {l : List Int} (h : PCalls P f args [] fun p s => ∃ g, p = .own g (l.map encD) ∧ s = [.tok g E 1 l.length]) {w : World} {vs : Array Value} (ha : RelVs (K0 w) w args vs) :
    Calls P f vs w fun e w' => ∃ u c, e = .returned (.slice u l.length c) ∧ w'.ownsRow w.heap.size E 1 (.slice u l.length c) l.length (l.map (Value.int .i64)) ∧ Below w.heap.size w w' := by
  refine (h (F0 w) (K0 w) w vs (rel0 w) ha).mono ?_
  rintro e w' ⟨v, K', p, st', rfl, hx, hr, hv, g, rfl, rfl⟩
  obtain ⟨u, xs, h1, h2, h3, h4, h5⟩ := hr.ents _ (List.mem_singleton.2 rfl)
  generalize hrows : l.map encD = rows at hv
  cases hv with
  | @own _ _ _ u' hd hg hle heq =>
  rw [h1] at hg
  obtain rfl := Option.some.inj hg
  have hlen : rows.length = l.length := by rw [← hrows, List.length_map]
  have hvu := heq (by rw [h3, hlen])
  subst hvu
  obtain ⟨a, cap, hv, hc1, hc2⟩ := rows_form hd
  subst hv
  rw [hlen] at *
  refine ⟨a, cap, rfl, ?_, hx.os, hx.tape, hx.output, hx.size, fun k hk => hx.hp k hk⟩
  have hxs : xs = l.map (Value.int .i64) := by
    obtain ⟨ys, hy, a', cap', he, hcell⟩ := hd.rv (es := 1) (by decide) (by rw [← hrows]; exact rows1 l)
    have hyl : ys = l.map (Value.int .i64) := by
      refine List.ext_getElem? fun i => ?_
      by_cases hi : i < l.length
      · have hr1 : rows[i]? = some [D.v (.int .i64 l[i])] := by rw [← hrows, List.getElem?_map, List.getElem?_eq_getElem hi]; rfl
        obtain ⟨x, h6, h7⟩ := hy.2.2 i 0 _ (.v (.int .i64 l[i])) hr1 rfl
        cases h7
        rw [show i * 1 + 0 = i by omega] at h6
        rw [h6, List.getElem?_map, List.getElem?_eq_getElem hi]; rfl
      · rw [List.getElem?_eq_none (by rw [hy.1, ← hrows, List.length_map]; omega), List.getElem?_eq_none (by rw [List.length_map]; omega)]
    rw [← hyl]
    have hxl : xs.length = l.length := by rw [h4.1]; omega
    have hyll : ys.length = l.length := by rw [hyl, List.length_map]
    rcases h4.2 with ⟨e1, e2⟩ | ⟨g', cap2, cur, e1, e2, e3, e4, e5, e6, e7⟩
    · rw [List.eq_nil_of_length_eq_zero (hxl.trans e2), List.eq_nil_of_length_eq_zero (hyll.trans e2)]
    · refine List.ext_getElem? fun i => ?_
      by_cases hi : i < l.length
      · obtain ⟨y, hyi⟩ : ∃ y, ys[i]? = some y := ⟨_, List.getElem?_eq_getElem (by omega)⟩
        injection e1 with e8 _ _
        injection he with e9 _ _
        have h8 := (hcell ⟨g', 0, none⟩ (by rw [← e9, e8]) i y hyi).1
        rw [hyi, ← e7, List.getElem?_take, if_pos (by omega)]
        rw [addr_plus, Nat.zero_add, cell_at e3] at h8
        simpa using h8
      · rw [List.getElem?_eq_none (by omega), List.getElem?_eq_none (by omega)]
  rw [hxs] at h4
  refine ⟨h4.1, ?_⟩
  rcases h4.2 with h | ⟨g', cap', cur, e1, e2, e3, e4⟩
  · exact .inl h
  · refine .inr ⟨g', cap', cur, e1, ?_, e3, e4⟩
    have := (h5 g' (by rw [e1]; rfl)).1
    exact Nat.le_of_not_lt this
theorem own_block {w : World} {base e n : Nat} {u : Option Addr} {c : Nat} {N : List Int} (h : w.ownsRow base e 1 (.slice u n c) n (N.map (Value.int .i64))) (hn : N.length = n) (h0 : 0 < n) :
    ∃ g cur, u = some ⟨g, 0, none⟩ ∧ base ≤ g ∧ g < w.heap.size ∧ w.heap[g]? = some (.cells cur e (0, 0)) ∧ n ≤ c ∧ c ≤ maxLen ∧ cur.size = c * 1 ∧ cur.toList.take N.length = N.map (Value.int .i64) := by
  rcases h.2 with ⟨e0, _⟩ | ⟨g', cap', cur, e0, hb, hg, hn', hm, hs, ht⟩
  · cases e0; omega
  · injection e0 with e1 _ e3
    subst e1; subst e3
    have hlt : g' < w.heap.size := by
      obtain ⟨h1, _⟩ := Array.getElem?_eq_some_iff.1 hg; exact h1
    exact ⟨g', cur, rfl, hb, hlt, hg, hn', hm, hs, by rw [hn]; simpa using ht⟩
theorem slsort_any (N : List Int) (u : Option Addr) (c base : Nat) (w : World) (hN5 : N.length ≤ 50000) (hbase : base ≤ w.heap.size) (hown : w.ownsRow base 3 1 (.slice u N.length c) N.length (N.map (Value.int .i64))) :
    Calls Try.prog 133 #[.slice u N.length c] w fun e w' => e = .returned (.tuple #[]) ∧ w'.ownsRow base 3 1 (.slice u N.length c) N.length ((N.mergeSort fun x y => decide (x ≤ y)).map (Value.int .i64)) ∧ Below base w w' := by
  by_cases h0 : 0 < N.length
  · obtain ⟨g, cur, rfl, hb, hlt, hg, hnc, hm, hs, ht⟩ := own_block hown rfl h0
    have H := Any.slices_Sort_int Try.lays189 g 0 c N w (holds_of_blockI hg ht) hlt (by omega)
    refine H.mono ?_
    rintro e w' ⟨rfl, n, os, rfl⟩
    refine ⟨rfl, ownsRow_sortedI (by simp) hb hg hnc hm hs, ?_⟩
    exact (Below.refl base w).grown (grownBy_sortedI _) hbase (fun k hk => by cases hk; exact hb)
  · have hN : N = [] := List.length_eq_zero_iff.1 (by omega)
    subst hN
    refine (Any.slices_Sort_int_none Try.lays189 u c w).mono ?_
    rintro e w' ⟨rfl, rfl⟩
    exact ⟨rfl, by simpa using hown, Below.refl _ _⟩
theorem slcompact_any (N : List Int) (u : Option Addr) (c base : Nat) (w : World) (hown : w.ownsRow base 3 1 (.slice u N.length c) N.length (N.map (Value.int .i64))) :
    Calls Try.prog 134 #[.slice u N.length c] w fun e w' => e = .returned (.slice u (Lib.compact N).length c) ∧ w'.ownsRow base 3 1 (.slice u (Lib.compact N).length c) (Lib.compact N).length ((Lib.compact N).map (Value.int .i64)) ∧ Below base w w' := by
  by_cases h0 : 0 < N.length
  · obtain ⟨g, cur, rfl, hb, hlt, hg, hnc, hm, hs, ht⟩ := own_block hown rfl h0
    have hle := Lib.compact_length_le N
    have H := Any.slices_Compact_int Try.laysNm220 g 0 c N w (holds_of_blockI hg ht) (by unfold maxLen at hm; omega) hnc
    refine H.mono ?_
    rintro e w' ⟨rfl, q, rfl⟩
    have h := Lib.ownsRow_putRow (q := q) (ys := Lib.compact N ++ List.replicate (N.length - (Lib.compact N).length) 0) hown (by simp; omega) hle
    rw [List.take_left'] at h
    · exact ⟨rfl, h, Lib.below_putRow (Below.refl _ _) hb⟩
    · rfl
  · have hN : N = [] := List.length_eq_zero_iff.1 (by omega)
    subst hN
    refine (Any.slices_Compact_int_empty Try.laysNm220 u c w).mono ?_
    rintro e w' ⟨rfl, rfl⟩
    exact ⟨rfl, hown, Below.refl _ _⟩
set_option maxHeartbeats 4000000 in
theorem rising_any (a b : Int) (t : Tm) (u : Option Addr) (c base : Nat) (w : World) (hnd : cndT t ≤ 20000) (hbase : base ≤ w.heap.size) (hown : w.ownsRow base 3 1 (.slice u (clT a b t).length c) (clT a b t).length ((clT a b t).map (Value.int .i64))) :
    Calls Try.prog 100 #[.slice u (clT a b t).length c] w fun e w' => e = .returned (.slice u (nmT a b t).length c) ∧ w'.ownsRow base 3 1 (.slice u (nmT a b t).length c) (nmT a b t).length ((nmT a b t).map (Value.int .i64)) ∧ Below base w w' := by
  have hR := rise_nm a b t
  have S1 := Lib.hid (slsort_any _ u c base w (by have := cl_len a b t; omega) hbase hown)
  have hml : ((clT a b t).mergeSort fun x y => decide (x ≤ y)).length = (clT a b t).length := List.length_mergeSort _
  rw [← hml] at S1 ⊢
  generalize ((clT a b t).mergeSort fun x y => decide (x ≤ y)) = S at *
  generalize nmT a b t = R at *
  clear hown hml
  have HR := Lib.hid hR
  clear hR
  go_enter Try.func100, Try.ntmps100
  go_wp2_with fail
  refine S1.out.mono ?_
  rintro e w1 ⟨rfl, ho1, hb1⟩
  have C := Lib.hid (slcompact_any S u c base w1 ho1)
  have HB1 := Lib.hid hb1
  clear ho1 hb1 S1
  go_wp2_with fail
  refine C.out.mono ?_
  rw [HR.out]
  rintro e w2 ⟨rfl, ho2, hb2⟩
  have HO := Lib.hid ho2
  have HB := Lib.hid (HB1.out.trans hb2)
  clear ho2 hb2 C
  go_wp2_with fail
  go_ret
  exact ⟨rfl, HO.out, HB.out⟩
end Go.Proofs.Ytfnfbbmegdkhjaa

namespace Go.Proofs.Ytfnfbbmegdkhjaa
open Go.RowKit
set_option maxRecDepth 100000
theorem relK0 {α : Type} [Enc α] [EncOk α] {w : World} {t : α} {cs : List Value} (h : Rep (fun _ => True) w t cs) : RelV (K0 w) w (aggD t) (.agg cs.toArray) := rel_rep (K := K0 w) (fun b o v _ h => ⟨v, h⟩) h
theorem rvI (K : Nat → Nat → Prop) (w : World) (l : List Int) : RV K w 1 (l.map encD) (l.map (Value.int .i64)) := by
  refine ⟨by simp, rows1 l, fun i j row d hi hj => ?_⟩
  rw [List.getElem?_map] at hi
  obtain ⟨n, hn, rfl⟩ := Option.map_eq_some_iff.1 hi
  have hj0 : j = 0 := by
    have := (List.getElem?_eq_some_iff.1 hj).1
    simpa [encD_int] using this
  subst hj0
  obtain rfl : D.v (.int .i64 n) = d := Option.some.inj hj
  exact ⟨.int .i64 n, by rw [show i * 1 + 0 = i by omega, List.getElem?_map, hn]; rfl, .v trivial⟩
theorem relI {w w' : World} {base e : Nat} {v : Value} {l : List Int} (h : w'.ownsRow base e 1 v l.length (l.map (Value.int .i64))) (hb : w.heap.size ≤ base) {K' : Kp} (hK : ∀ b o u, w.heap.size ≤ b → w'.cell? ⟨b, o, none⟩ = some u → K'.cell b o) : RelD K'.cell w' (.sl (l.map encD)) v := by
  refine (rvI K'.cell w' l).rel (E := e) (n := l.length) ⟨h.1, ?_⟩ (by rw [List.length_map]) fun b hv o ho => ?_
  · rcases h.2 with h | ⟨g, cap, cur, e1, e2, e3⟩
    · exact .inl h
    · exact .inr ⟨g, cap, cur, e1, Nat.zero_le _, e3⟩
  · rcases h.2 with ⟨e1, -⟩ | ⟨g, cap, cur, e1, e2, e3, e4, e5, e6, e7⟩
    · rw [e1] at hv; cases hv
    · rw [e1] at hv
      obtain rfl : g = b := Option.some.inj hv
      obtain ⟨u, hu⟩ : ∃ u, cur[o]? = some u := ⟨_, Array.getElem?_eq_getElem (by omega)⟩
      exact hK g o u (by omega) (by rw [cell_at e3]; exact hu)
set_option maxHeartbeats 4000000 in
theorem tfrees_p (t : Tm) : PCalls Try.prog 58 [aggD t] [] fun p s => p = .d (.sl ((enT 8 8 t).map encD)) ∧ s = [] := by
  refine PCalls.data fun K w vs ha => ?_
  obtain ⟨v, rfl, hv⟩ := ha.one
  obtain ⟨cs, rfl, ht⟩ := rep_rel hv
  obtain ⟨sv, rfl, hsub⟩ := rep_tm.1 ht
  obtain ⟨ad, nn, cap, rfl⟩ := hsub.form
  have E := boxes1 w #[.int .i64 t.kind, .int .i64 t.num, .slice ad nn cap] 28
  have HT := Lib.hid ht
  have HE := Lib.hid E
  have SH := Lib.hid (((tshaped_p t).mono fun _ _ h => h.1).top (relVs_cons (relK0 (ht.later E.2.1)) (relVs_nil _ _)))
  clear hv ha hsub ht E
  cases hb : shapedB t with
  | true =>
    have hE : enT 8 8 t = nmT 8 8 t := if_pos hb
    have hnd := (shaped_hg hb).2.2
    rw [hb] at SH
    rw [hE]
    clear hE hb
    go_enter Try.func58, Try.ntmps58
    go_wp2_with fail
    refine SH.out.mono ?_
    rintro e w1 ⟨rfl, hb1⟩
    have h1 := (hb1.block w.heap.size (by have := HE.out.2.2; omega)).trans HE.out.1
    have c0 := cell_at h1 0
    have c1 := cell_at h1 1
    have c2 := cell_at h1 2
    have HW1 := Lib.hid (HE.out.2.1.trans (hb1.mono HE.out.2.1.size))
    have C := Lib.hid ((collect_o t 8 8 (by omega)).ownI (relVs_cons (relK0 (HT.out.later HW1.out)) (relVs_cons (.d (.v trivial)) (relVs_cons (.d (.v trivial)) (relVs_nil _ _)))))
    clear hb1 SH h1
    go_wp2_with fail
    refine C.out.mono ?_
    rintro e w2 ⟨u, c, rfl, ho, hb2⟩
    have R := Lib.hid (rising_any 8 8 t u c w1.heap.size w2 (by omega) hb2.size ho)
    have HB2 := Lib.hid hb2
    clear hb2 ho C c0 c1 c2
    go_wp2_with fail
    refine R.out.mono ?_
    rintro e w3 ⟨rfl, ho3, hb3⟩
    have HS := Lib.hid ho3
    have HB := Lib.hid (HW1.out.trans ((HB2.out.trans hb3).mono HW1.out.size))
    have HZ := Lib.hid HW1.out.size
    clear hb3 ho3 R
    go_wp2_with fail
    go_ret
    exact ⟨_, rfl, HB.out, fun K' hK => .d (relI HS.out HZ.out hK)⟩
  | false =>
    have hE : enT 8 8 t = [] := if_neg (by rw [hb]; simp)
    rw [hb] at SH
    rw [hE]
    clear hE hb
    go_enter Try.func58, Try.ntmps58
    go_wp2_with fail
    refine SH.out.mono ?_
    rintro e w1 ⟨rfl, hb1⟩
    have HW1 := Lib.hid (HE.out.2.1.trans (hb1.mono HE.out.2.1.size))
    clear hb1
    go_wp2_with fail
    go_ret
    exact ⟨_, rfl, HW1.out, fun K' hK => .d (.nil (by decide))⟩
set_option maxHeartbeats 4000000 in
theorem tentries_p (t : Tm) : PCalls Try.prog 191 [aggD t] [] fun p s => p = .d (.sl ((enT 6 7 t).map encD)) ∧ s = [] := by
  refine PCalls.data fun K w vs ha => ?_
  obtain ⟨v, rfl, hv⟩ := ha.one
  obtain ⟨cs, rfl, ht⟩ := rep_rel hv
  obtain ⟨sv, rfl, hsub⟩ := rep_tm.1 ht
  obtain ⟨ad, nn, cap, rfl⟩ := hsub.form
  have E := boxes1 w #[.int .i64 t.kind, .int .i64 t.num, .slice ad nn cap] 28
  have HT := Lib.hid ht
  have HE := Lib.hid E
  have SH := Lib.hid (((tshaped_p t).mono fun _ _ h => h.1).top (relVs_cons (relK0 (ht.later E.2.1)) (relVs_nil _ _)))
  clear hv ha hsub ht E
  cases hb : shapedB t with
  | true =>
    have hE : enT 6 7 t = nmT 6 7 t := if_pos hb
    have hnd := (shaped_hg hb).2.2
    rw [hb] at SH
    rw [hE]
    clear hE hb
    go_enter Try.func191, Try.ntmps191
    go_wp2_with fail
    refine SH.out.mono ?_
    rintro e w1 ⟨rfl, hb1⟩
    have h1 := (hb1.block w.heap.size (by have := HE.out.2.2; omega)).trans HE.out.1
    have c0 := cell_at h1 0
    have c1 := cell_at h1 1
    have c2 := cell_at h1 2
    have HW1 := Lib.hid (HE.out.2.1.trans (hb1.mono HE.out.2.1.size))
    have C := Lib.hid ((collect_o t 6 7 (by omega)).ownI (relVs_cons (relK0 (HT.out.later HW1.out)) (relVs_cons (.d (.v trivial)) (relVs_cons (.d (.v trivial)) (relVs_nil _ _)))))
    clear hb1 SH h1
    go_wp2_with fail
    refine C.out.mono ?_
    rintro e w2 ⟨u, c, rfl, ho, hb2⟩
    have R := Lib.hid (rising_any 6 7 t u c w1.heap.size w2 (by omega) hb2.size ho)
    have HB2 := Lib.hid hb2
    clear hb2 ho C c0 c1 c2
    go_wp2_with fail
    refine R.out.mono ?_
    rintro e w3 ⟨rfl, ho3, hb3⟩
    have HS := Lib.hid ho3
    have HB := Lib.hid (HW1.out.trans ((HB2.out.trans hb3).mono HW1.out.size))
    have HZ := Lib.hid HW1.out.size
    clear hb3 ho3 R
    go_wp2_with fail
    go_ret
    exact ⟨_, rfl, HB.out, fun K' hK => .d (relI HS.out HZ.out hK)⟩
  | false =>
    have hE : enT 6 7 t = [] := if_neg (by rw [hb]; simp)
    rw [hb] at SH
    rw [hE]
    clear hE hb
    go_enter Try.func191, Try.ntmps191
    go_wp2_with fail
    refine SH.out.mono ?_
    rintro e w1 ⟨rfl, hb1⟩
    have HW1 := Lib.hid (HE.out.2.1.trans (hb1.mono HE.out.2.1.size))
    clear hb1
    go_wp2_with fail
    go_ret
    exact ⟨_, rfl, HW1.out, fun K' hK => .d (.nil (by decide))⟩
end Go.Proofs.Ytfnfbbmegdkhjaa

namespace Go.Proofs.Ytfnfbbmegdkhjaa
open Go.RowKit
set_option maxRecDepth 100000
set_option maxHeartbeats 8000000 in
theorem rgood_p : ∀ (t : Tm), PCalls Try.prog 55 [aggD t] [] fun p s => p = .d (.v (.bool (goodB t))) ∧ s = [] := by
  refine Tm.ind ?_
  intro k n sub ih
  have HR := Lib.hid (show goodB (.mk k n sub) = (cheadB (.mk k n sub) && cgoodL sub) by simp only [goodB])
  simp only [aggD, encD_tm, List.map_cons, List.map_nil, Tm.kind_mk, Tm.num_mk, Tm.sub_mk]
  have IH := Lib.hid ih
  clear ih
  by_cases hk : k = 1 ∨ k = 2 ∨ k = 3 ∨ k = 4 ∨ k = 5 ∨ k = 6 ∨ k = 7 ∨ k = 8
  rotate_left
  · have hf : Hid (goodB (.mk k n sub) = false) := by rw [show goodB (.mk k n sub) = _ from HR.out, head_no (by omega)]; rfl
    rw [hf.out]
    have h1 : ¬ k = 1 := by omega
    have h2 : ¬ k = 2 := by omega
    have h3 : ¬ k = 3 := by omega
    have h4 : ¬ k = 4 := by omega
    have h5 : ¬ k = 5 := by omega
    have h6 : ¬ k = 6 := by omega
    have h7 : ¬ k = 7 := by omega
    have h8 : ¬ k = 8 := by omega
    clear hk HR hf
    refine PCalls.enter Try.func55 rfl Try.ntmps55 (by simp) ?_
    simp only [argsF]
    refine go_ ?_
    refine POps_box_a ?_
    intro i0 hi0
    refine go_ ?_
    refine retP_ok (by simp) (by simp only [Try.results55]; rfl) (by simp [resP, St.box?, PF.get, loadB, TyK.agg, *]; rfl) (List.nil_sublist _) ?_
    exact ⟨rfl, rfl⟩
  · rcases hk with rfl | rfl | rfl | rfl | rfl | rfl | rfl | rfl
    · by_cases hs : sub = []
      · by_cases h0 : n < 0
        · have hf : Hid (goodB (.mk 1 n sub) = false) := by rw [show goodB (.mk 1 n sub) = _ from HR.out, head_no (fun h => absurd h.2.2.2.1 (by omega))]; rfl
          rw [hf.out]
          clear HR hf IH
          refine PCalls.enter Try.func55 rfl Try.ntmps55 (by simp) ?_
          simp only [argsF]
          refine go_ ?_
          refine POps_box_a ?_
          intro i0 hi0
          refine go_ ?_
          refine retP_ok (by simp) (by simp only [Try.results55]; rfl) (by simp [resP, St.box?, PF.get, loadB, TyK.agg, *]; rfl) (List.nil_sublist _) ?_
          exact ⟨rfl, rfl⟩
        · by_cases hm : 1048576 < n
          · have hf : Hid (goodB (.mk 1 n sub) = false) := by rw [show goodB (.mk 1 n sub) = _ from HR.out, head_no (fun h => absurd h.2.2.2.2.1 (by simp [mostOf]; omega))]; rfl
            rw [hf.out]
            clear HR hf IH
            refine PCalls.enter Try.func55 rfl Try.ntmps55 (by simp) ?_
            simp only [argsF]
            refine go_ ?_
            refine POps_box_a ?_
            intro i0 hi0
            refine go_ ?_
            refine retP_ok (by simp) (by simp only [Try.results55]; rfl) (by simp [resP, St.box?, PF.get, loadB, TyK.agg, *]; rfl) (List.nil_sublist _) ?_
            exact ⟨rfl, rfl⟩
          · subst hs
            have HR2 : Hid (goodB (.mk 1 n []) = true) := by rw [show goodB (.mk 1 n []) = _ from HR.out, head_yes ⟨by decide, by decide, rfl, by omega, by simp [mostOf]; omega, .inl (by decide)⟩]; rfl
            generalize goodB (.mk 1 n []) = R at *
            clear HR
            refine PCalls.enter Try.func55 rfl Try.ntmps55 (by simp) ?_
            simp only [argsF]
            refine go_ ?_
            refine POps_box_a ?_
            intro i0 hi0
            refine go_ ?_
            refine PW_loop (ι := Unit) (fun _ => True) (fun _ => [(3, .d (.v (.int .i64 0))), (5, .d (.v (.int .i64 0)))]) (fun _ => []) (fun _ => 0) () trivial ?_ ?_ ?_
            · repeat (first | exact sub_nil _ | refine sub_cons (by simp [PF.get]; rfl) (by first | rfl | (simp [*]; done) | fail) ?_)
            · repeat (first | exact List.Sublist.refl _ | exact List.nil_sublist _ | refine List.Sublist.cons_cons _ ?_ | refine List.Sublist.cons _ ?_)
            · rintro _ _
              refine go_ ?_
              refine retP_ok (by simp) (by simp only [Try.results55]; rfl) (by simp [resP, St.box?, PF.get, loadB, TyK.agg, *]; rfl) (List.nil_sublist _) ?_
              exact ⟨by rw [HR2.out]; rfl, rfl⟩
      · have hf : Hid (goodB (.mk 1 n sub) = false) := by rw [show goodB (.mk 1 n sub) = _ from HR.out, head_no (fun h => hs (List.eq_nil_of_length_eq_zero (by have := h.2.2.1; simp [subsOf] at this; first | exact this | (rw [this]; rfl))))]; rfl
        rw [hf.out]
        clear HR hf IH
        refine PCalls.enter Try.func55 rfl Try.ntmps55 (by simp) ?_
        simp only [argsF]
        refine go_ ?_
        refine POps_box_a ?_
        intro i0 hi0
        refine go_ ?_
        refine retP_ok (by simp) (by simp only [Try.results55]; rfl) (by simp [resP, St.box?, PF.get, loadB, TyK.agg, *]; rfl) (List.nil_sublist _) ?_
        exact ⟨rfl, rfl⟩
    · by_cases hs : sub = []
      · by_cases h0 : n < 0
        · have hf : Hid (goodB (.mk 2 n sub) = false) := by rw [show goodB (.mk 2 n sub) = _ from HR.out, head_no (fun h => absurd h.2.2.2.1 (by omega))]; rfl
          rw [hf.out]
          clear HR hf IH
          refine PCalls.enter Try.func55 rfl Try.ntmps55 (by simp) ?_
          simp only [argsF]
          refine go_ ?_
          refine POps_box_a ?_
          intro i0 hi0
          refine go_ ?_
          refine retP_ok (by simp) (by simp only [Try.results55]; rfl) (by simp [resP, St.box?, PF.get, loadB, TyK.agg, *]; rfl) (List.nil_sublist _) ?_
          exact ⟨rfl, rfl⟩
        · by_cases hm : 7 < n
          · have hf : Hid (goodB (.mk 2 n sub) = false) := by rw [show goodB (.mk 2 n sub) = _ from HR.out, head_no (fun h => absurd h.2.2.2.2.1 (by simp [mostOf]; omega))]; rfl
            rw [hf.out]
            clear HR hf IH
            refine PCalls.enter Try.func55 rfl Try.ntmps55 (by simp) ?_
            simp only [argsF]
            refine go_ ?_
            refine POps_box_a ?_
            intro i0 hi0
            refine go_ ?_
            refine retP_ok (by simp) (by simp only [Try.results55]; rfl) (by simp [resP, St.box?, PF.get, loadB, TyK.agg, *]; rfl) (List.nil_sublist _) ?_
            exact ⟨rfl, rfl⟩
          · subst hs
            have HR2 : Hid (goodB (.mk 2 n []) = true) := by rw [show goodB (.mk 2 n []) = _ from HR.out, head_yes ⟨by decide, by decide, rfl, by omega, by simp [mostOf]; omega, .inl (by decide)⟩]; rfl
            generalize goodB (.mk 2 n []) = R at *
            clear HR
            refine PCalls.enter Try.func55 rfl Try.ntmps55 (by simp) ?_
            simp only [argsF]
            refine go_ ?_
            refine POps_box_a ?_
            intro i0 hi0
            refine go_ ?_
            refine PW_loop (ι := Unit) (fun _ => True) (fun _ => [(3, .d (.v (.int .i64 0))), (5, .d (.v (.int .i64 0)))]) (fun _ => []) (fun _ => 0) () trivial ?_ ?_ ?_
            · repeat (first | exact sub_nil _ | refine sub_cons (by simp [PF.get]; rfl) (by first | rfl | (simp [*]; done) | fail) ?_)
            · repeat (first | exact List.Sublist.refl _ | exact List.nil_sublist _ | refine List.Sublist.cons_cons _ ?_ | refine List.Sublist.cons _ ?_)
            · rintro _ _
              refine go_ ?_
              refine retP_ok (by simp) (by simp only [Try.results55]; rfl) (by simp [resP, St.box?, PF.get, loadB, TyK.agg, *]; rfl) (List.nil_sublist _) ?_
              exact ⟨by rw [HR2.out]; rfl, rfl⟩
      · have hf : Hid (goodB (.mk 2 n sub) = false) := by rw [show goodB (.mk 2 n sub) = _ from HR.out, head_no (fun h => hs (List.eq_nil_of_length_eq_zero (by have := h.2.2.1; simp [subsOf] at this; first | exact this | (rw [this]; rfl))))]; rfl
        rw [hf.out]
        clear HR hf IH
        refine PCalls.enter Try.func55 rfl Try.ntmps55 (by simp) ?_
        simp only [argsF]
        refine go_ ?_
        refine POps_box_a ?_
        intro i0 hi0
        refine go_ ?_
        refine retP_ok (by simp) (by simp only [Try.results55]; rfl) (by simp [resP, St.box?, PF.get, loadB, TyK.agg, *]; rfl) (List.nil_sublist _) ?_
        exact ⟨rfl, rfl⟩
    · by_cases hs : sub.length = 2
      · by_cases h0 : n < 0
        · have hf : Hid (goodB (.mk 3 n sub) = false) := by rw [show goodB (.mk 3 n sub) = _ from HR.out, head_no (fun h => absurd h.2.2.2.1 (by omega))]; rfl
          rw [hf.out]
          clear HR hf IH
          refine PCalls.enter Try.func55 rfl Try.ntmps55 (by simp) ?_
          simp only [argsF]
          refine go_ ?_
          refine POps_box_a ?_
          intro i0 hi0
          refine go_ ?_
          refine retP_ok (by simp) (by simp only [Try.results55]; rfl) (by simp [resP, St.box?, PF.get, loadB, TyK.agg, *]; rfl) (List.nil_sublist _) ?_
          exact ⟨rfl, rfl⟩
        · by_cases hm : 0 < n
          · have hf : Hid (goodB (.mk 3 n sub) = false) := by rw [show goodB (.mk 3 n sub) = _ from HR.out, head_no (fun h => absurd h.2.2.2.2.1 (by simp [mostOf]; omega))]; rfl
            rw [hf.out]
            clear HR hf IH
            refine PCalls.enter Try.func55 rfl Try.ntmps55 (by simp) ?_
            simp only [argsF]
            refine go_ ?_
            refine POps_box_a ?_
            intro i0 hi0
            refine go_ ?_
            refine retP_ok (by simp) (by simp only [Try.results55]; rfl) (by simp [resP, St.box?, PF.get, loadB, TyK.agg, *]; rfl) (List.nil_sublist _) ?_
            exact ⟨rfl, rfl⟩
          · have HR2 : Hid (goodB (.mk 3 n sub) = cgoodL sub) := by rw [show goodB (.mk 3 n sub) = _ from HR.out, head_yes ⟨by decide, by decide, by rw [hs]; rfl, by omega, by simp [mostOf]; omega, .inl (by decide)⟩]; rfl
            generalize goodB (.mk 3 n sub) = R at *
            clear HR
            refine PCalls.enter Try.func55 rfl Try.ntmps55 (by simp) ?_
            simp only [argsF]
            refine go_ ?_
            refine POps_box_a ?_
            intro i0 hi0
            refine go_ ?_
            refine PW_loop (ι := Nat) (fun y => y ≤ 2 ∧ Hid (R = cgoodL (List.drop y sub))) (fun y => [(1, .ptr i0 0), (3, .d (.v (.int .i64 2))), (5, .d (.v (.int .i64 (y : Int))))]) (fun _ => [.box i0 28 [.d (.v (.int .i64 3)), .d (.v (.int .i64 n)), .d (.sl (sub.map encD))]]) (fun y => 2 - y) 0 ⟨Nat.zero_le _, HR2.out⟩ ?_ ?_ ?_
            · repeat (first | exact sub_nil _ | refine sub_cons (by simp [PF.get]; rfl) (by first | rfl | (simp [*]; done) | fail) ?_)
            · repeat (first | exact List.Sublist.refl _ | exact List.nil_sublist _ | refine List.Sublist.cons_cons _ ?_ | refine List.Sublist.cons _ ?_)
            · rintro j ⟨hj, hR⟩
              clear HR2
              by_cases hlt : j < 2
              · have hlt2 : j < (sub : List Tm).length := by rw [hs]; exact hlt
                have hx0 := get_enc hlt2
                have hc : (j : Int) < 2 := by omega
                have hn : (0 : Int) ≤ j := by omega
                have hin := wr64 (n := (j : Int) + 1) (by omega) (by omega)
                have hR2 : Hid (R = (goodB (sub : List Tm)[j] && cgoodL (List.drop (j + 1) sub))) := by
                  rw [show R = _ from hR.out, List.drop_eq_getElem_cons hlt2]
                  show _ = _
                  simp only [cgoodL]
                have hc1 := Lib.hid (IH.out _ (List.getElem_mem hlt2))
                clear hR
                generalize goodB (sub : List Tm)[j] = b at *
                cases b with
                | false =>
                  have hf : Hid (R = false) := by rw [show R = _ from hR2.out]; rfl
                  refine go_ ?_
                  refine POps_call_a (hc1.out) ?_
                  refine go_ ?_
                  refine retP_ok (by simp) (by simp only [Try.results55]; rfl) (by simp [resP, St.box?, PF.get, loadB, TyK.agg, *]; rfl) (List.nil_sublist _) ?_
                  exact ⟨by rw [hf.out]; rfl, rfl⟩
                | true =>
                  have hR3 : Hid (R = cgoodL (List.drop (j + 1) sub)) := by rw [show R = _ from hR2.out]; rfl
                  refine go_ ?_
                  refine POps_call_a (hc1.out) ?_
                  refine go_ ?_
                  exact ⟨j + 1, ⟨hlt, hR3⟩, by omega, by repeat (first | exact sub_nil _ | refine sub_cons (by simp [PF.get]; rfl) (by first | rfl | (simp [*]; done) | fail) ?_), by repeat (first | exact List.Sublist.refl _ | exact List.nil_sublist _ | refine List.Sublist.cons_cons _ ?_ | refine List.Sublist.cons _ ?_)⟩
              · have hc : ¬ (j : Int) < 2 := by omega
                have hf : Hid (R = true) := by rw [show R = _ from hR.out, List.drop_of_length_le (by rw [hs]; omega)]; rfl
                refine go_ ?_
                refine retP_ok (by simp) (by simp only [Try.results55]; rfl) (by simp [resP, St.box?, PF.get, loadB, TyK.agg, *]; rfl) (List.nil_sublist _) ?_
                exact ⟨by rw [hf.out]; rfl, rfl⟩
      · have hf : Hid (goodB (.mk 3 n sub) = false) := by rw [show goodB (.mk 3 n sub) = _ from HR.out, head_no (fun h => hs (by have := h.2.2.1; simp [subsOf] at this; omega))]; rfl
        have hs2 : ¬ (sub.length : Int) = 2 := by omega
        rw [hf.out]
        clear HR hf IH
        refine PCalls.enter Try.func55 rfl Try.ntmps55 (by simp) ?_
        simp only [argsF]
        refine go_ ?_
        refine POps_box_a ?_
        intro i0 hi0
        refine go_ ?_
        refine retP_ok (by simp) (by simp only [Try.results55]; rfl) (by simp [resP, St.box?, PF.get, loadB, TyK.agg, *]; rfl) (List.nil_sublist _) ?_
        exact ⟨rfl, rfl⟩
    · by_cases hs : sub.length = 2
      · by_cases h0 : n < 0
        · have hf : Hid (goodB (.mk 4 n sub) = false) := by rw [show goodB (.mk 4 n sub) = _ from HR.out, head_no (fun h => absurd h.2.2.2.1 (by omega))]; rfl
          rw [hf.out]
          clear HR hf IH
          refine PCalls.enter Try.func55 rfl Try.ntmps55 (by simp) ?_
          simp only [argsF]
          refine go_ ?_
          refine POps_box_a ?_
          intro i0 hi0
          refine go_ ?_
          refine retP_ok (by simp) (by simp only [Try.results55]; rfl) (by simp [resP, St.box?, PF.get, loadB, TyK.agg, *]; rfl) (List.nil_sublist _) ?_
          exact ⟨rfl, rfl⟩
        · by_cases hm : 0 < n
          · have hf : Hid (goodB (.mk 4 n sub) = false) := by rw [show goodB (.mk 4 n sub) = _ from HR.out, head_no (fun h => absurd h.2.2.2.2.1 (by simp [mostOf]; omega))]; rfl
            rw [hf.out]
            clear HR hf IH
            refine PCalls.enter Try.func55 rfl Try.ntmps55 (by simp) ?_
            simp only [argsF]
            refine go_ ?_
            refine POps_box_a ?_
            intro i0 hi0
            refine go_ ?_
            refine retP_ok (by simp) (by simp only [Try.results55]; rfl) (by simp [resP, St.box?, PF.get, loadB, TyK.agg, *]; rfl) (List.nil_sublist _) ?_
            exact ⟨rfl, rfl⟩
          · have HR2 : Hid (goodB (.mk 4 n sub) = cgoodL sub) := by rw [show goodB (.mk 4 n sub) = _ from HR.out, head_yes ⟨by decide, by decide, by rw [hs]; rfl, by omega, by simp [mostOf]; omega, .inl (by decide)⟩]; rfl
            generalize goodB (.mk 4 n sub) = R at *
            clear HR
            refine PCalls.enter Try.func55 rfl Try.ntmps55 (by simp) ?_
            simp only [argsF]
            refine go_ ?_
            refine POps_box_a ?_
            intro i0 hi0
            refine go_ ?_
            refine PW_loop (ι := Nat) (fun y => y ≤ 2 ∧ Hid (R = cgoodL (List.drop y sub))) (fun y => [(1, .ptr i0 0), (3, .d (.v (.int .i64 2))), (5, .d (.v (.int .i64 (y : Int))))]) (fun _ => [.box i0 28 [.d (.v (.int .i64 4)), .d (.v (.int .i64 n)), .d (.sl (sub.map encD))]]) (fun y => 2 - y) 0 ⟨Nat.zero_le _, HR2.out⟩ ?_ ?_ ?_
            · repeat (first | exact sub_nil _ | refine sub_cons (by simp [PF.get]; rfl) (by first | rfl | (simp [*]; done) | fail) ?_)
            · repeat (first | exact List.Sublist.refl _ | exact List.nil_sublist _ | refine List.Sublist.cons_cons _ ?_ | refine List.Sublist.cons _ ?_)
            · rintro j ⟨hj, hR⟩
              clear HR2
              by_cases hlt : j < 2
              · have hlt2 : j < (sub : List Tm).length := by rw [hs]; exact hlt
                have hx0 := get_enc hlt2
                have hc : (j : Int) < 2 := by omega
                have hn : (0 : Int) ≤ j := by omega
                have hin := wr64 (n := (j : Int) + 1) (by omega) (by omega)
                have hR2 : Hid (R = (goodB (sub : List Tm)[j] && cgoodL (List.drop (j + 1) sub))) := by
                  rw [show R = _ from hR.out, List.drop_eq_getElem_cons hlt2]
                  show _ = _
                  simp only [cgoodL]
                have hc1 := Lib.hid (IH.out _ (List.getElem_mem hlt2))
                clear hR
                generalize goodB (sub : List Tm)[j] = b at *
                cases b with
                | false =>
                  have hf : Hid (R = false) := by rw [show R = _ from hR2.out]; rfl
                  refine go_ ?_
                  refine POps_call_a (hc1.out) ?_
                  refine go_ ?_
                  refine retP_ok (by simp) (by simp only [Try.results55]; rfl) (by simp [resP, St.box?, PF.get, loadB, TyK.agg, *]; rfl) (List.nil_sublist _) ?_
                  exact ⟨by rw [hf.out]; rfl, rfl⟩
                | true =>
                  have hR3 : Hid (R = cgoodL (List.drop (j + 1) sub)) := by rw [show R = _ from hR2.out]; rfl
                  refine go_ ?_
                  refine POps_call_a (hc1.out) ?_
                  refine go_ ?_
                  exact ⟨j + 1, ⟨hlt, hR3⟩, by omega, by repeat (first | exact sub_nil _ | refine sub_cons (by simp [PF.get]; rfl) (by first | rfl | (simp [*]; done) | fail) ?_), by repeat (first | exact List.Sublist.refl _ | exact List.nil_sublist _ | refine List.Sublist.cons_cons _ ?_ | refine List.Sublist.cons _ ?_)⟩
              · have hc : ¬ (j : Int) < 2 := by omega
                have hf : Hid (R = true) := by rw [show R = _ from hR.out, List.drop_of_length_le (by rw [hs]; omega)]; rfl
                refine go_ ?_
                refine retP_ok (by simp) (by simp only [Try.results55]; rfl) (by simp [resP, St.box?, PF.get, loadB, TyK.agg, *]; rfl) (List.nil_sublist _) ?_
                exact ⟨by rw [hf.out]; rfl, rfl⟩
      · have hf : Hid (goodB (.mk 4 n sub) = false) := by rw [show goodB (.mk 4 n sub) = _ from HR.out, head_no (fun h => hs (by have := h.2.2.1; simp [subsOf] at this; omega))]; rfl
        have hs2 : ¬ (sub.length : Int) = 2 := by omega
        rw [hf.out]
        clear HR hf IH
        refine PCalls.enter Try.func55 rfl Try.ntmps55 (by simp) ?_
        simp only [argsF]
        refine go_ ?_
        refine POps_box_a ?_
        intro i0 hi0
        refine go_ ?_
        refine retP_ok (by simp) (by simp only [Try.results55]; rfl) (by simp [resP, St.box?, PF.get, loadB, TyK.agg, *]; rfl) (List.nil_sublist _) ?_
        exact ⟨rfl, rfl⟩
    · by_cases hs : sub.length = 2
      · by_cases h0 : n < 0
        · have hf : Hid (goodB (.mk 5 n sub) = false) := by rw [show goodB (.mk 5 n sub) = _ from HR.out, head_no (fun h => absurd h.2.2.2.1 (by omega))]; rfl
          rw [hf.out]
          clear HR hf IH
          refine PCalls.enter Try.func55 rfl Try.ntmps55 (by simp) ?_
          simp only [argsF]
          refine go_ ?_
          refine POps_box_a ?_
          intro i0 hi0
          refine go_ ?_
          refine retP_ok (by simp) (by simp only [Try.results55]; rfl) (by simp [resP, St.box?, PF.get, loadB, TyK.agg, *]; rfl) (List.nil_sublist _) ?_
          exact ⟨rfl, rfl⟩
        · by_cases hm : 0 < n
          · have hf : Hid (goodB (.mk 5 n sub) = false) := by rw [show goodB (.mk 5 n sub) = _ from HR.out, head_no (fun h => absurd h.2.2.2.2.1 (by simp [mostOf]; omega))]; rfl
            rw [hf.out]
            clear HR hf IH
            refine PCalls.enter Try.func55 rfl Try.ntmps55 (by simp) ?_
            simp only [argsF]
            refine go_ ?_
            refine POps_box_a ?_
            intro i0 hi0
            refine go_ ?_
            refine retP_ok (by simp) (by simp only [Try.results55]; rfl) (by simp [resP, St.box?, PF.get, loadB, TyK.agg, *]; rfl) (List.nil_sublist _) ?_
            exact ⟨rfl, rfl⟩
          · have HR2 : Hid (goodB (.mk 5 n sub) = cgoodL sub) := by rw [show goodB (.mk 5 n sub) = _ from HR.out, head_yes ⟨by decide, by decide, by rw [hs]; rfl, by omega, by simp [mostOf]; omega, .inl (by decide)⟩]; rfl
            generalize goodB (.mk 5 n sub) = R at *
            clear HR
            refine PCalls.enter Try.func55 rfl Try.ntmps55 (by simp) ?_
            simp only [argsF]
            refine go_ ?_
            refine POps_box_a ?_
            intro i0 hi0
            refine go_ ?_
            refine PW_loop (ι := Nat) (fun y => y ≤ 2 ∧ Hid (R = cgoodL (List.drop y sub))) (fun y => [(1, .ptr i0 0), (3, .d (.v (.int .i64 2))), (5, .d (.v (.int .i64 (y : Int))))]) (fun _ => [.box i0 28 [.d (.v (.int .i64 5)), .d (.v (.int .i64 n)), .d (.sl (sub.map encD))]]) (fun y => 2 - y) 0 ⟨Nat.zero_le _, HR2.out⟩ ?_ ?_ ?_
            · repeat (first | exact sub_nil _ | refine sub_cons (by simp [PF.get]; rfl) (by first | rfl | (simp [*]; done) | fail) ?_)
            · repeat (first | exact List.Sublist.refl _ | exact List.nil_sublist _ | refine List.Sublist.cons_cons _ ?_ | refine List.Sublist.cons _ ?_)
            · rintro j ⟨hj, hR⟩
              clear HR2
              by_cases hlt : j < 2
              · have hlt2 : j < (sub : List Tm).length := by rw [hs]; exact hlt
                have hx0 := get_enc hlt2
                have hc : (j : Int) < 2 := by omega
                have hn : (0 : Int) ≤ j := by omega
                have hin := wr64 (n := (j : Int) + 1) (by omega) (by omega)
                have hR2 : Hid (R = (goodB (sub : List Tm)[j] && cgoodL (List.drop (j + 1) sub))) := by
                  rw [show R = _ from hR.out, List.drop_eq_getElem_cons hlt2]
                  show _ = _
                  simp only [cgoodL]
                have hc1 := Lib.hid (IH.out _ (List.getElem_mem hlt2))
                clear hR
                generalize goodB (sub : List Tm)[j] = b at *
                cases b with
                | false =>
                  have hf : Hid (R = false) := by rw [show R = _ from hR2.out]; rfl
                  refine go_ ?_
                  refine POps_call_a (hc1.out) ?_
                  refine go_ ?_
                  refine retP_ok (by simp) (by simp only [Try.results55]; rfl) (by simp [resP, St.box?, PF.get, loadB, TyK.agg, *]; rfl) (List.nil_sublist _) ?_
                  exact ⟨by rw [hf.out]; rfl, rfl⟩
                | true =>
                  have hR3 : Hid (R = cgoodL (List.drop (j + 1) sub)) := by rw [show R = _ from hR2.out]; rfl
                  refine go_ ?_
                  refine POps_call_a (hc1.out) ?_
                  refine go_ ?_
                  exact ⟨j + 1, ⟨hlt, hR3⟩, by omega, by repeat (first | exact sub_nil _ | refine sub_cons (by simp [PF.get]; rfl) (by first | rfl | (simp [*]; done) | fail) ?_), by repeat (first | exact List.Sublist.refl _ | exact List.nil_sublist _ | refine List.Sublist.cons_cons _ ?_ | refine List.Sublist.cons _ ?_)⟩
              · have hc : ¬ (j : Int) < 2 := by omega
                have hf : Hid (R = true) := by rw [show R = _ from hR.out, List.drop_of_length_le (by rw [hs]; omega)]; rfl
                refine go_ ?_
                refine retP_ok (by simp) (by simp only [Try.results55]; rfl) (by simp [resP, St.box?, PF.get, loadB, TyK.agg, *]; rfl) (List.nil_sublist _) ?_
                exact ⟨by rw [hf.out]; rfl, rfl⟩
      · have hf : Hid (goodB (.mk 5 n sub) = false) := by rw [show goodB (.mk 5 n sub) = _ from HR.out, head_no (fun h => hs (by have := h.2.2.1; simp [subsOf] at this; omega))]; rfl
        have hs2 : ¬ (sub.length : Int) = 2 := by omega
        rw [hf.out]
        clear HR hf IH
        refine PCalls.enter Try.func55 rfl Try.ntmps55 (by simp) ?_
        simp only [argsF]
        refine go_ ?_
        refine POps_box_a ?_
        intro i0 hi0
        refine go_ ?_
        refine retP_ok (by simp) (by simp only [Try.results55]; rfl) (by simp [resP, St.box?, PF.get, loadB, TyK.agg, *]; rfl) (List.nil_sublist _) ?_
        exact ⟨rfl, rfl⟩
    · by_cases hs : sub = []
      · by_cases h0 : n < 0
        · have hf : Hid (goodB (.mk 6 n sub) = false) := by rw [show goodB (.mk 6 n sub) = _ from HR.out, head_no (fun h => absurd h.2.2.2.1 (by omega))]; rfl
          rw [hf.out]
          clear HR hf IH
          refine PCalls.enter Try.func55 rfl Try.ntmps55 (by simp) ?_
          simp only [argsF]
          refine go_ ?_
          refine POps_box_a ?_
          intro i0 hi0
          refine go_ ?_
          refine retP_ok (by simp) (by simp only [Try.results55]; rfl) (by simp [resP, St.box?, PF.get, loadB, TyK.agg, *]; rfl) (List.nil_sublist _) ?_
          exact ⟨rfl, rfl⟩
        · by_cases hm : 1048576 < n
          · have hf : Hid (goodB (.mk 6 n sub) = false) := by rw [show goodB (.mk 6 n sub) = _ from HR.out, head_no (fun h => absurd h.2.2.2.2.1 (by simp [mostOf]; omega))]; rfl
            rw [hf.out]
            clear HR hf IH
            refine PCalls.enter Try.func55 rfl Try.ntmps55 (by simp) ?_
            simp only [argsF]
            refine go_ ?_
            refine POps_box_a ?_
            intro i0 hi0
            refine go_ ?_
            refine retP_ok (by simp) (by simp only [Try.results55]; rfl) (by simp [resP, St.box?, PF.get, loadB, TyK.agg, *]; rfl) (List.nil_sublist _) ?_
            exact ⟨rfl, rfl⟩
          · subst hs
            have HR2 : Hid (goodB (.mk 6 n []) = true) := by rw [show goodB (.mk 6 n []) = _ from HR.out, head_yes ⟨by decide, by decide, rfl, by omega, by simp [mostOf]; omega, .inl (by decide)⟩]; rfl
            generalize goodB (.mk 6 n []) = R at *
            clear HR
            refine PCalls.enter Try.func55 rfl Try.ntmps55 (by simp) ?_
            simp only [argsF]
            refine go_ ?_
            refine POps_box_a ?_
            intro i0 hi0
            refine go_ ?_
            refine PW_loop (ι := Unit) (fun _ => True) (fun _ => [(3, .d (.v (.int .i64 0))), (5, .d (.v (.int .i64 0)))]) (fun _ => []) (fun _ => 0) () trivial ?_ ?_ ?_
            · repeat (first | exact sub_nil _ | refine sub_cons (by simp [PF.get]; rfl) (by first | rfl | (simp [*]; done) | fail) ?_)
            · repeat (first | exact List.Sublist.refl _ | exact List.nil_sublist _ | refine List.Sublist.cons_cons _ ?_ | refine List.Sublist.cons _ ?_)
            · rintro _ _
              refine go_ ?_
              refine retP_ok (by simp) (by simp only [Try.results55]; rfl) (by simp [resP, St.box?, PF.get, loadB, TyK.agg, *]; rfl) (List.nil_sublist _) ?_
              exact ⟨by rw [HR2.out]; rfl, rfl⟩
      · have hf : Hid (goodB (.mk 6 n sub) = false) := by rw [show goodB (.mk 6 n sub) = _ from HR.out, head_no (fun h => hs (List.eq_nil_of_length_eq_zero (by have := h.2.2.1; simp [subsOf] at this; first | exact this | (rw [this]; rfl))))]; rfl
        rw [hf.out]
        clear HR hf IH
        refine PCalls.enter Try.func55 rfl Try.ntmps55 (by simp) ?_
        simp only [argsF]
        refine go_ ?_
        refine POps_box_a ?_
        intro i0 hi0
        refine go_ ?_
        refine retP_ok (by simp) (by simp only [Try.results55]; rfl) (by simp [resP, St.box?, PF.get, loadB, TyK.agg, *]; rfl) (List.nil_sublist _) ?_
        exact ⟨rfl, rfl⟩
    · by_cases hs : sub.length = 1
      · by_cases h0 : n < 0
        · have hf : Hid (goodB (.mk 7 n sub) = false) := by rw [show goodB (.mk 7 n sub) = _ from HR.out, head_no (fun h => absurd h.2.2.2.1 (by omega))]; rfl
          rw [hf.out]
          clear HR hf IH
          refine PCalls.enter Try.func55 rfl Try.ntmps55 (by simp) ?_
          simp only [argsF]
          refine go_ ?_
          refine POps_box_a ?_
          intro i0 hi0
          refine go_ ?_
          refine retP_ok (by simp) (by simp only [Try.results55]; rfl) (by simp [resP, St.box?, PF.get, loadB, TyK.agg, *]; rfl) (List.nil_sublist _) ?_
          exact ⟨rfl, rfl⟩
        · by_cases hm : 1048576 < n
          · have hf : Hid (goodB (.mk 7 n sub) = false) := by rw [show goodB (.mk 7 n sub) = _ from HR.out, head_no (fun h => absurd h.2.2.2.2.1 (by simp [mostOf]; omega))]; rfl
            rw [hf.out]
            clear HR hf IH
            refine PCalls.enter Try.func55 rfl Try.ntmps55 (by simp) ?_
            simp only [argsF]
            refine go_ ?_
            refine POps_box_a ?_
            intro i0 hi0
            refine go_ ?_
            refine retP_ok (by simp) (by simp only [Try.results55]; rfl) (by simp [resP, St.box?, PF.get, loadB, TyK.agg, *]; rfl) (List.nil_sublist _) ?_
            exact ⟨rfl, rfl⟩
          · match sub, hs with
            | [x], _ =>
            by_cases hx : x.kind = 2
            rotate_left
            · have hf : Hid (goodB (.mk 7 n [x]) = false) := by rw [show goodB (.mk 7 n [x]) = _ from HR.out, head_no (k := 7) (n := n) (sub := [x]) (fun h => hx (h.2.2.2.2.2.resolve_left (fun h => h rfl)))]; rfl
              rw [hf.out]
              clear HR hf IH
              refine PCalls.enter Try.func55 rfl Try.ntmps55 (by simp) ?_
              simp only [argsF]
              refine go_ ?_
              refine POps_box_a ?_
              intro i0 hi0
              refine go_ ?_
              refine retP_ok (by simp) (by simp only [Try.results55]; rfl) (by simp [resP, St.box?, PF.get, loadB, TyK.agg, *]; rfl) (List.nil_sublist _) ?_
              exact ⟨rfl, rfl⟩
            · have HR2 : Hid (goodB (.mk 7 n [x]) = cgoodL [x]) := by rw [show goodB (.mk 7 n [x]) = _ from HR.out, head_yes (k := 7) (n := n) (sub := [x]) ⟨by decide, by decide, rfl, by omega, by simp [mostOf]; omega, .inr hx⟩]; rfl
              have hx2 : (x.kind != 2) = false := by rw [hx]; rfl
              clear hx
              generalize goodB (.mk 7 n [x]) = R at *
              clear HR
              refine PCalls.enter Try.func55 rfl Try.ntmps55 (by simp) ?_
              simp only [argsF]
              refine go_ ?_
              refine POps_box_a ?_
              intro i0 hi0
              refine go_ ?_
              refine PW_loop (ι := Nat) (fun y => y ≤ 1 ∧ Hid (R = cgoodL (List.drop y [x]))) (fun y => [(1, .ptr i0 0), (3, .d (.v (.int .i64 1))), (5, .d (.v (.int .i64 (y : Int))))]) (fun _ => [.box i0 28 [.d (.v (.int .i64 7)), .d (.v (.int .i64 n)), .d (.sl ([[.v (.int .i64 x.kind), .v (.int .i64 x.num), .sl (x.sub.map encD)]]))]]) (fun y => 1 - y) 0 ⟨Nat.zero_le _, HR2.out⟩ ?_ ?_ ?_
              · repeat (first | exact sub_nil _ | refine sub_cons (by simp [PF.get]; rfl) (by first | rfl | (simp [*]; done) | fail) ?_)
              · repeat (first | exact List.Sublist.refl _ | exact List.nil_sublist _ | refine List.Sublist.cons_cons _ ?_ | refine List.Sublist.cons _ ?_)
              · rintro j ⟨hj, hR⟩
                clear HR2
                by_cases hlt : j < 1
                · obtain rfl : j = 0 := by omega
                  have hR2 : Hid (R = (goodB x && cgoodL [])) := by rw [show R = _ from hR.out]; rfl
                  have hc1 := Lib.hid (IH.out x (by simp))
                  clear hR
                  generalize goodB x = b at *
                  cases b with
                  | false =>
                    have hf : Hid (R = false) := by rw [show R = _ from hR2.out]; rfl
                    refine go_ ?_
                    refine POps_call_a (hc1.out) ?_
                    refine go_ ?_
                    refine retP_ok (by simp) (by simp only [Try.results55]; rfl) (by simp [resP, St.box?, PF.get, loadB, TyK.agg, *]; rfl) (List.nil_sublist _) ?_
                    exact ⟨by rw [hf.out]; rfl, rfl⟩
                  | true =>
                    have hR3 : Hid (R = cgoodL (List.drop (0 + 1) [x])) := by rw [show R = _ from hR2.out]; rfl
                    refine go_ ?_
                    refine POps_call_a (hc1.out) ?_
                    refine go_ ?_
                    exact ⟨0 + 1, ⟨by omega, hR3⟩, by omega, by repeat (first | exact sub_nil _ | refine sub_cons (by simp [PF.get]; rfl) (by first | rfl | (simp [*]; done) | fail) ?_), by repeat (first | exact List.Sublist.refl _ | exact List.nil_sublist _ | refine List.Sublist.cons_cons _ ?_ | refine List.Sublist.cons _ ?_)⟩
                · have hc : ¬ (j : Int) < 1 := by omega
                  have hf : Hid (R = true) := by rw [show R = _ from hR.out, List.drop_of_length_le (by simp; omega)]; rfl
                  refine go_ ?_
                  refine retP_ok (by simp) (by simp only [Try.results55]; rfl) (by simp [resP, St.box?, PF.get, loadB, TyK.agg, *]; rfl) (List.nil_sublist _) ?_
                  exact ⟨by rw [hf.out]; rfl, rfl⟩
      · have hf : Hid (goodB (.mk 7 n sub) = false) := by rw [show goodB (.mk 7 n sub) = _ from HR.out, head_no (fun h => hs (by have := h.2.2.1; simp [subsOf] at this; omega))]; rfl
        have hs2 : ¬ (sub.length : Int) = 1 := by omega
        rw [hf.out]
        clear HR hf IH
        refine PCalls.enter Try.func55 rfl Try.ntmps55 (by simp) ?_
        simp only [argsF]
        refine go_ ?_
        refine POps_box_a ?_
        intro i0 hi0
        refine go_ ?_
        refine retP_ok (by simp) (by simp only [Try.results55]; rfl) (by simp [resP, St.box?, PF.get, loadB, TyK.agg, *]; rfl) (List.nil_sublist _) ?_
        exact ⟨rfl, rfl⟩
    · by_cases hs : sub = []
      · by_cases h0 : n < 0
        · have hf : Hid (goodB (.mk 8 n sub) = false) := by rw [show goodB (.mk 8 n sub) = _ from HR.out, head_no (fun h => absurd h.2.2.2.1 (by omega))]; rfl
          rw [hf.out]
          clear HR hf IH
          refine PCalls.enter Try.func55 rfl Try.ntmps55 (by simp) ?_
          simp only [argsF]
          refine go_ ?_
          refine POps_box_a ?_
          intro i0 hi0
          refine go_ ?_
          refine retP_ok (by simp) (by simp only [Try.results55]; rfl) (by simp [resP, St.box?, PF.get, loadB, TyK.agg, *]; rfl) (List.nil_sublist _) ?_
          exact ⟨rfl, rfl⟩
        · by_cases hm : 1048576 < n
          · have hf : Hid (goodB (.mk 8 n sub) = false) := by rw [show goodB (.mk 8 n sub) = _ from HR.out, head_no (fun h => absurd h.2.2.2.2.1 (by simp [mostOf]; omega))]; rfl
            rw [hf.out]
            clear HR hf IH
            refine PCalls.enter Try.func55 rfl Try.ntmps55 (by simp) ?_
            simp only [argsF]
            refine go_ ?_
            refine POps_box_a ?_
            intro i0 hi0
            refine go_ ?_
            refine retP_ok (by simp) (by simp only [Try.results55]; rfl) (by simp [resP, St.box?, PF.get, loadB, TyK.agg, *]; rfl) (List.nil_sublist _) ?_
            exact ⟨rfl, rfl⟩
          · subst hs
            have HR2 : Hid (goodB (.mk 8 n []) = true) := by rw [show goodB (.mk 8 n []) = _ from HR.out, head_yes ⟨by decide, by decide, rfl, by omega, by simp [mostOf]; omega, .inl (by decide)⟩]; rfl
            generalize goodB (.mk 8 n []) = R at *
            clear HR
            refine PCalls.enter Try.func55 rfl Try.ntmps55 (by simp) ?_
            simp only [argsF]
            refine go_ ?_
            refine POps_box_a ?_
            intro i0 hi0
            refine go_ ?_
            refine PW_loop (ι := Unit) (fun _ => True) (fun _ => [(3, .d (.v (.int .i64 0))), (5, .d (.v (.int .i64 0)))]) (fun _ => []) (fun _ => 0) () trivial ?_ ?_ ?_
            · repeat (first | exact sub_nil _ | refine sub_cons (by simp [PF.get]; rfl) (by first | rfl | (simp [*]; done) | fail) ?_)
            · repeat (first | exact List.Sublist.refl _ | exact List.nil_sublist _ | refine List.Sublist.cons_cons _ ?_ | refine List.Sublist.cons _ ?_)
            · rintro _ _
              refine go_ ?_
              refine retP_ok (by simp) (by simp only [Try.results55]; rfl) (by simp [resP, St.box?, PF.get, loadB, TyK.agg, *]; rfl) (List.nil_sublist _) ?_
              exact ⟨by rw [HR2.out]; rfl, rfl⟩
      · have hf : Hid (goodB (.mk 8 n sub) = false) := by rw [show goodB (.mk 8 n sub) = _ from HR.out, head_no (fun h => hs (List.eq_nil_of_length_eq_zero (by have := h.2.2.1; simp [subsOf] at this; first | exact this | (rw [this]; rfl))))]; rfl
        rw [hf.out]
        clear HR hf IH
        refine PCalls.enter Try.func55 rfl Try.ntmps55 (by simp) ?_
        simp only [argsF]
        refine go_ ?_
        refine POps_box_a ?_
        intro i0 hi0
        refine go_ ?_
        refine retP_ok (by simp) (by simp only [Try.results55]; rfl) (by simp [resP, St.box?, PF.get, loadB, TyK.agg, *]; rfl) (List.nil_sublist _) ?_
        exact ⟨rfl, rfl⟩
theorem rshaped_p (t : Tm) : PCalls Try.prog 13 [aggD t] [] fun p s => p = .d (.v (.bool (shapedB t))) ∧ s = [] := by
  have hD := Lib.hid (rDepth_p t)
  have hG := Lib.hid (rgood_p t)
  have HR := Lib.hid (show shapedB t = (decide (cdepthT t ≤ 128) && goodB t) from rfl)
  generalize cdepthT t = z at *
  generalize goodB t = g at *
  simp only [aggD, encD_tm, List.map_cons, List.map_nil]
  by_cases hz : z ≤ 128
  · rw [HR.out]
    refine PCalls.enter Try.func13 rfl Try.ntmps13 (by simp) ?_
    simp only [argsF]
    refine go_ ?_
    refine POps_box_a ?_
    intro i0 hi0
    refine go_ ?_
    refine POps_call_a (hD.out) ?_
    refine go_ ?_
    refine POps_call_a (hG.out) ?_
    refine go_ ?_
    refine retP_ok (by simp) (by simp only [Try.results13]; rfl) (by simp [resP, St.box?, PF.get, loadB, TyK.agg, *]; rfl) (List.nil_sublist _) ?_
    exact ⟨by simp [hz] <;> rfl, rfl⟩
  · rw [HR.out]
    refine PCalls.enter Try.func13 rfl Try.ntmps13 (by simp) ?_
    simp only [argsF]
    refine go_ ?_
    refine POps_box_a ?_
    intro i0 hi0
    refine go_ ?_
    refine POps_call_a (hD.out) ?_
    refine go_ ?_
    refine retP_ok (by simp) (by simp only [Try.results13]; rfl) (by simp [resP, St.box?, PF.get, loadB, TyK.agg, *]; rfl) (List.nil_sublist _) ?_
    exact ⟨by simp [hz] <;> rfl, rfl⟩
end Go.Proofs.Ytfnfbbmegdkhjaa

namespace Go.Proofs.Ytfnfbbmegdkhjaa
open Go.RowKit
set_option maxRecDepth 100000
theorem rleaf_p (k n : Int) : PCalls Try.prog 76 [.d (.v (.int .i64 k)), .d (.v (.int .i64 n))] [] fun p s => p = aggD (Tm.mk k n []) ∧ s = [] := by
  refine PCalls.enter Try.func76 rfl Try.ntmps76 (by simp) ?_
  simp only [argsF]
  refine go_ ?_
  refine POps_alloc_a ?_
  intro i0 hi0
  refine go_ ?_
  refine Rc ?_
  refine go_ ?_
  refine retP_ok (by simp) (by simp only [Try.results76]; rfl) (by simp [resP, St.box?, PF.get, loadB, TyK.agg, *]; rfl) (List.nil_sublist _) ?_
  exact ⟨by simp [aggD, tupP, PV.norm2, PV.norm1, PV.norm0], rfl⟩
set_option maxHeartbeats 4000000 in
theorem rtwo_p (k : Int) (a b : Tm) : PCalls Try.prog 112 [.d (.v (.int .i64 k)), aggD a, aggD b] [] fun p s => p = aggD (Tm.mk k 0 [a, b]) ∧ s = [] := by
  simp only [aggD, encD_tm, List.map_cons, List.map_nil, Tm.kind_mk, Tm.num_mk, Tm.sub_mk]
  refine PCalls.enter Try.func112 rfl Try.ntmps112 (by simp) ?_
  simp only [argsF]
  refine go_ ?_
  refine POps_box_a ?_
  intro i0 hi0
  refine go_ ?_
  refine POps_box_a ?_
  intro i1 hi1
  try simp only [St.freshB_box, St.freshB_nil, St.freshB_tok, St.freshB_obj] at hi1
  refine go_ ?_
  refine POps_alloc_a ?_
  intro i2 hi2
  try simp only [St.freshB_box, St.freshB_nil, St.freshB_tok, St.freshB_obj] at hi2
  refine go_ ?_
  refine POps_bs_a ?_
  refine go_ ?_
  refine Rc ?_
  refine go_ ?_
  refine retP_ok (by simp) (by simp only [Try.results112]; rfl) (by simp [resP, St.box?, PF.get, loadB, TyK.agg, *]; rfl) (List.nil_sublist _) ?_
  exact ⟨by simp [tupP, PV.norm2, PV.norm1, PV.norm0], rfl⟩
theorem tnode_p (k n : Int) (l : List Tm) : PCalls Try.prog 109 [.d (.v (.int .i64 k)), .d (.v (.int .i64 n)), .d (.sl (l.map encD))] [] fun p s => p = aggD (Tm.mk k n l) ∧ s = [] := by
  refine PCalls.enter Try.func109 rfl Try.ntmps109 (by simp) ?_
  simp only [argsF]
  refine go_ ?_
  refine POps_alloc_a ?_
  intro i0 hi0
  refine go_ ?_
  refine Rc ?_
  refine go_ ?_
  refine retP_ok (by simp) (by simp only [Try.results109]; rfl) (by simp [resP, St.box?, PF.get, loadB, TyK.agg, *]; rfl) (List.nil_sublist _) ?_
  exact ⟨by simp [aggD, tupP, PV.norm2, PV.norm1, PV.norm0], rfl⟩
theorem tsort_p (n : Int) : PCalls Try.prog 144 [.d (.v (.int .i64 n))] [] fun p s => p = aggD (Tm.mk 2 n []) ∧ s = [] := by
  have hc := Lib.hid (tnode_p 2 n [])
  simp only [aggD, encD_tm, List.map_cons, List.map_nil, Tm.kind_mk, Tm.num_mk, Tm.sub_mk] at hc ⊢
  refine PCalls.enter Try.func144 rfl Try.ntmps144 (by simp) ?_
  simp only [argsF]
  refine go_ ?_
  refine POps_alloc_a ?_
  intro i0 hi0
  refine go_ ?_
  refine POps_call_a (hc.out) ?_
  refine go_ ?_
  refine Rc ?_
  refine go_ ?_
  refine retP_ok (by simp) (by simp only [Try.results144]; rfl) (by simp [resP, St.box?, PF.get, loadB, TyK.agg, *]; rfl) (List.nil_sublist _) ?_
  exact ⟨by simp [tupP, PV.norm2, PV.norm1, PV.norm0], rfl⟩
set_option maxHeartbeats 4000000 in
theorem tLoose_p (t : Tm) : PCalls Try.prog 74 [aggD t] [] fun p s => p = .d (.v (.int .i64 (looseT t))) ∧ s = [] := by
  have hS := Lib.hid (tshaped_p t)
  have HR := Lib.hid (show looseT t = if shapedB t = true then lsT t 0 else 0 from rfl)
  cases hb : shapedB t with
  | true =>
    obtain ⟨h1, h2, h3⟩ := shaped_hg hb
    have hL := Lib.hid (tloose_p t 0 h1 (by decide) (by omega))
    rw [HR.out, if_pos hb]
    rw [hb] at hS
    clear HR hb h1 h2 h3
    simp only [aggD, encD_tm, List.map_cons, List.map_nil] at hS hL ⊢
    refine PCalls.enter Try.func74 rfl Try.ntmps74 (by simp) ?_
    simp only [argsF]
    refine go_ ?_
    refine POps_box_a ?_
    intro i0 hi0
    refine go_ ?_
    refine POps_call_a (hS.out) ?_
    refine go_ ?_
    refine POps_call_a (hL.out) ?_
    refine go_ ?_
    refine retP_ok (by simp) (by simp only [Try.results74]; rfl) (by simp [resP, St.box?, PF.get, loadB, TyK.agg, *]; rfl) (List.nil_sublist _) ?_
    exact ⟨rfl, rfl⟩
  | false =>
    rw [HR.out, if_neg (by rw [hb]; simp)]
    rw [hb] at hS
    clear HR hb
    simp only [aggD, encD_tm, List.map_cons, List.map_nil] at hS ⊢
    refine PCalls.enter Try.func74 rfl Try.ntmps74 (by simp) ?_
    simp only [argsF]
    refine go_ ?_
    refine POps_box_a ?_
    intro i0 hi0
    refine go_ ?_
    refine POps_call_a (hS.out) ?_
    refine go_ ?_
    refine retP_ok (by simp) (by simp only [Try.results74]; rfl) (by simp [resP, St.box?, PF.get, loadB, TyK.agg, *]; rfl) (List.nil_sublist _) ?_
    exact ⟨rfl, rfl⟩
set_option maxHeartbeats 4000000 in
theorem tSame_p (t u : Tm) : PCalls Try.prog 64 [aggD t, aggD u] [] fun p s => p = .d (.v (.bool (csameB t u))) ∧ s = [] := by
  have hT := Lib.hid (tshaped_p t)
  have hU := Lib.hid (tshaped_p u)
  have hE := Lib.hid (tequal_p t u)
  have HR := Lib.hid (show csameB t u = (shapedB t && shapedB u && ceqT t u) from rfl)
  generalize csameB t u = R at *
  generalize shapedB t = a at *
  generalize shapedB u = b at *
  generalize ceqT t u = c at *
  simp only [aggD, encD_tm, List.map_cons, List.map_nil] at hT hU hE ⊢
  cases a with
  | false =>
    refine PCalls.enter Try.func64 rfl Try.ntmps64 (by simp) ?_
    simp only [argsF]
    refine go_ ?_
    refine POps_box_a ?_
    intro i0 hi0
    refine go_ ?_
    refine POps_box_a ?_
    intro i1 hi1
    try simp only [St.freshB_box, St.freshB_nil, St.freshB_tok, St.freshB_obj] at hi1
    refine go_ ?_
    refine POps_call_a (hT.out) ?_
    refine go_ ?_
    refine retP_ok (by simp) (by simp only [Try.results64]; rfl) (by simp [resP, St.box?, PF.get, loadB, TyK.agg, *]; rfl) (List.nil_sublist _) ?_
    exact ⟨by rw [HR.out]; rfl, rfl⟩
  | true =>
    cases b with
    | false =>
      refine PCalls.enter Try.func64 rfl Try.ntmps64 (by simp) ?_
      simp only [argsF]
      refine go_ ?_
      refine POps_box_a ?_
      intro i0 hi0
      refine go_ ?_
      refine POps_box_a ?_
      intro i1 hi1
      try simp only [St.freshB_box, St.freshB_nil, St.freshB_tok, St.freshB_obj] at hi1
      refine go_ ?_
      refine POps_call_a (hT.out) ?_
      refine go_ ?_
      refine POps_call_a (hU.out) ?_
      refine go_ ?_
      refine retP_ok (by simp) (by simp only [Try.results64]; rfl) (by simp [resP, St.box?, PF.get, loadB, TyK.agg, *]; rfl) (List.nil_sublist _) ?_
      exact ⟨by rw [HR.out]; rfl, rfl⟩
    | true =>
      refine PCalls.enter Try.func64 rfl Try.ntmps64 (by simp) ?_
      simp only [argsF]
      refine go_ ?_
      refine POps_box_a ?_
      intro i0 hi0
      refine go_ ?_
      refine POps_box_a ?_
      intro i1 hi1
      try simp only [St.freshB_box, St.freshB_nil, St.freshB_tok, St.freshB_obj] at hi1
      refine go_ ?_
      refine POps_call_a (hT.out) ?_
      refine go_ ?_
      refine POps_call_a (hU.out) ?_
      refine go_ ?_
      refine POps_call_a (hE.out) ?_
      refine go_ ?_
      refine retP_ok (by simp) (by simp only [Try.results64]; rfl) (by simp [resP, St.box?, PF.get, loadB, TyK.agg, *]; rfl) (List.nil_sublist _) ?_
      exact ⟨by rw [HR.out]; rfl, rfl⟩
set_option maxHeartbeats 4000000 in
theorem rsameall_p (a b : List Tm) : PCalls Try.prog 28 [.d (.sl (a.map encD)), .d (.sl (b.map encD))] [] fun p s => p = .d (.v (.bool (ceqL a b))) ∧ s = [] := by
  by_cases hl : a.length = b.length
  rotate_left
  · rw [eqL_ne hl]
    have hl2 : ((a.length : Int) != b.length) = true := bne_iff_ne.2 (by omega)
    refine PCalls.enter Try.func28 rfl Try.ntmps28 (by simp) ?_
    simp only [argsF]
    refine go_ ?_
    refine retP_ok (by simp) (by simp only [Try.results28]; rfl) (by simp [resP, St.box?, PF.get, loadB, TyK.agg, *]; rfl) (List.nil_sublist _) ?_
    exact ⟨rfl, rfl⟩
  obtain ⟨m, ha, hb⟩ : ∃ m, a.length = m ∧ b.length = m := ⟨_, hl, rfl⟩
  clear hl
  obtain ⟨R, hR0⟩ : ∃ R, R = ceqL a b := ⟨_, rfl⟩
  rw [← hR0]
  have HR0 := Lib.hid hR0
  clear hR0
  refine PCalls.enter Try.func28 rfl Try.ntmps28 (by simp) ?_
  simp only [argsF]
  refine PW_slen (t := 0) (rows := a.map encD) (by simp [PF.get] <;> rfl) rfl fun hml => ?_
  rw [List.length_map, ha] at hml
  refine go_ ?_
  refine PW_loop (ι := Nat) (fun y => y ≤ m ∧ Hid (R = ceqL (a.drop y) (b.drop y))) (fun y => [(0, .d (.sl (a.map encD))), (1, .d (.sl (b.map encD))), (5, .d (.v (.int .i64 (y : Int))))]) (fun _ => []) (fun y => m - y) 0 ⟨Nat.zero_le _, HR0.out⟩ ?_ ?_ ?_
  · repeat (first | exact sub_nil _ | refine sub_cons (by simp [PF.get]; rfl) (by first | rfl | (simp [*]; done) | fail) ?_)
  · repeat (first | exact List.Sublist.refl _ | exact List.nil_sublist _ | refine List.Sublist.cons_cons _ ?_ | refine List.Sublist.cons _ ?_)
  · rintro j ⟨hj, hR⟩
    clear HR0
    unfold maxLen at hml
    by_cases hlt : j < m
    · have h1 : j < a.length := by omega
      have h2 : j < b.length := by omega
      have hx := get_enc h1
      have hy := get_enc h2
      have hc : (j : Int) < m := by omega
      have hn : (0 : Int) ≤ j := by omega
      have hin := wr64 (n := (j : Int) + 1) (by omega) (by omega)
      have hR2 : Hid (R = (ceqT a[j] b[j] && ceqL (a.drop (j + 1)) (b.drop (j + 1)))) := by rw [show R = _ from hR.out, eqL_step h1 h2]; rfl
      have hc1 := Lib.hid (requal_p a[j] b[j])
      clear hR
      generalize ceqT a[j] b[j] = e at *
      cases e with
      | false =>
        have hf : Hid (R = false) := by rw [show R = _ from hR2.out]; rfl
        refine go_ ?_
        refine PW_drawn [(0, .a), (1, .a), (2, .a), (3, .a), (4, .a), (5, .a), (6, .a), (7, .a), (8, .a), (9, .a)] (by kernel_rfl) (by rfl) (by kernel_rfl) ?_
        refine go_ ?_
        refine POrd_call_a (hc1.out) ?_
        refine go_ ?_
        refine retP_ok (by simp) (by simp only [Try.results28]; rfl) (by simp [resP, St.box?, PF.get, loadB, TyK.agg, *]; rfl) (List.nil_sublist _) ?_
        exact ⟨by rw [hf.out]; rfl, rfl⟩
      | true =>
        have hR3 : Hid (R = ceqL (a.drop (j + 1)) (b.drop (j + 1))) := by rw [show R = _ from hR2.out]; rfl
        refine go_ ?_
        refine PW_drawn [(0, .a), (1, .a), (2, .a), (3, .a), (4, .a), (5, .a), (6, .a), (7, .a), (8, .a), (9, .a)] (by kernel_rfl) (by rfl) (by kernel_rfl) ?_
        refine go_ ?_
        refine POrd_call_a (hc1.out) ?_
        refine go_ ?_
        exact ⟨j + 1, ⟨hlt, hR3⟩, by omega, by repeat (first | exact sub_nil _ | refine sub_cons (by simp [PF.get]; rfl) (by first | rfl | (simp [*]; done) | fail) ?_), by repeat (first | exact List.Sublist.refl _ | exact List.nil_sublist _ | refine List.Sublist.cons_cons _ ?_ | refine List.Sublist.cons _ ?_)⟩
    · have hc : ¬ (j : Int) < m := by omega
      have hf : Hid (R = true) := by rw [show R = _ from hR.out, eqL_end (by omega) (by omega)]; rfl
      refine go_ ?_
      refine retP_ok (by simp) (by simp only [Try.results28]; rfl) (by simp [resP, St.box?, PF.get, loadB, TyK.agg, *]; rfl) (List.nil_sublist _) ?_
      exact ⟨by rw [hf.out]; rfl, rfl⟩
end Go.Proofs.Ytfnfbbmegdkhjaa

namespace Go.Proofs.Ytfnfbbmegdkhjaa
open Go.RowKit
set_option maxRecDepth 100000
set_option maxHeartbeats 4000000 in
theorem tcloned_p : ∀ (t : Tm), cndT t ≤ 100000 → PCalls Try.prog 106 [aggD t] [] fun p s => p = aggD t ∧ s = [] := by
  refine Tm.ind ?_
  intro k n sub ih hnd
  have hns : cndL sub ≤ 100000 := by simp only [cndT] at hnd; omega
  have hsl : sub.length ≤ 100000 := Nat.le_trans (cndL_len sub) hns
  have IH : Hid (∀ s ∈ sub, PCalls Try.prog 106 [aggD s] [] fun p st => p = aggD s ∧ st = []) := fun s hs => ih s hs (by have := cnd_mem s hs; omega)
  simp only [aggD, encD_tm, List.map_cons, List.map_nil, Tm.kind_mk, Tm.num_mk, Tm.sub_mk]
  clear ih hnd hns
  refine PCalls.enter Try.func106 rfl Try.ntmps106 (by simp) ?_
  simp only [argsF]
  refine go_ ?_
  refine POps_box_a ?_
  intro i0 hi0
  refine go_ ?_
  refine POps_alloc_a ?_
  intro i1 hi1
  try simp only [St.freshB_box, St.freshB_nil, St.freshB_tok, St.freshB_obj] at hi1
  refine go_ ?_
  refine POps_alloc_a ?_
  intro i2 hi2
  try simp only [St.freshB_box, St.freshB_nil, St.freshB_tok, St.freshB_obj] at hi2
  refine go_ ?_
  refine Rc ?_
  refine gs_ ?_
  refine PW_ownB i2 2 28 3 (by simp [nev, nevA, nevB, evBuild, PF.eval, PF.get, PF.wants, cPV, cCell, PV.rows, evBin, evUn, evConv, evLen, loadA, loadB, TyK.agg, partA, St.box?, St.tok?, St.setBox, St.setTok, fillO, spl, PV.ps, PV.one, evalArgs, aggD, slD, encD_nd, encD_bd, encD_rw, encD_dc, encD_str, encD_int, *]; rfl) (by rfl) (by rfl) (by intro g; simp [St.setBox, *]; rfl) (by decide) ?_
  intro g hg
  refine go_ ?_
  refine PW_loop (ι := Nat) (fun y => y ≤ sub.length) (fun y => [(2, .ptr i1 0), (3, .ptr i2 0), (12, .d (.sl (sub.map encD))), (13, .d (.v (.int .i64 sub.length))), (14, .d (.v (.int .i64 (y : Int))))]) (fun y => [.tok g 28 3 y, .box i2 28 [.d (.v (.int .i64 k)), .d (.v (.int .i64 n)), .own g ((sub.map encD).take y)], .box i1 28 [.d (.v (.int .i64 0)), .d (.v (.int .i64 0)), .nils]]) (fun y => sub.length - y) 0 (Nat.zero_le _) ?_ ?_ ?_
  · repeat (first | exact sub_nil _ | refine sub_cons (by simp [PF.get]; rfl) (by first | rfl | (simp [*]; done) | fail) ?_)
  · repeat (first | exact List.Sublist.refl _ | exact List.nil_sublist _ | refine List.Sublist.cons_cons _ ?_ | refine List.Sublist.cons _ ?_)
  · rintro j hj
    by_cases hlt : j < sub.length
    · have hx := get_enc hlt
      have hc : (j : Int) < sub.length := by omega
      have hn : (0 : Int) ≤ j := by omega
      have hin := wr64 (n := (j : Int) + 1) (by omega) (by omega)
      have hc1 := Lib.hid (IH.out _ (List.getElem_mem hlt))
      have hT : (sub.map encD).take (j + 1) = (sub.map encD).take j ++ [encD sub[j]] := by rw [← List.map_take, List.take_succ_eq_append_getElem hlt, List.map_append, List.map_take]; rfl
      have hlen : (sub.take j).length = j := by rw [List.length_take]; omega
      have HT := Lib.hid hT
      clear hT
      refine go_ ?_
      refine POps_alloc_a ?_
      intro i3 hi3
      try simp only [St.freshB_box, St.freshB_nil, St.freshB_tok, St.freshB_obj] at hi3
      refine go_ ?_
      refine Rc ?_
      refine go_ ?_
      refine PW_drawnL (J := keepJ [(i2, _), (i3, _)]) [(0, .a), (1, .a), (2, .a), (3, .a), (4, .a), (5, .e), (6, .a), (7, .e)] (by kernel_rfl) (by rfl) (by kernel_rfl) (by (repeat (first | exact keepJ_nil _ | refine keepJ_cons (by simp [St.box?, *] <;> rfl) ?_))) ?_
      repeat (first | with_reducible refine PL_nil ?_ | refine PL_gn2 ?_ | refine PL_s2 ?_ | refine PL_b2 ?_)
      refine PL_call2 (hc1.out) ?_
      repeat (first | with_reducible refine PL_nil ?_ | refine PL_gn2 ?_ | refine PL_s2 ?_ | refine PL_b2 ?_)
      refine PL_bs ?_ rfl (by decide) rfl (by simp; rfl) (by rfl) (by simp; rfl) (by rfl) (by decide) (by decide) (by simp [nev, nevA, nevB, evBuild, PF.eval, PF.get, PF.wants, cPV, cCell, PV.rows, evBin, evUn, evConv, evLen, loadA, loadB, TyK.agg, partA, St.box?, St.tok?, St.setBox, St.setTok, fillO, spl, PV.ps, PV.one, evalArgs, aggD, slD, encD_nd, encD_bd, encD_rw, encD_dc, encD_str, encD_int, *]; rfl) (by simp [rowsOf, toDs, PV.toD]; rfl)
      refine PL_app (j + 1) ?_ ?_ ?_ ?_ ?_
      rotate_left
      · exact fun row h => rows3 sub row (List.mem_of_mem_take h)
      · exact rows_one rfl
      · simp; omega
      · exact .inr (by (repeat (first | exact keepJ_nil _ | refine keepJ_cons (by simp [St.box?, *] <;> rfl) ?_)))
      repeat (first | with_reducible refine PL_nil ?_ | refine PL_gn2 ?_ | refine PL_s2 ?_ | refine PL_b2 ?_)
      refine PL_store rfl rfl (by simp [nev, nevA, nevB, evBuild, PF.eval, PF.get, PF.wants, cPV, cCell, PV.rows, evBin, evUn, evConv, evLen, loadA, loadB, TyK.agg, partA, St.box?, St.tok?, St.setBox, St.setTok, fillO, spl, PV.ps, PV.one, evalArgs, aggD, slD, encD_nd, encD_bd, encD_rw, encD_dc, encD_str, encD_int, *]; rfl) (by rfl) (by simp [nev, nevA, nevB, evBuild, PF.eval, PF.get, PF.wants, cPV, cCell, PV.rows, evBin, evUn, evConv, evLen, loadA, loadB, TyK.agg, partA, St.box?, St.tok?, St.setBox, St.setTok, fillO, spl, PV.ps, PV.one, evalArgs, aggD, slD, encD_nd, encD_bd, encD_rw, encD_dc, encD_str, encD_int, *]; rfl) (by simp [PV.ps, aggD, slD, encD_nd, encD_bd, encD_rw, encD_dc, encD_str, encD_int]; rfl) (by first | rfl | (simp [*]; done) | (simp [PV.one, *]; done) | fail) (by simp; rfl) (by first | (simp; done) | fail) (by simp [nev, nevA, nevB, evBuild, PF.eval, PF.get, PF.wants, cPV, cCell, PV.rows, evBin, evUn, evConv, evLen, loadA, loadB, TyK.agg, partA, St.box?, St.tok?, St.setBox, St.setTok, fillO, spl, PV.ps, PV.one, evalArgs, aggD, slD, encD_nd, encD_bd, encD_rw, encD_dc, encD_str, encD_int, *]; rfl) (by rfl) (by first | (simp; done) | fail) (by simp [St.setBox, spl, *]; rfl) (by first | exact .inl (by decide +kernel) | exact .inr (by (repeat (first | exact keepJ_nil _ | refine keepJ_cons (by simp [St.box?, *] <;> rfl) ?_)))) ?_
      repeat (first | with_reducible refine PL_nil ?_ | refine PL_gn2 ?_ | refine PL_s2 ?_ | refine PL_b2 ?_)
      refine go_ ?_
      refine ⟨j + 1, hlt, by omega, ?_, ?_⟩
      · repeat (first | exact sub_nil _ | refine sub_cons (by simp [PF.get]; rfl) (by first | rfl | (simp [*]; done) | fail) ?_)
      · rw [HT.out]
        simp only [encD_tm]
        repeat (first | exact List.Sublist.refl _ | exact List.nil_sublist _ | refine List.Sublist.cons_cons _ ?_ | refine List.Sublist.cons _ ?_)
    · have hc : ¬ (j : Int) < sub.length := by omega
      have hj2 : j = sub.length := by omega
      subst hj2
      have htk : (sub.map encD).take sub.length = sub.map encD := List.take_of_length_le (by simp)
      rw [htk]
      refine go_ ?_
      refine Rc ?_
      refine go_ ?_
      refine retP_ok (by simp) (by simp only [Try.results106]; rfl) (by simp [resP, St.box?, PF.get, loadB, TyK.agg, *]; rfl) (List.nil_sublist _) ?_
      exact ⟨by simp [tupP, PV.norm2, PV.norm1, PV.norm0], rfl⟩
end Go.Proofs.Ytfnfbbmegdkhjaa

namespace Go.Proofs.Ytfnfbbmegdkhjaa
open Go.RowKit
set_option maxRecDepth 100000
/-- a shaped term's copy; of another one the zero term -/
def copyT (t : Tm) : Tm := if shapedB t = true then t else .mk 0 0 []
set_option maxHeartbeats 4000000 in
theorem tCopy_p (t : Tm) : PCalls Try.prog 68 [aggD t] [] fun p s => p = aggD (copyT t) ∧ s = [] := by
  have hS := Lib.hid (tshaped_p t)
  have HR := Lib.hid (show copyT t = if shapedB t = true then t else .mk 0 0 [] from rfl)
  cases hb : shapedB t with
  | true =>
    have hL := Lib.hid (tcloned_p t (by have := (shaped_hg hb).2.2; omega))
    rw [HR.out, if_pos hb]
    rw [hb] at hS
    clear HR hb
    simp only [aggD, encD_tm, List.map_cons, List.map_nil] at hS hL ⊢
    refine PCalls.enter Try.func68 rfl Try.ntmps68 (by simp) ?_
    simp only [argsF]
    refine go_ ?_
    refine POps_box_a ?_
    intro i0 hi0
    refine go_ ?_
    refine POps_alloc_a ?_
    intro i1 hi1
    try simp only [St.freshB_box, St.freshB_nil, St.freshB_tok, St.freshB_obj] at hi1
    refine go_ ?_
    refine POps_call_a (hS.out) ?_
    refine go_ ?_
    refine POps_call_a (hL.out) ?_
    refine go_ ?_
    refine Rc ?_
    refine go_ ?_
    refine retP_ok (by simp) (by simp only [Try.results68]; rfl) (by simp [resP, St.box?, PF.get, loadB, TyK.agg, *]; rfl) (List.nil_sublist _) ?_
    exact ⟨by simp [tupP, PV.norm2, PV.norm1, PV.norm0], rfl⟩
  | false =>
    rw [HR.out, if_neg (by rw [hb]; simp)]
    rw [hb] at hS
    clear HR hb
    simp only [aggD, encD_tm, List.map_cons, List.map_nil, Tm.kind_mk, Tm.num_mk, Tm.sub_mk] at hS ⊢
    refine PCalls.enter Try.func68 rfl Try.ntmps68 (by simp) ?_
    simp only [argsF]
    refine go_ ?_
    refine POps_box_a ?_
    intro i0 hi0
    refine go_ ?_
    refine POps_alloc_a ?_
    intro i1 hi1
    try simp only [St.freshB_box, St.freshB_nil, St.freshB_tok, St.freshB_obj] at hi1
    refine go_ ?_
    refine POps_call_a (hS.out) ?_
    refine go_ ?_
    refine Rc ?_
    refine go_ ?_
    refine retP_ok (by simp) (by simp only [Try.results68]; rfl) (by simp [resP, St.box?, PF.get, loadB, TyK.agg, *]; rfl) (List.nil_sublist _) ?_
    exact ⟨by simp [tupP, PV.norm2, PV.norm1, PV.norm0], rfl⟩
/-- the walk of put: what is behind, what is done -/
def putG : List Int → Int → Bool → List Int
  | [], n, d => if d = true then [] else [n]
  | x :: xs, n, d => if d = true then x :: putG xs n true else if n ≤ x then (if n < x then [n, x] else [x]) ++ putG xs n true else x :: putG xs n false
theorem putG_true (l : List Int) (n : Int) : putG l n true = l := by
  induction l with
  | nil => simp [putG]
  | cons x xs ih => simp [putG, ih]
theorem putG_eq (l : List Int) (n : Int) : putG l n false = putL l n := by
  induction l with
  | nil => simp [putG, putL]
  | cons x xs ih =>
    simp only [putG, putL, putG_true, ih]
    simp only [Bool.false_eq_true, if_false]
    by_cases h1 : x < n
    · rw [if_neg (by omega), if_pos h1]
    · rw [if_neg h1, if_pos (by omega)]
      by_cases h2 : n < x
      · rw [if_pos h2, if_pos h2]; rfl
      · rw [if_neg h2, if_neg h2]; rfl
set_option maxHeartbeats 4000000 in
theorem rput_p (l : List Int) (n : Int) (hl : l.length ≤ 100000) : PCalls Try.prog 85 [.d (.sl (l.map encD)), .d (.v (.int .i64 n))] [] fun p s => p = .d (.sl ((putL l n).map encD)) ∧ s = [] := by
  obtain ⟨R, hR0⟩ : ∃ R, R = putG l n false := ⟨_, rfl⟩
  rw [← putG_eq, ← hR0]
  have HR0 := Lib.hid hR0
  clear hR0
  refine PCalls.enter Try.func85 rfl Try.ntmps85 (by simp) ?_
  simp only [argsF]
  refine go_ ?_
  refine POps_bs0 ?_ (by decide) (by first | (simp [nev, nevA, nevB, evBuild, PF.eval, PF.get, PF.wants, cPV, cCell, PV.rows, evBin, evUn, evConv, evLen, loadA, loadB, TyK.agg, partA, St.box?, St.tok?, St.setBox, St.setTok, fillO, spl, PV.ps, PV.one, evalArgs, aggD, slD, encD_nd, encD_bd, encD_rw, encD_dc, encD_str, encD_int, *]; done) | fail) (by simp; rfl) (by rfl) (by simp; rfl) (by rfl) (by decide)
  intro g hg
  refine go_ ?_
  refine PW_loop (ι := Nat × List Int × Bool) (fun y => y.1 ≤ l.length ∧ y.2.1.length ≤ 2 * y.1 ∧ Hid (R = y.2.1 ++ putG (l.drop y.1) n y.2.2)) (fun y => [(0, .d (.sl (l.map encD))), (1, .d (.v (.int .i64 n))), (5, .own g (y.2.1.map encD)), (6, .d (.v (.bool y.2.2))), (7, .d (.v (.int .i64 (y.1 : Int))))]) (fun y => [.tok g 3 1 y.2.1.length]) (fun y => l.length - y.1) (0, [], false) ⟨Nat.zero_le _, Nat.le_refl _, HR0.out⟩ ?_ ?_ ?_
  · repeat (first | exact sub_nil _ | refine sub_cons (by simp [PF.get]; rfl) (by first | rfl | (simp [*]; done) | fail) ?_)
  · repeat (first | exact List.Sublist.refl _ | exact List.nil_sublist _ | refine List.Sublist.cons_cons _ ?_ | refine List.Sublist.cons _ ?_)
  · rintro ⟨j, o, d⟩ ⟨hj, ho, hR⟩
    simp only at hj ho hR ⊢
    clear HR0
    by_cases hlt : j < l.length
    · have hx := get_enc hlt
      have hc : (j : Int) < l.length := by omega
      have hn : (0 : Int) ≤ j := by omega
      have hin := wr64 (n := (j : Int) + 1) (by omega) (by omega)
      have hR2 := hR.out
      rw [List.drop_eq_getElem_cons hlt] at hR2
      simp only [putG] at hR2
      cases d with
      | true =>
        simp only [if_true] at hR2
        have HR2 := Lib.hid hR2
        clear hR2 hR
        refine go_ ?_
        refine POps_bs_a ?_
        refine go_ ?_
        refine POps_app_a (o.length + 1) ?_ ?_ ?_ ?_
        · simp
        · exact rows1 _
        · exact rows_one rfl
        refine go_ ?_
        refine ⟨(j + 1, o ++ [l[j]], true), ⟨hlt, by simp; omega, by rw [show R = _ from HR2.out, List.append_assoc]; rfl⟩, by simp only; omega, ?_, ?_⟩
        · repeat (first | exact sub_nil _ | refine sub_cons (by simp [PF.get]; rfl) (by first | rfl | (simp [encD_int, hin]; done) | fail) ?_)
        · simp only [List.length_append, List.length_singleton]
          repeat (first | exact List.Sublist.refl _ | exact List.nil_sublist _ | refine List.Sublist.cons_cons _ ?_ | refine List.Sublist.cons _ ?_)
      | false =>
        simp only [Bool.false_eq_true, if_false] at hR2
        by_cases h1 : n ≤ l[j]
        · rw [if_pos h1] at hR2
          by_cases h2 : n < l[j]
          · rw [if_pos h2] at hR2
            have HR2 := Lib.hid hR2
            clear hR2 hR
            refine go_ ?_
            refine POps_bs_a ?_
            refine go_ ?_
            refine POps_app_a (o.length + 1) ?_ ?_ ?_ ?_
            · simp
            · exact rows1 _
            · exact rows_one rfl
            refine go_ ?_
            refine POps_bs_a ?_
            refine go_ ?_
            refine POps_app_a (o.length + 2) ?_ ?_ ?_ ?_
            · simp
            · simpa [encD_int] using rows1a o [n]
            · exact rows_one rfl
            refine go_ ?_
            refine ⟨(j + 1, o ++ [n, l[j]], true), ⟨hlt, by simp; omega, by rw [show R = _ from HR2.out, List.append_assoc]; rfl⟩, by simp only; omega, ?_, ?_⟩
            · repeat (first | exact sub_nil _ | refine sub_cons (by simp [PF.get]; rfl) (by first | rfl | (simp [encD_int, hin]; done) | fail) ?_)
            · simp only [List.length_append, List.length_cons, List.length_nil]
              repeat (first | exact List.Sublist.refl _ | exact List.nil_sublist _ | refine List.Sublist.cons_cons _ ?_ | refine List.Sublist.cons _ ?_)
          · rw [if_neg h2] at hR2
            have HR2 := Lib.hid hR2
            clear hR2 hR
            refine go_ ?_
            refine POps_bs_a ?_
            refine go_ ?_
            refine POps_app_a (o.length + 1) ?_ ?_ ?_ ?_
            · simp
            · exact rows1 _
            · exact rows_one rfl
            refine go_ ?_
            refine ⟨(j + 1, o ++ [l[j]], true), ⟨hlt, by simp; omega, by rw [show R = _ from HR2.out, List.append_assoc]; rfl⟩, by simp only; omega, ?_, ?_⟩
            · repeat (first | exact sub_nil _ | refine sub_cons (by simp [PF.get]; rfl) (by first | rfl | (simp [encD_int, hin]; done) | fail) ?_)
            · simp only [List.length_append, List.length_singleton]
              repeat (first | exact List.Sublist.refl _ | exact List.nil_sublist _ | refine List.Sublist.cons_cons _ ?_ | refine List.Sublist.cons _ ?_)
        · rw [if_neg h1] at hR2
          have HR2 := Lib.hid hR2
          clear hR2 hR
          refine go_ ?_
          refine POps_bs_a ?_
          refine go_ ?_
          refine POps_app_a (o.length + 1) ?_ ?_ ?_ ?_
          · simp
          · exact rows1 _
          · exact rows_one rfl
          refine go_ ?_
          refine ⟨(j + 1, o ++ [l[j]], false), ⟨hlt, by simp; omega, by rw [show R = _ from HR2.out, List.append_assoc]; rfl⟩, by simp only; omega, ?_, ?_⟩
          · repeat (first | exact sub_nil _ | refine sub_cons (by simp [PF.get]; rfl) (by first | rfl | (simp [encD_int, hin]; done) | fail) ?_)
          · simp only [List.length_append, List.length_singleton]
            repeat (first | exact List.Sublist.refl _ | exact List.nil_sublist _ | refine List.Sublist.cons_cons _ ?_ | refine List.Sublist.cons _ ?_)
    · have hc : ¬ (j : Int) < l.length := by omega
      have hR2 := hR.out
      rw [List.drop_of_length_le (by omega)] at hR2
      cases d with
      | true =>
        have hf : Hid (R = o) := by show _ = _; rw [show R = _ from hR2]; simp [putG]
        clear hR2 hR
        refine go_ ?_
        refine retP_ok (by simp) (by simp only [Try.results85]; rfl) (by simp [resP, St.box?, PF.get, loadB, TyK.agg, *]; rfl) (List.nil_sublist _) ?_
        exact ⟨by rw [hf.out]; rfl, rfl⟩
      | false =>
        have hf : Hid (R = o ++ [n]) := by show _ = _; rw [show R = _ from hR2]; simp [putG]
        clear hR2 hR
        refine go_ ?_
        refine POps_bs_a ?_
        refine go_ ?_
        refine POps_app_a (o.length + 1) ?_ ?_ ?_ ?_
        · simp
        · exact rows1 _
        · exact rows_one rfl
        refine go_ ?_
        refine retP_ok (by simp) (by simp only [Try.results85]; rfl) (by simp [resP, St.box?, PF.get, loadB, TyK.agg, *]; rfl) (List.nil_sublist _) ?_
        exact ⟨by rw [hf.out]; simp [tupP, PV.norm2, PV.norm1, PV.norm0, encD_int], rfl⟩
end Go.Proofs.Ytfnfbbmegdkhjaa

namespace Go.Proofs.Ytfnfbbmegdkhjaa
open Go.RowKit
set_option maxRecDepth 100000
theorem lst3 {cs : List Value} (h : cs.length = 3) : ∃ a b c, cs = [a, b, c] := by
  match cs, h with
  | [a, b, c], _ => exact ⟨a, b, c, rfl⟩
theorem repF_tail {S : Nat → Prop} {w : World} {ds : List Dt} {cs : List Value} {o n : Nat} (h : RepF S w ds ((cs.drop o).take n)) (hl : cs.length ≤ o + n) : RepF S w ds (cs.drop o) := by
  rwa [List.take_of_length_le (by rw [List.length_drop]; omega)] at h
/-- nothing that was read is greater than the form's reach -/
def Wl {H : Type} (P : Program) (t : TypeId) (d : DataW H) : Prop := (DataW.weights P t d).all (· ≤ reachBytes) = true
section
variable {H : Type} {P : Program}
theorem wl_arg {ts : List TypeId} {ds : List (DataW H)} (h : (DataW.weightsEach P ts ds).all (· ≤ reachBytes) = true) {j : Nat} {t : TypeId} {d : DataW H} (ht : ts[j]? = some t) (hd : ds[j]? = some d) : Wl P t d := by
  unfold Wl
  rw [List.all_eq_true] at h ⊢
  exact fun w hw => h w (DataW.weights_mem_each ht hd w hw)
theorem weights_all {e : TypeId} {d : DataW H} {x : Nat} (hx : x ∈ DataW.weights P e d) : ∀ l : List (DataW H), d ∈ l → x ∈ DataW.weightsAll P e l := by
  intro l
  induction l with
  | nil => intro h; cases h
  | cons y l ih =>
    intro h
    simp only [DataW.weightsAll, List.mem_append]
    rcases List.mem_cons.1 h with rfl | h
    · exact .inl hx
    · exact .inr (ih h)
theorem wl_slice {t e : TypeId} {elems spare : List (DataW H)} (hu : P.underlying t = some (.slice e)) (h : Wl P t (.slice elems spare)) : (elems.length + spare.length) * P.bytesOf e ≤ reachBytes ∧ ∀ d ∈ elems, Wl P e d := by
  unfold Wl at h
  simp only [DataW.weights, hu, List.all_cons, Bool.and_eq_true, decide_eq_true_eq, List.all_eq_true, List.mem_append] at h
  refine ⟨h.1, fun d hd => ?_⟩
  unfold Wl
  rw [List.all_eq_true]
  exact fun w hw => by simpa using h.2 w (.inl (weights_all hw _ hd))
end
section
variable {H : Type} {enc : TypeId × Value → H} {w : World} {base : Nat} {spare : Nat → Bool} {held : Bool}
/-- what reads as a value of a type, within the form's reach, is an α of which Ok holds -/
def OpnB (α : Type) [Enc α] (Ok : α → Prop) (enc : TypeId × Value → H) (w : World) (base : Nat) (spare : Nat → Bool) (held : Bool) (T : TypeId) (n : Nat) : Prop :=
  ∀ (cs : List Value) (x : DataW H × List MemPlace), DataW.trod enc Try.prog w base spare held n T cs = some x → Wl Try.prog T x.1 → ∃ a : α, Rep (fun _ => True) w a cs ∧ Ok a
theorem opnB_slice {α : Type} [Enc α] {Ok : α → Prop} {T e : TypeId} {n : Nat} (ht : Try.prog.underlying T = some (.slice e)) (hc : Try.prog.cellsOf e = Enc.sz α) (hpos : 0 < Enc.sz α)
    (ih : ∀ m, m < n → OpnB α Ok enc w base spare held e m) {cs : List Value} {x : DataW H × List MemPlace} (h : DataW.trod enc Try.prog w base spare held n T cs = some x) (hw : Wl Try.prog T x.1) : ∃ (v : Value) (l : List α), cs = [v] ∧ RepS (fun _ => True) w v l ∧ (∀ a ∈ l, Ok a) ∧ l.length * Try.prog.bytesOf e ≤ reachBytes := by
  rcases DataW.trod_slice ht h with ⟨rfl, _⟩ | ⟨a, len, cap, elems, rest, m, rfl, rfl, rfl, _, hl, hm, hlen, hel, _, _⟩
  · exact ⟨_, [], rfl, RepS.nil, by simp, by simp⟩
  · rw [hc] at hel
    obtain ⟨hb, hws⟩ := wl_slice ht hw
    have each : ∀ i, i < len → ∃ p : List Value × α, w.cells? base (a.add (i * Enc.sz α)) (Enc.sz α) = some p.1 ∧ (Rep (fun _ => True) w p.2 p.1 ∧ Ok p.2) := by
      intro i hi
      have h1 := hel i hi
      rw [List.getElem?_eq_getElem (by omega)] at h1
      obtain ⟨cs', h2, h3⟩ := Option.bind_eq_some_iff.1 h1
      obtain ⟨t, ht⟩ := ih m (by omega) cs' _ h3 (hws _ (List.mem_map.2 ⟨_, List.getElem_mem _, rfl⟩))
      exact ⟨(cs', t), h2, ht⟩
    obtain ⟨ps, hpl, hp⟩ := choose_list (Q := fun i (p : List Value × α) => w.cells? base (a.add (i * Enc.sz α)) (Enc.sz α) = some p.1 ∧ (Rep (fun _ => True) w p.2 p.1 ∧ Ok p.2)) each
    refine ⟨_, ps.map (·.2), rfl, RepS.mk (css := ps.map (·.1)) ?_ ?_, ?_, ?_⟩
    · refine ⟨some a, cap, by simp [hpl], by simpa [hpl] using hl, hm, fun hne => ?_⟩
      have hl0 : 0 < ps.length := by
        cases ps with
        | nil => exact absurd rfl hne
        | cons _ _ => simp
      obtain ⟨_, hcl0, hcell0⟩ := World.cells?_some (hp 0 hl0).1
      have h0 := hcell0 0 hpos
      simp only [Nat.zero_mul, Addr.add, if_true] at h0
      rw [List.getElem?_eq_getElem (by omega)] at h0
      have hs : a.spot = none := spot_none h0
      refine ⟨a.block, a.off, by cases a; simp_all, trivial, World.block_lt_of_cell? w _ h0, fun i c hic => ?_⟩
      simp only [List.getElem?_map, Option.map_eq_some_iff] at hic
      obtain ⟨p, hpi, rfl⟩ := hic
      obtain ⟨hi, hpe⟩ := List.getElem?_eq_some_iff.1 hpi
      have hpp := (hp i hi).1
      rw [hpe] at hpp
      obtain ⟨_, hcl, hcell⟩ := World.cells?_some hpp
      refine ⟨hcl, fun j u hu => ?_⟩
      have hj : j < Enc.sz α := by
        have := (List.getElem?_eq_some_iff.1 hu).1; omega
      have := hcell j hj
      rw [hu, addr_add (x := a) hs, addr_add rfl] at this
      simpa [Nat.add_assoc] using this
    · refine RepL.mk (by simp) fun i hi => ?_
      have hi' : i < ps.length := by simpa using hi
      exact ⟨ps[i].1, by simp [hi'], by have h := (hp i hi').2.1; unfold Rep at h; simpa using h⟩
    · intro y hy
      obtain ⟨p, hpm, rfl⟩ := List.mem_map.1 hy
      obtain ⟨i, hi, rfl⟩ := List.getElem_of_mem hpm
      exact (hp i hi).2.2
    · rw [List.length_map, hpl]
      refine Nat.le_trans (Nat.mul_le_mul_right _ ?_) hb
      rw [List.length_map]; omega
theorem opn_tm : ∀ (n : Nat), OpnAt Tm enc w base spare held 28 n := by
  intro n
  induction n using Nat.strongRecOn with
  | ind n ih =>
    intro cs x h
    obtain ⟨xs, m, rfl, _, hlen, hxs, hf⟩ := DataW.trod_struct Try.underlying28 h
    have hc : Try.prog.cellsOf 28 = 3 := by kernel_rfl
    have hc3 : Try.prog.cellsOf 3 = 1 := by kernel_rfl
    have hcs : Try.prog.cellsOf 23 = 1 := by kernel_rfl
    rw [hc] at hlen
    obtain ⟨c0, c1, c2, rfl⟩ := lst3 hlen
    match xs, hxs with
    | [x0, x1, x2], _ =>
      have h0 : DataW.trod enc Try.prog w base spare held m 3 (([c0, c1, c2].drop 0).take (Try.prog.cellsOf 3)) = some x0 := hf 0 _ rfl
      have h1 : DataW.trod enc Try.prog w base spare held m 3 (([c0, c1, c2].drop 1).take (Try.prog.cellsOf 3)) = some x1 := hf 1 _ rfl
      have h2 : DataW.trod enc Try.prog w base spare held m 23 (([c0, c1, c2].drop 2).take (Try.prog.cellsOf 23)) = some x2 := hf 2 _ rfl
      rw [hc3] at h0 h1
      rw [hcs] at h2
      obtain ⟨k, hk⟩ := opn_int (by kernel_rfl) m _ _ h0
      obtain ⟨a, ha⟩ := opn_int (by kernel_rfl) m _ _ h1
      obtain ⟨v, l, hv, hl⟩ := opn_slice (α := Tm) Try.underlying23 hc (by decide) (fun m' hm' => ih m' (by omega)) h2
      have e : [c0] = [.int .i64 k] := rep_int.1 hk
      have e1 : [c1] = [.int .i64 a] := rep_int.1 ha
      have e2 : [c2] = [v] := hv
      obtain rfl := (List.cons.inj e).1
      obtain rfl := (List.cons.inj e1).1
      obtain rfl := (List.cons.inj e2).1
      exact ⟨.mk k a l, rep_tm.2 ⟨c2, rfl, hl⟩⟩
end
end Go.Proofs.Ytfnfbbmegdkhjaa
