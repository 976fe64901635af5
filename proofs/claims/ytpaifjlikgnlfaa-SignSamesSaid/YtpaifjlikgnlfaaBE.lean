import Derived.Test.YtpaifjlikgnlfaaBA2
import Derived.Lib.SlicesCompact
import Derived.Test.YtpaifjlikgnlfaaBA3
import Derived.Test.YtpaifjlikgnlfaaTab
set_option linter.unusedSimpArgs false
set_option linter.unusedVariables false
set_option maxHeartbeats 16000000
set_option maxRecDepth 100000
namespace Go.Proofs.Ytpaifjlikgnlfaa
open Go.RowKit
inductive Tm where
 | mk (kind n : Int) (sub : List Tm)
theorem Tm.ind {P : Tm → Prop} (h : ∀ k n sub, (∀ s ∈ sub, P s) → P (.mk k n sub)) : ∀ t, P t := by
 intro t
 exact Tm.rec (motive_1 := P) (motive_2 := fun l => ∀ s ∈ l, P s) (fun k n sub ih => h k n sub ih) (fun s hs => by cases hs) (fun t ts h1 h2 s hs => by
  cases hs with
  | head => exact h1
  | tail _ hm => exact h2 s hm) t
def Tm.kind : Tm → Int | .mk k _ _ => k
def Tm.num : Tm → Int | .mk _ n _ => n
def Tm.sub : Tm → List Tm | .mk _ _ s => s
mutual
def tmD : Tm → List Dt
 | .mk k n sub => [.v (.int .i64 k), .v (.int .i64 n), .s 3 (tmDs sub)]
def tmDs : List Tm → List (List Dt)
 | [] => []
 | t :: ts => tmD t :: tmDs ts
end
theorem Qfv (l : List Tm) : tmDs l = l.map tmD := by
 induction l with
 | nil => rfl
 | cons t ts ih => simp only [tmDs, List.map_cons, ih]
theorem tmD_len (t : Tm) : (tmD t).length = 3 := by cases t; simp only [tmD]; rfl
instance : Enc Tm := ⟨3, tmD, tmD_len⟩
theorem tmD_ok : ∀ (t : Tm), ∀ d ∈ tmD t, DtOk d := by
 refine Tm.ind ?_
 intro k n sub ih d hd
 simp only [tmD, List.mem_cons, List.not_mem_nil, or_false] at hd
 rcases hd with rfl | rfl | rfl
 ·exact .v trivial
 ·exact .v trivial
 ·refine .s (by decide) (fun f hf => ?_) fun f hf d hd => ?_
  ·rw [Qfv] at hf; obtain ⟨t, _, rfl⟩ := List.mem_map.1 hf; exact tmD_len t
  ·rw [Qfv] at hf; obtain ⟨t, ht, rfl⟩ := List.mem_map.1 hf; exact ih t ht d hd
instance : EncOk Tm := ⟨tmD_ok⟩
@[simp] theorem Jl (t : Tm) : encD t = [.v (.int .i64 t.kind), .v (.int .i64 t.num), .sl (t.sub.map encD)] := by
  cases t with
  | mk k n sub =>
    unfold encD
    simp only [Enc.enc, tmD, dtL, dtD, Qcq, Qfv, List.map_map, Tm.kind, Tm.num, Tm.sub]
    rfl
@[simp] theorem Jv (k n : Int) (l : List Tm) : (Tm.mk k n l).kind = k := rfl
@[simp] theorem Jw (k n : Int) (l : List Tm) : (Tm.mk k n l).num = n := rfl
@[simp] theorem Jx (k n : Int) (l : List Tm) : (Tm.mk k n l).sub = l := rfl
mutual
def cszT : Tm → Int → Int
 | .mk _ _ sub, h => cszL sub (h + 1)
def cszL : List Tm → Int → Int
 | [], h => h
 | t :: ts, h => if 8192 < h then h else cszL ts (cszT t h)
end
theorem cszL_big (ts : List Tm) (h : Int) (hb : 8192 < h) : cszL ts h = h := by
 cases ts with
 | nil => rfl
 | cons t ts => simp only [cszL]; rw [if_pos hb]
theorem csz_bd : ∀ (t : Tm) (h : Int), 0 ≤ h → h ≤ 8192 → h + 1 ≤ cszT t h ∧ cszT t h ≤ 8193 := by
  refine Tm.ind ?_
  intro k n sub ih h h0 h1
  have : ∀ (l : List Tm), (∀ s ∈ l, ∀ (h : Int), 0 ≤ h → h ≤ 8192 → h + 1 ≤ cszT s h ∧ cszT s h ≤ 8193) → ∀ h : Int, 0 ≤ h → h ≤ 8193 → h ≤ cszL l h ∧ cszL l h ≤ 8193 := by
    intro l
    induction l with
    | nil => intro _ h h0 h1; simp only [cszL]; omega
    | cons t ts iht =>
      intro hl h h0 h1
      simp only [cszL]
      by_cases hb : 8192 < h
      · rw [if_pos hb]; omega
      · rw [if_neg hb]
        have h3 := hl t (by simp) h h0 (by omega)
        have h4 := iht (fun s hs => hl s (by simp [hs])) (cszT t h) (by omega) h3.2
        omega
  simp only [cszT]
  have := this sub ih (h + 1) (by omega) (by omega)
  omega
mutual
def ceqT : Tm → Tm → Bool
 | .mk k n s, .mk k' n' s' => (k == k') && (n == n') && ceqL s s'
def ceqL : List Tm → List Tm → Bool
 | [], [] => true
 | t :: ts, t' :: ts' => ceqT t t' && ceqL ts ts'
 | _, _ => false
end
theorem ceqL_length : ∀ {a b : List Tm}, ceqL a b = true → a.length = b.length := by
  intro a
  induction a with
  | nil => intro b h; cases b <;> simp_all [ceqL]
  | cons t ts ih => intro b h; cases b with
    | nil => simp [ceqL] at h
    | cons t' ts' => simp only [ceqL, Bool.and_eq_true] at h; simp [ih h.2]
def Qao (k : Int) : Int := if k = 3 ∨ k = 4 ∨ k = 5 then 2 else if k = 7 then 1 else 0
def Qaj (k : Int) : Int := if k = 2 then 7 else if k = 3 ∨ k = 4 ∨ k = 5 then 0 else 1048576
def fst0 (l : List Tm) : Int := match l with | [] => 0 | t :: _ => t.kind
def Qcn (t : Tm) : Bool := decide (1 ≤ t.kind ∧ t.kind ≤ 8 ∧ (t.sub.length : Int) = Qao t.kind ∧ 0 ≤ t.num ∧ t.num ≤ Qaj t.kind ∧ (t.kind ≠ 7 ∨ fst0 t.sub = 2))
mutual
def Qac : Tm → Bool
 | .mk k n sub => Qcn (.mk k n sub) && Qaq sub
def Qaq : List Tm → Bool
 | [] => true
 | t :: ts => Qac t && Qaq ts
end
mutual
def cdpT : Tm → Int → Int
 | .mk _ _ sub, h => if 128 < h then h else cdpL sub h h
def cdpL : List Tm → Int → Int → Int
 | [], _, m => m
 | t :: ts, h, m => cdpL ts h (max m (cdpT t (h + 1)))
end
def Qbt (t : Tm) : Int := cszT t 0
def Qbh (t : Tm) : Int := if 8192 < Qbt t then 129 else cdpT t 1
def Qad (t : Tm) : Bool := decide (Qbh t ≤ 128) && Qac t
theorem cdp_bd : ∀ (t : Tm) (h : Int), h ≤ 129 → h ≤ cdpT t h ∧ cdpT t h ≤ 129 := by
  refine Tm.ind ?_
  intro k n sub ih h h1
  have : ∀ (l : List Tm), (∀ s ∈ l, ∀ (h : Int), h ≤ 129 → h ≤ cdpT s h ∧ cdpT s h ≤ 129) → ∀ h m : Int, h ≤ 128 → m ≤ 129 → m ≤ cdpL l h m ∧ cdpL l h m ≤ 129 := by
    intro l
    induction l with
    | nil => intro _ h m _ _; simp only [cdpL]; omega
    | cons t ts iht =>
      intro hl h m h1 h2
      simp only [cdpL]
      have h3 := hl t (by simp) (h + 1) (by omega)
      have h4 := iht (fun s hs => hl s (by simp [hs])) h (max m (cdpT t (h + 1))) h1 (by omega)
      omega
  simp only [cdpT]
  by_cases hb : 128 < h
  · rw [if_pos hb]; omega
  · rw [if_neg hb]; exact this sub ih h h (by omega) h1
theorem cmax_if (g x : Int) : max g x = if g < x then x else g := by split <;> omega
def csameB (t u : Tm) : Bool := Qad t && Qad u && ceqT t u
mutual
def cndT : Tm → Nat
 | .mk _ _ sub => cndL sub + 1
def cndL : List Tm → Nat
 | [] => 0
 | t :: ts => cndT t + cndL ts
end
theorem Qdl (a b : List Tm) : cndL (a ++ b) = cndL a + cndL b := by
 induction a with
 | nil => simp [cndL]
 | cons t ts ih => simp only [List.cons_append, cndL, ih]; omega
theorem Qfk (t : Tm) : 1 ≤ cndT t := by cases t; simp only [cndT]; omega
theorem Qfj (a : List Tm) : a.length ≤ cndL a := by
 induction a with
 | nil => simp [cndL]
 | cons t ts ih => simp only [cndL, List.length_cons]; have := Qfk t; omega
theorem csz_nd : ∀ (t : Tm) (h : Int), 0 ≤ h → h ≤ 8192 → cszT t h = min (h + cndT t) 8193 := by
  refine Tm.ind ?_
  intro k n sub ih h h0 h1
  have : ∀ (l : List Tm), (∀ s ∈ l, ∀ (h : Int), 0 ≤ h → h ≤ 8192 → cszT s h = min (h + cndT s) 8193) → ∀ h : Int, 0 ≤ h → h ≤ 8193 → cszL l h = min (h + cndL l) 8193 := by
    intro l
    induction l with
    | nil => intro _ h h0 h1; simp only [cszL, cndL]; omega
    | cons t ts iht =>
      intro hl h h0 h1
      simp only [cszL, cndL]
      have hp := Qfk t
      by_cases hb : 8192 < h
      · rw [if_pos hb]; omega
      · rw [if_neg hb, hl t (by simp) h h0 (by omega), iht (fun s hs => hl s (by simp [hs])) _ (by omega) (by omega)]
        omega
  simp only [cszT, cndT]
  rw [this sub ih (h + 1) (by omega) (by omega)]; omega
mutual
def chgT : Tm → Nat
 | .mk _ _ sub => chgL sub + 1
def chgL : List Tm → Nat
 | [] => 0
 | t :: ts => max (chgT t) (chgL ts)
end
theorem cdp_hg : ∀ (t : Tm) (h : Int), 0 ≤ h → h ≤ 129 → cdpT t h = min (h + chgT t - 1) 129 := by
  refine Tm.ind ?_
  intro k n sub ih h h0 h1
  have : ∀ (l : List Tm), (∀ s ∈ l, ∀ (h : Int), 0 ≤ h → h ≤ 129 → cdpT s h = min (h + chgT s - 1) 129) → ∀ h m : Int, 0 ≤ h → h ≤ 128 → h ≤ m → cdpL l h m = max m (min (h + chgL l) 129) := by
    intro l
    induction l with
    | nil => intro _ h m _ _ _; simp only [cdpL, chgL]; omega
    | cons t ts iht =>
      intro hl h m h0 h1 h2
      simp only [cdpL, chgL]
      rw [hl t (by simp) (h + 1) (by omega) (by omega), iht (fun s hs => hl s (by simp [hs])) h _ h0 h1 (by omega)]
      omega
  simp only [cdpT, chgT]
  by_cases hb : 128 < h
  · rw [if_pos hb]; omega
  · rw [if_neg hb, this sub ih h h h0 (by omega) (Int.le_refl _)]; omega
theorem chgL_append (a b : List Tm) : chgL (a ++ b) = max (chgL a) (chgL b) := by
 induction a with
 | nil => simp [chgL]
 | cons t ts ih => simp only [List.cons_append, chgL, ih]; omega
def clvl (ts : List Tm) : List Tm := ts.flatMap Tm.sub
theorem cnd_sub (t : Tm) : cndT t = cndL t.sub + 1 := by cases t; simp only [cndT, Tm.sub]
theorem chg_sub (t : Tm) : chgT t = chgL t.sub + 1 := by cases t; simp only [chgT, Tm.sub]
theorem clvl_nd (ts : List Tm) : cndL (clvl ts) ≤ cndL ts := by
 unfold clvl
 induction ts with
 | nil => simp
 | cons t ts ih => rw [List.flatMap_cons, Qdl]; simp only [cndL]; rw [cnd_sub t]; omega
theorem clvl_hg (ts : List Tm) (h : ts ≠ []) : chgL ts = chgL (clvl ts) + 1 := by
  unfold clvl
  induction ts with
  | nil => exact absurd rfl h
  | cons t ts ih =>
    rw [List.flatMap_cons, chgL_append]; simp only [chgL]; rw [chg_sub t]
    by_cases he : ts = []
    · subst he; simp [chgL]
    · rw [ih he]; omega
theorem clvl_take (ts : List Tm) (k : Nat) (h : k < ts.length) : clvl (ts.take (k + 1)) = clvl (ts.take k) ++ ts[k].sub := by
 unfold clvl; rw [List.take_succ_eq_append_getElem h]; simp only [List.flatMap_append, List.flatMap_cons, List.flatMap_nil, List.append_nil]
theorem Qeu (ts : List Tm) (k : Nat) : cndL (ts.take k) ≤ cndL ts := by
 have := Qdl (ts.take k) (ts.drop k)
 rw [List.take_append_drop] at this; omega
def undB (k : Int) (i : Int) : Int := if i = 1 ∧ (k = 3 ∨ k = 4) then 1 else 0
mutual
def lsT : Tm → Int → Int
 | .mk k n sub, b => if k = 1 then max 0 (n + 1 - b) else lsL k sub 0 b 0
def lsL : Int → List Tm → Nat → Int → Int → Int
 | _, [], _, _, m => m
 | k, t :: ts, i, b, m => lsL k ts (i + 1) b (max m (lsT t (b + undB k i)))
end
theorem und_bd (k i : Int) : 0 ≤ undB k i ∧ undB k i ≤ 1 := by unfold undB; split <;> omega
theorem mostOf_le (k : Int) : Qaj k ≤ 1048576 := by unfold Qaj; (repeat' split) <;> omega
theorem head_num {k n : Int} {sub : List Tm} (h : Qcn (.mk k n sub) = true) : 1 ≤ k ∧ k ≤ 8 ∧ 0 ≤ n ∧ n ≤ 1048576 ∧ (sub.length : Int) = Qao k := by
 have := of_decide_eq_true h
 simp only [Tm.kind, Tm.num, Tm.sub] at this
 have := mostOf_le k
 omega
theorem cgoodL_mem {l : List Tm} (h : Qaq l = true) : ∀ s ∈ l, Qac s = true := by
  induction l with
  | nil => intro s hs; cases hs
  | cons t ts ih =>
    simp only [Qaq, Bool.and_eq_true] at h
    intro s hs
    cases hs with
    | head => exact h.1
    | tail _ hm => exact ih h.2 s hm
theorem Qcs {k n : Int} {sub : List Tm} (h : Qac (.mk k n sub) = true) : Qcn (.mk k n sub) = true ∧ ∀ s ∈ sub, Qac s = true := by
 simp only [Qac, Bool.and_eq_true] at h
 exact ⟨h.1, cgoodL_mem h.2⟩
theorem hgL_mem {l : List Tm} : ∀ s ∈ l, chgT s ≤ chgL l := by
  induction l with
  | nil => intro s hs; cases hs
  | cons t ts ih =>
    intro s hs
    simp only [chgL]
    cases hs with
    | head => omega
    | tail _ hm => have := ih s hm; omega
theorem ls_bd : ∀ (t : Tm) (b : Int), Qac t = true → 0 ≤ b → 0 ≤ lsT t b ∧ lsT t b ≤ 1048577 := by
  refine Tm.ind ?_
  intro k n sub ih b hg hb
  obtain ⟨hh, hs⟩ := Qcs hg
  have hn := head_num hh
  have : ∀ (l : List Tm), (∀ s ∈ l, ∀ b : Int, Qac s = true → 0 ≤ b → 0 ≤ lsT s b ∧ lsT s b ≤ 1048577) → (∀ s ∈ l, Qac s = true) → ∀ (i : Nat) (m : Int), 0 ≤ m → m ≤ 1048577 → 0 ≤ lsL k l i b m ∧ lsL k l i b m ≤ 1048577 := by
    intro l
    induction l with
    | nil => intro _ _ i m h0 h1; simp only [lsL]; omega
    | cons t ts iht =>
      intro h1 h2 i m h3 h4
      simp only [lsL]
      have hu := und_bd k i
      have h5 := h1 t (by simp) (b + undB k i) (h2 t (by simp)) (by omega)
      exact iht (fun s hs => h1 s (by simp [hs])) (fun s hs => h2 s (by simp [hs])) (i + 1) _ (by omega) (by omega)
  simp only [lsT]
  split
  · omega
  · exact this sub ih hs 0 0 (by omega) (by omega)
theorem Qbu {t : Tm} (h : Qad t = true) : Qac t = true ∧ chgT t ≤ 128 ∧ cndT t ≤ 8192 := by
 unfold Qad at h
 rw [Bool.and_eq_true, decide_eq_true_iff] at h
 refine ⟨h.2, ?_, ?_⟩
 ·have h1 := h.1
  unfold Qbh at h1
  split at h1
  ·omega
  ·have := cdp_hg t 1 (by omega) (by omega); omega
 ·have h1 := h.1
  unfold Qbh at h1
  split at h1
  ·omega
  ·rename_i h2
   have := csz_nd t 0 (by omega) (by omega)
   unfold Qbt at h2; omega
def Qbe (f : Tm) : List Tm → Tm
 | [] => f
 | a :: l => Qbe (.mk 5 0 [f, a]) l
theorem Qfw (l l' : List Tm) : ∀ (f : Tm), Qbe f (l ++ l') = Qbe (Qbe f l) l' := by
 induction l with
 | nil => intro f; rfl
 | cons a l ih => intro f; exact ih _
theorem Qdk (f : Tm) (l : List Tm) (a : Tm) : Qbe f (l ++ [a]) = .mk 5 0 [Qbe f l, a] := by rw [Qfw]; rfl
theorem Qeo {α : Type} (l : List α) : l = [] ∨ ∃ m a, l = m ++ [a] := by
 rcases List.eq_nil_or_concat l with h | ⟨m, a, h⟩
 ·exact .inl h
 ·exact .inr ⟨m, a, by rw [h, List.concat_eq_append]⟩
theorem spine_uniq : ∀ (n : Nat) (l l' : List Tm) (h h' : Tm), l.length = n → h.kind ≠ 5 → h'.kind ≠ 5 → Qbe h l = Qbe h' l' → h = h' ∧ l = l' := by
  intro n
  induction n with
  | zero =>
    intro l l' h h' hn h5 h5' he
    obtain rfl := List.eq_nil_of_length_eq_zero hn
    rcases Qeo l' with rfl | ⟨m, a, rfl⟩
    · exact ⟨he, rfl⟩
    · rw [Qdk] at he
      exact absurd (show h.kind = 5 by rw [show h = _ from he]; rfl) h5
  | succ n ih =>
    intro l l' h h' hn h5 h5' he
    rcases Qeo l with rfl | ⟨m, a, rfl⟩
    · simp at hn
    · rcases Qeo l' with rfl | ⟨m', a', rfl⟩
      · rw [Qdk] at he
        exact absurd (show h'.kind = 5 by rw [show h' = _ from he.symm]; rfl) h5'
      · rw [Qdk, Qdk] at he
        simp only [Tm.mk.injEq, List.cons.injEq, and_true, true_and] at he
        obtain ⟨e1, rfl⟩ := he
        obtain ⟨rfl, rfl⟩ := ih m m' h h' (by simpa using hn) h5 h5' e1
        exact ⟨rfl, rfl⟩
theorem dpL_ge : ∀ (l : List Tm) (h m : Int), m ≤ cdpL l h m := by
 intro l
 induction l with
 | nil => intro h m; simp only [cdpL]; omega
 | cons t ts ih => intro h m; simp only [cdpL]; have := ih h (max m (cdpT t (h + 1))); omega
theorem dp_app (k n : Int) (y : Tm) (ts : List Tm) (h : Int) (hh : h ≤ 128) : cdpT y (h + 1) ≤ cdpT (.mk k n (y :: ts)) h := by
 simp only [cdpT]
 rw [if_neg (by omega)]
 simp only [cdpL]
 have := dpL_ge ts h (max h (cdpT y (h + 1)))
 omega
theorem dp_spine : ∀ (l : List Tm) (x : Tm) (h : Int), h + l.length ≤ 129 → cdpT x (h + l.length) ≤ cdpT (Qbe x l) h := by
  intro l
  induction l with
  | nil => intro x h _; simp [Qbe]
  | cons a l ih =>
    intro x h hh
    simp only [List.length_cons, Int.natCast_add] at hh ⊢
    have h1 := ih (.mk 5 0 [x, a]) h (by omega)
    have h2 := dp_app 5 0 x [a] (h + l.length) (by omega)
    rw [show h + ((l.length : Int) + ((1 : Nat) : Int)) = h + l.length + 1 by omega]
    exact Int.le_trans h2 h1
theorem spine_len {x : Tm} {l : List Tm} (h : Qad (Qbe x l) = true) : l.length ≤ 127 := by
 rcases Nat.lt_or_ge l.length 128 with hl | hl
 ·omega
 ·exfalso
  have hd : cdpT (Qbe x l) 1 ≤ 128 := by
   simp only [Qad, Bool.and_eq_true] at h
   have := of_decide_eq_true h.1
   unfold Qbh at this
   split at this <;> omega
  have e : Qbe x l = Qbe (Qbe x (l.take (l.length - 128))) (l.drop (l.length - 128)) := by rw [← Qfw, List.take_append_drop]
  rw [e] at hd
  have hdl : (l.drop (l.length - 128)).length = 128 := by simp; omega
  have h1 := dp_spine (l.drop (l.length - 128)) (Qbe x (l.take (l.length - 128))) 1 (by rw [hdl]; decide)
  rw [hdl] at h1
  have h2 := (cdp_bd (Qbe x (l.take (l.length - 128))) (1 + ((128 : Nat) : Int)) (by decide)).1
  have : (1 : Int) + ((128 : Nat) : Int) = 129 := by decide
  omega
theorem good_app {x : Tm} (hg : Qac x = true) (h5 : x.kind = 5) : ∃ y b, x = .mk 5 0 [y, b] ∧ Qac y = true ∧ Qac b = true := by
  cases x with
  | mk k n sub =>
    have h5' : k = 5 := h5
    subst h5'
    obtain ⟨h1, h2⟩ := Qcs hg
    have h3 := of_decide_eq_true h1
    simp only [Tm.kind, Tm.num, Tm.sub] at h3
    obtain ⟨_, _, hl, hn0, hn1, _⟩ := h3
    have hl2 : sub.length = 2 := by have : Qao 5 = 2 := by decide
                                    omega
    have hn : n = 0 := by have : Qaj 5 = 0 := by decide
                          omega
    subst hn
    match sub, hl2 with
    | [y, b], _ => exact ⟨y, b, rfl, h2 y (by simp), h2 b (by simp)⟩
end Go.Proofs.Ytpaifjlikgnlfaa
namespace Go.Proofs.Ytpaifjlikgnlfaa
open Go Go.Lib Go.RowKit
def putL : List Int → Int → List Int
 | [], n => [n]
 | x :: xs, n => if x < n then x :: putL xs n else if n < x then n :: x :: xs else x :: xs
mutual
def nmT (a b : Int) : Tm → List Int
 | .mk k n sub => nmS a b sub (if k = a ∨ k = b then [n] else [])
def nmS (a b : Int) : List Tm → List Int → List Int
 | [], out => out
 | t :: ts, out => nmS a b ts ((nmT a b t).foldl putL out)
end
theorem putL_len (n : Int) : ∀ l : List Int, (putL l n).length ≤ l.length + 1
  | [] => by simp [putL]
  | x :: xs => by
    have := putL_len n xs
    simp only [putL]
    split
    · simp; omega
    · split <;> simp
theorem putL_mem (n y : Int) : ∀ l : List Int, y ∈ putL l n ↔ y = n ∨ y ∈ l
  | [] => by simp [putL]
  | x :: xs => by
    have := putL_mem n y xs
    simp only [putL]
    split
    · simp only [List.mem_cons, this]
      constructor
      · rintro (h | h | h)
        · exact .inr (.inl h)
        · exact .inl h
        · exact .inr (.inr h)
      · rintro (h | h | h)
        · exact .inr (.inl h)
        · exact .inl h
        · exact .inr (.inr h)
    · split
      · simp only [List.mem_cons]
      · have : x = n := by omega
        subst this
        simp only [List.mem_cons]
        constructor
        · exact fun h => .inr h
        · rintro (h | h)
          · exact .inl h
          · exact h
theorem fold_len : ∀ (l out : List Int), (l.foldl putL out).length ≤ out.length + l.length := by
  intro l
  induction l with
  | nil => intro out; simp
  | cons x xs ih =>
    intro out
    have h1 := ih (putL out x)
    have h2 := putL_len x out
    simp only [List.foldl_cons, List.length_cons]
    omega
theorem fold_mem (y : Int) : ∀ (l out : List Int), y ∈ l.foldl putL out ↔ y ∈ out ∨ y ∈ l := by
  intro l
  induction l with
  | nil => intro out; simp
  | cons x xs ih =>
    intro out
    simp only [List.foldl_cons, ih, putL_mem, List.mem_cons]
    constructor
    · rintro ((h | h) | h)
      · exact .inr (.inl h)
      · exact .inl h
      · exact .inr (.inr h)
    · rintro (h | h | h)
      · exact .inl (.inr h)
      · exact .inl (.inl h)
      · exact .inr h
theorem nm_len (a b : Int) : ∀ t : Tm, (nmT a b t).length ≤ cndT t := by
  refine Tm.ind ?_
  intro k n sub ih
  have : ∀ (l : List Tm), (∀ s ∈ l, (nmT a b s).length ≤ cndT s) → ∀ out, (nmS a b l out).length ≤ out.length + cndL l := by
    intro l
    induction l with
    | nil => intro _ out; simp only [nmS]; omega
    | cons t ts iht =>
      intro hl out
      have h1 := iht (fun s hs => hl s (by simp [hs])) ((nmT a b t).foldl putL out)
      have h2 := fold_len (nmT a b t) out
      have h3 := hl t (by simp)
      simp only [nmS, cndL]
      omega
  have h := this sub ih (if k = a ∨ k = b then [n] else [])
  have h2 : (if k = a ∨ k = b then [n] else []).length ≤ 1 := by split <;> simp
  simp only [nmT, cndT]
  omega
theorem asc_ext : ∀ (l m : List Int), l.Pairwise (· < ·) → m.Pairwise (· < ·) → (∀ y, y ∈ l ↔ y ∈ m) → l = m
  | [], [], _, _, _ => rfl
  | [], y :: m, _, _, h => absurd ((h y).2 (by simp)) (by simp)
  | x :: l, [], _, _, h => absurd ((h x).1 (by simp)) (by simp)
  | x :: l, y :: m, hl, hm, h => by
    rw [List.pairwise_cons] at hl hm
    have hxy : x = y := by
      have h1 := (h x).1 (by simp)
      have h2 := (h y).2 (by simp)
      simp only [List.mem_cons] at h1 h2
      rcases h1 with h1 | h1
      · exact h1
      · rcases h2 with h2 | h2
        · exact h2.symm
        · have h3 := hm.1 x h1; have h4 := hl.1 y h2; omega
    subst hxy
    congr 1
    refine asc_ext l m hl.2 hm.2 fun z => ?_
    have hz := h z
    simp only [List.mem_cons] at hz
    constructor
    · intro hzl
      have h3 := hl.1 z hzl
      rcases hz.1 (.inr hzl) with h | h
      · omega
      · exact h
    · intro hzl
      have h3 := hm.1 z hzl
      rcases hz.2 (.inr hzl) with h | h
      · omega
      · exact h
theorem Qgm (d : Array Int) (hd : ∀ i, i + 1 < d.size → d[i]! ≤ d[i + 1]!) : ∀ m, m ≤ d.size →
    (compactUpTo d m).Pairwise (· < ·) ∧ (∀ y, y ∈ compactUpTo d m ↔ ∃ j, j < m ∧ y = d[j]!) ∧ ∀ y ∈ compactUpTo d m, 0 < m ∧ y ≤ d[m - 1]!
  | 0, _ => by
    have e : compactUpTo d 0 = [] := by simp [compactUpTo]
    rw [e]
    refine ⟨List.Pairwise.nil, fun y => ⟨fun h => (by simp at h), ?_⟩, fun y h => (by simp at h)⟩
    rintro ⟨j, hj, _⟩; omega
  | m + 1, hm => by
    obtain ⟨h1, h2, h3⟩ := Qgm d hd m (by omega)
    rw [compactUpTo_succ]
    by_cases hk : keeps d m = true
    · rw [if_pos hk]
      have hlt : ∀ y ∈ compactUpTo d m, y < d[m]! := by
        intro y hy
        obtain ⟨hm0, hle⟩ := h3 y hy
        have h4 := hd (m - 1) (by omega)
        rw [show m - 1 + 1 = m by omega] at h4
        unfold keeps at hk
        rw [decide_eq_true_iff] at hk
        rcases hk with hk | hk
        · omega
        · have h5 : d[m]! ≠ d[m - 1]! := hk
          omega
      refine ⟨?_, ?_, ?_⟩
      · rw [List.pairwise_append]
        refine ⟨h1, List.pairwise_singleton _ _, ?_⟩
        intro a ha b hb
        simp at hb
        rw [hb]; simpa using hlt a ha
      · intro y
        rw [List.mem_append, h2 y]
        simp only [List.mem_singleton]
        constructor
        · rintro (⟨j, hj, e⟩ | e)
          · exact ⟨j, by omega, e⟩
          · exact ⟨m, by omega, e⟩
        · rintro ⟨j, hj, e⟩
          by_cases hjm : j = m
          · subst hjm; exact .inr e
          · exact .inl ⟨j, by omega, e⟩
      · intro y hy
        rw [List.mem_append] at hy
        refine ⟨by omega, ?_⟩
        simp only [Nat.add_sub_cancel]
        rcases hy with hy | hy
        · have := hlt y hy; omega
        · simp at hy; rw [hy]; simp
    · rw [if_neg hk, List.append_nil]
      have hk' : m ≠ 0 ∧ d[m]! = d[m - 1]! := by
        unfold keeps at hk
        rw [decide_eq_true_iff] at hk
        constructor
        · exact fun e => hk (.inl e)
        · exact Classical.byContradiction fun e => hk (.inr e)
      refine ⟨h1, ?_, ?_⟩
      · intro y
        rw [h2 y]
        constructor
        · rintro ⟨j, hj, e⟩; exact ⟨j, by omega, e⟩
        · rintro ⟨j, hj, e⟩
          by_cases hjm : j = m
          · subst hjm; exact ⟨j - 1, by omega, by rw [e, hk'.2]⟩
          · exact ⟨j, by omega, e⟩
      · intro y hy
        obtain ⟨_, h4⟩ := h3 y hy
        refine ⟨by omega, ?_⟩
        simp only [Nat.add_sub_cancel]
        rw [hk'.2]; exact h4
theorem rise_asc (l : List Int) : (compact (l.mergeSort fun x y => decide (x ≤ y))).Pairwise (· < ·) ∧ ∀ y, y ∈ compact (l.mergeSort fun x y => decide (x ≤ y)) ↔ y ∈ l := by
 have hs := List.pairwise_mergeSort (le := fun x y : Int => decide (x ≤ y)) (by intro a b c h1 h2; simp at *; omega) (by intro a b; simp; omega) l
 generalize hS : l.mergeSort (fun x y => decide (x ≤ y)) = S at *
 have hmem : ∀ y, y ∈ S ↔ y ∈ l := fun y => by rw [← hS]; exact List.mem_mergeSort
 have hd : ∀ i, i + 1 < S.toArray.size → S.toArray[i]! ≤ S.toArray[i + 1]! := by
  intro i hi
  have hi' : i + 1 < S.length := by simpa using hi
  rw [List.pairwise_iff_getElem] at hs
  have := hs i (i + 1) (by omega) hi' (by omega)
  simp at this
  simp [getElem!_pos, hi', show i < S.length by omega]
  exact this
 obtain ⟨h1, h2, -⟩ := Qgm S.toArray hd S.length (by simp)
 refine ⟨h1, fun y => ?_⟩
 show y ∈ compactUpTo _ _ ↔ _
 rw [h2 y, ← hmem y, List.mem_iff_getElem]
 constructor
 ·rintro ⟨j, hj, e⟩
  exact ⟨j, hj, by rw [e]; simp [hj]⟩
 ·rintro ⟨j, hj, e⟩
  exact ⟨j, hj, by rw [← e]; simp [hj]⟩
theorem putL_asc (n : Int) : ∀ l : List Int, l.Pairwise (· < ·) → (putL l n).Pairwise (· < ·)
  | [], _ => List.pairwise_singleton _ _
  | x :: xs, h => by
    rw [List.pairwise_cons] at h
    simp only [putL]
    split
    · rename_i hx
      rw [List.pairwise_cons]
      refine ⟨fun y hy => ?_, putL_asc n xs h.2⟩
      rw [putL_mem] at hy
      rcases hy with rfl | hy
      · exact hx
      · exact h.1 y hy
    · split
      · rename_i hx
        rw [List.pairwise_cons]
        refine ⟨fun y hy => ?_, List.pairwise_cons.2 h⟩
        cases hy with
        | head => exact hx
        | tail _ hy => have := h.1 y hy; omega
      · exact List.pairwise_cons.2 h
theorem fold_asc : ∀ (l out : List Int), out.Pairwise (· < ·) → (l.foldl putL out).Pairwise (· < ·)
 | [], _, h => h
 | x :: xs, out, h => fold_asc xs (putL out x) (putL_asc x out h)
mutual
def clT (a b : Int) : Tm → List Int
 | .mk k n sub => (if k = a ∨ k = b then [n] else []) ++ clS a b sub
def clS (a b : Int) : List Tm → List Int
 | [] => []
 | t :: ts => clT a b t ++ clS a b ts
end
theorem clS_append (a b : Int) : ∀ l m : List Tm, clS a b (l ++ m) = clS a b l ++ clS a b m
 | [], _ => rfl
 | t :: l, m => by simp only [List.cons_append, clS, clS_append a b l m, List.append_assoc]
theorem cl_len (a b : Int) : ∀ t : Tm, (clT a b t).length ≤ cndT t := by
  refine Tm.ind ?_
  intro k n sub ih
  have : ∀ (l : List Tm), (∀ s ∈ l, (clT a b s).length ≤ cndT s) → (clS a b l).length ≤ cndL l := by
    intro l
    induction l with
    | nil => intro _; simp [clS, cndL]
    | cons t ts iht =>
      intro hl
      have h1 := iht (fun s hs => hl s (by simp [hs]))
      have h3 := hl t (by simp)
      simp only [clS, cndL, List.length_append]
      omega
  have h := this sub ih
  have h2 : (if k = a ∨ k = b then [n] else []).length ≤ 1 := by split <;> simp
  simp only [clT, cndT, List.length_append]
  omega
theorem nm_cl (a b y : Int) : ∀ t : Tm, (y ∈ nmT a b t ↔ y ∈ clT a b t) := by
  refine Tm.ind ?_
  intro k n sub ih
  have : ∀ (l : List Tm), (∀ s ∈ l, (y ∈ nmT a b s ↔ y ∈ clT a b s)) → ∀ out, (y ∈ nmS a b l out ↔ y ∈ out ∨ y ∈ clS a b l) := by
    intro l
    induction l with
    | nil => intro _ out; simp [nmS, clS]
    | cons t ts iht =>
      intro hl out
      simp only [nmS, clS, List.mem_append]
      rw [iht (fun s hs => hl s (by simp [hs])), fold_mem, hl t (by simp)]
      exact or_assoc
  simp only [nmT, clT, List.mem_append]
  exact this sub ih _
theorem nm_asc (a b : Int) : ∀ t : Tm, (nmT a b t).Pairwise (· < ·)
  | .mk k n sub => by
    have : ∀ (l : List Tm) (out : List Int), out.Pairwise (· < ·) → (nmS a b l out).Pairwise (· < ·) := by
      intro l
      induction l with
      | nil => intro out h; simpa only [nmS] using h
      | cons t ts iht => intro out h; simp only [nmS]; exact iht _ (fold_asc _ _ h)
    simp only [nmT]
    refine this sub _ ?_
    split
    · exact List.pairwise_singleton _ _
    · exact List.Pairwise.nil
theorem rise_nm (a b : Int) (t : Tm) : compact ((clT a b t).mergeSort fun x y => decide (x ≤ y)) = nmT a b t := by
 obtain ⟨h1, h2⟩ := rise_asc (clT a b t)
 exact asc_ext _ _ h1 (nm_asc a b t) fun y => by rw [h2 y, nm_cl]
def enT (a b : Int) (t : Tm) : List Int := if Qad t = true then nmT a b t else []
end Go.Proofs.Ytpaifjlikgnlfaa
namespace Go.Proofs.Ytpaifjlikgnlfaa
open Go.RowKit
theorem wr64 {n : Int} (h0 : -9223372036854775808 ≤ n) (h1 : n ≤ 9223372036854775807) : IntKind.i64.wrap n = n := IntWalk.i64_in _ (by omega)
theorem tsize_p : ∀ (t : Tm) (h : Int), 0 ≤ h → h ≤ 8192 → PCalls Try.prog 71 [aggD t, .d (.v (.int .i64 h))] [] fun p s => p = .d (.v (.int .i64 (cszT t h))) ∧ s = [] := by
 refine Tm.ind ?_
 intro k n sub ih h h0 h1
 have hw := wr64 (n := h + 1) (by omega) (by omega)
 have HR := Hh (show cszT (.mk k n sub) h = cszL sub (h + 1) by simp only [cszT])
 generalize cszT (.mk k n sub) h = R at *
 simp only [aggD, Jl, List.map_cons, List.map_nil, Jv, Jw, Jx]
 have IH := Hh ih
 clear ih
 refine pG Try.func71 Try.ntmps71 ?_
 refine Jd ?_
 intro i0 hi0
 try simp only [Ja, Rh, Rg, Jb] at hi0
 refine go_ ?_
 refine Qcu (t := 10) (rows := sub.map encD) (by simp [PF.get] <;> rfl) rfl fun hl => ?_
 rw [List.length_map] at hl
 refine Qaf (ι := Nat × Int) (fun y => y.1 ≤ sub.length ∧ 0 ≤ y.2 ∧ y.2 ≤ 8193 ∧ Hid (R = cszL (sub.drop y.1) y.2)) (fun y => [(1, .d (.v (.int .i64 y.2))), (10, .d (.sl (sub.map encD))), (11, .d (.v (.int .i64 sub.length))), (12, .d (.v (.int .i64 (y.1 : Int))))]) (fun _ => []) (fun y => sub.length - y.1) (0, h + 1) ⟨Nat.zero_le _, by simp only; omega, by simp only; omega, HR.out⟩ ?_ ?_ ?_
 ·exact sU
 ·exact dR
 ·rintro ⟨j, x⟩ ⟨hj, hx0, hx1, hR⟩
  simp only at hj hx0 hx1 hR ⊢
  unfold maxLen at hl
  clear h0 h1 hw HR
  by_cases hlt : j < sub.length
  ·have hx := Qam hlt
   have hc : (j : Int) < sub.length := by omega
   have hn : (0 : Int) ≤ j := by omega
   have hin := wr64 (n := (j : Int) + 1) (by omega) (by omega)
   by_cases hb : 8192 < x
   ·have hf : Hid (R = x) := by rw [show R = _ from hR.out]; exact cszL_big _ _ hb
    refine go_ ?_
    refine Je ?_
    intro i2 hi2
    try simp only [Ja, Rh, Rg, Jb] at hi2
    refine go_ ?_
    refine Qab ?_
    refine rT Try.results71 ?_
    exact ⟨by rw [hf.out]; rfl, rfl⟩
   ·have hR2 : Hid (R = cszL (sub.drop (j + 1)) (cszT sub[j] x)) := by
     rw [show R = _ from hR.out, List.drop_eq_getElem_cons hlt]
     show _ = _
     simp only [cszL]
     rw [if_neg hb]
    have hb2 := csz_bd sub[j] x hx0 (by omega)
    have hc1 := Hh (IH.out _ (List.getElem_mem hlt) x hx0 (by omega))
    generalize cszT sub[j] x = x' at *
    refine go_ ?_
    refine Je ?_
    intro i2 hi2
    try simp only [Ja, Rh, Rg, Jb] at hi2
    refine go_ ?_
    refine Qab ?_
    refine Qaa (hc1.out) ?_
    exact ⟨(j + 1, x'), ⟨hlt, by omega, by omega, hR2⟩, by simp only; omega, sU, dR⟩
  ·have hc : ¬ (j : Int) < sub.length := by omega
   have hf : Hid (R = x) := by rw [show R = _ from hR.out, List.drop_of_length_le (by omega)]; rfl
   refine go_ ?_
   refine rT Try.results71 ?_
   exact ⟨by rw [hf.out]; rfl, rfl⟩
theorem tSize_p (t : Tm) : PCalls Try.prog 59 [aggD t] [] fun p s => p = .d (.v (.int .i64 (Qbt t))) ∧ s = [] := by
 have hc := Hh (tsize_p t 0 (by decide) (by decide))
 have HR := Hh (show cszT t 0 = Qbt t from rfl)
 rw [HR.out] at hc
 simp only [aggD, Jl, List.map_cons, List.map_nil]
 refine pG Try.func59 Try.ntmps59 ?_
 refine Jd ?_
 intro i0 hi0
 refine go_ ?_
 refine Qaa (hc.out) ?_
 refine rT Try.results59 ?_
 exact ⟨rfl, rfl⟩
theorem tdeep_p : ∀ (t : Tm) (h : Int), 0 ≤ h → h ≤ 129 → PCalls Try.prog 60 [aggD t, .d (.v (.int .i64 h))] [] fun p s => p = .d (.v (.int .i64 (cdpT t h))) ∧ s = [] := by
 refine Tm.ind ?_
 intro k n sub ih h h0 h1
 have hw := wr64 (n := h + 1) (by omega) (by omega)
 have HR := Hh (show cdpT (.mk k n sub) h = if 128 < h then h else cdpL sub h h by simp only [cdpT])
 generalize cdpT (.mk k n sub) h = R at *
 simp only [aggD, Jl, List.map_cons, List.map_nil, Jv, Jw, Jx]
 have IH := Hh ih
 clear ih
 by_cases hb : 128 < h
 ·have hf : Hid (R = h) := by rw [show R = _ from HR.out, if_pos hb]; rfl
  refine pG Try.func60 Try.ntmps60 ?_
  refine Jd ?_
  intro i0 hi0
  try simp only [Ja, Rh, Rg, Jb] at hi0
  refine go_ ?_
  refine rT Try.results60 ?_
  exact ⟨by rw [hf.out]; rfl, rfl⟩
 ·have HR2 : Hid (R = cdpL sub h h) := by rw [show R = _ from HR.out, if_neg hb]; rfl
  refine pG Try.func60 Try.ntmps60 ?_
  refine Jd ?_
  intro i0 hi0
  try simp only [Ja, Rh, Rg, Jb] at hi0
  refine go_ ?_
  refine Qcu (t := 13) (rows := sub.map encD) (by simp [PF.get] <;> rfl) rfl fun hl => ?_
  rw [List.length_map] at hl
  refine Qaf (ι := Nat × Int) (fun y => y.1 ≤ sub.length ∧ 0 ≤ y.2 ∧ y.2 ≤ 129 ∧ Hid (R = cdpL (sub.drop y.1) h y.2)) (fun y => [(1, .d (.v (.int .i64 h))), (5, .d (.v (.int .i64 y.2))), (13, .d (.sl (sub.map encD))), (14, .d (.v (.int .i64 sub.length))), (15, .d (.v (.int .i64 (y.1 : Int))))]) (fun _ => []) (fun y => sub.length - y.1) (0, h) ⟨Nat.zero_le _, by simp only; omega, by simp only; omega, HR2.out⟩ ?_ ?_ ?_
  ·exact sU
  ·exact dR
  ·rintro ⟨j, x⟩ ⟨hj, hx0, hx1, hR⟩
   simp only at hj hx0 hx1 hR ⊢
   unfold maxLen at hl
   by_cases hlt : j < sub.length
   ·have hx := Qam hlt
    have hc : (j : Int) < sub.length := by omega
    have hn : (0 : Int) ≤ j := by omega
    have hin := wr64 (n := (j : Int) + 1) (by omega) (by omega)
    have hR2 : Hid (R = cdpL (sub.drop (j + 1)) h (max x (cdpT sub[j] (h + 1)))) := by
     rw [show R = _ from hR.out, List.drop_eq_getElem_cons hlt]
     show _ = _
     simp only [cdpL]
    have hb2 := cdp_bd sub[j] (h + 1) (by omega)
    have hc1 := Hh (IH.out _ (List.getElem_mem hlt) (h + 1) (by omega) (by omega))
    generalize cdpT sub[j] (h + 1) = x' at *
    have hmx : 0 ≤ max x x' ∧ max x x' ≤ 129 := by omega
    refine go_ ?_
    refine Je ?_
    intro i2 hi2
    try simp only [Ja, Rh, Rg, Jb] at hi2
    refine go_ ?_
    refine Qab ?_
    refine Qaa (hc1.out) ?_
    refine POps_max (max x x') (cmax_if x x').symm ?_
    refine go_ ?_
    exact ⟨(j + 1, max x x'), ⟨hlt, hmx.1, hmx.2, hR2⟩, by simp only; omega, sU, dR⟩
   ·have hc : ¬ (j : Int) < sub.length := by omega
    have hf : Hid (R = x) := by rw [show R = _ from hR.out, List.drop_of_length_le (by omega)]; rfl
    refine go_ ?_
    refine rT Try.results60 ?_
    exact ⟨by rw [hf.out]; rfl, rfl⟩
theorem tDepth_p (t : Tm) : PCalls Try.prog 42 [aggD t] [] fun p s => p = .d (.v (.int .i64 (Qbh t))) ∧ s = [] := by
 have hS := Hh (tSize_p t)
 have hD := Hh (tdeep_p t 1 (by decide) (by decide))
 have HR := Hh (show Qbh t = if 8192 < Qbt t then 129 else cdpT t 1 from rfl)
 generalize Qbt t = z at *
 simp only [aggD, Jl, List.map_cons, List.map_nil]
 by_cases hz : 8192 < z
 ·rw [HR.out, if_pos hz]
  refine pG Try.func42 Try.ntmps42 ?_
  refine Jd ?_
  intro i0 hi0
  refine go_ ?_
  refine Qaa (hS.out) ?_
  refine rT Try.results42 ?_
  exact ⟨rfl, rfl⟩
 ·rw [HR.out, if_neg hz]
  refine pG Try.func42 Try.ntmps42 ?_
  refine Jd ?_
  intro i0 hi0
  refine go_ ?_
  refine Qaa (hS.out) ?_
  refine Qaa (hD.out) ?_
  refine rT Try.results42 ?_
  exact ⟨rfl, rfl⟩
theorem Qah {k n : Int} {sub : List Tm} (h : ¬ (1 ≤ k ∧ k ≤ 8 ∧ (sub.length : Int) = Qao k ∧ 0 ≤ n ∧ n ≤ Qaj k ∧ (k ≠ 7 ∨ fst0 sub = 2))) : Qcn (.mk k n sub) = false := by
 unfold Qcn
 simp only [Jv, Jw, Jx]
 exact decide_eq_false h
theorem Qcj {k n : Int} {sub : List Tm} (h : 1 ≤ k ∧ k ≤ 8 ∧ (sub.length : Int) = Qao k ∧ 0 ≤ n ∧ n ≤ Qaj k ∧ (k ≠ 7 ∨ fst0 sub = 2)) : Qcn (.mk k n sub) = true := by
 unfold Qcn
 simp only [Jv, Jw, Jx]
 exact decide_eq_true h
theorem thead_p (t : Tm) : PCalls Try.prog 61 [aggD t] [] fun p s => p = .d (.v (.bool (Qcn t))) ∧ s = [] := by
 obtain ⟨k, n, sub⟩ := t
 simp only [aggD, Jl, List.map_cons, List.map_nil, Jv, Jw, Jx]
 by_cases h1 : k < 1
 ·rw [Qah (by omega)]
  refine pG Try.func61 Try.ntmps61 ?_
  refine Jd ?_
  intro i0 hi0
  refine go_ ?_
  refine rT Try.results61 ?_
  exact ⟨rfl, rfl⟩
 by_cases h8 : 8 < k
 ·rw [Qah (by omega)]
  refine pG Try.func61 Try.ntmps61 ?_
  refine Jd ?_
  intro i0 hi0
  refine go_ ?_
  refine rT Try.results61 ?_
  exact ⟨rfl, rfl⟩
 have hk : k = 1 ∨ k = 2 ∨ k = 3 ∨ k = 4 ∨ k = 5 ∨ k = 6 ∨ k = 7 ∨ k = 8 := by omega
 by_cases hl : (sub.length : Int) = Qao k
 ·by_cases h0 : 0 ≤ n
  ·by_cases hm : n ≤ Qaj k
   ·by_cases h7 : k = 7
    ·subst h7
     match sub, show sub.length = 1 by simp [Qao] at hl; omega with
     | [x], _ =>
     have HR : Hid (Qcn (.mk 7 n [x]) = (x.kind == 2)) := by
      by_cases hx : x.kind = 2
      ·rw [Qcj (k := 7) (n := n) (sub := [x]) ⟨by omega, by omega, rfl, h0, hm, .inr hx⟩, hx]; rfl
      ·rw [Qah (k := 7) (n := n) (sub := [x]) (fun h => hx (h.2.2.2.2.2.resolve_left (fun h => h rfl)))]
       exact (beq_eq_false_iff_ne.2 hx).symm
     rw [HR.out]
     simp only [Qaj, Int.reduceEq, reduceIte, or_false, or_true, or_self] at hm
     clear HR hl hk h1 h8
     refine pG Try.func61 Try.ntmps61 ?_
     refine Jd ?_
     intro i0 hi0
     refine go_ ?_
     refine rT Try.results61 ?_
     exact ⟨rfl, rfl⟩
    ·rw [Qcj ⟨by omega, by omega, hl, h0, hm, .inl h7⟩]
     refine pG Try.func61 Try.ntmps61 ?_
     refine Jd ?_
     intro i0 hi0
     refine go_ ?_
     refine Qq (p := .d (.v (.int .i64 (Qao k)))) ?_ (he := by (try clear hl); (try clear hl1); (try clear h0); (try clear hm); (try clear h7'); (try clear h7); clear h1 h8; rcases hk with rfl | rfl | rfl | rfl | rfl | rfl | rfl | rfl <;> (simp [Qao, Qaj, nev, nevA, PF.eval, PF.get, cPV, Qdc, TyK.agg] <;> rfl))
     refine go_ ?_
     refine Qq (p := .d (.v (.int .i64 (Qaj k)))) ?_ (he := by (try clear hl); (try clear hl1); (try clear h0); (try clear hm); (try clear h7'); (try clear h7); clear h1 h8; rcases hk with rfl | rfl | rfl | rfl | rfl | rfl | rfl | rfl <;> (simp [Qao, Qaj, nev, nevA, PF.eval, PF.get, cPV, Qdc, TyK.agg] <;> rfl))
     refine go_ ?_
     refine rT Try.results61 ?_
     exact ⟨rfl, rfl⟩
   ·rw [Qah (fun h => hm h.2.2.2.2.1)]
    refine pG Try.func61 Try.ntmps61 ?_
    refine Jd ?_
    intro i0 hi0
    refine go_ ?_
    refine Qq (p := .d (.v (.int .i64 (Qao k)))) ?_ (he := by (try clear hl); (try clear hl1); (try clear h0); (try clear hm); (try clear h7'); (try clear h7); clear h1 h8; rcases hk with rfl | rfl | rfl | rfl | rfl | rfl | rfl | rfl <;> (simp [Qao, Qaj, nev, nevA, PF.eval, PF.get, cPV, Qdc, TyK.agg] <;> rfl))
    refine go_ ?_
    refine Qq (p := .d (.v (.int .i64 (Qaj k)))) ?_ (he := by (try clear hl); (try clear hl1); (try clear h0); (try clear hm); (try clear h7'); (try clear h7); clear h1 h8; rcases hk with rfl | rfl | rfl | rfl | rfl | rfl | rfl | rfl <;> (simp [Qao, Qaj, nev, nevA, PF.eval, PF.get, cPV, Qdc, TyK.agg] <;> rfl))
    refine go_ ?_
    refine rT Try.results61 ?_
    exact ⟨rfl, rfl⟩
  ·rw [Qah (fun h => h0 h.2.2.2.1)]
   refine pG Try.func61 Try.ntmps61 ?_
   refine Jd ?_
   intro i0 hi0
   refine go_ ?_
   refine Qq (p := .d (.v (.int .i64 (Qao k)))) ?_ (he := by (try clear hl); (try clear hl1); (try clear h0); (try clear hm); (try clear h7'); (try clear h7); clear h1 h8; rcases hk with rfl | rfl | rfl | rfl | rfl | rfl | rfl | rfl <;> (simp [Qao, Qaj, nev, nevA, PF.eval, PF.get, cPV, Qdc, TyK.agg] <;> rfl))
   refine go_ ?_
   refine Qq (p := .d (.v (.int .i64 (Qaj k)))) ?_ (he := by (try clear hl); (try clear hl1); (try clear h0); (try clear hm); (try clear h7'); (try clear h7); clear h1 h8; rcases hk with rfl | rfl | rfl | rfl | rfl | rfl | rfl | rfl <;> (simp [Qao, Qaj, nev, nevA, PF.eval, PF.get, cPV, Qdc, TyK.agg] <;> rfl))
   refine go_ ?_
   refine rT Try.results61 ?_
   exact ⟨rfl, rfl⟩
 ·rw [Qah (fun h => hl h.2.2.1)]
  refine pG Try.func61 Try.ntmps61 ?_
  refine Jd ?_
  intro i0 hi0
  refine go_ ?_
  refine Qq (p := .d (.v (.int .i64 (Qao k)))) ?_ (he := by (try clear hl); (try clear hl1); (try clear h0); (try clear hm); (try clear h7'); (try clear h7); clear h1 h8; rcases hk with rfl | rfl | rfl | rfl | rfl | rfl | rfl | rfl <;> (simp [Qao, Qaj, nev, nevA, PF.eval, PF.get, cPV, Qdc, TyK.agg] <;> rfl))
  refine go_ ?_
  refine Qq (p := .d (.v (.int .i64 (Qaj k)))) ?_ (he := by (try clear hl); (try clear hl1); (try clear h0); (try clear hm); (try clear h7'); (try clear h7); clear h1 h8; rcases hk with rfl | rfl | rfl | rfl | rfl | rfl | rfl | rfl <;> (simp [Qao, Qaj, nev, nevA, PF.eval, PF.get, cPV, Qdc, TyK.agg] <;> rfl))
  refine go_ ?_
  refine rT Try.results61 ?_
  exact ⟨rfl, rfl⟩
theorem tgood_p : ∀ (t : Tm), PCalls Try.prog 43 [aggD t] [] fun p s => p = .d (.v (.bool (Qac t))) ∧ s = [] := by
  refine Tm.ind ?_
  intro k n sub ih
  have HH := Hh (thead_p (.mk k n sub))
  have HR := Hh (show Qac (.mk k n sub) = (Qcn (.mk k n sub) && Qaq sub) by simp only [Qac])
  generalize Qac (.mk k n sub) = R at *
  generalize Qcn (.mk k n sub) = hb at *
  have hh := HH.out
  simp only [aggD, Jl, List.map_cons, List.map_nil, Jv, Jw, Jx] at hh ⊢
  clear HH
  have HH := Hh hh
  clear hh
  have IH := Hh ih
  clear ih
  cases hb with
  | false =>
    have hf : Hid (R = false) := by rw [show R = _ from HR.out]; rfl
    refine pG Try.func43 Try.ntmps43 ?_
    refine Jd ?_
    intro i0 hi0
    refine go_ ?_
    refine Qaa (HH.out) ?_
    refine rT Try.results43 ?_
    exact ⟨by rw [hf.out]; rfl, rfl⟩
  | true =>
    have HR2 : Hid (R = Qaq sub) := by rw [show R = _ from HR.out]; rfl
    refine pG Try.func43 Try.ntmps43 ?_
    refine Jd ?_
    intro i0 hi0
    refine go_ ?_
    refine Qaa (HH.out) ?_
    refine Qcu (t := 9) (rows := sub.map encD) (by simp [PF.get] <;> rfl) rfl fun hl => ?_
    rw [List.length_map] at hl
    refine Qaf (ι := Nat) (fun y => y ≤ sub.length ∧ Hid (R = Qaq (sub.drop y))) (fun y => [(9, .d (.sl (sub.map encD))), (10, .d (.v (.int .i64 sub.length))), (11, .d (.v (.int .i64 (y : Int))))]) (fun _ => []) (fun y => sub.length - y) 0 ⟨Nat.zero_le _, HR2.out⟩ ?_ ?_ ?_
    · exact sU
    · exact dR
    · rintro j ⟨hj, hR⟩
      unfold maxLen at hl
      clear HR HR2
      by_cases hlt : j < sub.length
      · have hx := Qam hlt
        have hc : (j : Int) < sub.length := by omega
        have hn : (0 : Int) ≤ j := by omega
        have hin := wr64 (n := (j : Int) + 1) (by omega) (by omega)
        have hR2 : Hid (R = (Qac sub[j] && Qaq (sub.drop (j + 1)))) := by
          rw [show R = _ from hR.out, List.drop_eq_getElem_cons hlt]
          show _ = _
          simp only [Qaq]
        have hc1 := Hh (IH.out _ (List.getElem_mem hlt))
        clear hR
        generalize Qac sub[j] = b at *
        cases b with
        | false =>
          have hf : Hid (R = false) := by rw [show R = _ from hR2.out]; rfl
          refine go_ ?_
          refine Je ?_
          intro i2 hi2
          try simp only [Ja, Rh, Rg, Jb] at hi2
          refine go_ ?_
          refine Qab ?_
          refine Qaa (hc1.out) ?_
          refine rT Try.results43 ?_
          exact ⟨by rw [hf.out]; rfl, rfl⟩
        | true =>
          have hR3 : Hid (R = Qaq (sub.drop (j + 1))) := by rw [show R = _ from hR2.out]; rfl
          refine go_ ?_
          refine Je ?_
          intro i2 hi2
          try simp only [Ja, Rh, Rg, Jb] at hi2
          refine go_ ?_
          refine Qab ?_
          refine Qaa (hc1.out) ?_
          exact ⟨j + 1, ⟨hlt, hR3⟩, by omega, sU, dR⟩
      · have hc : ¬ (j : Int) < sub.length := by omega
        have hf : Hid (R = true) := by rw [show R = _ from hR.out, List.drop_of_length_le (by omega)]; rfl
        refine go_ ?_
        refine rT Try.results43 ?_
        exact ⟨by rw [hf.out]; rfl, rfl⟩
theorem Qca (t : Tm) : PCalls Try.prog 27 [aggD t] [] fun p s => p = .d (.v (.bool (Qad t))) ∧ s = [] := by
 have hD := Hh (tDepth_p t)
 have hG := Hh (tgood_p t)
 have HR := Hh (show Qad t = (decide (Qbh t ≤ 128) && Qac t) from rfl)
 generalize Qbh t = z at *
 generalize Qac t = g at *
 simp only [aggD, Jl, List.map_cons, List.map_nil]
 by_cases hz : z ≤ 128
 ·rw [HR.out]
  refine pG Try.func27 Try.ntmps27 ?_
  refine Jd ?_
  intro i0 hi0
  refine go_ ?_
  refine Qaa (hD.out) ?_
  refine Qaa (hG.out) ?_
  refine rT Try.results27 ?_
  exact ⟨by simp [hz] <;> rfl, rfl⟩
 ·rw [HR.out]
  refine pG Try.func27 Try.ntmps27 ?_
  refine Jd ?_
  intro i0 hi0
  refine go_ ?_
  refine Qaa (hD.out) ?_
  refine rT Try.results27 ?_
  exact ⟨by simp [hz] <;> rfl, rfl⟩
theorem cnd_take {l : List Tm} {m : Nat} : min (m : Int) (cndL l) ≤ cndL (l.take m) := by
 by_cases h : l.length ≤ m
 ·rw [List.take_of_length_le h]; omega
 ·have := Qfj (l.take m)
  rw [List.length_take] at this
  omega
theorem Qdj (l : List Tm) : ∀ row ∈ l.map encD, row.length = 3 := rows_of rfl
theorem get_last {α : Type} [Enc α] (a : List α) (x : α) : ((a ++ [x]).map encD)[a.length]? = some (encD x) := by simp
theorem rSize_p (t : Tm) : PCalls Try.prog 62 [aggD t] [] fun p s => p = .d (.v (.int .i64 (Qbt t))) ∧ s = [] := by
 have HR := Hh (show Qbt t = min (0 + (cndL [t] : Int)) 8193 by unfold Qbt; rw [csz_nd t 0 (by decide) (by decide)]; simp only [cndL]; omega)
 generalize Qbt t = R at *
 simp only [aggD, Jl, List.map_cons, List.map_nil]
 refine pG Try.func62 Try.ntmps62 ?_
 refine Jd ?_
 intro i0 hi0
 refine go_ ?_
 refine Qbx ?_
 refine Qaf (ι := List Tm × Nat) (fun y => y.2 ≤ 8193 ∧ y.1.length ≤ y.2 * 8193 + 1 ∧ Hid (R = min ((y.2 : Int) + cndL y.1) 8193)) (fun y => [(3, .d (.sl (y.1.map encD))), (4, .d (.v (.int .i64 (y.2 : Int))))]) (fun _ => []) (fun y => 8193 - y.2) ([t], 0) ⟨Nat.zero_le _, by simp, HR.out⟩ ?_ ?_ ?_
 ·exact sU
 ·exact dR
 ·rintro ⟨l, m⟩ ⟨hm, hll, hR⟩
  simp only at hm hll hR ⊢
  clear HR
  by_cases hl : l = []
  ·subst hl
   have hf : Hid (R = m) := by rw [show R = _ from hR.out]; simp only [cndL]; show _ = _; omega
   refine go_ ?_
   refine rT Try.results62 ?_
   exact ⟨by rw [hf.out]; rfl, rfl⟩
  ·obtain ⟨a, x, rfl⟩ : ∃ a x, l = a ++ [x] := by
    rcases List.eq_nil_or_concat l with h | ⟨a, x, h⟩
    ·exact absurd h hl
    ·exact ⟨a, x, by rw [h, List.concat_eq_append]⟩
   clear hl
   have hx := get_last a x
   have hal1 : a.length + 1 ≤ m * 8193 + 1 := by rw [List.length_append, List.length_singleton] at hll; exact hll
   have hal : a.length ≤ 100000000 := by omega
   have hw1 := wr64 (n := (a.length : Int)) (by omega) (by omega)
   have hw2 := wr64 (n := (m : Int) + 1) (by omega) (by omega)
   have hn2 : (0 : Int) ≤ (a.length : Int) := by omega
   by_cases hb : (m : Int) ≤ 8192
   ·have hR2 : Hid (R = min (((m + 1 : Nat) : Int) + cndL (a ++ x.sub.take 8193)) 8193) := by
     rw [show R = _ from hR.out]
     have h1 := cnd_take (l := x.sub) (m := 8193)
     have h2 : cndL (x.sub.take 8193) ≤ cndL x.sub := by
      have := Qdl (x.sub.take 8193) (x.sub.drop 8193)
      rw [List.take_append_drop] at this; omega
     rw [Qdl, Qdl]
     simp only [cndL, cnd_sub x]
     show _ = _
     omega
    have e1 : ∀ r, List.drop 0 (List.take a.length (List.map encD a ++ r)) = List.map encD a := fun r => by rw [List.drop_zero, List.take_left' (by simp)]
    have e2 : List.drop 0 (List.take (min x.sub.length 8193) (List.map encD x.sub)) = List.map encD (x.sub.take 8193) := by
     rw [List.drop_zero]
     rcases Nat.le_total x.sub.length 8193 with h | h
     ·rw [Nat.min_eq_left h, List.take_of_length_le h, List.take_of_length_le (by simp)]
     ·rw [Nat.min_eq_right h, List.map_take]
    have em : (if (8193 : Int) < (x.sub.length : Int) then (8193 : Int) else x.sub.length) = ((min x.sub.length 8193 : Nat) : Int) := by split <;> omega
    have htl : (x.sub.take 8193).length ≤ 8193 := by rw [List.length_take]; omega
    refine go_ ?_
    refine Je ?_
    intro i1 hi1
    try simp only [Ja, Rh, Rg, Jb] at hi1
    refine go_ ?_
    refine Qab ?_
    refine Qgb (J := Qct [(i1, _)]) [(1, .a), (2, .a), (3, .a), (4, .a), (5, .a), (7, .a), (8, .a), (9, .a), (10, .a), (11, .a), (12, .a), (13, .a), (0, .e), (6, .e), (14, .e), (15, .a)] (by kernel_rfl) (by rfl) (by kernel_rfl) (by (repeat (first | exact Qbn _ | refine Ju (by simp [St.box?, *] <;> rfl) ?_))) ?_
    refine jG ?_
    refine Qfg 0 a.length ?_ ?_ (e1 _)
    rotate_left
    ·simpa using Qdj (a ++ [x])
    refine jG ?_
    refine PJ_min (((min x.sub.length 8193 : Nat) : Int)) em ?_
    refine jG ?_
    refine Qfg 0 (min x.sub.length 8193) ?_ ?_ e2
    rotate_left
    ·exact Qdj _
    refine jG ?_
    refine PJ_bs0 (fun g hg => by (repeat (first | exact Qbn _ | refine Ju (by simp [St.box?, *] <;> rfl) ?_))) ?_
    intro g hg
    refine jG ?_
    refine PJ_app a.length ?_ ?_ ?_ ?_ ?_
    ·simp
    ·simp
    ·exact Qdj a
    ·(repeat (first | exact Qbn _ | refine Ju (by simp [St.box?, *] <;> rfl) ?_))
    refine jG ?_
    refine PJ_app (a.length + (x.sub.take 8193).length) ?_ ?_ ?_ ?_ ?_
    ·simp
    ·simp
    ·exact fun row h => Qdj x.sub row (List.mem_of_mem_take h)
    ·(repeat (first | exact Qbn _ | refine Ju (by simp [St.box?, *] <;> rfl) ?_))
    refine PJ_s2 ?_
    refine PJ_nil ?_
    refine Qj ?_
    refine PW_norm 3 (by simp [PF.get] <;> rfl) ?_
    refine go_ ?_
    refine ⟨(a ++ x.sub.take 8193, m + 1), ⟨by simp only; omega, by simp only; rw [List.length_append]; omega, hR2⟩, by simp only; omega, ?_, dR⟩
    simp only [PV.norm0]
    repeat (first | exact Jt _ | refine Js (by simp [PF.get]; rfl) (by first | rfl | (simp [hw2]; done) | fail) ?_)
   ·have hf : Hid (R = m) := by rw [show R = _ from hR.out]; show _ = _; omega
    refine go_ ?_
    refine rT Try.results62 ?_
    exact ⟨by rw [hf.out]; rfl, rfl⟩
theorem cdep_hg (t : Tm) (h : ¬ 8192 < Qbt t) : Qbh t = min ((0 : Int) + chgL [t]) 129 := by
 unfold Qbh
 rw [if_neg h, cdp_hg t 1 (by decide) (by decide)]
 simp only [chgL]
 omega
theorem size_nd (t : Tm) : Qbt t = min (cndT t : Int) 8193 := by
 unfold Qbt
 rw [csz_nd t 0 (by decide) (by decide)]; omega
theorem rDepth_p (t : Tm) : PCalls Try.prog 44 [aggD t] [] fun p s => p = .d (.v (.int .i64 (Qbh t))) ∧ s = [] := by
 have hS := Hh (rSize_p t)
 by_cases hz : 8192 < Qbt t
 ·have hR : Qbh t = 129 := by unfold Qbh; rw [if_pos hz]
  rw [hR]
  generalize Qbt t = z at *
  simp only [aggD, Jl, List.map_cons, List.map_nil]
  refine pG Try.func44 Try.ntmps44 ?_
  refine Jd ?_
  intro i0 hi0
  refine go_ ?_
  refine Qaa (hS.out) ?_
  refine rT Try.results44 ?_
  exact ⟨rfl, rfl⟩
 ·have HR := Hh (cdep_hg t hz)
  have hnd : cndL [t] ≤ 8192 := by have := size_nd t; simp only [cndL]; omega
  generalize Qbt t = z at *
  generalize Qbh t = R at *
  simp only [aggD, Jl, List.map_cons, List.map_nil]
  refine pG Try.func44 Try.ntmps44 ?_
  refine Jd ?_
  intro i0 hi0
  refine go_ ?_
  refine Qaa (hS.out) ?_
  refine Qbx ?_
  refine Qaf (ι := List Tm × Nat) (fun y => y.2 ≤ 129 ∧ cndL y.1 ≤ 8192 ∧ Hid (R = min ((y.2 : Int) + chgL y.1) 129)) (fun y => [(3, .d (.sl (y.1.map encD))), (4, .d (.v (.int .i64 (y.2 : Int))))]) (fun _ => []) (fun y => 129 - y.2) ([t], 0) ⟨Nat.zero_le _, hnd, HR.out⟩ ?_ ?_ ?_
  ·exact sU
  ·exact dR
  ·rintro ⟨l, m⟩ ⟨hm, hnd, hR⟩
   simp only at hm hnd hR ⊢
   clear HR
   by_cases hl : l = []
   ·subst hl
    have hf : Hid (R = m) := by rw [show R = _ from hR.out]; simp only [chgL]; show _ = _; omega
    refine go_ ?_
    refine rT Try.results44 ?_
    exact ⟨by rw [hf.out]; rfl, rfl⟩
   ·have hpos : 0 < l.length := List.length_pos_iff.2 hl
    by_cases hb : (m : Int) < 129
    ·have hw2 := wr64 (n := (m : Int) + 1) (by omega) (by omega)
     have hll : l.length ≤ 8192 := Nat.le_trans (Qfj l) hnd
     have hR2 : Hid (R = min (((m + 1 : Nat) : Int) + chgL (clvl l)) 129) := by
      rw [show R = _ from hR.out, clvl_hg l hl]
      show _ = _
      omega
     have hnd2 : cndL (clvl l) ≤ 8192 := Nat.le_trans (clvl_nd l) hnd
     clear hR
     have hl' := hl
     refine go_ ?_
     refine Qfh ?_ (by decide) eD (by simp; rfl) (by rfl) (by simp; rfl) (by rfl) (by decide)
     intro g hg
     refine go_ ?_
     refine Qaf (ι := Nat) (fun y => y ≤ l.length) (fun y => [(3, .d (.sl (l.map encD))), (4, .d (.v (.int .i64 (m : Int)))), (5, .own g ((clvl (l.take y)).map encD)), (6, .d (.v (.int .i64 (y : Int))))]) (fun y => [.tok g 30 3 (clvl (l.take y)).length]) (fun y => l.length - y) 0 (Nat.zero_le _) ?_ ?_ ?_
     ·exact sU
     ·exact dR
     ·rintro k hk
      by_cases hlt : k < l.length
      ·have hx := Qam hlt
       have hc : (k : Int) < l.length := by omega
       have hn : (0 : Int) ≤ k := by omega
       have hin := wr64 (n := (k : Int) + 1) (by omega) (by omega)
       have ht := clvl_take l k hlt
       have hlen : (clvl (l.take (k + 1))).length ≤ 8192 := Nat.le_trans (Qfj _) (Nat.le_trans (clvl_nd _) (Nat.le_trans (Qeu l (k + 1)) hnd))
       have HT := Hh ht
       rw [ht, List.length_append] at hlen
       clear ht
       refine go_ ?_
       refine Qbq ((clvl (l.take k)).length + l[k].sub.length) ?_ ?_ ?_ ?_
       ·simp
       ·exact Qdj _
       ·exact Qdj _
       refine go_ ?_
       refine ⟨k + 1, hlt, by omega, ?_, ?_⟩
       ·rw [HT.out]
        exact sU
       ·rw [HT.out, List.length_append]
        exact dR
      ·have hc : ¬ (k : Int) < l.length := by omega
       have htk : l.take k = l := List.take_of_length_le (by omega)
       rw [htk]
       refine gs_ ?_
       refine Qc ?_
       refine gs_ ?_
       refine PW_norm 5 (by simp [PF.get] <;> rfl) ?_
       refine go_ ?_
       refine ⟨(clvl l, m + 1), ⟨by simp only; omega, hnd2, hR2⟩, by simp only; omega, ?_, dR⟩
       simp only [PV.norm0]
       repeat (first | exact Jt _ | refine Js (by simp [PF.get]; rfl) (by first | rfl | (simp [hw2]; done) | fail) ?_)
    ·have hf : Hid (R = m) := by rw [show R = _ from hR.out]; show _ = _; omega
     refine go_ ?_
     refine rT Try.results44 ?_
     exact ⟨by rw [hf.out]; rfl, rfl⟩
theorem rgood_p : ∀ (t : Tm), PCalls Try.prog 45 [aggD t] [] fun p s => p = .d (.v (.bool (Qac t))) ∧ s = [] := by
  refine Tm.ind ?_
  intro k n sub ih
  have HR := Hh (show Qac (.mk k n sub) = (Qcn (.mk k n sub) && Qaq sub) by simp only [Qac])
  simp only [aggD, Jl, List.map_cons, List.map_nil, Jv, Jw, Jx]
  have IH := Hh ih
  clear ih
  by_cases hk : k = 1 ∨ k = 2 ∨ k = 3 ∨ k = 4 ∨ k = 5 ∨ k = 6 ∨ k = 7 ∨ k = 8
  rotate_left
  · have hf : Hid (Qac (.mk k n sub) = false) := by rw [show Qac (.mk k n sub) = _ from HR.out, Qah (by omega)]; rfl
    rw [hf.out]
    have h1 : ¬ k = 1 := by omega
    have h2 : ¬ k = 2 := by omega
    have h3 : ¬ k = 3 := by omega
    have h4 : ¬ k = 4 := by omega
    have h5 : ¬ k = 5 := by omega
    have h6 : ¬ k = 6 := by omega
    have h7 : ¬ k = 7 := by omega
    have h8 : ¬ k = 8 := by omega
    clear hk HR hf
    refine pG Try.func45 Try.ntmps45 ?_
    refine Jd ?_
    intro i0 hi0
    refine go_ ?_
    refine rT Try.results45 ?_
    exact ⟨rfl, rfl⟩
  · rcases hk with rfl | rfl | rfl | rfl | rfl | rfl | rfl | rfl
    · by_cases hs : sub = []
      · by_cases h0 : n < 0
        · have hf : Hid (Qac (.mk 1 n sub) = false) := by rw [show Qac (.mk 1 n sub) = _ from HR.out, Qah (fun h => absurd h.2.2.2.1 (by omega))]; rfl
          rw [hf.out]
          clear HR hf IH
          refine pG Try.func45 Try.ntmps45 ?_
          refine Jd ?_
          intro i0 hi0
          refine go_ ?_
          refine rT Try.results45 ?_
          exact ⟨rfl, rfl⟩
        · by_cases hm : 1048576 < n
          · have hf : Hid (Qac (.mk 1 n sub) = false) := by rw [show Qac (.mk 1 n sub) = _ from HR.out, Qah (fun h => absurd h.2.2.2.2.1 (by simp [Qaj]; omega))]; rfl
            rw [hf.out]
            clear HR hf IH
            refine pG Try.func45 Try.ntmps45 ?_
            refine Jd ?_
            intro i0 hi0
            refine go_ ?_
            refine rT Try.results45 ?_
            exact ⟨rfl, rfl⟩
          · subst hs
            have HR2 : Hid (Qac (.mk 1 n []) = true) := by rw [show Qac (.mk 1 n []) = _ from HR.out, Qcj ⟨by decide, by decide, rfl, by omega, by simp [Qaj]; omega, .inl (by decide)⟩]; rfl
            generalize Qac (.mk 1 n []) = R at *
            clear HR
            refine pG Try.func45 Try.ntmps45 ?_
            refine Jd ?_
            intro i0 hi0
            refine go_ ?_
            refine Qaf (ι := Unit) (fun _ => True) (fun _ => [(3, .d (.v (.int .i64 0))), (5, .d (.v (.int .i64 0)))]) (fun _ => []) (fun _ => 0) () trivial ?_ ?_ ?_
            · exact sU
            · exact dR
            · rintro _ _
              refine go_ ?_
              refine rT Try.results45 ?_
              exact ⟨by rw [HR2.out]; rfl, rfl⟩
      · have hf : Hid (Qac (.mk 1 n sub) = false) := by rw [show Qac (.mk 1 n sub) = _ from HR.out, Qah (fun h => hs (List.eq_nil_of_length_eq_zero (by have := h.2.2.1; simp [Qao] at this; first | exact this | (rw [this]; rfl))))]; rfl
        rw [hf.out]
        clear HR hf IH
        refine pG Try.func45 Try.ntmps45 ?_
        refine Jd ?_
        intro i0 hi0
        refine go_ ?_
        refine rT Try.results45 ?_
        exact ⟨rfl, rfl⟩
    · by_cases hs : sub = []
      · by_cases h0 : n < 0
        · have hf : Hid (Qac (.mk 2 n sub) = false) := by rw [show Qac (.mk 2 n sub) = _ from HR.out, Qah (fun h => absurd h.2.2.2.1 (by omega))]; rfl
          rw [hf.out]
          clear HR hf IH
          refine pG Try.func45 Try.ntmps45 ?_
          refine Jd ?_
          intro i0 hi0
          refine go_ ?_
          refine rT Try.results45 ?_
          exact ⟨rfl, rfl⟩
        · by_cases hm : 7 < n
          · have hf : Hid (Qac (.mk 2 n sub) = false) := by rw [show Qac (.mk 2 n sub) = _ from HR.out, Qah (fun h => absurd h.2.2.2.2.1 (by simp [Qaj]; omega))]; rfl
            rw [hf.out]
            clear HR hf IH
            refine pG Try.func45 Try.ntmps45 ?_
            refine Jd ?_
            intro i0 hi0
            refine go_ ?_
            refine rT Try.results45 ?_
            exact ⟨rfl, rfl⟩
          · subst hs
            have HR2 : Hid (Qac (.mk 2 n []) = true) := by rw [show Qac (.mk 2 n []) = _ from HR.out, Qcj ⟨by decide, by decide, rfl, by omega, by simp [Qaj]; omega, .inl (by decide)⟩]; rfl
            generalize Qac (.mk 2 n []) = R at *
            clear HR
            refine pG Try.func45 Try.ntmps45 ?_
            refine Jd ?_
            intro i0 hi0
            refine go_ ?_
            refine Qaf (ι := Unit) (fun _ => True) (fun _ => [(3, .d (.v (.int .i64 0))), (5, .d (.v (.int .i64 0)))]) (fun _ => []) (fun _ => 0) () trivial ?_ ?_ ?_
            · exact sU
            · exact dR
            · rintro _ _
              refine go_ ?_
              refine rT Try.results45 ?_
              exact ⟨by rw [HR2.out]; rfl, rfl⟩
      · have hf : Hid (Qac (.mk 2 n sub) = false) := by rw [show Qac (.mk 2 n sub) = _ from HR.out, Qah (fun h => hs (List.eq_nil_of_length_eq_zero (by have := h.2.2.1; simp [Qao] at this; first | exact this | (rw [this]; rfl))))]; rfl
        rw [hf.out]
        clear HR hf IH
        refine pG Try.func45 Try.ntmps45 ?_
        refine Jd ?_
        intro i0 hi0
        refine go_ ?_
        refine rT Try.results45 ?_
        exact ⟨rfl, rfl⟩
    · by_cases hs : sub.length = 2
      · by_cases h0 : n < 0
        · have hf : Hid (Qac (.mk 3 n sub) = false) := by rw [show Qac (.mk 3 n sub) = _ from HR.out, Qah (fun h => absurd h.2.2.2.1 (by omega))]; rfl
          rw [hf.out]
          clear HR hf IH
          refine pG Try.func45 Try.ntmps45 ?_
          refine Jd ?_
          intro i0 hi0
          refine go_ ?_
          refine rT Try.results45 ?_
          exact ⟨rfl, rfl⟩
        · by_cases hm : 0 < n
          · have hf : Hid (Qac (.mk 3 n sub) = false) := by rw [show Qac (.mk 3 n sub) = _ from HR.out, Qah (fun h => absurd h.2.2.2.2.1 (by simp [Qaj]; omega))]; rfl
            rw [hf.out]
            clear HR hf IH
            refine pG Try.func45 Try.ntmps45 ?_
            refine Jd ?_
            intro i0 hi0
            refine go_ ?_
            refine rT Try.results45 ?_
            exact ⟨rfl, rfl⟩
          · have HR2 : Hid (Qac (.mk 3 n sub) = Qaq sub) := by rw [show Qac (.mk 3 n sub) = _ from HR.out, Qcj ⟨by decide, by decide, by rw [hs]; rfl, by omega, by simp [Qaj]; omega, .inl (by decide)⟩]; rfl
            generalize Qac (.mk 3 n sub) = R at *
            clear HR
            refine pG Try.func45 Try.ntmps45 ?_
            refine Jd ?_
            intro i0 hi0
            refine go_ ?_
            refine Qaf (ι := Nat) (fun y => y ≤ 2 ∧ Hid (R = Qaq (List.drop y sub))) (fun y => [(1, .ptr i0 0), (3, .d (.v (.int .i64 2))), (5, .d (.v (.int .i64 (y : Int))))]) (fun _ => [.box i0 30 [.d (.v (.int .i64 3)), .d (.v (.int .i64 n)), .d (.sl (sub.map encD))]]) (fun y => 2 - y) 0 ⟨Nat.zero_le _, HR2.out⟩ ?_ ?_ ?_
            · exact sU
            · exact dR
            · rintro j ⟨hj, hR⟩
              clear HR2
              by_cases hlt : j < 2
              · have hlt2 : j < (sub : List Tm).length := by rw [hs]; exact hlt
                have hx0 := Qam hlt2
                have hc : (j : Int) < 2 := by omega
                have hn : (0 : Int) ≤ j := by omega
                have hin := wr64 (n := (j : Int) + 1) (by omega) (by omega)
                have hR2 : Hid (R = (Qac (sub : List Tm)[j] && Qaq (List.drop (j + 1) sub))) := by
                  rw [show R = _ from hR.out, List.drop_eq_getElem_cons hlt2]
                  show _ = _
                  simp only [Qaq]
                have hc1 := Hh (IH.out _ (List.getElem_mem hlt2))
                clear hR
                generalize Qac (sub : List Tm)[j] = b at *
                cases b with
                | false =>
                  have hf : Hid (R = false) := by rw [show R = _ from hR2.out]; rfl
                  refine go_ ?_
                  refine Qaa (hc1.out) ?_
                  refine rT Try.results45 ?_
                  exact ⟨by rw [hf.out]; rfl, rfl⟩
                | true =>
                  have hR3 : Hid (R = Qaq (List.drop (j + 1) sub)) := by rw [show R = _ from hR2.out]; rfl
                  refine go_ ?_
                  refine Qaa (hc1.out) ?_
                  exact ⟨j + 1, ⟨hlt, hR3⟩, by omega, sU, dR⟩
              · have hc : ¬ (j : Int) < 2 := by omega
                have hf : Hid (R = true) := by rw [show R = _ from hR.out, List.drop_of_length_le (by rw [hs]; omega)]; rfl
                refine go_ ?_
                refine rT Try.results45 ?_
                exact ⟨by rw [hf.out]; rfl, rfl⟩
      · have hf : Hid (Qac (.mk 3 n sub) = false) := by rw [show Qac (.mk 3 n sub) = _ from HR.out, Qah (fun h => hs (by have := h.2.2.1; simp [Qao] at this; omega))]; rfl
        have hs2 : ¬ (sub.length : Int) = 2 := by omega
        rw [hf.out]
        clear HR hf IH
        refine pG Try.func45 Try.ntmps45 ?_
        refine Jd ?_
        intro i0 hi0
        refine go_ ?_
        refine rT Try.results45 ?_
        exact ⟨rfl, rfl⟩
    · by_cases hs : sub.length = 2
      · by_cases h0 : n < 0
        · have hf : Hid (Qac (.mk 4 n sub) = false) := by rw [show Qac (.mk 4 n sub) = _ from HR.out, Qah (fun h => absurd h.2.2.2.1 (by omega))]; rfl
          rw [hf.out]
          clear HR hf IH
          refine pG Try.func45 Try.ntmps45 ?_
          refine Jd ?_
          intro i0 hi0
          refine go_ ?_
          refine rT Try.results45 ?_
          exact ⟨rfl, rfl⟩
        · by_cases hm : 0 < n
          · have hf : Hid (Qac (.mk 4 n sub) = false) := by rw [show Qac (.mk 4 n sub) = _ from HR.out, Qah (fun h => absurd h.2.2.2.2.1 (by simp [Qaj]; omega))]; rfl
            rw [hf.out]
            clear HR hf IH
            refine pG Try.func45 Try.ntmps45 ?_
            refine Jd ?_
            intro i0 hi0
            refine go_ ?_
            refine rT Try.results45 ?_
            exact ⟨rfl, rfl⟩
          · have HR2 : Hid (Qac (.mk 4 n sub) = Qaq sub) := by rw [show Qac (.mk 4 n sub) = _ from HR.out, Qcj ⟨by decide, by decide, by rw [hs]; rfl, by omega, by simp [Qaj]; omega, .inl (by decide)⟩]; rfl
            generalize Qac (.mk 4 n sub) = R at *
            clear HR
            refine pG Try.func45 Try.ntmps45 ?_
            refine Jd ?_
            intro i0 hi0
            refine go_ ?_
            refine Qaf (ι := Nat) (fun y => y ≤ 2 ∧ Hid (R = Qaq (List.drop y sub))) (fun y => [(1, .ptr i0 0), (3, .d (.v (.int .i64 2))), (5, .d (.v (.int .i64 (y : Int))))]) (fun _ => [.box i0 30 [.d (.v (.int .i64 4)), .d (.v (.int .i64 n)), .d (.sl (sub.map encD))]]) (fun y => 2 - y) 0 ⟨Nat.zero_le _, HR2.out⟩ ?_ ?_ ?_
            · exact sU
            · exact dR
            · rintro j ⟨hj, hR⟩
              clear HR2
              by_cases hlt : j < 2
              · have hlt2 : j < (sub : List Tm).length := by rw [hs]; exact hlt
                have hx0 := Qam hlt2
                have hc : (j : Int) < 2 := by omega
                have hn : (0 : Int) ≤ j := by omega
                have hin := wr64 (n := (j : Int) + 1) (by omega) (by omega)
                have hR2 : Hid (R = (Qac (sub : List Tm)[j] && Qaq (List.drop (j + 1) sub))) := by
                  rw [show R = _ from hR.out, List.drop_eq_getElem_cons hlt2]
                  show _ = _
                  simp only [Qaq]
                have hc1 := Hh (IH.out _ (List.getElem_mem hlt2))
                clear hR
                generalize Qac (sub : List Tm)[j] = b at *
                cases b with
                | false =>
                  have hf : Hid (R = false) := by rw [show R = _ from hR2.out]; rfl
                  refine go_ ?_
                  refine Qaa (hc1.out) ?_
                  refine rT Try.results45 ?_
                  exact ⟨by rw [hf.out]; rfl, rfl⟩
                | true =>
                  have hR3 : Hid (R = Qaq (List.drop (j + 1) sub)) := by rw [show R = _ from hR2.out]; rfl
                  refine go_ ?_
                  refine Qaa (hc1.out) ?_
                  exact ⟨j + 1, ⟨hlt, hR3⟩, by omega, sU, dR⟩
              · have hc : ¬ (j : Int) < 2 := by omega
                have hf : Hid (R = true) := by rw [show R = _ from hR.out, List.drop_of_length_le (by rw [hs]; omega)]; rfl
                refine go_ ?_
                refine rT Try.results45 ?_
                exact ⟨by rw [hf.out]; rfl, rfl⟩
      · have hf : Hid (Qac (.mk 4 n sub) = false) := by rw [show Qac (.mk 4 n sub) = _ from HR.out, Qah (fun h => hs (by have := h.2.2.1; simp [Qao] at this; omega))]; rfl
        have hs2 : ¬ (sub.length : Int) = 2 := by omega
        rw [hf.out]
        clear HR hf IH
        refine pG Try.func45 Try.ntmps45 ?_
        refine Jd ?_
        intro i0 hi0
        refine go_ ?_
        refine rT Try.results45 ?_
        exact ⟨rfl, rfl⟩
    · by_cases hs : sub.length = 2
      · by_cases h0 : n < 0
        · have hf : Hid (Qac (.mk 5 n sub) = false) := by rw [show Qac (.mk 5 n sub) = _ from HR.out, Qah (fun h => absurd h.2.2.2.1 (by omega))]; rfl
          rw [hf.out]
          clear HR hf IH
          refine pG Try.func45 Try.ntmps45 ?_
          refine Jd ?_
          intro i0 hi0
          refine go_ ?_
          refine rT Try.results45 ?_
          exact ⟨rfl, rfl⟩
        · by_cases hm : 0 < n
          · have hf : Hid (Qac (.mk 5 n sub) = false) := by rw [show Qac (.mk 5 n sub) = _ from HR.out, Qah (fun h => absurd h.2.2.2.2.1 (by simp [Qaj]; omega))]; rfl
            rw [hf.out]
            clear HR hf IH
            refine pG Try.func45 Try.ntmps45 ?_
            refine Jd ?_
            intro i0 hi0
            refine go_ ?_
            refine rT Try.results45 ?_
            exact ⟨rfl, rfl⟩
          · have HR2 : Hid (Qac (.mk 5 n sub) = Qaq sub) := by rw [show Qac (.mk 5 n sub) = _ from HR.out, Qcj ⟨by decide, by decide, by rw [hs]; rfl, by omega, by simp [Qaj]; omega, .inl (by decide)⟩]; rfl
            generalize Qac (.mk 5 n sub) = R at *
            clear HR
            refine pG Try.func45 Try.ntmps45 ?_
            refine Jd ?_
            intro i0 hi0
            refine go_ ?_
            refine Qaf (ι := Nat) (fun y => y ≤ 2 ∧ Hid (R = Qaq (List.drop y sub))) (fun y => [(1, .ptr i0 0), (3, .d (.v (.int .i64 2))), (5, .d (.v (.int .i64 (y : Int))))]) (fun _ => [.box i0 30 [.d (.v (.int .i64 5)), .d (.v (.int .i64 n)), .d (.sl (sub.map encD))]]) (fun y => 2 - y) 0 ⟨Nat.zero_le _, HR2.out⟩ ?_ ?_ ?_
            · exact sU
            · exact dR
            · rintro j ⟨hj, hR⟩
              clear HR2
              by_cases hlt : j < 2
              · have hlt2 : j < (sub : List Tm).length := by rw [hs]; exact hlt
                have hx0 := Qam hlt2
                have hc : (j : Int) < 2 := by omega
                have hn : (0 : Int) ≤ j := by omega
                have hin := wr64 (n := (j : Int) + 1) (by omega) (by omega)
                have hR2 : Hid (R = (Qac (sub : List Tm)[j] && Qaq (List.drop (j + 1) sub))) := by
                  rw [show R = _ from hR.out, List.drop_eq_getElem_cons hlt2]
                  show _ = _
                  simp only [Qaq]
                have hc1 := Hh (IH.out _ (List.getElem_mem hlt2))
                clear hR
                generalize Qac (sub : List Tm)[j] = b at *
                cases b with
                | false =>
                  have hf : Hid (R = false) := by rw [show R = _ from hR2.out]; rfl
                  refine go_ ?_
                  refine Qaa (hc1.out) ?_
                  refine rT Try.results45 ?_
                  exact ⟨by rw [hf.out]; rfl, rfl⟩
                | true =>
                  have hR3 : Hid (R = Qaq (List.drop (j + 1) sub)) := by rw [show R = _ from hR2.out]; rfl
                  refine go_ ?_
                  refine Qaa (hc1.out) ?_
                  exact ⟨j + 1, ⟨hlt, hR3⟩, by omega, sU, dR⟩
              · have hc : ¬ (j : Int) < 2 := by omega
                have hf : Hid (R = true) := by rw [show R = _ from hR.out, List.drop_of_length_le (by rw [hs]; omega)]; rfl
                refine go_ ?_
                refine rT Try.results45 ?_
                exact ⟨by rw [hf.out]; rfl, rfl⟩
      · have hf : Hid (Qac (.mk 5 n sub) = false) := by rw [show Qac (.mk 5 n sub) = _ from HR.out, Qah (fun h => hs (by have := h.2.2.1; simp [Qao] at this; omega))]; rfl
        have hs2 : ¬ (sub.length : Int) = 2 := by omega
        rw [hf.out]
        clear HR hf IH
        refine pG Try.func45 Try.ntmps45 ?_
        refine Jd ?_
        intro i0 hi0
        refine go_ ?_
        refine rT Try.results45 ?_
        exact ⟨rfl, rfl⟩
    · by_cases hs : sub = []
      · by_cases h0 : n < 0
        · have hf : Hid (Qac (.mk 6 n sub) = false) := by rw [show Qac (.mk 6 n sub) = _ from HR.out, Qah (fun h => absurd h.2.2.2.1 (by omega))]; rfl
          rw [hf.out]
          clear HR hf IH
          refine pG Try.func45 Try.ntmps45 ?_
          refine Jd ?_
          intro i0 hi0
          refine go_ ?_
          refine rT Try.results45 ?_
          exact ⟨rfl, rfl⟩
        · by_cases hm : 1048576 < n
          · have hf : Hid (Qac (.mk 6 n sub) = false) := by rw [show Qac (.mk 6 n sub) = _ from HR.out, Qah (fun h => absurd h.2.2.2.2.1 (by simp [Qaj]; omega))]; rfl
            rw [hf.out]
            clear HR hf IH
            refine pG Try.func45 Try.ntmps45 ?_
            refine Jd ?_
            intro i0 hi0
            refine go_ ?_
            refine rT Try.results45 ?_
            exact ⟨rfl, rfl⟩
          · subst hs
            have HR2 : Hid (Qac (.mk 6 n []) = true) := by rw [show Qac (.mk 6 n []) = _ from HR.out, Qcj ⟨by decide, by decide, rfl, by omega, by simp [Qaj]; omega, .inl (by decide)⟩]; rfl
            generalize Qac (.mk 6 n []) = R at *
            clear HR
            refine pG Try.func45 Try.ntmps45 ?_
            refine Jd ?_
            intro i0 hi0
            refine go_ ?_
            refine Qaf (ι := Unit) (fun _ => True) (fun _ => [(3, .d (.v (.int .i64 0))), (5, .d (.v (.int .i64 0)))]) (fun _ => []) (fun _ => 0) () trivial ?_ ?_ ?_
            · exact sU
            · exact dR
            · rintro _ _
              refine go_ ?_
              refine rT Try.results45 ?_
              exact ⟨by rw [HR2.out]; rfl, rfl⟩
      · have hf : Hid (Qac (.mk 6 n sub) = false) := by rw [show Qac (.mk 6 n sub) = _ from HR.out, Qah (fun h => hs (List.eq_nil_of_length_eq_zero (by have := h.2.2.1; simp [Qao] at this; first | exact this | (rw [this]; rfl))))]; rfl
        rw [hf.out]
        clear HR hf IH
        refine pG Try.func45 Try.ntmps45 ?_
        refine Jd ?_
        intro i0 hi0
        refine go_ ?_
        refine rT Try.results45 ?_
        exact ⟨rfl, rfl⟩
    · by_cases hs : sub.length = 1
      · by_cases h0 : n < 0
        · have hf : Hid (Qac (.mk 7 n sub) = false) := by rw [show Qac (.mk 7 n sub) = _ from HR.out, Qah (fun h => absurd h.2.2.2.1 (by omega))]; rfl
          rw [hf.out]
          clear HR hf IH
          refine pG Try.func45 Try.ntmps45 ?_
          refine Jd ?_
          intro i0 hi0
          refine go_ ?_
          refine rT Try.results45 ?_
          exact ⟨rfl, rfl⟩
        · by_cases hm : 1048576 < n
          · have hf : Hid (Qac (.mk 7 n sub) = false) := by rw [show Qac (.mk 7 n sub) = _ from HR.out, Qah (fun h => absurd h.2.2.2.2.1 (by simp [Qaj]; omega))]; rfl
            rw [hf.out]
            clear HR hf IH
            refine pG Try.func45 Try.ntmps45 ?_
            refine Jd ?_
            intro i0 hi0
            refine go_ ?_
            refine rT Try.results45 ?_
            exact ⟨rfl, rfl⟩
          · match sub, hs with
            | [x], _ =>
            by_cases hx : x.kind = 2
            rotate_left
            · have hf : Hid (Qac (.mk 7 n [x]) = false) := by rw [show Qac (.mk 7 n [x]) = _ from HR.out, Qah (k := 7) (n := n) (sub := [x]) (fun h => hx (h.2.2.2.2.2.resolve_left (fun h => h rfl)))]; rfl
              rw [hf.out]
              clear HR hf IH
              refine pG Try.func45 Try.ntmps45 ?_
              refine Jd ?_
              intro i0 hi0
              refine go_ ?_
              refine rT Try.results45 ?_
              exact ⟨rfl, rfl⟩
            · have HR2 : Hid (Qac (.mk 7 n [x]) = Qaq [x]) := by rw [show Qac (.mk 7 n [x]) = _ from HR.out, Qcj (k := 7) (n := n) (sub := [x]) ⟨by decide, by decide, rfl, by omega, by simp [Qaj]; omega, .inr hx⟩]; rfl
              have hx2 : (x.kind != 2) = false := by rw [hx]; rfl
              clear hx
              generalize Qac (.mk 7 n [x]) = R at *
              clear HR
              refine pG Try.func45 Try.ntmps45 ?_
              refine Jd ?_
              intro i0 hi0
              refine go_ ?_
              refine Qaf (ι := Nat) (fun y => y ≤ 1 ∧ Hid (R = Qaq (List.drop y [x]))) (fun y => [(1, .ptr i0 0), (3, .d (.v (.int .i64 1))), (5, .d (.v (.int .i64 (y : Int))))]) (fun _ => [.box i0 30 [.d (.v (.int .i64 7)), .d (.v (.int .i64 n)), .d (.sl ([[.v (.int .i64 x.kind), .v (.int .i64 x.num), .sl (x.sub.map encD)]]))]]) (fun y => 1 - y) 0 ⟨Nat.zero_le _, HR2.out⟩ ?_ ?_ ?_
              · exact sU
              · exact dR
              · rintro j ⟨hj, hR⟩
                clear HR2
                by_cases hlt : j < 1
                · obtain rfl : j = 0 := by omega
                  have hR2 : Hid (R = (Qac x && Qaq [])) := by rw [show R = _ from hR.out]; rfl
                  have hc1 := Hh (IH.out x (by simp))
                  clear hR
                  generalize Qac x = b at *
                  cases b with
                  | false =>
                    have hf : Hid (R = false) := by rw [show R = _ from hR2.out]; rfl
                    refine go_ ?_
                    refine Qaa (hc1.out) ?_
                    refine rT Try.results45 ?_
                    exact ⟨by rw [hf.out]; rfl, rfl⟩
                  | true =>
                    have hR3 : Hid (R = Qaq (List.drop (0 + 1) [x])) := by rw [show R = _ from hR2.out]; rfl
                    refine go_ ?_
                    refine Qaa (hc1.out) ?_
                    exact ⟨0 + 1, ⟨by omega, hR3⟩, by omega, sU, dR⟩
                · have hc : ¬ (j : Int) < 1 := by omega
                  have hf : Hid (R = true) := by rw [show R = _ from hR.out, List.drop_of_length_le (by simp; omega)]; rfl
                  refine go_ ?_
                  refine rT Try.results45 ?_
                  exact ⟨by rw [hf.out]; rfl, rfl⟩
      · have hf : Hid (Qac (.mk 7 n sub) = false) := by rw [show Qac (.mk 7 n sub) = _ from HR.out, Qah (fun h => hs (by have := h.2.2.1; simp [Qao] at this; omega))]; rfl
        have hs2 : ¬ (sub.length : Int) = 1 := by omega
        rw [hf.out]
        clear HR hf IH
        refine pG Try.func45 Try.ntmps45 ?_
        refine Jd ?_
        intro i0 hi0
        refine go_ ?_
        refine rT Try.results45 ?_
        exact ⟨rfl, rfl⟩
    · by_cases hs : sub = []
      · by_cases h0 : n < 0
        · have hf : Hid (Qac (.mk 8 n sub) = false) := by rw [show Qac (.mk 8 n sub) = _ from HR.out, Qah (fun h => absurd h.2.2.2.1 (by omega))]; rfl
          rw [hf.out]
          clear HR hf IH
          refine pG Try.func45 Try.ntmps45 ?_
          refine Jd ?_
          intro i0 hi0
          refine go_ ?_
          refine rT Try.results45 ?_
          exact ⟨rfl, rfl⟩
        · by_cases hm : 1048576 < n
          · have hf : Hid (Qac (.mk 8 n sub) = false) := by rw [show Qac (.mk 8 n sub) = _ from HR.out, Qah (fun h => absurd h.2.2.2.2.1 (by simp [Qaj]; omega))]; rfl
            rw [hf.out]
            clear HR hf IH
            refine pG Try.func45 Try.ntmps45 ?_
            refine Jd ?_
            intro i0 hi0
            refine go_ ?_
            refine rT Try.results45 ?_
            exact ⟨rfl, rfl⟩
          · subst hs
            have HR2 : Hid (Qac (.mk 8 n []) = true) := by rw [show Qac (.mk 8 n []) = _ from HR.out, Qcj ⟨by decide, by decide, rfl, by omega, by simp [Qaj]; omega, .inl (by decide)⟩]; rfl
            generalize Qac (.mk 8 n []) = R at *
            clear HR
            refine pG Try.func45 Try.ntmps45 ?_
            refine Jd ?_
            intro i0 hi0
            refine go_ ?_
            refine Qaf (ι := Unit) (fun _ => True) (fun _ => [(3, .d (.v (.int .i64 0))), (5, .d (.v (.int .i64 0)))]) (fun _ => []) (fun _ => 0) () trivial ?_ ?_ ?_
            · exact sU
            · exact dR
            · rintro _ _
              refine go_ ?_
              refine rT Try.results45 ?_
              exact ⟨by rw [HR2.out]; rfl, rfl⟩
      · have hf : Hid (Qac (.mk 8 n sub) = false) := by rw [show Qac (.mk 8 n sub) = _ from HR.out, Qah (fun h => hs (List.eq_nil_of_length_eq_zero (by have := h.2.2.1; simp [Qao] at this; first | exact this | (rw [this]; rfl))))]; rfl
        rw [hf.out]
        clear HR hf IH
        refine pG Try.func45 Try.ntmps45 ?_
        refine Jd ?_
        intro i0 hi0
        refine go_ ?_
        refine rT Try.results45 ?_
        exact ⟨rfl, rfl⟩
theorem rshaped_p (t : Tm) : PCalls Try.prog 28 [aggD t] [] fun p s => p = .d (.v (.bool (Qad t))) ∧ s = [] := by
 have hD := Hh (rDepth_p t)
 have hG := Hh (rgood_p t)
 have HR := Hh (show Qad t = (decide (Qbh t ≤ 128) && Qac t) from rfl)
 generalize Qbh t = z at *
 generalize Qac t = g at *
 simp only [aggD, Jl, List.map_cons, List.map_nil]
 by_cases hz : z ≤ 128
 ·rw [HR.out]
  refine pG Try.func28 Try.ntmps28 ?_
  refine Jd ?_
  intro i0 hi0
  refine go_ ?_
  refine Qaa (hD.out) ?_
  refine Qaa (hG.out) ?_
  refine rT Try.results28 ?_
  exact ⟨by simp [hz] <;> rfl, rfl⟩
 ·rw [HR.out]
  refine pG Try.func28 Try.ntmps28 ?_
  refine Jd ?_
  intro i0 hi0
  refine go_ ?_
  refine Qaa (hD.out) ?_
  refine rT Try.results28 ?_
  exact ⟨by simp [hz] <;> rfl, rfl⟩
theorem tunder_p (t : Tm) (i : Int) : PCalls Try.prog 74 [aggD t, .d (.v (.int .i64 i))] [] fun p s => p = .d (.v (.int .i64 (undB t.kind i))) ∧ s = [] := by
 have HR := Hh (show undB t.kind i = if i = 1 ∧ (t.kind = 3 ∨ t.kind = 4) then 1 else 0 from rfl)
 simp only [aggD, Jl, List.map_cons, List.map_nil]
 by_cases h1 : i = 1
 ·by_cases h3 : t.kind = 3
  ·have hf : Hid (undB t.kind i = 1) := by rw [show undB t.kind i = _ from HR.out, if_pos ⟨h1, .inl h3⟩]; rfl
   rw [hf.out]
   clear HR hf
   subst h1
   refine pG Try.func74 Try.ntmps74 ?_
   refine Jd ?_
   intro i0 hi0
   refine go_ ?_
   refine rT Try.results74 ?_
   exact ⟨rfl, rfl⟩
  ·by_cases h4 : t.kind = 4
   ·have hf : Hid (undB t.kind i = 1) := by rw [show undB t.kind i = _ from HR.out, if_pos ⟨h1, .inr h4⟩]; rfl
    rw [hf.out]
    clear HR hf h3
    subst h1
    refine pG Try.func74 Try.ntmps74 ?_
    refine Jd ?_
    intro i0 hi0
    refine go_ ?_
    refine rT Try.results74 ?_
    exact ⟨rfl, rfl⟩
   ·have hf : Hid (undB t.kind i = 0) := by rw [show undB t.kind i = _ from HR.out, if_neg (fun h => h.2.elim h3 h4)]; rfl
    rw [hf.out]
    clear HR hf
    subst h1
    refine pG Try.func74 Try.ntmps74 ?_
    refine Jd ?_
    intro i0 hi0
    refine go_ ?_
    refine rT Try.results74 ?_
    exact ⟨rfl, rfl⟩
 ·have hf : Hid (undB t.kind i = 0) := by rw [show undB t.kind i = _ from HR.out, if_neg (fun h => h1 h.1)]; rfl
  rw [hf.out]
  clear HR hf
  refine pG Try.func74 Try.ntmps74 ?_
  refine Jd ?_
  intro i0 hi0
  refine go_ ?_
  refine rT Try.results74 ?_
  exact ⟨rfl, rfl⟩
theorem ls_var {n b : Int} {sub : List Tm} : lsT (.mk 1 n sub) b = max 0 (n + 1 - b) := by simp only [lsT]; rfl
theorem ls_not {k n b : Int} {sub : List Tm} (h : ¬ k = 1) : lsT (.mk k n sub) b = lsL k sub 0 b 0 := by simp only [lsT]; rw [if_neg h]
theorem max_if2 (a b : Int) : (if a < b then b else a) = max a b := (cmax_if a b).symm
theorem tloose_p : ∀ (t : Tm) (b : Int), Qac t = true → 0 ≤ b → b + chgT t ≤ 1000 → PCalls Try.prog 67 [aggD t, .d (.v (.int .i64 b))] [] fun p s => p = .d (.v (.int .i64 (lsT t b))) ∧ s = [] := by
 refine Tm.ind ?_
 intro k n sub ih b hg h0 h1
 have hnum := head_num (Qcs hg).1
 simp only [aggD, Jl, List.map_cons, List.map_nil, Jv, Jw, Jx]
 by_cases hk : k = 1
 ·subst hk
  rw [ls_var]
  have hw1 := wr64 (n := n + 1) (by omega) (by omega)
  have hw2 := wr64 (n := n + 1 - b) (by omega) (by omega)
  clear ih hg hnum
  refine pG Try.func67 Try.ntmps67 ?_
  refine Jd ?_
  intro i0 hi0
  refine go_ ?_
  refine POps_max ((max 0 (n + 1 - b))) (max_if2 _ _) ?_
  refine go_ ?_
  refine rT Try.results67 ?_
  exact ⟨rfl, rfl⟩
 ·rw [ls_not hk]
  have HR : ∃ R, R = lsL k sub 0 b 0 := ⟨_, rfl⟩
  obtain ⟨R, hR0⟩ := HR
  rw [← hR0]
  have hgs := (Qcs hg).2
  have hhg : ∀ s ∈ sub, (chgT s : Int) + 1 ≤ chgT (.mk k n sub) := fun s hs => by
   have h2 : chgT s ≤ chgL sub := hgL_mem s hs
   simp only [chgT]; omega
  have hll : sub.length ≤ 2 := by
   have := hnum.2.2.2.2
   unfold Qao at this
   split at this
   ·omega
   ·split at this <;> omega
  have IH := Hh ih
  have CU := Hh (tunder_p (.mk k n sub))
  simp only [aggD, Jl, List.map_cons, List.map_nil, Jv, Jw, Jx] at CU
  clear ih hg hnum
  refine pG Try.func67 Try.ntmps67 ?_
  refine Jd ?_
  intro i0 hi0
  refine go_ ?_
  refine Qaf (ι := Nat × Int) (fun y => y.1 ≤ sub.length ∧ 0 ≤ y.2 ∧ y.2 ≤ 1048577 ∧ Hid (R = lsL k (sub.drop y.1) y.1 b y.2)) (fun y => [(1, .d (.v (.int .i64 b))), (2, .ptr i0 0), (5, .d (.v (.int .i64 y.2))), (18, .d (.sl (sub.map encD))), (19, .d (.v (.int .i64 sub.length))), (20, .d (.v (.int .i64 (y.1 : Int))))]) (fun _ => [.box i0 30 [.d (.v (.int .i64 k)), .d (.v (.int .i64 n)), .d (.sl (sub.map encD))]]) (fun y => sub.length - y.1) (0, 0) ⟨Nat.zero_le _, by decide, by simp only; omega, hR0⟩ ?_ ?_ ?_
  ·exact sU
  ·exact dR
  ·rintro ⟨j, m⟩ ⟨hj, hm0, hm1, hR⟩
   simp only at hj hm0 hm1 hR ⊢
   clear hR0
   by_cases hlt : j < sub.length
   ·have hx := Qam hlt
    have hc : (j : Int) < sub.length := by omega
    have hn : (0 : Int) ≤ j := by omega
    have hin := wr64 (n := (j : Int) + 1) (by omega) (by omega)
    have hu := und_bd k j
    have hh := hhg _ (List.getElem_mem hlt)
    have hR2 : Hid (R = lsL k (sub.drop (j + 1)) (j + 1) b (max m (lsT sub[j] (b + undB k j)))) := by
     rw [show R = _ from hR.out, List.drop_eq_getElem_cons hlt]
     show _ = _
     simp only [lsL]
    have hb2 := ls_bd sub[j] (b + undB k j) (hgs _ (List.getElem_mem hlt)) (by omega)
    have hc1 := Hh (IH.out _ (List.getElem_mem hlt) (b + undB k j) (hgs _ (List.getElem_mem hlt)) (by omega) (by omega))
    have hcu := Hh (CU.out j)
    have hw := wr64 (n := b + undB k j) (by omega) (by omega)
    clear hR hgs hhg hu
    generalize lsT sub[j] (b + undB k j) = x' at *
    generalize undB k j = u at *
    have hmx : 0 ≤ max m x' ∧ max m x' ≤ 1048577 := by omega
    refine go_ ?_
    refine Je ?_
    intro i2 hi2
    try simp only [Ja, Rh, Rg, Jb] at hi2
    refine go_ ?_
    refine Qab ?_
    refine Qas [(0, .a), (1, .b), (2, .a), (3, .b), (4, .a), (5, .a), (6, .a), (7, .a), (8, .a), (9, .a)] (by kernel_rfl) (by rfl) (by kernel_rfl) ?_
    refine go_ ?_
    refine Qaw (hcu.out) ?_
    refine go_ ?_
    refine Qaw (hc1.out) ?_
    refine go_ ?_
    refine POrd_max ((max m x')) (max_if2 _ _) ?_
    refine go_ ?_
    exact ⟨(j + 1, max m x'), ⟨hlt, hmx.1, hmx.2, hR2⟩, by simp only; omega, sU, dR⟩
   ·have hc : ¬ (j : Int) < sub.length := by omega
    have hf : Hid (R = m) := by rw [show R = _ from hR.out, List.drop_of_length_le (by omega)]; rfl
    refine go_ ?_
    refine rT Try.results67 ?_
    exact ⟨by rw [hf.out]; rfl, rfl⟩
end Go.Proofs.Ytpaifjlikgnlfaa
