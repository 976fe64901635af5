import Derived.Test.YtffgfjnbgplckaaNd0
namespace Go.Proofs.Ytffgfjnbgplckaa
open Go.RowKit
mutual
def szT : Nd → Int → Int
  | .mk _ _ _ _ sub, h => szL sub (h + 1)
def szL : List Nd → Int → Int
  | [], h => h
  | t :: ts, h => if 8192 < h then h else szL ts (szT t h)
end
theorem szL_big (ts : List Nd) (h : Int) (hb : 8192 < h) : szL ts h = h := by
  cases ts with
  | nil => rfl
  | cons t ts => simp only [szL]; rw [if_pos hb]
theorem sz_bd : ∀ (t : Nd) (h : Int), 0 ≤ h → h ≤ 8192 → h + 1 ≤ szT t h ∧ szT t h ≤ 8193 := by
  refine Nd.ind ?_
  intro k aa ss n sub ih h h0 h1
  have : ∀ (l : List Nd), (∀ s ∈ l, ∀ (h : Int), 0 ≤ h → h ≤ 8192 → h + 1 ≤ szT s h ∧ szT s h ≤ 8193) → ∀ h : Int, 0 ≤ h → h ≤ 8193 → h ≤ szL l h ∧ szL l h ≤ 8193 := by
    intro l
    induction l with
    | nil => intro _ h h0 h1; simp only [szL]; omega
    | cons t ts iht =>
      intro hl h h0 h1
      simp only [szL]
      by_cases hb : 8192 < h
      · rw [if_pos hb]; omega
      · rw [if_neg hb]
        have h3 := hl t (by simp) h h0 (by omega)
        have h4 := iht (fun s hs => hl s (by simp [hs])) (szT t h) (by omega) h3.2
        omega
  simp only [szT]
  have := this sub ih (h + 1) (by omega) (by omega)
  omega
theorem szL_bd (l : List Nd) : ∀ h : Int, 0 ≤ h → h ≤ 8193 → h ≤ szL l h ∧ szL l h ≤ 8193 := by
  induction l with
  | nil => intro h h0 h1; simp only [szL]; omega
  | cons t ts iht =>
    intro h h0 h1
    simp only [szL]
    by_cases hb : 8192 < h
    · rw [if_pos hb]; omega
    · rw [if_neg hb]
      have h3 := sz_bd t h h0 (by omega)
      have h4 := iht (szT t h) (by omega) h3.2
      omega
mutual
def dpT : Nd → Int → Int
  | .mk _ _ _ _ sub, h => if 128 < h then h else dpL sub h h
def dpL : List Nd → Int → Int → Int
  | [], _, m => m
  | t :: ts, h, m => dpL ts h (max m (dpT t (h + 1)))
end
def sizeT (t : Nd) : Int := szT t 0
def depthT (t : Nd) : Int := if 8192 < sizeT t then 129 else dpT t 1
theorem dp_bd : ∀ (t : Nd) (h : Int), h ≤ 129 → h ≤ dpT t h ∧ dpT t h ≤ 129 := by
  refine Nd.ind ?_
  intro k aa ss n sub ih h h1
  have : ∀ (l : List Nd), (∀ s ∈ l, ∀ (h : Int), h ≤ 129 → h ≤ dpT s h ∧ dpT s h ≤ 129) → ∀ h m : Int, h ≤ 128 → m ≤ 129 → m ≤ dpL l h m ∧ dpL l h m ≤ 129 := by
    intro l
    induction l with
    | nil => intro _ h m _ _; simp only [dpL]; omega
    | cons t ts iht =>
      intro hl h m h1 h2
      simp only [dpL]
      have h3 := hl t (by simp) (h + 1) (by omega)
      have h4 := iht (fun s hs => hl s (by simp [hs])) h (max m (dpT t (h + 1))) h1 (by omega)
      omega
  simp only [dpT]
  by_cases hb : 128 < h
  · rw [if_pos hb]; omega
  · rw [if_neg hb]; exact this sub ih h h (by omega) h1
theorem max_if (g x : Int) : max g x = if g < x then x else g := by split <;> omega
mutual
def ndT : Nd → Nat
  | .mk _ _ _ _ sub => ndL sub + 1
def ndL : List Nd → Nat
  | [] => 0
  | t :: ts => ndT t + ndL ts
end
theorem ndL_append (a b : List Nd) : ndL (a ++ b) = ndL a + ndL b := by
  induction a with
  | nil => simp [ndL]
  | cons t ts ih => simp only [List.cons_append, ndL, ih]; omega
theorem ndT_pos (t : Nd) : 1 ≤ ndT t := by cases t; simp only [ndT]; omega
theorem ndL_len (a : List Nd) : a.length ≤ ndL a := by
  induction a with
  | nil => simp [ndL]
  | cons t ts ih => simp only [ndL, List.length_cons]; have := ndT_pos t; omega
theorem sz_nd : ∀ (t : Nd) (h : Int), 0 ≤ h → h ≤ 8192 → szT t h = min (h + ndT t) 8193 := by
  refine Nd.ind ?_
  intro k aa ss n sub ih h h0 h1
  have : ∀ (l : List Nd), (∀ s ∈ l, ∀ (h : Int), 0 ≤ h → h ≤ 8192 → szT s h = min (h + ndT s) 8193) → ∀ h : Int, 0 ≤ h → h ≤ 8193 → szL l h = min (h + ndL l) 8193 := by
    intro l
    induction l with
    | nil => intro _ h h0 h1; simp only [szL, ndL]; omega
    | cons t ts iht =>
      intro hl h h0 h1
      simp only [szL, ndL]
      have hp := ndT_pos t
      by_cases hb : 8192 < h
      · rw [if_pos hb]; omega
      · rw [if_neg hb, hl t (by simp) h h0 (by omega), iht (fun s hs => hl s (by simp [hs])) _ (by omega) (by omega)]
        omega
  simp only [szT, ndT]
  rw [this sub ih (h + 1) (by omega) (by omega)]; omega
mutual
def hgT : Nd → Nat
  | .mk _ _ _ _ sub => hgL sub + 1
def hgL : List Nd → Nat
  | [] => 0
  | t :: ts => max (hgT t) (hgL ts)
end
theorem dp_hg : ∀ (t : Nd) (h : Int), 0 ≤ h → h ≤ 129 → dpT t h = min (h + hgT t - 1) 129 := by
  refine Nd.ind ?_
  intro k aa ss n sub ih h h0 h1
  have : ∀ (l : List Nd), (∀ s ∈ l, ∀ (h : Int), 0 ≤ h → h ≤ 129 → dpT s h = min (h + hgT s - 1) 129) → ∀ h m : Int, 0 ≤ h → h ≤ 128 → h ≤ m → dpL l h m = max m (min (h + hgL l) 129) := by
    intro l
    induction l with
    | nil => intro _ h m _ _ _; simp only [dpL, hgL]; omega
    | cons t ts iht =>
      intro hl h m h0 h1 h2
      simp only [dpL, hgL]
      rw [hl t (by simp) (h + 1) (by omega) (by omega), iht (fun s hs => hl s (by simp [hs])) h _ h0 h1 (by omega)]
      omega
  simp only [dpT, hgT]
  by_cases hb : 128 < h
  · rw [if_pos hb]; omega
  · rw [if_neg hb, this sub ih h h h0 (by omega) (Int.le_refl _)]; omega
theorem hgL_append (a b : List Nd) : hgL (a ++ b) = max (hgL a) (hgL b) := by
  induction a with
  | nil => simp [hgL]
  | cons t ts ih => simp only [List.cons_append, hgL, ih]; omega
/-- the next level -/
def lvl (ts : List Nd) : List Nd := ts.flatMap Nd.sub
theorem nd_sub (t : Nd) : ndT t = ndL t.sub + 1 := by cases t; simp only [ndT, Nd.sub]
theorem hg_sub (t : Nd) : hgT t = hgL t.sub + 1 := by cases t; simp only [hgT, Nd.sub]
theorem lvl_nd (ts : List Nd) : ndL (lvl ts) ≤ ndL ts := by
  unfold lvl
  induction ts with
  | nil => simp
  | cons t ts ih => rw [List.flatMap_cons, ndL_append]; simp only [ndL]; rw [nd_sub t]; omega
theorem lvl_hg (ts : List Nd) (h : ts ≠ []) : hgL ts = hgL (lvl ts) + 1 := by
  unfold lvl
  induction ts with
  | nil => exact absurd rfl h
  | cons t ts ih =>
    rw [List.flatMap_cons, hgL_append]; simp only [hgL]; rw [hg_sub t]
    by_cases he : ts = []
    · subst he; simp [hgL]
    · rw [ih he]; omega
theorem lvl_take (ts : List Nd) (k : Nat) (h : k < ts.length) : lvl (ts.take (k + 1)) = lvl (ts.take k) ++ ts[k].sub := by
  unfold lvl; rw [List.take_succ_eq_append_getElem h]; simp only [List.flatMap_append, List.flatMap_cons, List.flatMap_nil, List.append_nil]
theorem ndL_take (ts : List Nd) (k : Nat) : ndL (ts.take k) ≤ ndL ts := by
  have := ndL_append (ts.take k) (ts.drop k)
  rw [List.take_append_drop] at this; omega
mutual
/-- a node, told anew, while there are nodes left -/
def budT : Nd → Int → Nd × Int
  | .mk k a s n sub, l => (.mk k a s n (budL sub (l - 1)).1, (budL sub (l - 1)).2)
def budL : List Nd → Int → List Nd × Int
  | [], l => ([], l)
  | t :: ts, l => if -9000 < l then ((budT t l).1 :: (budL ts (budT t l).2).1, (budL ts (budT t l).2).2) else ([], l)
end
theorem bud_facts : ∀ (t : Nd) (l : Int), (budT t l).2 ≤ l - 1 ∧ l - ndT t ≤ (budT t l).2 ∧ (-9000 < (budT t l).2 → (budT t l).1 = t ∧ (budT t l).2 = l - ndT t) := by
  refine Nd.ind ?_
  intro k aa ss n sub ih l
  have : ∀ (ls : List Nd), (∀ s ∈ ls, ∀ (l : Int), (budT s l).2 ≤ l - 1 ∧ l - ndT s ≤ (budT s l).2 ∧ (-9000 < (budT s l).2 → (budT s l).1 = s ∧ (budT s l).2 = l - ndT s)) → ∀ l : Int, (budL ls l).2 ≤ l ∧ l - ndL ls ≤ (budL ls l).2 ∧ (-9000 < (budL ls l).2 → (budL ls l).1 = ls ∧ (budL ls l).2 = l - ndL ls) := by
    intro ls
    induction ls with
    | nil => intro _ l; simp only [budL, ndL]; exact ⟨by omega, by omega, fun _ => ⟨trivial, by omega⟩⟩
    | cons t ts iht =>
      intro hl l
      simp only [budL, ndL]
      by_cases h9 : -9000 < l
      · rw [if_pos h9]
        obtain ⟨h1, h2, h3⟩ := hl t (by simp) l
        obtain ⟨h4, h5, h6⟩ := iht (fun s hs => hl s (by simp [hs])) (budT t l).2
        refine ⟨by simp only; omega, by simp only; omega, fun h => ?_⟩
        simp only at h ⊢
        obtain ⟨h7, h8⟩ := h6 h
        obtain ⟨h10, h11⟩ := h3 (by omega)
        exact ⟨by rw [h10, h7], by omega⟩
      · rw [if_neg h9]
        refine ⟨by simp only; omega, by simp only; omega, fun h => ?_⟩
        simp only at h
        exact absurd h h9
  obtain ⟨h1, h2, h3⟩ := this sub ih (l - 1)
  simp only [budT, ndT]
  refine ⟨by omega, by omega, fun h => ?_⟩
  obtain ⟨h4, h5⟩ := h3 h
  exact ⟨by rw [h4], by omega⟩
theorem budL_len : ∀ (ls : List Nd) (l : Int), (budL ls l).1.length ≤ ls.length
  | [], l => by simp [budL]
  | t :: ts, l => by
    have := budL_len ts (budT t l).2
    simp only [budL]
    split
    · simp only [List.length_cons]; omega
    · simp
/-- the document's node; false: it is very great -/
def okN (t : Nd) : Bool := decide (-8900 < (budT t 1000).2)
theorem ok_same {t : Nd} (h : okN t = true) : (budT t 1000).1 = t ∧ ndT t ≤ 9900 := by
  have h1 := of_decide_eq_true h
  obtain ⟨h2, h3, h4⟩ := bud_facts t 1000
  obtain ⟨h5, h6⟩ := h4 (by omega)
  exact ⟨h5, by omega⟩
theorem ok_big {t : Nd} (h : okN t = false) : sizeT t = 8193 ∧ depthT t = 129 := by
  have h1 := of_decide_eq_false h
  obtain ⟨h2, h3, h4⟩ := bud_facts t 1000
  have h5 := sz_nd t 0 (by omega) (by omega)
  have h6 : sizeT t = 8193 := by unfold sizeT; omega
  exact ⟨h6, by unfold depthT; rw [h6]; rfl⟩
end Go.Proofs.Ytffgfjnbgplckaa
