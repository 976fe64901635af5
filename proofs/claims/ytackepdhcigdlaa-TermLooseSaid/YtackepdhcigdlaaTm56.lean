import Derived.Test.YtackepdhcigdlaaTm54
import Derived.Lib.SlicesCompact
namespace Go.Proofs.Ytackepdhcigdlaa
open Go Go.Lib
theorem asc_ext : ∀ (l m : List Int), l.Pairwise (· < ·) → m.Pairwise (· < ·) → (∀ y, y ∈ l ↔ y ∈ m) → l = m
  | [], [], _, _, _ => rfl
  | [], y :: m, _, _, h => absurd ((h y).2 (by simp)) (by simp)
  | x :: l, [], _, _, h => absurd ((h x).1 (by simp)) (by simp)
  | x :: l, y :: m, hl, hm, h => by
    rw [List.pairwise_cons] at hl hm
    have hxy : x = y := by
      have h1 := (h x).1 (by simp)
      have h2 := (h y).2 (by simp)
      simp only [List.mem_cons] at h1 h2
      rcases h1 with h1 | h1
      · exact h1
      · rcases h2 with h2 | h2
        · exact h2.symm
        · have h3 := hm.1 x h1; have h4 := hl.1 y h2; omega
    subst hxy
    congr 1
    refine asc_ext l m hl.2 hm.2 fun z => ?_
    have hz := h z
    simp only [List.mem_cons] at hz
    constructor
    · intro hzl
      have h3 := hl.1 z hzl
      rcases hz.1 (.inr hzl) with h | h
      · omega
      · exact h
    · intro hzl
      have h3 := hm.1 z hzl
      rcases hz.2 (.inr hzl) with h | h
      · omega
      · exact h
theorem compact_inv (d : Array Int) (hd : ∀ i, i + 1 < d.size → d[i]! ≤ d[i + 1]!) : ∀ m, m ≤ d.size →
    (compactUpTo d m).Pairwise (· < ·) ∧ (∀ y, y ∈ compactUpTo d m ↔ ∃ j, j < m ∧ y = d[j]!) ∧ ∀ y ∈ compactUpTo d m, 0 < m ∧ y ≤ d[m - 1]!
  | 0, _ => by
    have e : compactUpTo d 0 = [] := by simp [compactUpTo]
    rw [e]
    refine ⟨List.Pairwise.nil, fun y => ⟨fun h => (by simp at h), ?_⟩, fun y h => (by simp at h)⟩
    rintro ⟨j, hj, _⟩; omega
  | m + 1, hm => by
    obtain ⟨h1, h2, h3⟩ := compact_inv d hd m (by omega)
    rw [compactUpTo_succ]
    by_cases hk : keeps d m = true
    · rw [if_pos hk]
      have hlt : ∀ y ∈ compactUpTo d m, y < d[m]! := by
        intro y hy
        obtain ⟨hm0, hle⟩ := h3 y hy
        have h4 := hd (m - 1) (by omega)
        rw [show m - 1 + 1 = m by omega] at h4
        unfold keeps at hk
        rw [decide_eq_true_iff] at hk
        rcases hk with hk | hk
        · omega
        · have h5 : d[m]! ≠ d[m - 1]! := hk
          omega
      refine ⟨?_, ?_, ?_⟩
      · rw [List.pairwise_append]
        refine ⟨h1, List.pairwise_singleton _ _, ?_⟩
        intro a ha b hb
        simp at hb
        rw [hb]; simpa using hlt a ha
      · intro y
        rw [List.mem_append, h2 y]
        simp only [List.mem_singleton]
        constructor
        · rintro (⟨j, hj, e⟩ | e)
          · exact ⟨j, by omega, e⟩
          · exact ⟨m, by omega, e⟩
        · rintro ⟨j, hj, e⟩
          by_cases hjm : j = m
          · subst hjm; exact .inr e
          · exact .inl ⟨j, by omega, e⟩
      · intro y hy
        rw [List.mem_append] at hy
        refine ⟨by omega, ?_⟩
        simp only [Nat.add_sub_cancel]
        rcases hy with hy | hy
        · have := hlt y hy; omega
        · simp at hy; rw [hy]; simp
    · rw [if_neg hk, List.append_nil]
      have hk' : m ≠ 0 ∧ d[m]! = d[m - 1]! := by
        unfold keeps at hk
        rw [decide_eq_true_iff] at hk
        constructor
        · exact fun e => hk (.inl e)
        · exact Classical.byContradiction fun e => hk (.inr e)
      refine ⟨h1, ?_, ?_⟩
      · intro y
        rw [h2 y]
        constructor
        · rintro ⟨j, hj, e⟩; exact ⟨j, by omega, e⟩
        · rintro ⟨j, hj, e⟩
          by_cases hjm : j = m
          · subst hjm; exact ⟨j - 1, by omega, by rw [e, hk'.2]⟩
          · exact ⟨j, by omega, e⟩
      · intro y hy
        obtain ⟨_, h4⟩ := h3 y hy
        refine ⟨by omega, ?_⟩
        simp only [Nat.add_sub_cancel]
        rw [hk'.2]; exact h4
/-- the elements, rising, each once -/
theorem rise_asc (l : List Int) : (compact (l.mergeSort fun x y => decide (x ≤ y))).Pairwise (· < ·) ∧ ∀ y, y ∈ compact (l.mergeSort fun x y => decide (x ≤ y)) ↔ y ∈ l := by
  have hs := List.pairwise_mergeSort (le := fun x y : Int => decide (x ≤ y)) (by intro a b c h1 h2; simp at *; omega) (by intro a b; simp; omega) l
  generalize hS : l.mergeSort (fun x y => decide (x ≤ y)) = S at *
  have hmem : ∀ y, y ∈ S ↔ y ∈ l := fun y => by rw [← hS]; exact List.mem_mergeSort
  have hd : ∀ i, i + 1 < S.toArray.size → S.toArray[i]! ≤ S.toArray[i + 1]! := by
    intro i hi
    have hi' : i + 1 < S.length := by simpa using hi
    rw [List.pairwise_iff_getElem] at hs
    have := hs i (i + 1) (by omega) hi' (by omega)
    simp at this
    simp [getElem!_pos, hi', show i < S.length by omega]
    exact this
  obtain ⟨h1, h2, -⟩ := compact_inv S.toArray hd S.length (by simp)
  refine ⟨h1, fun y => ?_⟩
  show y ∈ compactUpTo _ _ ↔ _
  rw [h2 y, ← hmem y, List.mem_iff_getElem]
  constructor
  · rintro ⟨j, hj, e⟩
    exact ⟨j, hj, by rw [e]; simp [hj]⟩
  · rintro ⟨j, hj, e⟩
    exact ⟨j, hj, by rw [← e]; simp [hj]⟩
theorem putL_asc (n : Int) : ∀ l : List Int, l.Pairwise (· < ·) → (putL l n).Pairwise (· < ·)
  | [], _ => List.pairwise_singleton _ _
  | x :: xs, h => by
    rw [List.pairwise_cons] at h
    simp only [putL]
    split
    · rename_i hx
      rw [List.pairwise_cons]
      refine ⟨fun y hy => ?_, putL_asc n xs h.2⟩
      rw [putL_mem] at hy
      rcases hy with rfl | hy
      · exact hx
      · exact h.1 y hy
    · split
      · rename_i hx
        rw [List.pairwise_cons]
        refine ⟨fun y hy => ?_, List.pairwise_cons.2 h⟩
        cases hy with
        | head => exact hx
        | tail _ hy => have := h.1 y hy; omega
      · exact List.pairwise_cons.2 h
theorem fold_asc : ∀ (l out : List Int), out.Pairwise (· < ·) → (l.foldl putL out).Pairwise (· < ·)
  | [], _, h => h
  | x :: xs, out, h => fold_asc xs (putL out x) (putL_asc x out h)
mutual
/-- the numbers of all nodes of two kinds -/
def clT (a b : Int) : Tm → List Int
  | .mk k n sub => (if k = a ∨ k = b then [n] else []) ++ clS a b sub
def clS (a b : Int) : List Tm → List Int
  | [] => []
  | t :: ts => clT a b t ++ clS a b ts
end
theorem clS_append (a b : Int) : ∀ l m : List Tm, clS a b (l ++ m) = clS a b l ++ clS a b m
  | [], _ => rfl
  | t :: l, m => by simp only [List.cons_append, clS, clS_append a b l m, List.append_assoc]
theorem cl_len (a b : Int) : ∀ t : Tm, (clT a b t).length ≤ ndT t := by
  refine Tm.ind ?_
  intro k n sub ih
  have : ∀ (l : List Tm), (∀ s ∈ l, (clT a b s).length ≤ ndT s) → (clS a b l).length ≤ ndL l := by
    intro l
    induction l with
    | nil => intro _; simp [clS, ndL]
    | cons t ts iht =>
      intro hl
      have h1 := iht (fun s hs => hl s (by simp [hs]))
      have h3 := hl t (by simp)
      simp only [clS, ndL, List.length_append]
      omega
  have h := this sub ih
  have h2 : (if k = a ∨ k = b then [n] else []).length ≤ 1 := by split <;> simp
  simp only [clT, ndT, List.length_append]
  omega
theorem nm_cl (a b y : Int) : ∀ t : Tm, (y ∈ nmT a b t ↔ y ∈ clT a b t) := by
  refine Tm.ind ?_
  intro k n sub ih
  have : ∀ (l : List Tm), (∀ s ∈ l, (y ∈ nmT a b s ↔ y ∈ clT a b s)) → ∀ out, (y ∈ nmS a b l out ↔ y ∈ out ∨ y ∈ clS a b l) := by
    intro l
    induction l with
    | nil => intro _ out; simp [nmS, clS]
    | cons t ts iht =>
      intro hl out
      simp only [nmS, clS, List.mem_append]
      rw [iht (fun s hs => hl s (by simp [hs])), fold_mem, hl t (by simp)]
      exact or_assoc
  simp only [nmT, clT, List.mem_append]
  exact this sub ih _
theorem nm_asc (a b : Int) : ∀ t : Tm, (nmT a b t).Pairwise (· < ·)
  | .mk k n sub => by
    have : ∀ (l : List Tm) (out : List Int), out.Pairwise (· < ·) → (nmS a b l out).Pairwise (· < ·) := by
      intro l
      induction l with
      | nil => intro out h; simpa only [nmS] using h
      | cons t ts iht => intro out h; simp only [nmS]; exact iht _ (fold_asc _ _ h)
    simp only [nmT]
    refine this sub _ ?_
    split
    · exact List.pairwise_singleton _ _
    · exact List.Pairwise.nil
/-- the program's numbers are the document's -/
theorem rise_nm (a b : Int) (t : Tm) : compact ((clT a b t).mergeSort fun x y => decide (x ≤ y)) = nmT a b t := by
  obtain ⟨h1, h2⟩ := rise_asc (clT a b t)
  exact asc_ext _ _ h1 (nm_asc a b t) fun y => by rw [h2 y, nm_cl]
end Go.Proofs.Ytackepdhcigdlaa
