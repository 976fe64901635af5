import Derived.Test.YtapbjjjlilfmdaaN14
namespace Go.Proofs.Ytapbjjjlilfmdaa
open Go.RowKit Go.WideMaps
theorem decL_pos (n : Nat) : 1 ≤ (decL n).length := by
  by_cases h : n < 10
  · rw [decL_small n h]; simp
  · rw [decL_step n h]; simp
theorem decL_mem : ∀ (n : Nat) (x : Int), x ∈ decL n → 48 ≤ x ∧ x ≤ 57 := by
  intro n
  induction n using Nat.strongRecOn with
  | ind n ih =>
    intro x hx
    by_cases h : n < 10
    · rw [decL_small n h] at hx; simp at hx; omega
    · rw [decL_step n h, List.mem_append] at hx
      rcases hx with hx | hx
      · exact ih (n / 10) (by omega) x hx
      · simp at hx; omega
theorem decL_inj : ∀ (a b : Nat), decL a = decL b → a = b := by
  intro a
  induction a using Nat.strongRecOn with
  | ind a ih =>
    intro b h
    by_cases ha : a < 10
    · by_cases hb : b < 10
      · rw [decL_small a ha, decL_small b hb] at h
        simp at h
        omega
      · rw [decL_small a ha, decL_step b hb] at h
        have h1 := congrArg List.length h
        have h2 := decL_pos (b / 10)
        rw [List.length_append, List.length_singleton, List.length_singleton] at h1
        omega
    · by_cases hb : b < 10
      · rw [decL_step a ha, decL_small b hb] at h
        have h1 := congrArg List.length h
        have h2 := decL_pos (a / 10)
        rw [List.length_append, List.length_singleton, List.length_singleton] at h1
        omega
      · rw [decL_step a ha, decL_step b hb] at h
        obtain ⟨h1, h2⟩ := List.append_inj' h rfl
        have := ih (a / 10) (by omega) (b / 10) h1
        simp at h2
        omega
theorem toNat_inj : ∀ (l m : List Int), (∀ x ∈ l, 0 ≤ x) → (∀ x ∈ m, 0 ≤ x) → l.map Int.toNat = m.map Int.toNat → l = m := by
  intro l
  induction l with
  | nil => intro m _ _ h; cases m with
    | nil => rfl
    | cons y ys => simp at h
  | cons x xs ih =>
    intro m hl hm h
    cases m with
    | nil => simp at h
    | cons y ys =>
      simp only [List.map_cons, List.cons.injEq] at h
      have h1 := hl x (by simp)
      have h2 := hm y (by simp)
      rw [ih ys (fun z hz => hl z (by simp [hz])) (fun z hz => hm z (by simp [hz])) h.2]
      congr 1
      omega
theorem dec_nats (n : Nat) : nats (decS n) = (decL n).map Int.toNat := by
  unfold decS
  apply nats_of
  intro c hc
  obtain ⟨x, hx, rfl⟩ := List.mem_map.1 hc
  have := decL_mem n x hx
  omega
theorem decS_inj (a b : Nat) (h : decS a = decS b) : a = b := by
  apply decL_inj
  apply toNat_inj
  · intro x hx; have := decL_mem a x hx; omega
  · intro x hx; have := decL_mem b x hx; omega
  · rw [← dec_nats, ← dec_nats, h]
theorem app_cancel (p a b : ByteArray) (h : p ++ a = p ++ b) : a = b := by
  have h1 := congrArg (fun x => x.data.toList) h
  simp at h1
  exact ByteArray.ext h1
theorem numS_inj (s : ByteArray) (a b : Nat) (hs : (decS a).size = (decS b).size) (h : numS s a = numS s b) : a = b := by
  unfold numS at h
  rw [hs] at h
  exact decS_inj a b (app_cancel _ _ _ h)
theorem dec_size (n : Nat) : (decS n).size = (decL n).length := strOfNums_size _
theorem dec_size1 (n : Nat) (h : n < 10) : (decS n).size = 1 := by rw [dec_size, decL_small n h]; rfl
theorem dec_size2 (n : Nat) (h : 10 ≤ n) (h' : n < 100) : (decS n).size = 2 := by
  rw [dec_size, decL_step n (by omega), decL_small (n / 10) (by omega)]; rfl
theorem dec_size3 (n : Nat) (h : 100 ≤ n) (h' : n < 1000) : (decS n).size = 3 := by
  rw [dec_size, decL_step n (by omega), List.length_append, ← dec_size, dec_size2 (n / 10) (by omega) (by omega)]; rfl
theorem pigeon {α : Type} [DecidableEq α] : ∀ (xs l : List α), xs.Pairwise (· ≠ ·) → (∀ x ∈ xs, x ∈ l) → xs.length ≤ l.length := by
  intro xs
  induction xs with
  | nil => intro l _ _; simp
  | cons x xs ih =>
    intro l hp hm
    rw [List.pairwise_cons] at hp
    have hx := hm x (by simp)
    have h1 := ih (l.erase x) hp.2 (fun y hy => by
      have hne : y ≠ x := fun e => hp.1 y hy e.symm
      exact (List.mem_erase_of_ne hne).2 (hm y (by simp [hy])))
    rw [List.length_erase_of_mem hx] at h1
    have : 0 < l.length := List.length_pos_of_mem hx
    simp
    omega
theorem cnt_mem (l : List ByteArray) (s : ByteArray) (h : cnt l s ≠ 0) : s ∈ l := by
  unfold cnt at h
  have h0 : 0 < (l.filter (fun x => x.toList == s.toList)).length := by omega
  obtain ⟨x, hx⟩ := List.exists_mem_of_length_pos h0
  obtain ⟨hm, he⟩ := List.mem_filter.1 hx
  have : x = s := by
    apply ByteArray.ext
    have := beq_iff_eq.1 he
    rw [ByteArray.toList_eq, ByteArray.toList_eq] at this
    exact Array.toList_inj.mp this
  rw [← this]; exact hm
theorem least (p : Nat → Prop) (n : Nat) (h : p n) : ∃ N, N ≤ n ∧ p N ∧ ∀ m, m < N → ¬ p m := by
  induction n using Nat.strongRecOn with
  | ind n ih =>
    by_cases hm : ∃ m, m < n ∧ p m
    · obtain ⟨m, h1, h2⟩ := hm
      obtain ⟨N, h3, h4⟩ := ih m h1 h2
      exact ⟨N, by omega, h4⟩
    · exact ⟨n, Nat.le_refl _, h, fun m h1 h2 => hm ⟨m, h1, h2⟩⟩
theorem free_some (s : ByteArray) (l : List ByteArray) (hl : l.length ≤ 300) : ∃ n, 1 ≤ n ∧ n ≤ 20 * l.length + 40 ∧ cnt l (numS s n) = 0 := by
  obtain ⟨a, ha1, ha2, hsz⟩ : ∃ a, 1 ≤ a ∧ a + l.length ≤ 20 * l.length + 40 ∧ ∀ i j, i ≤ l.length → j ≤ l.length → (decS (a + i)).size = (decS (a + j)).size := by
    by_cases h9 : l.length < 9
    · exact ⟨1, by omega, by omega, fun i j hi hj => by rw [dec_size1 _ (by omega), dec_size1 _ (by omega)]⟩
    · by_cases h90 : l.length < 90
      · exact ⟨10, by omega, by omega, fun i j hi hj => by rw [dec_size2 _ (by omega) (by omega), dec_size2 _ (by omega) (by omega)]⟩
      · exact ⟨100, by omega, by omega, fun i j hi hj => by rw [dec_size3 _ (by omega) (by omega), dec_size3 _ (by omega) (by omega)]⟩
  apply Classical.byContradiction
  intro hno
  have hin : ∀ i, i ≤ l.length → numS s (a + i) ∈ l := by
    intro i hi
    apply cnt_mem
    intro h0
    exact hno ⟨a + i, by omega, by omega, h0⟩
  have := pigeon ((List.range (l.length + 1)).map (fun i => numS s (a + i))) l (by
    rw [List.pairwise_map]
    refine List.Pairwise.imp_of_mem ?_ List.pairwise_lt_range
    intro i j hi hj hij he
    rw [List.mem_range] at hi hj
    have := numS_inj s _ _ (hsz i j (by omega) (by omega)) he
    omega) (by
    intro x hx
    obtain ⟨i, hi, rfl⟩ := List.mem_map.1 hx
    rw [List.mem_range] at hi
    exact hin i (by omega))
  simp at this
  omega
theorem fresh_N (s : ByteArray) (l : List ByteArray) (hl : l.length ≤ 300) : ∃ N, 1 ≤ N ∧ N ≤ 20 * l.length + 40 ∧ cnt l (numS s N) = 0 ∧ ∀ n, 1 ≤ n → n < N → cnt l (numS s n) ≠ 0 := by
  obtain ⟨n, h1, h2, h3⟩ := free_some s l hl
  obtain ⟨N, hN, ⟨h4, h5⟩, h6⟩ := least (fun n => 1 ≤ n ∧ cnt l (numS s n) = 0) n ⟨h1, h3⟩
  exact ⟨N, h4, by omega, h5, fun m hm1 hm2 h0 => h6 m hm2 ⟨hm1, h0⟩⟩
end Go.Proofs.Ytapbjjjlilfmdaa
