import Derived.Test.YtffgfjnbgplckaaUtf12
namespace Go.Proofs.Ytffgfjnbgplckaa
open Go.RowKit
/-- what the signs' bytes are, as numbers -/
def joinN (l : List Int) : List Nat := l.flatMap encN
theorem joinN_eq (l : List Int) : joinN l = (joinB l).map Int.toNat := by
  unfold joinN joinB encN; rw [List.map_flatMap]
theorem joinN_lt (l : List Int) (h : l.all right = true) : ∀ c ∈ joinN l, c < 256 := by
  intro c hc
  obtain ⟨n, hn, hcn⟩ := List.mem_flatMap.1 hc
  exact encN_lt n (List.all_eq_true.1 h n hn) c hcn
theorem nats_join (l : List Int) (h : l.all right = true) : nats (strOfNums (joinB l)) = joinN l := by
  rw [joinN_eq]; exact nats_of _ (by rw [← joinN_eq]; exact joinN_lt l h)
theorem joinN_length (l : List Int) : (joinN l).length = (joinB l).length := by rw [joinN_eq, List.length_map]
theorem all_signs (s : ByteArray) : ∀ (f k : Nat), k ≤ s.size → s.size ≤ k + f → (allF s f k).2.2 = true → (allF s f k).1.all right = true ∧ (nats s).drop k = joinN (allF s f k).1 := by
  intro f
  induction f with
  | zero =>
    intro k hk hf _
    rw [allF]
    exact ⟨rfl, by rw [List.drop_of_length_le (by rw [nats_length]; omega)]; rfl⟩
  | succ f ih =>
    intro k hk hf h
    by_cases hlt : k < s.size
    · rw [allF, if_pos hlt] at h ⊢
      cases hd : decAt s k with
      | none => rw [hd] at h; simp at h
      | some x =>
        rw [hd] at h
        have hbd := decAt_bd s k hlt x hd
        have h2 := hd
        rw [decAt_of s k hlt] at h2
        obtain ⟨hr, hw, r, hl⟩ := dec_some _ _ _ h2
        obtain ⟨h3, h4⟩ := ih (k + x.2.toNat) (by omega) (by omega) h
        refine ⟨by simp only [List.all_cons, hr, h3]; rfl, ?_⟩
        have hlen := encN_length x.1 hr
        have he : (encN x.1).length = x.2.toNat := by omega
        show (nats s).drop k = encN x.1 ++ joinN _
        rw [← h4, hl, ← List.drop_drop, hl, ← he, List.drop_left]
    · rw [allF_end s _ k (by omega)]
      exact ⟨rfl, by rw [List.drop_of_length_le (by rw [nats_length]; omega)]; rfl⟩
theorem join_signs (s : ByteArray) : ∀ (l : List Int) (f k : Nat), l.all right = true → (nats s).drop k = joinN l → s.size ≤ k + f → (allF s f k).1 = l ∧ (allF s f k).2.2 = true := by
  intro l
  induction l with
  | nil =>
    intro f k _ hk hf
    have : s.size ≤ k := by
      have := congrArg List.length hk
      rw [List.length_drop, nats_length] at this; simp [joinN] at this; omega
    rw [allF_end s f k this]; exact ⟨rfl, rfl⟩
  | cons n l ih =>
    intro f k hr hk hf
    simp only [List.all_cons, Bool.and_eq_true] at hr
    have hlen := encN_length n hr.1
    have hw := width_le n
    have hlt : k < s.size := by
      have := congrArg List.length hk
      rw [List.length_drop, nats_length] at this
      simp only [joinN, List.flatMap_cons, List.length_append] at this; omega
    have hd : decAt s k = some (n, width n) := by
      rw [decAt_of s k hlt, hk]; exact dec_enc n hr.1 (joinN l)
    cases f with
    | zero => omega
    | succ f =>
      rw [allF, if_pos hlt, hd]
      have h2 : (nats s).drop (k + (width n).toNat) = joinN l := by
        rw [← List.drop_drop, hk]
        show (encN n ++ joinN l).drop _ = _
        rw [show (width n).toNat = (encN n).length by omega, List.drop_left]
      obtain ⟨h3, h4⟩ := ih f (k + (width n).toNat) hr.2 h2 (by omega)
      exact ⟨by show n :: _ = _; rw [h3], h4⟩
theorem back_text (s : ByteArray) (h : allE s = 0) : joinE (allS s) = 0 ∧ joinS (allS s) = s := by
  unfold allE at h
  by_cases hl : 65535 < s.size
  · rw [if_pos hl] at h; omega
  rw [if_neg hl] at h
  by_cases hb : (allA s).2.2 = true
  · have hS : allS s = (allA s).1 := by unfold allS; rw [if_neg hl, if_pos hb]
    obtain ⟨hr, hn⟩ := all_signs s s.size 0 (Nat.zero_le _) (by omega) hb
    rw [← show allA s = allF s s.size 0 from rfl, ← hS] at hr hn
    have hlen : (joinB (allS s)).length = s.size := by rw [← joinN_length, ← hn, List.length_drop, nats_length]; omega
    have hE : joinE (allS s) = 0 := by unfold joinE; rw [if_pos hr, if_neg (by omega)]
    refine ⟨hE, ?_⟩
    unfold joinS; rw [if_pos hE]
    refine nats_inj ?_
    rw [nats_join _ hr, ← hn]; rfl
  · rw [if_neg hb] at h; omega
theorem back_signs (l : List Int) (h : joinE l = 0) : allE (joinS l) = 0 ∧ allS (joinS l) = l := by
  have hS : joinS l = strOfNums (joinB l) := if_pos h
  unfold joinE at h
  by_cases hr : l.all right = true
  · rw [if_pos hr] at h
    by_cases hb : 65535 < (joinB l).length
    · rw [if_pos hb] at h; omega
    have hsz : ¬ 65535 < (joinS l).size := by rw [hS, strOfNums_size]; exact hb
    obtain ⟨h1, h2⟩ := join_signs (joinS l) l (joinS l).size 0 hr (by rw [hS, nats_join l hr]; rfl) (by omega)
    have h2' : (allA (joinS l)).2.2 = true := h2
    have h1' : (allA (joinS l)).1 = l := h1
    exact ⟨by unfold allE; rw [if_neg hsz, if_pos h2'], by unfold allS; rw [if_neg hsz, if_pos h2', h1']⟩
  · rw [if_neg hr] at h; omega
theorem joinE_cases (l : List Int) : joinE l = 0 ∨ joinE l = 2 ∨ joinE l = 16 := by
  unfold joinE; (repeat' split) <;> decide
end Go.Proofs.Ytffgfjnbgplckaa
