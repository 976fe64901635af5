import Derived.Test.YtapbjjjlilfmdaaN15
namespace Go.Proofs.Ytapbjjjlilfmdaa
open Go.RowKit Go.WideMaps
theorem stem_take (s : ByteArray) (L : List Int) : ∀ (n k : Nat), n ≤ s.size → L.all right = true → (nats s).take n = joinN (L.take k) → ∃ k', (nats s).take (stemN s n) = joinN (L.take k') := by
  intro n
  induction n with
  | zero => intro k _ hr h; exact ⟨k, h⟩
  | succ n ih =>
    intro k hn hr h
    simp only [stemN]
    split
    · rename_i hd
      rw [take_snoc_nb s n (by omega)] at h
      rcases nil_or_snoc (L.take k) with he | ⟨m, x, he⟩
      · rw [he] at h; simp [joinN] at h
      · have hrk : (L.take k).all right = true := by
          rw [List.all_eq_true] at hr ⊢
          exact fun y hy => hr y (List.mem_of_mem_take hy)
        rw [he, List.all_append, Bool.and_eq_true] at hrk
        have hx : right x = true := by simpa using hrk.2
        have hm : m = L.take m.length := by
          have h1 : m = (L.take k).take m.length := by rw [he]; simp
          rw [List.take_take] at h1
          have h2 : m.length ≤ k := by
            have := congrArg List.length he
            rw [List.length_take, List.length_append] at this
            simp at this
            omega
          rw [Nat.min_eq_left h2] at h1
          exact h1
        have hj : joinN (m ++ [x]) = joinN m ++ encN x := by simp [joinN]
        rw [he, hj] at h
        rcases nil_or_snoc (encN x) with hn0 | ⟨r, c, hrc⟩
        · have h1 := encN_length x hx
          have h2 := width_le x
          rw [hn0] at h1
          simp at h1
          omega
        · rw [hrc, ← List.append_assoc] at h
          obtain ⟨h1, h2⟩ := List.append_inj' h rfl
          simp at h2
          have hr0 := encN_last x hx r c hrc (by rw [← h2]; exact hd)
          rw [hr0, List.append_nil, hm] at h1
          exact ih m.length (by omega) hr h1
    · exact ⟨k, h⟩
theorem signs_of (s : ByteArray) (hE : allE s = 0) (h40 : s.size ≤ 40) : (allS s).all right = true ∧ nats s = joinN (allS s) := by
  have hA : (allA s).2.2 = true := by
    unfold allE at hE
    rw [if_neg (by omega)] at hE
    split at hE
    · assumption
    · omega
  obtain ⟨h1, h2⟩ := all_signs s s.size 0 (Nat.zero_le _) (by omega) hA
  have e : allS s = (allF s s.size 0).1 := by
    unfold allS
    rw [if_neg (by omega), if_pos hA]; rfl
  rw [e]
  exact ⟨h1, by simpa using h2⟩
/-- the signs of a stem are the first signs of its text -/
theorem stem_signs (s : ByteArray) (hE : allE s = 0) (h40 : s.size ≤ 40) : ∃ k, allS (stemS s) = (allS s).take k ∧ nats (stemS s) = joinN ((allS s).take k) ∧ (nats s).take (stemN s s.size) = joinN ((allS s).take k) := by
  obtain ⟨h1, h2⟩ := signs_of s hE h40
  obtain ⟨k, hk⟩ := stem_take s (allS s) s.size (allS s).length (Nat.le_refl _) h1 (by rw [List.take_of_length_le (by rw [nats_length]; exact Nat.le_refl _), List.take_length]; exact h2)
  have hr : ((allS s).take k).all right = true := by
    rw [List.all_eq_true] at h1 ⊢
    exact fun y hy => h1 y (List.mem_of_mem_take hy)
  have hn : nats (stemS s) = joinN ((allS s).take k) := by
    have := nats_extract s 0 (stemN s s.size)
    rw [Nat.zero_add, List.drop_zero] at this
    unfold stemS
    rw [this, hk]
  have he : stemS s = strOfNums (joinB ((allS s).take k)) := nats_inj (by rw [hn, nats_join _ hr])
  have hsz : (stemS s).size ≤ 40 := (stem_ok s hE h40).2
  have hjl : (joinB ((allS s).take k)).length ≤ 40 := by rw [← strOfNums_size, ← he]; omega
  have hjE : joinE ((allS s).take k) = 0 := by unfold joinE; rw [if_pos hr, if_neg (by omega)]
  have := (back_signs _ hjE).2
  rw [joinS, if_pos hjE, ← he] at this
  exact ⟨k, this, hn, hk⟩
theorem stemN_zero (s : ByteArray) : ∀ n, 0 < n → stemN s n = 0 → digitB (nb s 0) = true := by
  intro n
  induction n with
  | zero => intro h; omega
  | succ n ih =>
    intro _ h
    simp only [stemN] at h
    split at h
    · rename_i hd
      by_cases h0 : n = 0
      · subst h0; exact hd
      · exact ih (by omega) h
    · omega
theorem enc_head (x : Int) (hr : right x = true) : ∃ c r, encN x = c :: r ∧ (digitB c = true → digitB x = true) := by
  have key : ∀ c : Nat, digitB c = true → c ≤ 57 := fun c h => by have := of_decide_eq_true h; omega
  rcases ranges x hr with h1 | h1 | h1 | h1
  · unfold encN
    rw [encL1 x (by omega)]
    refine ⟨x.toNat, [], rfl, fun h => ?_⟩
    have := of_decide_eq_true h
    exact decide_eq_true (by omega)
  · unfold encN
    rw [encL2 x (by omega) (by omega)]
    exact ⟨_, _, rfl, fun h => by have := key _ h; omega⟩
  · unfold encN
    rw [encL3 x (by omega) (by omega)]
    exact ⟨_, _, rfl, fun h => by have := key _ h; omega⟩
  · unfold encN
    rw [encL4 x (by omega)]
    exact ⟨_, _, rfl, fun h => by have := key _ h; omega⟩
theorem cutN_ok (l : List Int) (d : Nat) (hd : d ≤ 40) : ∀ k, (joinB (l.take (cutN l d k))).length + d ≤ 40
  | 0 => by simp [cutN, joinB]; omega
  | k + 1 => by
    simp only [cutN]
    split
    · assumption
    · exact cutN_ok l d hd k
theorem cutN_pos (l : List Int) (d : Nat) (h : (joinB (l.take 1)).length + d ≤ 40) : ∀ k, 1 ≤ k → 1 ≤ cutN l d k := by
  intro k
  induction k with
  | zero => intro h; omega
  | succ k ih =>
    intro _
    simp only [cutN]
    split
    · omega
    · rename_i hn
      by_cases h0 : k = 0
      · subst h0; exact absurd h hn
      · exact ih (by omega)
theorem dec_right (n : Nat) : (decL n).all right = true ∧ (decL n).all innerB = true ∧ joinB (decL n) = decL n := by
  refine ⟨?_, ?_, ?_⟩
  · rw [List.all_eq_true]
    intro x hx
    have := decL_mem n x hx
    exact (right_iff x).2 (by omega)
  · rw [List.all_eq_true]
    intro x hx
    have h := decL_mem n x hx
    have : digitB x = true := decide_eq_true (by omega)
    simp [innerB, this]
  · unfold joinB
    have : ∀ l : List Int, (∀ x ∈ l, 48 ≤ x ∧ x ≤ 57) → l.flatMap encL = l := by
      intro l
      induction l with
      | nil => intro _; rfl
      | cons x xs ih =>
        intro h
        rw [List.flatMap_cons, encL1 x (by have := h x (by simp); omega), ih (fun y hy => h y (by simp [hy]))]
        rfl
    exact this _ (decL_mem n)
/-- a stem with a number behind is a name -/
theorem numS_right (s : ByteArray) (h : rightN s = true) (n : Nat) (hn : n ≤ 1000000000) : rightN (numS (stemS s) n) = true := by
  obtain ⟨hE, h40⟩ := rightN_ok s h
  have hs0 := rightN_size s h
  have hd := decS_size n hn
  obtain ⟨hR, hN⟩ := signs_of s hE h40
  obtain ⟨k, hk1, hk2, hk3⟩ := stem_signs s hE h40
  have hpar : (allS s).all innerB = true ∧ (letterB ((allS s).headD 0) || ((allS s).headD 0 == 95 && decide (1 < (allS s).length))) = true := by
    unfold rightN at h
    simp only [Bool.and_eq_true] at h
    exact ⟨h.1.2, h.2⟩
  obtain ⟨x, xs, hx⟩ : ∃ x xs, allS s = x :: xs := by
    cases hq : allS s with
    | nil => have := (allS_len s hE).1 (by rw [hq]; rfl); omega
    | cons x xs => exact ⟨x, xs, rfl⟩
  have hxr : right x = true := by rw [hx] at hR; simp at hR; exact hR.1
  have hnd : digitB x = false := by
    have h2 := hpar.2
    rw [hx] at h2
    simp only [List.headD_cons] at h2
    apply decide_eq_false
    intro hc
    have hl : letterB x = false := by
      apply decide_eq_false
      rintro (h0 | h0 | ⟨h0, _⟩) <;> omega
    rw [hl] at h2
    simp at h2
    omega
  have hk0 : k ≠ 0 := by
    intro h0
    subst h0
    have hz : stemN s s.size = 0 := by
      have h1 := congrArg List.length hk3
      rw [List.length_take, nats_length] at h1
      have h2 : (joinN ((allS s).take 0)).length = 0 := by simp [joinN]
      have := stemN_le s s.size
      omega
    have hdig := stemN_zero s s.size (by omega) hz
    obtain ⟨c, r, hc, hcd⟩ := enc_head x hxr
    have hnb : nb s 0 = c := by
      unfold nb
      rw [hN, hx]
      simp [joinN, hc]
    rw [hnb] at hdig
    rw [hcd hdig] at hnd
    cases hnd
  -- the signs of the new name
  obtain ⟨c, hc⟩ : ∃ c, c = cutN (allS (stemS s)) (decS n).size (allS (stemS s)).length := ⟨_, rfl⟩
  have hlen1 : 1 ≤ (allS (stemS s)).length := by rw [hk1, hx, List.length_take]; simp; omega
  have hcp : 1 ≤ c := by
    rw [hc]
    refine cutN_pos _ _ ?_ _ hlen1
    have : (allS (stemS s)).take 1 = [x] := by
      rw [hk1, hx]
      obtain ⟨k', rfl⟩ : ∃ k', k = k' + 1 := ⟨k - 1, by omega⟩
      simp
    rw [this]
    have := (encL_len x).2
    simp [joinB]
    omega
  have hcok := cutN_ok (allS (stemS s)) (decS n).size (by omega) (allS (stemS s)).length
  rw [← hc] at hcok
  obtain ⟨l, hl⟩ : ∃ l, l = (allS (stemS s)).take c ++ decL n := ⟨_, rfl⟩
  have hnum : numS (stemS s) n = strOfNums (joinB l) := by
    unfold numS
    rw [← hc, decS, strOfNums_app, hl]
    congr 1
    unfold joinB
    rw [List.flatMap_append]
    congr 1
    exact (dec_right n).2.2.symm
  have hsub : ∀ y ∈ (allS (stemS s)).take c, y ∈ allS s := fun y hy => by
    have h1 := List.mem_of_mem_take hy
    rw [hk1] at h1
    exact List.mem_of_mem_take h1
  have hlr : l.all right = true := by
    rw [hl, List.all_append, (dec_right n).1, Bool.and_true, List.all_eq_true]
    rw [List.all_eq_true] at hR
    exact fun y hy => hR y (hsub y hy)
  have hli : l.all innerB = true := by
    rw [hl, List.all_append, (dec_right n).2.1, Bool.and_true, List.all_eq_true]
    have := hpar.1
    rw [List.all_eq_true] at this
    exact fun y hy => this y (hsub y hy)
  have hjl : (joinB l).length = (joinB ((allS (stemS s)).take c)).length + (decS n).size := by
    rw [hl, dec_size]
    unfold joinB
    rw [List.flatMap_append, List.length_append]
    congr 1
    rw [show (decL n).flatMap encL = decL n from (dec_right n).2.2]
  have hjE : joinE l = 0 := by unfold joinE; rw [if_pos hlr, if_neg (by omega)]
  obtain ⟨hE2, hS2⟩ := back_signs l hjE
  rw [joinS, if_pos hjE, ← hnum] at hE2 hS2
  have hsz : (numS (stemS s) n).size = (joinB l).length := by rw [hnum, strOfNums_size]
  have hhead : l.headD 0 = x ∧ 1 < l.length := by
    obtain ⟨k', rfl⟩ : ∃ k', k = k' + 1 := ⟨k - 1, by omega⟩
    obtain ⟨c', rfl⟩ : ∃ c', c = c' + 1 := ⟨c - 1, by omega⟩
    have := decL_pos n
    rw [hl, hk1, hx]
    simp
    omega
  have hkw : kwB (numS (stemS s) n) = false := by
    rcases nil_or_snoc (decL n) with h0 | ⟨r, z, hz⟩
    · have := decL_pos n; rw [h0] at this; simp at this
    · have hz2 := decL_mem n z (by rw [hz]; simp)
      have hlast : (numS (stemS s) n).toList.getLast? = some (UInt8.ofNat z.toNat) := by
        rw [hnum, ByteArray.toList_eq, strOfNums_data]
        have : joinB l = (joinB ((allS (stemS s)).take c) ++ r) ++ [z] := by
          rw [hl]
          unfold joinB
          rw [List.flatMap_append, show (decL n).flatMap encL = decL n from (dec_right n).2.2, hz, List.append_assoc]
        rw [this, List.map_append]
        simp
      have hne : ∀ (t : List UInt8) (c : UInt8), t.getLast? = some c → c.toNat < 48 ∨ 57 < c.toNat → ((numS (stemS s) n).toList == t) = false := by
        intro t c ht hc
        rw [beq_eq_false_iff_ne]
        intro he
        rw [he, ht] at hlast
        have h1 := congrArg UInt8.toNat (Option.some.inj hlast)
        simp at h1
        omega
      unfold kwB
      rw [hne [100, 97, 116, 97] 97 rfl (by decide), hne [114, 101, 99, 111, 114, 100] 100 rfl (by decide), hne [100, 101, 102] 102 rfl (by decide), hne [83, 101, 116] 116 rfl (by decide)]
      rfl
  unfold rightN
  rw [hE2, hS2, hkw, hli, hhead.1]
  have h2 := hpar.2
  rw [hx] at h2
  simp only [List.headD_cons] at h2
  have hszz : (numS (stemS s) n).size ≠ 0 ∧ (numS (stemS s) n).size ≤ 40 := by omega
  rw [decide_eq_true hszz, decide_eq_true hhead.2]
  cases hlx : letterB x with
  | true => rfl
  | false =>
    rw [hlx] at h2
    simp at h2
    rw [h2.1]
    rfl
end Go.Proofs.Ytapbjjjlilfmdaa
