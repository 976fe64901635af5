import Derived.Test.YtapbjjjlilfmdaaN10
namespace Go.Proofs.Ytapbjjjlilfmdaa
open Go.RowKit Go.WideMaps
/-- the last place of a text among the first k texts -/
def placeN (l : List ByteArray) (s : ByteArray) : Nat → Int
  | 0 => -1
  | k + 1 => if (l.getD k s).toList == s.toList then k else placeN l s k
theorem placeN_bd (l : List ByteArray) (s : ByteArray) : ∀ k, -1 ≤ placeN l s k ∧ placeN l s k < k
  | 0 => by simp [placeN]
  | k + 1 => by
    have := placeN_bd l s k
    simp only [placeN]
    split <;> omega
theorem cnt_take (l : List ByteArray) (s : ByteArray) (k : Nat) (h : k < l.length) : cnt (l.take (k + 1)) s = cnt (l.take k) s + (if l[k].toList == s.toList then 1 else 0) := by
  rw [List.take_succ_eq_append_getElem h, cnt_snoc]
theorem place_cnt (l : List ByteArray) (s : ByteArray) : ∀ k, k ≤ l.length → (placeN l s k < 0 ↔ cnt (l.take k) s = 0) := by
  intro k
  induction k with
  | zero => intro _; simp [placeN, cnt]
  | succ k ih =>
    intro hk
    have ih' := ih (by omega)
    rw [cnt_take l s k (by omega)]
    simp only [placeN, List.getD_eq_getElem?_getD, List.getElem?_eq_getElem (show k < l.length by omega), Option.getD_some]
    by_cases h : l[k].toList == s.toList
    · rw [if_pos h, if_pos h]; omega
    · rw [if_neg h, if_neg h]; omega
theorem getD_at (l : List ByteArray) (s : ByteArray) (k : Nat) (h : k < l.length) : l.getD k s = l[k] := by
  simp [List.getD_eq_getElem?_getD, List.getElem?_eq_getElem h]
set_option maxHeartbeats 1000000 in
theorem place_any (l : List ByteArray) (s : ByteArray) (v : Value) (w0 w : World) (hv : Slc w0 v (l.map Value.string)) (hb : Below w0.heap.size w0 w) :
    Calls Try.prog 26 #[v, .string s] w fun e w' => e = .returned (.int .i64 (placeN l s l.length)) ∧ w = w' := by
  obtain ⟨a, cap, rfl, hll, -⟩ := slc_shape hv
  rw [List.length_map] at hv hll ⊢
  go_enter Try.func26, Try.ntmps26
  go_wp2_with fail
  go_loopw [5] (fun i wr => ∃ (k : Nat), k ≤ l.length ∧ i = .int .i64 ((k : Int) - 1) ∧ Hid (placeN l s k = placeN l s l.length) ∧ w = wr) (fun i _ => (intOf i + 1).toNat)
  case atStart => exact ⟨l.length, Nat.le_refl _, rfl, rfl, rfl⟩
  case round =>
    obtain ⟨k, hk, rfl, hp, rfl⟩ := hrel
    cases k with
    | zero =>
      have fin : Hid (-1 = placeN l s l.length) := hp.out
      go_wp2_with fail
      go_ret
      exact ⟨ret_int fin.out, rfl⟩
    | succ k =>
      obtain ⟨b, off, rfl, hc⟩ := slc_at hv hb k (by simp; omega)
      rw [List.getElem_map] at hc
      have e : ((k + 1 : Nat) : Int) - 1 = k := by omega
      rw [e]
      have hi0 : (0 : Int) ≤ k := by omega
      have hi1 : (k : Int) < l.length := by omega
      have hst : Hid (placeN l s (k + 1) = if l[k].toList == s.toList then (k : Int) else placeN l s k) := by
        show _ = _
        rw [placeN, getD_at l s k hk]
      cases hq : (l[k].toList == s.toList) with
      | true =>
        have fin : Hid ((k : Int) = placeN l s l.length) := by
          show _ = _
          rw [← hp.out, hst.out, if_pos hq]
        go_wp2_with fail
        go_ret
        exact ⟨ret_int fin.out, rfl⟩
      | false =>
        have G : Hid (placeN l s k = placeN l s l.length) := by
          show _ = _
          rw [← hp.out, hst.out, if_neg (by rw [hq]; decide)]
        go_wp2_with fail
        go_roundw
        case rel => exact ⟨k, by omega, rfl, G.out, trivial⟩
        case measure => simp [intOf]
set_option maxHeartbeats 1000000 in
theorem rplace_any (l : List ByteArray) (s : ByteArray) (v : Value) (w0 w : World) (hv : Slc w0 v (l.map Value.string)) (hb : Below w0.heap.size w0 w) :
    Calls Try.prog 18 #[v, .string s] w fun e w' => e = .returned (.int .i64 (placeN l s l.length)) ∧ w = w' := by
  obtain ⟨a, cap, rfl, hll, -⟩ := slc_shape hv
  rw [List.length_map] at hv hll ⊢
  go_enter Try.func18, Try.ntmps18
  go_wp2_with fail
  go_loopw [5, 6] (fun p i wr => ∃ (k : Nat), k ≤ l.length ∧ i = .int .i64 k ∧ p = .int .i64 (placeN l s k) ∧ w = wr) (fun _ i _ => l.length - (intOf i).toNat)
  case atStart => exact ⟨0, Nat.zero_le _, rfl, rfl, rfl⟩
  case round =>
    obtain ⟨k, hk, rfl, rfl, rfl⟩ := hrel
    by_cases hlt : k < l.length
    · obtain ⟨b, off, rfl, hc⟩ := slc_at hv hb k (by simpa using hlt)
      rw [List.getElem_map] at hc
      have hst : Hid (placeN l s (k + 1) = if l[k].toList == s.toList then (k : Int) else placeN l s k) := by
        show _ = _
        rw [placeN, getD_at l s k hlt]
      cases hq : (l[k].toList == s.toList) with
      | true =>
        have G : Hid ((k : Int) = placeN l s (k + 1)) := by
          show _ = _
          rw [hst.out, if_pos hq]
        go_wp2_with fail
        go_roundw
        case rel => exact ⟨k + 1, hlt, by simp, congrArg (Value.int .i64) G.out, trivial⟩
        case measure => simp [intOf]; omega
      | false =>
        have G : Hid (placeN l s k = placeN l s (k + 1)) := by
          show _ = _
          rw [hst.out, if_neg (by rw [hq]; decide)]
        go_wp2_with fail
        go_roundw
        case rel => exact ⟨k + 1, hlt, by simp, congrArg (Value.int .i64) G.out, trivial⟩
        case measure => simp [intOf]; omega
    · obtain rfl : k = l.length := by omega
      go_wp2_with fail
      go_ret
      exact ⟨rfl, rfl⟩
theorem place_spec (l : List ByteArray) (s : ByteArray) : ∀ k, (placeN l s k = -1 ∧ ∀ j, j < k → ((l.getD j s).toList == s.toList) = false) ∨ ∃ i, i < k ∧ placeN l s k = (i : Int) ∧ ((l.getD i s).toList == s.toList) = true ∧ ∀ j, i < j → j < k → ((l.getD j s).toList == s.toList) = false := by
  intro k
  induction k with
  | zero => left; exact ⟨rfl, fun j hj => by omega⟩
  | succ k ih =>
    simp only [placeN]
    cases hq : ((l.getD k s).toList == s.toList) with
    | true =>
      right
      exact ⟨k, by omega, by simp, hq, fun j h1 h2 => by omega⟩
    | false =>
      rw [if_neg (by decide)]
      rcases ih with ⟨h1, h2⟩ | ⟨i, hi, h1, h2, h3⟩
      · left
        refine ⟨h1, fun j hj => ?_⟩
        by_cases h : j = k
        · subst h; exact hq
        · exact h2 j (by omega)
      · right
        refine ⟨i, by omega, h1, h2, fun j hj hj2 => ?_⟩
        by_cases h : j = k
        · subst h; exact hq
        · exact h3 j hj (by omega)
/-- no two of the first k texts are the same -/
def DistN (l : List ByteArray) (k : Nat) : Prop := ∀ i j, i < j → j < k → ((l.getD i ByteArray.empty).toList == (l.getD j ByteArray.empty).toList) = false
theorem getD_any (l : List ByteArray) (a b : ByteArray) (k : Nat) (h : k < l.length) : l.getD k a = l.getD k b := by
  rw [getD_at l a k h, getD_at l b k h]
theorem dist_step (l : List ByteArray) (k : Nat) (h : k < l.length) (hd : DistN l k) : (cnt (l.take k) l[k] = 0 → DistN l (k + 1)) ∧ (cnt (l.take k) l[k] ≠ 0 → ¬ DistN l l.length) := by
  have hpc := place_cnt l l[k] k (by omega)
  constructor
  · intro h0
    have hp := hpc.2 h0
    intro i j hij hj
    by_cases hjk : j = k
    · subst hjk
      rcases place_spec l l[j] j with ⟨_, h2⟩ | ⟨i', _, h1, _, _⟩
      · have := h2 i hij
        rw [getD_at l _ j h, getD_any l _ l[j] i (by omega)]
        exact this
      · omega
    · exact hd i j hij (by omega)
  · intro h0 hD
    have hp := mt hpc.1 h0
    rcases place_spec l l[k] k with ⟨h1, _⟩ | ⟨i, hi, _, h2, _⟩
    · omega
    · have := hD i k hi h
      rw [getD_at l _ k h, getD_any l _ l[k] i (by omega), h2] at this
      cases this
set_option maxRecDepth 100000 in
set_option maxHeartbeats 1000000 in
theorem distinct_any (l : List ByteArray) (v : Value) (w : World) (hv : Slc w v (l.map Value.string)) (hsz : ∀ x ∈ l, x.size ≤ maxLen) (hl : l.length ≤ 8192) :
    Calls Try.prog 27 #[v] w fun e w' => (∃ b, e = .returned (.bool b) ∧ (b = true ↔ DistN l l.length)) ∧ Below w.heap.size w w' := by
  have hmm := @run_makeMap Try.prog
  obtain ⟨a, cap, rfl, hll, -⟩ := slc_shape hv
  rw [List.length_map] at hv hll ⊢
  have HSZ := Lib.hid hsz
  clear hsz
  go_enter Try.func27, Try.ntmps27
  go_wp2_with fail
  go_loopw [9] (fun i wr => ∃ (k : Nat), k ≤ l.length ∧ i = .int .i64 k ∧ Hid (Seen wr w.heap.size (l.take k)) ∧ Hid (DistN l k) ∧ Below w.heap.size w wr) (fun i _ => l.length - (intOf i).toNat)
  case atStart => exact ⟨0, Nat.zero_le _, rfl, Seen.made w, fun i j h1 h2 => by omega, (Below.refl _ _).alloc (Nat.le_refl _) _⟩
  case round =>
    obtain ⟨k, hk, rfl, hseen, hd, hbel⟩ := hrel
    by_cases hlt : k < l.length
    · obtain ⟨b, off, rfl, hc⟩ := slc_at hv hbel k (by simpa using hlt)
      rw [List.getElem_map] at hc
      have hxs := HSZ.out _ (List.getElem_mem hlt)
      have hlook := hseen.out.look l[k] hxs
      obtain ⟨hs0, hs1⟩ := dist_step l k hlt hd.out
      by_cases h0 : cnt (l.take k) l[k] = 0
      · obtain ⟨w2, hput, hs2, hg2⟩ := hseen.out.put l[k] hxs (by rw [List.length_take]; omega)
        rw [← List.take_succ_eq_append_getElem hlt] at hs2
        have hb2 := Lib.hid (hbel.grown hg2 hbel.size (fun j hj => by cases hj; exact Nat.le_refl _))
        have HS2 := Lib.hid hs2
        have HD := Lib.hid (hs0 h0)
        have hcl : (cnt (l.take k) l[k] : Int) ≤ 8192 := by omega
        have hd0 : ¬ 0 < cnt (l.take k) l[k] := by omega
        clear hs2 hg2 hs0 hs1 h0
        go_wp2_with fail
        go_roundw
        case rel => exact ⟨k + 1, hlt, by simp, HS2.out, HD.out, hb2.out⟩
        case measure => simp [intOf]; omega
      · have hgt : 0 < cnt (l.take k) l[k] := by omega
        have HF := Lib.hid (hs1 h0)
        have HB := Lib.hid hbel
        clear hs0 hs1 h0 hbel
        go_wp2_with fail
        go_ret
        exact ⟨⟨false, rfl, by constructor <;> intro h; exact absurd h (by decide); exact absurd h HF.out⟩, HB.out⟩
    · obtain rfl : k = l.length := by omega
      have HB := Lib.hid hbel
      clear hbel
      go_wp2_with fail
      go_ret
      exact ⟨⟨true, rfl, fun _ => hd.out, fun _ => rfl⟩, HB.out⟩
theorem place_last (l : List ByteArray) (k : Nat) (h : k < l.length) : (placeN l l[k] l.length = (k : Int) ↔ ∀ j, k < j → j < l.length → ((l.getD k ByteArray.empty).toList == (l.getD j ByteArray.empty).toList) = false) := by
  have hk : l.getD k l[k] = l[k] := getD_at l _ k h
  have sw : ∀ j, j < l.length → ((l.getD k ByteArray.empty).toList == (l.getD j ByteArray.empty).toList) = ((l.getD j l[k]).toList == l[k].toList) := by
    intro j hj
    rw [getD_at l _ k h, getD_any l _ l[k] j hj]
    rw [Bool.eq_iff_iff, beq_iff_eq, beq_iff_eq]
    exact eq_comm
  constructor
  · intro hp j hj hj2
    rw [sw j hj2]
    rcases place_spec l l[k] l.length with ⟨h1, _⟩ | ⟨i, hi, h1, _, h3⟩
    · omega
    · have : i = k := by omega
      subst this
      exact h3 j hj hj2
  · intro hno
    rcases place_spec l l[k] l.length with ⟨_, h2⟩ | ⟨i, hi, h1, h2, h3⟩
    · have := h2 k h
      rw [hk] at this
      simp at this
    · rw [h1]
      by_cases hik : i = k
      · rw [hik]
      · exfalso
        by_cases hlt : i < k
        · have := h3 k hlt h
          rw [hk] at this
          simp at this
        · have := hno i (by omega) hi
          rw [sw i hi, h2] at this
          cases this
set_option maxRecDepth 100000 in
set_option maxHeartbeats 1000000 in
theorem rdistinct_any (l : List ByteArray) (v : Value) (w : World) (hv : Slc w v (l.map Value.string)) :
    Calls Try.prog 28 #[v] w fun e w' => (∃ b, e = .returned (.bool b) ∧ (b = true ↔ DistN l l.length)) ∧ w = w' := by
  have hv0 := hv
  obtain ⟨a, cap, rfl, hll, -⟩ := slc_shape hv
  rw [List.length_map] at hv hll hv0 ⊢
  have HV := Lib.hid hv0
  clear hv0
  go_enter Try.func28, Try.ntmps28
  go_wp2_with fail
  go_loopw [3] (fun i wr => ∃ (k : Nat), k ≤ l.length ∧ i = .int .i64 k ∧ Hid (∀ i j, i < k → i < j → j < l.length → ((l.getD i ByteArray.empty).toList == (l.getD j ByteArray.empty).toList) = false) ∧ w = wr) (fun i _ => l.length - (intOf i).toNat)
  case atStart => exact ⟨0, Nat.zero_le _, rfl, fun i j h => by omega, rfl⟩
  case round =>
    obtain ⟨k, hk, rfl, hd, rfl⟩ := hrel
    by_cases hlt : k < l.length
    · obtain ⟨b, off, rfl, hc⟩ := slc_at hv (Below.refl _ _) k (by simpa using hlt)
      rw [List.getElem_map] at hc
      have hi0 : (0 : Int) ≤ k := by omega
      have hi1 : (k : Int) < l.length := by omega
      have hpl := place_last l k hlt
      have hP := Lib.hid (rplace_any l l[k] _ w w HV.out (Below.refl _ _))
      cases hq : (placeN l l[k] l.length != (k : Int)) with
      | true =>
        have HF : Hid (¬ DistN l l.length) := by
          intro h
          have : placeN l l[k] l.length = (k : Int) := hpl.2 (fun j h1 h2 => h k j h1 h2)
          rw [this] at hq
          simp at hq
        clear hpl
        go_wp2_with fail
        refine hP.out.mono ?_
        rintro e w2 ⟨rfl, rfl⟩
        go_wp2_with fail
        go_ret
        exact ⟨⟨false, rfl, by constructor <;> intro h; exact absurd h (by decide); exact absurd h HF.out⟩, rfl⟩
      | false =>
        have HG : Hid (∀ i j, i < k + 1 → i < j → j < l.length → ((l.getD i ByteArray.empty).toList == (l.getD j ByteArray.empty).toList) = false) := by
          intro i j h1 h2 h3
          by_cases hik : i = k
          · subst hik
            exact hpl.1 (by simpa using hq) j h2 h3
          · exact hd.out i j (by omega) h2 h3
        clear hpl
        go_wp2_with fail
        refine hP.out.mono ?_
        rintro e w2 ⟨rfl, rfl⟩
        go_wp2_with fail
        go_roundw
        case rel => exact ⟨k + 1, hlt, by simp, HG.out, trivial⟩
        case measure => simp [intOf]; omega
    · obtain rfl : k = l.length := by omega
      go_wp2_with fail
      go_ret
      exact ⟨⟨true, rfl, fun _ => fun i j h1 h2 => hd.out i j (by omega) h1 h2, fun _ => rfl⟩, rfl⟩
end Go.Proofs.Ytapbjjjlilfmdaa
