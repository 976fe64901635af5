import Derived.Test.YtapbjjjlilfmdaaN5
import Derived.Test.YtapbjjjlilfmdaaUtf2
namespace Go.Proofs.Ytapbjjjlilfmdaa
open Go.RowKit
/-- how long a text is without the digits at its end -/
def stemN (s : ByteArray) : Nat → Nat | 0 => 0 | n + 1 => if digitB (nb s n) then stemN s n else n + 1
def stemS (s : ByteArray) : ByteArray := s.extract 0 (stemN s s.size)
theorem stemN_le (s : ByteArray) : ∀ n, stemN s n ≤ n
  | 0 => Nat.le_refl _
  | n + 1 => by
    simp only [stemN]
    split
    · have := stemN_le s n; omega
    · exact Nat.le_refl _
theorem wrap_small (n : Nat) (h : n < 256) : wrap64 (n : Int) = (n : Int) := IntWalk.wrap64_in _ ⟨by omega, by omega⟩
theorem ret_str {a b : ByteArray} (h : a = b) : Ending.returned (.string a) = .returned (.string b) := by rw [h]
set_option maxRecDepth 100000 in
set_option maxHeartbeats 1000000 in
theorem stem_any (s : ByteArray) (hs : s.size ≤ maxLen) (w : World) :
    Calls Try.prog 37 #[.string s] w fun e w' => e = .returned (.string (stemS s)) ∧ w = w' := by
  have hs2 : s.size ≤ 9223372036854775807 := by unfold maxLen at hs; omega
  go_enter Try.func37, Try.ntmps37
  go_wp2_with fail
  go_loopw [0] (fun v wr => ∃ (k : Nat), k ≤ s.size ∧ v = .string (s.extract 0 k) ∧ Hid (stemN s k = stemN s s.size) ∧ w = wr) (fun v _ => match v with | .string t => t.size | _ => 0)
  case atStart => exact ⟨s.size, Nat.le_refl _, by simp, rfl, rfl⟩
  case round =>
    obtain ⟨k, hk, rfl, hst, rfl⟩ := hrel
    have hsz : (s.extract 0 k).size = k := by simp; omega
    cases k with
    | zero => 
      have fin : Hid (s.extract 0 0 = stemS s) := by
        show _ = _
        unfold stemS
        rw [← hst.out]; rfl
      go_wp2_with fail
      go_ret
      exact ⟨ret_str fin.out, rfl⟩
    | succ k =>
      obtain ⟨t, ht⟩ : ∃ t, t = s.extract 0 (k + 1) := ⟨_, rfl⟩
      have hcv : Hid (∀ h : k < t.size, wrap64 (t[k].toNat : Int) = (nb s k : Int)) := by
        intro h
        subst ht
        have h1 : (s.extract 0 (k + 1))[k].toNat = nb s k := by
          rw [← nb_eq s k (by omega)]
          congr 1
          rw [ByteArray.getElem_extract]
          congr 1
          omega
        rw [h1]
        exact wrap_small _ (nb_lt s k)
      have hex : Hid (t.extract 0 k = s.extract 0 k) := by
        subst ht
        show _ = _
        rw [ByteArray.extract_extract]
        congr 1
        omega
      rw [← ht] at hsz ⊢
      have hst2 : Hid (stemN s (k + 1) = stemN s s.size) := hst
      have HT := Lib.hid ht
      clear ht hst
      cases hd : digitB (nb s k) with
      | true =>
        have HD := Lib.hid hd
        clear hd
        go_wp2_with (go_at_call 20; refine (digit_any _ _).mono ?_; rw [hcv.out, HD.out]; rintro e w2 ⟨rfl, rfl⟩)
        go_roundw
        case rel =>
          refine ⟨k, by omega, congrArg Value.string hex.out, ?_, trivial⟩
          have h := hst2.out
          simp only [stemN, HD.out, if_true] at h
          exact h
        case measure =>
          show (t.extract 0 k).size < t.size
          simp
          omega
      | false =>
        have HD := Lib.hid hd
        clear hd
        go_wp2_with (go_at_call 20; refine (digit_any _ _).mono ?_; rw [hcv.out, HD.out]; rintro e w2 ⟨rfl, rfl⟩)
        have fin : Hid (t = stemS s) := by
          show _ = _
          have h := hst2.out
          simp only [stemN, HD.out] at h
          unfold stemS
          rw [← h, HT.out]
          rfl
        go_ret
        exact ⟨ret_str fin.out, rfl⟩
/-- a number's digits -/
def decL (n : Nat) : List Int := if _h : n < 10 then [48 + (n : Int)] else decL (n / 10) ++ [48 + ((n % 10 : Nat) : Int)]
def decS (n : Nat) : ByteArray := strOfNums (decL n)
theorem decL_small (n : Nat) (h : n < 10) : decL n = [48 + (n : Int)] := by rw [decL, dif_pos h]
theorem decL_step (n : Nat) (h : ¬ n < 10) : decL n = decL (n / 10) ++ [48 + ((n % 10 : Nat) : Int)] := by rw [decL, dif_neg h]
theorem decL_len : ∀ (k n : Nat), n < 10 ^ (k + 1) → 1 ≤ (decL n).length ∧ (decL n).length ≤ k + 1 := by
  intro k
  induction k with
  | zero => intro n h; rw [decL_small n (by omega)]; simp
  | succ k ih =>
    intro n h
    by_cases hs : n < 10
    · rw [decL_small n hs]; simp
    · rw [decL_step n hs, List.length_append]
      have := ih (n / 10) (by rw [Nat.pow_succ] at h; omega)
      simp
      omega
theorem decS_size (n : Nat) (h : n ≤ 1000000000) : 1 ≤ (decS n).size ∧ (decS n).size ≤ 10 := by
  unfold decS
  rw [strOfNums_size]
  exact decL_len 9 n (by omega)
theorem strOfNums_app (a b : List Int) : strOfNums a ++ strOfNums b = strOfNums (a ++ b) := by
  apply ByteArray.ext
  simp [strOfNums]
set_option maxHeartbeats 1000000 in
theorem decimal_any : ∀ (n : Nat) (w : World), n ≤ 1000000000 →
    Calls Try.prog 47 #[.int .i64 n] w fun e w' => e = .returned (.string (decS n)) ∧ Below w.heap.size w w' := by
  intro n
  induction n using Nat.strongRecOn with
  | ind n ih =>
    intro w hn
    by_cases hs : n < 10
    · have hcv := cv_bytes [48 + (n : Int)] 1 rfl
      simp only [List.map] at hcv
      have fin : Hid (strOfNums [48 + (n : Int)] = decS n) := by show _ = _; rw [decS, decL_small n hs]
      go_enter Try.func47, Try.ntmps47
      go_wp2_with fail
      go_ret
      exact ⟨ret_str fin.out, (Below.refl _ _).alloc (Nat.le_refl _) _⟩
    · have h1 := ih (n / 10) (by omega) w (by omega)
      rw [show ((n / 10 : Nat) : Int) = (n : Int) / 10 by omega] at h1
      have h2 := fun w => ih (n % 10) (by omega) w (by omega)
      rw [show ((n % 10 : Nat) : Int) = (n : Int) % 10 by omega] at h2
      have hsz : ¬ 9223372036854775807 < (decS (n / 10)).size + (decS (n % 10)).size := by
        have := decS_size (n / 10) (by omega)
        have := decS_size (n % 10) (by omega)
        omega
      have fin : Hid (decS (n / 10) ++ decS (n % 10) = decS n) := by
        show _ = _
        unfold decS
        rw [strOfNums_app, decL_step n hs, decL_small (n % 10) (by omega)]
      go_enter Try.func47, Try.ntmps47
      go_wp2_with fail
      refine h1.mono ?_
      rintro e w1 ⟨rfl, hb1⟩
      go_wp2_with fail
      refine (h2 w1).mono ?_
      rintro e w2 ⟨rfl, hb2⟩
      go_wp2_with fail
      go_ret
      exact ⟨ret_str fin.out, hb1.trans (hb2.mono hb1.size)⟩
end Go.Proofs.Ytapbjjjlilfmdaa
