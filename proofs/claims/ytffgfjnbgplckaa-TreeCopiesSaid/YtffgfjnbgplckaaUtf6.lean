import Derived.Test.YtffgfjnbgplckaaUtf6p
import Derived.Deep.LoopGhost
namespace Go.Proofs.Ytffgfjnbgplckaa
open Go.RowKit
def nextOk (s : ByteArray) (i : Int) : Bool := (decAt s i).isSome
set_option maxRecDepth 100000 in
set_option maxHeartbeats 1000000 in
theorem rnext_any (s : ByteArray) (hs : s.size ≤ maxLen) (i : Int) (w : World) :
    Calls Try.prog 101 #[.string s, .int .i64 i] w fun e w' => e = .returned (.tuple #[.int .i64 (nextN s i), .int .i64 (nextW s i), .bool (nextOk s i)]) ∧ Below w.heap.size w w' := by
  unfold maxLen at hs
  by_cases hi : 0 ≤ i ∧ i < s.size
  · obtain ⟨n, rfl⟩ := Int.eq_ofNat_of_zero_le hi.1
    have hlt : n < s.size := by omega
    clear hi
    have hd1 : decide ((n : Int) < 0) = false := by simp
    have hd2 : decide (s.size ≤ n) = false := by simpa using hlt
    go_enter Try.func101, Try.ntmps101
    go_wp2_with fail
    go_loopw [7] (fun x wr => ∃ k : Nat, 1 ≤ k ∧ k ≤ 5 ∧ k ≤ s.size - n + 1 ∧ x = .int .i64 k ∧ Hid (∀ j : Nat, 1 ≤ j → j < k → numberR (s.extract n (n + j)) < 0) ∧ Below w.heap.size w wr) (fun x _ => (5 - intOf x).toNat)
    case atStart => exact ⟨1, Nat.le_refl _, by omega, by omega, rfl, fun j h1 h2 => by omega, Below.refl _ _⟩
    case round =>
      obtain ⟨k, hk1, hk5, hkn, rfl, hall, hbel⟩ := hrel
      by_cases hk : k ≤ 4 ∧ k ≤ s.size - n
      · have hk4 := hk.1
        have hkl : (k : Int) ≤ s.size - n := by omega
        clear hk
        have hsz : (s.extract n (n + k)).size = k := by rw [ByteArray.size_extract]; omega
        have hsz1 := Lib.hid (show 1 ≤ (s.extract n (n+k)).size by omega)
        have hsz4 := Lib.hid (show (s.extract n (n+k)).size ≤ 4 by omega)
        clear hsz
        go_wp2_with (go_at_call 107; refine (number_any _ hsz1.out hsz4.out _).mono ?_; rintro e w' ⟨rfl, hb2⟩)
        · have h0 : 0 ≤ numberR (s.extract n (n + k)) := by assumption
          have hS := number_some s n k hk1 hk4 (by omega) h0
          go_ret3
          exact ⟨ret_iib (by simp only [nextN, hS]) (by simp only [nextW, hS]) (by simp only [nextOk, hS]; rfl), hbel.trans (hb2.mono hbel.size)⟩
        · have hneg : numberR (s.extract n (n + k)) < 0 := by assumption
          have hall2 : Hid (∀ j : Nat, 1 ≤ j → j < k + 1 → numberR (s.extract n (n + j)) < 0) := by
            intro j h1 h2
            by_cases e : j = k
            · rw [e]; exact hneg
            · exact hall.out j h1 (by omega)
          go_roundw
          case rel => exact ⟨k + 1, by omega, by omega, by omega, by go_num, hall2, hbel.trans (hb2.mono hbel.size)⟩
          case measure => simp [intOf]; omega
      · have hN : decAt s n = none := by
          refine number_none s n hlt fun j h1 h4 hj => hall.out j h1 ?_
          omega
        have fin : Hid (nextN s n = 0 ∧ nextW s n = 0 ∧ nextOk s n = false) := by
          simp only [Hid, nextN, nextW, nextOk, hN]; exact ⟨trivial, trivial, rfl⟩
        clear hN
        by_cases hk4 : k ≤ 4
        · have hkl : ¬ (k : Int) ≤ s.size - n := by omega
          clear hk
          go_wp2_with fail
          go_ret3
          exact ⟨ret_iib fin.out.1.symm fin.out.2.1.symm fin.out.2.2.symm, hbel⟩
        · clear hk
          go_wp2_with fail
          go_ret3
          exact ⟨ret_iib fin.out.1.symm fin.out.2.1.symm fin.out.2.2.symm, hbel⟩
  · have hN : decAt s i = none := by unfold decAt; rw [if_neg hi]
    have fin : Hid (nextN s i = 0 ∧ nextW s i = 0 ∧ nextOk s i = false) := by
        simp only [Hid, nextN, nextW, nextOk, hN]; exact ⟨trivial, trivial, rfl⟩
    clear hN
    by_cases h0 : i < 0
    · go_enter Try.func101, Try.ntmps101
      go_wp2
      go_ret3
      exact ⟨ret_iib fin.out.1.symm fin.out.2.1.symm fin.out.2.2.symm, Below.refl _ _⟩
    · have h1 : (s.size : Int) ≤ i := by omega
      clear hi
      go_enter Try.func101, Try.ntmps101
      go_wp2
      go_ret3
      exact ⟨ret_iib fin.out.1.symm fin.out.2.1.symm fin.out.2.2.symm, Below.refl _ _⟩
end Go.Proofs.Ytffgfjnbgplckaa
