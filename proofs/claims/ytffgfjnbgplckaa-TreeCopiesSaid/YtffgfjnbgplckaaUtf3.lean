import Derived.Test.YtffgfjnbgplckaaUtf2
import Derived.Deep.LoopGhost
namespace Go.Proofs.Ytffgfjnbgplckaa
open Go.RowKit
theorem info5 : (Try.prog.info? 5).map (fun i => (i.zero, i.size, i.bytes)) = some (some (.int .u8 0), 1, 1) := by kernel_rfl
def quo64 (n : Int) : Nat → Int | 0 => n | k + 1 => quo64 n k / 64
theorem quo64_nonneg (n : Int) (h : 0 ≤ n) : ∀ k, 0 ≤ quo64 n k
  | 0 => h
  | k + 1 => by have := quo64_nonneg n h k; unfold quo64; omega
theorem quo64_le (n : Int) (h : 0 ≤ n) : ∀ k, quo64 n k ≤ n
  | 0 => Int.le_refl _
  | k + 1 => by have := quo64_le n h k; have := quo64_nonneg n h k; unfold quo64; omega
def tailL (n : Int) : Nat → List Int | 0 => [] | m + 1 => (128 + quo64 n m % 64) :: tailL n m
set_option maxRecDepth 100000 in
set_option maxHeartbeats 400000 in
theorem tail_any (n : Int) (h0 : 0 ≤ n) (h1 : n ≤ 1114111) (m : Nat) (hm : m ≤ 3) (w : World) :
    Calls Try.prog 110 #[.int .i64 n, .int .i64 m] w fun e w' => ∃ v, e = .returned v ∧ w'.ownsRow w.heap.size 5 1 v m ((tailL n m).map (Value.int .u8)) ∧ Below w.heap.size w w' := by
  obtain ⟨i0, hi, hz0, hz1, hz2⟩ := info_parts info5
  go_enter Try.func110, Try.ntmps110
  go_wp2_with fail
  go_loopw [5, 6] (fun v i wr => ∃ k : Nat, k ≤ m ∧ i = .int .i64 (↑k - 1) ∧ (∃ l : List Int, l ++ tailL n k = tailL n m ∧ wr.ownsRow w.heap.size 5 1 v (m - k) (l.map (Value.int .u8))) ∧ Below w.heap.size w wr)
    (fun _ i _ => (intOf i + 1).toNat)
  case atStart =>
    exact ⟨m, Nat.le_refl _, rfl, ⟨[], rfl, by rw [Nat.sub_self]; exact World.ownsRow_made w #[] 0 (Nat.le_refl _) (Nat.zero_le _) rfl⟩, (Below.refl _ _).alloc (Nat.le_refl _) _⟩
  case round =>
    obtain ⟨k, hk, rfl, ⟨l, hl, hown⟩, hbel⟩ := hrel
    have HL := Lib.hid hl; clear hl
    cases k with
    | zero =>
      go_wp2_with fail
      go_ret
      have e : l = tailL n m := by simpa [tailL] using HL.out
      subst e
      exact ⟨_, rfl, by simpa using hown, hbel⟩
    | succ k =>
      have hq0 := quo64_nonneg n h0
      have hq1 := quo64_le n h0
      go_wp2_with fail
      go_loop [7, 8] (fun x j => ∃ j' : Nat, j' ≤ k ∧ x = .int .i64 (quo64 n j') ∧ j = .int .i64 j') (fun _ j => k - (intOf j).toNat)
      case atStart => exact ⟨0, Nat.zero_le _, rfl, rfl⟩
      case round =>
        obtain ⟨j, hj, rfl, rfl⟩ := hrel
        have hj0 := hq0 j
        have hj1 := hq1 j
        clear hq0 hq1
        by_cases hlt : j < k
        · go_wp2_with fail
          go_round
          case rel => exact ⟨j + 1, by omega, rfl, by go_num⟩
          case measure => simp [intOf]; omega
        · obtain rfl : j = k := by omega
          go_wp2_with (at_builtin; refine wpList_append_own _ rfl _ _ 96 rfl w.heap.size 5 i0 (.int .u8 0) 1 1 Try.underlying96 hi hz0 hz1 hz2 rfl (by decide) _ _ _ rfl (hown.alloc _) ⟨wr.heap.size, 0, none⟩ 1 1 [.int .u8 (128 + quo64 n j % 64)] rfl rfl ?c1 ?c2 ?c3 ?c4 ?c5 ?_)
          case c2 => rfl
          case c3 => unfold maxLen; omega
          case c4 => omega
          case c5 => have := hbel.size; simp; omega
          intro v' w1 hown' hgrow _
          have hb1 : Below w.heap.size w w1 := (hbel.alloc hbel.size _).grown hgrow (by have := hbel.size; simp; omega) (fun k hk => ((hown.alloc (.cells #[.int .u8 (128 + quo64 n j % 64)] 5)).lt k hk).1)
          have hown1 : w1.ownsRow w.heap.size 5 1 v' (m - j) ((l ++ [128 + quo64 n j % 64]).map (Value.int .u8)) := by
            rw [List.map_append]
            rw [show m - (j + 1) + 1 = m - j by omega] at hown'
            exact hown'
          have HL2 := Lib.hid (show (l ++ [128 + quo64 n j % 64]) ++ tailL n j = tailL n m by rw [List.append_assoc]; exact HL.out)
          clear hown' hgrow hown hbel HL
          go_wp2_with fail
          go_roundw
          case rel => exact ⟨j, by omega, by go_num, ⟨_, HL2.out, hown1⟩, hb1⟩
          case measure => simp [intOf]
end Go.Proofs.Ytffgfjnbgplckaa
