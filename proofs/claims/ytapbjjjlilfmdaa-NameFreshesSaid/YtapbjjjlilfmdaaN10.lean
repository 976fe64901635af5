import Derived.Test.YtapbjjjlilfmdaaN9
namespace Go.Proofs.Ytapbjjjlilfmdaa
open Go.RowKit Go.WideMaps
def x1 : ByteArray := ⟨#[120, 49]⟩
def awL : List ByteArray := [⟨#[120, 49]⟩, ⟨#[120]⟩]
theorem dec12 : decS 1 = ⟨#[49]⟩ ∧ decS 2 = ⟨#[50]⟩ := by
  constructor
  · rw [decS, decL_small 1 (by decide)]; decide +kernel
  · rw [decS, decL_small 2 (by decide)]; decide +kernel
theorem aw_num : numS (stemS x1) 1 = ⟨#[120, 49]⟩ ∧ numS (stemS x1) 2 = ⟨#[120, 50]⟩ := by
  constructor
  · rw [numS, dec12.1]; decide +kernel
  · rw [numS, dec12.2]; decide +kernel
theorem aw_cnt : cnt awL x1 = 1 ∧ cnt awL ⟨#[120, 49]⟩ = 1 ∧ cnt awL ⟨#[120, 50]⟩ = 0 := by
  simp only [cnt, ByteArray.toList_eq]
  decide +kernel
theorem aw_vals : rightN x1 = true ∧ letterB 97 = true ∧ rightN ⟨#[120, 39]⟩ = true := by
  simp only [rightN, kwB, ByteArray.toList_eq]
  decide +kernel
theorem aw_fresh : freshS x1 awL 2 = ⟨#[120, 50]⟩ ∧ freshE x1 awL = 0 := by
  simp only [freshS, freshE, aw_vals.1, if_true, aw_cnt.1, aw_num.2]
  exact ⟨rfl, rfl⟩
set_option maxHeartbeats 1000000 in
theorem awake_any (w : World) : Calls Try.prog 15 #[] w fun e w' => e = .returned (.bool true) ∧ Below w.heap.size w w' := by
  have hown : (w.alloc (.cells #[.string ⟨#[120, 49]⟩, .string ⟨#[120]⟩] 9)).ownsRow w.heap.size 9 1 (.slice (some ⟨w.heap.size, 0, none⟩) 2 2) 2 (awL.map Value.string) :=
    own_lit 9 rfl (by decide) (Below.refl _ _)
  have HO := Lib.hid (Slc.own hown)
  have hA : Below w.heap.size w (w.alloc (.cells #[.string ⟨#[120, 49]⟩, .string ⟨#[120]⟩] 9)) := (Below.refl _ _).alloc (Nat.le_refl _) _
  have AV := Lib.hid aw_vals
  have AF := Lib.hid aw_fresh
  clear hown
  go_enter Try.func15, Try.ntmps15
  go_wp2_with fail
  refine (fresh_any x1 (by decide) awL _ _ HO.out (by intro x hx; simp [awL] at hx; rcases hx with rfl | rfl <;> decide) 2 (fun _ _ _ => ⟨by decide, by decide, by rw [aw_num.2]; exact aw_cnt.2.2, fun n h1 h2 => by
    obtain rfl : n = 1 := by omega
    rw [aw_num.1, aw_cnt.2.1]; decide⟩)).mono ?_
  rw [AF.out.1, AF.out.2]
  rintro e w1 ⟨rfl, hb1⟩
  have hw1 := hA.trans (hb1.mono hA.size)
  clear hA hb1
  go_wp2_with (first | (go_at_call 22; refine (letter_any _ _).mono ?_; rw [AV.out.2.1]; rintro e w2 ⟨rfl, rfl⟩) | (go_at_call 11; refine (right_name _ (by decide) _).mono ?_; rw [AV.out.2.2]; rintro e w3 ⟨rfl, hb3⟩))
  go_ret
  exact ⟨rfl, hw1.trans (hb3.mono hw1.size)⟩
end Go.Proofs.Ytapbjjjlilfmdaa
