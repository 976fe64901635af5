import Derived.Test.YtkdcjbgmodfmdaaUtf14
import Derived.Test.YtkdcjbgmodfmdaaK1
namespace Go.Proofs.Ytkdcjbgmodfmdaa
open Go.RowKit
set_option maxRecDepth 100000 in
set_option maxHeartbeats 400000 in
theorem joins_walk (a : Option Addr) (len cap : Nat) (zs : List Int) (w : World) (hr : IsRow .i64 w a len cap zs) :
    Calls Try.prog 7 #[.slice a len cap] w fun e w' => e = .returned (.bool true) ∧ Below w.heap.size w w' := by
  have hs := hr.slc
  have hlen := hr.len_le
  clear hr
  unfold maxLen at hlen
  generalize zs.take len = l at hs
  go_enter Try.func7, Try.ntmps7
  go_wp2_with (first | (go_at_call 20; refine (join_any l _ _ hs).mono ?_; rintro e w' ⟨rfl, hb⟩) | (go_at_call 21; refine (rjoin_any l _ _ (hs.later hb)).mono ?_; rintro e w' ⟨rfl, hb2⟩) | (go_at_call 11; refine (awake_any _).mono ?_; rintro e w' ⟨rfl, rfl⟩))
  · go_ret
    exact ⟨rfl, Below.refl _ _⟩
  · go_ret
    exact ⟨rfl, hb.trans (hb2.mono hb.size)⟩
set_option maxRecDepth 100000 in
set_option maxHeartbeats 400000 in
theorem alls_walk (s : ByteArray) (hs : s.size ≤ maxLen) (w : World) :
    Calls Try.prog 6 #[.string s] w fun e w' => e = .returned (.bool true) ∧ Below w.heap.size w w' := by
  go_enter Try.func6, Try.ntmps6
  go_wp2_with fail
  refine (all_any s hs _).mono ?_
  rintro e w1 ⟨v1, rfl, hown1, hb1⟩
  have hs1 := Slc.own hown1
  clear hown1
  go_wp2_with fail
  refine (rall_any s hs _).mono ?_
  rintro e w2 ⟨v2, rfl, hown2, hb2⟩
  have hs2 := Slc.own hown2
  have hs1' := hs1.later hb2
  have hb12 := hb1.trans (hb2.mono hb1.size)
  obtain ⟨a2, c2, e2, _⟩ := hs2
  simp only [List.length_map] at e2
  subst e2
  have hs2 := Slc.own hown2
  clear hs1 hown2 hb1 hb2
  go_wp2_with fail
  refine (count_any s hs _).mono ?_
  rintro e w3 ⟨rfl, hb3⟩
  have hs1 := hs1'.later hb3
  have hs2' := hs2.later hb3
  clear hs1' hs2
  go_wp2_with (first | (go_at_call 19; refine (sameints_any _ _ _ _ _ hs1 hs2').mono ?_; rintro e w4 ⟨rfl, hb4⟩) | (go_at_call 11; refine (awake_any _).mono ?_; rintro e w' ⟨rfl, rfl⟩))
  go_ret
  exact ⟨rfl, hb12.trans ((hb3.trans (hb4.mono hb3.size)).mono hb12.size)⟩
theorem slc_some {w : World} {v : Value} {xs : List Value} (h : Slc w v xs) : ∃ a c, v = .slice a xs.length c := by
  obtain ⟨a, c, hv, _⟩ := h; exact ⟨a, c, hv⟩
/-- what follows the first half of the law: the numbers there and back -/
def BackEnd (w : World) (w1 : World) : Prop := Below w.heap.size w w1
set_option maxRecDepth 100000 in
set_option maxHeartbeats 1000000 in
theorem back_walk (s : ByteArray) (a : Option Addr) (len cap : Nat) (zs : List Int) (hs : s.size ≤ maxLen) (w : World) (hr : IsRow .i64 w a len cap zs) :
    Calls Try.prog 8 #[.string s, .slice a len cap] w fun e w' => e = .returned (.bool true) ∧ Below w.heap.size w w' := by
  have hl := hr.slc
  have hlen := hr.len_le
  clear hr
  unfold maxLen at hlen
  generalize zs.take len = l at hl
  by_cases h5 : (5000 : Int) < len
  · go_enter Try.func8, Try.ntmps8
    go_wp2_with (go_at_call 11; refine (awake_any _).mono ?_; rintro e w' ⟨rfl, rfl⟩)
    go_ret
    exact ⟨rfl, Below.refl _ _⟩
  by_cases hA : allE s = 0
  · have hB := back_text s hA
    have hA1 : (allE s == 0) = true := by rw [hA]; rfl
    have HA := Lib.hid hA; clear hA
    have hB1 : (joinE (allS s) != 0) = false := by rw [hB.1]; rfl
    have hB2 : (!(joinS (allS s)).toList == s.toList) = false := by rw [hB.2]; simp
    clear hB
    go_enter Try.func8, Try.ntmps8
    go_wp2_with fail
    refine (all_any s hs _).mono ?_
    rintro e w1 ⟨v1, rfl, hown1, hb1⟩
    have hs1 := Slc.own hown1
    have hl1 := hl.later hb1
    clear hown1 hl
    go_wp2_with fail
    refine (join_any _ _ _ hs1).mono ?_
    rintro e w2 ⟨rfl, hb2⟩
    have hl2 := hl1.later hb2
    have hb12 := hb1.trans (hb2.mono hb1.size)
    clear hl1 hb1 hb2 hs1
    go_wp2_with fail
    refine (join_any l _ _ hl2).mono ?_
    rintro e w3 ⟨rfl, hb3⟩
    have hb13 := hb12.trans (hb3.mono hb12.size)
    have hl3 := hl2.later hb3
    clear hl2 hb12 hb3
    by_cases hJ : joinE l = 0
    · have hK := back_signs l hJ
      have hJ1 : (joinE l != 0) = false := by rw [hJ]; rfl
      have hK1 : (allE (joinS l) == 0) = true := by rw [hK.1]; rfl
      have HK := Lib.hid hK
      have hsz := Lib.hid (show (joinS l).size ≤ maxLen by
        unfold joinS; rw [if_pos hJ, strOfNums_size]
        have := hJ; unfold joinE at this
        unfold maxLen
        repeat' split at this <;> omega)
      clear hK hJ
      go_wp2_with fail
      refine (all_any (joinS l) hsz.out _).mono ?_
      rintro e w4 ⟨v4, rfl, hown4, hb4⟩
      have hs4 := Slc.own hown4
      rw [HK.out.2] at hs4
      have hl4 := hl3.later hb4
      have hb14 := hb13.trans (hb4.mono hb13.size)
      clear hown4 hl3 hb4 hb13
      go_wp2_with (first | (go_at_call 19; refine (sameints_any l l _ _ _ hs4 hl4).mono ?_; rintro e w5 ⟨rfl, hb5⟩) | (go_at_call 11; refine (awake_any _).mono ?_; rintro e w' ⟨rfl, rfl⟩))
      go_ret
      exact ⟨by simp, hb14.trans (hb5.mono hb14.size)⟩
    · have hJ1 : (joinE l != 0) = true := by simpa using hJ
      have hS : joinS l = ByteArray.empty := if_neg hJ
      have hS1 : ((joinS l).toList == []) = true := by rw [hS, ByteArray.toList_eq]; rfl
      have hS2 : ((joinS l).toList.isEmpty) = true := by rw [hS, ByteArray.toList_eq]; rfl
      clear hJ
      go_wp2_with (go_at_call 11; refine (awake_any _).mono ?_; rintro e w' ⟨rfl, rfl⟩)
      go_ret
      exact ⟨rfl, hb13⟩
  · have hA1 : (allE s == 0) = false := by simpa using hA
    clear hA
    go_enter Try.func8, Try.ntmps8
    go_wp2_with fail
    refine (all_any s hs _).mono ?_
    rintro e w1 ⟨v1, rfl, hown1, hb12⟩
    have hl2 := hl.later hb12
    clear hown1 hl
    go_wp2_with fail
    refine (join_any l _ _ hl2).mono ?_
    rintro e w3 ⟨rfl, hb3⟩
    have hb13 := hb12.trans (hb3.mono hb12.size)
    have hl3 := hl2.later hb3
    clear hl2 hb12 hb3
    by_cases hJ : joinE l = 0
    · have hK := back_signs l hJ
      have hJ1 : (joinE l != 0) = false := by rw [hJ]; rfl
      have hK1 : (allE (joinS l) == 0) = true := by rw [hK.1]; rfl
      have HK := Lib.hid hK
      have hsz := Lib.hid (show (joinS l).size ≤ maxLen by
        unfold joinS; rw [if_pos hJ, strOfNums_size]
        have := hJ; unfold joinE at this
        unfold maxLen
        repeat' split at this <;> omega)
      clear hK hJ
      go_wp2_with fail
      refine (all_any (joinS l) hsz.out _).mono ?_
      rintro e w4 ⟨v4, rfl, hown4, hb4⟩
      have hs4 := Slc.own hown4
      rw [HK.out.2] at hs4
      have hl4 := hl3.later hb4
      have hb14 := hb13.trans (hb4.mono hb13.size)
      clear hown4 hl3 hb4 hb13
      go_wp2_with (first | (go_at_call 19; refine (sameints_any l l _ _ _ hs4 hl4).mono ?_; rintro e w5 ⟨rfl, hb5⟩) | (go_at_call 11; refine (awake_any _).mono ?_; rintro e w' ⟨rfl, rfl⟩))
      go_ret
      exact ⟨by simp, hb14.trans (hb5.mono hb14.size)⟩
    · have hJ1 : (joinE l != 0) = true := by simpa using hJ
      have hS : joinS l = ByteArray.empty := if_neg hJ
      have hS1 : ((joinS l).toList == []) = true := by rw [hS, ByteArray.toList_eq]; rfl
      have hS2 : ((joinS l).toList.isEmpty) = true := by rw [hS, ByteArray.toList_eq]; rfl
      clear hJ
      go_wp2_with (go_at_call 11; refine (awake_any _).mono ?_; rintro e w' ⟨rfl, rfl⟩)
      go_ret
      exact ⟨rfl, hb13⟩
end Go.Proofs.Ytkdcjbgmodfmdaa
