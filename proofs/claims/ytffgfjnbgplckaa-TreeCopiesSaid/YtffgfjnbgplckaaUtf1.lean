import Derived.Test.YtffgfjnbgplckaaRows
import Derived.Test.YtffgfjnbgplckaaUtf0
import Derived.Test.YtffgfjnbgplckaaK0
import Derived.WalkKit
import Derived.WalkSpells
import Derived.Lib.Hide
import Derived.WalkLawsBesides
namespace Go.Proofs.Ytffgfjnbgplckaa
open Go.RowKit
set_option maxHeartbeats 400000 in
theorem right_any (n : Int) (w : World) :
    Calls Try.prog 99 #[.int .i64 n] w fun e w' => e = .returned (.bool (right n)) ∧ w = w' := by
  go_enter Try.func99, Try.ntmps99
  go_wp2
  all_goals go_ret
  all_goals refine ⟨ret_bool ?_, rfl⟩
  all_goals (unfold right; rw [Bool.eq_iff_iff]; simp; omega)

set_option maxHeartbeats 400000 in
theorem rright_any (n : Int) (w : World) :
    Calls Try.prog 102 #[.int .i64 n] w fun e w' => e = .returned (.bool (right n)) ∧ w = w' := by
  go_enter Try.func102, Try.ntmps102
  go_wp2
  all_goals go_ret
  all_goals refine ⟨ret_bool ?_, rfl⟩
  all_goals (unfold right; rw [Bool.eq_iff_iff]; simp; omega)

set_option maxHeartbeats 400000 in
theorem width_any (n : Int) (w : World) :
    Calls Try.prog 106 #[.int .i64 n] w fun e w' => e = .returned (.int .i64 (width n)) ∧ w = w' := by
  go_enter Try.func106, Try.ntmps106
  go_wp2
  all_goals go_ret
  all_goals refine ⟨ret_int ?_, rfl⟩
  all_goals (unfold width; repeat' split) <;> first | rfl | omega

set_option maxHeartbeats 400000 in
theorem lead_any (c : Int) (h0 : 0 ≤ c) (h1 : c ≤ 255) (w : World) :
    Calls Try.prog 105 #[.int .u8 c] w fun e w' => e = .returned (.tuple #[.int .i64 (leadW c), .int .i64 (leadB c)]) ∧ w = w' := by
  go_enter Try.func105, Try.ntmps105
  go_wp2
  all_goals go_ret2
  all_goals refine ⟨ret_int2 ?_ ?_, rfl⟩
  all_goals (simp only [leadW, leadB]; repeat' split) <;> first | rfl | omega


set_option maxRecDepth 100000 in
theorem next_any (s : ByteArray) (hs : s.size ≤ maxLen) (i : Int) (w : World) :
    Calls Try.prog 97 #[.string s, .int .i64 i] w fun e w' => e = .returned (.tuple #[.int .i64 (nextN s i), .int .i64 (nextW s i), .int .i64 (nextE s i)]) ∧ w = w' := by
  unfold maxLen at hs
  by_cases hi : 0 ≤ i ∧ i < s.size
  · obtain ⟨n, rfl⟩ := Int.eq_ofNat_of_zero_le hi.1
    have hlt : n < s.size := by omega
    clear hi
    by_cases hz : leadW (s[n].toNat) = 0 ∨ (s.size : Int) - n < leadW (s[n].toNat)
    · have hfin : decAt s n = none := by
        rw [decAt_cons s n hlt, ← nb_eq s n hlt]
        simp only [dec, tl_length]; rw [if_pos (by omega)]
      have fin : Hid (nextN s n = 0 ∧ nextW s n = 0 ∧ nextE s n = 1) := by
        simp only [Hid, nextN, nextW, nextE, hfin]; exact ⟨trivial, trivial, trivial⟩
      have HZ := Lib.hid hz
      clear hfin hz
      go_enter Try.func97, Try.ntmps97
      go_wp2_with (go_at_call 105; refine (lead_any _ (Int.natCast_nonneg _) (by have := s[n].toNat_lt; omega) _).mono ?_; rintro e w' ⟨rfl, rfl⟩)
      · go_ret3
        exact ⟨ret_int3 fin.out.1.symm fin.out.2.1.symm fin.out.2.2.symm, rfl⟩
      · go_ret3
        exact ⟨ret_int3 fin.out.1.symm fin.out.2.1.symm fin.out.2.2.symm, rfl⟩
      · have hbad : (leadW ↑s[n].toNat == 0) = false ∧ leadW ↑s[n].toNat ≤ ↑s.size - ↑n := by assumption
        have h1 : ¬ leadW ↑s[n].toNat = 0 := by simpa using hbad.1
        rcases HZ.out with h | h
        · exact absurd h h1
        · have := hbad.2; omega
    · have hz1 : (leadW (s[n].toNat) == 0) = false := by simp; omega
      have hz2 : leadW (s[n].toNat) ≤ (s.size : Int) - n := by omega
      have hw4 := (leadW_le s[n].toNat).2
      have hb := leadB_le s[n].toNat (Int.natCast_nonneg _)
      have hlead : Hid (leadW (s[n].toNat) ≠ 0) := by show leadW (s[n].toNat) ≠ 0; simpa using hz1
      clear hz
      go_enter Try.func97, Try.ntmps97
      go_wp2_with (go_at_call 105; refine (lead_any _ (Int.natCast_nonneg _) (by have := s[n].toNat_lt; omega) _).mono ?_; rintro e w' ⟨rfl, rfl⟩)
      go_loop [8, 9] (fun a i => ∃ k : Nat, 1 ≤ k ∧ (k:Int) ≤ leadW (s[n].toNat) ∧ i = .int .i64 k ∧ a = .int .i64 (accs (leadB s[n].toNat) ((tl s n).take (k-1))) ∧ conts ((tl s n).take (k-1)) = true)
         (fun _ i => 4 - (intOf i).toNat)
      case atStart => exact ⟨1, Nat.le_refl _, by have := (leadW_le s[n].toNat).1; have := hlead.out; omega, rfl, rfl, rfl⟩
      case round =>
        obtain ⟨k, hk, hk2, rfl, rfl, hc⟩ := hrel
        have HC := Lib.hid hc; clear hc
        have hkl : n + k ≤ s.size := by omega
        go_wp2_with fail
        case roundEnd =>
          have hlt : (k : Int) < leadW s[n].toNat := by assumption
          have hnk : n + k < s.size := by omega
          have hcont : (bits BinOp.and IntKind.u8 (↑s[n + k].toNat) 192 != 128) = false := by assumption
          rw [and_cont _ s[n+k].toNat_lt] at hcont
          have hkt : k - 1 < (tl s n).length := by rw [tl_length]; omega
          have hg : (tl s n).getD (k-1) 0 = s[n+k].toNat := by rw [tl_get, nb_eq]; congr 1; omega
          have hsn : (tl s n).take k = (tl s n).take (k-1) ++ [s[n+k].toNat] := by
            rw [← hg, ← take_snoc _ _ _ hkt]; congr 1; omega
          refine ⟨⟨k + 1, by omega, by omega, rfl, ?_, ?_⟩, by simp [intOf]; omega⟩
          · have hacc := accs_lt ((tl s n).take (k-1)) (leadB s[n].toNat) hb.2
            have hlen : ((tl s n).take (k-1)).length ≤ 2 := by rw [List.length_take]; omega
            have hp : (64:Int) ^ ((tl s n).take (k-1)).length ≤ 64 ^ 2 := by
              have : ((tl s n).take (k-1)).length = 0 ∨ ((tl s n).take (k-1)).length = 1 ∨ ((tl s n).take (k-1)).length = 2 := by omega
              rcases this with h | h | h <;> rw [h] <;> decide
            rw [or_acc _ (accs_nonneg _ _ hb.1) (by omega) _ s[n+k].toNat_lt, Nat.add_sub_cancel, hsn, accs_snoc]
          · rw [Nat.add_sub_cancel, hsn, conts_snoc, HC.out]; simpa using hcont
        · have hlt : (k : Int) < leadW s[n].toNat := by assumption
          have hnk : n + k < s.size := by omega
          have hcont : (bits BinOp.and IntKind.u8 (↑s[n + k].toNat) 192 != 128) = true := by assumption
          rw [and_cont _ s[n+k].toNat_lt] at hcont
          have hkt : k - 1 < (tl s n).length := by rw [tl_length]; omega
          have hg : (tl s n).getD (k-1) 0 = s[n+k].toNat := by rw [tl_get, nb_eq]; congr 1; omega
          have hcf : conts ((tl s n).take (leadW s[n].toNat - 1).toNat) = false := by
            have hmem : s[n+k].toNat ∈ (tl s n).take (leadW s[n].toNat - 1).toNat := by
              rw [← hg, List.mem_take_iff_getElem]
              refine ⟨k - 1, by omega, ?_⟩
              rw [List.getD_eq_getElem?_getD, List.getElem?_eq_getElem hkt]; rfl
            unfold conts
            rw [List.all_eq_false]
            exact ⟨_, hmem, by simpa using hcont⟩
          have hnone : decAt s n = none := by
            rw [decAt_cons s n (by omega), ← nb_eq s n (by omega)]
            simp only [dec, tl_length, hcf]
            rw [if_neg (by have := hlead.out; omega), if_neg (by simp)]
          go_ret3
          exact ⟨ret_int3 (by simp only [nextN, hnone]) (by simp only [nextW, hnone]) (by simp only [nextE, hnone]), rfl⟩
        · have hge : leadW s[n].toNat ≤ k := by assumption
          have hkw : (k : Int) = leadW s[n].toNat := by omega
          have hk1 : (leadW s[n].toNat - 1).toNat = k - 1 := by omega
          have hD : decAt s n = if right (accs (leadB s[n].toNat) ((tl s n).take (k-1))) = true ∧ width (accs (leadB s[n].toNat) ((tl s n).take (k-1))) = leadW s[n].toNat then some (accs (leadB s[n].toNat) ((tl s n).take (k-1)), leadW s[n].toNat) else none := by
            rw [decAt_cons s n (by omega), ← nb_eq s n (by omega)]
            simp only [dec, tl_length, hk1, HC.out]
            rw [if_neg (by have := hlead.out; omega)]; simp only [true_and]
          have HD := Lib.hid hD; clear hD
          generalize accs (leadB s[n].toNat) ((tl s n).take (k-1)) = x at *
          clear hkw hk1
          by_cases hr : right x = true
          · by_cases hwd : width x = leadW s[n].toNat
            · have hS : decAt s n = some (x, leadW s[n].toNat) := by rw [HD.out, if_pos ⟨hr, hwd⟩]
              have fin : Hid (nextN s n = x ∧ nextW s n = leadW s[n].toNat ∧ nextE s n = 0) := by
                simp only [Hid, nextN, nextW, nextE, hS]; exact ⟨trivial, trivial, trivial⟩
              have hb1 : (width x != leadW s[n].toNat) = false := by rw [hwd]; simp
              clear hS HD hwd
              refine (right_any _ _).mono ?_
              rintro e w' ⟨rfl, rfl⟩
              go_wp2_with (go_at_call 106; refine (width_any _ _).mono ?_; rintro e w' ⟨rfl, rfl⟩)
              go_ret3
              exact ⟨ret_int3 fin.out.1.symm fin.out.2.1.symm fin.out.2.2.symm, rfl⟩
            · have hS : decAt s n = none := by rw [HD.out, if_neg (fun h => hwd h.2)]
              have fin : Hid (nextN s n = 0 ∧ nextW s n = 0 ∧ nextE s n = 1) := by
                simp only [Hid, nextN, nextW, nextE, hS]; exact ⟨trivial, trivial, trivial⟩
              have hb1 : (width x != leadW s[n].toNat) = true := by simpa using hwd
              clear hS HD hwd
              refine (right_any _ _).mono ?_
              rintro e w' ⟨rfl, rfl⟩
              go_wp2_with (go_at_call 106; refine (width_any _ _).mono ?_; rintro e w' ⟨rfl, rfl⟩)
              go_ret3
              exact ⟨ret_int3 fin.out.1.symm fin.out.2.1.symm fin.out.2.2.symm, rfl⟩
          · have hS : decAt s n = none := by rw [HD.out, if_neg (fun h => hr h.1)]
            have fin : Hid (nextN s n = 0 ∧ nextW s n = 0 ∧ nextE s n = 1) := by
              simp only [Hid, nextN, nextW, nextE, hS]; exact ⟨trivial, trivial, trivial⟩
            have hr' : right x = false := by simpa using hr
            clear hS HD hr
            refine (right_any _ _).mono ?_
            rintro e w' ⟨rfl, rfl⟩
            go_wp2_with fail
            go_ret3
            exact ⟨ret_int3 fin.out.1.symm fin.out.2.1.symm fin.out.2.2.symm, rfl⟩
  · have hfin : decAt s i = none := by unfold decAt; rw [if_neg hi]
    have fin : Hid (nextN s i = 0 ∧ nextW s i = 0 ∧ nextE s i = 1) := by
        simp only [Hid, nextN, nextW, nextE, hfin]; exact ⟨trivial, trivial, trivial⟩
    clear hfin
    by_cases h0 : i < 0
    · go_enter Try.func97, Try.ntmps97
      go_wp2
      go_ret3
      exact ⟨ret_int3 fin.out.1.symm fin.out.2.1.symm fin.out.2.2.symm, rfl⟩
    · have h1 : (s.size : Int) ≤ i := by omega
      clear hi
      go_enter Try.func97, Try.ntmps97
      go_wp2
      go_ret3
      exact ⟨ret_int3 fin.out.1.symm fin.out.2.1.symm fin.out.2.2.symm, rfl⟩
end Go.Proofs.Ytffgfjnbgplckaa
