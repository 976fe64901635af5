import Derived.Test.YtffgfjnbgplckaaUtf4
namespace Go.Proofs.Ytffgfjnbgplckaa
open Go.RowKit
def firsts : Nat → Int | 2 => 192 | 3 => 224 | 4 => 240 | _ => 0
def numStart (s : ByteArray) : Int := (nb s 0 : Int) - firsts s.size
/-- the number behind k bytes more than the first -/
def numFold (s : ByteArray) : Nat → Int | 0 => numStart s | k + 1 => numFold s k * 64 + (nb s (k + 1) : Int) - 128
def numberR (s : ByteArray) : Int := if numStart s < 0 then -1 else if right (numFold s (s.size - 1)) = true ∧ enc (numFold s (s.size - 1)) = s then numFold s (s.size - 1) else -1
theorem toList_ne {a b : ByteArray} (h : a ≠ b) : (a.toList == b.toList) = false := by
  rw [beq_eq_false_iff_ne, ByteArray.toList_eq, ByteArray.toList_eq]
  intro e; exact h (ByteArray.ext (Array.toList_inj.mp e))
set_option maxRecDepth 100000 in
set_option maxHeartbeats 1000000 in
theorem number1 (s : ByteArray) (hsz : s.size = 1) (w : World) :
    Calls Try.prog 107 #[.string s] w fun e w' => e = .returned (.int .i64 (numberR s)) ∧ Below w.heap.size w w' := by
  have HZ : Hid (numStart s = (nb s 0 : Int)) := by simp [Hid, numStart, firsts, hsz]
  have HF : Hid (numFold s (s.size - 1) = (nb s 0 : Int)) := by simp [Hid, numFold, numStart, firsts, hsz]
  have hnb := nb_eq s
  have h0 := nb_lt s 0
  go_enter Try.func107, Try.ntmps107
  go_wp2_with fail
  have hz : 0 ≤ (nb s 0 : Int) := by omega
  refine wp_loop_rounds 1 ?_
  repeat any_goals (rw [rounds_succ]; go_wp2_with fail)
  generalize hx : (nb s 0 : Int) = x at *
  by_cases hr : right x = true
  · by_cases he : enc x = s
    · have hb : ((enc x).toList == s.toList) = true := by rw [he]; simp
      have hfin : numberR s = x := by rw [numberR, if_neg (by rw [HZ.out]; omega), HF.out, if_pos ⟨hr, he⟩]
      have FIN := Lib.hid hfin
      clear he hfin
      refine (rright_any _ _).mono ?_
      rintro e w' ⟨rfl, rfl⟩
      go_wp2_with (go_at_call 109; refine (rput_any x hr _).mono ?_; rintro e w' ⟨rfl, hbel⟩)
      go_ret
      exact ⟨ret_int FIN.out.symm, ((Below.refl _ _).alloc (Nat.le_refl _) _).trans (hbel.mono (by simp))⟩
    · have hb := toList_ne he
      have hfin : numberR s = -1 := by rw [numberR, if_neg (by rw [HZ.out]; omega), HF.out, if_neg (fun h => he h.2)]
      have FIN := Lib.hid hfin
      clear he hfin
      refine (rright_any _ _).mono ?_
      rintro e w' ⟨rfl, rfl⟩
      go_wp2_with (go_at_call 109; refine (rput_any x hr _).mono ?_; rintro e w' ⟨rfl, hbel⟩)
      go_ret
      exact ⟨ret_int FIN.out.symm, ((Below.refl _ _).alloc (Nat.le_refl _) _).trans (hbel.mono (by simp))⟩
  · have hr' : right x = false := by simpa using hr
    have hfin : numberR s = -1 := by rw [numberR, if_neg (by rw [HZ.out]; omega), HF.out, if_neg (fun h => hr h.1)]
    have FIN := Lib.hid hfin
    clear hr hfin
    refine (rright_any _ _).mono ?_
    rintro e w' ⟨rfl, rfl⟩
    go_wp2_with fail
    go_ret
    exact ⟨ret_int FIN.out.symm, (Below.refl _ _).alloc (Nat.le_refl _) _⟩
set_option maxRecDepth 100000 in
set_option maxHeartbeats 1000000 in
theorem number2 (s : ByteArray) (hsz : s.size = 2) (w : World) :
    Calls Try.prog 107 #[.string s] w fun e w' => e = .returned (.int .i64 (numberR s)) ∧ Below w.heap.size w w' := by
  have HZ : Hid (numStart s = (nb s 0 : Int) - 192) := by simp [Hid, numStart, firsts, hsz]
  have HF : Hid (numFold s (s.size - 1) = ((nb s 0 : Int) - 192) * 64 + (nb s 1 : Int) - 128) := by simp [Hid, numFold, numStart, firsts, hsz]
  have hnb := nb_eq s
  have h0 := nb_lt s 0
  have h1 := nb_lt s 1
  go_enter Try.func107, Try.ntmps107
  go_wp2_with fail
  · go_ret
    exact ⟨ret_int (by have : (nb s 0 : Int) - 192 < 0 := by assumption
                       rw [numberR, if_pos (by rw [HZ.out]; exact this)]), (Below.refl _ _).alloc (Nat.le_refl _) _⟩
  · have hz : 0 ≤ (nb s 0 : Int) - 192 := by assumption
    refine wp_loop_rounds 2 ?_
    repeat any_goals (rw [rounds_succ]; go_wp2_with fail)
    generalize hx : ((nb s 0 : Int) - 192) * 64 + (nb s 1 : Int) - 128 = x at *
    by_cases hr : right x = true
    · by_cases he : enc x = s
      · have hb : ((enc x).toList == s.toList) = true := by rw [he]; simp
        have hfin : numberR s = x := by rw [numberR, if_neg (by rw [HZ.out]; omega), HF.out, if_pos ⟨hr, he⟩]
        have FIN := Lib.hid hfin
        clear he hfin
        refine (rright_any _ _).mono ?_
        rintro e w' ⟨rfl, rfl⟩
        go_wp2_with (go_at_call 109; refine (rput_any x hr _).mono ?_; rintro e w' ⟨rfl, hbel⟩)
        go_ret
        exact ⟨ret_int FIN.out.symm, ((Below.refl _ _).alloc (Nat.le_refl _) _).trans (hbel.mono (by simp))⟩
      · have hb := toList_ne he
        have hfin : numberR s = -1 := by rw [numberR, if_neg (by rw [HZ.out]; omega), HF.out, if_neg (fun h => he h.2)]
        have FIN := Lib.hid hfin
        clear he hfin
        refine (rright_any _ _).mono ?_
        rintro e w' ⟨rfl, rfl⟩
        go_wp2_with (go_at_call 109; refine (rput_any x hr _).mono ?_; rintro e w' ⟨rfl, hbel⟩)
        go_ret
        exact ⟨ret_int FIN.out.symm, ((Below.refl _ _).alloc (Nat.le_refl _) _).trans (hbel.mono (by simp))⟩
    · have hr' : right x = false := by simpa using hr
      have hfin : numberR s = -1 := by rw [numberR, if_neg (by rw [HZ.out]; omega), HF.out, if_neg (fun h => hr h.1)]
      have FIN := Lib.hid hfin
      clear hr hfin
      refine (rright_any _ _).mono ?_
      rintro e w' ⟨rfl, rfl⟩
      go_wp2_with fail
      go_ret
      exact ⟨ret_int FIN.out.symm, (Below.refl _ _).alloc (Nat.le_refl _) _⟩
set_option maxRecDepth 100000 in
set_option maxHeartbeats 1000000 in
theorem number3 (s : ByteArray) (hsz : s.size = 3) (w : World) :
    Calls Try.prog 107 #[.string s] w fun e w' => e = .returned (.int .i64 (numberR s)) ∧ Below w.heap.size w w' := by
  have HZ : Hid (numStart s = (nb s 0 : Int) - 224) := by simp [Hid, numStart, firsts, hsz]
  have HF : Hid (numFold s (s.size - 1) = (((nb s 0 : Int) - 224) * 64 + (nb s 1 : Int) - 128) * 64 + (nb s 2 : Int) - 128) := by simp [Hid, numFold, numStart, firsts, hsz]
  have hnb := nb_eq s
  have h0 := nb_lt s 0
  have h1 := nb_lt s 1
  have h2 := nb_lt s 2
  go_enter Try.func107, Try.ntmps107
  go_wp2_with fail
  · go_ret
    exact ⟨ret_int (by have : (nb s 0 : Int) - 224 < 0 := by assumption
                       rw [numberR, if_pos (by rw [HZ.out]; exact this)]), (Below.refl _ _).alloc (Nat.le_refl _) _⟩
  · have hz : 0 ≤ (nb s 0 : Int) - 224 := by assumption
    refine wp_loop_rounds 3 ?_
    repeat any_goals (rw [rounds_succ]; go_wp2_with fail)
    generalize hx : (((nb s 0 : Int) - 224) * 64 + (nb s 1 : Int) - 128) * 64 + (nb s 2 : Int) - 128 = x at *
    by_cases hr : right x = true
    · by_cases he : enc x = s
      · have hb : ((enc x).toList == s.toList) = true := by rw [he]; simp
        have hfin : numberR s = x := by rw [numberR, if_neg (by rw [HZ.out]; omega), HF.out, if_pos ⟨hr, he⟩]
        have FIN := Lib.hid hfin
        clear he hfin
        refine (rright_any _ _).mono ?_
        rintro e w' ⟨rfl, rfl⟩
        go_wp2_with (go_at_call 109; refine (rput_any x hr _).mono ?_; rintro e w' ⟨rfl, hbel⟩)
        go_ret
        exact ⟨ret_int FIN.out.symm, ((Below.refl _ _).alloc (Nat.le_refl _) _).trans (hbel.mono (by simp))⟩
      · have hb := toList_ne he
        have hfin : numberR s = -1 := by rw [numberR, if_neg (by rw [HZ.out]; omega), HF.out, if_neg (fun h => he h.2)]
        have FIN := Lib.hid hfin
        clear he hfin
        refine (rright_any _ _).mono ?_
        rintro e w' ⟨rfl, rfl⟩
        go_wp2_with (go_at_call 109; refine (rput_any x hr _).mono ?_; rintro e w' ⟨rfl, hbel⟩)
        go_ret
        exact ⟨ret_int FIN.out.symm, ((Below.refl _ _).alloc (Nat.le_refl _) _).trans (hbel.mono (by simp))⟩
    · have hr' : right x = false := by simpa using hr
      have hfin : numberR s = -1 := by rw [numberR, if_neg (by rw [HZ.out]; omega), HF.out, if_neg (fun h => hr h.1)]
      have FIN := Lib.hid hfin
      clear hr hfin
      refine (rright_any _ _).mono ?_
      rintro e w' ⟨rfl, rfl⟩
      go_wp2_with fail
      go_ret
      exact ⟨ret_int FIN.out.symm, (Below.refl _ _).alloc (Nat.le_refl _) _⟩
set_option maxRecDepth 100000 in
set_option maxHeartbeats 1000000 in
theorem number4 (s : ByteArray) (hsz : s.size = 4) (w : World) :
    Calls Try.prog 107 #[.string s] w fun e w' => e = .returned (.int .i64 (numberR s)) ∧ Below w.heap.size w w' := by
  have HZ : Hid (numStart s = (nb s 0 : Int) - 240) := by simp [Hid, numStart, firsts, hsz]
  have HF : Hid (numFold s (s.size - 1) = ((((nb s 0 : Int) - 240) * 64 + (nb s 1 : Int) - 128) * 64 + (nb s 2 : Int) - 128) * 64 + (nb s 3 : Int) - 128) := by simp [Hid, numFold, numStart, firsts, hsz]
  have hnb := nb_eq s
  have h0 := nb_lt s 0
  have h1 := nb_lt s 1
  have h2 := nb_lt s 2
  have h3 := nb_lt s 3
  go_enter Try.func107, Try.ntmps107
  go_wp2_with fail
  · go_ret
    exact ⟨ret_int (by have : (nb s 0 : Int) - 240 < 0 := by assumption
                       rw [numberR, if_pos (by rw [HZ.out]; exact this)]), (Below.refl _ _).alloc (Nat.le_refl _) _⟩
  · have hz : 0 ≤ (nb s 0 : Int) - 240 := by assumption
    refine wp_loop_rounds 4 ?_
    repeat any_goals (rw [rounds_succ]; go_wp2_with fail)
    generalize hx : ((((nb s 0 : Int) - 240) * 64 + (nb s 1 : Int) - 128) * 64 + (nb s 2 : Int) - 128) * 64 + (nb s 3 : Int) - 128 = x at *
    by_cases hr : right x = true
    · by_cases he : enc x = s
      · have hb : ((enc x).toList == s.toList) = true := by rw [he]; simp
        have hfin : numberR s = x := by rw [numberR, if_neg (by rw [HZ.out]; omega), HF.out, if_pos ⟨hr, he⟩]
        have FIN := Lib.hid hfin
        clear he hfin
        refine (rright_any _ _).mono ?_
        rintro e w' ⟨rfl, rfl⟩
        go_wp2_with (go_at_call 109; refine (rput_any x hr _).mono ?_; rintro e w' ⟨rfl, hbel⟩)
        go_ret
        exact ⟨ret_int FIN.out.symm, ((Below.refl _ _).alloc (Nat.le_refl _) _).trans (hbel.mono (by simp))⟩
      · have hb := toList_ne he
        have hfin : numberR s = -1 := by rw [numberR, if_neg (by rw [HZ.out]; omega), HF.out, if_neg (fun h => he h.2)]
        have FIN := Lib.hid hfin
        clear he hfin
        refine (rright_any _ _).mono ?_
        rintro e w' ⟨rfl, rfl⟩
        go_wp2_with (go_at_call 109; refine (rput_any x hr _).mono ?_; rintro e w' ⟨rfl, hbel⟩)
        go_ret
        exact ⟨ret_int FIN.out.symm, ((Below.refl _ _).alloc (Nat.le_refl _) _).trans (hbel.mono (by simp))⟩
    · have hr' : right x = false := by simpa using hr
      have hfin : numberR s = -1 := by rw [numberR, if_neg (by rw [HZ.out]; omega), HF.out, if_neg (fun h => hr h.1)]
      have FIN := Lib.hid hfin
      clear hr hfin
      refine (rright_any _ _).mono ?_
      rintro e w' ⟨rfl, rfl⟩
      go_wp2_with fail
      go_ret
      exact ⟨ret_int FIN.out.symm, (Below.refl _ _).alloc (Nat.le_refl _) _⟩
theorem number_any (s : ByteArray) (h0 : 1 ≤ s.size) (h4 : s.size ≤ 4) (w : World) :
    Calls Try.prog 107 #[.string s] w fun e w' => e = .returned (.int .i64 (numberR s)) ∧ Below w.heap.size w w' := by
  have h : s.size = 1 ∨ s.size = 2 ∨ s.size = 3 ∨ s.size = 4 := by omega
  rcases h with h | h | h | h
  · exact number1 s h w
  · exact number2 s h w
  · exact number3 s h w
  · exact number4 s h w
end Go.Proofs.Ytffgfjnbgplckaa
