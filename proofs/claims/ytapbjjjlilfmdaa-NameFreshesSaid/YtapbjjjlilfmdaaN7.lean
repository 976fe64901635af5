import Derived.Test.YtapbjjjlilfmdaaN6
namespace Go.Proofs.Ytapbjjjlilfmdaa
open Go.RowKit
theorem slc_take {w : World} {a : Option Addr} {n c : Nat} {xs : List Value} (h : Slc w (.slice a n c) xs) (m : Nat) (hm : m ≤ n) : Slc w (.slice a m c) (xs.take m) := by
  obtain ⟨a', c', hv, hl, hc⟩ := h
  simp only [Value.slice.injEq] at hv
  obtain ⟨rfl, rfl, rfl⟩ := hv
  have e : (xs.take m).length = m := by rw [List.length_take]; omega
  refine ⟨a, c, by rw [e], by omega, fun hne => ?_⟩
  obtain ⟨b, off, ha, hcell⟩ := hc (fun e => hne (by rw [e]; simp))
  refine ⟨b, off, ha, fun i hi => ?_⟩
  rw [e] at hi
  rw [hcell i (by omega), List.getElem?_take_of_lt hi]
theorem all_shape2 (s : ByteArray) (hs : s.size ≤ maxLen) (w : World) :
    Calls Try.prog 34 #[.string s] w fun e w' => ∃ a c L, e = .returned (.tuple #[.slice a L c, .int .i64 (allAt s), .int .i64 (allE s)]) ∧ Hid ((allS s).length = L) ∧ L ≤ 9223372036854775807 ∧ L ≤ c ∧ Slc w' (.slice a L c) ((allS s).map (Value.int .i64)) ∧ Below w.heap.size w w' := by
  refine (all_any s hs w).mono ?_
  rintro e w' ⟨v, rfl, ho, hb⟩
  have hS := Slc.own ho
  obtain ⟨a, c, hv, hl, -⟩ := slc_shape hS
  rw [List.length_map] at hv hl
  have hc : (allS s).length ≤ c := by
    rcases ho.2 with ⟨h1, h2⟩ | ⟨g, cap, cur, h1, _, _, h2, _⟩
    · omega
    · rw [hv] at h1
      simp only [Value.slice.injEq] at h1
      omega
  subst hv
  exact ⟨a, c, _, rfl, rfl, hl, hc, hS, hb⟩
/-- how many signs are left -/
def cutN (l : List Int) (d : Nat) : Nat → Nat | 0 => 0 | k + 1 => if (joinB (l.take (k + 1))).length + d ≤ 40 then k + 1 else cutN l d k
def numS (s : ByteArray) (n : Nat) : ByteArray := strOfNums (joinB ((allS s).take (cutN (allS s) (decS n).size (allS s).length))) ++ decS n
theorem join_take (s : ByteArray) (hE : allE s = 0) (h40 : s.size ≤ 40) (k : Nat) : joinS ((allS s).take k) = strOfNums (joinB ((allS s).take k)) ∧ (joinB ((allS s).take k)).length ≤ 40 := by
  obtain ⟨h1, h2⟩ := back_text s hE
  have hr : (allS s).all right = true := by
    unfold joinE at h1
    split at h1
    · assumption
    · omega
  have hsz : (joinB (allS s)).length = s.size := by
    rw [joinS, if_pos h1] at h2
    rw [← strOfNums_size, h2]
  have hle := joinB_le (allS s) k
  refine ⟨?_, by omega⟩
  rw [joinS, if_pos]
  unfold joinE
  rw [if_pos, if_neg (by omega)]
  rw [List.all_eq_true] at hr ⊢
  exact fun x hx => hr x (List.mem_of_mem_take hx)
set_option maxRecDepth 100000 in
set_option maxHeartbeats 1000000 in
theorem numbered_any (s : ByteArray) (hE : allE s = 0) (h40 : s.size ≤ 40) (n : Nat) (hn : n ≤ 1000000000) (w : World) :
    Calls Try.prog 38 #[.string s, .int .i64 n] w fun e w' => e = .returned (.string (numS s n)) ∧ Below w.heap.size w w' := by
  have hd := decS_size n hn
  go_enter Try.func38, Try.ntmps38
  go_wp2_with fail
  refine (decimal_any n w hn).mono ?_
  rintro e w1 ⟨rfl, hb1⟩
  go_wp2_with fail
  refine (all_shape2 s (by unfold maxLen; omega) w1).mono ?_
  rintro e w2 ⟨a, c, L, rfl, hL, hl, hc, hS, hb2⟩
  have hw2 := Lib.hid (hb1.trans (hb2.mono hb1.size))
  have hjoin := Lib.hid (join_take s hE h40)
  have hsj : Hid (s = strOfNums (joinB ((allS s).take L))) := by
    show _ = _
    have h := (hjoin.out L).1
    rw [← h, List.take_of_length_le (by rw [hL.out]; exact Nat.le_refl _)]
    exact (back_text s hE).2.symm
  go_wp2_with fail
  clear hb1 hb2
  go_loopw [0, 6] (fun v u wr => ∃ (k : Nat), k ≤ L ∧ v = .string (strOfNums (joinB ((allS s).take k))) ∧ u = .slice a k c ∧ Hid (cutN (allS s) (decS n).size k = cutN (allS s) (decS n).size L) ∧ Hid (Below w.heap.size w wr) ∧ Hid (Below w2.heap.size w2 wr)) (fun _ u _ => match u with | .slice _ m _ => m | _ => 0)
  case atStart => exact ⟨L, Nat.le_refl _, congrArg Value.string hsj.out, rfl, rfl, hw2.out, Below.refl _ _⟩
  case round =>
    obtain ⟨k, hk, rfl, rfl, hcut, hbel, hb2⟩ := hrel
    have hsz := (hjoin.out k).2
    have hsz2 : Hid ((strOfNums (joinB ((allS s).take k))).size = (joinB ((allS s).take k)).length) := strOfNums_size _
    obtain ⟨t, ht⟩ : ∃ t, t = strOfNums (joinB ((allS s).take k)) := ⟨_, rfl⟩
    rw [← ht] at hsz2 ⊢
    have htl : t.size ≤ 40 := by rw [hsz2.out]; exact hsz
    have HT := Lib.hid ht
    clear ht
    by_cases hgt : 40 < (t.size : Int) + (decS n).size
    · cases k with
      | zero =>
        exfalso
        have h1 := hsz2.out
        have h2 : (joinB ((allS s).take 0)).length = 0 := by simp [joinB]
        omega
      | succ k =>
        have J := Lib.hid (join_any ((allS s).take k) (.slice a k c) wr (Slc.later (by rw [List.map_take]; exact slc_take hS k (by omega)) hb2.out))
        rw [(hjoin.out k).1] at J
        go_wp2_with fail
        refine J.out.mono ?_
        rintro e w3 ⟨rfl, hb3⟩
        have hbz := Lib.hid (hbel.out.trans (hb3.mono hbel.out.size))
        have hbz2 := Lib.hid (hb2.out.trans (hb3.mono hb2.out.size))
        clear hb3
        go_wp2_with fail
        go_roundw
        case rel =>
          refine ⟨k, by omega, rfl, rfl, ?_, hbz.out, hbz2.out⟩
          have h := hcut.out
          rw [cutN, if_neg (by have := hsz2.out; omega)] at h
          exact h
        case measure => exact Nat.lt_succ_self k
    · have fin : Hid (t ++ decS n = numS s n) := by
        show _ = _
        unfold numS
        rw [HT.out]
        congr 3
        rw [hL.out, ← hcut.out]
        cases k with
        | zero => rfl
        | succ k =>
          rw [cutN, if_pos]
          have := hsz2.out
          omega
      go_wp2_with fail
      go_ret
      exact ⟨ret_str fin.out, hbel.out⟩
end Go.Proofs.Ytapbjjjlilfmdaa
