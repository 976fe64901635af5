import Derived.Test.YtapbjjjlilfmdaaN8
namespace Go.Proofs.Ytapbjjjlilfmdaa
open Go.RowKit Go.WideMaps
theorem encN_last (x : Int) (hr : right x = true) (r : List Nat) (c : Nat) (h : encN x = r ++ [c]) (hc : digitB c = true) : r = [] := by
  have hc' := of_decide_eq_true hc
  rcases ranges x hr with h1 | h1 | h1 | h1
  · unfold encN at h
    rw [encL1 x (by omega)] at h
    have := congrArg List.length h
    simp at this
    exact this
  · exfalso
    unfold encN at h
    rw [encL2 x (by omega) (by omega)] at h
    have := congrArg List.getLast? h
    simp at this
    omega
  · exfalso
    unfold encN at h
    rw [encL3 x (by omega) (by omega)] at h
    have := congrArg List.getLast? h
    simp at this
    omega
  · exfalso
    unfold encN at h
    rw [encL4 x (by omega)] at h
    have := congrArg List.getLast? h
    simp at this
    omega
theorem nil_or_snoc {α : Type} (l : List α) : l = [] ∨ ∃ m a, l = m ++ [a] := by
  rcases List.eq_nil_or_concat l with h | ⟨m, a, h⟩
  · exact .inl h
  · exact .inr ⟨m, a, by rw [h, List.concat_eq_append]⟩
theorem take_snoc_nb (s : ByteArray) (n : Nat) (h : n < s.size) : (nats s).take (n + 1) = (nats s).take n ++ [nb s n] := by
  have h' : n < (nats s).length := by rw [nats_length]; exact h
  rw [take_snoc (nats s) n 0 h']
  rfl
theorem stem_valid (s : ByteArray) : ∀ (n : Nat) (l : List Int), n ≤ s.size → l.all right = true → (nats s).take n = joinN l → ∃ l', l'.all right = true ∧ (nats s).take (stemN s n) = joinN l' := by
  intro n
  induction n with
  | zero => intro l _ hr h; exact ⟨l, hr, h⟩
  | succ n ih =>
    intro l hn hr h
    simp only [stemN]
    split
    · rename_i hd
      rw [take_snoc_nb s n (by omega)] at h
      rcases nil_or_snoc l with rfl | ⟨m, x, rfl⟩
      · simp [joinN] at h
      · rw [List.all_append, Bool.and_eq_true] at hr
        have hx : right x = true := by simpa using hr.2
        have hj : joinN (m ++ [x]) = joinN m ++ encN x := by simp [joinN]
        rw [hj] at h
        rcases nil_or_snoc (encN x) with he | ⟨r, c, he⟩
        · have := encN_length x hx
          have := width_le x
          rw [he] at *
          simp at *
          omega
        · rw [he, ← List.append_assoc] at h
          obtain ⟨h1, h2⟩ := List.append_inj' h rfl
          simp at h2
          have hr0 := encN_last x hx r c he (by rw [← h2]; exact hd)
          rw [hr0, List.append_nil] at h1
          exact ih m (by omega) hr.1 h1
    · exact ⟨l, hr, h⟩
theorem stem_ok (s : ByteArray) (hE : allE s = 0) (h40 : s.size ≤ 40) : allE (stemS s) = 0 ∧ (stemS s).size ≤ 40 := by
  have hle := stemN_le s s.size
  have hsz : (stemS s).size = stemN s s.size := by unfold stemS; simp; omega
  refine ⟨?_, by omega⟩
  have hA : (allA s).2.2 = true := by
    unfold allE at hE
    rw [if_neg (by omega)] at hE
    split at hE
    · assumption
    · omega
  obtain ⟨h1, h2⟩ := all_signs s s.size 0 (Nat.zero_le _) (by omega) hA
  rw [List.drop_zero] at h2
  obtain ⟨l, hr, hl⟩ := stem_valid s s.size _ (Nat.le_refl _) h1 (by rw [List.take_of_length_le (by rw [nats_length]; exact Nat.le_refl _)]; exact h2)
  have hn : nats (stemS s) = joinN l := by
    have := nats_extract s 0 (stemN s s.size)
    rw [Nat.zero_add, List.drop_zero] at this
    unfold stemS
    rw [this, hl]
  have he : stemS s = strOfNums (joinB l) := nats_inj (by rw [hn, nats_join l hr])
  have hjl : (joinB l).length ≤ 40 := by rw [← strOfNums_size, ← he]; omega
  have hjE : joinE l = 0 := by unfold joinE; rw [if_pos hr, if_neg (by omega)]
  have := (back_signs l hjE).1
  rw [joinS, if_pos hjE, ← he] at this
  exact this
theorem Seen.later {w w' : World} {b n : Nat} {l : List ByteArray} (h : Seen w b l) (hb : Below n w w') (hn : b < n) : Seen w' b l := by
  obtain ⟨D, ⟨es, clock, h1, h2⟩, h3⟩ := h
  exact ⟨D, ⟨es, clock, (hb.block b hn).trans h1, h2⟩, h3⟩
theorem Seen.lt {w : World} {b : Nat} {l : List ByteArray} (h : Seen w b l) : b < w.heap.size := by
  obtain ⟨D, h1, _⟩ := h
  exact h1.lt
theorem numS_size (s : ByteArray) (hE : allE s = 0) (h40 : s.size ≤ 40) (n : Nat) (hn : n ≤ 1000000000) : (numS s n).size ≤ 50 := by
  unfold numS
  have h1 := decS_size n hn
  have h2 := (join_take s hE h40 (cutN (allS s) (decS n).size (allS s).length)).2
  rw [ByteArray.size_append, strOfNums_size]
  omega
/-- what 'Fresh' tells; N is the first number that is free -/
def freshS (s : ByteArray) (l : List ByteArray) (N : Nat) : ByteArray := if rightN s = true then if 8192 < l.length then ⟨#[]⟩ else if cnt l s = 0 then s else numS (stemS s) N else ⟨#[]⟩
def freshE (s : ByteArray) (l : List ByteArray) : Int := if rightN s = true then if 8192 < l.length then 2 else 0 else 1
theorem rightN_ok (s : ByteArray) (h : rightN s = true) : allE s = 0 ∧ s.size ≤ 40 := by
  unfold rightN at h
  simp only [Bool.and_eq_true, beq_iff_eq, decide_eq_true_eq] at h
  exact ⟨h.1.1.1.1, h.1.1.1.2.2⟩
set_option maxRecDepth 100000 in
set_option maxHeartbeats 4000000 in
theorem fresh_any (s : ByteArray) (hs : s.size ≤ maxLen) (l : List ByteArray) (v : Value) (w : World) (hv : Slc w v (l.map Value.string)) (hsz : ∀ x ∈ l, x.size ≤ maxLen) (N : Nat)
    (hN : rightN s = true → l.length ≤ 8192 → cnt l s ≠ 0 → 1 ≤ N ∧ N ≤ 1000000 ∧ cnt l (numS (stemS s) N) = 0 ∧ ∀ n, 1 ≤ n → n < N → cnt l (numS (stemS s) n) ≠ 0) :
    Calls Try.prog 16 #[.string s, v] w fun e w' => e = .returned (.tuple #[.string (freshS s l N), .int .i64 (freshE s l)]) ∧ Below w.heap.size w w' := by
  have hmm := @run_makeMap Try.prog
  obtain ⟨a, cap, rfl, hll, -⟩ := slc_shape hv
  rw [List.length_map] at hv hll ⊢
  have HN := Lib.hid hN
  have HSZ := Lib.hid hsz
  clear hN hsz
  go_enter Try.func16, Try.ntmps16
  go_wp2_with fail
  refine (right_name s hs w).mono ?_
  cases hr : rightN s with
  | false =>
    rintro e w1 ⟨rfl, hb1⟩
    have fin : Hid (freshS s l N = ⟨#[]⟩ ∧ freshE s l = 1) := by show _ ∧ _; simp [freshS, freshE, hr]
    go_wp2_with fail
    go_ret2
    exact ⟨ret_strerr fin.out.1.symm fin.out.2.symm, hb1⟩
  | true =>
    rintro e w1 ⟨rfl, hb1⟩
    have HR := Lib.hid hr
    clear hr
    by_cases h8 : (8192 : Int) < l.length
    · have fin : Hid (freshS s l N = ⟨#[]⟩ ∧ freshE s l = 2) := by
        have : 8192 < l.length := by omega
        show _ ∧ _; simp [freshS, freshE, HR.out, this]
      go_wp2_with fail
      go_ret2
      exact ⟨ret_strerr fin.out.1.symm fin.out.2.symm, hb1⟩
    · have finE : Hid (freshE s l = 0 ∧ ∀ t, t = freshS s l N ↔ t = if cnt l s = 0 then s else numS (stemS s) N) := by
        have : ¬ 8192 < l.length := by omega
        show _ ∧ _; simp [freshS, freshE, HR.out, this]
      have hb1s := hb1.size
      go_wp2_with fail
      clear h8
      have hA : Below w.heap.size w (w1.alloc (.map #[] 0)) := hb1.alloc hb1s _
      go_loopw [21] (fun i wr => ∃ (k : Nat), k ≤ l.length ∧ i = .int .i64 k ∧ Hid (Seen wr w1.heap.size (l.take k)) ∧ Below w.heap.size w wr) (fun i _ => l.length - (intOf i).toNat)
      case atStart => exact ⟨0, Nat.zero_le _, rfl, Seen.made w1, hA⟩
      case round =>
        obtain ⟨k, hk, rfl, hseen, hbel⟩ := hrel
        by_cases hlt : k < l.length
        · obtain ⟨b, off, rfl, hc⟩ := slc_at hv hbel k (by simpa using hlt)
          rw [List.getElem_map] at hc
          have hxs := HSZ.out _ (List.getElem_mem hlt)
          have hlook := hseen.out.look l[k] hxs
          obtain ⟨w2, hput, hs2, hg2⟩ := hseen.out.put l[k] hxs (by rw [List.length_take]; omega)
          rw [← List.take_succ_eq_append_getElem hlt] at hs2
          have hcl : (cnt (l.take k) l[k] : Int) ≤ 8192 := by
            have := cnt_le (l.take k) l[k]
            rw [List.length_take] at this
            omega
          have hb2 := Lib.hid (hbel.grown hg2 hbel.size (fun j hj => by cases hj; exact hb1s))
          have HS2 := Lib.hid hs2
          clear hs2 hg2 hA
          go_wp2_with fail
          go_roundw
          case rel => exact ⟨k + 1, hlt, by simp, HS2.out, hb2.out⟩
          case measure => simp [intOf]; omega
        · obtain rfl : k = l.length := by omega
          have hsn : Seen wr w1.heap.size l := by
            have h := hseen.out
            rw [List.take_length] at h
            exact h
          have hlook := hsn.look s hs
          by_cases h0 : cnt l s = 0
          · have fin : Hid (s = freshS s l N) := (finE.out.2 s).2 (by rw [if_pos h0])
            have h0' : ((cnt l s : Int) == 0) = true := by rw [h0]; rfl
            have HB := Lib.hid hbel
            clear hbel hA
            go_wp2_with fail
            go_ret2
            exact ⟨ret_strerr fin.out finE.out.1.symm, HB.out⟩
          · have h0' : ((cnt l s : Int) == 0) = false := by rw [beq_eq_false_iff_ne]; omega
            have h8 : l.length ≤ 8192 := by omega
            obtain ⟨hN1, hN2, hN3, hN4⟩ := HN.out HR.out h8 h0
            have finN : Hid (∀ t, t = numS (stemS s) N → t = freshS s l N) := fun t ht => (finE.out.2 t).2 (by rw [if_neg h0]; exact ht)
            have hok := Lib.hid (rightN_ok s HR.out)
            have hst := Lib.hid (stem_ok s hok.out.1 hok.out.2)
            have HB := Lib.hid hbel
            have HS := Lib.hid hsn
            have HN3 := Lib.hid hN3
            have HN4 := Lib.hid hN4
            clear hbel hA hsn hN3 hN4 h0
            go_wp2_with (go_at_call 37; refine (stem_any s hs _).mono ?_; rintro e w3 ⟨rfl, rfl⟩)
            clear hlook
            go_loopw [10] (fun i wr => ∃ (n : Nat), 1 ≤ n ∧ n ≤ N ∧ i = .int .i64 n ∧ Hid (Seen wr w1.heap.size l) ∧ Hid (Below w.heap.size w wr)) (fun i _ => N - (intOf i).toNat)
            case atStart => exact ⟨1, Nat.le_refl _, hN1, rfl, HS.out, HB.out⟩
            case round =>
              obtain ⟨n, hn1, hnN, rfl, hseen, hbel⟩ := hrel
              have hC := Lib.hid (numbered_any (stemS s) hst.out.1 hst.out.2 n (by omega) wr)
              have hnz := numS_size (stemS s) hst.out.1 hst.out.2 n (by omega)
              obtain ⟨x, hx⟩ : ∃ x, x = numS (stemS s) n := ⟨_, rfl⟩
              rw [← hx] at hC hnz
              have HX := Lib.hid hx
              clear hx
              by_cases hc : cnt l x = 0
              · have hnN2 : n = N := by
                  by_cases h : n = N
                  · exact h
                  · have := HN4.out n hn1 (by omega)
                    rw [← HX.out] at this
                    exact absurd hc this
                have fin : Hid (x = freshS s l N) := finN.out x (by rw [HX.out, hnN2])
                clear hnN2
                have hc' : ((cnt l x : Int) == 0) = true := by rw [hc]; rfl
                go_wp2_with fail
                refine hC.out.mono ?_
                rintro e w4 ⟨rfl, hb4⟩
                have hlook := (hseen.out.later hb4 hseen.out.lt).look x (by unfold maxLen; omega)
                have HB4 := Lib.hid (hbel.out.trans (hb4.mono hbel.out.size))
                clear hb4
                go_wp2_with fail
                go_ret2
                exact ⟨ret_strerr fin.out finE.out.1.symm, HB4.out⟩
              · have hnN2 : n < N := by
                  by_cases h : n = N
                  · exfalso
                    apply hc
                    rw [HX.out, h]
                    exact HN3.out
                  · omega
                have hc' : ((cnt l x : Int) == 0) = false := by rw [beq_eq_false_iff_ne]; omega
                go_wp2_with fail
                refine hC.out.mono ?_
                rintro e w4 ⟨rfl, hb4⟩
                have hs4 := hseen.out.later hb4 hseen.out.lt
                have hlook := hs4.look x (by unfold maxLen; omega)
                have HB4 := Lib.hid (hbel.out.trans (hb4.mono hbel.out.size))
                have HS4 := Lib.hid hs4
                clear hb4 hs4
                go_wp2_with fail
                go_roundw
                case rel => exact ⟨n + 1, by omega, by omega, by simp, HS4.out, HB4.out⟩
                case measure => simp [intOf]; omega
end Go.Proofs.Ytapbjjjlilfmdaa
