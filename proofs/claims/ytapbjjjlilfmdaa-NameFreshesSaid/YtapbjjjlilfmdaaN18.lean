import Derived.Test.YtapbjjjlilfmdaaN17
namespace Go.Proofs.Ytapbjjjlilfmdaa
open Go.RowKit Go.WideMaps
theorem app_empty (a : ByteArray) : a ++ ⟨#[]⟩ = a := by
  apply ByteArray.ext
  simp
theorem app_assoc3 (a b c : ByteArray) : a ++ (b ++ c) = (a ++ b) ++ c := by
  apply ByteArray.ext
  simp
set_option maxRecDepth 100000 in
set_option maxHeartbeats 1000000 in
theorem rdecimal_any (n : Nat) (hn : n ≤ 1000000000) (w : World) :
    Calls Try.prog 43 #[.int .i64 n] w fun e w' => e = .returned (.string (decS n)) ∧ Below w.heap.size w w' := by
  have hcv := fun (w : World) (a : Int) => cv_bytes [a] 1 rfl w
  simp only [List.map] at hcv
  go_enter Try.func43, Try.ntmps43
  go_wp2_with fail
  go_loopw [0, 3] (fun i v wr => ∃ (m : Nat) (t : ByteArray), m ≤ n ∧ i = .int .i64 m ∧ v = .string t ∧ t.size ≤ 10 ∧ Hid (decS m ++ t = decS n) ∧ Below w.heap.size w wr) (fun i _ _ => (intOf i).toNat)
  case atStart => exact ⟨n, ⟨#[]⟩, Nat.le_refl _, rfl, rfl, by decide, app_empty _, Below.refl _ _⟩
  case round =>
    obtain ⟨m, t, hm, rfl, rfl, ht, hd, hbel⟩ := hrel
    have hms := decS_size m (by omega)
    have hns := decS_size n hn
    have hto : t.size ≤ 9 := by
      have := congrArg ByteArray.size hd.out
      rw [ByteArray.size_append] at this
      omega
    have hsz : ∀ a : Int, ¬ 9223372036854775807 < (strOfNums [a]).size + t.size := fun a => by rw [strOfNums_size]; simp; omega
    by_cases h10 : 10 ≤ (m : Int)
    · have hst : decL m = decL (m / 10) ++ [48 + ((m % 10 : Nat) : Int)] := decL_step m (by omega)
      have hsz1 := hsz (48 + (m : Int) % 10)
      have hd2 : Hid (decS (m / 10) ++ (strOfNums [48 + (m : Int) % 10] ++ t) = decS n) := by
        show _ = _
        rw [← hd.out, app_assoc3]
        congr 1
        unfold decS
        rw [strOfNums_app, hst]
        rfl
      have ht2 : (strOfNums [48 + (m : Int) % 10] ++ t).size ≤ 10 := by rw [ByteArray.size_append, strOfNums_size]; simp; omega
      clear hsz hst
      go_wp2_with fail
      go_roundw
      case rel => exact ⟨m / 10, _, by omega, by simp, rfl, ht2, hd2.out, hbel.alloc hbel.size _⟩
      case measure => simp [intOf]; omega
    · have hsz1 := hsz (48 + (m : Int))
      have fin : Hid (strOfNums [48 + (m : Int)] ++ t = decS n) := by
        show _ = _
        rw [← hd.out]
        congr 1
        unfold decS
        rw [decL_small m (by omega)]
      clear hsz
      go_wp2_with fail
      go_ret
      exact ⟨ret_str fin.out, hbel.alloc hbel.size _⟩
theorem rall_shape2 (s : ByteArray) (hs : s.size ≤ maxLen) (w : World) :
    Calls Try.prog 36 #[.string s] w fun e w' => ∃ a c L, e = .returned (.tuple #[.slice a L c, .int .i64 (allAt s), .int .i64 (allE s)]) ∧ Hid ((allS s).length = L) ∧ L ≤ 9223372036854775807 ∧ L ≤ c ∧ Slc w' (.slice a L c) ((allS s).map (Value.int .i64)) ∧ Below w.heap.size w w' := by
  refine (rall_any s hs w).mono ?_
  rintro e w' ⟨v, rfl, ho, hb⟩
  have hS := Slc.own ho
  obtain ⟨a, c, hv, hl, -⟩ := slc_shape hS
  rw [List.length_map] at hv hl
  have hc : (allS s).length ≤ c := by
    rcases ho.2 with ⟨h1, h2⟩ | ⟨g, cap, cur, h1, _, _, h2, _⟩
    · omega
    · rw [hv] at h1
      simp only [Value.slice.injEq] at h1
      omega
  subst hv
  exact ⟨a, c, _, rfl, rfl, hl, hc, hS, hb⟩
set_option maxRecDepth 100000 in
set_option maxHeartbeats 1000000 in
theorem rnumbered_any (s : ByteArray) (hE : allE s = 0) (h40 : s.size ≤ 40) (n : Nat) (hn : n ≤ 1000000000) (w : World) :
    Calls Try.prog 39 #[.string s, .int .i64 n] w fun e w' => e = .returned (.string (numS s n)) ∧ Below w.heap.size w w' := by
  have hd := decS_size n hn
  go_enter Try.func39, Try.ntmps39
  go_wp2_with fail
  refine (rdecimal_any n hn w).mono ?_
  rintro e w1 ⟨rfl, hb1⟩
  go_wp2_with fail
  refine (rall_shape2 s (by unfold maxLen; omega) w1).mono ?_
  rintro e w2 ⟨a, c, L, rfl, hL, hl, hc, hS, hb2⟩
  have hw2 := Lib.hid (hb1.trans (hb2.mono hb1.size))
  have hjoin := Lib.hid (join_take s hE h40)
  have hJ := Lib.hid (rjoin_any (allS s) (.slice a L c) w2 hS)
  rw [show joinS (allS s) = strOfNums (joinB ((allS s).take L)) by
    have h := (hjoin.out L).1
    rw [← h, List.take_of_length_le (by rw [hL.out]; exact Nat.le_refl _)]] at hJ
  clear hb1 hb2
  go_wp2_with fail
  refine hJ.out.mono ?_
  rintro e w3 ⟨rfl, hb3⟩
  have hw3 := Lib.hid (hw2.out.trans (hb3.mono hw2.out.size))
  have hw23 := Lib.hid hb3
  clear hb3
  go_wp2_with fail
  go_loopw [9, 6] (fun v u wr => ∃ (k : Nat), k ≤ L ∧ v = .string (strOfNums (joinB ((allS s).take k))) ∧ u = .slice a k c ∧ Hid (cutN (allS s) (decS n).size k = cutN (allS s) (decS n).size L) ∧ Hid (Below w.heap.size w wr) ∧ Hid (Below w2.heap.size w2 wr)) (fun _ u _ => match u with | .slice _ m _ => m | _ => 0)
  case atStart => exact ⟨L, Nat.le_refl _, rfl, rfl, rfl, hw3.out, hw23.out⟩
  case round =>
    obtain ⟨k, hk, rfl, rfl, hcut, hbel, hb2⟩ := hrel
    have hsz := (hjoin.out k).2
    have hsz2 : Hid ((strOfNums (joinB ((allS s).take k))).size = (joinB ((allS s).take k)).length) := strOfNums_size _
    obtain ⟨t, ht⟩ : ∃ t, t = strOfNums (joinB ((allS s).take k)) := ⟨_, rfl⟩
    rw [← ht] at hsz2 ⊢
    have htl : t.size ≤ 40 := by rw [hsz2.out]; exact hsz
    have HT := Lib.hid ht
    clear ht
    by_cases hgt : 40 < (t.size : Int) + (decS n).size
    · cases k with
      | zero =>
        exfalso
        have h1 := hsz2.out
        have h2 : (joinB ((allS s).take 0)).length = 0 := by simp [joinB]
        omega
      | succ k =>
        have J := Lib.hid (rjoin_any ((allS s).take k) (.slice a k c) wr (Slc.later (by rw [List.map_take]; exact slc_take hS k (by omega)) hb2.out))
        rw [(hjoin.out k).1] at J
        go_wp2_with fail
        refine J.out.mono ?_
        rintro e w4 ⟨rfl, hb4⟩
        have hbz := Lib.hid (hbel.out.trans (hb4.mono hbel.out.size))
        have hbz2 := Lib.hid (hb2.out.trans (hb4.mono hb2.out.size))
        clear hb4
        go_wp2_with fail
        go_roundw
        case rel =>
          refine ⟨k, by omega, rfl, rfl, ?_, hbz.out, hbz2.out⟩
          have h := hcut.out
          rw [cutN, if_neg (by have := hsz2.out; omega)] at h
          exact h
        case measure => exact Nat.lt_succ_self k
    · have fin : Hid (t ++ decS n = numS s n) := by
        show _ = _
        unfold numS
        rw [HT.out]
        congr 3
        rw [hL.out, ← hcut.out]
        cases k with
        | zero => rfl
        | succ k =>
          rw [cutN, if_pos]
          have := hsz2.out
          omega
      go_wp2_with fail
      go_ret
      exact ⟨ret_str fin.out, hbel.out⟩
set_option maxRecDepth 100000 in
set_option maxHeartbeats 2000000 in
theorem rfresh_any (s : ByteArray) (hs : s.size ≤ maxLen) (l : List ByteArray) (v : Value) (w : World) (hv : Slc w v (l.map Value.string)) (h3 : l.length ≤ 300) (N : Nat) (hN1 : 1 ≤ N) (hN2 : N ≤ 20 * l.length + 40) (hN3 : cnt l (numS (stemS s) N) = 0) (hN4 : ∀ n, 1 ≤ n → n < N → cnt l (numS (stemS s) n) ≠ 0) :
    Calls Try.prog 17 #[.string s, v] w fun e w' => e = .returned (.tuple #[.string (freshS s l N), .int .i64 (freshE s l)]) ∧ Below w.heap.size w w' := by
  have hv0 := hv
  have hs2 : s.size ≤ 9223372036854775807 := by unfold maxLen at hs; omega
  obtain ⟨a, cap, rfl, hll, -⟩ := slc_shape hv
  rw [List.length_map] at hv hll hv0 ⊢
  have HV := Lib.hid hv0
  have HN3 := Lib.hid hN3
  have HN4 := Lib.hid hN4
  have HPC := Lib.hid (fun x => place_cnt l x l.length (Nat.le_refl _))
  clear hv0 hv hN3 hN4
  go_enter Try.func17, Try.ntmps17
  go_wp2_with fail
  refine (rright_name s hs w).mono ?_
  cases hr : rightN s with
  | false =>
    rintro e w1 ⟨rfl, hb1⟩
    have fin : Hid (freshS s l N = ⟨#[]⟩ ∧ freshE s l = 1) := by show _ ∧ _; simp [freshS, freshE, hr]
    go_wp2_with fail
    go_ret2
    exact ⟨ret_strerr fin.out.1.symm fin.out.2.symm, hb1⟩
  | true =>
    rintro e w1 ⟨rfl, hb1⟩
    have hok := Lib.hid (rightN_ok s hr)
    have hst := Lib.hid (stem_ok s hok.out.1 hok.out.2)
    have h8 : ¬ (8192 : Int) < l.length := by omega
    have finE : Hid (freshE s l = 0 ∧ ∀ t, t = freshS s l N ↔ t = if cnt l s = 0 then s else numS (stemS s) N) := by
      have : ¬ 8192 < l.length := by omega
      show _ ∧ _; simp [freshS, freshE, hr, this]
    clear hr
    go_wp2_with fail
    refine (rplace_any l s _ w w1 HV.out hb1).mono ?_
    rintro e w2 ⟨rfl, rfl⟩
    have HB1 := Lib.hid hb1
    clear hb1
    have hpc := HPC.out s
    rw [List.take_length] at hpc
    by_cases h0 : cnt l s = 0
    · have fin : Hid (s = freshS s l N) := (finE.out.2 s).2 (by rw [if_pos h0])
      have hp := hpc.2 h0
      clear hpc h0
      go_wp2_with fail
      go_ret2
      exact ⟨ret_strerr fin.out finE.out.1.symm, HB1.out⟩
    · have finN : Hid (∀ t, t = numS (stemS s) N → t = freshS s l N) := fun t ht => (finE.out.2 t).2 (by rw [if_neg h0]; exact ht)
      have hp : ¬ placeN l s l.length < 0 := mt hpc.1 h0
      clear hpc h0
      go_wp2_with fail
      go_loopw [6] (fun v wr => ∃ (k : Nat), k ≤ s.size ∧ v = .string (s.extract 0 k) ∧ Hid (stemN s k = stemN s s.size) ∧ w1 = wr) (fun v _ => match v with | .string t => t.size | _ => 0)
      case atStart => exact ⟨s.size, Nat.le_refl _, by simp, rfl, rfl⟩
      case round =>
        obtain ⟨k, hk, rfl, hst2, rfl⟩ := hrel
        have hsz : (s.extract 0 k).size = k := by simp; omega
        by_cases hdig : 0 < k ∧ digitB (nb s (k - 1)) = true
        · obtain ⟨k, rfl⟩ : ∃ j, k = j + 1 := ⟨k - 1, by omega⟩
          obtain ⟨t, ht⟩ : ∃ t, t = s.extract 0 (k + 1) := ⟨_, rfl⟩
          have hcv : Hid (∀ h : k < t.size, wrap64 (t[k].toNat : Int) = (nb s k : Int)) := by
            intro h
            subst ht
            have h1 : (s.extract 0 (k + 1))[k].toNat = nb s k := by
              rw [← nb_eq s k (by omega)]
              congr 1
              rw [ByteArray.getElem_extract]
              congr 1
              omega
            rw [h1]
            exact wrap_small _ (nb_lt s k)
          have hex : Hid (t.extract 0 k = s.extract 0 k) := by
            subst ht
            show _ = _
            rw [ByteArray.extract_extract]
            congr 1
            omega
          rw [← ht] at hsz ⊢
          have HD := Lib.hid hdig.2
          clear ht hdig
          go_wp2_with (go_at_call 23; refine (rdigit_any _ _).mono ?_; rw [hcv.out]; rintro e w2 ⟨rfl, rfl⟩; rw [show digitB (nb s k : Int) = true from HD.out])
          go_roundw
          case rel =>
            refine ⟨k, by omega, congrArg Value.string hex.out, ?_, trivial⟩
            have h := hst2.out
            have hd : digitB (nb s k : Int) = true := HD.out
            simp only [stemN, hd, if_true] at h
            exact h
          case measure =>
            show (t.extract 0 k).size < t.size
            simp
            omega
        · have hstk : stemN s k = k := by
            cases k with
            | zero => rfl
            | succ j =>
              have : digitB (nb s j : Int) = false := by
                cases hd : digitB (nb s j : Int) with
                | false => rfl
                | true => exact absurd ⟨Nat.succ_pos j, hd⟩ hdig
              simp only [stemN, this]
              rfl
          obtain ⟨t, ht⟩ : ∃ t, t = s.extract 0 k := ⟨_, rfl⟩
          have HT : Hid (t = stemS s) := by
            show _ = _
            unfold stemS
            rw [ht, ← hst2.out, hstk]
          have hcv : Hid (∀ j, k = j + 1 → ∀ h : j < t.size, digitB (wrap64 (t[j].toNat : Int)) = false) := by
            intro j hj h
            subst hj
            subst ht
            have h1 : (s.extract 0 (j + 1))[j].toNat = nb s j := by
              rw [← nb_eq s j (by omega)]
              congr 1
              rw [ByteArray.getElem_extract]
              congr 1
              omega
            rw [h1, wrap_small _ (nb_lt s j)]
            cases hd : digitB (nb s j : Int) with
            | false => rfl
            | true => exact absurd ⟨Nat.succ_pos j, hd⟩ hdig
          rw [← ht] at hsz ⊢
          clear ht hstk hdig hst2
          have NEXT : Hid (∀ n, 1 ≤ n → n ≤ N → ∀ wz, Calls Try.prog 39 #[.string t, .int .i64 n] wz fun e w' => e = .returned (.string (numS (stemS s) n)) ∧ Below wz.heap.size wz w') := by
            intro n h1 h2 wz
            rw [HT.out]
            exact rnumbered_any (stemS s) hst.out.1 hst.out.2 n (by omega) wz
          rcases Nat.eq_zero_or_pos k with hk0 | hk0
          · have hz : (t.size : Int) = 0 := by omega
            go_wp2_with fail
            clear hz hk0 hsz hk hcv
            go_loopw [7] (fun i wr => ∃ (n : Nat), 1 ≤ n ∧ n ≤ N ∧ i = .int .i64 n ∧ Hid (Below w.heap.size w wr)) (fun i _ => N + 1 - (intOf i).toNat)
            case atStart => exact ⟨1, Nat.le_refl _, hN1, rfl, HB1.out⟩
            case round =>
              obtain ⟨n, hn1, hnN, rfl, hbel⟩ := hrel
              have hle : (n : Int) ≤ 20 * l.length + 40 := by omega
              have hC := Lib.hid (NEXT.out n hn1 hnN)
              obtain ⟨x, hx⟩ : ∃ x, x = numS (stemS s) n := ⟨_, rfl⟩
              rw [← hx] at hC
              have HX := Lib.hid hx
              clear hx
              have hpc := HPC.out x
              rw [List.take_length] at hpc
              by_cases hc : cnt l x = 0
              · have fin : Hid (x = freshS s l N) := by
                  have hnN2 : n = N := by
                    by_cases h : n = N
                    · exact h
                    · have := HN4.out n hn1 (by omega)
                      rw [← HX.out] at this
                      exact absurd hc this
                  exact finN.out x (by rw [HX.out, hnN2])
                have hpx := hpc.2 hc
                clear hpc hc
                go_wp2_with fail
                refine (hC.out wr).mono ?_
                rintro e w4 ⟨rfl, hb4⟩
                have HB4 := Lib.hid (hbel.out.trans (hb4.mono hbel.out.size))
                clear hb4
                go_wp2_with fail
                refine (rplace_any l x _ w w4 HV.out HB4.out).mono ?_
                rintro e w5 ⟨rfl, rfl⟩
                go_wp2_with fail
                refine (hC.out w4).mono ?_
                rintro e w6 ⟨rfl, hb6⟩
                have HB6 := Lib.hid (HB4.out.trans (hb6.mono HB4.out.size))
                clear hb6
                go_wp2_with fail
                go_ret2
                exact ⟨ret_strerr fin.out finE.out.1.symm, HB6.out⟩
              · have hnN2 : n < N := by
                  by_cases h : n = N
                  · exfalso
                    apply hc
                    rw [HX.out, h]
                    exact HN3.out
                  · omega
                have hpx : ¬ placeN l x l.length < 0 := mt hpc.1 hc
                clear hpc hc
                go_wp2_with fail
                refine (hC.out wr).mono ?_
                rintro e w4 ⟨rfl, hb4⟩
                have HB4 := Lib.hid (hbel.out.trans (hb4.mono hbel.out.size))
                clear hb4
                go_wp2_with fail
                refine (rplace_any l x _ w w4 HV.out HB4.out).mono ?_
                rintro e w5 ⟨rfl, rfl⟩
                go_wp2_with fail
                go_roundw
                case rel => exact ⟨n + 1, by omega, by omega, by simp, HB4.out⟩
                case measure => simp [intOf]; omega
          · obtain ⟨j, rfl⟩ : ∃ j, k = j + 1 := ⟨k - 1, by omega⟩
            go_wp2_with (go_at_call 23; refine (rdigit_any _ _).mono ?_; rw [hcv.out j rfl]; rintro e w2 ⟨rfl, rfl⟩)
            clear hk0 hk hcv
            go_loopw [7] (fun i wr => ∃ (n : Nat), 1 ≤ n ∧ n ≤ N ∧ i = .int .i64 n ∧ Hid (Below w.heap.size w wr)) (fun i _ => N + 1 - (intOf i).toNat)
            case atStart => exact ⟨1, Nat.le_refl _, hN1, rfl, HB1.out⟩
            case round =>
              obtain ⟨n, hn1, hnN, rfl, hbel⟩ := hrel
              have hle : (n : Int) ≤ 20 * l.length + 40 := by omega
              have hC := Lib.hid (NEXT.out n hn1 hnN)
              obtain ⟨x, hx⟩ : ∃ x, x = numS (stemS s) n := ⟨_, rfl⟩
              rw [← hx] at hC
              have HX := Lib.hid hx
              clear hx
              have hpc := HPC.out x
              rw [List.take_length] at hpc
              by_cases hc : cnt l x = 0
              · have fin : Hid (x = freshS s l N) := by
                  have hnN2 : n = N := by
                    by_cases h : n = N
                    · exact h
                    · have := HN4.out n hn1 (by omega)
                      rw [← HX.out] at this
                      exact absurd hc this
                  exact finN.out x (by rw [HX.out, hnN2])
                have hpx := hpc.2 hc
                clear hpc hc
                go_wp2_with fail
                refine (hC.out wr).mono ?_
                rintro e w4 ⟨rfl, hb4⟩
                have HB4 := Lib.hid (hbel.out.trans (hb4.mono hbel.out.size))
                clear hb4
                go_wp2_with fail
                refine (rplace_any l x _ w w4 HV.out HB4.out).mono ?_
                rintro e w5 ⟨rfl, rfl⟩
                go_wp2_with fail
                refine (hC.out w4).mono ?_
                rintro e w6 ⟨rfl, hb6⟩
                have HB6 := Lib.hid (HB4.out.trans (hb6.mono HB4.out.size))
                clear hb6
                go_wp2_with fail
                go_ret2
                exact ⟨ret_strerr fin.out finE.out.1.symm, HB6.out⟩
              · have hnN2 : n < N := by
                  by_cases h : n = N
                  · exfalso
                    apply hc
                    rw [HX.out, h]
                    exact HN3.out
                  · omega
                have hpx : ¬ placeN l x l.length < 0 := mt hpc.1 hc
                clear hpc hc
                go_wp2_with fail
                refine (hC.out wr).mono ?_
                rintro e w4 ⟨rfl, hb4⟩
                have HB4 := Lib.hid (hbel.out.trans (hb4.mono hbel.out.size))
                clear hb4
                go_wp2_with fail
                refine (rplace_any l x _ w w4 HV.out HB4.out).mono ?_
                rintro e w5 ⟨rfl, rfl⟩
                go_wp2_with fail
                go_roundw
                case rel => exact ⟨n + 1, by omega, by omega, by simp, HB4.out⟩
                case measure => simp [intOf]; omega
set_option maxHeartbeats 1000000 in
theorem freshes_walk (s : ByteArray) (v : Value) (l : List ByteArray) (hs : s.size ≤ maxLen) (hsz : ∀ x ∈ l, x.size ≤ maxLen) (w : World) (hv : Slc w v (l.map Value.string)) :
    Calls Try.prog 4 #[.string s, v] w fun e w' => e = .returned (.bool true) ∧ Below w.heap.size w w' := by
  have hv0 := hv
  obtain ⟨a, cap, rfl, hll, -⟩ := slc_shape hv
  rw [List.length_map] at hv hll hv0 ⊢
  have HV := Lib.hid hv0
  clear hv0 hv
  go_enter Try.func4, Try.ntmps4
  by_cases h3 : (300 : Int) < l.length
  · go_wp2_with fail
    refine (awake_any _).mono ?_
    rintro e w1 ⟨rfl, hb1⟩
    go_wp2_with fail
    go_ret
    exact ⟨rfl, hb1⟩
  · obtain ⟨N, hN1, hN2, hN3, hN4, hC⟩ := fresh_law s hs l _ w HV.out hsz (by omega)
    have HC := Lib.hid hC
    have HR := Lib.hid (fun w1 (hb : Below w.heap.size w w1) => rfresh_any s hs l _ w1 (HV.out.later hb) (by omega) N hN1 hN2 hN3 hN4)
    clear hC hN4 hN3
    go_wp2_with fail
    refine HC.out.mono ?_
    rintro e w1 ⟨rfl, hb1⟩
    go_wp2_with fail
    refine (HR.out w1 hb1).mono ?_
    rintro e w2 ⟨rfl, hb2⟩
    have hw2 := hb1.trans (hb2.mono hb1.size)
    clear HC HR
    go_wp2_with fail
    refine (awake_any _).mono ?_
    rintro e w3 ⟨rfl, hb3⟩
    go_wp2_with fail
    go_ret
    exact ⟨rfl, hw2.trans (hb3.mono hw2.size)⟩
end Go.Proofs.Ytapbjjjlilfmdaa
