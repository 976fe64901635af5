import Derived.Test.YtffgfjnbgplckaaT15
namespace Go.Proofs.Ytffgfjnbgplckaa
open Go.RowKit
theorem namesL_all (l : List Nd) (k : Nat) (_hk : k ≤ 20) (h : (l.take k).all patB = true) : (namesL (l.take k) 6).length ≤ 8192 * k := by
  have h1 := namesL_len (l.take k) 6
  have h2 : ∀ m : List Nd, m.all patB = true → ndL m ≤ 8192 * m.length := by
    intro m
    induction m with
    | nil => intro _; simp [ndL]
    | cons t ts ih =>
      intro hm
      simp only [List.all_cons, Bool.and_eq_true] at hm
      have := small_nd (patB_small hm.1)
      have := ih hm.2
      simp only [ndL, List.length_cons]; omega
  have h3 := h2 _ h
  have h4 : (l.take k).length ≤ k := List.length_take_le _ _
  omega
theorem all_take_pat (l : List Nd) (k : Nat) (h : k < l.length) : (l.take (k + 1)).all patB = ((l.take k).all patB && patB l[k]) := by
  rw [List.take_succ_eq_append_getElem h, List.all_append]; simp only [List.all_cons, List.all_nil, Bool.and_true]
theorem all_false_of {l : List Nd} {k : Nat} (h : (l.take k).all patB = false) : l.all patB = false := by
  cases hl : l.all patB with
  | false => rfl
  | true =>
    have : (l.take k).all patB = true := by
      rw [List.all_eq_true] at hl ⊢
      exact fun x hx => hl x (List.mem_of_mem_take hx)
    rw [this] at h; cases h
set_option maxRecDepth 100000 in
set_option maxHeartbeats 4000000 in
theorem vars_any (l : List Nd) (v : Value) (w : World) (hv : NdS w v l) (hl20 : l.length ≤ 20) : Calls Try.prog 29 #[v] w fun e w' => ∃ u, e = .returned u ∧ RepS (fun b => w.heap.size ≤ b) w' u (varsP l) ∧ Below w.heap.size w w' := by
  obtain ⟨i0, hi, hz0, hz1, hz2⟩ := info_parts infoS
  obtain ⟨a, cap, rfl, h1, h2, _⟩ := hv.open
  have YES : Hid (l.all patB = true → varsP l = namesL l 6) := fun h => if_pos h
  have NO : Hid (l.all patB = false → varsP l = []) := fun h => by unfold varsP; rw [h]; rfl
  generalize varsP l = res at *
  clear h1 h2
  go_enter Try.func29, Try.ntmps29
  go_wp2_with fail
  go_loopw [3, 8] (fun u i wr => ∃ (k : Nat) (acc : List ByteArray), k ≤ l.length ∧ i = .int .i64 k ∧ Own (fun _ => False) 9 w.heap.size u acc wr ∧ Hid (acc = namesL (l.take k) 6) ∧ Hid ((l.take k).all patB = true) ∧ Below w.heap.size w wr) (fun _ i _ => l.length - (intOf i).toNat)
  case atStart => exact ⟨0, [], Nat.zero_le _, rfl, Own.nil, rfl, rfl, Below.refl _ _⟩
  case round =>
    obtain ⟨k, acc, hk, rfl, hown, HA, HP, hbw⟩ := hrel
    by_cases hlt : k < l.length
    · obtain ⟨bb, off, a', cap', rfl, e0, e1, e2, e3, e4, hts⟩ := sub_at hv hbw k hlt
      have E := boxes1 wr #[.int .i64 l[k].kind, .int .i64 l[k].at, .string l[k].name, .int .i64 l[k].num, .slice a' l[k].sub.length cap'] 24
      have HT := Lib.hid (hts.later E.2.1)
      have HE := Lib.hid E
      have HO := Lib.hid hown
      have HBW := Lib.hid hbw
      have CP := Lib.hid (pattern_any l[k] _ _ HT.out)
      have hstep := all_take_pat l k hlt
      rw [HP.out, Bool.true_and] at hstep
      clear E hts hown hbw
      cases hp : patB l[k] with
      | false =>
        rw [hp] at CP hstep
        have fin := Lib.hid (NO.out (all_false_of hstep))
        clear hp hstep
        go_wp2_with fail
        refine CP.out.mono ?_
        rintro e w1 ⟨rfl, hb1⟩
        go_wp2_with fail
        go_ret
        exact ⟨_, rfl, by rw [fin.out]; exact RepS.nil, HBW.out.trans ((HE.out.2.1.trans (hb1.mono HE.out.2.1.size)).mono HBW.out.size)⟩
      | true =>
        have HN := Lib.hid (small_nd (patB_small hp))
        rw [hp] at CP hstep
        have HP2 := Lib.hid hstep
        have hacc2 : Hid (acc ++ namesT l[k] 6 = namesL (l.take (k + 1)) 6) := by show _ = _; rw [namesL_take l 6 k hlt, HA.out]
        have hlen2 : Hid (acc.length + (namesT l[k] 6).length ≤ 200000) := by
          have h1 := namesL_all l (k + 1) (by omega) hstep
          rw [← hacc2.out, List.length_append] at h1
          show _ ≤ _; omega
        clear hp hstep
        go_wp2_with fail
        refine CP.out.mono ?_
        rintro e w1 ⟨rfl, hb1⟩
        obtain ⟨d0, d1, d2, d3, d4⟩ := (show Box5 _ _ _ _ _ _ _ _ from HE.out.1).later hb1 (by have := HE.out.2.2; omega) |>.cells
        have HB1 := Lib.hid (HE.out.2.1.trans (hb1.mono HE.out.2.1.size))
        have HT1 := Lib.hid (HT.out.later hb1)
        clear hb1
        go_wp2_with fail
        refine (collect_any l[k] _ 6 _ HN.out HT1.out).mono ?_
        rintro e w2 ⟨v2, rfl, hr, hb2⟩
        have HB2 := Lib.hid (HB1.out.trans (hb2.mono HB1.out.size))
        have HO2 := Lib.hid (HO.out.later HB2.out)
        have HR2 := Lib.hid hr
        have HZ2 := Lib.hid (Nat.le_trans HBW.out.size HB2.out.size)
        clear d0 d1 d2 d3 d4 hr hb2
        go_wp2_with (at_builtin; refine wpList_push rfl _ _ 40 rfl 9 i0 (.string ByteArray.empty) 16 Try.underlying40 hi hz0 hz1 hz2 rfl (by decide) HO2.out _ _ HR2.out (by rfl) (by rfl) str_any (by have := hlen2.out; unfold maxLen; omega) (by have := hlen2.out; omega) HZ2.out ?_; intro v3 w3 hown3 hb3 hg3 hap3)
        have hbf := HBW.out.trans ((HB2.out.mono HBW.out.size).trans hb3)
        clear hb3 hg3 hap3
        go_roundw
        case rel => exact ⟨k + 1, _, by omega, by go_num, hown3, hacc2, HP2, hbf⟩
        case measure => simp [intOf]; omega
    · obtain rfl : k = l.length := by omega
      rw [List.take_length] at HA HP
      have fin : Hid (res = acc) := by show _ = _; rw [YES.out HP.out, HA.out]
      have hres := hown.done.sub (S' := fun b => w.heap.size ≤ b) (fun b hb _ => hb.elim False.elim id)
      go_wp2_with fail
      go_ret
      exact ⟨_, rfl, by rw [fin.out]; exact hres, hbw⟩
end Go.Proofs.Ytffgfjnbgplckaa
