import Derived.Test.YtffgfjnbgplckaaT16
import Derived.Test.YtffgfjnbgplckaaT14
namespace Go.Proofs.Ytffgfjnbgplckaa
open Go.RowKit
theorem RepS.empty {α : Type} [Enc α] {S : Nat → Prop} {w : World} (a : Option Addr) : RepS S w (.slice a 0 0) ([] : List α) := RepS.mk (css := []) ⟨a, 0, rfl, Nat.le_refl _, Nat.zero_le _, fun h => absurd rfl h⟩ (by simp only [List.map_nil, RepL])
theorem patB_ok {t : Nd} (h : okN t = false) : patB t = false := by unfold patB; rw [ok_small h]; rfl
theorem exprB_ok {t : Nd} (h : okN t = false) : exprB t = false := by unfold exprB; rw [ok_small h]; rfl
set_option maxRecDepth 100000 in
set_option maxHeartbeats 8000000 in
theorem names_walk (t : Nd) (cs : List Value) (v : Value) (l : List Nd) (w : World) (ht : NdC w t cs) (hv : NdS w v l) :
    Calls Try.prog 7 #[.agg cs.toArray, v] w fun e w' => e = .returned (.bool true) ∧ Below w.heap.size w w' := by
  obtain ⟨i0, hi, hz0, hz1, hz2⟩ := info_parts infoS
  obtain ⟨a, cap, rfl, hsub, hlen, hnsa⟩ := nd_open ht
  obtain ⟨a2, cap2, rfl, h1, h2, -⟩ := hv.open
  have hll : l.length ≤ 9223372036854775807 := by unfold maxLen at h2; omega
  have E := boxes1 w #[.int .i64 t.kind, .int .i64 t.at, .string t.name, .int .i64 t.num, .slice a t.sub.length cap] 24
  have HT2 := Lib.hid (ht.later E.2.1)
  have HV := Lib.hid hv
  have HE := Lib.hid E
  clear hsub hlen ht E h1 h2 hv
  go_enter Try.func7, Try.ntmps7
  go_wp2_with fail
  refine (of_any t _ _ HT2.out).mono ?_
  rintro e w1 ⟨v1, rfl, hr1, hb1⟩
  obtain ⟨a3, n3, c3, rfl⟩ := hr1.form
  have HR1 := Lib.hid hr1
  have HB1 := Lib.hid (hb1.alloc hb1.size (.cells #[.int .i64 t.kind, .int .i64 t.at, .string t.name, .int .i64 t.num, .slice a3 n3 c3] 27))
  have HT1 : Hid (Box5 27 (w1.alloc (.cells #[.int .i64 t.kind, .int .i64 t.at, .string t.name, .int .i64 t.num, .slice a3 n3 c3] 27)) w1.heap.size (.int .i64 t.kind) (.int .i64 t.at) (.string t.name) (.int .i64 t.num) (.slice a3 n3 c3)) := Box5.new _ _ _ _ _ _ _
  have HA : Hid (Box5 24 (w1.alloc (.cells #[.int .i64 t.kind, .int .i64 t.at, .string t.name, .int .i64 t.num, .slice a3 n3 c3] 27)) w.heap.size (.int .i64 t.kind) (.int .i64 t.at) (.string t.name) (.int .i64 t.num) (.slice a t.sub.length cap)) := (show Box5 _ _ _ _ _ _ _ _ from HE.out.1).later HB1.out (by have := HE.out.2.2; omega)
  have HA2' := Lib.hid HA.out
  have NA : Hid (∀ x : Later (w1.alloc (.cells #[.int .i64 t.kind, .int .i64 t.at, .string t.name, .int .i64 t.num, .slice a3 n3 c3] 27)), NdC x.w t [.int .i64 t.kind, .int .i64 t.at, .string t.name, .int .i64 t.num, .slice a t.sub.length cap]) := fun x => (HT2.out.later HB1.out).later x.b
  have RA : Hid (okN t = true → ∀ x : Later (w1.alloc (.cells #[.int .i64 t.kind, .int .i64 t.at, .string t.name, .int .i64 t.num, .slice a3 n3 c3] 27)), NdC x.w t [.int .i64 t.kind, .int .i64 t.at, .string t.name, .int .i64 t.num, .slice a3 n3 c3]) := fun h x => (of_yes h hnsa ((HR1.out.later ((Below.refl _ _).alloc (Nat.le_refl _) _)))).later x.b
  have FIN : Hid (∀ x : Later (w1.alloc (.cells #[.int .i64 t.kind, .int .i64 t.at, .string t.name, .int .i64 t.num, .slice a3 n3 c3] 27)), Below w.heap.size w x.w) := fun x => (HE.out.2.1.trans (HB1.out.mono HE.out.2.1.size)).trans (x.b.mono (Nat.le_trans HE.out.2.1.size HB1.out.size))
  have VL : Hid (∀ x : Later (w1.alloc (.cells #[.int .i64 t.kind, .int .i64 t.at, .string t.name, .int .i64 t.num, .slice a3 n3 c3] 27)), NdS x.w (.slice a2 l.length cap2) l) := fun x => HV.out.later (FIN.out x)
  have AW : Hid (∀ x : Later (w1.alloc (.cells #[.int .i64 t.kind, .int .i64 t.at, .string t.name, .int .i64 t.num, .slice a3 n3 c3] 27)), Calls Try.prog 14 #[] x.w fun e w'' => e = .returned (.bool true) ∧ ∃ y : Later (w1.alloc (.cells #[.int .i64 t.kind, .int .i64 t.at, .string t.name, .int .i64 t.num, .slice a3 n3 c3] 27)), w'' = y.w) := fun x => Calls.later x (awake_any _)
  clear hr1 hb1
  cases hk1 : okN t with
  | false =>
    clear hk1
    go_wp2_with (go_at_call 14; refine (AW.out ⟨_, Below.refl _ _⟩).mono ?_; rintro e w3 ⟨rfl, ⟨x3, rfl⟩⟩)
    go_ret
    exact ⟨rfl, FIN.out x3⟩
  | true =>
    have NR := Lib.hid (RA.out hk1)
    clear hk1 RA
    by_cases h20 : 20 < (l.length : Int)
    · go_wp2_with (go_at_call 14; refine (AW.out ⟨_, Below.refl _ _⟩).mono ?_; rintro e w3 ⟨rfl, ⟨x3, rfl⟩⟩)
      go_ret
      exact ⟨rfl, FIN.out x3⟩
    · have L20 : Hid (l.length ≤ 20) := by show _ ≤ _; omega
      have NM : Hid (∀ x : Later (w1.alloc (.cells #[.int .i64 t.kind, .int .i64 t.at, .string t.name, .int .i64 t.num, .slice a3 n3 c3] 27)), ndT t ≤ 8192 → Calls Try.prog 26 #[.agg #[.int .i64 t.kind, .int .i64 t.at, .string t.name, .int .i64 t.num, .slice a3 n3 c3], .int .i64 1] x.w fun e w' => ∃ u, e = .returned u ∧ RepS (fun b => x.w.heap.size ≤ b) w' u (namesT t 1) ∧ Below x.w.heap.size x.w w') := fun x h => rnamed2_any t _ 1 _ h (NR.out x)
      have CE : Hid (∀ x : Later (w1.alloc (.cells #[.int .i64 t.kind, .int .i64 t.at, .string t.name, .int .i64 t.num, .slice a3 n3 c3] 27)), Calls Try.prog 20 #[.agg #[.int .i64 t.kind, .int .i64 t.at, .string t.name, .int .i64 t.num, .slice a3 n3 c3]] x.w fun e w'' => e = .returned (.bool (exprB t)) ∧ ∃ y : Later (w1.alloc (.cells #[.int .i64 t.kind, .int .i64 t.at, .string t.name, .int .i64 t.num, .slice a3 n3 c3] 27)), w'' = y.w) := fun x => Calls.later x (rexpr_any t _ _ (NR.out x))
      have CP : Hid (∀ x : Later (w1.alloc (.cells #[.int .i64 t.kind, .int .i64 t.at, .string t.name, .int .i64 t.num, .slice a3 n3 c3] 27)), Calls Try.prog 21 #[.agg #[.int .i64 t.kind, .int .i64 t.at, .string t.name, .int .i64 t.num, .slice a3 n3 c3]] x.w fun e w'' => e = .returned (.bool (patB t)) ∧ ∃ y : Later (w1.alloc (.cells #[.int .i64 t.kind, .int .i64 t.at, .string t.name, .int .i64 t.num, .slice a3 n3 c3] 27)), w'' = y.w) := fun x => Calls.later x (rpattern_any t _ _ (NR.out x))
      have NP : Hid (∀ x : Later (w1.alloc (.cells #[.int .i64 t.kind, .int .i64 t.at, .string t.name, .int .i64 t.num, .slice a3 n3 c3] 27)), Calls Try.prog 28 #[.agg #[.int .i64 t.kind, .int .i64 t.at, .string t.name, .int .i64 t.num, .slice a t.sub.length cap]] x.w fun e w' => ∃ u, e = .returned u ∧ RepS (fun b => x.w.heap.size ≤ b) w' u (namesP t) ∧ Below x.w.heap.size x.w w') := fun x => names_any t _ _ (NA.out x)
      have VP : Hid (∀ x : Later (w1.alloc (.cells #[.int .i64 t.kind, .int .i64 t.at, .string t.name, .int .i64 t.num, .slice a3 n3 c3] 27)), Calls Try.prog 29 #[.slice a2 l.length cap2] x.w fun e w' => ∃ u, e = .returned u ∧ RepS (fun b => x.w.heap.size ≤ b) w' u (varsP l) ∧ Below x.w.heap.size x.w w') := fun x => vars_any l _ _ (VL.out x) L20.out
      have YES : Hid ((exprB t || patB t) = true → namesP t = namesT t 1 ∧ ndT t ≤ 8192) := fun h => ⟨if_pos h, by
        rw [Bool.or_eq_true] at h
        exact small_nd (h.elim exprB_small patB_small)⟩
      have NO : Hid ((exprB t || patB t) = false → namesP t = []) := fun h => by unfold namesP; rw [h]; rfl
      obtain ⟨r0, r1, r2, r3, r4⟩ := HT1.out.cells
      have HR0 := Lib.hid (Later.cell r0)
      have HR1' := Lib.hid (Later.cell r1)
      have HR2 := Lib.hid (Later.cell r2)
      have HR3 := Lib.hid (Later.cell r3)
      have HR4 := Lib.hid (Later.cell r4)
      have X0 : Hid (Below (w1.alloc (.cells #[.int .i64 t.kind, .int .i64 t.at, .string t.name, .int .i64 t.num, .slice a3 n3 c3] 27)).heap.size (w1.alloc (.cells #[.int .i64 t.kind, .int .i64 t.at, .string t.name, .int .i64 t.num, .slice a3 n3 c3] 27)) ((w1.alloc (.cells #[.int .i64 t.kind, .int .i64 t.at, .string t.name, .int .i64 t.num, .slice a3 n3 c3] 27)).alloc (.cells #[] 9))) := (Below.refl _ _).alloc (Nat.le_refl _) _
      clear NR NA
      generalize namesP t = nmP at *
      generalize exprB t = be at *
      generalize patB t = bp at *
      have hcase : (be = true) ∨ (be = false ∧ bp = true) ∨ (be = false ∧ bp = false) := by cases be <;> cases bp <;> simp
      rcases hcase with rfl | ⟨rfl, rfl⟩ | ⟨rfl, rfl⟩
      focus
        obtain ⟨E1, E2⟩ := YES.out rfl
        have E1 := Lib.hid E1
        have E2 := Lib.hid E2
        go_wp2_with fail
        refine (CE.out ⟨_, X0.out⟩).mono ?_
        rintro e w3 ⟨rfl, ⟨x3, rfl⟩⟩
        have r0 := HR0.out x3
        have r1 := HR1'.out x3
        have r2 := HR2.out x3
        have r3 := HR3.out x3
        have r4 := HR4.out x3
        go_wp2_with fail
        refine (NM.out x3 E2.out).mono ?_
        rintro e w4 ⟨vn, rfl, hrn, hb4⟩
        obtain ⟨x4, rfl⟩ : ∃ y : Later (w1.alloc (.cells #[.int .i64 t.kind, .int .i64 t.at, .string t.name, .int .i64 t.num, .slice a3 n3 c3] 27)), w4 = y.w := ⟨⟨_, x3.b.trans (hb4.mono x3.b.size)⟩, rfl⟩
        rw [← E1.out] at hrn
        have HRN : Hid (RepS (fun _ => True) x4.w vn nmP) := hrn.sub fun _ _ _ => trivial
        clear hrn hb4 r0 r1 r2 r3 r4
        go_wp2_with fail
      rotate_left
      focus
        obtain ⟨E1, E2⟩ := YES.out rfl
        have E1 := Lib.hid E1
        have E2 := Lib.hid E2
        go_wp2_with fail
        refine (CE.out ⟨_, X0.out⟩).mono ?_
        rintro e w2 ⟨rfl, ⟨x2, rfl⟩⟩
        have r0 := HR0.out x2
        have r1 := HR1'.out x2
        have r2 := HR2.out x2
        have r3 := HR3.out x2
        have r4 := HR4.out x2
        go_wp2_with fail
        refine (CP.out x2).mono ?_
        rintro e w3 ⟨rfl, ⟨x3, rfl⟩⟩
        clear r0 r1 r2 r3 r4
        have r0 := HR0.out x3
        have r1 := HR1'.out x3
        have r2 := HR2.out x3
        have r3 := HR3.out x3
        have r4 := HR4.out x3
        go_wp2_with fail
        refine (NM.out x3 E2.out).mono ?_
        rintro e w4 ⟨vn, rfl, hrn, hb4⟩
        obtain ⟨x4, rfl⟩ : ∃ y : Later (w1.alloc (.cells #[.int .i64 t.kind, .int .i64 t.at, .string t.name, .int .i64 t.num, .slice a3 n3 c3] 27)), w4 = y.w := ⟨⟨_, x3.b.trans (hb4.mono x3.b.size)⟩, rfl⟩
        rw [← E1.out] at hrn
        have HRN : Hid (RepS (fun _ => True) x4.w vn nmP) := hrn.sub fun _ _ _ => trivial
        clear hrn hb4 r0 r1 r2 r3 r4
        go_wp2_with fail
      rotate_left
      focus
        have E1 := Lib.hid (NO.out rfl)
        go_wp2_with fail
        refine (CE.out ⟨_, X0.out⟩).mono ?_
        rintro e w2 ⟨rfl, ⟨x2, rfl⟩⟩
        have r0 := HR0.out x2
        have r1 := HR1'.out x2
        have r2 := HR2.out x2
        have r3 := HR3.out x2
        have r4 := HR4.out x2
        go_wp2_with fail
        refine (CP.out x2).mono ?_
        rintro e w3 ⟨rfl, ⟨x4, rfl⟩⟩
        clear r0 r1 r2 r3 r4
        have HRN : Hid (RepS (fun _ => True) x4.w (.slice (some ⟨w1.heap.size + 1, 0, none⟩) 0 0) nmP) := by
          show RepS _ _ _ _
          rw [E1.out]; exact RepS.empty _
        go_wp2_with fail
      rotate_left
      all_goals
        go_loopw [8, 9, 10] (fun u r i wr => ∃ (k : Nat) (acc : List ByteArray), k ≤ l.length ∧ i = .int .i64 k ∧ r = .bool ((l.take k).all patB) ∧ Own (fun _ => False) 9 x4.w.heap.size u acc wr ∧ Hid ((l.take k).all patB = true → acc = namesL (l.take k) 6) ∧ Hid (acc.length ≤ 8192 * k) ∧ Below x4.w.heap.size x4.w wr) (fun _ _ i _ => l.length - (intOf i).toNat)
        case atStart => exact ⟨0, [], Nat.zero_le _, rfl, rfl, own_made (Nat.le_refl _), (Lib.hid (show (l.take 0).all patB = true → [] = namesL (l.take 0) 6 from fun _ => rfl)), by show _ ≤ _; simp, (Below.refl _ _).alloc (Nat.le_refl _) _⟩
        case round =>
          obtain ⟨k, acc, hk, rfl, rfl, hown, HA, HL, hbx⟩ := hrel
          by_cases hlt : k < l.length
          · obtain ⟨bb, off, a', cap', rfl, e0, e1, e2, e3, e4, hts⟩ := sub_at (VL.out x4) hbx k hlt
            have hnk : l[k].name.size ≤ maxLen := by obtain ⟨_, _, _, _, _, h⟩ := nd_open hts; exact h
            have HO := Lib.hid hown
            have HBX := Lib.hid hbx
            have HTS := Lib.hid hts
            have hstep := all_take_pat l k hlt
            clear hown hbx hts
            go_wp2_with fail
            refine (of_any l[k] _ _ HTS.out).mono ?_
            rintro e w5 ⟨v5, rfl, hr5, hb5⟩
            obtain ⟨a5, n5, c5, rfl⟩ := hr5.form
            have HB5 := Lib.hid (hb5.alloc hb5.size (.cells #[.int .i64 l[k].kind, .int .i64 l[k].at, .string l[k].name, .int .i64 l[k].num, .slice a5 n5 c5] 27))
            have HX5 : Hid (Box5 27 (w5.alloc (.cells #[.int .i64 l[k].kind, .int .i64 l[k].at, .string l[k].name, .int .i64 l[k].num, .slice a5 n5 c5] 27)) w5.heap.size (.int .i64 l[k].kind) (.int .i64 l[k].at) (.string l[k].name) (.int .i64 l[k].num) (.slice a5 n5 c5)) := Box5.new _ _ _ _ _ _ _
            have HR5 : Hid (okN l[k] = true → NdC (w5.alloc (.cells #[.int .i64 l[k].kind, .int .i64 l[k].at, .string l[k].name, .int .i64 l[k].num, .slice a5 n5 c5] 27)) l[k] [.int .i64 l[k].kind, .int .i64 l[k].at, .string l[k].name, .int .i64 l[k].num, .slice a5 n5 c5]) := fun h => of_yes h hnk (hr5.later ((Below.refl _ _).alloc (Nat.le_refl _) _))
            have HBF := Lib.hid (HBX.out.trans (HB5.out.mono HBX.out.size))
            have HOF := Lib.hid (HO.out.later HB5.out)
            clear hr5 hb5
            obtain ⟨q0, q1, q2, q3, q4⟩ := HX5.out.cells
            have hsame : ∀ (b : Bool), ((l.take k).all patB && patB l[k]) = b → Hid ((l.take (k + 1)).all patB = b) := fun b h => hstep.trans h
            have HLN : Hid (acc.length ≤ 8192 * (k + 1)) := by have := HL.out; show _ ≤ _; omega
            cases hall : (l.take k).all patB with
            | false =>
              rw [hall] at hsame
              have HS := hsame false rfl
              clear hsame hall hstep
              go_wp2_with fail
              go_roundw
              case rel => exact ⟨k + 1, acc, by omega, by go_num, by rw [HS.out], HOF.out, (Lib.hid (show (l.take (k + 1)).all patB = true → acc = namesL (l.take (k + 1)) 6 from fun h => by rw [HS.out] at h; cases h)), HLN, HBF.out⟩
              case measure => simp [intOf]; omega
            | true =>
              have HA1 := Lib.hid (HA.out hall)
              rw [hall] at hsame
              clear hall hstep
              cases hok : okN l[k] with
              | false =>
                have HS := hsame false (by rw [patB_ok hok]; rfl)
                clear hsame hok
                go_wp2_with fail
                go_roundw
                case rel => exact ⟨k + 1, acc, by omega, by go_num, by rw [HS.out], HOF.out, (Lib.hid (show (l.take (k + 1)).all patB = true → acc = namesL (l.take (k + 1)) 6 from fun h => by rw [HS.out] at h; cases h)), HLN, HBF.out⟩
                case measure => simp [intOf]; omega
              | true =>
                have HN5 := Lib.hid (HR5.out hok)
                have RP := Lib.hid (rpattern_any l[k] _ _ HN5.out)
                clear hok
                cases hp : patB l[k] with
                | false =>
                  rw [hp] at hsame RP
                  have HS := hsame false rfl
                  clear hsame hp
                  go_wp2_with fail
                  refine RP.out.mono ?_
                  rintro e w6 ⟨rfl, hb6⟩
                  have HB6 := Lib.hid (HBF.out.trans (hb6.mono HBF.out.size))
                  have HO6 := Lib.hid (HOF.out.later hb6)
                  clear hb6
                  go_wp2_with fail
                  go_roundw
                  case rel => exact ⟨k + 1, acc, by omega, by go_num, by rw [HS.out], HO6.out, (Lib.hid (show (l.take (k + 1)).all patB = true → acc = namesL (l.take (k + 1)) 6 from fun h => by rw [HS.out] at h; cases h)), HLN, HB6.out⟩
                  case measure => simp [intOf]; omega
                | true =>
                  have HNN := Lib.hid (small_nd (patB_small hp))
                  rw [hp] at hsame RP
                  have HS := hsame true rfl
                  have HLN2 : Hid ((acc ++ namesT l[k] 6).length ≤ 8192 * (k + 1)) := by
                    have h1 := names_len l[k] 6
                    have h2 := HL.out
                    have h3 := HNN.out
                    show _ ≤ _; rw [List.length_append]; omega
                  have HA2 : Hid (acc ++ namesT l[k] 6 = namesL (l.take (k + 1)) 6) := by show _ = _; rw [namesL_take l 6 k hlt, HA1.out]
                  clear hsame hp
                  go_wp2_with fail
                  refine RP.out.mono ?_
                  rintro e w6 ⟨rfl, hb6⟩
                  have HB6 := Lib.hid (HBF.out.trans (hb6.mono HBF.out.size))
                  have HO6 := Lib.hid (HOF.out.later hb6)
                  have HN6 := Lib.hid (HN5.out.later hb6)
                  obtain ⟨p0, p1, p2, p3, p4⟩ := (HX5.out.later hb6 (by simp)).cells
                  clear hb6 q0 q1 q2 q3 q4
                  go_wp2_with fail
                  refine (rnamed2_any l[k] _ 6 _ HNN.out HN6.out).mono ?_
                  rintro e w7 ⟨v7, rfl, hr7, hb7⟩
                  have HB7 := Lib.hid (HB6.out.trans (hb7.mono HB6.out.size))
                  have HO7 := Lib.hid (HO6.out.later hb7)
                  have HR7 := Lib.hid hr7
                  clear hb7 hr7 p0 p1 p2 p3 p4
                  go_wp2_with (at_builtin; refine wpList_push rfl _ _ 40 rfl 9 i0 (.string ByteArray.empty) 16 Try.underlying40 hi hz0 hz1 hz2 rfl (by decide) HO7.out _ _ HR7.out (by rfl) (by rfl) str_any (by have := HLN2.out; rw [List.length_append] at this; have := L20.out; unfold maxLen; omega) (by have := HLN2.out; rw [List.length_append] at this; have := L20.out; omega) HB7.out.size ?_; intro v8 w8 hown8 hb8 hg8 hap8)
                  have hbf := HB7.out.trans hb8
                  clear hb8 hg8 hap8
                  go_roundw
                  case rel => exact ⟨k + 1, _, by omega, by go_num, by rw [HS.out], hown8, (Lib.hid (show (l.take (k + 1)).all patB = true → acc ++ namesT l[k] 6 = namesL (l.take (k + 1)) 6 from fun _ => HA2.out)), HLN2, hbf⟩
                  case measure => simp [intOf]; omega
          · obtain rfl : k = l.length := by omega
            obtain ⟨xr, rfl⟩ : ∃ y : Later (w1.alloc (.cells #[.int .i64 t.kind, .int .i64 t.at, .string t.name, .int .i64 t.num, .slice a3 n3 c3] 27)), wr = y.w := ⟨⟨wr, x4.b.trans (hbx.mono x4.b.size)⟩, rfl⟩
            have HRN2 := Lib.hid (HRN.out.later hbx)
            have HFA : Hid ((l.take l.length).all patB = l.all patB) := by show _ = _; rw [List.take_length]
            rw [HFA.out]
            clear hbx
            obtain ⟨p0, p1, p2, p3, p4⟩ := (HA2'.out.later xr.b HA2'.out.lt).cells
            have HDN := Lib.hid hown.done
            clear hown
            cases hall : l.all patB with
            | false =>
              have HVP : Hid (varsP l = []) := by show _ = _; unfold varsP; rw [hall]; rfl
              have HOO : Hid (RepS (fun _ => True) xr.w (.slice none 0 0) (varsP l)) := by show RepS _ _ _ _; rw [HVP.out]; exact RepS.nil
              clear hall
              go_wp2_with fail
              refine (NP.out xr).mono ?_
              rintro e w8 ⟨un, rfl, hun, hb8⟩
              obtain ⟨x8, rfl⟩ : ∃ y : Later (w1.alloc (.cells #[.int .i64 t.kind, .int .i64 t.at, .string t.name, .int .i64 t.num, .slice a3 n3 c3] 27)), w8 = y.w := ⟨⟨_, xr.b.trans (hb8.mono xr.b.size)⟩, rfl⟩
              have HRN3 := Lib.hid (HRN2.out.later hb8)
              have HO3 := Lib.hid (HOO.out.later hb8)
              clear hb8 p0 p1 p2 p3 p4
              go_wp2_with fail
              refine (sametexts_yes nmP _ _ _ _ _ hun HRN3.out).mono ?_
              rintro e w9 ⟨rfl, hb9⟩
              obtain ⟨x9, rfl⟩ : ∃ y : Later (w1.alloc (.cells #[.int .i64 t.kind, .int .i64 t.at, .string t.name, .int .i64 t.num, .slice a3 n3 c3] 27)), w9 = y.w := ⟨⟨_, x8.b.trans (hb9.mono x8.b.size)⟩, rfl⟩
              have HO4 := Lib.hid (HO3.out.later hb9)
              clear hb9 hun
              go_wp2_with fail
              refine (VP.out x9).mono ?_
              rintro e w10 ⟨uv, rfl, huv, hb10⟩
              obtain ⟨x10, rfl⟩ : ∃ y : Later (w1.alloc (.cells #[.int .i64 t.kind, .int .i64 t.at, .string t.name, .int .i64 t.num, .slice a3 n3 c3] 27)), w10 = y.w := ⟨⟨_, x9.b.trans (hb10.mono x9.b.size)⟩, rfl⟩
              have HO5 := Lib.hid (HO4.out.later hb10)
              clear hb10
              go_wp2_with fail
              refine (sametexts_yes (varsP l) _ _ _ _ _ huv HO5.out).mono ?_
              rintro e w11 ⟨rfl, hb11⟩
              obtain ⟨x11, rfl⟩ : ∃ y : Later (w1.alloc (.cells #[.int .i64 t.kind, .int .i64 t.at, .string t.name, .int .i64 t.num, .slice a3 n3 c3] 27)), w11 = y.w := ⟨⟨_, x10.b.trans (hb11.mono x10.b.size)⟩, rfl⟩
              clear hb11 huv
              go_wp2_with fail
              refine (AW.out x11).mono ?_
              rintro e w12 ⟨rfl, ⟨x12, rfl⟩⟩
              go_wp2_with fail
              go_ret
              exact ⟨rfl, FIN.out x12⟩
            | true =>
              have HVP : Hid (varsP l = acc) := by
                have h1 := HA.out (by rw [List.take_length]; exact hall)
                rw [List.take_length] at h1
                show _ = _; unfold varsP; rw [hall, h1]; rfl
              have HOO : Hid (RepS (fun _ => True) xr.w u8 (varsP l)) := by show RepS _ _ _ _; rw [HVP.out]; exact HDN.out.sub fun _ _ _ => trivial
              clear hall
              go_wp2_with fail
              refine (NP.out xr).mono ?_
              rintro e w8 ⟨un, rfl, hun, hb8⟩
              obtain ⟨x8, rfl⟩ : ∃ y : Later (w1.alloc (.cells #[.int .i64 t.kind, .int .i64 t.at, .string t.name, .int .i64 t.num, .slice a3 n3 c3] 27)), w8 = y.w := ⟨⟨_, xr.b.trans (hb8.mono xr.b.size)⟩, rfl⟩
              have HRN3 := Lib.hid (HRN2.out.later hb8)
              have HO3 := Lib.hid (HOO.out.later hb8)
              clear hb8 p0 p1 p2 p3 p4
              go_wp2_with fail
              refine (sametexts_yes nmP _ _ _ _ _ hun HRN3.out).mono ?_
              rintro e w9 ⟨rfl, hb9⟩
              obtain ⟨x9, rfl⟩ : ∃ y : Later (w1.alloc (.cells #[.int .i64 t.kind, .int .i64 t.at, .string t.name, .int .i64 t.num, .slice a3 n3 c3] 27)), w9 = y.w := ⟨⟨_, x8.b.trans (hb9.mono x8.b.size)⟩, rfl⟩
              have HO4 := Lib.hid (HO3.out.later hb9)
              clear hb9 hun
              go_wp2_with fail
              refine (VP.out x9).mono ?_
              rintro e w10 ⟨uv, rfl, huv, hb10⟩
              obtain ⟨x10, rfl⟩ : ∃ y : Later (w1.alloc (.cells #[.int .i64 t.kind, .int .i64 t.at, .string t.name, .int .i64 t.num, .slice a3 n3 c3] 27)), w10 = y.w := ⟨⟨_, x9.b.trans (hb10.mono x9.b.size)⟩, rfl⟩
              have HO5 := Lib.hid (HO4.out.later hb10)
              clear hb10
              go_wp2_with fail
              refine (sametexts_yes (varsP l) _ _ _ _ _ huv HO5.out).mono ?_
              rintro e w11 ⟨rfl, hb11⟩
              obtain ⟨x11, rfl⟩ : ∃ y : Later (w1.alloc (.cells #[.int .i64 t.kind, .int .i64 t.at, .string t.name, .int .i64 t.num, .slice a3 n3 c3] 27)), w11 = y.w := ⟨⟨_, x10.b.trans (hb11.mono x10.b.size)⟩, rfl⟩
              clear hb11 huv
              go_wp2_with fail
              refine (AW.out x11).mono ?_
              rintro e w12 ⟨rfl, ⟨x12, rfl⟩⟩
              go_wp2_with fail
              go_ret
              exact ⟨rfl, FIN.out x12⟩
end Go.Proofs.Ytffgfjnbgplckaa
