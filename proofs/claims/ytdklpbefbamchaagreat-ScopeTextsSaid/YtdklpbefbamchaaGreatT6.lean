import Derived.Test.YtdklpbefbamchaaGreatT5
import Derived.Deep.RegionHeld3
set_option linter.unusedSimpArgs false
set_option linter.unusedVariables false
set_option maxHeartbeats 16000000
set_option maxRecDepth 100000
namespace Go.Proofs.YtdklpbefbamchaaGreat
open Go.RowKit
theorem goodT_mk (k a n : Int) (s : ByteArray) (sub : List Nd) (p : Bool) : Qcf (.mk k a s n sub) p = (decide (1 ≤ k ∧ k ≤ 10) && Qdz k sub.length && Qdm k s && numB k n && (decide (6 ≤ k) == p) && Qeh sub (k == 8)) := by
 simp only [Qcf, Qgr, Nd.kind, Nd.name, Nd.num, Nd.sub]; rfl
theorem num_cases (k n : Int) : (k = 2 ∧ numB k n = decide (0 ≤ n ∧ n ≤ 7)) ∨ (k ≠ 2 ∧ numB k n = (n == 0)) := by
 by_cases h : k = 2
 ·exact .inl ⟨h, by unfold numB; rw [if_pos h]⟩
 ·exact .inr ⟨h, by unfold numB; rw [if_neg h]⟩
theorem rgood_any : ∀ (t : Nd) (cs : List Value) (p : Bool) (w : World), NdC w t cs →
    Calls Tryz.prog 146 #[.agg cs.toArray, .bool p] w fun e w' => e = .returned (.bool (Qcf t p)) ∧ Below w.heap.size w w' := by
  refine Nd.ind ?_
  intro kk aa ss n sub ih cs p w ht
  obtain ⟨a, cap, rfl, hsub, hlen, hnsa⟩ := Qcz ht
  simp only [Nd.kind, Nd.at, Nd.name, Nd.num, Nd.sub] at hsub hlen hnsa ht ⊢
  have hd : Below w.heap.size w (w.alloc (.cells #[.int .i64 kk, .int .i64 aa, .string ss, .int .i64 n, .slice a sub.length cap] 64)) := (Below.refl _ _).alloc (Nat.le_refl _) _
  have IH := Lib.hid ih
  have HBX := Lib.hid hd
  have HSZ : Hid ((w.alloc (.cells #[.int .i64 kk, .int .i64 aa, .string ss, .int .i64 n, .slice a sub.length cap] 64)).heap.size = w.heap.size + 1) := by show _ = _; simp
  clear ht ih hd
  have HM := Lib.hid (goodT_mk kk aa n ss sub p)
  have NM := Lib.hid (rnamed_any kk ss hnsa (w.alloc (.cells #[.int .i64 kk, .int .i64 aa, .string ss, .int .i64 n, .slice a sub.length cap] 64)))
  have MA := Lib.hid (rmany_any kk sub.length (w.alloc (.cells #[.int .i64 kk, .int .i64 aa, .string ss, .int .i64 n, .slice a sub.length cap] 64)))
  generalize Qcf (.mk kk aa ss n sub) p = gT at *
  by_cases hk : 1 ≤ kk ∧ kk ≤ 10
  · obtain ⟨hk1, hk2⟩ := hk
    have hmk : Hid (gT = (Qdz kk sub.length && Qdm kk ss && numB kk n && (decide (6 ≤ kk) == p) && Qeh sub (kk == 8))) := by
      show _ = _; rw [HM.out, decide_eq_true ⟨hk1, hk2⟩]; rfl
    clear HM
    by_cases h6 : decide (5 < kk) = p
    · have h6e : decide (6 ≤ kk) = p := by rw [← h6]; exact decide_eq_decide.2 (by omega)
      have hm2 : Hid (gT = (Qdz kk sub.length && Qdm kk ss && numB kk n && Qeh sub (kk == 8))) := by
        show _ = _; rw [hmk.out, h6e]; simp
      clear hmk h6e
      cases hma : Qdz kk sub.length with
      | false =>
        have fin : Hid (gT = false) := by show _ = _; rw [hm2.out, hma]; rfl
        rw [hma] at MA
        clear hma hm2
        cases p <;>
        · go_enter Tryz.func146, Tryz.ntmps146
          go_wp2_with ((go_at_call 200; refine MA.out.mono ?_; rintro e w1 ⟨rfl, rfl⟩))
          go_ret
          exact ⟨Qah fin.out.symm, HBX.out⟩
      | true =>
        cases hna : Qdm kk ss with
        | false =>
          have fin : Hid (gT = false) := by show _ = _; rw [hm2.out, hna]; simp
          rw [hma] at MA
          rw [hna] at NM
          clear hma hm2 hna
          cases p <;>
          · go_enter Tryz.func146, Tryz.ntmps146
            go_wp2_with (first | (go_at_call 200; refine MA.out.mono ?_; rintro e w1 ⟨rfl, rfl⟩) | (go_at_call 201; refine NM.out.mono ?_; rintro e w1 ⟨rfl, hb⟩))
            go_ret
            exact ⟨Qah fin.out.symm, HBX.out.trans (hb.mono (by rw [HSZ.out]; omega))⟩
        | true =>
          have hm3 : Hid (gT = (numB kk n && Qeh sub (kk == 8))) := by show _ = _; rw [hm2.out, hma, hna]; simp
          rw [hma] at MA
          rw [hna] at NM
          clear hma hm2 hna
          rcases num_cases kk n with ⟨rfl, hnb⟩ | ⟨h2, hnb⟩
          rotate_left
          · by_cases hn : n = 0
            · subst hn
              have hm4 : Hid (gT = Qeh sub (kk == 8)) := by show _ = _; rw [hm3.out, hnb]; rfl
              clear hm3 hnb
              cases p
              all_goals
                go_enter Tryz.func146, Tryz.ntmps146
                go_wp2_with (first | (go_at_call 200; refine MA.out.mono ?_; rintro e w1 ⟨rfl, rfl⟩) | (go_at_call 201; refine NM.out.mono ?_; rintro e w1 ⟨rfl, hb⟩; obtain ⟨c0, c1, c2, c3, c4⟩ := Qdk (by rw [HSZ.out] at hb; exact hb)))
                have hbw1 := HBX.out.trans (hb.mono (by rw [HSZ.out]; omega))
                have hz1 : w.heap.size + 1 ≤ w1.heap.size := by have := hb.size; rw [HSZ.out] at this; exact this
                clear hb
                go_loopw [5] (fun i wr => ∃ k : Nat, k ≤ sub.length ∧ i = .int .i64 k ∧ Hid (Qeh (sub.drop k) (kk == 8) = gT) ∧ Below w1.heap.size w1 wr) (fun i _ => sub.length - (intOf i).toNat)
                case atStart => exact ⟨0, Nat.zero_le _, rfl, hm4.out.symm, Below.refl _ _⟩
                case round =>
                  obtain ⟨k, hk, rfl, HG, hbel⟩ := hrel
                  have hbw := hbw1.trans (hbel.mono hbw1.size)
                  have d0 := (hbel.cell (p := ⟨w.heap.size, 0, none⟩) hz1).trans c0
                  have d4 := (hbel.cell (p := ⟨w.heap.size, 4, none⟩) hz1).trans c4
                  by_cases hlt : k < sub.length
                  · obtain ⟨b, off, a', cap', rfl, e0, e1, e2, e3, e4, hts⟩ := sub_at hsub hbw k hlt
                    have hg0 := HG.out
                    rw [Qmh sub _ k hlt] at hg0
                    have hb0 : (0 : Int) ≤ k := by omega
                    have hb1 : (k : Int) < sub.length := by omega
                    have hk8 : (kk == 8) = decide (kk = 8) := rfl
                    have HK8 := Lib.hid hk8
                    clear hk8
                    have IHk := IH.out sub[k] (List.getElem_mem hlt) _ (kk == 8) (wr.drewN 1) (hts.later (Qgk wr 1))
                    have f0 := e0
                    have f1 := e1
                    have f2 := e2
                    have f3 := e3
                    have f4 := e4
                    have KEEP : Hid (∀ w', Below wr.heap.size (wr.drewN 1) w' → w'.cell? ⟨w.heap.size, 0, none⟩ = some (.int .i64 kk) ∧ w'.cell? ⟨w.heap.size, 4, none⟩ = some (.slice (some ⟨b, off, none⟩) sub.length cap) ∧ w'.cell? ⟨b, off + k * 5, none⟩ = some (.int .i64 sub[k].kind) ∧ w'.cell? ⟨b, off + k * 5 + 1, none⟩ = some (.int .i64 sub[k].at) ∧ w'.cell? ⟨b, off + k * 5 + 2, none⟩ = some (.string sub[k].name) ∧ w'.cell? ⟨b, off + k * 5 + 3, none⟩ = some (.int .i64 sub[k].num) ∧ w'.cell? ⟨b, off + k * 5 + 4, none⟩ = some (.slice a' sub[k].sub.length cap')) := fun w' h =>
                      have mv : ∀ {x : Addr} {v : Value}, wr.cell? x = some v → w'.cell? x = some v := fun c => (h.cell (World.block_lt_of_cell? wr _ c)).trans c
                      ⟨mv d0, mv d4, mv f0, mv f1, mv f2, mv f3, mv f4⟩
                    clear f0 f1 f2 f3 f4
                    have HBL := Lib.hid hbel
                    have HBW := Lib.hid hbw
                    clear hbel hbw
                    cases hg : Qcf sub[k] (kk == 8) with
                    | false =>
                      have fin : Hid (gT = false) := by show _ = _; rw [← hg0, hg]; rfl
                      rw [hg] at IHk
                      have IK := Lib.hid IHk
                      clear IHk hg hg0 hts
                      go_wp2_with fail
                      go_region_held3 (fun w' => w'.cell? ⟨w.heap.size, 0, none⟩ = some (.int .i64 kk) ∧ w'.cell? ⟨w.heap.size, 4, none⟩ = some (.slice (some ⟨b, off, none⟩) sub.length cap) ∧ w'.cell? ⟨b, off + k * 5, none⟩ = some (.int .i64 sub[k].kind) ∧ w'.cell? ⟨b, off + k * 5 + 1, none⟩ = some (.int .i64 sub[k].at) ∧ w'.cell? ⟨b, off + k * 5 + 2, none⟩ = some (.string sub[k].name) ∧ w'.cell? ⟨b, off + k * 5 + 3, none⟩ = some (.int .i64 sub[k].num) ∧ w'.cell? ⟨b, off + k * 5 + 4, none⟩ = some (.slice a' sub[k].sub.length cap')) (first | go_keep | exact KEEP.out _ hb2) (first | (go_at_call 146; refine IK.out.mono ?_; rintro e w' ⟨rfl, hb2⟩))
                      go_wp2_with fail
                      go_ret
                      exact ⟨Qah fin.out.symm, HBW.out.trans (((Qgk wr 1).trans hb2).mono HBW.out.size)⟩
                    | true =>
                      have fin : Hid (Qeh (sub.drop (k + 1)) (kk == 8) = gT) := by show _ = _; rw [← hg0, hg]; simp
                      rw [hg] at IHk
                      have IK := Lib.hid IHk
                      clear IHk hg hg0 hts
                      go_wp2_with fail
                      go_region_held3 (fun w' => w'.cell? ⟨w.heap.size, 0, none⟩ = some (.int .i64 kk) ∧ w'.cell? ⟨w.heap.size, 4, none⟩ = some (.slice (some ⟨b, off, none⟩) sub.length cap) ∧ w'.cell? ⟨b, off + k * 5, none⟩ = some (.int .i64 sub[k].kind) ∧ w'.cell? ⟨b, off + k * 5 + 1, none⟩ = some (.int .i64 sub[k].at) ∧ w'.cell? ⟨b, off + k * 5 + 2, none⟩ = some (.string sub[k].name) ∧ w'.cell? ⟨b, off + k * 5 + 3, none⟩ = some (.int .i64 sub[k].num) ∧ w'.cell? ⟨b, off + k * 5 + 4, none⟩ = some (.slice a' sub[k].sub.length cap')) (first | go_keep | exact KEEP.out _ hb2) (first | (go_at_call 146; refine IK.out.mono ?_; rintro e w' ⟨rfl, hb2⟩))
                      go_wp2_with fail
                      go_roundw
                      case rel => exact ⟨k + 1, by omega, by go_num, fin, HBL.out.trans (((Qgk wr 1).trans hb2).mono HBL.out.size)⟩
                      case measure => simp [intOf]; omega
                  · have fin : Hid (gT = true) := by
                      have := HG.out
                      rw [List.drop_of_length_le (by omega)] at this
                      show _ = _
                      rw [← this]; rfl
                    go_wp2_with fail
                    go_ret
                    exact ⟨Qah fin.out.symm, hbw⟩
            · have fin : Hid (gT = false) := by
                show _ = _; rw [hm3.out, hnb]; simp [hn]
              clear hm3 hnb
              have x1 : (kk == 2) = false := by simpa using h2
              have x2 : (kk != 2) = true := by simpa using h2
              have x3 : (n != 0) = true := by simpa using hn
              cases p <;>
              · go_enter Tryz.func146, Tryz.ntmps146
                go_wp2_with (first | (go_at_call 200; refine MA.out.mono ?_; rintro e w1 ⟨rfl, rfl⟩) | (go_at_call 201; refine NM.out.mono ?_; rintro e w1 ⟨rfl, hb⟩; obtain ⟨c0, c1, c2, c3, c4⟩ := Qdk (by rw [HSZ.out] at hb; exact hb); have HBF : Hid (Below w.heap.size w w1) := HBX.out.trans (hb.mono (by rw [HSZ.out]; omega))))
                go_ret
                exact ⟨Qah fin.out.symm, HBF.out⟩
          · by_cases hn : 0 ≤ n ∧ n ≤ 7
            · obtain ⟨hn0, hn7⟩ := hn
              have hm4 : Hid (gT = Qeh sub (2 == 8)) := by show _ = _; rw [hm3.out, hnb, decide_eq_true ⟨hn0, hn7⟩]; rfl
              clear hm3 hnb
              obtain rfl : p = false := by rw [← h6]; rfl
              all_goals
                go_enter Tryz.func146, Tryz.ntmps146
                go_wp2_with (first | (go_at_call 200; refine MA.out.mono ?_; rintro e w1 ⟨rfl, rfl⟩) | (go_at_call 201; refine NM.out.mono ?_; rintro e w1 ⟨rfl, hb⟩; obtain ⟨c0, c1, c2, c3, c4⟩ := Qdk (by rw [HSZ.out] at hb; exact hb)))
                have hbw1 := HBX.out.trans (hb.mono (by rw [HSZ.out]; omega))
                have hz1 : w.heap.size + 1 ≤ w1.heap.size := by have := hb.size; rw [HSZ.out] at this; exact this
                clear hb
                go_loopw [5] (fun i wr => ∃ k : Nat, k ≤ sub.length ∧ i = .int .i64 k ∧ Hid (Qeh (sub.drop k) ((2 : Int) == 8) = gT) ∧ Below w1.heap.size w1 wr) (fun i _ => sub.length - (intOf i).toNat)
                case atStart => exact ⟨0, Nat.zero_le _, rfl, hm4.out.symm, Below.refl _ _⟩
                case round =>
                  obtain ⟨k, hk, rfl, HG, hbel⟩ := hrel
                  have hbw := hbw1.trans (hbel.mono hbw1.size)
                  have d0 := (hbel.cell (p := ⟨w.heap.size, 0, none⟩) hz1).trans c0
                  have d4 := (hbel.cell (p := ⟨w.heap.size, 4, none⟩) hz1).trans c4
                  by_cases hlt : k < sub.length
                  · obtain ⟨b, off, a', cap', rfl, e0, e1, e2, e3, e4, hts⟩ := sub_at hsub hbw k hlt
                    have hg0 := HG.out
                    rw [Qmh sub _ k hlt] at hg0
                    have hb0 : (0 : Int) ≤ k := by omega
                    have hb1 : (k : Int) < sub.length := by omega
                    have hk8 : True := trivial
                    have HK8 := Lib.hid hk8
                    clear hk8
                    have IHk := IH.out sub[k] (List.getElem_mem hlt) _ ((2 : Int) == 8) (wr.drewN 1) (hts.later (Qgk wr 1))
                    have f0 := e0
                    have f1 := e1
                    have f2 := e2
                    have f3 := e3
                    have f4 := e4
                    have KEEP : Hid (∀ w', Below wr.heap.size (wr.drewN 1) w' → w'.cell? ⟨w.heap.size, 0, none⟩ = some (.int .i64 2) ∧ w'.cell? ⟨w.heap.size, 4, none⟩ = some (.slice (some ⟨b, off, none⟩) sub.length cap) ∧ w'.cell? ⟨b, off + k * 5, none⟩ = some (.int .i64 sub[k].kind) ∧ w'.cell? ⟨b, off + k * 5 + 1, none⟩ = some (.int .i64 sub[k].at) ∧ w'.cell? ⟨b, off + k * 5 + 2, none⟩ = some (.string sub[k].name) ∧ w'.cell? ⟨b, off + k * 5 + 3, none⟩ = some (.int .i64 sub[k].num) ∧ w'.cell? ⟨b, off + k * 5 + 4, none⟩ = some (.slice a' sub[k].sub.length cap')) := fun w' h =>
                      have mv : ∀ {x : Addr} {v : Value}, wr.cell? x = some v → w'.cell? x = some v := fun c => (h.cell (World.block_lt_of_cell? wr _ c)).trans c
                      ⟨mv d0, mv d4, mv f0, mv f1, mv f2, mv f3, mv f4⟩
                    clear f0 f1 f2 f3 f4
                    have HBL := Lib.hid hbel
                    have HBW := Lib.hid hbw
                    clear hbel hbw
                    cases hg : Qcf sub[k] ((2 : Int) == 8) with
                    | false =>
                      have fin : Hid (gT = false) := by show _ = _; rw [← hg0, hg]; rfl
                      rw [hg] at IHk
                      have IK := Lib.hid IHk
                      clear IHk hg hg0 hts
                      go_wp2_with fail
                      go_region_held3 (fun w' => w'.cell? ⟨w.heap.size, 0, none⟩ = some (.int .i64 2) ∧ w'.cell? ⟨w.heap.size, 4, none⟩ = some (.slice (some ⟨b, off, none⟩) sub.length cap) ∧ w'.cell? ⟨b, off + k * 5, none⟩ = some (.int .i64 sub[k].kind) ∧ w'.cell? ⟨b, off + k * 5 + 1, none⟩ = some (.int .i64 sub[k].at) ∧ w'.cell? ⟨b, off + k * 5 + 2, none⟩ = some (.string sub[k].name) ∧ w'.cell? ⟨b, off + k * 5 + 3, none⟩ = some (.int .i64 sub[k].num) ∧ w'.cell? ⟨b, off + k * 5 + 4, none⟩ = some (.slice a' sub[k].sub.length cap')) (first | go_keep | exact KEEP.out _ hb2) (first | (go_at_call 146; refine IK.out.mono ?_; rintro e w' ⟨rfl, hb2⟩))
                      go_wp2_with fail
                      go_ret
                      exact ⟨Qah fin.out.symm, HBW.out.trans (((Qgk wr 1).trans hb2).mono HBW.out.size)⟩
                    | true =>
                      have fin : Hid (Qeh (sub.drop (k + 1)) ((2 : Int) == 8) = gT) := by show _ = _; rw [← hg0, hg]; simp
                      rw [hg] at IHk
                      have IK := Lib.hid IHk
                      clear IHk hg hg0 hts
                      go_wp2_with fail
                      go_region_held3 (fun w' => w'.cell? ⟨w.heap.size, 0, none⟩ = some (.int .i64 2) ∧ w'.cell? ⟨w.heap.size, 4, none⟩ = some (.slice (some ⟨b, off, none⟩) sub.length cap) ∧ w'.cell? ⟨b, off + k * 5, none⟩ = some (.int .i64 sub[k].kind) ∧ w'.cell? ⟨b, off + k * 5 + 1, none⟩ = some (.int .i64 sub[k].at) ∧ w'.cell? ⟨b, off + k * 5 + 2, none⟩ = some (.string sub[k].name) ∧ w'.cell? ⟨b, off + k * 5 + 3, none⟩ = some (.int .i64 sub[k].num) ∧ w'.cell? ⟨b, off + k * 5 + 4, none⟩ = some (.slice a' sub[k].sub.length cap')) (first | go_keep | exact KEEP.out _ hb2) (first | (go_at_call 146; refine IK.out.mono ?_; rintro e w' ⟨rfl, hb2⟩))
                      go_wp2_with fail
                      go_roundw
                      case rel => exact ⟨k + 1, by omega, by go_num, fin, HBL.out.trans (((Qgk wr 1).trans hb2).mono HBL.out.size)⟩
                      case measure => simp [intOf]; omega
                  · have fin : Hid (gT = true) := by
                      have := HG.out
                      rw [List.drop_of_length_le (by omega)] at this
                      show _ = _
                      rw [← this]; rfl
                    go_wp2_with fail
                    go_ret
                    exact ⟨Qah fin.out.symm, hbw⟩
            · have fin : Hid (gT = false) := by
                show _ = _; rw [hm3.out, hnb, decide_eq_false hn]; rfl
              clear hm3 hnb
              by_cases hn0 : n < 0
              · clear hn
                obtain rfl : p = false := by rw [← h6]; rfl
                · go_enter Tryz.func146, Tryz.ntmps146
                  go_wp2_with (first | (go_at_call 200; refine MA.out.mono ?_; rintro e w1 ⟨rfl, rfl⟩) | (go_at_call 201; refine NM.out.mono ?_; rintro e w1 ⟨rfl, hb⟩; obtain ⟨c0, c1, c2, c3, c4⟩ := Qdk (by rw [HSZ.out] at hb; exact hb); have HBF : Hid (Below w.heap.size w w1) := HBX.out.trans (hb.mono (by rw [HSZ.out]; omega))))
                  go_ret
                  exact ⟨Qah fin.out.symm, HBF.out⟩
              · have hn7 : 7 < n := by omega
                clear hn
                obtain rfl : p = false := by rw [← h6]; rfl
                · go_enter Tryz.func146, Tryz.ntmps146
                  go_wp2_with (first | (go_at_call 200; refine MA.out.mono ?_; rintro e w1 ⟨rfl, rfl⟩) | (go_at_call 201; refine NM.out.mono ?_; rintro e w1 ⟨rfl, hb⟩; obtain ⟨c0, c1, c2, c3, c4⟩ := Qdk (by rw [HSZ.out] at hb; exact hb); have HBF : Hid (Below w.heap.size w w1) := HBX.out.trans (hb.mono (by rw [HSZ.out]; omega))))
                  go_ret
                  exact ⟨Qah fin.out.symm, HBF.out⟩
    · have fin : Hid (gT = false) := by
        have : (decide (6 ≤ kk) == p) = false := by
          have e : decide (5 < kk) = decide (6 ≤ kk) := decide_eq_decide.2 (by omega)
          rw [← e]; cases p <;> simp_all
        show _ = _; rw [hmk.out, this]; simp
      clear hmk
      cases p with
      | false =>
        have h6' : decide (5 < kk) = true := by simpa using h6
        clear h6
        go_enter Tryz.func146, Tryz.ntmps146
        go_wp2_with fail
        go_ret
        exact ⟨Qah fin.out.symm, HBX.out⟩
      | true =>
        have h6' : decide (5 < kk) = false := by simpa using h6
        clear h6
        go_enter Tryz.func146, Tryz.ntmps146
        go_wp2_with fail
        go_ret
        exact ⟨Qah fin.out.symm, HBX.out⟩
  · have fin : Hid (gT = false) := by show _ = _; rw [HM.out, decide_eq_false hk]; rfl
    clear HM
    by_cases h1 : kk < 1
    · clear hk
      go_enter Tryz.func146, Tryz.ntmps146
      go_wp2_with fail
      go_ret
      exact ⟨Qah fin.out.symm, HBX.out⟩
    · have h2 : 10 < kk := by omega
      clear hk
      go_enter Tryz.func146, Tryz.ntmps146
      go_wp2_with fail
      go_ret
      exact ⟨Qah fin.out.symm, HBX.out⟩
end Go.Proofs.YtdklpbefbamchaaGreat
