import Derived.Test.YtackepdhcigdlaaTm20
namespace Go.Proofs.Ytackepdhcigdlaa
open Go.RowKit
set_option maxRecDepth 100000 in
set_option maxHeartbeats 4000000 in
theorem makes_law (t : Tm) (cs : List Value) (u : Tm) (ds : List Value) (n : Int) (hn : (Lit.int .i64 n).wf = true) (w : World) (ht : TmC w t cs) (hu : TmC w u ds) :
    Calls Try.prog 4 #[.agg cs.toArray, .agg ds.toArray, .int .i64 n] w fun e w' => e = .returned (.bool true) ∧ Below w.heap.size w w' := by
  have HT := Lib.hid ht
  have HU := Lib.hid hu
  obtain ⟨a, cap, rfl, hs1, hl1⟩ := tm_open ht
  obtain ⟨a2, cap2, rfl, hs2, hl2⟩ := tm_open hu
  clear hs1 hs2 ht hu
  generalize t.sub.length = m1 at *
  generalize u.sub.length = m2 at *
  generalize hk1 : t.kind = k1 at *
  generalize hk2 : u.kind = k2 at *
  generalize hn1 : t.num = n1 at *
  generalize hn2 : u.num = n2 at *
  have HK := Lib.hid (And.intro hk1 (And.intro hk2 (And.intro hn1 hn2)))
  clear hk1 hk2 hn1 hn2
  have BA := Box3.new w (.int .i64 k1) (.int .i64 n1) (.slice a m1 cap)
  have hwa : Below w.heap.size w (w.alloc (.cells #[.int .i64 k1, .int .i64 n1, .slice a m1 cap] 24)) := (Below.refl _ _).alloc (Nat.le_refl _) _
  have BB : Box3 ((w.alloc (.cells #[.int .i64 k1, .int .i64 n1, .slice a m1 cap] 24)).alloc (.cells #[.int .i64 k2, .int .i64 n2, .slice a2 m2 cap2] 24)) (w.heap.size + 1) (.int .i64 k2) (.int .i64 n2) (.slice a2 m2 cap2) := by simpa using Box3.new (w.alloc (.cells #[.int .i64 k1, .int .i64 n1, .slice a m1 cap] 24)) (.int .i64 k2) (.int .i64 n2) (.slice a2 m2 cap2)
  have hwb : Below w.heap.size w ((w.alloc (.cells #[.int .i64 k1, .int .i64 n1, .slice a m1 cap] 24)).alloc (.cells #[.int .i64 k2, .int .i64 n2, .slice a2 m2 cap2] 24)) := hwa.alloc (by simp) _
  have BA := BA.later ((Below.refl _ _).alloc (Nat.le_refl _) (.cells #[.int .i64 k2, .int .i64 n2, .slice a2 m2 cap2] 24)) (by simp)
  have H0 := HT.out.later hwb
  have H1 := HU.out.later hwb
  go_enter Try.func4, Try.ntmps4
  by_cases hsa : shapedB t = true
  · by_cases hsb : shapedB u = true
    · go_wp2_with fail
      refine (rshaped_any t _ _ H0).mono ?_
      rw [hsa]
      rintro e w1 ⟨rfl, hb1⟩
      have BA := BA.later hb1 (by simp; omega)
      have BB := BB.later hb1 (by simp)
      obtain ⟨c0, c1, c2⟩ := BB.cells
      have H0 := H0.later hb1
      have H1 := H1.later hb1
      have hwb := hwb.trans (hb1.mono hwb.size)
      clear hb1
      go_wp2_with fail
      refine (rshaped_any u _ _ H1).mono ?_
      rw [hsb]
      rintro e w2 ⟨rfl, hb1⟩
      have BA := BA.later hb1 BA.lt
      have BB := BB.later hb1 BB.lt
      have H0 := H0.later hb1
      have H1 := H1.later hb1
      have hwb := hwb.trans (hb1.mono hwb.size)
      clear hb1 c0 c1 c2
      go_upto_region 3 with fail
      have P18 := pi_free H0 H1
      have P19 := lam_free H0 H1
      have P12 := app_free H0 H1
      have K : Hid (∀ w', Below w2.heap.size w2 w' → (w'.cell? ⟨w.heap.size, 0, none⟩ = some (.int .i64 k1) ∧ w'.cell? ⟨w.heap.size, 1, none⟩ = some (.int .i64 n1) ∧ w'.cell? ⟨w.heap.size, 2, none⟩ = some (.slice a m1 cap)) ∧ (w'.cell? ⟨w.heap.size + 1, 0, none⟩ = some (.int .i64 k2) ∧ w'.cell? ⟨w.heap.size + 1, 1, none⟩ = some (.int .i64 n2) ∧ w'.cell? ⟨w.heap.size + 1, 2, none⟩ = some (.slice a2 m2 cap2))) :=
        fun w' hb => ⟨(BA.later hb BA.lt).cells, (BB.later hb BB.lt).cells⟩
      have KD := Lib.hid (K.out w2.drew (Below.refl _ _).drew)
      go_region_held3 (fun w' => (w'.cell? ⟨w.heap.size, 0, none⟩ = some (.int .i64 k1) ∧ w'.cell? ⟨w.heap.size, 1, none⟩ = some (.int .i64 n1) ∧ w'.cell? ⟨w.heap.size, 2, none⟩ = some (.slice a m1 cap)) ∧ (w'.cell? ⟨w.heap.size + 1, 0, none⟩ = some (.int .i64 k2) ∧ w'.cell? ⟨w.heap.size + 1, 1, none⟩ = some (.int .i64 n2) ∧ w'.cell? ⟨w.heap.size + 1, 2, none⟩ = some (.slice a2 m2 cap2))) (first | exact KD.out | exact K3 | exact K4 | exact K5 | exact K.out _ (hs5.alloc hs5.size _)) (first | (go_at_call 18; refine (P18.out _ (Below.refl _ _).drew).mono ?_; rintro e w3 ⟨B3, rfl, hB3, hC3, hb3, hV3⟩; have hs3 : Below w2.heap.size w2 w3 := (Below.refl _ _).drew.trans hb3; have K3 := K.out w3 hs3) | (go_at_call 19; refine (P19.out _ hs3).mono ?_; rintro e w4 ⟨B4, rfl, hB4, hC4, hb4, hV4⟩; have hs4 : Below w2.heap.size w2 w4 := hs3.trans (hb4.mono hs3.size); have K4 := K.out w4 hs4) | (go_at_call 12; refine (P12.out _ hs4).mono ?_; rintro e w5 ⟨B5, rfl, hB5, hC5, hb5, hV5⟩; have hs5 : Below w2.heap.size w2 w5 := hs4.trans (hb5.mono hs4.size); have K5 := K.out w5 hs5))
      have hsL := hs5.alloc hs5.size (.cells #[.int .i64 3, .int .i64 0, .slice (some ⟨B3, 0, none⟩) 2 2, .int .i64 4, .int .i64 0, .slice (some ⟨B4, 0, none⟩) 2 2, .int .i64 5, .int .i64 0, .slice (some ⟨B5, 0, none⟩) 2 2] 24)
      have hL1 := (Below.refl w5.heap.size w5).alloc (Nat.le_refl _) (.cells #[.int .i64 3, .int .i64 0, .slice (some ⟨B3, 0, none⟩) 2 2, .int .i64 4, .int .i64 0, .slice (some ⟨B4, 0, none⟩) 2 2, .int .i64 5, .int .i64 0, .slice (some ⟨B5, 0, none⟩) 2 2] 24)
      have hz3 := hs3.size
      have hz4 := hb4.size
      have hz5 := hb5.size
      have T3 := hV3 _ (fun b hb => hsL.block b hb) ((hL1.block B3 (by omega)).trans (((hb5.block B3 (by omega)).trans (hb4.block B3 hC3))))
      have T4 := hV4 _ (fun b hb => hsL.block b hb) ((hL1.block B4 (by omega)).trans (hb5.block B4 hC4))
      have T5 := hV5 _ (fun b hb => hsL.block b hb) (hL1.block B5 hC5)
      have hblk : (w5.alloc (.cells #[.int .i64 3, .int .i64 0, .slice (some ⟨B3, 0, none⟩) 2 2, .int .i64 4, .int .i64 0, .slice (some ⟨B4, 0, none⟩) 2 2, .int .i64 5, .int .i64 0, .slice (some ⟨B5, 0, none⟩) 2 2] 24)).heap[w5.heap.size]? = some (.cells #[.int .i64 3, .int .i64 0, .slice (some ⟨B3, 0, none⟩) 2 2, .int .i64 4, .int .i64 0, .slice (some ⟨B4, 0, none⟩) 2 2, .int .i64 5, .int .i64 0, .slice (some ⟨B5, 0, none⟩) 2 2] 24) := heap_alloc_new _ _
      have hbA := hsL
      have EK : Hid (∀ k : Nat, k < 3 → ∃ Bk : Nat, (w5.alloc (.cells #[.int .i64 3, .int .i64 0, .slice (some ⟨B3, 0, none⟩) 2 2, .int .i64 4, .int .i64 0, .slice (some ⟨B4, 0, none⟩) 2 2, .int .i64 5, .int .i64 0, .slice (some ⟨B5, 0, none⟩) 2 2] 24)).cell? ⟨w5.heap.size, k * 3, none⟩ = some (.int .i64 (3 + k)) ∧
          (w5.alloc (.cells #[.int .i64 3, .int .i64 0, .slice (some ⟨B3, 0, none⟩) 2 2, .int .i64 4, .int .i64 0, .slice (some ⟨B4, 0, none⟩) 2 2, .int .i64 5, .int .i64 0, .slice (some ⟨B5, 0, none⟩) 2 2] 24)).cell? ⟨w5.heap.size, k * 3 + 1, none⟩ = some (.int .i64 0) ∧
          (w5.alloc (.cells #[.int .i64 3, .int .i64 0, .slice (some ⟨B3, 0, none⟩) 2 2, .int .i64 4, .int .i64 0, .slice (some ⟨B4, 0, none⟩) 2 2, .int .i64 5, .int .i64 0, .slice (some ⟨B5, 0, none⟩) 2 2] 24)).cell? ⟨w5.heap.size, k * 3 + 2, none⟩ = some (.slice (some ⟨Bk, 0, none⟩) 2 2) ∧
          TmC (w5.alloc (.cells #[.int .i64 3, .int .i64 0, .slice (some ⟨B3, 0, none⟩) 2 2, .int .i64 4, .int .i64 0, .slice (some ⟨B4, 0, none⟩) 2 2, .int .i64 5, .int .i64 0, .slice (some ⟨B5, 0, none⟩) 2 2] 24)) (.mk (3 + k) 0 [t, u]) [.int .i64 (3 + k), .int .i64 0, .slice (some ⟨Bk, 0, none⟩) 2 2]) := by
        intro k hk
        have : k = 0 ∨ k = 1 ∨ k = 2 := by omega
        rcases this with rfl | rfl | rfl
        · exact ⟨B3, by rw [cell_of_row _ _ _ _ _ _ hblk]; rfl, by rw [cell_of_row _ _ _ _ _ _ hblk]; rfl, by rw [cell_of_row _ _ _ _ _ _ hblk]; rfl, T3⟩
        · exact ⟨B4, by rw [cell_of_row _ _ _ _ _ _ hblk]; rfl, by rw [cell_of_row _ _ _ _ _ _ hblk]; rfl, by rw [cell_of_row _ _ _ _ _ _ hblk]; rfl, T4⟩
        · exact ⟨B5, by rw [cell_of_row _ _ _ _ _ _ hblk]; rfl, by rw [cell_of_row _ _ _ _ _ _ hblk]; rfl, by rw [cell_of_row _ _ _ _ _ _ hblk]; rfl, T5⟩
      have BAh := Lib.hid BA
      have BBh := Lib.hid BB
      have H0h := Lib.hid H0
      have H1h := Lib.hid H1
      generalize hw6 : w5.alloc (.cells #[.int .i64 3, .int .i64 0, .slice (some ⟨B3, 0, none⟩) 2 2, .int .i64 4, .int .i64 0, .slice (some ⟨B4, 0, none⟩) 2 2, .int .i64 5, .int .i64 0, .slice (some ⟨B5, 0, none⟩) 2 2] 24) = w6 at *
      generalize w5.heap.size = BL at *
      clear hw6
      rename_i hHeld
      clear hHeld T3 T4 T5 hblk hL1 hV3 hV4 hV5 K3 K4 K5 KD P18 P19 P12 BA BB H0 H1 hB3 hB4 hB5 hC3 hC4 hC5 hz3 hz4 hz5 hb3 hb4 hb5 hs3 hs4 hs5
      have HU6 := H1h.out.later hbA
      have HT6 := H0h.out.later hbA
      have hw6 : Below w.heap.size w w6 := hwb.trans (hbA.mono hwb.size)
      have P21 := fun k : Int => two_free (k := k) HT6 HU6
      have P21 := Lib.hid P21
      clear H0 H1 hwb BA BB HU6 HT6 BAh BBh H0h H1h
      have K6 : Hid (∀ w', Below w6.heap.size w6 w' → (w'.cell? ⟨w.heap.size, 0, none⟩ = some (.int .i64 k1) ∧ w'.cell? ⟨w.heap.size, 1, none⟩ = some (.int .i64 n1) ∧ w'.cell? ⟨w.heap.size, 2, none⟩ = some (.slice a m1 cap)) ∧ (w'.cell? ⟨w.heap.size + 1, 0, none⟩ = some (.int .i64 k2) ∧ w'.cell? ⟨w.heap.size + 1, 1, none⟩ = some (.int .i64 n2) ∧ w'.cell? ⟨w.heap.size + 1, 2, none⟩ = some (.slice a2 m2 cap2))) := fun w' hb => K.out w' (hbA.trans (hb.mono hbA.size))
      clear K hsL
      go_wp2_with fail
      go_loopw [8] (fun i wr => ∃ k : Nat, k ≤ 3 ∧ i = .int .i64 k ∧ Below w6.heap.size w6 wr) (fun i _ => 300 - (intOf i).toNat)
      case atStart => exact ⟨0, by omega, rfl, Below.refl _ _⟩
      case round =>
        obtain ⟨k, hk, rfl, hbel⟩ := hrel
        by_cases hlt : k < 3
        · have hd : decide ((k : Int) < 3) = true := by simp; omega
          have hws := wrap_in (3 + (k : Int)) (by omega) (by omega)
          obtain ⟨Bk, e0, e1, e2, hE⟩ := EK.out k hlt
          have L : Hid (∀ w', Below w6.heap.size w6 w' → (w'.cell? ⟨BL, k * 3, none⟩ = some (.int .i64 (3 + k)) ∧ w'.cell? ⟨BL, k * 3 + 1, none⟩ = some (.int .i64 0) ∧ w'.cell? ⟨BL, k * 3 + 2, none⟩ = some (.slice (some ⟨Bk, 0, none⟩) 2 2)) ∧ ((w'.cell? ⟨w.heap.size, 0, none⟩ = some (.int .i64 k1) ∧ w'.cell? ⟨w.heap.size, 1, none⟩ = some (.int .i64 n1) ∧ w'.cell? ⟨w.heap.size, 2, none⟩ = some (.slice a m1 cap)) ∧ (w'.cell? ⟨w.heap.size + 1, 0, none⟩ = some (.int .i64 k2) ∧ w'.cell? ⟨w.heap.size + 1, 1, none⟩ = some (.int .i64 n2) ∧ w'.cell? ⟨w.heap.size + 1, 2, none⟩ = some (.slice a2 m2 cap2)))) :=
            fun w' hb => ⟨⟨(hb.cell (World.block_lt_of_cell? w6 _ e0)).trans e0, (hb.cell (World.block_lt_of_cell? w6 _ e1)).trans e1, (hb.cell (World.block_lt_of_cell? w6 _ e2)).trans e2⟩, K6.out w' hb⟩
          have HE := Lib.hid hE
          have hbd : Below w6.heap.size w6 wr.drew := hbel.drew
          have L0 := L.out wr.drew hbd
          have HL := Lib.hid hlt
          have hi0 : (0 : Int) ≤ k := by omega
          have hi1 : (k : Int) < 3 := by omega
          clear e0 e1 e2 hE hlt hk
          go_wp2_with fail
          go_region_held3 (fun w' => (w'.cell? ⟨BL, k * 3, none⟩ = some (.int .i64 (3 + k)) ∧ w'.cell? ⟨BL, k * 3 + 1, none⟩ = some (.int .i64 0) ∧ w'.cell? ⟨BL, k * 3 + 2, none⟩ = some (.slice (some ⟨Bk, 0, none⟩) 2 2)) ∧ ((w'.cell? ⟨w.heap.size, 0, none⟩ = some (.int .i64 k1) ∧ w'.cell? ⟨w.heap.size, 1, none⟩ = some (.int .i64 n1) ∧ w'.cell? ⟨w.heap.size, 2, none⟩ = some (.slice a m1 cap)) ∧ (w'.cell? ⟨w.heap.size + 1, 0, none⟩ = some (.int .i64 k2) ∧ w'.cell? ⟨w.heap.size + 1, 1, none⟩ = some (.int .i64 n2) ∧ w'.cell? ⟨w.heap.size + 1, 2, none⟩ = some (.slice a2 m2 cap2)))) (first | exact L0 | exact L3 | exact L4) (first | (go_at_call 21; refine ((P21.out (3 + k)).out _ hbd).mono ?_; rintro e w7 ⟨B7, rfl, hB7, hC7, hb7, hV7⟩; have hs7 : Below w6.heap.size w6 w7 := hbd.trans (hb7.mono hbd.size); have L3 := L.out w7 hs7; have T7 := hV7 _ (fun b hb => hs7.block b hb) rfl) | (go_at_call 20; refine (requal_any (.mk (3 + k) 0 [t, u]) (.mk (3 + k) 0 [t, u]) _ _ _ (HE.out.later hs7) T7).mono ?_; rw [(eqT_iff _ _).2 rfl]; rintro e w8 ⟨rfl, hb8⟩; have hs8 : Below w6.heap.size w6 w8 := hs7.trans (hb8.mono hs7.size); have L4 := L.out w8 hs8))
          go_wp2_with fail
          go_roundw
          case rel => exact ⟨k + 1, HL.out, by simp, hs8⟩
          case measure => have := HL.out; simp [intOf]; omega
        · have hd : decide ((k : Int) < 3) = false := by simp; omega
          obtain rfl : k = 3 := by omega
          clear hlt hk
          have hwr : Below w.heap.size w wr := hw6.trans (hbel.mono hw6.size)
          clear hbel P21 K6 EK
          clear HT HU HK hwa hl1 hl2 hsa hsb
          go_wp2_with fail
          refine (var_any _ _).mono ?_
          rintro e w7 ⟨rfl, hb7⟩
          have hwr := hwr.trans (hb7.mono hwr.size)
          clear hb7
          go_wp2_with fail
          refine (sort_any _ _).mono ?_
          rintro e w8 ⟨rfl, hb7⟩
          have hwr := hwr.trans (hb7.mono hwr.size)
          clear hb7
          go_wp2_with fail
          refine (const_any _ _).mono ?_
          rintro e w9 ⟨rfl, hb7⟩
          have hwr := hwr.trans (hb7.mono hwr.size)
          clear hb7
          go_wp2_with fail
          refine (free_any _ _).mono ?_
          rintro e w10 ⟨rfl, hb7⟩
          have hwr := hwr.trans (hb7.mono hwr.size)
          clear hb7
          have hW1 : Below w10.heap.size w10 ((w10.alloc (.cells #[.int .i64 1, .int .i64 n, .slice none 0 0, .int .i64 2, .int .i64 n, .slice none 0 0, .int .i64 6, .int .i64 n, .slice none 0 0, .int .i64 8, .int .i64 n, .slice none 0 0] 24)).alloc (.cells #[.int .i64 1, .int .i64 2, .int .i64 6, .int .i64 8] 3)) := ((Below.refl _ _).alloc (Nat.le_refl _) _).alloc (by simp) _
          have hWw : Below w.heap.size w ((w10.alloc (.cells #[.int .i64 1, .int .i64 n, .slice none 0 0, .int .i64 2, .int .i64 n, .slice none 0 0, .int .i64 6, .int .i64 n, .slice none 0 0, .int .i64 8, .int .i64 n, .slice none 0 0] 24)).alloc (.cells #[.int .i64 1, .int .i64 2, .int .i64 6, .int .i64 8] 3)) := hwr.trans (hW1.mono hwr.size)
          have hb1 : ((w10.alloc (.cells #[.int .i64 1, .int .i64 n, .slice none 0 0, .int .i64 2, .int .i64 n, .slice none 0 0, .int .i64 6, .int .i64 n, .slice none 0 0, .int .i64 8, .int .i64 n, .slice none 0 0] 24)).alloc (.cells #[.int .i64 1, .int .i64 2, .int .i64 6, .int .i64 8] 3)).heap[w10.heap.size]? = some (.cells #[.int .i64 1, .int .i64 n, .slice none 0 0, .int .i64 2, .int .i64 n, .slice none 0 0, .int .i64 6, .int .i64 n, .slice none 0 0, .int .i64 8, .int .i64 n, .slice none 0 0] 24) := (((Below.refl (w10.heap.size + 1) (w10.alloc (.cells #[.int .i64 1, .int .i64 n, .slice none 0 0, .int .i64 2, .int .i64 n, .slice none 0 0, .int .i64 6, .int .i64 n, .slice none 0 0, .int .i64 8, .int .i64 n, .slice none 0 0] 24))).alloc (by simp) _).block _ (by omega)).trans (heap_alloc_new w10 _)
          have hb2 : ((w10.alloc (.cells #[.int .i64 1, .int .i64 n, .slice none 0 0, .int .i64 2, .int .i64 n, .slice none 0 0, .int .i64 6, .int .i64 n, .slice none 0 0, .int .i64 8, .int .i64 n, .slice none 0 0] 24)).alloc (.cells #[.int .i64 1, .int .i64 2, .int .i64 6, .int .i64 8] 3)).heap[w10.heap.size + 1]? = some (.cells #[.int .i64 1, .int .i64 2, .int .i64 6, .int .i64 8] 3) := by simpa using heap_alloc_new (w10.alloc (.cells #[.int .i64 1, .int .i64 n, .slice none 0 0, .int .i64 2, .int .i64 n, .slice none 0 0, .int .i64 6, .int .i64 n, .slice none 0 0, .int .i64 8, .int .i64 n, .slice none 0 0] 24)) (.cells #[.int .i64 1, .int .i64 2, .int .i64 6, .int .i64 8] 3)
          have E4 : Hid (∀ k : Nat, k < 4 → ∃ kk : Int, (((w10.alloc (.cells #[.int .i64 1, .int .i64 n, .slice none 0 0, .int .i64 2, .int .i64 n, .slice none 0 0, .int .i64 6, .int .i64 n, .slice none 0 0, .int .i64 8, .int .i64 n, .slice none 0 0] 24)).alloc (.cells #[.int .i64 1, .int .i64 2, .int .i64 6, .int .i64 8] 3)).cell? ⟨w10.heap.size, k * 3, none⟩ = some (.int .i64 kk) ∧ ((w10.alloc (.cells #[.int .i64 1, .int .i64 n, .slice none 0 0, .int .i64 2, .int .i64 n, .slice none 0 0, .int .i64 6, .int .i64 n, .slice none 0 0, .int .i64 8, .int .i64 n, .slice none 0 0] 24)).alloc (.cells #[.int .i64 1, .int .i64 2, .int .i64 6, .int .i64 8] 3)).cell? ⟨w10.heap.size, k * 3 + 1, none⟩ = some (.int .i64 n) ∧ ((w10.alloc (.cells #[.int .i64 1, .int .i64 n, .slice none 0 0, .int .i64 2, .int .i64 n, .slice none 0 0, .int .i64 6, .int .i64 n, .slice none 0 0, .int .i64 8, .int .i64 n, .slice none 0 0] 24)).alloc (.cells #[.int .i64 1, .int .i64 2, .int .i64 6, .int .i64 8] 3)).cell? ⟨w10.heap.size, k * 3 + 2, none⟩ = some (.slice none 0 0)) ∧ ((w10.alloc (.cells #[.int .i64 1, .int .i64 n, .slice none 0 0, .int .i64 2, .int .i64 n, .slice none 0 0, .int .i64 6, .int .i64 n, .slice none 0 0, .int .i64 8, .int .i64 n, .slice none 0 0] 24)).alloc (.cells #[.int .i64 1, .int .i64 2, .int .i64 6, .int .i64 8] 3)).cell? ⟨w10.heap.size + 1, k, none⟩ = some (.int .i64 kk)) := by
            intro k hk
            have : k = 0 ∨ k = 1 ∨ k = 2 ∨ k = 3 := by omega
            rcases this with rfl | rfl | rfl | rfl
            · exact ⟨1, ⟨by rw [cell_of_row _ _ _ _ _ _ hb1]; rfl, by rw [cell_of_row _ _ _ _ _ _ hb1]; rfl, by rw [cell_of_row _ _ _ _ _ _ hb1]; rfl⟩, by rw [cell_of_row _ _ _ _ _ _ hb2]; rfl⟩
            · exact ⟨2, ⟨by rw [cell_of_row _ _ _ _ _ _ hb1]; rfl, by rw [cell_of_row _ _ _ _ _ _ hb1]; rfl, by rw [cell_of_row _ _ _ _ _ _ hb1]; rfl⟩, by rw [cell_of_row _ _ _ _ _ _ hb2]; rfl⟩
            · exact ⟨6, ⟨by rw [cell_of_row _ _ _ _ _ _ hb1]; rfl, by rw [cell_of_row _ _ _ _ _ _ hb1]; rfl, by rw [cell_of_row _ _ _ _ _ _ hb1]; rfl⟩, by rw [cell_of_row _ _ _ _ _ _ hb2]; rfl⟩
            · exact ⟨8, ⟨by rw [cell_of_row _ _ _ _ _ _ hb1]; rfl, by rw [cell_of_row _ _ _ _ _ _ hb1]; rfl, by rw [cell_of_row _ _ _ _ _ _ hb1]; rfl⟩, by rw [cell_of_row _ _ _ _ _ _ hb2]; rfl⟩
          clear hb1 hb2 hW1 hwr hd
          have HWw := Lib.hid hWw
          clear hWw
          go_wp2_with fail
          generalize ((w10.alloc (.cells #[.int .i64 1, .int .i64 n, .slice none 0 0, .int .i64 2, .int .i64 n, .slice none 0 0, .int .i64 6, .int .i64 n, .slice none 0 0, .int .i64 8, .int .i64 n, .slice none 0 0] 24)).alloc (.cells #[.int .i64 1, .int .i64 2, .int .i64 6, .int .i64 8] 3)) = wq at *
          generalize w10.heap.size = BQ at *
          go_loopw [11] (fun i wr => ∃ k : Nat, k ≤ 4 ∧ i = .int .i64 k ∧ Below wq.heap.size wq wr) (fun i _ => 300 - (intOf i).toNat)
          case atStart => exact ⟨0, by omega, rfl, Below.refl _ _⟩
          case round =>
            obtain ⟨k, hk, rfl, hbel⟩ := hrel
            by_cases hlt : k < 4
            · have hd : decide ((k : Int) < 4) = true := by simp; omega
              obtain ⟨kk, ⟨e0, e1, e2⟩, e3⟩ := E4.out k hlt
              have L : Hid (∀ w', Below wq.heap.size wq w' → (w'.cell? ⟨BQ, k * 3, none⟩ = some (.int .i64 kk) ∧ w'.cell? ⟨BQ, k * 3 + 1, none⟩ = some (.int .i64 n) ∧ w'.cell? ⟨BQ, k * 3 + 2, none⟩ = some (.slice none 0 0)) ∧ w'.cell? ⟨BQ + 1, k, none⟩ = some (.int .i64 kk)) :=
                fun w' hb => ⟨⟨(hb.cell (World.block_lt_of_cell? wq _ e0)).trans e0, (hb.cell (World.block_lt_of_cell? wq _ e1)).trans e1, (hb.cell (World.block_lt_of_cell? wq _ e2)).trans e2⟩, (hb.cell (World.block_lt_of_cell? wq _ e3)).trans e3⟩
              have hbd : Below wq.heap.size wq wr.drew := hbel.drew
              have L0 := L.out wr.drew hbd
              have HL := Lib.hid hlt
              have hi0 : (0 : Int) ≤ k := by omega
              have hi1 : (k : Int) < 4 := by omega
              clear e0 e1 e2 e3 hlt hk
              go_wp2_with fail
              go_region_held3 (fun w' => (w'.cell? ⟨BQ, k * 3, none⟩ = some (.int .i64 kk) ∧ w'.cell? ⟨BQ, k * 3 + 1, none⟩ = some (.int .i64 n) ∧ w'.cell? ⟨BQ, k * 3 + 2, none⟩ = some (.slice none 0 0)) ∧ w'.cell? ⟨BQ + 1, k, none⟩ = some (.int .i64 kk)) (first | exact L0 | exact L3 | exact L4) (first | (go_at_call 25; refine (rleaf_any kk n _).mono ?_; rintro e w12 ⟨rfl, hb7⟩; have hs7 : Below wq.heap.size wq w12 := hbd.trans (hb7.mono hbd.size); have L3 := L.out w12 hs7) | (go_at_call 20; refine (requal_any (.mk kk n []) (.mk kk n []) _ _ _ (leaf_tm _ _ _) (leaf_tm _ _ _)).mono ?_; rw [(eqT_iff _ _).2 rfl]; rintro e w13 ⟨rfl, hb8⟩; have hs8 : Below wq.heap.size wq w13 := hs7.trans (hb8.mono hs7.size); have L4 := L.out w13 hs8))
              go_wp2_with fail
              go_roundw
              case rel => exact ⟨k + 1, HL.out, by simp, hs8⟩
              case measure => have := HL.out; simp [intOf]; omega
            · have hd : decide ((k : Int) < 4) = false := by simp; omega
              obtain rfl : k = 4 := by omega
              clear hlt hk E4
              have hwr : Below w.heap.size w wr := HWw.out.trans (hbel.mono HWw.out.size)
              clear hbel
              go_wp2_with fail
              refine (elim_any _ _ _).mono ?_
              rintro e w14 ⟨s14, rfl, hT14, hb7⟩
              have hwr := hwr.trans (hb7.mono hwr.size)
              clear hb7
              go_wp2_with fail
              refine (rleaf_any _ _ _).mono ?_
              rintro e w15 ⟨rfl, hb7⟩
              have hT14 := hT14.later hb7
              have hwr := hwr.trans (hb7.mono hwr.size)
              clear hb7
              have hwA := hwr.alloc hwr.size (.cells #[.int .i64 2, .int .i64 3, .slice none 0 0] 24)
              have hT14 := hT14.later ((Below.refl _ _).alloc (Nat.le_refl _) (.cells #[.int .i64 2, .int .i64 3, .slice none 0 0] 24))
              have HBl := Lib.hid (heap_alloc_new w15 (.cells #[.int .i64 2, .int .i64 3, .slice none 0 0] 24))
              go_wp2_with fail
              refine (rnode_any _ _ _ _ _ _).mono ?_
              rintro e w16 ⟨rfl, hb7⟩
              have hT14 := hT14.later hb7
              have hwA := hwA.trans (hb7.mono hwA.size)
              have hT15 : TmC w16 (.mk 7 n [.mk 2 3 []]) [.int .i64 7, .int .i64 n, .slice (some ⟨w15.heap.size, 0, none⟩) 1 1] := by
                refine TmF.toC (S := fun _ => True) (TmF.made (ts := [.mk 2 3 []]) (css := [[.int .i64 2, .int .i64 3, .slice none 0 0]]) 7 n ?_ (by show 1 ≤ maxLen; decide) trivial ((hb7.block _ (by simp)).trans HBl.out))
                simp only [TmFs]
                exact ⟨_, _, rfl, TmF.leaf _ _ _ _, rfl⟩
              clear hb7
              go_wp2_with fail
              refine (requal_any _ _ _ _ _ hT14 hT15).mono ?_
              rw [(eqT_iff _ _).2 rfl]
              rintro e w17 ⟨rfl, hb7⟩
              have hwA := hwA.trans (hb7.mono hwA.size)
              clear hb7 hT14 hT15
              go_wp2_with fail
              refine (awake_any _).mono ?_
              rintro e w18 ⟨rfl, hb7⟩
              have hwA := hwA.trans (hb7.mono hwA.size)
              go_wp2_with fail
              go_ret
              exact ⟨rfl, hwA⟩
    · have hsb : shapedB u = false := by simpa using hsb
      go_wp2_with fail
      refine (rshaped_any t _ _ H0).mono ?_
      rw [hsa]
      rintro e w1 ⟨rfl, hb1⟩
      have BB := BB.later hb1 (by simp)
      obtain ⟨c0, c1, c2⟩ := BB.cells
      have H1 := H1.later hb1
      have hwb := hwb.trans (hb1.mono hwb.size)
      clear hb1
      go_wp2_with fail
      refine (rshaped_any u _ _ H1).mono ?_
      rw [hsb]
      rintro e w2 ⟨rfl, hb1⟩
      have hwb := hwb.trans (hb1.mono hwb.size)
      clear hb1
      go_wp2_with fail
      refine (awake_any _).mono ?_
      rintro e w3 ⟨rfl, hb1⟩
      have hwb := hwb.trans (hb1.mono hwb.size)
      go_wp2_with fail
      go_ret
      exact ⟨rfl, hwb⟩
  · have hsa : shapedB t = false := by simpa using hsa
    go_wp2_with fail
    refine (rshaped_any t _ _ H0).mono ?_
    rw [hsa]
    rintro e w1 ⟨rfl, hb1⟩
    have hwb := hwb.trans (hb1.mono hwb.size)
    clear hb1
    go_wp2_with fail
    refine (awake_any _).mono ?_
    rintro e w3 ⟨rfl, hb1⟩
    have hwb := hwb.trans (hb1.mono hwb.size)
    go_wp2_with fail
    go_ret
    exact ⟨rfl, hwb⟩
end Go.Proofs.Ytackepdhcigdlaa
