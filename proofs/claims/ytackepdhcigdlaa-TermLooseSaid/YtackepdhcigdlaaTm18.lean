import Derived.Test.YtackepdhcigdlaaTm17
import Derived.Deep.RegionHeld3
import Derived.Deep.DeepCutAuto
import Derived.Deep.Cut
namespace Go.Proofs.Ytackepdhcigdlaa
open Go.RowKit
def chainT : Nat → Tm | 0 => .mk 2 0 [] | n+1 => .mk 5 0 [chainT n, .mk 2 0 []]
def dblT : Nat → Tm | 0 => .mk 2 0 [] | n+1 => .mk 5 0 [dblT n, dblT n]
theorem chain_vals : shapedB (chainT 126) = true ∧ shapedB (chainT 127) = true ∧ shapedB (chainT 128) = false := by decide +kernel
theorem dbl_vals : sizeT (dblT 12) = 8191 ∧ shapedB (dblT 12) = true ∧ sizeT (.mk 5 0 [dblT 12, .mk 2 0 []]) = 8193 ∧ shapedB (.mk 5 0 [dblT 12, .mk 2 0 []]) = false ∧ sizeT (.mk 5 0 [dblT 12, dblT 12]) = 8193 ∧ depthT (.mk 5 0 [dblT 12, dblT 12]) = 129 := by decide +kernel
/-- an application of a boxed term and another one, later; it goes back into the box -/
theorem app_later {B : Nat} {t u : Tm} {k : Int} {s : Value} {cu : List Value} {wr : World} (BX : Box3 wr B (.int .i64 k) (.int .i64 0) s) (hT : TmF (fun b => b ≠ B ∧ b < wr.heap.size) wr t [.int .i64 k, .int .i64 0, s]) (hU : TmF (fun b => b ≠ B ∧ b < wr.heap.size) wr u cu) :
    Hid (∀ w2, Below wr.heap.size wr w2 → Calls Try.prog 12 #[.agg #[.int .i64 k, .int .i64 0, s], .agg cu.toArray] w2 fun e w3 => ∃ B3 : Nat, e = .returned (.agg #[.int .i64 5, .int .i64 0, .slice (some ⟨B3, 0, none⟩) 2 2]) ∧
      Box3 w3 B (.int .i64 k) (.int .i64 0) s ∧ Below wr.heap.size wr w3 ∧ TmF (fun b => b ≠ B ∧ b < w3.heap.size) w3 (.mk 5 0 [t, u]) [.int .i64 5, .int .i64 0, .slice (some ⟨B3, 0, none⟩) 2 2]) := by
  intro w2 hb
  have hl := BX.lt
  have hsz := hb.size
  have mv : ∀ b, (b ≠ B ∧ b < wr.heap.size) → (b ≠ B ∧ b < w2.heap.size) ∧ w2.heap[b]? = wr.heap[b]? := fun b h => ⟨⟨h.1, by omega⟩, hb.block b h.2⟩
  refine (app_box (fun b => b ≠ B ∧ b < w2.heap.size) t u [.int .i64 k, .int .i64 0, s] cu w2 (TmF.move mv _ _ hT) (TmF.move mv _ _ hU) (fun b h => h.2)).mono ?_
  rintro e w3 ⟨B3, rfl, ht3, hb3⟩
  have hs3 := hb3.size
  refine ⟨B3, rfl, (BX.later hb hl).later hb3 (by omega), hb.trans (hb3.mono hsz), TmF.move (fun b h => ⟨?_, rfl⟩) _ _ ht3⟩
  rcases h with h | h
  · exact ⟨h.1, by omega⟩
  · exact ⟨by omega, h.2⟩
theorem box_put {B : Nat} {w : World} {t : Tm} {x y z u v s : Value} (hb : Box3 w B x y z) (h : TmF (fun b => b ≠ B ∧ b < w.heap.size) w t [u, v, s]) :
    Box3 (((w.setCell ⟨B, 0, none⟩ u).setCell ⟨B, 1, none⟩ v).setCell ⟨B, 2, none⟩ s) B u v s ∧
    TmF (fun b => b ≠ B ∧ b < (((w.setCell ⟨B, 0, none⟩ u).setCell ⟨B, 1, none⟩ v).setCell ⟨B, 2, none⟩ s).heap.size) (((w.setCell ⟨B, 0, none⟩ u).setCell ⟨B, 1, none⟩ v).setCell ⟨B, 2, none⟩ s) t [u, v, s] := by
  refine ⟨hb.set _ _ _, TmF.move (fun b hS => ?_) _ _ h⟩
  rw [set3_size]
  exact ⟨hS, set3_heap _ _ _ _ _ _ hS.1⟩
set_option maxRecDepth 100000 in
set_option maxHeartbeats 8000000 in
theorem limits_walk (more : Int) (hm : (Lit.int .u8 more).wf = true) (w : World) :
    Calls Try.prog 3 #[.int .u8 more] w fun e w' => e = .returned (.bool true) ∧ Below w.heap.size w w' := by
  obtain ⟨r, hr2, hr⟩ : ∃ r : Nat, r ≤ 2 ∧ more.tmod 3 = r := by
    have h0 : 0 ≤ more := by simp [Lit.wf, IntKind.min, IntKind.max, IntKind.signed, IntKind.bits] at hm; omega
    refine ⟨(more.tmod 3).toNat, ?_, ?_⟩
    · rw [Int.tmod_eq_emod_of_nonneg h0]; omega
    · rw [Int.tmod_eq_emod_of_nonneg h0]; omega
  go_enter Try.func3, Try.ntmps3
  go_wp2_with fail
  refine (sort_any _ _).mono ?_
  rintro e w1 ⟨rfl, hb1⟩
  have BX0 := Box3.new w1 (.int .i64 2) (.int .i64 0) (.slice none 0 0)
  have hw1 : Below w.heap.size w (w1.alloc (.cells #[.int .i64 2, .int .i64 0, .slice none 0 0] 24)) := hb1.alloc hb1.size _
  have h1le := hb1.size
  clear hb1
  go_wp2_with fail
  clear BX0
  go_loopw [5] (fun i wr => ∃ (m : Nat) (k : Int) (s : Value), m ≤ 126 + r ∧ i = .int .i64 (m + 1) ∧ Box3 wr w1.heap.size (.int .i64 k) (.int .i64 0) s ∧ TmF (fun b => b ≠ w1.heap.size ∧ b < wr.heap.size) wr (chainT m) [.int .i64 k, .int .i64 0, s] ∧ Below w.heap.size w wr) (fun i _ => 300 - (intOf i).toNat)
  case atStart => 
    exact ⟨0, 2, .slice none 0 0, by omega, rfl, Box3.new _ _ _ _, TmF.leaf _ _ 2 0, hw1⟩
  case round =>
    obtain ⟨m, k, s, hm1, rfl, BX, hT, hbel⟩ := hrel
    have hBl := BX.lt
    obtain ⟨c0, c1, c2⟩ := BX.cells
    by_cases hlt : m < 126 + r
    · have hd : decide ((m : Int) + 1 < 127 + r) = true := by simp; omega
      have g0 := BX.free 0
      have H12 := app_later BX hT (TmF.leaf _ _ 2 0)
      go_wp2_with fail
      go_region_with (first | (go_at_call 11; refine (sort_any _ _).mono ?_; rintro e w2 ⟨rfl, hb2'⟩; have hb2 : Below wr.heap.size wr w2 := (Below.refl _ _).drew.trans hb2'; obtain ⟨d0, d1, d2⟩ := (BX.later hb2 hBl).cells) | (go_at_call 12; refine (H12.out _ hb2).mono ?_; rintro e w3 ⟨B3, rfl, BX3, hb3, ht3⟩; have g0 := BX3.free 0; have g1 := BX3.free 1; have g2 := BX3.free 2; obtain ⟨q0, q1, q2⟩ := BX3.cells))
      all_goals
        obtain ⟨bx1, ht1⟩ := box_put BX3 ht3
        have hbn := set3_below (hbel.trans (hb3.mono hbel.size)) h1le (.int .i64 5) (.int .i64 0) (.slice (some ⟨B3, 0, none⟩) 2 2)
        clear g0 g1 g2 q0 q1 q2 c0 c1 c2 hb2 hb2' hb3 BX3 ht3 BX hT H12
        go_wp2_with fail
        go_roundw
        case rel => exact ⟨m + 1, 5, _, by omega, by simp, bx1, ht1, hbn⟩
        case measure => simp [intOf]; omega
    · have hd : decide ((m : Int) + 1 < 127 + r) = false := by simp; omega
      have hme : m = 126 + r := by omega
      obtain ⟨v1, v2, v3⟩ := chain_vals
      have hbq : (shapedB (chainT m) == decide ((127 : Int) + r ≤ 128)) = true := by
        subst hme
        have : r = 0 ∨ r = 1 ∨ r = 2 := by omega
        rcases this with rfl | rfl | rfl
        · rw [show 126 + 0 = 126 from rfl, v1]; rfl
        · rw [show 126 + 1 = 127 from rfl, v2]; rfl
        · rw [show 126 + 2 = 128 from rfl, v3]; rfl
      clear v1 v2 v3 hlt hme
      have HT := Lib.hid hT.toC
      go_wp2_with fail
      refine (shaped_any _ _ _ HT.out).mono ?_
      rintro e w4 ⟨rfl, hb4⟩
      have hw4 : Below w.heap.size w w4 := hbel.trans (hb4.mono hbel.size)
      clear hb4 c0 c1 c2 HT BX hT hbel
      go_wp2_with fail
      refine (sort_any _ _).mono ?_
      rintro e w5 ⟨rfl, hb5⟩
      have hw5 : Below w.heap.size w w5 := hw4.trans (hb5.mono hw4.size)
      have hw5a : Below w.heap.size w (w5.alloc (.cells #[.int .i64 2, .int .i64 0, .slice none 0 0] 24)) := hw5.alloc hw5.size _
      have h5le := hw5.size
      clear hb5 hw4 hw5 hw1 h1le hBl hbq hd hm1 hr hr2
      clear hm
      go_wp2_with fail
      go_loopw [7] (fun i wr => ∃ (m : Nat) (k : Int) (s : Value), m ≤ 12 ∧ i = .int .i64 m ∧ Box3 wr w5.heap.size (.int .i64 k) (.int .i64 0) s ∧ TmF (fun b => b ≠ w5.heap.size ∧ b < wr.heap.size) wr (dblT m) [.int .i64 k, .int .i64 0, s] ∧ Below w.heap.size w wr) (fun i _ => 300 - (intOf i).toNat)
      case atStart => 
        exact ⟨0, 2, .slice none 0 0, by omega, rfl, Box3.new _ _ _ _, TmF.leaf _ _ 2 0, hw5a⟩
      case round =>
        obtain ⟨q, kq, sq, hq1, rfl, BX, hT, hbel⟩ := hrel
        have hBl := BX.lt
        obtain ⟨c0, c1, c2⟩ := BX.cells
        by_cases hlt : q < 12
        · have hd : decide ((q : Int) < 12) = true := by simp; omega
          have H12 := app_later BX hT hT
          go_wp2_with fail
          refine (H12.out _ (Below.refl _ _)).mono ?_
          rintro e w3 ⟨B3, rfl, BX3, hb3, ht3⟩
          have g0 := BX3.free 0
          have g1 := BX3.free 1
          have g2 := BX3.free 2
          obtain ⟨q0, q1, q2⟩ := BX3.cells
          obtain ⟨bx1, ht1⟩ := box_put BX3 ht3
          have hbn := set3_below (hbel.trans (hb3.mono hbel.size)) h5le (.int .i64 5) (.int .i64 0) (.slice (some ⟨B3, 0, none⟩) 2 2)
          clear hb3 BX3 ht3 BX hT H12 c0 c1 c2
          go_wp2_with fail
          clear g0 g1 g2 q0 q1 q2
          go_roundw
          case rel => exact ⟨q + 1, 5, _, by omega, by simp, bx1, ht1, hbn⟩
          case measure => simp [intOf]; omega
        · have hd : decide ((q : Int) < 12) = false := by simp; omega
          obtain rfl : q = 12 := by omega
          clear hlt hq1
          have HV := Lib.hid dbl_vals
          have HT := Lib.hid hT.toC
          have HF := Lib.hid hT
          have HB := Lib.hid BX
          clear hT BX
          go_wp2_with fail
          refine (size0_any _ _ _ HT.out).mono ?_
          rw [HV.out.1]
          rintro e w6 ⟨rfl, hb6⟩
          have c0 := (hb6.cell (p := ⟨w5.heap.size, 0, none⟩) hBl).trans c0
          have c1 := (hb6.cell (p := ⟨w5.heap.size, 1, none⟩) hBl).trans c1
          have c2 := (hb6.cell (p := ⟨w5.heap.size, 2, none⟩) hBl).trans c2
          go_wp2_with fail
          refine (shaped_any _ _ _ (HT.out.later hb6)).mono ?_
          rw [HV.out.2.1]
          rintro e w7 ⟨rfl, hb7⟩
          have hb67 : Below wr.heap.size wr w7 := hb6.trans (hb7.mono hb6.size)
          have hw7 : Below w.heap.size w w7 := hbel.trans (hb67.mono hbel.size)
          go_upto_region 16 with fail
          have HU := app_free (w0 := w7) (HT.out.later hb67) (leaf_tm 2 0 _)
          go_cut [8] from 45 to 48 (fun v8 wx => ∃ (B8 : Nat) (k : Int) (s : Value), v8 = .pointer (some ⟨B8, 0, none⟩) ∧ Box3 wx B8 (.int .i64 k) (.int .i64 0) s ∧ TmC wx (.mk 5 0 [dblT 12, .mk 2 0 []]) [.int .i64 k, .int .i64 0, s] ∧ w7.heap.size ≤ B8 ∧ Below w7.heap.size w7 wx)
          case first =>
            have q0 := (HB.out.later hb67 hBl).cells.1
            have q1 := (HB.out.later hb67 hBl).cells.2.1
            have q2 := (HB.out.later hb67 hBl).cells.2.2
            clear c0 c1 c2
            have HQ := Lib.hid (HB.out.later hb67 hBl)
            have hl7 : w5.heap.size < w7.heap.size := Nat.lt_of_lt_of_le hBl hb67.size
            have HR : Hid (∀ w8, Below w7.heap.size w7 w8 → (w8.alloc (.cells #[.int .i64 0, .int .i64 0, .slice none 0 0] 24)).cell? ⟨w5.heap.size, 0, none⟩ = some (.int .i64 kq) ∧ (w8.alloc (.cells #[.int .i64 0, .int .i64 0, .slice none 0 0] 24)).cell? ⟨w5.heap.size, 1, none⟩ = some (.int .i64 0) ∧ (w8.alloc (.cells #[.int .i64 0, .int .i64 0, .slice none 0 0] 24)).cell? ⟨w5.heap.size, 2, none⟩ = some sq) := fun w8 hb => (HQ.out.later (hb.alloc hb.size _) hl7).cells
            obtain ⟨r0, r1, r2⟩ := HR.out w7.drew (Below.refl _ _).drew
            go_region_with (first | (go_at_call 11; refine (sort_any _ _).mono ?_; rintro e w8 ⟨rfl, hb8⟩; have hb8' : Below w7.heap.size w7 w8 := (by first | exact (Below.refl _ _).drew.trans hb8 | exact ((Below.refl _ _).drew.alloc (Nat.le_refl _) _).trans (hb8.mono (by simp))); obtain ⟨q0, q1, q2⟩ := (HQ.out.later hb8' hl7).cells; obtain ⟨r0, r1, r2⟩ := HR.out w8 hb8'; (try have BB : Box3 w8 w7.heap.size (.int .i64 0) (.int .i64 0) (.slice none 0 0) := Box3.later (w := w7.drew.alloc (.cells #[.int .i64 0, .int .i64 0, .slice none 0 0] 24)) (Box3.new w7.drew _ _ _) hb8 (by simp))) | (go_at_call 12; refine (HU.out _ (by first | exact hb8' | exact hb8'.alloc hb8'.size _)).mono ?_; rintro e w9 ⟨B9, rfl, hB1, hB2, hb9, hV⟩; (first | have BB9 := BB.later hb9 BB.lt | have BB9 : Box3 w9 w8.heap.size (.int .i64 0) (.int .i64 0) (.slice none 0 0) := Box3.later (w := w8.alloc (.cells #[.int .i64 0, .int .i64 0, .slice none 0 0] 24)) (Box3.new w8 _ _ _) hb9 (by simp) | skip); (try obtain ⟨z0, z1, z2⟩ := BB9.cells); (try have f0 := BB9.free 0); (try have f1 := BB9.free 1); (try have f2 := BB9.free 2)))
            all_goals
              have hs8 := hb8'.size
              have hs9 := hb9.size
              try simp at hs9
              try simp at hB1
              go_wp2_with fail
              go_meet
              first
                | (have hx := BB9
                   refine ⟨w8.heap.size, 5, .slice (some ⟨B9, 0, none⟩) 2 2, rfl, ?_, ?_, ?_, ?_⟩
                   · exact hx.set _ _ _
                   · refine hV _ (fun b hb => ?_) (set3_heap _ _ _ _ _ _ (by omega))
                     exact (set3_below ((hb8'.alloc hs8 _).trans (hb9.mono (by simp; omega))) hs8 _ _ _).block b hb
                   · omega
                   · exact set3_below ((hb8'.alloc hs8 _).trans (hb9.mono (by simp; omega))) hs8 _ _ _)
                | (have hx := BB9
                   refine ⟨w7.heap.size, 5, .slice (some ⟨B9, 0, none⟩) 2 2, rfl, ?_, ?_, ?_, ?_⟩
                   · exact hx.set _ _ _
                   · refine hV _ (fun b hb => ?_) (set3_heap _ _ _ _ _ _ (by have := BB.lt; omega))
                     exact (set3_below (hb8'.trans (hb9.mono hs8)) (Nat.le_refl _) _ _ _).block b hb
                   · omega
                   · exact set3_below (hb8'.trans (hb9.mono hs8)) (Nat.le_refl _) _ _ _)
                | (refine ⟨w9.heap.size, 5, .slice (some ⟨B9, 0, none⟩) 2 2, rfl, ?_, ?_, ?_, ?_⟩
                   · exact Box3.new _ _ _ _
                   · refine hV _ (fun b hb => ?_) (((Below.refl w9.heap.size w9).alloc (Nat.le_refl _) _).block B9 hB2)
                     exact ((hb8'.trans (hb9.mono hs8)).alloc (by omega) _).block b hb
                   · omega
                   · exact (hb8'.trans (hb9.mono hs8)).alloc (by omega) _)
          case rest =>
            obtain ⟨B8, k8, s8, rfl, BX8, HT8, hB8, hbc⟩ := hcut
            clear c0 c1 c2
            have BU := HB.out.later (hb67.trans (hbc.mono hb67.size)) hBl
            have HTU := HT.out.later (hb67.trans (hbc.mono hb67.size))
            have hwc : Below w.heap.size w wc := hw7.trans (hbc.mono hw7.size)
            have HU2 := app_free (w0 := wc) HTU HTU
            obtain ⟨c0, c1, c2⟩ := BU.cells
            have H8 := Lib.hid HT8
            clear HT8 BU HTU
            go_wp2_with fail
            refine (HU2.out _ (Below.refl _ _)).mono ?_
            rintro e w10 ⟨B10, rfl, hB1, hB2, hb10, hV⟩
            have hs10 := hb10.size
            have hb11 : Below wc.heap.size wc (w10.alloc (.cells #[.int .i64 5, .int .i64 0, .slice (some ⟨B10, 0, none⟩) 2 2] 24)) := hb10.alloc hs10 _
            have H9 := Lib.hid (hV (w10.alloc (.cells #[.int .i64 5, .int .i64 0, .slice (some ⟨B10, 0, none⟩) 2 2] 24)) (fun b hb => hb11.block b hb) (((Below.refl w10.heap.size w10).alloc (Nat.le_refl _) _).block B10 hB2))
            have H8' := Lib.hid (H8.out.later hb11)
            have hl8 := BX8.lt
            have BX8' := BX8.later hb11 hl8
            have BX9 := Box3.new w10 (.int .i64 5) (.int .i64 0) (.slice (some ⟨B10, 0, none⟩) 2 2)
            have hw11 : Below w.heap.size w (w10.alloc (.cells #[.int .i64 5, .int .i64 0, .slice (some ⟨B10, 0, none⟩) 2 2] 24)) := hwc.trans (hb11.mono hwc.size)
            obtain ⟨c0, c1, c2⟩ := BX8'.cells
            clear hV hb10 hb11 HU2 HU
            go_wp2_with fail
            refine (size0_any _ _ _ H8'.out).mono ?_
            rw [HV.out.2.2.1]
            rintro e w12 ⟨rfl, hb12⟩
            have BX8' := BX8'.later hb12 BX8'.lt
            have BX9 := BX9.later hb12 BX9.lt
            have H8' := Lib.hid (H8'.out.later hb12)
            have H9 := Lib.hid (H9.out.later hb12)
            have hw11 := hw11.trans (hb12.mono hw11.size)
            obtain ⟨c0, c1, c2⟩ := BX8'.cells
            clear hb12
            go_wp2_with fail
            refine (shaped_any _ _ _ H8'.out).mono ?_
            rw [HV.out.2.2.2.1]
            rintro e w13 ⟨rfl, hb12⟩
            have BX9 := BX9.later hb12 BX9.lt
            have H9 := Lib.hid (H9.out.later hb12)
            have hw11 := hw11.trans (hb12.mono hw11.size)
            obtain ⟨c0, c1, c2⟩ := BX9.cells
            clear hb12
            go_wp2_with fail
            refine (size0_any _ _ _ H9.out).mono ?_
            rw [HV.out.2.2.2.2.1]
            rintro e w14 ⟨rfl, hb12⟩
            have BX9 := BX9.later hb12 BX9.lt
            have H9 := Lib.hid (H9.out.later hb12)
            have hw11 := hw11.trans (hb12.mono hw11.size)
            obtain ⟨c0, c1, c2⟩ := BX9.cells
            clear hb12
            go_wp2_with fail
            refine (depth_any _ _ _ H9.out).mono ?_
            rw [HV.out.2.2.2.2.2]
            rintro e w15 ⟨rfl, hb12⟩
            have hw11 := hw11.trans (hb12.mono hw11.size)
            clear hb12
            go_wp2_with fail
            refine (awake_any _).mono ?_
            rintro e w16 ⟨rfl, hb12⟩
            have hw11 := hw11.trans (hb12.mono hw11.size)
            clear hb12
            go_wp2_with fail
            go_ret
            exact ⟨rfl, hw11⟩
end Go.Proofs.Ytackepdhcigdlaa
