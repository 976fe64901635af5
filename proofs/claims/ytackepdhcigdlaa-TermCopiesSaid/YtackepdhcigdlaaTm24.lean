import Derived.Test.YtackepdhcigdlaaTm23
import Derived.Deep.RegionLaw
namespace Go.Proofs.Ytackepdhcigdlaa
open Go.RowKit
theorem own_some3 {w : World} {base e : Nat} {v : Value} {n : Nat} {xs : List Value} (h : w.ownsRow base e 3 v n xs) (hn : 0 < n) : ∃ g cap, v = .slice (some ⟨g, 0, none⟩) n cap := by
  rcases h.2 with ⟨_, h0⟩ | ⟨g, cap, cur, hv, _⟩
  · omega
  · exact ⟨g, cap, hv⟩
set_option maxRecDepth 100000 in
set_option maxHeartbeats 4000000 in
theorem cloned_any : ∀ (t : Tm) (cs : List Value) (w : World), goodB t = true → TmC w t cs →
    Calls Try.prog 56 #[.agg cs.toArray] w fun e w' => ∃ (k' n' : Int) (a : Option Addr) (len cap : Nat), e = .returned (.agg #[.int .i64 k', .int .i64 n', .slice a len cap]) ∧ ClT (fun b => w.heap.size ≤ b ∧ b < w'.heap.size) w' t [.int .i64 k', .int .i64 n', .slice a len cap] ∧ Below w.heap.size w w' := by
  obtain ⟨i0, hi, hz0, hz1, hz2⟩ := info_parts info24
  refine Tm.ind ?_
  intro kk n sub ih cs w hg ht
  have ht0 := ht
  obtain ⟨a, cap, rfl, hsub, hlen⟩ := tm_open ht
  simp only [Tm.kind, Tm.num, Tm.sub] at *
  obtain ⟨hh, hgs⟩ := good_parts hg
  have hl2 : sub.length ≤ 2 := by
    have := (head_num hh).2.2.2.2
    have : subsOf kk ≤ 2 := by unfold subsOf; (repeat' split) <;> omega
    omega
  have IH := Lib.hid ih
  have HGS := Lib.hid hgs
  have HL2 := Lib.hid hl2
  clear ht ih hg hh hgs hl2
  have BX0 : Hid (Box3 (((w.alloc (.cells #[.int .i64 kk, .int .i64 n, .slice a sub.length cap] 24)).alloc (.cells #[.int .i64 0, .int .i64 0, .slice none 0 0] 24)).alloc (.cells #[.int .i64 kk, .int .i64 n, .slice none 0 0] 24)) (w.heap.size + 1 + 1) (.int .i64 kk) (.int .i64 n) (.slice none 0 0)) := by
    have h := Box3.new ((w.alloc (.cells #[.int .i64 kk, .int .i64 n, .slice a sub.length cap] 24)).alloc (.cells #[.int .i64 0, .int .i64 0, .slice none 0 0] 24)) (.int .i64 kk) (.int .i64 n) (.slice none 0 0)
    simp at h
    exact h
  have BX1 : Hid (Box3 (((w.alloc (.cells #[.int .i64 kk, .int .i64 n, .slice a sub.length cap] 24)).alloc (.cells #[.int .i64 0, .int .i64 0, .slice none 0 0] 24)).alloc (.cells #[.int .i64 kk, .int .i64 n, .slice none 0 0] 24)) (w.heap.size + 1) (.int .i64 0) (.int .i64 0) (.slice none 0 0)) := by
    have h := Box3.new (w.alloc (.cells #[.int .i64 kk, .int .i64 n, .slice a sub.length cap] 24)) (.int .i64 0) (.int .i64 0) (.slice none 0 0)
    have h2 := h.later ((Below.refl _ _).alloc (Nat.le_refl _) (.cells #[.int .i64 kk, .int .i64 n, .slice none 0 0] 24)) (by simp)
    simp at h2
    exact h2
  have hd : Hid (Below w.heap.size w (((w.alloc (.cells #[.int .i64 kk, .int .i64 n, .slice a sub.length cap] 24)).alloc (.cells #[.int .i64 0, .int .i64 0, .slice none 0 0] 24)).alloc (.cells #[.int .i64 kk, .int .i64 n, .slice none 0 0] 24))) := (((Below.refl _ _).alloc (Nat.le_refl _) _).alloc (by simp) _).alloc (by simp; omega) _
  go_enter Try.func56, Try.ntmps56
  go_wp2_with fail
  go_loopw [14] (fun i wr => ∃ (k : Nat) (v : Value) (css : List (List Value)), k ≤ sub.length ∧ i = .int .i64 k ∧ Box3 wr (w.heap.size + 1 + 1) (.int .i64 kk) (.int .i64 n) v ∧ Box3 wr (w.heap.size + 1) (.int .i64 0) (.int .i64 0) (.slice none 0 0) ∧ CI (w.heap.size + 3) sub k v css wr ∧ Below w.heap.size w wr ∧ w.heap.size + 3 ≤ wr.heap.size) (fun i _ => sub.length - (intOf i).toNat)
  case atStart => exact ⟨0, _, [], Nat.zero_le _, rfl, BX0.out, BX1.out, CI.start, hd.out, by simp⟩
  case round =>
    obtain ⟨k, v, css, hk, rfl, BX, BR, hci, hbel, hlo⟩ := hrel
    by_cases hlt : k < sub.length
    · obtain ⟨bb, off, a', cap', rfl, e0, e1, e2, hts⟩ := sub_at hsub hbel k hlt
      obtain ⟨av, cv, rfl⟩ := hci.shape
      have hbA : Below wr.heap.size wr (wr.alloc (.cells #[.int .i64 sub[k].kind, .int .i64 sub[k].num, .slice a' sub[k].sub.length cap'] 24)) := (Below.refl _ _).alloc (Nat.le_refl _) _
      have hbAd : Below wr.heap.size wr (wr.alloc (.cells #[.int .i64 sub[k].kind, .int .i64 sub[k].num, .slice a' sub[k].sub.length cap'] 24)).drew := hbA.drew
      have HT2 := Lib.hid (hts.later hbAd)
      have BXA := Lib.hid (BX.later hbAd (by omega))
      have BRA := Lib.hid (BR.later hbAd (by omega))
      obtain ⟨-, -, d2⟩ := BXA.out.cells
      have S0 : (wr.alloc (.cells #[.int .i64 sub[k].kind, .int .i64 sub[k].num, .slice a' sub[k].sub.length cap'] 24)).drew.cell? ⟨wr.heap.size, 0, none⟩ = some (.int .i64 sub[k].kind) ∧ (wr.alloc (.cells #[.int .i64 sub[k].kind, .int .i64 sub[k].num, .slice a' sub[k].sub.length cap'] 24)).drew.cell? ⟨wr.heap.size, 1, none⟩ = some (.int .i64 sub[k].num) ∧ (wr.alloc (.cells #[.int .i64 sub[k].kind, .int .i64 sub[k].num, .slice a' sub[k].sub.length cap'] 24)).drew.cell? ⟨wr.heap.size, 2, none⟩ = some (.slice a' sub[k].sub.length cap') := (Box3.new wr _ _ _).cells
      have hSz : (wr.alloc (.cells #[.int .i64 sub[k].kind, .int .i64 sub[k].num, .slice a' sub[k].sub.length cap'] 24)).drew.heap.size = wr.heap.size + 1 := by simp
      have HC := Lib.hid hci
      have HG := Lib.hid (HGS.out sub[k] (List.getElem_mem hlt))
      have HM := Lib.hid (List.getElem_mem hlt)
      have HLT := Lib.hid hlt
      have HBEL := Lib.hid hbel
      have HSZ := Lib.hid hSz
      have HS0 := Lib.hid S0
      have BXh := Lib.hid BX
      have BRh := Lib.hid BR
      clear hci hts hbA BX BR hSz S0 hbel
      have HX : Hid (∀ w1, Below (wr.heap.size + 1) (wr.alloc (.cells #[.int .i64 sub[k].kind, .int .i64 sub[k].num, .slice a' sub[k].sub.length cap'] 24)).drew w1 → Box3 w1 wr.heap.size (.int .i64 sub[k].kind) (.int .i64 sub[k].num) (.slice a' sub[k].sub.length cap')) := by
        intro w1 hb
        have h : Box3 (wr.alloc (.cells #[.int .i64 sub[k].kind, .int .i64 sub[k].num, .slice a' sub[k].sub.length cap'] 24)).drew wr.heap.size (.int .i64 sub[k].kind) (.int .i64 sub[k].num) (.slice a' sub[k].sub.length cap') := Box3.new wr _ _ _
        exact h.later hb (Nat.lt_succ_self _)
      have HNE : Hid (some wr.heap.size ≠ (Value.slice av k cv).ownBlock) := by
        rcases HC.out.row with ⟨h1, h2, _⟩ | ⟨g0, cap0, cur0, h1, h2, _⟩
        · show _ ≠ _; rw [h1]; simp [Value.ownBlock]
        · show _ ≠ _; rw [h1]; simp [Value.ownBlock]; omega
      have HY : Hid (∀ w1, Below wr.heap.size wr w1 → w1.cell? ⟨w.heap.size + 1 + 1, 2, none⟩ = some (.slice av k cv) ∧ w1.frozen? ⟨w.heap.size + 1 + 1, 2, none⟩ = false) := fun w1 hb => ⟨(BXh.out.later hb (by omega)).cells.2.2, (BXh.out.later hb (by omega)).free 2⟩
      have CALL : Hid (Calls Try.prog 56 #[.agg #[.int .i64 sub[k].kind, .int .i64 sub[k].num, .slice a' sub[k].sub.length cap']] (wr.alloc (.cells #[.int .i64 sub[k].kind, .int .i64 sub[k].num, .slice a' sub[k].sub.length cap'] 24)).drew fun e w' => ∃ (k' n' : Int) (a : Option Addr) (len cap : Nat), e = .returned (.agg #[.int .i64 k', .int .i64 n', .slice a len cap]) ∧ ClT (fun b => wr.heap.size ≤ b ∧ b < w'.heap.size) w' sub[k] [.int .i64 k', .int .i64 n', .slice a len cap] ∧ Below (wr.heap.size + 1) (wr.alloc (.cells #[.int .i64 sub[k].kind, .int .i64 sub[k].num, .slice a' sub[k].sub.length cap'] 24)).drew w') := by
        refine (IH.out sub[k] HM.out _ _ HG.out HT2.out).mono ?_
        rintro e w1 ⟨k', n', a1, l1, c1, rfl, hcl1, hb1⟩
        rw [HSZ.out] at hb1
        exact ⟨k', n', a1, l1, c1, rfl, ClT.move (fun b hb => ⟨⟨by have := hb.1; rw [HSZ.out] at this; omega, hb.2⟩, rfl⟩) _ _ hcl1, hb1⟩
      have HBD := Lib.hid hbAd
      have CALL2 : Hid (Calls Try.prog 56 #[.agg #[.int .i64 sub[k].kind, .int .i64 sub[k].num, .slice a' sub[k].sub.length cap']] (wr.alloc (.cells #[.int .i64 sub[k].kind, .int .i64 sub[k].num, .slice a' sub[k].sub.length cap'] 24)).drew fun e w1 => ∃ (k' n' : Int) (a1 : Option Addr) (l1 c1 : Nat), e = .returned (.agg #[.int .i64 k', .int .i64 n', .slice a1 l1 c1]) ∧ ClT (fun b => wr.heap.size ≤ b ∧ b < w1.heap.size) w1 sub[k] [.int .i64 k', .int .i64 n', .slice a1 l1 c1] ∧ Below (wr.heap.size + 1) (wr.alloc (.cells #[.int .i64 sub[k].kind, .int .i64 sub[k].num, .slice a' sub[k].sub.length cap'] 24)).drew w1 ∧ Below wr.heap.size wr w1 ∧
          (w1.alloc (.cells #[.int .i64 k', .int .i64 n', .slice a1 l1 c1] 24)).ownsRow (if k = 0 then (w1.alloc (.cells #[.int .i64 k', .int .i64 n', .slice a1 l1 c1] 24)).heap.size else w.heap.size + 3) 24 3 (.slice av k cv) k css.flatten ∧ SlN (w1.alloc (.cells #[.int .i64 k', .int .i64 n', .slice a1 l1 c1] 24)) 3 (.slice (some ⟨w1.heap.size, 0, none⟩) 1 1) [[.int .i64 k', .int .i64 n', .slice a1 l1 c1]] ∧ (if k = 0 then (w1.alloc (.cells #[.int .i64 k', .int .i64 n', .slice a1 l1 c1] 24)).heap.size else w.heap.size + 3) ≤ (w1.alloc (.cells #[.int .i64 k', .int .i64 n', .slice a1 l1 c1] 24)).heap.size ∧ w.heap.size + 1 + 1 < (if k = 0 then (w1.alloc (.cells #[.int .i64 k', .int .i64 n', .slice a1 l1 c1] 24)).heap.size else w.heap.size + 3)) := by
        refine CALL.out.mono ?_
        rintro e w1 ⟨k', n', a1, l1, c1, rfl, hcl1, hb1⟩
        have hb1' : Below wr.heap.size wr w1 := HBD.out.trans (hb1.mono (Nat.le_succ _))
        have h1s := hb1'.size
        have hlt0 := HLT.out
        have hl20 := HL2.out
        have HBS : w.heap.size + 1 + 1 < (if k = 0 then (w1.alloc (.cells #[.int .i64 k', .int .i64 n', .slice a1 l1 c1] 24)).heap.size else w.heap.size + 3) := by
          split
          · simp; omega
          · omega
        have hbz : (if k = 0 then (w1.alloc (.cells #[.int .i64 k', .int .i64 n', .slice a1 l1 c1] 24)).heap.size else w.heap.size + 3) ≤ (w1.alloc (.cells #[.int .i64 k', .int .i64 n', .slice a1 l1 c1] 24)).heap.size := by
          split
          · exact Nat.le_refl _
          · simp; omega
        have hown := HC.out.own (by omega) (hb1'.alloc h1s (.cells #[.int .i64 k', .int .i64 n', .slice a1 l1 c1] 24)) (if k = 0 then (w1.alloc (.cells #[.int .i64 k', .int .i64 n', .slice a1 l1 c1] 24)).heap.size else w.heap.size + 3) (Decidable.byCases (fun h : k = 0 => Or.inl h) (fun h => Or.inr (if_neg h)))
        have hsl : SlN (w1.alloc (.cells #[.int .i64 k', .int .i64 n', .slice a1 l1 c1] 24)) 3 (.slice (some ⟨w1.heap.size, 0, none⟩) 1 1) [[.int .i64 k', .int .i64 n', .slice a1 l1 c1]] :=
          SlN.own (own_litN (w := w1) (xs := [.int .i64 k', .int .i64 n', .slice a1 l1 c1]) (n := 1) (size := 3) 24 rfl (by decide)) rfl (by intro c hc; simp at hc; subst hc; rfl)
        exact ⟨k', n', a1, l1, c1, rfl, hcl1, hb1, hb1', hown, hsl, hbz, HBS⟩
      have HK2 : Hid (k ≤ 1) := by have := HLT.out; have := HL2.out; show _ ≤ _; omega
      obtain ⟨z0, z1, z2⟩ := HS0.out
      clear hbAd
      go_wp2_with fail
      go_region_law
        (first
          | (go_simp
             go_at_call 56
             refine CALL2.out.mono ?_
             rintro e w1 ⟨k', n', a1, l1, c1, rfl, hcl1, hb1, hb1', hown, hsl, hbz, HBS⟩
             have Y0 := Lib.hid (HX.out w1 hb1)
             have d3 := (HY.out w1 hb1').1
             have g4 := Lib.hid (HY.out _ (hb1'.alloc hb1'.size (.cells #[.int .i64 k', .int .i64 n', .slice a1 l1 c1] 24)))
             have d4 := g4.out.1
             replace hown := Lib.hid hown
             replace hsl := Lib.hid hsl
             replace hbz := Lib.hid hbz
             replace HBS := Lib.hid HBS
             replace hcl1 := Lib.hid hcl1)
          | (refine step_app_sl rfl (.tmp 19) (.tmp 22) 22 rfl (if k = 0 then (w1.alloc (.cells #[.int .i64 k', .int .i64 n', .slice a1 l1 c1] 24)).heap.size else w.heap.size + 3) 24 i0 (.agg #[.int .i64 0, .int .i64 0, .slice none 0 0]) 3 40 Try.underlying22 hi hz0 hz1 hz2 rfl (by decide) _ _ _ hown.out _ _ hsl.out rfl rfl (by intro c hc u hu; simp at hc; subst hc; simp at hu; rcases hu with rfl | rfl | rfl <;> rfl) (by intro c hc; simp at hc; subst hc; rfl) (by have := HK2.out; unfold maxLen; simp; omega) (by have := HK2.out; simp; omega) hbz.out ?_
             intro v2 w2 hown2 hb2 hg2
             obtain ⟨g2, cap2, rfl⟩ := own_some3 hown2 (by simp)
             have t0 := (hb2.cell (p := ⟨w.heap.size + 1 + 1, 2, none⟩) HBS.out).trans g4.out.1
             have t1 := (hb2.frozen (p := ⟨w.heap.size + 1 + 1, 2, none⟩) HBS.out).trans g4.out.2
             replace hown2 := Lib.hid hown2
             replace hb2 := Lib.hid hb2
             replace hg2 := Lib.hid hg2))
      all_goals
        have h1w := hb1'.size
        have BX2 : Hid (Box3 w2 (w.heap.size + 1 + 1) (.int .i64 kk) (.int .i64 n) (.slice av k cv)) := (BXh.out.later (hb1'.alloc h1w (.cells #[.int .i64 k', .int .i64 n', .slice a1 l1 c1] 24)) (by omega)).later hb2.out HBS.out
        have BR2 : Hid (Box3 w2 (w.heap.size + 1) (.int .i64 0) (.int .i64 0) (.slice none 0 0)) := (BRh.out.later (hb1'.alloc h1w (.cells #[.int .i64 k', .int .i64 n', .slice a1 l1 c1] 24)) (by omega)).later hb2.out (Nat.lt_trans (Nat.lt_succ_self _) HBS.out)
        have hF : Below w.heap.size w (w2.setCell ⟨w.heap.size + 1 + 1, 2, none⟩ (.slice (some ⟨g2, 0, none⟩) (k + 1) cap2)) :=
          (((HBEL.out.trans (hb1'.mono HBEL.out.size)).alloc (by omega) _).trans (hb2.out.mono (Nat.le_of_lt (Nat.lt_trans (Nat.lt_trans (Nat.lt_succ_self _) (Nat.lt_succ_self _)) HBS.out)))).setCell (p := ⟨w.heap.size + 1 + 1, 2, none⟩) (show w.heap.size ≤ w.heap.size + 1 + 1 by omega) _
        have hsz2 := hg2.out.size
        have CIF := CI.step (B3 := w.heap.size + 1 + 1) (wF := w2.setCell ⟨w.heap.size + 1 + 1, 2, none⟩ (.slice (some ⟨g2, 0, none⟩) (k + 1) cap2)) HC.out HLT.out (by have := HK2.out; omega) hlo (by omega) hb1' hcl1.out ((Below.refl _ _).alloc (Nat.le_refl _) (.cells #[.int .i64 k', .int .i64 n', .slice a1 l1 c1] 24)) (by simpa using hown2.out) hg2.out (fun b hb => Below.heap_setCell _ _ _ _ hb) (by simp)
        clear hown2 hg2 hb2 hb1' hb1 hcl1 t0 t1 d2 d3 d4
        go_wp2_with fail
        go_roundw
        case rel => exact ⟨k + 1, _, _, HLT.out, by simp, set_block BX2.out 2 _, by
          have h := BR2.out
          unfold Box3 at h ⊢
          rw [Below.heap_setCell _ _ _ _ (show w.heap.size + 1 ≠ w.heap.size + 1 + 1 by omega)]; exact h, CIF, hF, by simp at hsz2 ⊢; omega⟩
        case measure => have := HLT.out; simp [intOf]; omega
    · obtain rfl : k = sub.length := by omega
      obtain ⟨av, cv, rfl⟩ := hci.shape
      obtain ⟨c0, c1, c2⟩ := BX.cells
      obtain ⟨q0, q1, q2⟩ := BR.cells
      have f0 := BR.free 0
      have f1 := BR.free 1
      have f2 := BR.free 2
      go_wp2_with fail
      have hres := CI.done (k := kk) (n := n) (lo' := w.heap.size) (w' := ((wr.setCell ⟨w.heap.size + 1, 0, none⟩ (.int .i64 kk)).setCell ⟨w.heap.size + 1, 1, none⟩ (.int .i64 n)).setCell ⟨w.heap.size + 1, 2, none⟩ (.slice av sub.length cv)) hci (by omega) (by simp) (fun b h1 h2 => set3_heap _ _ _ _ _ _ (by omega))
      exact bodyPost_ret (v := .agg #[.int .i64 kk, .int .i64 n, .slice av sub.length cv]) (by simp [results, Try.results56, go_sem, q0, q1, q2]) rfl ⟨kk, n, av, _, cv, rfl, hres, set3_below hbel (by omega) _ _ _⟩
end Go.Proofs.Ytackepdhcigdlaa
