import Derived.Test.YtackepdhcigdlaaTm0
import Derived.Test.YtackepdhcigdlaaRows
namespace Go.Proofs.Ytackepdhcigdlaa
open Go.RowKit
mutual
def szT : Tm → Int → Int
  | .mk _ _ sub, h => szL sub (h + 1)
def szL : List Tm → Int → Int
  | [], h => h
  | t :: ts, h => if 8192 < h then h else szL ts (szT t h)
end
theorem szL_big (ts : List Tm) (h : Int) (hb : 8192 < h) : szL ts h = h := by
  cases ts with
  | nil => rfl
  | cons t ts => simp only [szL]; rw [if_pos hb]
theorem sz_bd : ∀ (t : Tm) (h : Int), 0 ≤ h → h ≤ 8192 → h + 1 ≤ szT t h ∧ szT t h ≤ 8193 := by
  refine Tm.ind ?_
  intro k n sub ih h h0 h1
  have : ∀ (l : List Tm), (∀ s ∈ l, ∀ (h : Int), 0 ≤ h → h ≤ 8192 → h + 1 ≤ szT s h ∧ szT s h ≤ 8193) → ∀ h : Int, 0 ≤ h → h ≤ 8193 → h ≤ szL l h ∧ szL l h ≤ 8193 := by
    intro l
    induction l with
    | nil => intro _ h h0 h1; simp only [szL]; omega
    | cons t ts iht =>
      intro hl h h0 h1
      simp only [szL]
      by_cases hb : 8192 < h
      · rw [if_pos hb]; omega
      · rw [if_neg hb]
        have h3 := hl t (by simp) h h0 (by omega)
        have h4 := iht (fun s hs => hl s (by simp [hs])) (szT t h) (by omega) h3.2
        omega
  simp only [szT]
  have := this sub ih (h + 1) (by omega) (by omega)
  omega
theorem szL_bd (l : List Tm) : ∀ h : Int, 0 ≤ h → h ≤ 8193 → h ≤ szL l h ∧ szL l h ≤ 8193 := by
  induction l with
  | nil => intro h h0 h1; simp only [szL]; omega
  | cons t ts iht =>
    intro h h0 h1
    simp only [szL]
    by_cases hb : 8192 < h
    · rw [if_pos hb]; omega
    · rw [if_neg hb]
      have h3 := sz_bd t h h0 (by omega)
      have h4 := iht (szT t h) (by omega) h3.2
      omega
set_option maxRecDepth 100000 in
set_option maxHeartbeats 1000000 in
theorem size_any : ∀ (t : Tm) (cs : List Value) (h : Int) (w : World), 0 ≤ h → h ≤ 8192 → TmC w t cs →
    Calls Try.prog 51 #[.agg cs.toArray, .int .i64 h] w fun e w' => e = .returned (.int .i64 (szT t h)) ∧ Below w.heap.size w w' := by
  refine Tm.ind ?_
  intro kk n sub ih cs h w h0 h1 ht
  obtain ⟨s, rfl, hsub⟩ := TmC.iff.1 ht
  obtain ⟨a, cap, rfl, hl, hm, hcell⟩ := hsub.open
  have HC := Lib.hid hcell
  have IH := Lib.hid ih
  clear ht hcell ih
  unfold maxLen at hm
  go_enter Try.func51, Try.ntmps51
  go_wp2_with fail
  go_loopw [1, 12] (fun x i wr => ∃ k : Nat, k ≤ sub.length ∧ i = .int .i64 k ∧ ∃ g : Int, x = .int .i64 g ∧ 0 ≤ g ∧ g ≤ 8193 ∧ Hid (szL (sub.drop k) g = szL sub (h + 1)) ∧ Below w.heap.size w wr) (fun _ i _ => sub.length - (intOf i).toNat)
  case atStart => exact ⟨0, Nat.zero_le _, rfl, h + 1, rfl, by omega, by omega, rfl, (Below.refl _ _).alloc (Nat.le_refl _) _⟩
  case round =>
    obtain ⟨k, hk, rfl, g, rfl, hg0, hg1, HG, hbel⟩ := hrel
    by_cases hlt : k < sub.length
    · obtain ⟨b, off, rfl, hget⟩ := HC.out (by intro e; rw [e] at hlt; simp at hlt)
      obtain ⟨sv, c0, c1, c2, hsv⟩ := hget k hlt
      have hts := TmC.shut hsv
      obtain ⟨a', cap', rfl, -⟩ := hsv.open
      clear hsv

      have e0 := (hbel.cell (World.block_lt_of_cell? w _ c0)).trans c0
      have e1 := (hbel.cell (World.block_lt_of_cell? w _ c1)).trans c1
      have e2 := (hbel.cell (World.block_lt_of_cell? w _ c2)).trans c2
      have hdrop := Lib.hid (List.drop_eq_getElem_cons hlt)
      by_cases hbig : 8192 < g
      · have fin : Hid (g = szT (.mk kk n sub) h) := by
          have := HG.out
          rw [szL_big _ _ hbig] at this
          show g = _
          simp only [szT]; exact this
        go_wp2_with fail
        go_ret
        exact ⟨ret_int fin.out, (hbel.alloc hbel.size _)⟩
      · have hg2 : g ≤ 8192 := by omega
        have hnext : Hid (szL (sub.drop (k + 1)) (szT sub[k] g) = szL sub (h + 1)) := by
          have := HG.out
          rw [hdrop.out] at this
          simp only [szL] at this
          rw [if_neg hbig] at this; exact this
        have hbd := sz_bd sub[k] g hg0 hg2
        clear hbig HG
        go_wp2_with fail
        have hts' := hts.later ((hbel.alloc hbel.size (.cells #[.int .i64 sub[k].kind, .int .i64 sub[k].num, .slice a' sub[k].sub.length cap'] 24)))
        refine (IH.out _ (List.getElem_mem hlt) _ g _ hg0 hg2 hts').mono ?_
        rintro e w' ⟨rfl, hb2⟩
        have hbel2 := (hbel.alloc hbel.size (.cells #[.int .i64 sub[k].kind, .int .i64 sub[k].num, .slice a' sub[k].sub.length cap'] 24)).trans (hb2.mono (by have := hbel.size; simp; omega))
        clear hb2 hts hts'
        go_wp2_with fail
        go_roundw
        case rel => exact ⟨k + 1, by omega, by go_num, _, rfl, by omega, hbd.2, hnext, hbel2⟩
        case measure => simp [intOf]; omega
    · have fin : Hid (g = szT (.mk kk n sub) h) := by
        have := HG.out
        rw [List.drop_of_length_le (by omega)] at this
        simp only [szL] at this
        show g = _
        simp only [szT]; exact this
      go_wp2_with fail
      go_ret
      exact ⟨ret_int fin.out, hbel⟩
end Go.Proofs.Ytackepdhcigdlaa
