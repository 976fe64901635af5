import Derived.Test.YtackepdhcigdlaaTm35
namespace Go.Proofs.Ytackepdhcigdlaa
open Go.RowKit
set_option maxRecDepth 100000 in
set_option maxHeartbeats 2000000 in
theorem rsameall_any (l l' : List Tm) (v v' : Value) (w : World) (hl : TmS w v l) (hl' : TmS w v' l') :
    Calls Try.prog 34 #[v, v'] w fun e w' => (∃ b, e = .returned (.bool b) ∧ (l = l' → b = true)) ∧ Below w.heap.size w w' := by
  obtain ⟨al, cl, rfl, hl1, hl2, -⟩ := hl.open
  obtain ⟨al', cl', rfl, hl1', hl2', -⟩ := hl'.open
  have hll : l.length ≤ 9223372036854775807 := by unfold maxLen at hl2; omega
  have hll' : l'.length ≤ 9223372036854775807 := by unfold maxLen at hl2'; omega
  by_cases hlen : l.length = l'.length
  · have hd0 : ((l.length : Int) != l'.length) = false := by simp [hlen]
    have HLEN := Lib.hid hlen
    clear hlen
    go_enter Try.func34, Try.ntmps34
    go_wp2_with fail
    go_loopw [5] (fun i wr => ∃ (j : Nat), j ≤ l.length ∧ i = .int .i64 j ∧ Below w.heap.size w wr) (fun i _ => l.length - (intOf i).toNat)
    case atStart => exact ⟨0, Nat.zero_le _, rfl, Below.refl _ _⟩
    case round =>
      obtain ⟨j, hj, rfl, hbel⟩ := hrel
      by_cases hlt : j < l.length
      · have hjl' : j < l'.length := by have := HLEN.out; omega
        obtain ⟨bb, off, a', cap', rfl, e0, e1, e2, hts⟩ := sub_at hl hbel j hlt
        obtain ⟨bb2, off2, a2, cap2, rfl, d0, d1, d2, hts2⟩ := sub_at hl' hbel j hjl'
        have hi0 : (0 : Int) ≤ j := by omega
        have hi1 : (j : Int) < l.length := by omega
        have hi2 : (j : Int) < l'.length := by omega
        have HTS := Lib.hid hts
        have HTS2 := Lib.hid hts2
        clear hts hts2
        have CALL : Hid (∀ w2, Below wr.heap.size wr w2 → Calls Try.prog 20 #[.agg #[.int .i64 l[j].kind, .int .i64 l[j].num, .slice a' l[j].sub.length cap'], .agg #[.int .i64 (l'[j]'hjl').kind, .int .i64 (l'[j]'hjl').num, .slice a2 (l'[j]'hjl').sub.length cap2]] w2 fun e w' => e = .returned (.bool (eqT l[j] (l'[j]'hjl'))) ∧ Below wr.heap.size wr w') := by
          intro w2 hb
          refine (requal_any _ _ _ _ w2 (HTS.out.later hb) (HTS2.out.later hb)).mono ?_
          rintro e w3 ⟨rfl, h2⟩
          exact ⟨rfl, hb.trans (h2.mono hb.size)⟩
        have HBE := Lib.hid hbel
        have HSUB := Lib.hid (show l = l' → eqT l[j] (l'[j]'hjl') = true from fun h => (eqT_iff _ _).2 (by simp only [h]))
        clear hbel
        go_wp2_with fail
        go_region_held3 (fun w' => w'.cell? ⟨bb, off + j * 3, none⟩ = some (.int .i64 l[j].kind) ∧ w'.cell? ⟨bb, off + j * 3 + 1, none⟩ = some (.int .i64 l[j].num) ∧ w'.cell? ⟨bb, off + j * 3 + 2, none⟩ = some (.slice a' l[j].sub.length cap') ∧ w'.cell? ⟨bb2, off2 + j * 3, none⟩ = some (.int .i64 (l'[j]'hjl').kind) ∧ w'.cell? ⟨bb2, off2 + j * 3 + 1, none⟩ = some (.int .i64 (l'[j]'hjl').num) ∧ w'.cell? ⟨bb2, off2 + j * 3 + 2, none⟩ = some (.slice a2 (l'[j]'hjl').sub.length cap2))
          (first
            | exact ⟨e0, e1, e2, d0, d1, d2⟩
            | exact ⟨(hb3.cell (World.block_lt_of_cell? wr _ e0)).trans e0, (hb3.cell (World.block_lt_of_cell? wr _ e1)).trans e1, (hb3.cell (World.block_lt_of_cell? wr _ e2)).trans e2, (hb3.cell (World.block_lt_of_cell? wr _ d0)).trans d0, (hb3.cell (World.block_lt_of_cell? wr _ d1)).trans d1, (hb3.cell (World.block_lt_of_cell? wr _ d2)).trans d2⟩)
          (first
            | (go_at_call 20; refine (CALL.out _ (Below.refl _ _).drew).mono ?_; rintro e w3 ⟨rfl, hb3⟩)
            | fail)
        all_goals
          have HB3 := Lib.hid (HBE.out.trans (hb3.mono HBE.out.size))
          clear hb3 e0 e1 e2 d0 d1 d2 CALL
          cases hq : eqT l[j] (l'[j]'hjl') with
          | true =>
            go_wp2_with fail
            go_roundw
            case rel => exact ⟨j + 1, hlt, by simp, HB3.out⟩
            case measure => simp [intOf]; omega
          | false =>
            have HF := Lib.hid hq
            clear hq
            go_wp2_with fail
            go_ret
            exact ⟨⟨_, rfl, fun h => absurd (HSUB.out h) (by rw [HF.out]; decide)⟩, HB3.out⟩
      · obtain rfl : j = l.length := by omega
        have HBE := Lib.hid hbel
        clear hbel
        go_wp2_with fail
        go_ret
        exact ⟨⟨true, rfl, fun _ => rfl⟩, HBE.out⟩
  · have hd0 : ((l.length : Int) != l'.length) = true := by simp; omega
    go_enter Try.func34, Try.ntmps34
    go_wp2_with fail
    go_ret
    exact ⟨⟨false, rfl, fun h => absurd (by rw [h]) hlen⟩, Below.refl _ _⟩
end Go.Proofs.Ytackepdhcigdlaa
