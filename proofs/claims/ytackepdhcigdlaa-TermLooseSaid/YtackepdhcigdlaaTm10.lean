import Derived.Test.YtackepdhcigdlaaTm9
namespace Go.Proofs.Ytackepdhcigdlaa
open Go.RowKit
set_option maxHeartbeats 400000 in
theorem rshaped_any (t : Tm) (cs : List Value) (w : World) (ht : TmC w t cs) :
    Calls Try.prog 17 #[.agg cs.toArray] w fun e w' => e = .returned (.bool (shapedB t)) ∧ Below w.heap.size w w' := by
  have ht0 := ht
  obtain ⟨a, cap, rfl, hsub, hlen⟩ := tm_open ht
  have hd : Below w.heap.size w (w.alloc (.cells #[.int .i64 t.kind, .int .i64 t.num, .slice a t.sub.length cap] 24)) := (Below.refl _ _).alloc (Nat.le_refl _) _
  by_cases hb : depthT t ≤ 128
  · have fin : Hid (shapedB t = goodB t) := by show (decide (depthT t ≤ 128) && goodB t) = _; simp [hb]
    go_enter Try.func17, Try.ntmps17
    go_wp2_with fail
    refine (rdepth_any t _ _ (ht0.later hd)).mono ?_
    rintro e w1 ⟨rfl, hb1⟩
    have c0 : w1.cell? ⟨w.heap.size, 0, none⟩ = some (.int .i64 t.kind) := (hb1.cell (by simp)).trans (by simp)
    have c1 : w1.cell? ⟨w.heap.size, 1, none⟩ = some (.int .i64 t.num) := (hb1.cell (by simp)).trans (by simp)
    have c2 : w1.cell? ⟨w.heap.size, 2, none⟩ = some (.slice a t.sub.length cap) := (hb1.cell (by simp)).trans (by simp)
    have hw1 := hd.trans (hb1.mono hd.size)
    clear hb1
    go_wp2_with fail
    refine (rgood_any t _ _ (ht0.later hw1)).mono ?_
    rintro e w2 ⟨rfl, hb2⟩
    go_wp2_with fail
    go_ret
    exact ⟨ret_bool fin.out.symm, hw1.trans (hb2.mono hw1.size)⟩
  · have fin : Hid (shapedB t = false) := by show (decide (depthT t ≤ 128) && goodB t) = _; simp [hb]
    have hb' : decide (depthT t ≤ 128) = false := by simpa using hb
    go_enter Try.func17, Try.ntmps17
    go_wp2_with fail
    refine (rdepth_any t _ _ (ht0.later hd)).mono ?_
    rintro e w1 ⟨rfl, hb1⟩
    go_wp2_with fail
    go_ret
    exact ⟨ret_bool fin.out.symm, hd.trans (hb1.mono hd.size)⟩
end Go.Proofs.Ytackepdhcigdlaa
