import Derived.Test.YtackepdhcigdlaaTm5
namespace Go.Proofs.Ytackepdhcigdlaa
open Go.RowKit
theorem size0_any (t : Tm) (cs : List Value) (w : World) (ht : TmC w t cs) :
    Calls Try.prog 14 #[.agg cs.toArray] w fun e w' => e = .returned (.int .i64 (sizeT t)) ∧ Below w.heap.size w w' := by
  have ht0 := ht
  obtain ⟨a, cap, rfl, hsub, hlen⟩ := tm_open ht
  have hd : Below w.heap.size w (w.alloc (.cells #[.int .i64 t.kind, .int .i64 t.num, .slice a t.sub.length cap] 24)) := (Below.refl _ _).alloc (Nat.le_refl _) _
  go_enter Try.func14, Try.ntmps14
  go_wp2_with fail
  refine (size_any t _ 0 _ (by omega) (by omega) (ht0.later hd)).mono ?_
  rintro e w1 ⟨rfl, hb1⟩
  go_wp2_with fail
  go_ret
  exact ⟨rfl, hd.trans (hb1.mono hd.size)⟩
set_option maxHeartbeats 400000 in
theorem depth_any (t : Tm) (cs : List Value) (w : World) (ht : TmC w t cs) :
    Calls Try.prog 15 #[.agg cs.toArray] w fun e w' => e = .returned (.int .i64 (depthT t)) ∧ Below w.heap.size w w' := by
  have ht0 := ht
  obtain ⟨a, cap, rfl, hsub, hlen⟩ := tm_open ht
  have hd : Below w.heap.size w (w.alloc (.cells #[.int .i64 t.kind, .int .i64 t.num, .slice a t.sub.length cap] 24)) := (Below.refl _ _).alloc (Nat.le_refl _) _
  by_cases hb : 8192 < sizeT t
  · have fin : Hid (depthT t = 129) := if_pos hb
    go_enter Try.func15, Try.ntmps15
    go_wp2_with (go_at_call 14; refine (size0_any t _ _ (ht0.later hd)).mono ?_; rintro e w1 ⟨rfl, hb1⟩)
    go_ret
    exact ⟨ret_int fin.out.symm, hd.trans (hb1.mono hd.size)⟩
  · have fin : Hid (depthT t = dpT t 1) := if_neg hb
    go_enter Try.func15, Try.ntmps15
    go_wp2_with fail
    refine (size0_any t _ _ (ht0.later hd)).mono ?_
    rintro e w1 ⟨rfl, hb1⟩
    have c0 : w1.cell? ⟨w.heap.size, 0, none⟩ = some (.int .i64 t.kind) := (hb1.cell (by simp)).trans (by simp)
    have c1 : w1.cell? ⟨w.heap.size, 1, none⟩ = some (.int .i64 t.num) := (hb1.cell (by simp)).trans (by simp)
    have c2 : w1.cell? ⟨w.heap.size, 2, none⟩ = some (.slice a t.sub.length cap) := (hb1.cell (by simp)).trans (by simp)
    have hw1 := hd.trans (hb1.mono hd.size)
    clear hb1
    go_wp2_with fail
    refine (deep_any t _ 1 _ (by omega) (by omega) (ht0.later hw1)).mono ?_
    rintro e w2 ⟨rfl, hb2⟩
    go_wp2_with fail
    go_ret
    exact ⟨ret_int fin.out.symm, hw1.trans (hb2.mono hw1.size)⟩
set_option maxHeartbeats 400000 in
theorem shaped_any (t : Tm) (cs : List Value) (w : World) (ht : TmC w t cs) :
    Calls Try.prog 13 #[.agg cs.toArray] w fun e w' => e = .returned (.bool (shapedB t)) ∧ Below w.heap.size w w' := by
  have ht0 := ht
  obtain ⟨a, cap, rfl, hsub, hlen⟩ := tm_open ht
  have hd : Below w.heap.size w (w.alloc (.cells #[.int .i64 t.kind, .int .i64 t.num, .slice a t.sub.length cap] 24)) := (Below.refl _ _).alloc (Nat.le_refl _) _
  by_cases hb : depthT t ≤ 128
  · have fin : Hid (shapedB t = goodB t) := by show (decide (depthT t ≤ 128) && goodB t) = _; simp [hb]
    go_enter Try.func13, Try.ntmps13
    go_wp2_with fail
    refine (depth_any t _ _ (ht0.later hd)).mono ?_
    rintro e w1 ⟨rfl, hb1⟩
    have c0 : w1.cell? ⟨w.heap.size, 0, none⟩ = some (.int .i64 t.kind) := (hb1.cell (by simp)).trans (by simp)
    have c1 : w1.cell? ⟨w.heap.size, 1, none⟩ = some (.int .i64 t.num) := (hb1.cell (by simp)).trans (by simp)
    have c2 : w1.cell? ⟨w.heap.size, 2, none⟩ = some (.slice a t.sub.length cap) := (hb1.cell (by simp)).trans (by simp)
    have hw1 := hd.trans (hb1.mono hd.size)
    clear hb1
    go_wp2_with fail
    refine (good_any t _ _ (ht0.later hw1)).mono ?_
    rintro e w2 ⟨rfl, hb2⟩
    go_wp2_with fail
    go_ret
    exact ⟨ret_bool fin.out.symm, hw1.trans (hb2.mono hw1.size)⟩
  · have fin : Hid (shapedB t = false) := by show (decide (depthT t ≤ 128) && goodB t) = _; simp [hb]
    have hb' : decide (depthT t ≤ 128) = false := by simpa using hb
    go_enter Try.func13, Try.ntmps13
    go_wp2_with fail
    refine (depth_any t _ _ (ht0.later hd)).mono ?_
    rintro e w1 ⟨rfl, hb1⟩
    go_wp2_with fail
    go_ret
    exact ⟨ret_bool fin.out.symm, hd.trans (hb1.mono hd.size)⟩
def sameB (t u : Tm) : Bool := shapedB t && shapedB u && eqT t u
/-- the three cells of a boxed term, later -/
theorem box_cells {w w1 : World} {x y z : Value} {T : TypeId} (hb : Below (w.heap.size + 1) (w.alloc (.cells #[x, y, z] T)) w1) :
    w1.cell? ⟨w.heap.size, 0, none⟩ = some x ∧ w1.cell? ⟨w.heap.size, 1, none⟩ = some y ∧ w1.cell? ⟨w.heap.size, 2, none⟩ = some z :=
  ⟨(hb.cell (by simp)).trans (by simp), (hb.cell (by simp)).trans (by simp), (hb.cell (by simp)).trans (by simp)⟩
set_option maxRecDepth 100000 in
set_option maxHeartbeats 400000 in
theorem same_any (t u : Tm) (cs ds : List Value) (w : World) (ht : TmC w t cs) (hu : TmC w u ds) :
    Calls Try.prog 28 #[.agg cs.toArray, .agg ds.toArray] w fun e w' => e = .returned (.bool (sameB t u)) ∧ Below w.heap.size w w' := by
  have ht0 := ht
  have hu0 := hu
  obtain ⟨a, cap, rfl, hsub, hlen⟩ := tm_open ht
  obtain ⟨a2, cap2, rfl, hsub2, hlen2⟩ := tm_open hu
  clear hsub hsub2 ht hu
  have hd1 : Below w.heap.size w (w.alloc (.cells #[.int .i64 t.kind, .int .i64 t.num, .slice a t.sub.length cap] 24)) := (Below.refl _ _).alloc (Nat.le_refl _) _
  have hd : Below w.heap.size w ((w.alloc (.cells #[.int .i64 t.kind, .int .i64 t.num, .slice a t.sub.length cap] 24)).alloc (.cells #[.int .i64 u.kind, .int .i64 u.num, .slice a2 u.sub.length cap2] 24)) := hd1.alloc (by simp) _
  by_cases h1 : shapedB t = true
  · go_enter Try.func28, Try.ntmps28
    go_wp2_with fail
    refine (shaped_any t _ _ (ht0.later hd)).mono ?_
    rintro e w1 ⟨rfl, hb1⟩
    have hbx : Below (w.heap.size + 2) ((w.alloc (.cells #[.int .i64 t.kind, .int .i64 t.num, .slice a t.sub.length cap] 24)).alloc (.cells #[.int .i64 u.kind, .int .i64 u.num, .slice a2 u.sub.length cap2] 24)) w1 := by simpa using hb1
    have hw1 := hd.trans (hb1.mono hd.size)
    obtain ⟨d0, d1, d2⟩ : w1.cell? ⟨w.heap.size + 1, 0, none⟩ = some (.int .i64 u.kind) ∧ w1.cell? ⟨w.heap.size + 1, 1, none⟩ = some (.int .i64 u.num) ∧ w1.cell? ⟨w.heap.size + 1, 2, none⟩ = some (.slice a2 u.sub.length cap2) :=
      ⟨(hbx.cell (by simp)).trans (by simp), (hbx.cell (by simp)).trans (by simp), (hbx.cell (by simp)).trans (by simp)⟩
    by_cases h2 : shapedB u = true
    · have fin : Hid (sameB t u = eqT t u) := by show (shapedB t && shapedB u && eqT t u) = _; simp [h1, h2]
      go_wp2_with fail
      refine (shaped_any u _ _ (hu0.later hw1)).mono ?_
      rintro e w2 ⟨rfl, hb2⟩
      have hbx2 := hbx.trans (hb2.mono (by have := hbx.size; simpa using this))
      have hw2 := hw1.trans (hb2.mono hw1.size)
      obtain ⟨d0', d1', d2'⟩ : w2.cell? ⟨w.heap.size + 1, 0, none⟩ = some (.int .i64 u.kind) ∧ w2.cell? ⟨w.heap.size + 1, 1, none⟩ = some (.int .i64 u.num) ∧ w2.cell? ⟨w.heap.size + 1, 2, none⟩ = some (.slice a2 u.sub.length cap2) :=
        ⟨(hbx2.cell (by simp)).trans (by simp), (hbx2.cell (by simp)).trans (by simp), (hbx2.cell (by simp)).trans (by simp)⟩
      obtain ⟨c0', c1', c2'⟩ : w2.cell? ⟨w.heap.size, 0, none⟩ = some (.int .i64 t.kind) ∧ w2.cell? ⟨w.heap.size, 1, none⟩ = some (.int .i64 t.num) ∧ w2.cell? ⟨w.heap.size, 2, none⟩ = some (.slice a t.sub.length cap) :=
        ⟨(hbx2.cell (by simp)).trans (by simp), (hbx2.cell (by simp)).trans (by simp), (hbx2.cell (by simp)).trans (by simp)⟩
      clear hb1 hb2 hbx hbx2 d0 d1 d2 hw1
      go_wp2_with fail
      refine (equal_any t u _ _ _ (ht0.later hw2) (hu0.later hw2)).mono ?_
      rintro e w3 ⟨rfl, hb3⟩
      go_wp2_with fail
      go_ret
      exact ⟨ret_bool fin.out.symm, hw2.trans (hb3.mono hw2.size)⟩
    · have h2' : shapedB u = false := by simpa using h2
      have fin : Hid (sameB t u = false) := by show (shapedB t && shapedB u && eqT t u) = _; simp [h2']
      clear h2
      go_wp2_with fail
      refine (shaped_any u _ _ (hu0.later hw1)).mono ?_
      rintro e w2 ⟨rfl, hb2⟩
      have hw2 := hw1.trans (hb2.mono hw1.size)
      go_wp2_with fail
      go_ret
      exact ⟨ret_bool fin.out.symm, hw2⟩
  · have h1' : shapedB t = false := by simpa using h1
    have fin : Hid (sameB t u = false) := by show (shapedB t && shapedB u && eqT t u) = _; simp [h1']
    clear h1
    go_enter Try.func28, Try.ntmps28
    go_wp2_with fail
    refine (shaped_any t _ _ (ht0.later hd)).mono ?_
    rintro e w1 ⟨rfl, hb1⟩
    have hw1 := hd.trans (hb1.mono hd.size)
    go_wp2_with fail
    go_ret
    exact ⟨ret_bool fin.out.symm, hw1⟩
end Go.Proofs.Ytackepdhcigdlaa
