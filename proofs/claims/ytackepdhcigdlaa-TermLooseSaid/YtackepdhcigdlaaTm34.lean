import Derived.Test.YtackepdhcigdlaaTm33
import Derived.Deep.RegionLaw
import Derived.Deep.RegionHeld3
namespace Go.Proofs.Ytackepdhcigdlaa
open Go.RowKit
set_option maxRecDepth 100000 in
set_option maxHeartbeats 2000000 in
theorem rhead_any (t : Tm) (cs : List Value) (w : World) (hs : shapedB t = true) (ht : TmC w t cs) :
    Calls Try.prog 33 #[.agg cs.toArray] w fun e w' => ∃ (h : Tm) (l : List Tm) (k n : Int) (a : Option Addr) (len cap : Nat), e = .returned (.agg #[.int .i64 k, .int .i64 n, .slice a len cap]) ∧
      h.kind ≠ 5 ∧ applyT h l = t ∧ TmC w' h [.int .i64 k, .int .i64 n, .slice a len cap] ∧ Below w.heap.size w w' := by
  have ht0 := ht
  obtain ⟨a, cap, rfl, hsub, hlen⟩ := tm_open ht
  have HS := Lib.hid hs
  have HG : Hid (goodB t = true) := by
    simp only [shapedB, Bool.and_eq_true] at hs
    exact hs.2
  clear hs ht hsub
  have BX0 : Hid (Box3 ((w.alloc (.cells #[.int .i64 t.kind, .int .i64 t.num, .slice a t.sub.length cap] 24)).alloc (.cells #[.int .i64 0, .int .i64 0, .slice none 0 0] 24)) w.heap.size (.int .i64 t.kind) (.int .i64 t.num) (.slice a t.sub.length cap)) :=
    (Box3.new w _ _ _).later ((Below.refl _ _).alloc (Nat.le_refl _) _) (by simp)
  have BX1 : Hid (Box3 ((w.alloc (.cells #[.int .i64 t.kind, .int .i64 t.num, .slice a t.sub.length cap] 24)).alloc (.cells #[.int .i64 0, .int .i64 0, .slice none 0 0] 24)) (w.heap.size + 1) (.int .i64 0) (.int .i64 0) (.slice none 0 0)) := by
    have h := Box3.new (w.alloc (.cells #[.int .i64 t.kind, .int .i64 t.num, .slice a t.sub.length cap] 24)) (.int .i64 0) (.int .i64 0) (.slice none 0 0)
    simp at h
    exact h
  have hd : Hid (Below w.heap.size w ((w.alloc (.cells #[.int .i64 t.kind, .int .i64 t.num, .slice a t.sub.length cap] 24)).alloc (.cells #[.int .i64 0, .int .i64 0, .slice none 0 0] 24))) := ((Below.refl _ _).alloc (Nat.le_refl _) _).alloc (by simp) _
  have HT := Lib.hid ht0
  clear ht0
  go_enter Try.func33, Try.ntmps33
  go_wp2_with fail
  go_loopg [3] 129 (fun g _ wr => ∃ (x : Tm) (xs : List Tm) (k n : Int) (a : Option Addr) (len cap : Nat), g + xs.length = 129 ∧ Hid (applyT x xs = t) ∧ Hid (goodB x = true) ∧ Hid (TmC w x [.int .i64 k, .int .i64 n, .slice a len cap]) ∧
      Box3 wr w.heap.size (.int .i64 k) (.int .i64 n) (.slice a len cap) ∧ Hid (Box3 wr (w.heap.size + 1) (.int .i64 0) (.int .i64 0) (.slice none 0 0)) ∧ Hid (Below w.heap.size w wr))
  case atStart => exact ⟨t, [], _, _, _, _, _, rfl, rfl, HG.out, HT.out, BX0.out, BX1.out, hd.out⟩
  case round =>
    obtain ⟨x, xs, k, n, a1, len, cap1, hg, HA, HGX, HX, BX, BR, hbel⟩ := hrel
    obtain ⟨c0, c1, c2⟩ := BX.cells
    obtain ⟨ax, capx, hex, hsubx, hlx⟩ := tm_open HX.out
    simp only [List.cons.injEq, Value.int.injEq, true_and, and_true, Value.slice.injEq] at hex
    obtain ⟨rfl, rfl, rfl, rfl, rfl⟩ := hex
    by_cases h5 : x.kind = 5
    · obtain ⟨y, b, rfl, hgy, hgb⟩ := good_app HGX.out h5
      clear h5
      simp only [Tm.kind, Tm.num, Tm.sub, List.length_cons, List.length_nil, Nat.zero_add, Nat.reduceAdd] at c0 c1 c2 HX BX hsubx hlx
      obtain ⟨bb, off, a', cap', rfl, e0, e1, e2, hty⟩ := sub_at (ts := [y, b]) hsubx (Below.refl _ _) 0 (by simp)
      have hbl : bb < w.heap.size := World.block_lt_of_cell? w _ e0
      simp only [List.getElem_cons_zero, Nat.zero_mul, Nat.add_zero] at hty e0 e1 e2
      replace e0 := (hbel.out.cell hbl).trans e0
      replace e1 := (hbel.out.cell hbl).trans e1
      replace e2 := (hbel.out.cell hbl).trans e2
      have hlen1 : xs.length + 1 ≤ 127 := by
        have h1 := HA.out
        have h3 := spine_len (x := y) (l := b :: xs) (by rw [show applyT y (b :: xs) = t from h1]; exact HS.out)
        simpa using h3
      have g0 := BX.free 0
      have g1 := BX.free 1
      have g2 := BX.free 2
      have HBX := Lib.hid BX
      have HTY := Lib.hid hty
      clear BX hsubx HX hty
      go_wp2_with fail
      go_roundg (gk - 1)
      case measure => omega
      case rel =>
        refine ⟨y, b :: xs, y.kind, y.num, a', y.sub.length, cap', by simp; omega, HA.out, hgy, HTY.out, HBX.out.set _ _ _, ?_, set3_below hbel.out (Nat.le_refl _) _ _ _⟩
        show Box3 _ _ _ _ _
        unfold Box3
        rw [set3_heap _ _ _ _ _ _ (by omega)]
        exact BR.out
    · have hd5 : decide (x.kind = 5) = false := by simp [h5]
      have BRo := BR.out
      obtain ⟨q0, q1, q2⟩ := BRo.cells
      have f0 := BRo.free 0
      have f1 := BRo.free 1
      have f2 := BRo.free 2
      clear BRo BX
      go_wp2_with fail
      have hF := set3_below (B := w.heap.size + 1) hbel.out (by omega) (.int .i64 x.kind) (.int .i64 x.num) (.slice a1 x.sub.length cap1)
      exact bodyPost_ret (v := .agg #[.int .i64 x.kind, .int .i64 x.num, .slice a1 x.sub.length cap1]) (by simp [results, Try.results33, go_sem, q0, q1, q2]) rfl ⟨x, xs, x.kind, x.num, a1, x.sub.length, cap1, rfl, h5, HA.out, HX.out.later hF, hF⟩
end Go.Proofs.Ytackepdhcigdlaa
