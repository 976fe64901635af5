import Derived.Test.YtackepdhcigdlaaTm17
namespace Go.Proofs.Ytackepdhcigdlaa
open Go.RowKit
set_option maxHeartbeats 400000 in
/-- the document's leaf -/
theorem rleaf_any (k n : Int) (w : World) :
    Calls Try.prog 25 #[.int .i64 k, .int .i64 n] w fun e w' => e = .returned (.agg #[.int .i64 k, .int .i64 n, .slice none 0 0]) ∧ Below w.heap.size w w' := by
  go_enter Try.func25, Try.ntmps25
  go_wp2_with fail
  exact bodyPost_ret (v := .agg #[.int .i64 k, .int .i64 n, .slice none 0 0]) (by simp [results, Try.results25, go_sem]) rfl ⟨rfl, (Below.refl _ _).alloc (Nat.le_refl _) _⟩
set_option maxHeartbeats 400000 in
theorem rnode_any (k n : Int) (a : Option Addr) (len cap : Nat) (w : World) :
    Calls Try.prog 27 #[.int .i64 k, .int .i64 n, .slice a len cap] w fun e w' => e = .returned (.agg #[.int .i64 k, .int .i64 n, .slice a len cap]) ∧ Below w.heap.size w w' := by
  go_enter Try.func27, Try.ntmps27
  go_wp2_with fail
  exact bodyPost_ret (v := .agg #[.int .i64 k, .int .i64 n, .slice a len cap]) (by simp [results, Try.results27, go_sem]) rfl ⟨rfl, (Below.refl _ _).alloc (Nat.le_refl _) _⟩
set_option maxRecDepth 100000 in
set_option maxHeartbeats 1000000 in
/-- a term of two Subs -/
theorem two_raw (k : Int) (f a : Tm) (cf ca : List Value) (w : World) (hf : TmC w f cf) (ha : TmC w a ca) :
    Calls Try.prog 21 #[.int .i64 k, .agg cf.toArray, .agg ca.toArray] w fun e w' => e = .returned (.agg #[.int .i64 k, .int .i64 0, .slice (some ⟨w.heap.size + 3, 0, none⟩) 2 2]) ∧ w'.heap[w.heap.size + 3]? = some (.cells (cf ++ ca).toArray 24) ∧ Below w.heap.size w w' := by
  obtain ⟨a1, cap1, rfl, hs1, hl1⟩ := tm_open hf
  obtain ⟨a2, cap2, rfl, hs2, hl2⟩ := tm_open ha
  clear hs1 hs2 hf ha
  have hw : Below w.heap.size w ((((w.alloc (.cells #[.int .i64 f.kind, .int .i64 f.num, .slice a1 f.sub.length cap1] 24)).alloc (.cells #[.int .i64 a.kind, .int .i64 a.num, .slice a2 a.sub.length cap2] 24)).alloc (.cells #[.int .i64 k, .int .i64 0, .slice (some ⟨w.heap.size + 3, 0, none⟩) 2 2] 24)).alloc (.cells #[.int .i64 f.kind, .int .i64 f.num, .slice a1 f.sub.length cap1, .int .i64 a.kind, .int .i64 a.num, .slice a2 a.sub.length cap2] 24)) :=
    ((((Below.refl _ _).alloc (Nat.le_refl _) _).alloc (by simp) _).alloc (by simp; omega) _).alloc (by simp; omega) _
  have hB := Lib.hid (heap_alloc_new (((w.alloc (.cells #[.int .i64 f.kind, .int .i64 f.num, .slice a1 f.sub.length cap1] 24)).alloc (.cells #[.int .i64 a.kind, .int .i64 a.num, .slice a2 a.sub.length cap2] 24)).alloc (.cells #[.int .i64 k, .int .i64 0, .slice (some ⟨w.heap.size + 3, 0, none⟩) 2 2] 24)) (.cells #[.int .i64 f.kind, .int .i64 f.num, .slice a1 f.sub.length cap1, .int .i64 a.kind, .int .i64 a.num, .slice a2 a.sub.length cap2] 24))
  go_enter Try.func21, Try.ntmps21
  go_wp2_with fail
  exact bodyPost_ret (v := .agg #[.int .i64 k, .int .i64 0, .slice (some ⟨w.heap.size + 3, 0, none⟩) 2 2]) (by simp [results, Try.results21, go_sem]) rfl ⟨rfl, by have := hB.out; simpa using this, hw⟩
/-- two of the document's: told free of where its memory is asked for -/
theorem two_free {k : Int} {f a : Tm} {cf ca : List Value} {w0 : World} (hf : TmC w0 f cf) (ha : TmC w0 a ca) : Hid (∀ w2, Below w0.heap.size w0 w2 →
    Calls Try.prog 21 #[.int .i64 k, .agg cf.toArray, .agg ca.toArray] w2 fun e w3 => ∃ B3 : Nat, e = .returned (.agg #[.int .i64 k, .int .i64 0, .slice (some ⟨B3, 0, none⟩) 2 2]) ∧ w2.heap.size ≤ B3 ∧ B3 < w3.heap.size ∧ Below w2.heap.size w2 w3 ∧
      ∀ wz : World, (∀ b, b < w0.heap.size → wz.heap[b]? = w0.heap[b]?) → wz.heap[B3]? = w3.heap[B3]? → TmC wz (.mk k 0 [f, a]) [.int .i64 k, .int .i64 0, .slice (some ⟨B3, 0, none⟩) 2 2]) := by
  intro w2 hb2
  refine (two_raw k f a cf ca w2 (hf.later hb2) (ha.later hb2)).mono ?_
  rintro e w3 ⟨rfl, hB, hb⟩
  have hlt : w2.heap.size + 3 < w3.heap.size := by
    obtain ⟨h1, _⟩ := Array.getElem?_eq_some_iff.1 hB; exact h1
  refine ⟨_, rfl, by omega, hlt, hb, fun wz h1 h2 => ?_⟩
  have mv : ∀ b, b < w0.heap.size → True ∧ wz.heap[b]? = w0.heap[b]? := fun b h => ⟨trivial, h1 b h⟩
  refine TmF.toC (S := fun _ => True) (TmF.made (ts := [f, a]) (css := [cf, ca]) k 0 ?_ (by show 2 ≤ maxLen; decide) trivial (by rw [h2]; simpa using hB))
  simp only [TmFs]
  exact ⟨cf, _, rfl, TmF.move mv _ _ (TmC.toF _ _ hf), ca, _, rfl, TmF.move mv _ _ (TmC.toF _ _ ha), rfl⟩
set_option maxRecDepth 100000 in
set_option maxHeartbeats 1000000 in
theorem elim_any (n l : Int) (w : World) :
    Calls Try.prog 26 #[.int .i64 n, .int .i64 l] w fun e w' => ∃ s, e = .returned (.agg #[.int .i64 7, .int .i64 n, s]) ∧ TmC w' (.mk 7 n [.mk 2 l []]) [.int .i64 7, .int .i64 n, s] ∧ Below w.heap.size w w' := by
  go_enter Try.func26, Try.ntmps26
  go_wp2_with fail
  refine (sort_any _ _).mono ?_
  rintro e w1 ⟨rfl, hb1⟩
  go_wp2_with fail
  refine (node_any _ _ _ _ _ _).mono ?_
  rintro e w2 ⟨rfl, hb2⟩
  have hw0 : Below w.heap.size w (w.alloc (.cells #[.int .i64 0, .int .i64 0, .slice none 0 0] 24)) := (Below.refl _ _).alloc (Nat.le_refl _) _
  have hs1 := hb1.size
  have hs2 := hb2.size
  try simp at hs1
  try simp at hs2
  have hw1 : Below w.heap.size w w1 := hw0.trans (hb1.mono (by simp))
  have hw2 : Below w.heap.size w w2 := (hw1.alloc hw1.size _).trans (hb2.mono (by simp; omega))
  have BX : Box3 w2 w.heap.size (.int .i64 0) (.int .i64 0) (.slice none 0 0) := (((Box3.new w _ _ _).later hb1 (by simp)).later ((Below.refl w1.heap.size w1).alloc (Nat.le_refl _) _) (by omega)).later hb2 (by simp; omega)
  have hB : w2.heap[w1.heap.size]? = some (.cells #[.int .i64 2, .int .i64 l, .slice none 0 0] 24) := (hb2.block _ (by simp)).trans (heap_alloc_new _ _)
  obtain ⟨d0, d1, d2⟩ := BX.cells
  have g0 := BX.free 0
  have g1 := BX.free 1
  have g2 := BX.free 2
  have hV : Hid (∀ u v x, TmC (((w2.setCell ⟨w.heap.size, 0, none⟩ u).setCell ⟨w.heap.size, 1, none⟩ v).setCell ⟨w.heap.size, 2, none⟩ x) (.mk 7 n [.mk 2 l []]) [.int .i64 7, .int .i64 n, .slice (some ⟨w1.heap.size, 0, none⟩) 1 1]) := by
    intro u v x
    refine TmF.toC (S := fun _ => True) (TmF.made (ts := [.mk 2 l []]) (css := [[.int .i64 2, .int .i64 l, .slice none 0 0]]) 7 n ?_ (by show 1 ≤ maxLen; decide) trivial ((set3_heap _ _ _ _ _ _ (by omega)).trans hB))
    simp only [TmFs]
    exact ⟨_, _, rfl, TmF.leaf _ _ _ _, rfl⟩
  clear hB hb1 hb2 hs1 hs2 hw0 hw1 BX
  go_wp2_with fail
  exact bodyPost_ret (v := .agg #[.int .i64 7, .int .i64 n, .slice (some ⟨w1.heap.size, 0, none⟩) 1 1]) (by simp [results, Try.results26, go_sem, d0, d1, d2]) rfl ⟨_, rfl, hV.out _ _ _, set3_below hw2 (Nat.le_refl _) _ _ _⟩
end Go.Proofs.Ytackepdhcigdlaa
