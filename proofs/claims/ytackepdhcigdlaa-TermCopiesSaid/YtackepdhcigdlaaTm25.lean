import Derived.Test.YtackepdhcigdlaaTm24
namespace Go.Proofs.Ytackepdhcigdlaa
open Go.RowKit
set_option maxRecDepth 100000 in
set_option maxHeartbeats 2000000 in
theorem copy_any (t : Tm) (cs : List Value) (w : World) (ht : TmC w t cs) :
    Calls Try.prog 29 #[.agg cs.toArray] w fun e w' => ∃ (k' n' : Int) (a : Option Addr) (len cap : Nat), e = .returned (.agg #[.int .i64 k', .int .i64 n', .slice a len cap]) ∧ Below w.heap.size w w' ∧
      (shapedB t = true → ClT (fun b => w.heap.size ≤ b ∧ b < w'.heap.size) w' t [.int .i64 k', .int .i64 n', .slice a len cap]) ∧ (shapedB t = false → k' = 0 ∧ n' = 0 ∧ a = none ∧ len = 0 ∧ cap = 0) := by
  have ht0 := ht
  obtain ⟨a, cap, rfl, hsub, hlen⟩ := tm_open ht
  clear hsub ht
  have hd : Below w.heap.size w ((w.alloc (.cells #[.int .i64 t.kind, .int .i64 t.num, .slice a t.sub.length cap] 24)).alloc (.cells #[.int .i64 0, .int .i64 0, .slice none 0 0] 24)) := ((Below.refl _ _).alloc (Nat.le_refl _) _).alloc (by simp) _
  have BX0 : Box3 ((w.alloc (.cells #[.int .i64 t.kind, .int .i64 t.num, .slice a t.sub.length cap] 24)).alloc (.cells #[.int .i64 0, .int .i64 0, .slice none 0 0] 24)) w.heap.size (.int .i64 t.kind) (.int .i64 t.num) (.slice a t.sub.length cap) :=
    (Box3.new w _ _ _).later ((Below.refl _ _).alloc (Nat.le_refl _) _) (by simp)
  have BR0 : Box3 ((w.alloc (.cells #[.int .i64 t.kind, .int .i64 t.num, .slice a t.sub.length cap] 24)).alloc (.cells #[.int .i64 0, .int .i64 0, .slice none 0 0] 24)) (w.heap.size + 1) (.int .i64 0) (.int .i64 0) (.slice none 0 0) := by
    have h := Box3.new (w.alloc (.cells #[.int .i64 t.kind, .int .i64 t.num, .slice a t.sub.length cap] 24)) (.int .i64 0) (.int .i64 0) (.slice none 0 0)
    simp at h
    exact h
  go_enter Try.func29, Try.ntmps29
  go_wp2_with fail
  refine (shaped_any t _ _ (ht0.later hd)).mono ?_
  rintro e w1 ⟨rfl, hb1⟩
  have hw1 := hd.trans (hb1.mono hd.size)
  have hs1 := hb1.size
  simp at hs1
  have BX := BX0.later hb1 BX0.lt
  have BR := BR0.later hb1 BR0.lt
  obtain ⟨c0, c1, c2⟩ := BX.cells
  by_cases hs : shapedB t = true
  · have hg : goodB t = true := by
      have h := hs
      unfold shapedB at h
      simp only [Bool.and_eq_true] at h
      exact h.2
    have HS := Lib.hid hs
    rw [hs]
    clear hs
    go_wp2_with fail
    refine (cloned_any t _ _ hg (ht0.later hw1)).mono ?_
    rintro e w2 ⟨k', n', a', len, cap', rfl, hcl, hb2⟩
    have BR2 := BR.later hb2 BR.lt
    obtain ⟨q0, q1, q2⟩ := BR2.cells
    have f0 := BR2.free 0
    have f1 := BR2.free 1
    have f2 := BR2.free 2
    have hw2 := hw1.trans (hb2.mono hw1.size)
    have HC : Hid (∀ u v x, ClT (fun b => w.heap.size ≤ b ∧ b < (((w2.setCell ⟨w.heap.size + 1, 0, none⟩ u).setCell ⟨w.heap.size + 1, 1, none⟩ v).setCell ⟨w.heap.size + 1, 2, none⟩ x).heap.size) (((w2.setCell ⟨w.heap.size + 1, 0, none⟩ u).setCell ⟨w.heap.size + 1, 1, none⟩ v).setCell ⟨w.heap.size + 1, 2, none⟩ x) t [.int .i64 k', .int .i64 n', .slice a' len cap']) := by
      intro u v x
      refine ClT.move (fun b hb => ⟨⟨by omega, by rw [set3_size]; exact hb.2⟩, set3_heap _ _ _ _ _ _ (by omega)⟩) _ _ hcl
    clear hcl hb2 BR2 c0 c1 c2
    go_wp2_with fail
    exact bodyPost_ret (v := .agg #[.int .i64 k', .int .i64 n', .slice a' len cap']) (by simp [results, Try.results29, go_sem, q0, q1, q2]) rfl ⟨k', n', a', len, cap', rfl, set3_below hw2 (by omega) _ _ _, fun _ => HC.out _ _ _, fun h => by rw [HS.out] at h; cases h⟩
  · have hs : shapedB t = false := by simpa using hs
    have HS := Lib.hid hs
    rw [hs]
    clear hs
    obtain ⟨q0, q1, q2⟩ := BR.cells
    have f0 := BR.free 0
    have f1 := BR.free 1
    have f2 := BR.free 2
    go_wp2_with fail
    exact bodyPost_ret (v := .agg #[.int .i64 0, .int .i64 0, .slice none 0 0]) (by simp [results, Try.results29, go_sem, q0, q1, q2]) rfl ⟨0, 0, none, 0, 0, rfl, set3_below hw1 (by omega) _ _ _, (fun h => by rw [HS.out] at h; cases h), fun _ => ⟨rfl, rfl, rfl, rfl, rfl⟩⟩
end Go.Proofs.Ytackepdhcigdlaa
