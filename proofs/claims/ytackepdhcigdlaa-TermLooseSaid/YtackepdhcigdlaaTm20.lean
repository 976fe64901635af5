import Derived.Test.YtackepdhcigdlaaTm19
import Derived.Deep.RegionHeld3
import Derived.Deep.QuietTactic
import Derived.BigQuiet
import Derived.Deep.DeepCutAuto
import Derived.Deep.Cut
namespace Go.Proofs.Ytackepdhcigdlaa
open Go.RowKit
set_option maxRecDepth 100000 in
set_option maxHeartbeats 1000000 in
theorem pi_raw (f a : Tm) (cf ca : List Value) (w : World) (hf : TmC w f cf) (ha : TmC w a ca) :
    Calls Try.prog 18 #[.agg cf.toArray, .agg ca.toArray] w fun e w' => e = .returned (.agg #[.int .i64 3, .int .i64 0, .slice (some ⟨w.heap.size + 3, 0, none⟩) 2 2]) ∧ w'.heap[w.heap.size + 3]? = some (.cells (cf ++ ca).toArray 24) ∧ Below w.heap.size w w' := by
  have hf0 := hf
  have ha0 := ha
  obtain ⟨a1, cap1, rfl, hs1, hl1⟩ := tm_open hf
  obtain ⟨a2, cap2, rfl, hs2, hl2⟩ := tm_open ha
  clear hs1 hs2 hf ha
  go_enter Try.func18, Try.ntmps18
  go_wp2_with fail
  refine (node_any _ _ _ _ _ _).mono ?_
  rintro e w1 ⟨rfl, hb1⟩
  have hw : Below w.heap.size w ((((w.alloc (.cells #[.int .i64 f.kind, .int .i64 f.num, .slice a1 f.sub.length cap1] 24)).alloc (.cells #[.int .i64 a.kind, .int .i64 a.num, .slice a2 a.sub.length cap2] 24)).alloc (.cells #[.int .i64 0, .int .i64 0, .slice none 0 0] 24)).alloc (.cells #[.int .i64 f.kind, .int .i64 f.num, .slice a1 f.sub.length cap1, .int .i64 a.kind, .int .i64 a.num, .slice a2 a.sub.length cap2] 24)) :=
    ((((Below.refl _ _).alloc (Nat.le_refl _) _).alloc (by simp) _).alloc (by simp; omega) _).alloc (by simp; omega) _
  have hb : Below w.heap.size w w1 := hw.trans (hb1.mono (by simp; omega))
  have hb2 : Below (w.heap.size + 3) (((w.alloc (.cells #[.int .i64 f.kind, .int .i64 f.num, .slice a1 f.sub.length cap1] 24)).alloc (.cells #[.int .i64 a.kind, .int .i64 a.num, .slice a2 a.sub.length cap2] 24)).alloc (.cells #[.int .i64 0, .int .i64 0, .slice none 0 0] 24)) w1 :=
    ((Below.refl _ _).alloc (by simp) _).trans (hb1.mono (by simp))
  obtain ⟨⟨c0, c1, c2⟩, f0, f1, f2⟩ := box_free (w := (w.alloc (.cells #[.int .i64 f.kind, .int .i64 f.num, .slice a1 f.sub.length cap1] 24)).alloc (.cells #[.int .i64 a.kind, .int .i64 a.num, .slice a2 a.sub.length cap2] 24)) (by simpa using hb2)
  have hB : w1.heap[w.heap.size + 3]? = some (.cells #[.int .i64 f.kind, .int .i64 f.num, .slice a1 f.sub.length cap1, .int .i64 a.kind, .int .i64 a.num, .slice a2 a.sub.length cap2] 24) := by
    have h := heap_alloc_new (((w.alloc (.cells #[.int .i64 f.kind, .int .i64 f.num, .slice a1 f.sub.length cap1] 24)).alloc (.cells #[.int .i64 a.kind, .int .i64 a.num, .slice a2 a.sub.length cap2] 24)).alloc (.cells #[.int .i64 0, .int .i64 0, .slice none 0 0] 24)) (.cells #[.int .i64 f.kind, .int .i64 f.num, .slice a1 f.sub.length cap1, .int .i64 a.kind, .int .i64 a.num, .slice a2 a.sub.length cap2] 24)
    rw [show (((w.alloc (.cells #[.int .i64 f.kind, .int .i64 f.num, .slice a1 f.sub.length cap1] 24)).alloc (.cells #[.int .i64 a.kind, .int .i64 a.num, .slice a2 a.sub.length cap2] 24)).alloc (.cells #[.int .i64 0, .int .i64 0, .slice none 0 0] 24)).heap.size = w.heap.size + 3 by simp] at h
    rw [hb1.block _ (by simp)]; exact h
  have d0 : w1.cell? ⟨w.heap.size + 2, 0, none⟩ = some (.int .i64 0) := by simpa using c0
  have d1 : w1.cell? ⟨w.heap.size + 2, 1, none⟩ = some (.int .i64 0) := by simpa using c1
  have d2 : w1.cell? ⟨w.heap.size + 2, 2, none⟩ = some (.slice none 0 0) := by simpa using c2
  have g0 : w1.frozen? ⟨w.heap.size + 2, 0, none⟩ = false := by simpa using f0
  have g1 : w1.frozen? ⟨w.heap.size + 2, 1, none⟩ = false := by simpa using f1
  have g2 : w1.frozen? ⟨w.heap.size + 2, 2, none⟩ = false := by simpa using f2
  have HB := Lib.hid hB
  clear c0 c1 c2 f0 f1 f2 hw hb1 hb2 hB hf0 ha0
  go_wp2_with fail
  exact bodyPost_ret (v := .agg #[.int .i64 3, .int .i64 0, .slice (some ⟨w.heap.size + 3, 0, none⟩) 2 2]) (by simp [results, Try.results18, go_sem, d0, d1, d2]) rfl ⟨rfl, (set3_heap _ _ _ _ _ _ (by omega)).trans HB.out, set3_below hb (by omega) _ _ _⟩
/-- an application, told free of where its memory is asked for -/
theorem pi_free {f a : Tm} {cf ca : List Value} {w0 : World} (hf : TmC w0 f cf) (ha : TmC w0 a ca) : Hid (∀ w2, Below w0.heap.size w0 w2 →
    Calls Try.prog 18 #[.agg cf.toArray, .agg ca.toArray] w2 fun e w3 => ∃ B3 : Nat, e = .returned (.agg #[.int .i64 3, .int .i64 0, .slice (some ⟨B3, 0, none⟩) 2 2]) ∧ w2.heap.size ≤ B3 ∧ B3 < w3.heap.size ∧ Below w2.heap.size w2 w3 ∧
      ∀ wz : World, (∀ b, b < w0.heap.size → wz.heap[b]? = w0.heap[b]?) → wz.heap[B3]? = w3.heap[B3]? → TmC wz (.mk 3 0 [f, a]) [.int .i64 3, .int .i64 0, .slice (some ⟨B3, 0, none⟩) 2 2]) := by
  intro w2 hb2
  refine (pi_raw f a cf ca w2 (hf.later hb2) (ha.later hb2)).mono ?_
  rintro e w3 ⟨rfl, hB, hb⟩
  have hlt : w2.heap.size + 3 < w3.heap.size := by
    obtain ⟨h1, _⟩ := Array.getElem?_eq_some_iff.1 hB; exact h1
  refine ⟨_, rfl, by omega, hlt, hb, fun wz h1 h2 => ?_⟩
  have mv : ∀ b, b < w0.heap.size → True ∧ wz.heap[b]? = w0.heap[b]? := fun b h => ⟨trivial, h1 b h⟩
  refine TmF.toC (S := fun _ => True) (TmF.made (ts := [f, a]) (css := [cf, ca]) 3 0 ?_ (by show 2 ≤ maxLen; decide) trivial (by rw [h2]; simpa using hB))
  simp only [TmFs]
  exact ⟨cf, _, rfl, TmF.move mv _ _ (TmC.toF _ _ hf), ca, _, rfl, TmF.move mv _ _ (TmC.toF _ _ ha), rfl⟩
set_option maxRecDepth 100000 in
set_option maxHeartbeats 1000000 in
theorem lam_raw (f a : Tm) (cf ca : List Value) (w : World) (hf : TmC w f cf) (ha : TmC w a ca) :
    Calls Try.prog 19 #[.agg cf.toArray, .agg ca.toArray] w fun e w' => e = .returned (.agg #[.int .i64 4, .int .i64 0, .slice (some ⟨w.heap.size + 3, 0, none⟩) 2 2]) ∧ w'.heap[w.heap.size + 3]? = some (.cells (cf ++ ca).toArray 24) ∧ Below w.heap.size w w' := by
  have hf0 := hf
  have ha0 := ha
  obtain ⟨a1, cap1, rfl, hs1, hl1⟩ := tm_open hf
  obtain ⟨a2, cap2, rfl, hs2, hl2⟩ := tm_open ha
  clear hs1 hs2 hf ha
  go_enter Try.func19, Try.ntmps19
  go_wp2_with fail
  refine (node_any _ _ _ _ _ _).mono ?_
  rintro e w1 ⟨rfl, hb1⟩
  have hw : Below w.heap.size w ((((w.alloc (.cells #[.int .i64 f.kind, .int .i64 f.num, .slice a1 f.sub.length cap1] 24)).alloc (.cells #[.int .i64 a.kind, .int .i64 a.num, .slice a2 a.sub.length cap2] 24)).alloc (.cells #[.int .i64 0, .int .i64 0, .slice none 0 0] 24)).alloc (.cells #[.int .i64 f.kind, .int .i64 f.num, .slice a1 f.sub.length cap1, .int .i64 a.kind, .int .i64 a.num, .slice a2 a.sub.length cap2] 24)) :=
    ((((Below.refl _ _).alloc (Nat.le_refl _) _).alloc (by simp) _).alloc (by simp; omega) _).alloc (by simp; omega) _
  have hb : Below w.heap.size w w1 := hw.trans (hb1.mono (by simp; omega))
  have hb2 : Below (w.heap.size + 3) (((w.alloc (.cells #[.int .i64 f.kind, .int .i64 f.num, .slice a1 f.sub.length cap1] 24)).alloc (.cells #[.int .i64 a.kind, .int .i64 a.num, .slice a2 a.sub.length cap2] 24)).alloc (.cells #[.int .i64 0, .int .i64 0, .slice none 0 0] 24)) w1 :=
    ((Below.refl _ _).alloc (by simp) _).trans (hb1.mono (by simp))
  obtain ⟨⟨c0, c1, c2⟩, f0, f1, f2⟩ := box_free (w := (w.alloc (.cells #[.int .i64 f.kind, .int .i64 f.num, .slice a1 f.sub.length cap1] 24)).alloc (.cells #[.int .i64 a.kind, .int .i64 a.num, .slice a2 a.sub.length cap2] 24)) (by simpa using hb2)
  have hB : w1.heap[w.heap.size + 3]? = some (.cells #[.int .i64 f.kind, .int .i64 f.num, .slice a1 f.sub.length cap1, .int .i64 a.kind, .int .i64 a.num, .slice a2 a.sub.length cap2] 24) := by
    have h := heap_alloc_new (((w.alloc (.cells #[.int .i64 f.kind, .int .i64 f.num, .slice a1 f.sub.length cap1] 24)).alloc (.cells #[.int .i64 a.kind, .int .i64 a.num, .slice a2 a.sub.length cap2] 24)).alloc (.cells #[.int .i64 0, .int .i64 0, .slice none 0 0] 24)) (.cells #[.int .i64 f.kind, .int .i64 f.num, .slice a1 f.sub.length cap1, .int .i64 a.kind, .int .i64 a.num, .slice a2 a.sub.length cap2] 24)
    rw [show (((w.alloc (.cells #[.int .i64 f.kind, .int .i64 f.num, .slice a1 f.sub.length cap1] 24)).alloc (.cells #[.int .i64 a.kind, .int .i64 a.num, .slice a2 a.sub.length cap2] 24)).alloc (.cells #[.int .i64 0, .int .i64 0, .slice none 0 0] 24)).heap.size = w.heap.size + 3 by simp] at h
    rw [hb1.block _ (by simp)]; exact h
  have d0 : w1.cell? ⟨w.heap.size + 2, 0, none⟩ = some (.int .i64 0) := by simpa using c0
  have d1 : w1.cell? ⟨w.heap.size + 2, 1, none⟩ = some (.int .i64 0) := by simpa using c1
  have d2 : w1.cell? ⟨w.heap.size + 2, 2, none⟩ = some (.slice none 0 0) := by simpa using c2
  have g0 : w1.frozen? ⟨w.heap.size + 2, 0, none⟩ = false := by simpa using f0
  have g1 : w1.frozen? ⟨w.heap.size + 2, 1, none⟩ = false := by simpa using f1
  have g2 : w1.frozen? ⟨w.heap.size + 2, 2, none⟩ = false := by simpa using f2
  have HB := Lib.hid hB
  clear c0 c1 c2 f0 f1 f2 hw hb1 hb2 hB hf0 ha0
  go_wp2_with fail
  exact bodyPost_ret (v := .agg #[.int .i64 4, .int .i64 0, .slice (some ⟨w.heap.size + 3, 0, none⟩) 2 2]) (by simp [results, Try.results19, go_sem, d0, d1, d2]) rfl ⟨rfl, (set3_heap _ _ _ _ _ _ (by omega)).trans HB.out, set3_below hb (by omega) _ _ _⟩
/-- an application, told free of where its memory is asked for -/
theorem lam_free {f a : Tm} {cf ca : List Value} {w0 : World} (hf : TmC w0 f cf) (ha : TmC w0 a ca) : Hid (∀ w2, Below w0.heap.size w0 w2 →
    Calls Try.prog 19 #[.agg cf.toArray, .agg ca.toArray] w2 fun e w3 => ∃ B3 : Nat, e = .returned (.agg #[.int .i64 4, .int .i64 0, .slice (some ⟨B3, 0, none⟩) 2 2]) ∧ w2.heap.size ≤ B3 ∧ B3 < w3.heap.size ∧ Below w2.heap.size w2 w3 ∧
      ∀ wz : World, (∀ b, b < w0.heap.size → wz.heap[b]? = w0.heap[b]?) → wz.heap[B3]? = w3.heap[B3]? → TmC wz (.mk 4 0 [f, a]) [.int .i64 4, .int .i64 0, .slice (some ⟨B3, 0, none⟩) 2 2]) := by
  intro w2 hb2
  refine (lam_raw f a cf ca w2 (hf.later hb2) (ha.later hb2)).mono ?_
  rintro e w3 ⟨rfl, hB, hb⟩
  have hlt : w2.heap.size + 3 < w3.heap.size := by
    obtain ⟨h1, _⟩ := Array.getElem?_eq_some_iff.1 hB; exact h1
  refine ⟨_, rfl, by omega, hlt, hb, fun wz h1 h2 => ?_⟩
  have mv : ∀ b, b < w0.heap.size → True ∧ wz.heap[b]? = w0.heap[b]? := fun b h => ⟨trivial, h1 b h⟩
  refine TmF.toC (S := fun _ => True) (TmF.made (ts := [f, a]) (css := [cf, ca]) 4 0 ?_ (by show 2 ≤ maxLen; decide) trivial (by rw [h2]; simpa using hB))
  simp only [TmFs]
  exact ⟨cf, _, rfl, TmF.move mv _ _ (TmC.toF _ _ hf), ca, _, rfl, TmF.move mv _ _ (TmC.toF _ _ ha), rfl⟩
end Go.Proofs.Ytackepdhcigdlaa
