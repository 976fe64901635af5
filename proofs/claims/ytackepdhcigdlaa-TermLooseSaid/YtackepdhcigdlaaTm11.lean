import Derived.Test.YtackepdhcigdlaaTm10
namespace Go.Proofs.Ytackepdhcigdlaa
open Go.RowKit
/-- a boxed block of three cells, later: its cells, which may be written -/
theorem box_free {w w1 : World} {x y z : Value} {T : TypeId} (hb : Below (w.heap.size + 1) (w.alloc (.cells #[x, y, z] T)) w1) :
    (w1.cell? ⟨w.heap.size, 0, none⟩ = some x ∧ w1.cell? ⟨w.heap.size, 1, none⟩ = some y ∧ w1.cell? ⟨w.heap.size, 2, none⟩ = some z) ∧
    (w1.frozen? ⟨w.heap.size, 0, none⟩ = false ∧ w1.frozen? ⟨w.heap.size, 1, none⟩ = false ∧ w1.frozen? ⟨w.heap.size, 2, none⟩ = false) :=
  ⟨box_cells hb, (hb.frozen (by simp)).trans (by simp), (hb.frozen (by simp)).trans (by simp), (hb.frozen (by simp)).trans (by simp)⟩
set_option maxHeartbeats 400000 in
theorem node_any (k n : Int) (a : Option Addr) (len cap : Nat) (w : World) :
    Calls Try.prog 49 #[.int .i64 k, .int .i64 n, .slice a len cap] w fun e w' => e = .returned (.agg #[.int .i64 k, .int .i64 n, .slice a len cap]) ∧ Below w.heap.size w w' := by
  go_enter Try.func49, Try.ntmps49
  go_wp2_with fail
  exact bodyPost_ret (v := .agg #[.int .i64 k, .int .i64 n, .slice a len cap]) (by simp [results, Try.results49, go_sem]) rfl ⟨rfl, (Below.refl _ _).alloc (Nat.le_refl _) _⟩
set_option maxHeartbeats 400000 in
theorem sort_any (n : Int) (w : World) :
    Calls Try.prog 11 #[.int .i64 n] w fun e w' => e = .returned (.agg #[.int .i64 2, .int .i64 n, .slice none 0 0]) ∧ Below w.heap.size w w' := by
  go_enter Try.func11, Try.ntmps11
  go_wp2_with fail
  refine (node_any _ _ _ _ _ _).mono ?_
  rintro e w1 ⟨rfl, hb1⟩
  have hb : Below w.heap.size w w1 := ((Below.refl _ _).alloc (Nat.le_refl _) _).trans (hb1.mono (by simp))
  obtain ⟨⟨c0, c1, c2⟩, f0, f1, f2⟩ := box_free (by simpa using hb1)
  clear hb1
  go_wp2_with fail
  exact bodyPost_ret (v := .agg #[.int .i64 2, .int .i64 n, .slice none 0 0]) (by simp [results, Try.results11, go_sem, c0, c1, c2]) rfl ⟨rfl, ((hb.setCell (Nat.le_refl _) _).setCell (Nat.le_refl _) _).setCell (Nat.le_refl _) _⟩
set_option maxHeartbeats 400000 in
theorem var_any (n : Int) (w : World) :
    Calls Try.prog 22 #[.int .i64 n] w fun e w' => e = .returned (.agg #[.int .i64 1, .int .i64 n, .slice none 0 0]) ∧ Below w.heap.size w w' := by
  go_enter Try.func22, Try.ntmps22
  go_wp2_with fail
  refine (node_any _ _ _ _ _ _).mono ?_
  rintro e w1 ⟨rfl, hb1⟩
  have hb : Below w.heap.size w w1 := ((Below.refl _ _).alloc (Nat.le_refl _) _).trans (hb1.mono (by simp))
  obtain ⟨⟨c0, c1, c2⟩, f0, f1, f2⟩ := box_free (by simpa using hb1)
  clear hb1
  go_wp2_with fail
  exact bodyPost_ret (v := .agg #[.int .i64 1, .int .i64 n, .slice none 0 0]) (by simp [results, Try.results22, go_sem, c0, c1, c2]) rfl ⟨rfl, ((hb.setCell (Nat.le_refl _) _).setCell (Nat.le_refl _) _).setCell (Nat.le_refl _) _⟩
set_option maxHeartbeats 400000 in
theorem const_any (n : Int) (w : World) :
    Calls Try.prog 23 #[.int .i64 n] w fun e w' => e = .returned (.agg #[.int .i64 6, .int .i64 n, .slice none 0 0]) ∧ Below w.heap.size w w' := by
  go_enter Try.func23, Try.ntmps23
  go_wp2_with fail
  refine (node_any _ _ _ _ _ _).mono ?_
  rintro e w1 ⟨rfl, hb1⟩
  have hb : Below w.heap.size w w1 := ((Below.refl _ _).alloc (Nat.le_refl _) _).trans (hb1.mono (by simp))
  obtain ⟨⟨c0, c1, c2⟩, f0, f1, f2⟩ := box_free (by simpa using hb1)
  clear hb1
  go_wp2_with fail
  exact bodyPost_ret (v := .agg #[.int .i64 6, .int .i64 n, .slice none 0 0]) (by simp [results, Try.results23, go_sem, c0, c1, c2]) rfl ⟨rfl, ((hb.setCell (Nat.le_refl _) _).setCell (Nat.le_refl _) _).setCell (Nat.le_refl _) _⟩
set_option maxHeartbeats 400000 in
theorem free_any (n : Int) (w : World) :
    Calls Try.prog 24 #[.int .i64 n] w fun e w' => e = .returned (.agg #[.int .i64 8, .int .i64 n, .slice none 0 0]) ∧ Below w.heap.size w w' := by
  go_enter Try.func24, Try.ntmps24
  go_wp2_with fail
  refine (node_any _ _ _ _ _ _).mono ?_
  rintro e w1 ⟨rfl, hb1⟩
  have hb : Below w.heap.size w w1 := ((Below.refl _ _).alloc (Nat.le_refl _) _).trans (hb1.mono (by simp))
  obtain ⟨⟨c0, c1, c2⟩, f0, f1, f2⟩ := box_free (by simpa using hb1)
  clear hb1
  go_wp2_with fail
  exact bodyPost_ret (v := .agg #[.int .i64 8, .int .i64 n, .slice none 0 0]) (by simp [results, Try.results24, go_sem, c0, c1, c2]) rfl ⟨rfl, ((hb.setCell (Nat.le_refl _) _).setCell (Nat.le_refl _) _).setCell (Nat.le_refl _) _⟩
/-- a term without subs -/
theorem leaf_tm (k n : Int) (w : World) : TmC w (.mk k n []) [.int .i64 k, .int .i64 n, .slice none 0 0] :=
  TmC.iff.2 ⟨_, rfl, [], ⟨none, 0, rfl, Nat.le_refl _, Nat.zero_le _, fun h => absurd rfl h⟩, by simp only [TmCs]⟩
/-- a slice of terms that is written out: its block whole, what its elements lead to older -/
theorem lit_tms {w0 w2 : World} {ts : List Tm} {css : List (List Value)} {B : Nat} {e : TypeId} {fr : Nat × Nat} (hcs : TmCs w0 ts css) (hm : ts.length ≤ maxLen) (hb : Below w0.heap.size w0 w2) (hB : w2.heap[B]? = some (.cells css.flatten.toArray e fr)) :
    TmS w2 (.slice (some ⟨B, 0, none⟩) ts.length ts.length) ts := by
  have hl := hcs.length
  have h3 := tmcs_three hcs
  refine ⟨css, ⟨some ⟨B, 0, none⟩, ts.length, by rw [hl], by omega, hm, fun _ => ⟨B, 0, rfl, fun i c hi => ⟨(h3 c (List.mem_of_getElem? hi)).1, fun j x hx => ?_⟩⟩⟩, hcs.later hb⟩
  rw [cell_of_row w2 B _ _ e fr hB]
  have := flat_at (fun c hc => (h3 c hc).1) i j c x hi hx
  simpa using this
theorem set3_heap (w : World) (B k : Nat) (u v x : Value) (h : k ≠ B) : (((w.setCell ⟨B, 0, none⟩ u).setCell ⟨B, 1, none⟩ v).setCell ⟨B, 2, none⟩ x).heap[k]? = w.heap[k]? := by
  rw [Below.heap_setCell _ _ _ _ h, Below.heap_setCell _ _ _ _ h, Below.heap_setCell _ _ _ _ h]
theorem set3_below {B0 B : Nat} {w0 w : World} (h : Below B0 w0 w) (hB : B0 ≤ B) (u v x : Value) : Below B0 w0 (((w.setCell ⟨B, 0, none⟩ u).setCell ⟨B, 1, none⟩ v).setCell ⟨B, 2, none⟩ x) :=
  ((h.setCell hB _).setCell hB _).setCell hB _
set_option maxRecDepth 100000 in
set_option maxHeartbeats 1000000 in
theorem app_any (f a : Tm) (cf ca : List Value) (w : World) (hf : TmC w f cf) (ha : TmC w a ca) :
    Calls Try.prog 12 #[.agg cf.toArray, .agg ca.toArray] w fun e w' => ∃ s, e = .returned (.agg #[.int .i64 5, .int .i64 0, s]) ∧ TmC w' (.mk 5 0 [f, a]) [.int .i64 5, .int .i64 0, s] ∧ Below w.heap.size w w' := by
  have hf0 := hf
  have ha0 := ha
  obtain ⟨a1, cap1, rfl, hs1, hl1⟩ := tm_open hf
  obtain ⟨a2, cap2, rfl, hs2, hl2⟩ := tm_open ha
  clear hs1 hs2 hf ha
  go_enter Try.func12, Try.ntmps12
  go_wp2_with fail
  refine (node_any _ _ _ _ _ _).mono ?_
  rintro e w1 ⟨rfl, hb1⟩
  have hw : Below w.heap.size w ((((w.alloc (.cells #[.int .i64 f.kind, .int .i64 f.num, .slice a1 f.sub.length cap1] 24)).alloc (.cells #[.int .i64 a.kind, .int .i64 a.num, .slice a2 a.sub.length cap2] 24)).alloc (.cells #[.int .i64 0, .int .i64 0, .slice none 0 0] 24)).alloc (.cells #[.int .i64 f.kind, .int .i64 f.num, .slice a1 f.sub.length cap1, .int .i64 a.kind, .int .i64 a.num, .slice a2 a.sub.length cap2] 24)) :=
    ((((Below.refl _ _).alloc (Nat.le_refl _) _).alloc (by simp) _).alloc (by simp; omega) _).alloc (by simp; omega) _
  have hb : Below w.heap.size w w1 := hw.trans (hb1.mono (by simp; omega))
  have hb2 : Below (w.heap.size + 3) (((w.alloc (.cells #[.int .i64 f.kind, .int .i64 f.num, .slice a1 f.sub.length cap1] 24)).alloc (.cells #[.int .i64 a.kind, .int .i64 a.num, .slice a2 a.sub.length cap2] 24)).alloc (.cells #[.int .i64 0, .int .i64 0, .slice none 0 0] 24)) w1 :=
    ((Below.refl _ _).alloc (by simp) _).trans (hb1.mono (by simp))
  obtain ⟨⟨c0, c1, c2⟩, f0, f1, f2⟩ := box_free (w := (w.alloc (.cells #[.int .i64 f.kind, .int .i64 f.num, .slice a1 f.sub.length cap1] 24)).alloc (.cells #[.int .i64 a.kind, .int .i64 a.num, .slice a2 a.sub.length cap2] 24)) (by simpa using hb2)
  have hcs : TmCs w [f, a] [[.int .i64 f.kind, .int .i64 f.num, .slice a1 f.sub.length cap1], [.int .i64 a.kind, .int .i64 a.num, .slice a2 a.sub.length cap2]] := by
    simp only [TmCs]; exact ⟨_, _, rfl, hf0, _, _, rfl, ha0, rfl⟩
  have hB : w1.heap[w.heap.size + 3]? = some (.cells #[.int .i64 f.kind, .int .i64 f.num, .slice a1 f.sub.length cap1, .int .i64 a.kind, .int .i64 a.num, .slice a2 a.sub.length cap2] 24) := by
    have h := heap_alloc_new (((w.alloc (.cells #[.int .i64 f.kind, .int .i64 f.num, .slice a1 f.sub.length cap1] 24)).alloc (.cells #[.int .i64 a.kind, .int .i64 a.num, .slice a2 a.sub.length cap2] 24)).alloc (.cells #[.int .i64 0, .int .i64 0, .slice none 0 0] 24)) (.cells #[.int .i64 f.kind, .int .i64 f.num, .slice a1 f.sub.length cap1, .int .i64 a.kind, .int .i64 a.num, .slice a2 a.sub.length cap2] 24)
    rw [show (((w.alloc (.cells #[.int .i64 f.kind, .int .i64 f.num, .slice a1 f.sub.length cap1] 24)).alloc (.cells #[.int .i64 a.kind, .int .i64 a.num, .slice a2 a.sub.length cap2] 24)).alloc (.cells #[.int .i64 0, .int .i64 0, .slice none 0 0] 24)).heap.size = w.heap.size + 3 by simp] at h
    rw [hb1.block _ (by simp)]; exact h
  have d0 : w1.cell? ⟨w.heap.size + 2, 0, none⟩ = some (.int .i64 0) := by simpa using c0
  have d1 : w1.cell? ⟨w.heap.size + 2, 1, none⟩ = some (.int .i64 0) := by simpa using c1
  have d2 : w1.cell? ⟨w.heap.size + 2, 2, none⟩ = some (.slice none 0 0) := by simpa using c2
  have g0 : w1.frozen? ⟨w.heap.size + 2, 0, none⟩ = false := by simpa using f0
  have g1 : w1.frozen? ⟨w.heap.size + 2, 1, none⟩ = false := by simpa using f1
  have g2 : w1.frozen? ⟨w.heap.size + 2, 2, none⟩ = false := by simpa using f2
  have hS : ∀ u v x, TmC (((w1.setCell ⟨w.heap.size + 2, 0, none⟩ u).setCell ⟨w.heap.size + 2, 1, none⟩ v).setCell ⟨w.heap.size + 2, 2, none⟩ x) (.mk 5 0 [f, a]) [.int .i64 5, .int .i64 0, .slice (some ⟨w.heap.size + 3, 0, none⟩) 2 2] := by
    intro u v x
    exact TmC.iff.2 ⟨_, rfl, lit_tms (ts := [f, a]) (css := [[.int .i64 f.kind, .int .i64 f.num, .slice a1 f.sub.length cap1], [.int .i64 a.kind, .int .i64 a.num, .slice a2 a.sub.length cap2]]) hcs (by show 2 ≤ maxLen; decide) (set3_below hb (by omega) u v x) ((set3_heap _ _ _ _ _ _ (by omega)).trans hB)⟩
  clear c0 c1 c2 f0 f1 f2 hcs hw hb1 hb2 hB
  go_wp2_with fail
  exact bodyPost_ret (v := .agg #[.int .i64 5, .int .i64 0, .slice (some ⟨w.heap.size + 3, 0, none⟩) 2 2]) (by simp [results, Try.results12, go_sem, d0, d1, d2]) rfl ⟨_, rfl, hS _ _ _, set3_below hb (by omega) _ _ _⟩
set_option maxRecDepth 100000 in
set_option maxHeartbeats 1000000 in
theorem pi_any (f a : Tm) (cf ca : List Value) (w : World) (hf : TmC w f cf) (ha : TmC w a ca) :
    Calls Try.prog 18 #[.agg cf.toArray, .agg ca.toArray] w fun e w' => ∃ s, e = .returned (.agg #[.int .i64 3, .int .i64 0, s]) ∧ TmC w' (.mk 3 0 [f, a]) [.int .i64 3, .int .i64 0, s] ∧ Below w.heap.size w w' := by
  have hf0 := hf
  have ha0 := ha
  obtain ⟨a1, cap1, rfl, hs1, hl1⟩ := tm_open hf
  obtain ⟨a2, cap2, rfl, hs2, hl2⟩ := tm_open ha
  clear hs1 hs2 hf ha
  go_enter Try.func18, Try.ntmps18
  go_wp2_with fail
  refine (node_any _ _ _ _ _ _).mono ?_
  rintro e w1 ⟨rfl, hb1⟩
  have hw : Below w.heap.size w ((((w.alloc (.cells #[.int .i64 f.kind, .int .i64 f.num, .slice a1 f.sub.length cap1] 24)).alloc (.cells #[.int .i64 a.kind, .int .i64 a.num, .slice a2 a.sub.length cap2] 24)).alloc (.cells #[.int .i64 0, .int .i64 0, .slice none 0 0] 24)).alloc (.cells #[.int .i64 f.kind, .int .i64 f.num, .slice a1 f.sub.length cap1, .int .i64 a.kind, .int .i64 a.num, .slice a2 a.sub.length cap2] 24)) :=
    ((((Below.refl _ _).alloc (Nat.le_refl _) _).alloc (by simp) _).alloc (by simp; omega) _).alloc (by simp; omega) _
  have hb : Below w.heap.size w w1 := hw.trans (hb1.mono (by simp; omega))
  have hb2 : Below (w.heap.size + 3) (((w.alloc (.cells #[.int .i64 f.kind, .int .i64 f.num, .slice a1 f.sub.length cap1] 24)).alloc (.cells #[.int .i64 a.kind, .int .i64 a.num, .slice a2 a.sub.length cap2] 24)).alloc (.cells #[.int .i64 0, .int .i64 0, .slice none 0 0] 24)) w1 :=
    ((Below.refl _ _).alloc (by simp) _).trans (hb1.mono (by simp))
  obtain ⟨⟨c0, c1, c2⟩, f0, f1, f2⟩ := box_free (w := (w.alloc (.cells #[.int .i64 f.kind, .int .i64 f.num, .slice a1 f.sub.length cap1] 24)).alloc (.cells #[.int .i64 a.kind, .int .i64 a.num, .slice a2 a.sub.length cap2] 24)) (by simpa using hb2)
  have hcs : TmCs w [f, a] [[.int .i64 f.kind, .int .i64 f.num, .slice a1 f.sub.length cap1], [.int .i64 a.kind, .int .i64 a.num, .slice a2 a.sub.length cap2]] := by
    simp only [TmCs]; exact ⟨_, _, rfl, hf0, _, _, rfl, ha0, rfl⟩
  have hB : w1.heap[w.heap.size + 3]? = some (.cells #[.int .i64 f.kind, .int .i64 f.num, .slice a1 f.sub.length cap1, .int .i64 a.kind, .int .i64 a.num, .slice a2 a.sub.length cap2] 24) := by
    have h := heap_alloc_new (((w.alloc (.cells #[.int .i64 f.kind, .int .i64 f.num, .slice a1 f.sub.length cap1] 24)).alloc (.cells #[.int .i64 a.kind, .int .i64 a.num, .slice a2 a.sub.length cap2] 24)).alloc (.cells #[.int .i64 0, .int .i64 0, .slice none 0 0] 24)) (.cells #[.int .i64 f.kind, .int .i64 f.num, .slice a1 f.sub.length cap1, .int .i64 a.kind, .int .i64 a.num, .slice a2 a.sub.length cap2] 24)
    rw [show (((w.alloc (.cells #[.int .i64 f.kind, .int .i64 f.num, .slice a1 f.sub.length cap1] 24)).alloc (.cells #[.int .i64 a.kind, .int .i64 a.num, .slice a2 a.sub.length cap2] 24)).alloc (.cells #[.int .i64 0, .int .i64 0, .slice none 0 0] 24)).heap.size = w.heap.size + 3 by simp] at h
    rw [hb1.block _ (by simp)]; exact h
  have d0 : w1.cell? ⟨w.heap.size + 2, 0, none⟩ = some (.int .i64 0) := by simpa using c0
  have d1 : w1.cell? ⟨w.heap.size + 2, 1, none⟩ = some (.int .i64 0) := by simpa using c1
  have d2 : w1.cell? ⟨w.heap.size + 2, 2, none⟩ = some (.slice none 0 0) := by simpa using c2
  have g0 : w1.frozen? ⟨w.heap.size + 2, 0, none⟩ = false := by simpa using f0
  have g1 : w1.frozen? ⟨w.heap.size + 2, 1, none⟩ = false := by simpa using f1
  have g2 : w1.frozen? ⟨w.heap.size + 2, 2, none⟩ = false := by simpa using f2
  have hS : ∀ u v x, TmC (((w1.setCell ⟨w.heap.size + 2, 0, none⟩ u).setCell ⟨w.heap.size + 2, 1, none⟩ v).setCell ⟨w.heap.size + 2, 2, none⟩ x) (.mk 3 0 [f, a]) [.int .i64 3, .int .i64 0, .slice (some ⟨w.heap.size + 3, 0, none⟩) 2 2] := by
    intro u v x
    exact TmC.iff.2 ⟨_, rfl, lit_tms (ts := [f, a]) (css := [[.int .i64 f.kind, .int .i64 f.num, .slice a1 f.sub.length cap1], [.int .i64 a.kind, .int .i64 a.num, .slice a2 a.sub.length cap2]]) hcs (by show 2 ≤ maxLen; decide) (set3_below hb (by omega) u v x) ((set3_heap _ _ _ _ _ _ (by omega)).trans hB)⟩
  clear c0 c1 c2 f0 f1 f2 hcs hw hb1 hb2 hB
  go_wp2_with fail
  exact bodyPost_ret (v := .agg #[.int .i64 3, .int .i64 0, .slice (some ⟨w.heap.size + 3, 0, none⟩) 2 2]) (by simp [results, Try.results18, go_sem, d0, d1, d2]) rfl ⟨_, rfl, hS _ _ _, set3_below hb (by omega) _ _ _⟩
set_option maxRecDepth 100000 in
set_option maxHeartbeats 1000000 in
theorem lam_any (f a : Tm) (cf ca : List Value) (w : World) (hf : TmC w f cf) (ha : TmC w a ca) :
    Calls Try.prog 19 #[.agg cf.toArray, .agg ca.toArray] w fun e w' => ∃ s, e = .returned (.agg #[.int .i64 4, .int .i64 0, s]) ∧ TmC w' (.mk 4 0 [f, a]) [.int .i64 4, .int .i64 0, s] ∧ Below w.heap.size w w' := by
  have hf0 := hf
  have ha0 := ha
  obtain ⟨a1, cap1, rfl, hs1, hl1⟩ := tm_open hf
  obtain ⟨a2, cap2, rfl, hs2, hl2⟩ := tm_open ha
  clear hs1 hs2 hf ha
  go_enter Try.func19, Try.ntmps19
  go_wp2_with fail
  refine (node_any _ _ _ _ _ _).mono ?_
  rintro e w1 ⟨rfl, hb1⟩
  have hw : Below w.heap.size w ((((w.alloc (.cells #[.int .i64 f.kind, .int .i64 f.num, .slice a1 f.sub.length cap1] 24)).alloc (.cells #[.int .i64 a.kind, .int .i64 a.num, .slice a2 a.sub.length cap2] 24)).alloc (.cells #[.int .i64 0, .int .i64 0, .slice none 0 0] 24)).alloc (.cells #[.int .i64 f.kind, .int .i64 f.num, .slice a1 f.sub.length cap1, .int .i64 a.kind, .int .i64 a.num, .slice a2 a.sub.length cap2] 24)) :=
    ((((Below.refl _ _).alloc (Nat.le_refl _) _).alloc (by simp) _).alloc (by simp; omega) _).alloc (by simp; omega) _
  have hb : Below w.heap.size w w1 := hw.trans (hb1.mono (by simp; omega))
  have hb2 : Below (w.heap.size + 3) (((w.alloc (.cells #[.int .i64 f.kind, .int .i64 f.num, .slice a1 f.sub.length cap1] 24)).alloc (.cells #[.int .i64 a.kind, .int .i64 a.num, .slice a2 a.sub.length cap2] 24)).alloc (.cells #[.int .i64 0, .int .i64 0, .slice none 0 0] 24)) w1 :=
    ((Below.refl _ _).alloc (by simp) _).trans (hb1.mono (by simp))
  obtain ⟨⟨c0, c1, c2⟩, f0, f1, f2⟩ := box_free (w := (w.alloc (.cells #[.int .i64 f.kind, .int .i64 f.num, .slice a1 f.sub.length cap1] 24)).alloc (.cells #[.int .i64 a.kind, .int .i64 a.num, .slice a2 a.sub.length cap2] 24)) (by simpa using hb2)
  have hcs : TmCs w [f, a] [[.int .i64 f.kind, .int .i64 f.num, .slice a1 f.sub.length cap1], [.int .i64 a.kind, .int .i64 a.num, .slice a2 a.sub.length cap2]] := by
    simp only [TmCs]; exact ⟨_, _, rfl, hf0, _, _, rfl, ha0, rfl⟩
  have hB : w1.heap[w.heap.size + 3]? = some (.cells #[.int .i64 f.kind, .int .i64 f.num, .slice a1 f.sub.length cap1, .int .i64 a.kind, .int .i64 a.num, .slice a2 a.sub.length cap2] 24) := by
    have h := heap_alloc_new (((w.alloc (.cells #[.int .i64 f.kind, .int .i64 f.num, .slice a1 f.sub.length cap1] 24)).alloc (.cells #[.int .i64 a.kind, .int .i64 a.num, .slice a2 a.sub.length cap2] 24)).alloc (.cells #[.int .i64 0, .int .i64 0, .slice none 0 0] 24)) (.cells #[.int .i64 f.kind, .int .i64 f.num, .slice a1 f.sub.length cap1, .int .i64 a.kind, .int .i64 a.num, .slice a2 a.sub.length cap2] 24)
    rw [show (((w.alloc (.cells #[.int .i64 f.kind, .int .i64 f.num, .slice a1 f.sub.length cap1] 24)).alloc (.cells #[.int .i64 a.kind, .int .i64 a.num, .slice a2 a.sub.length cap2] 24)).alloc (.cells #[.int .i64 0, .int .i64 0, .slice none 0 0] 24)).heap.size = w.heap.size + 3 by simp] at h
    rw [hb1.block _ (by simp)]; exact h
  have d0 : w1.cell? ⟨w.heap.size + 2, 0, none⟩ = some (.int .i64 0) := by simpa using c0
  have d1 : w1.cell? ⟨w.heap.size + 2, 1, none⟩ = some (.int .i64 0) := by simpa using c1
  have d2 : w1.cell? ⟨w.heap.size + 2, 2, none⟩ = some (.slice none 0 0) := by simpa using c2
  have g0 : w1.frozen? ⟨w.heap.size + 2, 0, none⟩ = false := by simpa using f0
  have g1 : w1.frozen? ⟨w.heap.size + 2, 1, none⟩ = false := by simpa using f1
  have g2 : w1.frozen? ⟨w.heap.size + 2, 2, none⟩ = false := by simpa using f2
  have hS : ∀ u v x, TmC (((w1.setCell ⟨w.heap.size + 2, 0, none⟩ u).setCell ⟨w.heap.size + 2, 1, none⟩ v).setCell ⟨w.heap.size + 2, 2, none⟩ x) (.mk 4 0 [f, a]) [.int .i64 4, .int .i64 0, .slice (some ⟨w.heap.size + 3, 0, none⟩) 2 2] := by
    intro u v x
    exact TmC.iff.2 ⟨_, rfl, lit_tms (ts := [f, a]) (css := [[.int .i64 f.kind, .int .i64 f.num, .slice a1 f.sub.length cap1], [.int .i64 a.kind, .int .i64 a.num, .slice a2 a.sub.length cap2]]) hcs (by show 2 ≤ maxLen; decide) (set3_below hb (by omega) u v x) ((set3_heap _ _ _ _ _ _ (by omega)).trans hB)⟩
  clear c0 c1 c2 f0 f1 f2 hcs hw hb1 hb2 hB
  go_wp2_with fail
  exact bodyPost_ret (v := .agg #[.int .i64 4, .int .i64 0, .slice (some ⟨w.heap.size + 3, 0, none⟩) 2 2]) (by simp [results, Try.results19, go_sem, d0, d1, d2]) rfl ⟨_, rfl, hS _ _ _, set3_below hb (by omega) _ _ _⟩
end Go.Proofs.Ytackepdhcigdlaa
