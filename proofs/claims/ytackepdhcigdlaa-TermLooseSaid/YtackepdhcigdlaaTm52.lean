import Derived.Test.YtackepdhcigdlaaTm51
namespace Go.Proofs.Ytackepdhcigdlaa
open Go.RowKit
set_option maxHeartbeats 400000 in
theorem rC_any (n : Int) (w : World) :
    Calls Try.prog 66 #[.int .i64 n] w fun e w' => e = .returned (.agg #[.int .i64 6, .int .i64 n, .slice none 0 0]) ∧ Below w.heap.size w w' := by
  have hA : Below w.heap.size w (w.alloc (.cells #[.int .i64 0, .int .i64 0, .slice none 0 0] 24)) := (Below.refl _ _).alloc (Nat.le_refl _) _
  go_enter Try.func66, Try.ntmps66
  go_wp2_with fail
  refine (rleaf_any 6 n _).mono ?_
  rintro e w1 ⟨rfl, hb1⟩
  have BX := (Box3.new w (.int .i64 0) (.int .i64 0) (.slice none 0 0)).later hb1 (by simp)
  have g0 := BX.free 0
  have g1 := BX.free 1
  have g2 := BX.free 2
  obtain ⟨c0, c1, c2⟩ := BX.cells
  have hw := Lib.hid (hA.trans (hb1.mono hA.size))
  clear hb1 BX
  go_wp2_with fail
  exact bodyPost_ret (v := .agg #[.int .i64 6, .int .i64 n, .slice none 0 0]) (by simp [results, Try.results66, go_sem, c0, c1, c2]) rfl ⟨rfl, set3_below hw.out (Nat.le_refl _) _ _ _⟩
set_option maxRecDepth 100000 in
set_option maxHeartbeats 1000000 in
theorem rP_any (f a : Tm) (cf ca : List Value) (w : World) (hf : TmC w f cf) (ha : TmC w a ca) :
    Calls Try.prog 65 #[.agg cf.toArray, .agg ca.toArray] w fun e w' => ∃ (a1 : Option Addr) (c1 : Nat), e = .returned (.agg #[.int .i64 3, .int .i64 0, .slice a1 2 c1]) ∧ TmC w' (.mk 3 0 [f, a]) [.int .i64 3, .int .i64 0, .slice a1 2 c1] ∧ Below w.heap.size w w' := by
  have TF := two_free (k := 3) hf ha
  obtain ⟨a1, cap1, rfl, hs1, hl1⟩ := tm_open hf
  obtain ⟨a2, cap2, rfl, hs2, hl2⟩ := tm_open ha
  clear hs1 hs2 hf ha
  have hA : Below w.heap.size w (((w.alloc (.cells #[.int .i64 f.kind, .int .i64 f.num, .slice a1 f.sub.length cap1] 24)).alloc (.cells #[.int .i64 a.kind, .int .i64 a.num, .slice a2 a.sub.length cap2] 24)).alloc (.cells #[.int .i64 0, .int .i64 0, .slice none 0 0] 24)) := (((Below.refl _ _).alloc (Nat.le_refl _) _).alloc (by simp) _).alloc (by simp; omega) _
  have BX0 := Box3.new ((w.alloc (.cells #[.int .i64 f.kind, .int .i64 f.num, .slice a1 f.sub.length cap1] 24)).alloc (.cells #[.int .i64 a.kind, .int .i64 a.num, .slice a2 a.sub.length cap2] 24)) (.int .i64 0) (.int .i64 0) (.slice none 0 0)
  have HA := Lib.hid hA
  have HBX := Lib.hid BX0
  clear hA BX0
  go_enter Try.func65, Try.ntmps65
  go_wp2_with fail
  refine (TF.out _ HA.out).mono ?_
  rintro e w3 ⟨B3, rfl, hB1, hB2, hb3, hT⟩
  have BX := HBX.out.later hb3 HBX.out.lt
  have hsz := HA.out.size
  have hs3 := hb3.size
  have hw3 := Lib.hid (HA.out.trans (hb3.mono HA.out.size))
  have g0 := BX.free 0
  have g1 := BX.free 1
  have g2 := BX.free 2
  obtain ⟨c0, c1, c2⟩ := BX.cells
  have HT := Lib.hid hT
  simp at hB1 hsz hs3
  have HE : ((w.alloc (.cells #[.int .i64 f.kind, .int .i64 f.num, .slice a1 f.sub.length cap1] 24)).alloc (.cells #[.int .i64 a.kind, .int .i64 a.num, .slice a2 a.sub.length cap2] 24)).heap.size = w.heap.size + 1 + 1 := by simp
  rw [HE] at g0 g1 g2 c0 c1 c2
  clear HE
  have BF : Hid (Below w.heap.size w (((w3.setCell ⟨w.heap.size + 1 + 1, 0, none⟩ (.int .i64 3)).setCell ⟨w.heap.size + 1 + 1, 1, none⟩ (.int .i64 0)).setCell ⟨w.heap.size + 1 + 1, 2, none⟩ (.slice (some ⟨B3, 0, none⟩) 2 2))) := set3_below hw3.out (by omega) _ _ _
  have TFN : Hid (TmC (((w3.setCell ⟨w.heap.size + 1 + 1, 0, none⟩ (.int .i64 3)).setCell ⟨w.heap.size + 1 + 1, 1, none⟩ (.int .i64 0)).setCell ⟨w.heap.size + 1 + 1, 2, none⟩ (.slice (some ⟨B3, 0, none⟩) 2 2)) (.mk 3 0 [f, a]) [.int .i64 3, .int .i64 0, .slice (some ⟨B3, 0, none⟩) 2 2]) :=
    hT _ (fun b hb => (set3_heap _ _ _ _ _ _ (by omega)).trans (hw3.out.block b hb)) (set3_heap _ _ _ _ _ _ (by omega))
  clear hT hb3 BX HBX HA TF
  go_wp2_with fail
  exact bodyPost_ret (v := .agg #[.int .i64 3, .int .i64 0, .slice (some ⟨B3, 0, none⟩) 2 2]) (by simp [results, Try.results65, go_sem, c0, c1, c2]) rfl ⟨_, _, rfl, TFN.out, BF.out⟩
end Go.Proofs.Ytackepdhcigdlaa
