import Derived.Test.YtackepdhcigdlaaTm28
namespace Go.Proofs.Ytackepdhcigdlaa
open Go.RowKit
set_option maxRecDepth 100000 in
set_option maxHeartbeats 4000000 in
theorem copies_law (t : Tm) (cs : List Value) (w : World) (ht : TmC w t cs) :
    Calls Try.prog 6 #[.agg cs.toArray] w fun e w' => e = .returned (.bool true) ∧ Below w.heap.size w w' := by
  have ht0 := ht
  obtain ⟨a, cap, rfl, hsub, hlen⟩ := tm_open ht
  clear hsub ht
  have hd : Below w.heap.size w (w.alloc (.cells #[.int .i64 t.kind, .int .i64 t.num, .slice a t.sub.length cap] 24)) := (Below.refl _ _).alloc (Nat.le_refl _) _
  have BX := Box3.new w (.int .i64 t.kind) (.int .i64 t.num) (.slice a t.sub.length cap)
  go_enter Try.func6, Try.ntmps6
  go_wp2_with fail
  refine (copy_any t _ _ (ht0.later hd)).mono ?_
  rintro e w1 ⟨k1, n1, a1, l1, p1, rfl, hb1, hsh, hun⟩
  have hw1 := hd.trans (hb1.mono hd.size)
  have hW : Below w.heap.size w (w1.alloc (.cells #[.int .i64 k1, .int .i64 n1, .slice a1 l1 p1] 24)) := hw1.alloc hw1.size _
  have hC := Box3.new w1 (.int .i64 k1) (.int .i64 n1) (.slice a1 l1 p1)
  have hA1 : Below w1.heap.size w1 (w1.alloc (.cells #[.int .i64 k1, .int .i64 n1, .slice a1 l1 p1] 24)) := (Below.refl _ _).alloc (Nat.le_refl _) _
  have BX := (BX.later hb1 BX.lt).later hA1 (BX.later hb1 BX.lt).lt
  obtain ⟨c0, c1, c2⟩ := BX.cells
  have HSH := Lib.hid hsh
  have HUN := Lib.hid hun
  clear hsh hun
  go_wp2_with fail
  refine (rshaped_any t _ _ (ht0.later hW)).mono ?_
  rintro e w2 ⟨rfl, hb2⟩
  have hw2 := hW.trans (hb2.mono hW.size)
  have hC := hC.later hb2 hC.lt
  have BX := BX.later hb2 BX.lt
  obtain ⟨q0, q1, q2⟩ := hC.cells
  clear c0 c1 c2
  by_cases hs : shapedB t = true
  · rw [hs]
    have HS := Lib.hid hs
    have hCl := HSH.out hs
    have hb12 : Below w1.heap.size w1 w2 := hA1.trans (hb2.mono hA1.size)
    have hTC2 : TmC w2 t [.int .i64 k1, .int .i64 n1, .slice a1 l1 p1] := (TmF.toC (ClT.toF _ _ hCl)).later hb12
    have HCL := Lib.hid hCl
    clear hs hCl
    go_wp2_with fail
    refine (copy_any t _ _ hTC2).mono ?_
    rintro e w3 ⟨k2, n2, a2, l2, p2, rfl, hb3, hsh2, -⟩
    have hD := Lib.hid (hsh2 HS.out)
    have hA3 : Below w3.heap.size w3 (w3.alloc (.cells #[.int .i64 k2, .int .i64 n2, .slice a2 l2 p2] 24)) := (Below.refl _ _).alloc (Nat.le_refl _) _
    have h24 : Below w2.heap.size w2 (w3.alloc (.cells #[.int .i64 k2, .int .i64 n2, .slice a2 l2 p2] 24)) := hb3.trans (hA3.mono hb3.size)
    have hw4 := hw2.trans (h24.mono hw2.size)
    have hC4 := hC.later h24 hC.lt
    have BX4 := Lib.hid (BX.later h24 BX.lt)
    have hDb := Box3.new w3 (.int .i64 k2) (.int .i64 n2) (.slice a2 l2 p2)
    have h14 : Below w1.heap.size w1 (w3.alloc (.cells #[.int .i64 k2, .int .i64 n2, .slice a2 l2 p2] 24)) := hb12.trans (h24.mono hb12.size)
    have s01 := hb1.size
    have s12 := hb12.size
    have s23 := hb3.size
    simp at s01
    obtain ⟨N, hN⟩ := ClT.toSp _ _ (ClT.move (S' := fun b => w.heap.size + 1 ≤ b ∧ b < w1.heap.size) (fun b hb => ⟨⟨by have := hb.1; simp at this; omega, hb.2⟩, h14.block b hb.2⟩) _ _ HCL.out)
    have HSP := Lib.hid (hN N (Nat.le_refl _))
    have HDB := Lib.hid hDb
    clear hN hsh2 hDb q0 q1 q2
    obtain ⟨q0, q1, q2⟩ := hC4.cells
    go_wp2_with fail
    refine (spoil_any (fun b => w.heap.size + 1 ≤ b ∧ b < w1.heap.size) (w.heap.size + 1) (fun b h => h.1) N _ _ HSP.out (fun b h => by have := h.2; simp; omega) (by simp; omega)).mono ?_
    rintro e w5 ⟨rfl, hb5, hF5, -⟩
    have hw5 := hw4.trans (hb5.mono (Nat.le_succ _))
    have BX5 : Box3 w5 w.heap.size (.int .i64 t.kind) (.int .i64 t.num) (.slice a t.sub.length cap) := (hF5 _ BX4.out.lt (by omega)).trans BX4.out
    have HD5 : Box3 w5 w3.heap.size (.int .i64 k2) (.int .i64 n2) (.slice a2 l2 p2) := (hF5 _ HDB.out.lt (by omega)).trans HDB.out
    have hT5 := Lib.hid (ht0.later hw5)
    have hD5 : Hid (TmC w5 t [.int .i64 k2, .int .i64 n2, .slice a2 l2 p2]) := TmF.toC (S := fun _ => True) (TmF.move (fun b hb => ⟨trivial, (hF5 b (by have := hb.2; simp; omega) (by omega)).trans (hA3.block b hb.2)⟩) _ _ (ClT.toF _ _ hD.out))
    obtain ⟨x0, x1, x2⟩ := BX5.cells
    obtain ⟨y0, y1, y2⟩ := HD5.cells
    clear q0 q1 q2
    go_wp2_with fail
    refine (requal_any t t _ _ _ hD5.out hT5.out).mono ?_
    rw [(eqT_iff _ _).2 rfl]
    rintro e w6 ⟨rfl, hb6⟩
    have hw6 := hw5.trans (hb6.mono hw5.size)
    clear hb6 x0 x1 x2 y0 y1 y2
    go_wp2_with fail
    refine (awake_any _).mono ?_
    rintro e w7 ⟨rfl, hb7⟩
    have hw7 := hw6.trans (hb7.mono hw6.size)
    go_wp2_with fail
    go_ret
    exact ⟨rfl, hw7⟩
  · have hs : shapedB t = false := by simpa using hs
    obtain ⟨rfl, rfl, rfl, rfl, rfl⟩ := HUN.out hs
    rw [hs]
    clear hs
    go_wp2_with fail
    refine (awake_any _).mono ?_
    rintro e w3 ⟨rfl, hb3⟩
    have hw3 := hw2.trans (hb3.mono hw2.size)
    go_wp2_with fail
    go_ret
    exact ⟨rfl, hw3⟩
end Go.Proofs.Ytackepdhcigdlaa
