import Derived.Test.YtackepdhcigdlaaTm27
namespace Go.Proofs.Ytackepdhcigdlaa
open Go.RowKit
theorem set3g_heap (w : World) (b k i j l : Nat) (u v x : Value) (h : k ≠ b) : (((w.setCell ⟨b, i, none⟩ u).setCell ⟨b, j, none⟩ v).setCell ⟨b, l, none⟩ x).heap[k]? = w.heap[k]? := by
  rw [Below.heap_setCell _ _ _ _ h, Below.heap_setCell _ _ _ _ h, Below.heap_setCell _ _ _ _ h]
theorem put_at {cur : Array Value} {j : Nat} {u v x : Value} (h : j * 3 + 2 < cur.size) :
    let c := ((cur.setIfInBounds (j * 3) u).setIfInBounds (j * 3 + 1) v).setIfInBounds (j * 3 + 2) x
    c.size = cur.size ∧ (c[j * 3]! = u ∧ c[j * 3 + 1]! = v ∧ c[j * 3 + 2]! = x) ∧ ∀ i, i ≠ j → c[i * 3]! = cur[i * 3]! ∧ c[i * 3 + 1]! = cur[i * 3 + 1]! ∧ c[i * 3 + 2]! = cur[i * 3 + 2]! := by
  intro c
  have hg : ∀ m : Nat, c[m]? = if m = j * 3 + 2 then some x else if m = j * 3 + 1 then some v else if m = j * 3 then some u else cur[m]? := by
    intro m
    simp only [c, Array.getElem?_setIfInBounds, Array.size_setIfInBounds]
    (repeat' split) <;> first | rfl | (exfalso; omega)
  refine ⟨by simp [c], ⟨?_, ?_, ?_⟩, fun i hi => ⟨?_, ?_, ?_⟩⟩
  · rw [getElem!_def, hg, if_neg (by omega), if_neg (by omega), if_pos rfl]
  · rw [getElem!_def, hg, if_neg (by omega), if_pos rfl]
  · rw [getElem!_def, hg, if_pos rfl]
  · rw [getElem!_def, getElem!_def, hg, if_neg (by omega), if_neg (by omega), if_neg (by omega)]
  · rw [getElem!_def, getElem!_def, hg, if_neg (by omega), if_neg (by omega), if_neg (by omega)]
  · rw [getElem!_def, getElem!_def, hg, if_neg (by omega), if_neg (by omega), if_neg (by omega)]
set_option maxRecDepth 100000 in
set_option maxHeartbeats 2000000 in
theorem spoil_any (S : Nat → Prop) (lo : Nat) (hlo : ∀ b, S b → lo ≤ b) : ∀ (d : Nat) (cs : List Value) (w : World), SpD S w d cs → (∀ b, S b → b < w.heap.size) → lo ≤ w.heap.size →
    Calls Try.prog 30 #[.agg cs.toArray] w fun e w' => e = .returned (.tuple #[]) ∧ Below lo w w' ∧ (∀ b, b < w.heap.size → ¬ S b → w'.heap[b]? = w.heap[b]?) ∧ (∀ d cs, SpD S w d cs → SpD S w' d cs) := by
  intro d
  induction d with
  | zero => intro cs w h; simp only [SpD] at h
  | succ d ih =>
    intro cs w h hS hl
    have h0 := h
    simp only [SpD] at h
    obtain ⟨k, n, a, len, cap, rfl, hm, hr⟩ := h
    have hlen : len ≤ 9223372036854775807 := by unfold maxLen at hm; omega
    go_enter Try.func30, Try.ntmps30
    go_wp2_with fail
    go_loopw [2] (fun i wr => ∃ j : Nat, j ≤ len ∧ i = .int .i64 j ∧ Box3 wr w.heap.size (.int .i64 k) (.int .i64 n) (.slice a len cap) ∧ Below lo w wr ∧ (∀ b, b < w.heap.size → ¬ S b → wr.heap[b]? = w.heap[b]?) ∧ (∀ d cs, SpD S w d cs → SpD S wr d cs)) (fun i _ => len - (intOf i).toNat)
    case atStart => exact ⟨0, Nat.zero_le _, rfl, Box3.new _ _ _ _, (Below.refl _ _).alloc hl _, fun b hb _ => ((Below.refl _ _).alloc (Nat.le_refl _) _).block b hb, fun d cs h => SpD.move (fun b hb => ((Below.refl _ _).alloc (Nat.le_refl _) _).block b (hS b hb)) d cs h⟩
    case round =>
      obtain ⟨j, hj, rfl, BX, hb, hF, hK⟩ := hrel
      obtain ⟨c0, c1, c2⟩ := BX.cells
      by_cases hlt : j < len
      · have hw := hK _ _ h0
        simp only [SpD] at hw
        obtain ⟨k', n', a', len', cap', he, _, hr'⟩ := hw
        simp only [List.cons.injEq, Value.int.injEq, Value.slice.injEq, true_and, and_true] at he
        obtain ⟨rfl, rfl, rfl, rfl, rfl⟩ := he
        obtain ⟨b, cur, rfl, hSb, hB, hsz, hi⟩ := hr' (by omega)
        have hij := hi j hlt
        obtain ⟨d', rfl⟩ : ∃ d', d = d' + 1 := by
          cases d with
          | zero => simp only [SpD] at hij
          | succ d' => exact ⟨d', rfl⟩
        have hij0 := hij
        simp only [SpD] at hij
        obtain ⟨k1, n1, a1, l1, p1, he, _, _⟩ := hij
        simp only [List.cons.injEq, and_true] at he
        obtain ⟨e0, e1, e2⟩ := he
        have cc : ∀ i x, i < cur.size → cur[i]! = x → wr.cell? ⟨b, i, none⟩ = some x := by
          intro i x hix hx
          have e : cur = cur.toList.toArray := rfl
          rw [e] at hB
          rw [cell_of_row wr b _ _ 24 (0, 0) hB, ← hx, getElem!_def]
          simp [hix]
        have z0 := cc _ _ (by omega) e0
        have z1 := cc _ _ (by omega) e1
        have z2 := cc _ _ (by omega) e2
        rw [e0, e1, e2] at hij0
        have HR := Lib.hid hr
        have HH := Lib.hid h0
        have HBX := Lib.hid BX
        have HLT := Lib.hid hlt
        clear hr h0 hr' hi e0 e1 e2 cc
        go_wp2_with fail
        refine (ih _ _ hij0 (fun b hb' => Nat.lt_of_lt_of_le (hS b hb') (by have := BX.lt; omega)) (Nat.le_trans hl (by have := BX.lt; omega))).mono ?_
        rintro e w2 ⟨rfl, hb2, hF2, hK2⟩
        have hlt2 := HBX.out.lt
        have hNS : ¬ S w.heap.size := fun h => Nat.lt_irrefl _ (hS _ h)
        have BX2 : Box3 w2 w.heap.size (.int .i64 k) (.int .i64 n) (.slice (some ⟨b, 0, none⟩) len cap) := (hF2 _ hlt2 hNS).trans HBX.out
        have hw := hK2 _ _ (hK _ _ HH.out)
        simp only [SpD] at hw
        obtain ⟨k', n', a', len', cap', he, _, hr'⟩ := hw
        simp only [List.cons.injEq, Value.int.injEq, Value.slice.injEq, true_and, and_true] at he
        obtain ⟨rfl, rfl, rfl, rfl, rfl⟩ := he
        obtain ⟨b', cur2, he', _, hB2, hsz2, hi2⟩ := hr' (by have := HLT.out; omega)
        simp only [Option.some.injEq, Addr.mk.injEq, and_true] at he'
        subst he'
        have cc : ∀ i, i < cur2.size → ∃ x, w2.cell? ⟨b, i, none⟩ = some x := by
          intro i hix
          have e : cur2 = cur2.toList.toArray := rfl
          rw [e] at hB2
          exact ⟨cur2[i], by rw [cell_of_row w2 b _ _ 24 (0, 0) hB2]; simp [hix]⟩
        have hjl := HLT.out
        obtain ⟨x0, q0⟩ := cc (j * 3) (by omega)
        obtain ⟨x1, q1⟩ := cc (j * 3 + 1) (by omega)
        obtain ⟨x2, q2⟩ := cc (j * 3 + 2) (by omega)
        have fz : ∀ i, w2.frozen? ⟨b, i, none⟩ = false := by
          intro i; unfold World.frozen?; rw [hB2]; simp
        have f0 := fz (j * 3)
        have f1 := fz (j * 3 + 1)
        have f2 := fz (j * 3 + 2)
        obtain ⟨c0, c1, c2⟩ := BX2.cells
        have HB2 := Lib.hid hB2
        have HI2 := Lib.hid hi2
        clear fz cc hr' hi2 hB2 z0 z1 z2
        have PUT := Lib.hid (put_at (cur := cur2) (j := j) (u := .int .i64 (-7)) (v := .int .i64 (-7)) (x := .slice none 0 0) (by omega))
        have hNB : w.heap.size ≠ b := fun e => hNS (e ▸ hSb)
        go_wp2_with fail
        go_roundw
        case rel =>
          refine ⟨j + 1, hjl, by simp, (set3g_heap _ _ _ _ _ _ _ _ _ hNB).trans BX2, (((hb.trans hb2).setCell (p := ⟨b, j * 3, none⟩) (hlo b hSb) _).setCell (p := ⟨b, j * 3 + 1, none⟩) (hlo b hSb) _).setCell (p := ⟨b, j * 3 + 2, none⟩) (hlo b hSb) _, fun b1 h1 h2 => ?_, fun d cs h => ?_⟩
          · have hb1 : b1 ≠ b := fun e => h2 (e ▸ hSb)
            exact (set3g_heap _ _ _ _ _ _ _ _ _ hb1).trans ((hF2 b1 (Nat.lt_trans h1 hlt2) h2).trans (hF b1 h1 h2))
          · exact SpD.put HB2.out (set_block (set_block (set_block HB2.out _ _) _ _) _ _) PUT.out.1 PUT.out.2.1 PUT.out.2.2 (fun b1 h1 _ => set3g_heap _ _ _ _ _ _ _ _ _ h1) d cs (hK2 _ _ (hK _ _ h))
        case measure => simp [intOf]; omega
      · obtain rfl : j = len := by omega
        go_wp2_with fail
        exact bodyPost_end (v := .tuple #[]) (by simp [results, Try.results30, go_sem]) rfl ⟨rfl, hb, hF, hK⟩
end Go.Proofs.Ytackepdhcigdlaa
