import Derived.Test.YtackepdhcigdlaaTm45
namespace Go.Proofs.Ytackepdhcigdlaa
open Go.RowKit
theorem contains_take (l : List Int) (n : Int) (k : Nat) (h : k < l.length) : (l.take (k + 1)).contains n = ((l.take k).contains n || l[k] == n) := by
  rw [List.take_succ_eq_append_getElem h, List.contains_append]
  congr 1
  rw [List.contains_cons]
  simp [Bool.beq_comm]
set_option maxRecDepth 100000 in
set_option maxHeartbeats 2000000 in
theorem rstands_any (t : Tm) (cs : List Value) (d : Int) (w : World) (hnd : ndT t ≤ 20000) (ht : TmC w t cs) :
    Calls Try.prog 72 #[.agg cs.toArray, .int .i64 d] w fun e w' => e = .returned (.bool (stT t d)) ∧ Below w.heap.size w w' := by
  have ht0 := ht
  obtain ⟨a, cap, rfl, hsub, hlen⟩ := tm_open ht
  have hA : Below w.heap.size w (w.alloc (.cells #[.int .i64 t.kind, .int .i64 t.num, .slice a t.sub.length cap] 24)) := (Below.refl _ _).alloc (Nat.le_refl _) _
  have NM := Lib.hid (numbers_any 6 7 t _ _ hnd (ht0.later hA))
  have hnl := nm_len 6 7 t
  have RES : Hid (∀ b, (nmT 6 7 t).contains d = b → b = stT t d) := by
    intro b hb
    rw [← hb, Bool.eq_iff_iff, List.contains_iff_mem, nm_stands]
  have HA := Lib.hid hA
  clear hsub ht ht0 hA
  generalize nmT 6 7 t = N at *
  have hNL : N.length ≤ 9223372036854775807 := by omega
  go_enter Try.func72, Try.ntmps72
  go_wp2_with fail
  refine NM.out.mono ?_
  rintro e w1 ⟨u, c, rfl, hS, hb1⟩
  have HW := Lib.hid (HA.out.trans (hb1.mono HA.out.size))
  clear NM hb1
  go_wp2_with fail
  go_loopw [6] (fun i wr => ∃ (k : Nat), k ≤ N.length ∧ i = .int .i64 k ∧ Hid ((N.take k).contains d = false) ∧ w1 = wr) (fun i _ => N.length - (intOf i).toNat)
  case atStart => exact ⟨0, Nat.zero_le _, rfl, rfl, rfl⟩
  case round =>
    obtain ⟨k, hk, rfl, hno, rfl⟩ := hrel
    by_cases hlt : k < N.length
    · obtain ⟨b, off, rfl, hc⟩ := slc_at hS (Below.refl _ _) k (by simpa using hlt)
      rw [List.getElem_map] at hc
      have hct := contains_take N d k hlt
      rw [hno.out, Bool.false_or] at hct
      have HCT := Lib.hid hct
      have hi0 : (0 : Int) ≤ k := by omega
      have hi1 : (k : Int) < N.length := by omega
      clear hct
      cases hq : (N[k] == d) with
      | true =>
        have F : Hid (true = stT t d) := by
          refine RES.out true ?_
          have h := HCT.out
          rw [hq] at h
          rw [List.contains_iff_mem] at h ⊢
          exact List.mem_of_mem_take h
        go_wp2_with fail
        go_ret
        exact ⟨ret_bool F.out, HW.out⟩
      | false =>
        have G : Hid ((N.take (k + 1)).contains d = false) := HCT.out.trans hq
        go_wp2_with fail
        go_roundw
        case rel => exact ⟨k + 1, hlt, by simp, G.out, trivial⟩
        case measure => simp [intOf]; omega
    · obtain rfl : k = N.length := by omega
      have F : Hid (false = stT t d) := by
        refine RES.out false ?_
        have h := hno.out
        rw [List.take_length] at h
        exact h
      go_wp2_with fail
      go_ret
      exact ⟨ret_bool F.out, HW.out⟩
set_option maxRecDepth 100000 in
set_option maxHeartbeats 2000000 in
theorem rbeneath_any (t : Tm) (la : List Tm) (b : Tm) (cs : List Value) (w : World) (hg : goodB t = true) (hpi : t = piT la b) (hb3 : b.kind ≠ 3) (ht : TmC w t cs) :
    Calls Try.prog 80 #[.agg cs.toArray] w fun e w' => ∃ (k n : Int) (a : Option Addr) (len cap : Nat), e = .returned (.agg #[.int .i64 k, .int .i64 n, .slice a len cap]) ∧ TmC w' b [.int .i64 k, .int .i64 n, .slice a len cap] ∧ Below w.heap.size w w' := by
  have ht0 := ht
  obtain ⟨a, cap, rfl, hsub, hlen⟩ := tm_open ht
  have BX0 : Hid (Box3 ((w.alloc (.cells #[.int .i64 t.kind, .int .i64 t.num, .slice a t.sub.length cap] 24)).alloc (.cells #[.int .i64 0, .int .i64 0, .slice none 0 0] 24)) w.heap.size (.int .i64 t.kind) (.int .i64 t.num) (.slice a t.sub.length cap)) :=
    (Box3.new w _ _ _).later ((Below.refl _ _).alloc (Nat.le_refl _) _) (by simp)
  have BX1 : Hid (Box3 ((w.alloc (.cells #[.int .i64 t.kind, .int .i64 t.num, .slice a t.sub.length cap] 24)).alloc (.cells #[.int .i64 0, .int .i64 0, .slice none 0 0] 24)) (w.heap.size + 1) (.int .i64 0) (.int .i64 0) (.slice none 0 0)) := by
    have h := Box3.new (w.alloc (.cells #[.int .i64 t.kind, .int .i64 t.num, .slice a t.sub.length cap] 24)) (.int .i64 0) (.int .i64 0) (.slice none 0 0)
    simp at h
    exact h
  have hd : Hid (Below w.heap.size w ((w.alloc (.cells #[.int .i64 t.kind, .int .i64 t.num, .slice a t.sub.length cap] 24)).alloc (.cells #[.int .i64 0, .int .i64 0, .slice none 0 0] 24))) := ((Below.refl _ _).alloc (Nat.le_refl _) _).alloc (by simp) _
  have HT := Lib.hid ht0
  have HPI := Lib.hid hpi
  have HG := Lib.hid hg
  clear ht0 hpi hg ht hsub
  go_enter Try.func80, Try.ntmps80
  go_wp2_with fail
  go_loopg [3] la.length (fun g _ wr => ∃ (x : Tm) (xs : List Tm) (k n : Int) (a : Option Addr) (len cap : Nat), g = xs.length ∧ Hid (x = piT xs b) ∧ Hid (goodB x = true) ∧ Hid (TmC w x [.int .i64 k, .int .i64 n, .slice a len cap]) ∧
      Box3 wr w.heap.size (.int .i64 k) (.int .i64 n) (.slice a len cap) ∧ Hid (Box3 wr (w.heap.size + 1) (.int .i64 0) (.int .i64 0) (.slice none 0 0)) ∧ Hid (Below w.heap.size w wr))
  case atStart => exact ⟨t, la, _, _, _, _, _, rfl, HPI.out, HG.out, HT.out, BX0.out, BX1.out, hd.out⟩
  case round =>
    obtain ⟨x, xs, k, n, a1, len, cap1, hgk, HX0, HGX, HX, BX, BR, hbel⟩ := hrel
    obtain ⟨c0, c1, c2⟩ := BX.cells
    obtain ⟨ax, capx, hex, hsubx, hlx⟩ := tm_open HX.out
    simp only [List.cons.injEq, Value.int.injEq, true_and, and_true, Value.slice.injEq] at hex
    obtain ⟨rfl, rfl, rfl, rfl, rfl⟩ := hex
    cases xs with
    | nil =>
      obtain rfl : x = b := HX0.out
      have hd3 : (x.kind == 3) = false := by rw [beq_eq_false_iff_ne]; exact hb3
      have BRo := BR.out
      obtain ⟨q0, q1, q2⟩ := BRo.cells
      have f0 := BRo.free 0
      have f1 := BRo.free 1
      have f2 := BRo.free 2
      clear BRo BX
      go_wp2_with fail
      have hF := set3_below (B := w.heap.size + 1) hbel.out (by omega) (.int .i64 x.kind) (.int .i64 x.num) (.slice a1 x.sub.length cap1)
      exact bodyPost_ret (v := .agg #[.int .i64 x.kind, .int .i64 x.num, .slice a1 x.sub.length cap1]) (by simp [results, Try.results80, go_sem, q0, q1, q2]) rfl ⟨x.kind, x.num, a1, x.sub.length, cap1, rfl, HX.out.later hF, hF⟩
    | cons a0 la1 =>
      obtain rfl : x = .mk 3 0 [a0, piT la1 b] := HX0.out
      obtain ⟨-, hgs⟩ := good_parts HGX.out
      have HGY := Lib.hid (hgs (piT la1 b) (by simp))
      clear hgs
      simp only [Tm.kind, Tm.num, Tm.sub, List.length_cons, List.length_nil, Nat.zero_add, Nat.reduceAdd] at c0 c1 c2 HX BX hsubx hlx hgk
      obtain ⟨bb, off, a', cap', rfl, e0, e1, e2, hty⟩ := sub_at (ts := [a0, piT la1 b]) hsubx (Below.refl _ _) 1 (by simp)
      have hbl : bb < w.heap.size := World.block_lt_of_cell? w _ e0
      simp only [List.getElem_cons_zero, List.getElem_cons_succ, Nat.one_mul] at hty e0 e1 e2
      replace e0 := (hbel.out.cell hbl).trans e0
      replace e1 := (hbel.out.cell hbl).trans e1
      replace e2 := (hbel.out.cell hbl).trans e2
      have HY : Hid (piT la1 b = piT la1 b) := rfl
      have g0 := BX.free 0
      have g1 := BX.free 1
      have g2 := BX.free 2
      have HBX := Lib.hid BX
      have HTY := Lib.hid hty
      clear BX hsubx HX hty
      go_wp2_with fail
      go_roundg la1.length
      case measure => omega
      case rel =>
        refine ⟨piT la1 b, la1, (piT la1 b).kind, (piT la1 b).num, a', (piT la1 b).sub.length, cap', rfl, rfl, HGY.out, HTY.out, HBX.out.set _ _ _, ?_, set3_below hbel.out (Nat.le_refl _) _ _ _⟩
        show Box3 _ _ _ _ _
        unfold Box3
        rw [set3_heap _ _ _ _ _ _ (by omega)]
        exact BR.out
end Go.Proofs.Ytackepdhcigdlaa
