import Derived.Test.YtackepdhcigdlaaTm36
namespace Go.Proofs.Ytackepdhcigdlaa
open Go.RowKit
/-- the document's application, whatever the cells; two blocks are kept -/
theorem two_later2 {B B2 : Nat} {t u : Tm} {x y z : Value} {ct cu : List Value} {wr : World} (BX : Box3 wr B x y z) (hB2 : B2 < wr.heap.size) (hT : TmF (fun b => b ≠ B ∧ b ≠ B2 ∧ b < wr.heap.size) wr t ct) (hU : TmF (fun b => b ≠ B ∧ b ≠ B2 ∧ b < wr.heap.size) wr u cu) :
    Hid (∀ w2, Below wr.heap.size wr w2 → Calls Try.prog 21 #[.int .i64 5, .agg ct.toArray, .agg cu.toArray] w2 fun e w3 => ∃ B3 : Nat, e = .returned (.agg #[.int .i64 5, .int .i64 0, .slice (some ⟨B3, 0, none⟩) 2 2]) ∧
      Box3 w3 B x y z ∧ Below wr.heap.size wr w3 ∧ TmF (fun b => b ≠ B ∧ b ≠ B2 ∧ b < w3.heap.size) w3 (.mk 5 0 [t, u]) [.int .i64 5, .int .i64 0, .slice (some ⟨B3, 0, none⟩) 2 2]) := by
  intro w2 hb
  have hl := BX.lt
  have hsz := hb.size
  refine (two_raw 5 t u ct cu w2 (hT.toC.later hb) (hU.toC.later hb)).mono ?_
  rintro e w3 ⟨rfl, hB, hb3⟩
  have hs3 := hb3.size
  have hlt : w2.heap.size + 3 < w3.heap.size := by
    obtain ⟨h1, _⟩ := Array.getElem?_eq_some_iff.1 hB; exact h1
  have hb03 : Below wr.heap.size wr w3 := hb.trans (hb3.mono hsz)
  have mv : ∀ b, (b ≠ B ∧ b ≠ B2 ∧ b < wr.heap.size) → (b ≠ B ∧ b ≠ B2 ∧ b < w3.heap.size) ∧ w3.heap[b]? = wr.heap[b]? := fun b h => ⟨⟨h.1, h.2.1, by omega⟩, hb03.block b h.2.2⟩
  refine ⟨_, rfl, BX.later hb03 hl, hb03, ?_⟩
  refine TmF.made (ts := [t, u]) (css := [ct, cu]) 5 0 ?_ (by show 2 ≤ maxLen; decide) ⟨by omega, by omega, hlt⟩ (by simpa using hB)
  simp only [TmFs]
  exact ⟨ct, _, rfl, TmF.move mv _ _ hT, cu, _, rfl, TmF.move mv _ _ hU, rfl⟩
set_option maxRecDepth 100000 in
set_option maxHeartbeats 2000000 in
theorem rapply_any (f : Tm) (cf : List Value) (l : List Tm) (v : Value) (w : World) (hf : TmC w f cf) (hl : TmS w v l) :
    Calls Try.prog 36 #[.agg cf.toArray, v] w fun e w' => ∃ (k n : Int) (a : Option Addr) (len cap : Nat), e = .returned (.agg #[.int .i64 k, .int .i64 n, .slice a len cap]) ∧ TmC w' (applyT f l) [.int .i64 k, .int .i64 n, .slice a len cap] ∧ Below w.heap.size w w' := by
  have hf0 := hf
  obtain ⟨a, cap, rfl, hsub, hlen⟩ := tm_open hf
  obtain ⟨al, cl, rfl, hl1, hl2, -⟩ := hl.open
  have hll : l.length ≤ 9223372036854775807 := by unfold maxLen at hl2; omega
  clear hsub hf
  have hF0 := TmC.toF _ _ hf0
  have hd : Below w.heap.size w ((w.alloc (.cells #[.int .i64 f.kind, .int .i64 f.num, .slice a f.sub.length cap] 24)).alloc (.cells #[.int .i64 0, .int .i64 0, .slice none 0 0] 24)) := ((Below.refl _ _).alloc (Nat.le_refl _) _).alloc (by simp) _
  have BX0 : Box3 ((w.alloc (.cells #[.int .i64 f.kind, .int .i64 f.num, .slice a f.sub.length cap] 24)).alloc (.cells #[.int .i64 0, .int .i64 0, .slice none 0 0] 24)) w.heap.size (.int .i64 f.kind) (.int .i64 f.num) (.slice a f.sub.length cap) :=
    (Box3.new w _ _ _).later ((Below.refl _ _).alloc (Nat.le_refl _) _) (by simp)
  have BR0 : Box3 ((w.alloc (.cells #[.int .i64 f.kind, .int .i64 f.num, .slice a f.sub.length cap] 24)).alloc (.cells #[.int .i64 0, .int .i64 0, .slice none 0 0] 24)) (w.heap.size + 1) (.int .i64 0) (.int .i64 0) (.slice none 0 0) := by
    have h := Box3.new (w.alloc (.cells #[.int .i64 f.kind, .int .i64 f.num, .slice a f.sub.length cap] 24)) (.int .i64 0) (.int .i64 0) (.slice none 0 0)
    simp at h
    exact h
  have hFW := TmF.move (S' := fun b => b ≠ w.heap.size ∧ b ≠ w.heap.size + 1 ∧ b < ((w.alloc (.cells #[.int .i64 f.kind, .int .i64 f.num, .slice a f.sub.length cap] 24)).alloc (.cells #[.int .i64 0, .int .i64 0, .slice none 0 0] 24)).heap.size) (fun b hb => ⟨⟨Nat.ne_of_lt hb, by have : b < w.heap.size := hb; omega, by have : b < w.heap.size := hb; simp; omega⟩, hd.block b hb⟩) _ _ hF0
  have hel : Hid (∀ (j : Nat) (hj : j < l.length) (wr : World), Below w.heap.size w wr → ∃ b off a' cap', al = some ⟨b, off, none⟩ ∧ b < w.heap.size ∧ wr.cell? ⟨b, off + j * 3, none⟩ = some (.int .i64 l[j].kind) ∧ wr.cell? ⟨b, off + j * 3 + 1, none⟩ = some (.int .i64 l[j].num) ∧
      wr.cell? ⟨b, off + j * 3 + 2, none⟩ = some (.slice a' l[j].sub.length cap') ∧ TmF (fun b => b < w.heap.size) wr l[j] [.int .i64 l[j].kind, .int .i64 l[j].num, .slice a' l[j].sub.length cap']) := by
    intro j hj wr hb
    obtain ⟨b, off, a', cap', e, e0, e1, e2, hts⟩ := sub_at hl (Below.refl _ _) j hj
    have hbl : b < w.heap.size := World.block_lt_of_cell? w _ e0
    exact ⟨b, off, a', cap', e, hbl, (hb.cell hbl).trans e0, (hb.cell hbl).trans e1, (hb.cell hbl).trans e2, TmF.move (fun b hb' => ⟨hb', hb.block b hb'⟩) _ _ (TmC.toF _ _ hts)⟩
  have HBX := Lib.hid BX0
  have HBR := Lib.hid BR0
  have HFW := Lib.hid hFW
  have HD := Lib.hid hd
  clear BX0 BR0 hFW hd hF0
  go_enter Try.func36, Try.ntmps36
  go_wp2_with fail
  go_loopw [5] (fun i wr => ∃ (j : Nat) (t : Tm) (k n : Int) (a : Option Addr) (len cap : Nat), j ≤ l.length ∧ i = .int .i64 j ∧ Box3 wr w.heap.size (.int .i64 k) (.int .i64 n) (.slice a len cap) ∧ Box3 wr (w.heap.size + 1) (.int .i64 0) (.int .i64 0) (.slice none 0 0) ∧
      TmF (fun b => b ≠ w.heap.size ∧ b ≠ w.heap.size + 1 ∧ b < wr.heap.size) wr t [.int .i64 k, .int .i64 n, .slice a len cap] ∧ Hid (applyT t (l.drop j) = applyT f l) ∧ Below w.heap.size w wr) (fun i _ => l.length - (intOf i).toNat)
  case atStart => exact ⟨0, f, _, _, _, _, _, Nat.zero_le _, rfl, HBX.out, HBR.out, HFW.out, rfl, HD.out⟩
  case round =>
    obtain ⟨j, t, k, n, a1, len, cap1, hj, rfl, BX, BR, hT, HA, hbel⟩ := hrel
    have hBR := BR.lt
    obtain ⟨c0, c1, c2⟩ := BX.cells
    by_cases hlt : j < l.length
    · obtain ⟨bb, off, a', cap', rfl, hbb, e0, e1, e2, hts⟩ := hel.out j hlt wr hbel
      have hU := TmF.move (S' := fun b => b ≠ w.heap.size ∧ b ≠ w.heap.size + 1 ∧ b < wr.heap.size) (fun b hb => ⟨⟨Nat.ne_of_lt hb, by have : b < w.heap.size := hb; omega, by have : b < w.heap.size := hb; omega⟩, rfl⟩) _ _ hts
      have H12 := two_later2 BX hBR hT hU
      have HBR2 := Lib.hid BR
      have HLT := Lib.hid hlt
      have HBE := Lib.hid hbel
      have hi0 : (0 : Int) ≤ j := by omega
      have hi1 : (j : Int) < l.length := by omega
      have hBl : Hid (w.heap.size < wr.heap.size) := by show _ < _; omega
      clear hU hT hts BR hbel BX
      go_wp2_with fail
      go_region_law
        (go_simp
         go_at_call 21
         refine (H12.out _ (Below.refl _ _).drew).mono ?_
         rintro e w3 ⟨B3, rfl, BX3, hb3, ht3⟩
         have g0 := BX3.free 0
         have g1 := BX3.free 1
         have g2 := BX3.free 2
         obtain ⟨q0, q1, q2⟩ := BX3.cells
         have HX3 := Lib.hid BX3
         have HT3 := Lib.hid ht3
         have HB3 := Lib.hid hb3
         clear BX3 ht3 hb3)
      all_goals
        have BR3 := Lib.hid (HBR2.out.later HB3.out hBR)
        clear c0 c1 c2 e0 e1 e2
        go_wp2_with fail
        go_roundw
        case rel =>
          have hlt := HLT.out
          refine ⟨j + 1, .mk 5 0 [t, l[j]], 5, 0, some ⟨B3, 0, none⟩, 2, 2, hlt, by simp, HX3.out.set _ _ _, ?_, ?_, ?_, ?_⟩
          · unfold Box3
            rw [set3_heap _ _ _ _ _ _ (by omega)]
            exact BR3.out
          · refine TmF.move (fun b hb => ?_) _ _ HT3.out
            rw [set3_size]
            exact ⟨hb, set3_heap _ _ _ _ _ _ hb.1⟩
          · have h := HA.out
            rw [List.drop_eq_getElem_cons hlt] at h
            exact h
          · exact set3_below (HBE.out.trans (HB3.out.mono HBE.out.size)) (Nat.le_refl _) _ _ _
        case measure => have := HLT.out; simp [intOf]; omega
    · obtain rfl : j = l.length := by omega
      obtain ⟨q0, q1, q2⟩ := BR.cells
      have f0 := BR.free 0
      have f1 := BR.free 1
      have f2 := BR.free 2
      have hres : Hid (∀ u v x, TmC (((wr.setCell ⟨w.heap.size + 1, 0, none⟩ u).setCell ⟨w.heap.size + 1, 1, none⟩ v).setCell ⟨w.heap.size + 1, 2, none⟩ x) (applyT f l) [.int .i64 k, .int .i64 n, .slice a1 len cap1]) := by
        intro u v x
        have h := HA.out
        rw [List.drop_eq_nil_of_le (Nat.le_refl _)] at h
        rw [← h]
        exact TmF.toC (S := fun _ => True) (TmF.move (fun b hb => ⟨trivial, set3_heap _ _ _ _ _ _ hb.2.1⟩) _ _ hT)
      have HBE := Lib.hid hbel
      clear hT hbel BX BR
      go_wp2_with fail
      exact bodyPost_ret (v := .agg #[.int .i64 k, .int .i64 n, .slice a1 len cap1]) (by simp [results, Try.results36, go_sem, q0, q1, q2]) rfl ⟨k, n, a1, len, cap1, rfl, hres.out _ _ _, set3_below HBE.out (by omega) _ _ _⟩
end Go.Proofs.Ytackepdhcigdlaa
