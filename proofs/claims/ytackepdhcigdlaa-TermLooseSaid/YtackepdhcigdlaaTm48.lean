import Derived.Test.YtackepdhcigdlaaTm47
namespace Go.Proofs.Ytackepdhcigdlaa
open Go.RowKit
theorem appL_ge (p b : Int) : ∀ (l : List Tm) (k : Nat), p ≤ k → appL p b l k = true
  | [], _, _ => rfl
  | a :: l, k, h => by
    simp only [appL]
    rw [appL_ge p b l (k + 1) (by omega), decide_eq_false (by omega)]
    rfl
set_option maxRecDepth 100000 in
set_option maxHeartbeats 4000000 in
theorem rapplied_any (t h : Tm) (m : List Tm) (cs : List Value) (d p i b : Int) (w : World) (hg : goodB t = true) (hh : hgT t ≤ 128) (h5 : h.kind ≠ 5) (hap : applyT h m = t) (hp0 : 0 ≤ p) (hp1 : p ≤ 24) (hi0 : 0 ≤ i) (hi1 : i ≤ 24) (hb0 : -10 ≤ b) (hb1 : b ≤ 2000000) (ht : TmC w t cs) :
    Calls Try.prog 81 #[.agg cs.toArray, .int .i64 d, .int .i64 p, .int .i64 i, .int .i64 b] w fun e w' => e = .returned (.bool (appV h m d p i b)) ∧ Below w.heap.size w w' := by
  have ht0 := ht
  obtain ⟨a, cap, rfl, hsub, hlen⟩ := tm_open ht
  have hA : Below w.heap.size w (w.alloc (.cells #[.int .i64 t.kind, .int .i64 t.num, .slice a t.sub.length cap] 24)) := (Below.refl _ _).alloc (Nat.le_refl _) _
  have hm128 : m.length ≤ 128 := by have := spine_hg (x := h) (l := m); rw [hap] at this; omega
  have AR := Lib.hid (rargs2_any t [] _ w _ hA hh hg ht0)
  have HDD : Hid (∀ wz, Below w.heap.size w wz → Calls Try.prog 33 #[.agg #[.int .i64 t.kind, .int .i64 t.num, .slice a t.sub.length cap]] wz fun e w' => ∃ (h : Tm) (l : List Tm) (k n : Int) (a : Option Addr) (len cap : Nat), e = .returned (.agg #[.int .i64 k, .int .i64 n, .slice a len cap]) ∧
      h.kind ≠ 5 ∧ applyT h l = t ∧ TmC w' h [.int .i64 k, .int .i64 n, .slice a len cap] ∧ Below wz.heap.size wz w') := fun wz hz => rhead2_any t _ wz hg hh (ht0.later hz)
  have HAP := Lib.hid hap
  have BX0 : Hid (Box3 (w.alloc (.cells #[.int .i64 t.kind, .int .i64 t.num, .slice a t.sub.length cap] 24)) w.heap.size (.int .i64 t.kind) (.int .i64 t.num) (.slice a t.sub.length cap)) := Box3.new w _ _ _
  clear hsub ht ht0 hg hap
  have HA := Lib.hid hA
  clear hA
  go_enter Try.func81, Try.ntmps81
  go_wp2_with fail
  refine AR.out.mono ?_
  rintro e w1 ⟨h', m', css, am, cm, rfl, h5', hap', hown, hTm, hb1⟩
  obtain ⟨rfl, rfl⟩ := spine_uniq _ m m' h h' rfl h5 h5' (by rw [HAP.out, hap'])
  have HW1 := Lib.hid (HA.out.trans (hb1.mono HA.out.size))
  have hS := SlN.own hown hTm.length (fun c hc => (tmcs_cs3 hTm c hc).three)
  have HTM : Hid (TmS w1 (.slice am m.length cm) m) := ⟨css, hS, hTm.later HW1.out⟩
  have BX1 := BX0.out.later hb1 (by simp)
  obtain ⟨c0, c1, c2⟩ := BX1.cells
  clear hS hown hTm AR BX1 BX0 hb1
  go_wp2_with fail
  refine (HDD.out _ HW1.out).mono ?_
  rintro e w2 ⟨h', m', k1, n1, a1, len1, cap1, rfl, h5', hap', hTh, hb2⟩
  obtain ⟨rfl, rfl⟩ := spine_uniq _ m m' h h' rfl h5 h5' (by rw [HAP.out, hap'])
  obtain ⟨x1, x2, hex, -, -⟩ := tm_open hTh
  simp only [List.cons.injEq, Value.int.injEq, true_and, and_true, Value.slice.injEq] at hex
  obtain ⟨rfl, rfl, rfl, rfl, rfl⟩ := hex
  have hA2 : Below w2.heap.size w2 (w2.alloc (.cells #[.int .i64 h.kind, .int .i64 h.num, .slice a1 h.sub.length cap1] 24)) := (Below.refl _ _).alloc (Nat.le_refl _) _
  have h12 := hb2.trans (hA2.mono hb2.size)
  have HB := Lib.hid (HW1.out.trans (h12.mono HW1.out.size))
  have HTM2 : Hid (TmS (w2.alloc (.cells #[.int .i64 h.kind, .int .i64 h.num, .slice a1 h.sub.length cap1] 24)) (.slice am m.length cm) m) := HTM.out.later h12
  have HTM := HTM2
  clear HTM2 HDD h12 hb2 hA2 hTh c0 c1 c2 HAP
  have HV : Hid (appV h m d p i b = (h.kind == 6 && h.num == d && ((m.length : Int) == p + i) && appL p b m 0)) := rfl
  have e1 : (h.kind != 6) = !(h.kind == 6) := rfl
  have e2 : (h.num != d) = !(h.num == d) := rfl
  have e3 : ((m.length : Int) != p + i) = !((m.length : Int) == p + i) := rfl
  cases c1 : (h.kind == 6) with
  | false =>
    rw [c1] at HV e1
    go_wp2_with fail
    go_ret
    exact ⟨ret_bool (by rw [HV.out]; rfl), HB.out⟩
  | true =>
    cases c2 : (h.num == d) with
    | false =>
      rw [c1, c2] at HV
      rw [c1] at e1
      rw [c2] at e2
      go_wp2_with fail
      go_ret
      exact ⟨ret_bool (by rw [HV.out]; rfl), HB.out⟩
    | true =>
      cases c3 : ((m.length : Int) == p + i) with
      | false =>
        rw [c1, c2, c3] at HV
        rw [c1] at e1
        rw [c2] at e2
        rw [c3] at e3
        go_wp2_with fail
        go_ret
        exact ⟨ret_bool (by rw [HV.out]; rfl), HB.out⟩
      | true =>
        rw [c1, c2, c3] at HV
        rw [c1] at e1
        rw [c2] at e2
        rw [c3] at e3
        have HV2 : Hid (appV h m d p i b = appL p b m 0) := HV
        have hml : (m.length : Int) = p + i := by rw [beq_iff_eq] at c3; exact c3
        have HML := Lib.hid hml
        clear hml
        go_wp2_with fail
        clear e1 e2 e3 c1 c2 c3 HV
        generalize (w2.alloc (.cells #[.int .i64 h.kind, .int .i64 h.num, .slice a1 h.sub.length cap1] 24)) = wB at *
        go_loopw [13] (fun i' wr => ∃ (k : Nat), (k : Int) ≤ p ∧ i' = .int .i64 k ∧ Hid (appL p b (m.drop k) k = appL p b m 0) ∧ wr = wB) (fun i' _ => 24 - (intOf i').toNat)
        case atStart => exact ⟨0, by simpa using hp0, rfl, rfl, rfl⟩
        case round =>
          obtain ⟨k, hk, rfl, hs, rfl⟩ := hrel
          by_cases hlt : (k : Int) < p
          · have hkm : k < m.length := by have := HML.out; omega
            obtain ⟨bb, off, a', cap', rfl, e0, e1', e2', hts⟩ := sub_at HTM.out (Below.refl _ _) k hkm
            have hst : Hid (appL p b (m.drop k) k = (!(decide ((k : Int) < p) && (m[k].kind != 1 || m[k].num != b - 1 - k)) && appL p b (m.drop (k + 1)) (k + 1))) := by
              show _ = _
              rw [List.drop_eq_getElem_cons hkm]
              simp only [appL]
            have FAIL : Hid ((!(m[k].kind != 1 || m[k].num != b - 1 - k)) = false → false = appV h m d p i b) := fun hh => by rw [HV2.out, ← hs.out, hst.out, decide_eq_true hlt, Bool.true_and, hh]; rfl
            have GO : Hid ((!(m[k].kind != 1 || m[k].num != b - 1 - k)) = true → appL p b (m.drop (k + 1)) (k + 1) = appL p b m 0) := fun hh => by rw [← hs.out, hst.out, decide_eq_true hlt, Bool.true_and, hh]; rfl
            have hi0' : (0 : Int) ≤ k := by omega
            have hi1' : (k : Int) < m.length := by omega
            clear hts hst hs
            generalize m[k] = x at *
            cases q1 : (x.kind != 1) with
            | true =>
              have F := Lib.hid (FAIL.out (by rw [q1]; rfl))
              go_wp2_with fail
              go_ret
              exact ⟨ret_bool F.out, HB.out⟩
            | false =>
              cases q2 : (x.num != b - 1 - k) with
              | true =>
                have F := Lib.hid (FAIL.out (by rw [q1, q2]; rfl))
                go_wp2_with fail
                go_ret
                exact ⟨ret_bool F.out, HB.out⟩
              | false =>
                have G := Lib.hid (GO.out (by rw [q1, q2]; rfl))
                go_wp2_with fail
                go_roundw
                case rel => exact ⟨k + 1, by omega, by simp, G.out, trivial⟩
                case measure => simp [intOf]; omega
          · have fin : Hid (true = appV h m d p i b) := by
              show _ = _
              rw [HV2.out, ← hs.out, appL_ge _ _ _ _ (by omega)]
            go_wp2_with fail
            go_ret
            exact ⟨ret_bool fin.out, HB.out⟩
end Go.Proofs.Ytackepdhcigdlaa
