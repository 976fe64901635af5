import Derived.Test.YtackepdhcigdlaaTm37
namespace Go.Proofs.Ytackepdhcigdlaa
open Go.RowKit
set_option maxRecDepth 100000 in
set_option maxHeartbeats 4000000 in
theorem spines_law (t : Tm) (cs : List Value) (v : Value) (l : List Tm) (w : World) (ht : TmC w t cs) (hl : TmS w v l) :
    Calls Try.prog 7 #[.agg cs.toArray, v] w fun e w' => e = .returned (.bool true) ∧ Below w.heap.size w w' := by
  have ht0 := ht
  obtain ⟨a, cap, rfl, hsub, hlen⟩ := tm_open ht
  obtain ⟨al, cl, rfl, hl1, hl2, -⟩ := hl.open
  have hll : l.length ≤ 9223372036854775807 := by unfold maxLen at hl2; omega
  clear hsub ht
  have hd : Below w.heap.size w (w.alloc (.cells #[.int .i64 t.kind, .int .i64 t.num, .slice a t.sub.length cap] 24)) := (Below.refl _ _).alloc (Nat.le_refl _) _
  have BX := Lib.hid (Box3.new w (.int .i64 t.kind) (.int .i64 t.num) (.slice a t.sub.length cap))
  have HL := Lib.hid hl
  clear hl
  go_enter Try.func7, Try.ntmps7
  go_wp2_with fail
  refine (rshaped_any t _ _ (ht0.later hd)).mono ?_
  rintro e w1 ⟨rfl, hb1⟩
  have hw1 := hd.trans (hb1.mono hd.size)
  have BX1 := Lib.hid (BX.out.later hb1 BX.out.lt)
  have HT := Lib.hid ht0
  clear hb1 hd BX ht0
  cases hs : shapedB t with
  | false =>
    go_wp2_with fail
    refine (awake_any _).mono ?_
    rintro e w2 ⟨rfl, hb2⟩
    have hw2 := hw1.trans (hb2.mono hw1.size)
    go_wp2_with fail
    go_ret
    exact ⟨rfl, hw2⟩
  | true =>
    have HS := Lib.hid hs
    clear hs
    by_cases h20 : (20 : Int) < l.length
    · go_wp2_with fail
      refine (awake_any _).mono ?_
      rintro e w2 ⟨rfl, hb2⟩
      have hw2 := hw1.trans (hb2.mono hw1.size)
      go_wp2_with fail
      go_ret
      exact ⟨rfl, hw2⟩
    · go_wp2_with fail
      go_loopw [5] (fun i wr => ∃ (j : Nat), j ≤ l.length ∧ i = .int .i64 j ∧ Hid (Box3 wr w.heap.size (.int .i64 t.kind) (.int .i64 t.num) (.slice a t.sub.length cap)) ∧ Below w.heap.size w wr) (fun i _ => l.length - (intOf i).toNat)
      case atStart => exact ⟨0, Nat.zero_le _, rfl, BX1.out, hw1⟩
      case round =>
        obtain ⟨j, hj, rfl, BXr, hbel⟩ := hrel
        by_cases hlt : j < l.length
        · obtain ⟨bb, off, a', cap', rfl, e0, e1, e2, hts⟩ := sub_at HL.out hbel j hlt
          have HTS := Lib.hid hts
          clear hts
          go_wp2_with fail
          refine (rshaped_any _ _ _ HTS.out).mono ?_
          rintro e w3 ⟨rfl, hb3⟩
          have hw3 := hbel.trans (hb3.mono hbel.size)
          have BX3 := Lib.hid (BXr.out.later hb3 BXr.out.lt)
          clear hb3 e0 e1 e2 hbel BXr HTS
          cases hq : shapedB l[j] with
          | true =>
            go_wp2_with fail
            go_roundw
            case rel => exact ⟨j + 1, hlt, by simp, BX3.out, hw3⟩
            case measure => simp [intOf]; omega
          | false =>
            go_wp2_with fail
            refine (awake_any _).mono ?_
            rintro e w4 ⟨rfl, hb4⟩
            have hw4 := hw3.trans (hb4.mono hw3.size)
            go_wp2_with fail
            go_ret
            exact ⟨rfl, hw4⟩
        · obtain rfl : j = l.length := by omega
          obtain ⟨c0, c1, c2⟩ := BXr.out.cells
          have HBE := Lib.hid hbel
          clear hbel hw1 hlt
          go_wp2_with fail
          refine (spine_any t _ wr HS.out (HT.out.later HBE.out)).mono ?_
          rintro e w3 ⟨h, m, k, n, ah, lenh, caph, am, cm, rfl, hk5, hap, hTh, hTm, hb3⟩
          have hs3 := hb3.size
          have hA3 : Below w3.heap.size w3 (w3.alloc (.cells #[.int .i64 k, .int .i64 n, .slice ah lenh caph] 24)) := (Below.refl _ _).alloc (Nat.le_refl _) _
          have BX3 := Lib.hid ((BXr.out.later hb3 BXr.out.lt).later hA3 (Nat.lt_of_lt_of_le BXr.out.lt hs3))
          have BF3 := Lib.hid (Box3.new w3 (.int .i64 k) (.int .i64 n) (.slice ah lenh caph))
          have HW3 := Lib.hid ((HBE.out.trans (hb3.mono HBE.out.size)).trans (hA3.mono (Nat.le_trans HBE.out.size hs3)))
          have HTH := Lib.hid (hTh.later hA3)
          have HTM := Lib.hid (hTm.later hA3)
          have HP := Lib.hid hap
          have HK5 := Lib.hid hk5
          clear c0 c1 c2 hb3 hs3 hA3 hTh hTm hap hk5 BXr
          obtain ⟨c0, c1, c2⟩ := BX3.out.cells
          go_wp2_with fail
          refine (apply_any t _ l _ _ (HT.out.later HW3.out) (HL.out.later HW3.out)).mono ?_
          rintro e w4 ⟨ku, nu, au, lenu, capu, rfl, hTu, hb4⟩
          have hs4 := hb4.size
          have hA4 : Below w4.heap.size w4 (w4.alloc (.cells #[.int .i64 ku, .int .i64 nu, .slice au lenu capu] 24)) := (Below.refl _ _).alloc (Nat.le_refl _) _
          have h34 : Below (w3.alloc (.cells #[.int .i64 k, .int .i64 n, .slice ah lenh caph] 24)).heap.size (w3.alloc (.cells #[.int .i64 k, .int .i64 n, .slice ah lenh caph] 24)) (w4.alloc (.cells #[.int .i64 ku, .int .i64 nu, .slice au lenu capu] 24)) := hb4.trans (hA4.mono hs4)
          have BXF := Lib.hid (BX3.out.later h34 BX3.out.lt)
          have BFF := Lib.hid (BF3.out.later h34 BF3.out.lt)
          have BUF := Lib.hid (Box3.new w4 (.int .i64 ku) (.int .i64 nu) (.slice au lenu capu))
          have HWF := Lib.hid (HW3.out.trans (h34.mono HW3.out.size))
          have HTHF := Lib.hid (HTH.out.later h34)
          have HTMF := Lib.hid (HTM.out.later h34)
          have HTUF := Lib.hid (hTu.later hA4)
          have HTF := Lib.hid (HT.out.later HWF.out)
          have HLF := Lib.hid (HL.out.later HWF.out)
          clear c0 c1 c2 hb4 hs4 hA4 h34 hTu BX3 BF3 HW3 HTH HTM HBE
          go_wp2_with fail
          generalize w4.alloc (.cells #[.int .i64 ku, .int .i64 nu, .slice au lenu capu] 24) = wF at *
          generalize w3.heap.size = B3 at *
          generalize w4.heap.size = B4 at *
          have SF : Hid (∀ wz, Below wF.heap.size wF wz → wz.cell? ⟨w.heap.size, 0, none⟩ = some (.int .i64 t.kind) ∧ wz.cell? ⟨w.heap.size, 1, none⟩ = some (.int .i64 t.num) ∧ wz.cell? ⟨w.heap.size, 2, none⟩ = some (.slice a t.sub.length cap) ∧
              wz.cell? ⟨B3, 0, none⟩ = some (.int .i64 k) ∧ wz.cell? ⟨B3, 1, none⟩ = some (.int .i64 n) ∧ wz.cell? ⟨B3, 2, none⟩ = some (.slice ah lenh caph) ∧
              wz.cell? ⟨B4, 0, none⟩ = some (.int .i64 ku) ∧ wz.cell? ⟨B4, 1, none⟩ = some (.int .i64 nu) ∧ wz.cell? ⟨B4, 2, none⟩ = some (.slice au lenu capu)) := by
            intro wz hz
            obtain ⟨x0, x1, x2⟩ := (BXF.out.later hz BXF.out.lt).cells
            obtain ⟨y0, y1, y2⟩ := (BFF.out.later hz BFF.out.lt).cells
            obtain ⟨z0, z1, z2⟩ := (BUF.out.later hz BUF.out.lt).cells
            exact ⟨x0, x1, x2, y0, y1, y2, z0, z1, z2⟩
          have hD0 : Hid (Below wF.heap.size wF wF.drew) := (Below.refl _ _).drew
          have CHD : Hid (∀ wz, Below wF.heap.size wF wz → Calls Try.prog 33 #[.agg #[.int .i64 t.kind, .int .i64 t.num, .slice a t.sub.length cap]] wz fun e w' => ∃ (k n : Int) (a : Option Addr) (len cap : Nat), e = .returned (.agg #[.int .i64 k, .int .i64 n, .slice a len cap]) ∧ TmC w' h [.int .i64 k, .int .i64 n, .slice a len cap] ∧ Below wF.heap.size wF w') := by
            intro wz hz
            refine (rhead_any t _ wz HS.out (HTF.out.later hz)).mono ?_
            rintro e w' ⟨h', l', k', n', a', len', cap', rfl, h5', he', hT', hb'⟩
            obtain ⟨rfl, -⟩ := spine_uniq _ m l' h h' rfl HK5.out h5' (by rw [HP.out, he'])
            exact ⟨k', n', a', len', cap', rfl, hT', hz.trans (hb'.mono hz.size)⟩
          have CAR : Hid (∀ wz, Below wF.heap.size wF wz → Calls Try.prog 35 #[.agg #[.int .i64 t.kind, .int .i64 t.num, .slice a t.sub.length cap]] wz fun e w' => ∃ (al : Option Addr) (cl : Nat), e = .returned (.slice al m.length cl) ∧ TmS w' (.slice al m.length cl) m ∧ Below wF.heap.size wF w') := by
            intro wz hz
            refine (rargs_any t [] _ wz wz (Below.refl _ _) HS.out (by have h := HS.out; simp only [shapedB, Bool.and_eq_true] at h; exact h.2) (HTF.out.later hz)).mono ?_
            rintro e w' ⟨h', l', css, a', cl', rfl, h5', he', hO', hT', hb'⟩
            obtain ⟨rfl, rfl⟩ := spine_uniq _ m l' h h' rfl HK5.out h5' (by rw [HP.out, he'])
            exact ⟨a', cl', rfl, ⟨css, SlN.own hO' hT'.length (fun c hc => (tmcs_cs3 hT' c hc).three), hT'.later hb'⟩, hz.trans (hb'.mono hz.size)⟩
          have CSA : Hid (∀ wz (al : Option Addr) (cl : Nat), Below wF.heap.size wF wz → TmS wz (.slice al m.length cl) m → Calls Try.prog 34 #[.slice am m.length cm, .slice al m.length cl] wz fun e w' => e = .returned (.bool true) ∧ Below wF.heap.size wF w') := by
            intro wz al cl hz hS
            refine (rsameall_any m m _ _ wz (HTMF.out.later hz) hS).mono ?_
            rintro e w' ⟨⟨b, rfl, hb⟩, hb'⟩
            exact ⟨by rw [hb rfl], hz.trans (hb'.mono hz.size)⟩
          have CAP : Hid (∀ wz, Below wF.heap.size wF wz → Calls Try.prog 32 #[.agg #[.int .i64 k, .int .i64 n, .slice ah lenh caph], .slice am m.length cm] wz fun e w' => ∃ (k n : Int) (a : Option Addr) (len cap : Nat), e = .returned (.agg #[.int .i64 k, .int .i64 n, .slice a len cap]) ∧ TmC w' t [.int .i64 k, .int .i64 n, .slice a len cap] ∧ Below wF.heap.size wF w') := by
            intro wz hz
            refine (apply_any h _ m _ wz (HTHF.out.later hz) (HTMF.out.later hz)).mono ?_
            rintro e w' ⟨k', n', a', len', cap', rfl, hT', hb'⟩
            rw [HP.out] at hT'
            exact ⟨k', n', a', len', cap', rfl, hT', hz.trans (hb'.mono hz.size)⟩
          have CRA : Hid (∀ wz, Below wF.heap.size wF wz → Calls Try.prog 36 #[.agg #[.int .i64 t.kind, .int .i64 t.num, .slice a t.sub.length cap], .slice al l.length cl] wz fun e w' => ∃ (k n : Int) (a : Option Addr) (len cap : Nat), e = .returned (.agg #[.int .i64 k, .int .i64 n, .slice a len cap]) ∧ TmC w' (applyT t l) [.int .i64 k, .int .i64 n, .slice a len cap] ∧ Below wF.heap.size wF w') := by
            intro wz hz
            refine (rapply_any t _ l _ wz (HTF.out.later hz) (HLF.out.later hz)).mono ?_
            rintro e w' ⟨k', n', a', len', cap', rfl, hT', hb'⟩
            exact ⟨k', n', a', len', cap', rfl, hT', hz.trans (hb'.mono hz.size)⟩
          have CEQ : Hid (∀ (x : Tm) (k n : Int) (a : Option Addr) (len cap : Nat) (k' n' : Int) (a' : Option Addr) (len' cap' : Nat) wz, Below wF.heap.size wF wz → TmC wz x [.int .i64 k, .int .i64 n, .slice a len cap] → TmC wz x [.int .i64 k', .int .i64 n', .slice a' len' cap'] →
              Calls Try.prog 20 #[.agg #[.int .i64 k, .int .i64 n, .slice a len cap], .agg #[.int .i64 k', .int .i64 n', .slice a' len' cap']] wz fun e w' => e = .returned (.bool true) ∧ Below wF.heap.size wF w') := by
            intro x k n a len cap k' n' a' len' cap' wz hz h1 h2
            refine (requal_any x x _ _ wz h1 h2).mono ?_
            rw [(eqT_iff _ _).2 rfl]
            rintro e w' ⟨rfl, hb'⟩
            exact ⟨rfl, hz.trans (hb'.mono hz.size)⟩
          have CAW : Hid (∀ wz, Below wF.heap.size wF wz → Calls Try.prog 16 #[] wz fun e w' => e = .returned (.bool true) ∧ Below wF.heap.size wF w') := by
            intro wz hz
            refine (awake_any wz).mono ?_
            rintro e w' ⟨rfl, hb'⟩
            exact ⟨rfl, hz.trans (hb'.mono hz.size)⟩
          go_region_held3 (fun w' => w'.cell? ⟨w.heap.size, 0, none⟩ = some (.int .i64 t.kind) ∧ w'.cell? ⟨w.heap.size, 1, none⟩ = some (.int .i64 t.num) ∧ w'.cell? ⟨w.heap.size, 2, none⟩ = some (.slice a t.sub.length cap) ∧
              w'.cell? ⟨B3, 0, none⟩ = some (.int .i64 k) ∧ w'.cell? ⟨B3, 1, none⟩ = some (.int .i64 n) ∧ w'.cell? ⟨B3, 2, none⟩ = some (.slice ah lenh caph) ∧
              w'.cell? ⟨B4, 0, none⟩ = some (.int .i64 ku) ∧ w'.cell? ⟨B4, 1, none⟩ = some (.int .i64 nu) ∧ w'.cell? ⟨B4, 2, none⟩ = some (.slice au lenu capu))
            (first
              | exact SF.out _ hD9.out
              | exact SF.out _ hD8.out
              | exact SF.out _ hD7.out
              | exact SF.out _ hD6.out
              | exact SF.out _ hD5.out
              | exact SF.out _ hD4.out
              | exact SF.out _ hD3.out
              | exact SF.out _ hD2.out
              | exact SF.out _ hD1.out
              | exact SF.out _ hD0.out)
            (first
              | (go_at_call 33; refine (CHD.out _ hD0.out).mono ?_; rintro e v1 ⟨k1, n1, a1, l1, p1, rfl, ht1, hd1⟩; have hT1 := Lib.hid ht1; have hD1 := Lib.hid hd1; clear ht1 hd1)
              | (go_at_call 16; refine (CAW.out _ hD8.out).mono ?_; rintro e v9 ⟨rfl, hd9⟩; have hD9 := Lib.hid hd9; clear hd9)
              | (go_at_call 20; refine (CEQ.out (applyT t l) _ _ _ _ _ _ _ _ _ _ _ hD7.out (HTUF.out.later hD7.out) hT7.out).mono ?_; rintro e v8 ⟨rfl, hd8⟩; have hD8 := Lib.hid hd8; clear hd8)
              | (go_at_call 36; refine (CRA.out _ hD6.out).mono ?_; rintro e v7 ⟨k7, n7, a7, l7, p7, rfl, ht7, hd7⟩; have hT7 := Lib.hid ht7; have hD7 := Lib.hid hd7; clear ht7 hd7)
              | (go_at_call 20; refine (CEQ.out t _ _ _ _ _ _ _ _ _ _ _ hD5.out hT5.out (HTF.out.later hD5.out)).mono ?_; rintro e v6 ⟨rfl, hd6⟩; have hD6 := Lib.hid hd6; clear hd6)
              | (go_at_call 32; refine (CAP.out _ hD4.out).mono ?_; rintro e v5 ⟨k5, n5, a5, l5, p5, rfl, ht5, hd5⟩; have hT5 := Lib.hid ht5; have hD5 := Lib.hid hd5; clear ht5 hd5)
              | (go_at_call 34; refine (CSA.out _ _ _ hD3.out hT3.out).mono ?_; rintro e v4 ⟨rfl, hd4⟩; have hD4 := Lib.hid hd4; clear hd4)
              | (go_at_call 35; refine (CAR.out _ hD2.out).mono ?_; rintro e v3 ⟨a3, c3, rfl, ht3, hd3⟩; have hT3 := Lib.hid ht3; have hD3 := Lib.hid hd3; clear ht3 hd3)
              | (go_at_call 20; refine (CEQ.out h _ _ _ _ _ _ _ _ _ _ _ hD1.out (HTHF.out.later hD1.out) hT1.out).mono ?_; rintro e v2 ⟨rfl, hd2⟩; have hD2 := Lib.hid hd2; clear hd2)
              | fail)
          go_wp2_with fail
          go_ret
          exact ⟨rfl, HWF.out.trans (hD9.out.mono HWF.out.size)⟩
end Go.Proofs.Ytackepdhcigdlaa
