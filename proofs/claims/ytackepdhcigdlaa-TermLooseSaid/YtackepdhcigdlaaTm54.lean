import Derived.Test.YtackepdhcigdlaaTm53
namespace Go.Proofs.Ytackepdhcigdlaa
open Go.RowKit
theorem all_take2 {α : Type} (l : List α) (p : α → Bool) (k : Nat) (h : k < l.length) : (l.take (k + 1)).all p = ((l.take k).all p && p l[k]) := by
  rw [List.take_succ_eq_append_getElem h, List.all_append]
  simp
theorem box4_cells {w w1 : World} {x y z u : Value} {T : TypeId} (hb : Below (w.heap.size + 1) (w.alloc (.cells #[x, y, z, u] T)) w1) :
    w1.cell? ⟨w.heap.size, 0, none⟩ = some x ∧ w1.cell? ⟨w.heap.size, 1, none⟩ = some y ∧ w1.cell? ⟨w.heap.size, 2, none⟩ = some z ∧ w1.cell? ⟨w.heap.size, 3, none⟩ = some u :=
  ⟨(hb.cell (by simp)).trans (by simp), (hb.cell (by simp)).trans (by simp), (hb.cell (by simp)).trans (by simp), (hb.cell (by simp)).trans (by simp)⟩
set_option maxRecDepth 100000 in
set_option maxHeartbeats 4000000 in
theorem posargs_law (l : List Tm) (v : Value) (d p i f : Int) (w : World) (hl : TmS w v l) :
    Calls Try.prog 10 #[v, .agg #[.int .i64 d, .int .i64 p, .int .i64 i, .int .i64 f]] w fun e w' => e = .returned (.bool true) ∧ Below w.heap.size w w' := by
  obtain ⟨al, cl, rfl, hl1, hl2, -⟩ := hl.open
  have hA : Below w.heap.size w (w.alloc (.cells #[.int .i64 d, .int .i64 p, .int .i64 i, .int .i64 f] 54)) := (Below.refl _ _).alloc (Nat.le_refl _) _
  have HL := Lib.hid hl
  have HA := Lib.hid hA
  clear hl hA
  by_cases h60 : l.length ≤ 60
  · have h60' : (l.length : Int) ≤ 60 := by omega
    have PA := Lib.hid (pargs_any l _ d p i _ h60 (HL.out.later HA.out))
    go_enter Try.func10, Try.ntmps10
    go_wp2_with fail
    refine PA.out.mono ?_
    rintro e w1 ⟨rfl, hb1⟩
    have hbx : Below (w.heap.size + 1) (w.alloc (.cells #[.int .i64 d, .int .i64 p, .int .i64 i, .int .i64 f] 54)) w1 := by simpa using hb1
    have HBX := Lib.hid hbx
    obtain ⟨c0, c1, c2, -⟩ := box4_cells hbx
    have HW1 := Lib.hid (HA.out.trans (hb1.mono HA.out.size))
    clear hb1 hbx PA HA h60
    generalize hN : argsN l d p i = n at *
    generalize hE : argsE l d p i = er at *
    have HN := Lib.hid hN
    have HE := Lib.hid hE
    clear hN hE
    have OKD : Hid (okA l d p i = true ↔ (0 ≤ p ∧ p ≤ 24 ∧ 0 ≤ i ∧ i ≤ 24 ∧ (l.length : Int) ≤ 24 ∧ 0 ≤ d) ∧ l.all shapedB = true) := by
      show _ ↔ _
      unfold okA
      simp only [List.all_cons, List.all_nil, fitB, Bool.and_true, Bool.and_eq_true, decide_eq_true_eq]
      generalize (l.all shapedB = true) = Q
      constructor
      · rintro ⟨⟨⟨h1, h2, h3⟩, h4⟩, h5⟩
        exact ⟨⟨h1.1, h1.2, h2.1, h2.2, h3.2, h4⟩, h5⟩
      · rintro ⟨⟨h1, h2, h3, h4, h5, h6⟩, h7⟩
        exact ⟨⟨⟨⟨h1, h2⟩, ⟨h3, h4⟩, by omega, h5⟩, h6⟩, h7⟩
    have ZERO : Hid (okA l d p i = false → n = 0 ∧ er = 5) := by
      intro h
      rw [← HN.out, ← HE.out]
      unfold argsN argsE
      rw [h]
      exact ⟨rfl, rfl⟩
    have POS : Hid (okA l d p i = true → n = argsF d p i l 0 ∧ er = if 0 ≤ argsF d p i l 0 then 9 else 0) := by
      intro h
      rw [← HN.out, ← HE.out]
      unfold argsN argsE
      rw [h]
      exact ⟨rfl, rfl⟩
    clear HN HE
    go_wp2_with fail
    · have FITS : Hid ((decide (0 ≤ d) && l.all shapedB) = okA l d p i) := by
        show _ = _
        rw [Bool.eq_iff_iff, OKD.out, Bool.and_eq_true, decide_eq_true_eq]
        constructor
        · rintro ⟨h1, h2⟩; exact ⟨by omega, h2⟩
        · rintro ⟨h1, h2⟩; exact ⟨by omega, h2⟩
      clear c0 c1 c2
      go_loopw [7, 8] (fun b' i' wr => ∃ (k : Nat) (b : Bool), k ≤ l.length ∧ b' = .bool b ∧ i' = .int .i64 k ∧ Hid (b = (decide (0 ≤ d) && (l.take k).all shapedB)) ∧ Hid (Below w.heap.size w wr) ∧ Hid (Below w1.heap.size w1 wr)) (fun _ i' _ => l.length - (intOf i').toNat)
      case atStart => exact ⟨0, decide (0 ≤ d), Nat.zero_le _, rfl, rfl, by show _ = _; simp, HW1.out, Below.refl _ _⟩
      case round =>
        obtain ⟨k, b, hk, rfl, rfl, hb, hbel, hb1⟩ := hrel
        by_cases hlt : k < l.length
        · obtain ⟨bb, off, a', cap', rfl, e0, e1, e2, hts⟩ := sub_at HL.out hbel.out k hlt
          have hi0' : (0 : Int) ≤ k := by omega
          have hi1' : (k : Int) < l.length := by omega
          have hst := Lib.hid (all_take2 l shapedB k hlt)
          have SHP := Lib.hid (rshaped_any l[k] _ wr hts)
          clear hts
          generalize l[k] = x at *
          cases b with
          | true =>
            have G : Hid (shapedB x = (decide (0 ≤ d) && (l.take (k + 1)).all shapedB)) := by
              show _ = _
              rw [hst.out, ← Bool.and_assoc, ← hb.out, Bool.true_and]
            clear hst hb
            generalize shapedB x = sx at *
            go_wp2_with (go_at_call 17; refine SHP.out.mono ?_; rintro e w2 ⟨rfl, r2⟩; have hw := Lib.hid (hbel.out.trans (r2.mono hbel.out.size)); have hw1 := Lib.hid (hb1.out.trans (r2.mono hb1.out.size)); clear r2)
            go_roundw
            case rel => exact ⟨k + 1, sx, hlt, rfl, by simp, G.out, hw.out, hw1.out⟩
            case measure => simp [intOf]; omega
          | false =>
            have G : Hid (false = (decide (0 ≤ d) && (l.take (k + 1)).all shapedB)) := by
              show _ = _
              rw [hst.out, ← Bool.and_assoc, ← hb.out, Bool.false_and]
            clear hst hb SHP
            go_wp2_with fail
            go_roundw
            case rel => exact ⟨k + 1, false, hlt, rfl, by simp, G.out, hbel.out, hb1.out⟩
            case measure => simp [intOf]; omega
        · obtain rfl : k = l.length := by omega
          have hok : Hid (b = okA l d p i) := by
            show _ = _
            have h1 := hb.out
            rw [List.take_length] at h1
            rw [h1, FITS.out]
          clear FITS hb
          cases b with
          | false =>
            obtain ⟨rfl, rfl⟩ := ZERO.out hok.out.symm
            have HAW := Lib.hid (awake19_any wr)
            clear POS ZERO OKD
            go_wp2_with (go_at_call 46; refine HAW.out.mono ?_; rintro e w6 ⟨rfl, r6⟩)
            go_ret
            exact ⟨rfl, hbel.out.trans (r6.mono hbel.out.size)⟩
          | true =>
            have hbc : Below (w.heap.size + 1) (w.alloc (.cells #[.int .i64 d, .int .i64 p, .int .i64 i, .int .i64 f] 54)) wr := HBX.out.trans (hb1.out.mono (by have := HBX.out.size; simpa using this))
            obtain ⟨c0, c1, c2, -⟩ := box4_cells hbc
            obtain ⟨⟨o1, o2, o3, o4, o5, o6⟩, osh⟩ := OKD.out.1 hok.out.symm
            obtain ⟨hN, hE⟩ := POS.out hok.out.symm
            have RA := Lib.hid (rpargs_any l _ d p i wr (by omega) (List.all_eq_true.1 osh) o1 o2 o3 o4 (HL.out.later hbel.out))
            have HGE := argsF_ge d p i l 0
            clear POS ZERO OKD hbc osh
            generalize argsF d p i l 0 = A at *
            subst hN
            by_cases hA0 : 0 ≤ n
            · rw [if_pos hA0] at hE
              subst hE
              go_wp2_with (first | (go_at_call 48; refine RA.out.mono ?_; rintro e w5 ⟨rfl, r5⟩; have hw5 := Lib.hid (hbel.out.trans (r5.mono hbel.out.size)); have HAW := Lib.hid (awake19_any w5); clear r5) | (go_at_call 46; refine HAW.out.mono ?_; rintro e w6 ⟨rfl, r6⟩))
              go_ret
              exact ⟨rfl, hw5.out.trans (r6.mono hw5.out.size)⟩
            · rw [if_neg hA0] at hE
              subst hE
              obtain rfl : n = -1 := by omega
              go_wp2_with (first | (go_at_call 48; refine RA.out.mono ?_; rintro e w5 ⟨rfl, r5⟩; have hw5 := Lib.hid (hbel.out.trans (r5.mono hbel.out.size)); have HAW := Lib.hid (awake19_any w5); clear r5) | (go_at_call 46; refine HAW.out.mono ?_; rintro e w6 ⟨rfl, r6⟩))
              go_ret
              exact ⟨rfl, hw5.out.trans (r6.mono hw5.out.size)⟩
    all_goals (
      have BAD : Hid (okA l d p i = false) := by
        show _ = _
        cases hq : okA l d p i with
        | false => rfl
        | true => exfalso; have h := (OKD.out.1 hq).1; omega
      obtain ⟨rfl, rfl⟩ := ZERO.out BAD.out
      clear ZERO POS OKD BAD c0 c1 c2
      go_loopw [7, 8] (fun b' i' wr => ∃ (k : Nat), b' = .bool false ∧ k ≤ l.length ∧ i' = .int .i64 k ∧ Hid (Below w.heap.size w wr)) (fun _ i' _ => l.length - (intOf i').toNat)
      case atStart => exact ⟨0, rfl, Nat.zero_le _, rfl, HW1.out⟩
      case round =>
        obtain ⟨k, rfl, hk, rfl, hbel⟩ := hrel
        by_cases hlt : k < l.length
        · have hi0' : (0 : Int) ≤ k := by omega
          have hi1' : (k : Int) < l.length := by omega
          go_wp2_with fail
          go_roundw
          case rel => exact ⟨k + 1, rfl, hlt, by simp, hbel.out⟩
          case measure => simp [intOf]; omega
        · obtain rfl : k = l.length := by omega
          have HAW := Lib.hid (awake19_any wr)
          go_wp2_with (go_at_call 46; refine HAW.out.mono ?_; rintro e w6 ⟨rfl, r6⟩)
          go_ret
          exact ⟨rfl, hbel.out.trans (r6.mono hbel.out.size)⟩)
  · have h60' : 60 < (l.length : Int) := by omega
    have HAW := Lib.hid (awake19_any (w.alloc (.cells #[.int .i64 d, .int .i64 p, .int .i64 i, .int .i64 f] 54)))
    clear h60
    go_enter Try.func10, Try.ntmps10
    go_wp2_with (go_at_call 46; refine HAW.out.mono ?_; rintro e w6 ⟨rfl, r6⟩)
    go_ret
    exact ⟨rfl, HA.out.trans (r6.mono HA.out.size)⟩
end Go.Proofs.Ytackepdhcigdlaa
