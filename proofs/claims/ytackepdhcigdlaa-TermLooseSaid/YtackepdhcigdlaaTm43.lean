import Derived.Test.YtackepdhcigdlaaTm42
namespace Go.Proofs.Ytackepdhcigdlaa
open Go.RowKit
/-- the outermost function types of a term, and what is beneath -/
def piA : Nat → Tm → List Tm × Tm
  | 0, t => ([], t)
  | f + 1, .mk k n sub => if k = 3 then match sub with | [a, y] => (a :: (piA f y).1, (piA f y).2) | l => ([], .mk k n l) else ([], .mk k n sub)
/-- a term's head, and its arguments -/
def apA : Nat → Tm → Tm × List Tm
  | 0, t => (t, [])
  | f + 1, .mk k n sub => if k = 5 then match sub with | [y, b] => ((apA f y).1, (apA f y).2 ++ [b]) | l => (.mk k n l, []) else (.mk k n sub, [])
theorem piA_ok : ∀ (f : Nat) (t : Tm), goodB t = true → hgT t ≤ f → t = piT (piA f t).1 (piA f t).2 ∧ (piA f t).2.kind ≠ 3 := by
  intro f
  induction f with
  | zero => intro t _ h; cases t; simp only [hgT] at h; omega
  | succ f ih =>
    intro t hg hh
    by_cases h3 : t.kind = 3
    · obtain ⟨a, y, rfl, _, hy⟩ := good_pi hg h3
      have hhy : hgT y ≤ f := by simp only [hgT, hgL] at hh; omega
      obtain ⟨h1, h2⟩ := ih y hy hhy
      have e : piA (f + 1) (.mk 3 0 [a, y]) = (a :: (piA f y).1, (piA f y).2) := by simp [piA]
      rw [e]
      exact ⟨by simp only [piT]; rw [← h1], h2⟩
    · cases t with
      | mk k n sub =>
        have h3' : ¬ k = 3 := h3
        have e : piA (f + 1) (.mk k n sub) = ([], .mk k n sub) := by simp [piA, h3']
        rw [e]
        exact ⟨rfl, h3⟩
theorem apA_ok : ∀ (f : Nat) (t : Tm), goodB t = true → hgT t ≤ f → applyT (apA f t).1 (apA f t).2 = t ∧ (apA f t).1.kind ≠ 5 := by
  intro f
  induction f with
  | zero => intro t _ h; cases t; simp only [hgT] at h; omega
  | succ f ih =>
    intro t hg hh
    by_cases h5 : t.kind = 5
    · obtain ⟨y, b, rfl, hy, _⟩ := good_app hg h5
      have hhy : hgT y ≤ f := by simp only [hgT, hgL] at hh; omega
      obtain ⟨h1, h2⟩ := ih y hy hhy
      have e : apA (f + 1) (.mk 5 0 [y, b]) = ((apA f y).1, (apA f y).2 ++ [b]) := by simp [apA]
      rw [e]
      exact ⟨by show applyT _ (_ ++ _) = _; rw [applyT_snoc, h1], h2⟩
    · cases t with
      | mk k n sub =>
        have h5' : ¬ k = 5 := h5
        have e : apA (f + 1) (.mk k n sub) = (.mk k n sub, []) := by simp [apA, h5']
        rw [e]
        exact ⟨rfl, h5⟩
def chkW (t : Tm) (d p i first : Int) : Int := chkV t d p i first (apA 200 (piA 200 t).2).1 (apA 200 (piA 200 t).2).2 (piA 200 t).1
theorem sub_hg (la : List Tm) (b : Tm) : hgT b ≤ hgT (piT la b) := by have := pi_hg la b; omega
theorem check2_any (t : Tm) (cs : List Value) (d p i first : Int) (w : World) (hs : shapedB t = true) (hp0 : 0 ≤ p) (hp1 : p ≤ 24) (hi0 : 0 ≤ i) (hi1 : i ≤ 24) (hf0 : -1 ≤ first) (hf1 : first ≤ 1100000) (ht : TmC w t cs) :
    Calls Try.prog 68 #[.agg cs.toArray, .int .i64 d, .int .i64 p, .int .i64 i, .int .i64 first] w fun e w' => e = .returned (.int .i64 (chkW t d p i first)) ∧ Below w.heap.size w w' := by
  obtain ⟨hg, hh, -⟩ := shaped_hg hs
  obtain ⟨h1, h2⟩ := piA_ok 200 t hg (by omega)
  have hgb := (pi_good (piA 200 t).1 (piA 200 t).2 (by rw [← h1]; exact hg)).1
  have hhb : hgT (piA 200 t).2 ≤ 128 := by have := sub_hg (piA 200 t).1 (piA 200 t).2; rw [← h1] at this; omega
  obtain ⟨h3, h4⟩ := apA_ok 200 (piA 200 t).2 hgb (by omega)
  exact check_any t _ _ _ _ cs d p i first w hg hh h1 h2 h4 h3 hp0 hp1 hi0 hi1 hf0 hf1 ht
def argsF (d p i : Int) : List Tm → Nat → Int
  | [], _ => -1
  | t :: ts, k => if (decide (-2 < chkW t d p i (p - 1 + k)) || (stT t d && laterF ts 0)) = true then k else argsF d p i ts (k + 1)
def okA (l : List Tm) (d p i : Int) : Bool := [p, i, (l.length : Int)].all fitB && decide (0 ≤ d) && l.all shapedB
def argsN (l : List Tm) (d p i : Int) : Int := if okA l d p i = true then argsF d p i l 0 else 0
def argsE (l : List Tm) (d p i : Int) : Int := if okA l d p i = true then if 0 ≤ argsF d p i l 0 then 9 else 0 else 5
theorem argsF_ge (d p i : Int) : ∀ (l : List Tm) (k : Nat), -1 ≤ argsF d p i l k ∧ (argsF d p i l k = -1 ∨ (k : Int) ≤ argsF d p i l k) := by
  intro l
  induction l with
  | nil => intro k; simp [argsF]
  | cons t ts ih =>
    intro k
    have := ih (k + 1)
    simp only [argsF]
    split <;> omega
set_option maxRecDepth 100000 in
set_option maxHeartbeats 4000000 in
theorem pargs_any (l : List Tm) (v : Value) (d p i : Int) (w : World) (hl60 : l.length ≤ 60) (hl : TmS w v l) :
    Calls Try.prog 47 #[v, .int .i64 d, .int .i64 p, .int .i64 i] w fun e w' => e = .returned (.tuple #[.int .i64 (argsN l d p i), .int .i64 (argsE l d p i)]) ∧ Below w.heap.size w w' := by
  obtain ⟨al, cl, rfl, hl1, hl2, -⟩ := hl.open
  have hll : l.length ≤ 9223372036854775807 := by omega
  have hown : (w.alloc (.cells #[.int .i64 p, .int .i64 i, .int .i64 (l.length : Int)] 3)).ownsRow w.heap.size 3 1 (.slice (some ⟨w.heap.size, 0, none⟩) 3 3) 3 ([p, i, (l.length : Int)].map (Value.int .i64)) :=
    own_lit 3 rfl (by decide) (Below.refl _ _)
  have FT := Lib.hid (fits_any [p, i, (l.length : Int)] _ _ (Slc.own hown))
  have HA := Lib.hid (((Below.refl w.heap.size w).alloc (Nat.le_refl _) (.cells #[.int .i64 p, .int .i64 i, .int .i64 (l.length : Int)] 3)))
  have HL := Lib.hid hl
  have BAD : Hid (okA l d p i = false → 0 = argsN l d p i ∧ 5 = argsE l d p i) := by
    intro h
    unfold argsN argsE
    rw [h]
    exact ⟨rfl, rfl⟩
  have HOK : Hid (okA l d p i = ([p, i, (l.length : Int)].all fitB && decide (0 ≤ d) && l.all shapedB)) := rfl
  clear hown hl
  go_enter Try.func47, Try.ntmps47
  go_wp2_with fail
  refine FT.out.mono ?_
  cases hf : [p, i, (l.length : Int)].all fitB with
  | false =>
    rintro e w1 ⟨rfl, rfl⟩
    have F := Lib.hid (BAD.out (by rw [HOK.out, hf]; rfl))
    go_wp2_with fail
    go_ret2
    exact ⟨ret_int2 F.out.1 F.out.2, HA.out⟩
  | true =>
    rintro e w1 ⟨rfl, rfl⟩
    by_cases hd0 : d < 0
    · have F := Lib.hid (BAD.out (by rw [HOK.out, hf, decide_eq_false (by omega : ¬ 0 ≤ d)]; rfl))
      go_wp2_with fail
      go_ret2
      exact ⟨ret_int2 F.out.1 F.out.2, HA.out⟩
    · have hfa : fitB p = true ∧ fitB i = true := by simp at hf; exact ⟨hf.1, hf.2.1⟩
      have hp := of_decide_eq_true hfa.1
      have hi := of_decide_eq_true hfa.2
      have HOK2 : Hid (okA l d p i = l.all shapedB) := by show _ = _; rw [HOK.out, hf, decide_eq_true (by omega : 0 ≤ d)]; rfl
      clear hf hfa HOK FT
      go_wp2_with fail
      generalize w.alloc (.cells #[.int .i64 p, .int .i64 i, .int .i64 (l.length : Int)] 3) = wA at *
      go_loopw [27] (fun j wr => ∃ (k : Nat), k ≤ l.length ∧ j = .int .i64 k ∧ Hid ((l.take k).all shapedB = true) ∧ Below w.heap.size w wr) (fun j _ => l.length - (intOf j).toNat)
      case atStart => exact ⟨0, Nat.zero_le _, rfl, rfl, HA.out⟩
      case round =>
        obtain ⟨k, hk, rfl, hno, hbel⟩ := hrel
        by_cases hlt : k < l.length
        · obtain ⟨bb, off, a', cap', rfl, e0, e1, e2, hts⟩ := sub_at HL.out hbel k hlt
          have hA2 : Below wr.heap.size wr (wr.alloc (.cells #[.int .i64 l[k].kind, .int .i64 l[k].num, .slice a' l[k].sub.length cap'] 24)) := (Below.refl _ _).alloc (Nat.le_refl _) _
          have C := Lib.hid (shaped_any l[k] _ _ (hts.later hA2))
          have HB := Lib.hid (hbel.trans (hA2.mono hbel.size))
          have hst : Hid ((l.take (k + 1)).all shapedB = shapedB l[k]) := by
            show _ = _
            rw [List.take_succ_eq_append_getElem hlt, List.all_append, hno.out]
            simp
          have hmem := List.getElem_mem hlt
          clear hts hA2
          cases hq : shapedB l[k] with
          | true =>
            have G : Hid ((l.take (k + 1)).all shapedB = true) := hst.out.trans hq
            rw [hq] at C
            clear hq hst
            go_wp2_with fail
            refine C.out.mono ?_
            rintro e w2 ⟨rfl, hb2⟩
            have HB2 := Lib.hid (HB.out.trans (hb2.mono HB.out.size))
            clear hb2
            go_wp2_with fail
            go_roundw
            case rel => exact ⟨k + 1, hlt, by simp, G.out, HB2.out⟩
            case measure => simp [intOf]; omega
          | false =>
            have F := Lib.hid (BAD.out (by
              rw [HOK2.out]
              cases h : l.all shapedB with
              | false => rfl
              | true => rw [List.all_eq_true] at h; rw [h _ hmem] at hq; cases hq))
            rw [hq] at C
            clear hq hst
            go_wp2_with fail
            refine C.out.mono ?_
            rintro e w2 ⟨rfl, hb2⟩
            have HB2 := Lib.hid (HB.out.trans (hb2.mono HB.out.size))
            clear hb2
            go_wp2_with fail
            go_ret2
            exact ⟨ret_int2 F.out.1 F.out.2, HB2.out⟩
        · obtain rfl : k = l.length := by omega
          have HALL : Hid (l.all shapedB = true) := by
            have h := hno.out
            rw [List.take_length] at h
            exact h
          have HN : Hid (argsN l d p i = argsF d p i l 0 ∧ argsE l d p i = if 0 ≤ argsF d p i l 0 then 9 else 0) := by
            unfold argsN argsE
            rw [HOK2.out, HALL.out]
            exact ⟨rfl, rfl⟩
          have HB := Lib.hid hbel
          clear hbel hno BAD HOK2 hlt
          go_wp2_with fail
          go_loopw [37] (fun j wr => ∃ (k : Nat), k ≤ l.length ∧ j = .int .i64 k ∧ Hid (argsF d p i (l.drop k) k = argsF d p i l 0) ∧ Hid (Below w.heap.size w wr)) (fun j _ => l.length - (intOf j).toNat)
          case atStart => exact ⟨0, Nat.zero_le _, rfl, rfl, HB.out⟩
          case round =>
            obtain ⟨k, hk, rfl, hs, hbel⟩ := hrel
            by_cases hlt : k < l.length
            · obtain ⟨bb, off, a', cap', rfl, e0, e1, e2, hts⟩ := sub_at HL.out hbel.out k hlt
              have hA2 : Below wr.heap.size wr (wr.alloc (.cells #[.int .i64 l[k].kind, .int .i64 l[k].num, .slice a' l[k].sub.length cap'] 24)) := (Below.refl _ _).alloc (Nat.le_refl _) _
              have hshp : shapedB l[k] = true := by have := HALL.out; rw [List.all_eq_true] at this; exact this _ (List.getElem_mem hlt)
              have C := Lib.hid (check2_any l[k] _ d p i (p - 1 + k) _ hshp hp.1 hp.2 hi.1 hi.2 (by omega) (by omega) (hts.later hA2))
              have HB := Lib.hid (hbel.out.trans (hA2.mono hbel.out.size))
              have BX := Lib.hid (Box3.new wr (.int .i64 l[k].kind) (.int .i64 l[k].num) (.slice a' l[k].sub.length cap'))
              have HTS := Lib.hid (hts.later hA2)
              have hst : Hid (argsF d p i (l.drop k) k = if (decide (-2 < chkW l[k] d p i (p - 1 + k)) || (stT l[k] d && laterF (l.drop (k + 1)) 0)) = true then (k : Int) else argsF d p i (l.drop (k + 1)) (k + 1)) := by
                show _ = _
                rw [List.drop_eq_getElem_cons hlt]
                simp only [argsF]
              have FAIL : Hid ((decide (-2 < chkW l[k] d p i (p - 1 + k)) || (stT l[k] d && laterF (l.drop (k + 1)) 0)) = true → (k : Int) = argsN l d p i ∧ 9 = argsE l d p i) := by
                intro h
                have h2 : argsF d p i l 0 = k := by rw [← hs.out, hst.out, if_pos h]
                rw [HN.out.1, HN.out.2, h2, if_pos (by omega)]
                exact ⟨rfl, rfl⟩
              have GO : Hid ((decide (-2 < chkW l[k] d p i (p - 1 + k)) || (stT l[k] d && laterF (l.drop (k + 1)) 0)) = false → argsF d p i (l.drop (k + 1)) (k + 1) = argsF d p i l 0) := by
                intro h
                rw [← hs.out, hst.out, if_neg (by rw [h]; decide)]
              have hj0 : (0 : Int) ≤ k := by omega
              have hj1 : (k : Int) < l.length := by omega
              have hk60 : k ≤ 60 := by omega
              clear hts hA2 hst hs hshp
              generalize l[k] = x at *
              by_cases hc : -2 < chkW x d p i (p - 1 + k)
              · have F := Lib.hid (FAIL.out (by rw [decide_eq_true hc]; rfl))
                go_wp2_with fail
                refine C.out.mono ?_
                rintro e w2 ⟨rfl, hb2⟩
                have HB2 := Lib.hid (HB.out.trans (hb2.mono HB.out.size))
                clear hb2
                go_wp2_with fail
                go_ret2
                exact ⟨ret_int2 F.out.1 F.out.2, HB2.out⟩
              · have HC2 : Hid (decide (-2 < chkW x d p i (p - 1 + k)) = false) := decide_eq_false hc
                go_wp2_with fail
                refine C.out.mono ?_
                rintro e w2 ⟨rfl, hb2⟩
                have HB2 := Lib.hid (HB.out.trans (hb2.mono HB.out.size))
                have BX2 := Lib.hid (BX.out.later hb2 BX.out.lt)
                have S2 := Lib.hid (stands_any x _ d w2 (HTS.out.later hb2))
                obtain ⟨c0, c1, c2⟩ := BX2.out.cells
                clear hb2 C e0 e1 e2
                cases hq : stT x d with
                | false =>
                  have G := Lib.hid (GO.out (by rw [HC2.out, hq]; rfl))
                  rw [hq] at S2
                  clear hq
                  go_wp2_with fail
                  refine S2.out.mono ?_
                  rintro e w3 ⟨rfl, hb3⟩
                  have HB3 := Lib.hid (HB2.out.trans (hb3.mono HB2.out.size))
                  clear hb3
                  go_wp2_with fail
                  go_roundw
                  case rel => exact ⟨k + 1, hlt, by simp, G.out, HB3.out⟩
                  case measure => simp [intOf]; omega
                | true =>
                  rw [hq] at S2
                  have L3 := Lib.hid (fun w3 (hb : Below w.heap.size w w3) => later_any l _ k w3 (by omega) (HL.out.later hb))
                  cases hz : laterF (l.drop (k + 1)) 0 with
                  | true =>
                    have F := Lib.hid (FAIL.out (by rw [hq, hz]; simp))
                    rw [hz] at L3
                    clear hq hz
                    go_wp2_with fail
                    refine S2.out.mono ?_
                    rintro e w3 ⟨rfl, hb3⟩
                    have HB3 := Lib.hid (HB2.out.trans (hb3.mono HB2.out.size))
                    clear hb3
                    go_wp2_with fail
                    refine (L3.out w3 HB3.out).mono ?_
                    rintro e w4 ⟨rfl, hb4⟩
                    have HB4 := Lib.hid (HB3.out.trans (hb4.mono HB3.out.size))
                    clear hb4
                    go_wp2_with fail
                    go_ret2
                    exact ⟨ret_int2 F.out.1 F.out.2, HB4.out⟩
                  | false =>
                    have G := Lib.hid (GO.out (by rw [HC2.out, hz]; simp))
                    rw [hz] at L3
                    clear hq hz
                    go_wp2_with fail
                    refine S2.out.mono ?_
                    rintro e w3 ⟨rfl, hb3⟩
                    have HB3 := Lib.hid (HB2.out.trans (hb3.mono HB2.out.size))
                    clear hb3
                    go_wp2_with fail
                    refine (L3.out w3 HB3.out).mono ?_
                    rintro e w4 ⟨rfl, hb4⟩
                    have HB4 := Lib.hid (HB3.out.trans (hb4.mono HB3.out.size))
                    clear hb4
                    go_wp2_with fail
                    go_roundw
                    case rel => exact ⟨k + 1, hlt, by simp, G.out, HB4.out⟩
                    case measure => simp [intOf]; omega
            · have F : Hid (-1 = argsN l d p i ∧ 0 = argsE l d p i) := by
                have h2 : argsF d p i l 0 = -1 := by rw [← hs.out, List.drop_of_length_le (by omega)]; simp only [argsF]
                show _ ∧ _
                rw [HN.out.1, HN.out.2, h2]
                exact ⟨rfl, rfl⟩
              go_wp2_with fail
              go_ret2
              exact ⟨ret_int2 F.out.1 F.out.2, hbel.out⟩
end Go.Proofs.Ytackepdhcigdlaa
