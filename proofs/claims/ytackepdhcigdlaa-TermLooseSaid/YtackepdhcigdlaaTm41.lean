import Derived.Test.YtackepdhcigdlaaTm40
namespace Go.Proofs.Ytackepdhcigdlaa
open Go.RowKit
theorem slc_at {w wr : World} {a : Option Addr} {cap n : Nat} {xs : List Value} (h : Slc w (.slice a n cap) xs) (hb : Below w.heap.size w wr) (k : Nat) (hk : k < xs.length) :
    ∃ b off, a = some ⟨b, off, none⟩ ∧ wr.cell? ⟨b, off + k, none⟩ = some xs[k] := by
  obtain ⟨a', cap', hv, hm, hc⟩ := h
  obtain ⟨b, off, ha, hcell⟩ := hc (by intro e; rw [e] at hk; simp at hk)
  simp only [Value.slice.injEq] at hv
  have h1 := hcell k hk
  rw [List.getElem?_eq_getElem hk] at h1
  exact ⟨b, off, by rw [hv.1, ha], (hb.cell (World.block_lt_of_cell? w _ h1)).trans h1⟩
theorem slc_shape {w : World} {v : Value} {xs : List Value} (h : Slc w v xs) : ∃ a cap, v = .slice a xs.length cap ∧ xs.length ≤ 9223372036854775807 ∧ xs.length ≤ maxLen := by
  obtain ⟨a, cap, hv, hm, _⟩ := h
  exact ⟨a, cap, hv, by unfold maxLen at hm; omega, hm⟩
theorem all_take (l : List Int) (p : Int → Bool) (k : Nat) (h : k < l.length) : (l.take (k + 1)).all p = ((l.take k).all p && p l[k]) := by
  rw [List.take_succ_eq_append_getElem h, List.all_append]
  simp
def fitB (n : Int) : Bool := decide (0 ≤ n ∧ n ≤ 24)
theorem fits_any (l : List Int) (v : Value) (w : World) (hv : Slc w v (l.map (Value.int .i64))) :
    Calls Try.prog 67 #[v] w fun e w' => e = .returned (.bool (l.all fitB)) ∧ w = w' := by
  obtain ⟨a, cap, rfl, hm, -⟩ := slc_shape hv
  rw [List.length_map] at hm hv ⊢
  go_enter Try.func67, Try.ntmps67
  go_wp2_with fail
  go_loopw [7] (fun i wr => ∃ (k : Nat), k ≤ l.length ∧ i = .int .i64 k ∧ Hid ((l.take k).all fitB = true) ∧ w = wr) (fun i _ => l.length - (intOf i).toNat)
  case atStart => exact ⟨0, Nat.zero_le _, rfl, rfl, rfl⟩
  case round =>
    obtain ⟨k, hk, rfl, hno, rfl⟩ := hrel
    by_cases hlt : k < l.length
    · obtain ⟨b, off, rfl, hc⟩ := slc_at hv (Below.refl _ _) k (by simpa using hlt)
      rw [List.getElem_map] at hc
      have hct := all_take l fitB k hlt
      rw [hno.out, Bool.true_and] at hct
      have HCT := Lib.hid hct
      clear hct
      have hx := List.getElem_mem hlt
      have FAIL : Hid (fitB l[k] = false → false = l.all fitB) := by
        intro h
        symm
        cases hq : l.all fitB with
        | false => rfl
        | true => rw [List.all_eq_true] at hq; rw [hq _ hx] at h; cases h
      generalize l[k] = x at *
      by_cases h0 : x < 0
      · have F := Lib.hid (FAIL.out (decide_eq_false (by omega)))
        go_wp2_with fail
        go_ret
        exact ⟨ret_bool F.out, rfl⟩
      · by_cases h24 : 24 < x
        · have F := Lib.hid (FAIL.out (decide_eq_false (by omega)))
          go_wp2_with fail
          go_ret
          exact ⟨ret_bool F.out, rfl⟩
        · have G : Hid ((l.take (k + 1)).all fitB = true) := HCT.out.trans (decide_eq_true (by omega))
          go_wp2_with fail
          go_roundw
          case rel => exact ⟨k + 1, hlt, by simp, G.out, trivial⟩
          case measure => simp [intOf]; omega
    · obtain rfl : k = l.length := by omega
      have fin : Hid (true = l.all fitB) := by
        have h := hno.out
        rw [List.take_length] at h
        exact h.symm
      go_wp2_with fail
      go_ret
      exact ⟨ret_bool fin.out, rfl⟩
def ownL (d p first : Int) : List Tm → Nat → Bool
  | [], _ => true
  | a :: l, k => !(stT a d) && !(decide ((k : Int) < p) && (a.kind != 1 || a.num != first - k)) && ownL d p first l (k + 1)
/-- a family with its parameters, and arguments in which it does not stand -/
def ownV (h : Tm) (m : List Tm) (d p i first : Int) : Bool := h.kind == 6 && h.num == d && ((m.length : Int) == p + i) && ownL d p first m 0
set_option maxRecDepth 100000 in
set_option maxHeartbeats 4000000 in
theorem own_any (t h : Tm) (m : List Tm) (cs : List Value) (d p i first : Int) (w : World) (hg : goodB t = true) (hh : hgT t ≤ 128) (h5 : h.kind ≠ 5) (hap : applyT h m = t) (hp0 : 0 ≤ p) (hp1 : p ≤ 24) (hi0 : 0 ≤ i) (hi1 : i ≤ 24) (hf0 : -1 ≤ first) (hf1 : first ≤ 2000000) (ht : TmC w t cs) :
    Calls Try.prog 78 #[.agg cs.toArray, .int .i64 d, .int .i64 p, .int .i64 i, .int .i64 first] w fun e w' => e = .returned (.bool (ownV h m d p i first)) ∧ Below w.heap.size w w' := by
  have ht0 := ht
  obtain ⟨a, cap, rfl, hsub, hlen⟩ := tm_open ht
  have hA : Below w.heap.size w (w.alloc (.cells #[.int .i64 t.kind, .int .i64 t.num, .slice a t.sub.length cap] 24)) := (Below.refl _ _).alloc (Nat.le_refl _) _
  have hm128 : m.length ≤ 128 := by have := spine_hg (x := h) (l := m); rw [hap] at this; omega
  have SP := Lib.hid (spine2_any t _ _ hg hh (ht0.later hA))
  clear hsub ht ht0
  go_enter Try.func78, Try.ntmps78
  go_wp2_with fail
  refine SP.out.mono ?_
  rintro e w1 ⟨h', m', k1, n1, a1, len1, cap1, am, cm, rfl, h5', hap', hTh, hTm, hb1⟩
  obtain ⟨rfl, rfl⟩ := spine_uniq _ m m' h h' rfl h5 h5' (by rw [hap, hap'])
  have hw1 := hA.trans (hb1.mono hA.size)
  have hA1 : Below w1.heap.size w1 (w1.alloc (.cells #[.int .i64 k1, .int .i64 n1, .slice a1 len1 cap1] 24)) := (Below.refl _ _).alloc (Nat.le_refl _) _
  obtain ⟨x1, x2, hex, -, -⟩ := tm_open hTh
  simp only [List.cons.injEq, Value.int.injEq, true_and, and_true, Value.slice.injEq] at hex
  obtain ⟨rfl, rfl, rfl, rfl, rfl⟩ := hex
  have HTM := Lib.hid (hTm.later hA1)
  have HB := Lib.hid (hw1.trans (hA1.mono hw1.size))
  clear SP hA hb1 hw1 hA1 hTh hTm
  have HV : Hid (ownV h m d p i first = (h.kind == 6 && h.num == d && ((m.length : Int) == p + i) && ownL d p first m 0)) := rfl
  have e1 : (h.kind != 6) = !(h.kind == 6) := rfl
  have e2 : (h.num != d) = !(h.num == d) := rfl
  have e3 : ((m.length : Int) != p + i) = !((m.length : Int) == p + i) := rfl
  cases c1 : (h.kind == 6) with
  | false =>
    rw [c1] at HV e1
    go_wp2_with fail
    go_ret
    exact ⟨ret_bool (by rw [HV.out]; rfl), HB.out⟩
  | true =>
    cases c2 : (h.num == d) with
    | false =>
      rw [c1, c2] at HV
      rw [c1] at e1
      rw [c2] at e2
      go_wp2_with fail
      go_ret
      exact ⟨ret_bool (by rw [HV.out]; rfl), HB.out⟩
    | true =>
      cases c3 : ((m.length : Int) == p + i) with
      | false =>
        rw [c1, c2, c3] at HV
        rw [c1] at e1
        rw [c2] at e2
        rw [c3] at e3
        go_wp2_with fail
        go_ret
        exact ⟨ret_bool (by rw [HV.out]; rfl), HB.out⟩
      | true =>
        rw [c1, c2, c3] at HV
        rw [c1] at e1
        rw [c2] at e2
        rw [c3] at e3
        have HV2 : Hid (ownV h m d p i first = ownL d p first m 0) := HV
        go_wp2_with fail
        clear e1 e2 e3 c1 c2 c3 HV
        generalize (w1.alloc (.cells #[.int .i64 h.kind, .int .i64 h.num, .slice a1 h.sub.length cap1] 24)) = wB at *
        go_loopw [38] (fun i wr => ∃ (k : Nat), k ≤ m.length ∧ i = .int .i64 k ∧ Hid (ownL d p first (m.drop k) k = ownL d p first m 0) ∧ Below w.heap.size w wr ∧ Below wB.heap.size wB wr) (fun i _ => m.length - (intOf i).toNat)
        case atStart => exact ⟨0, Nat.zero_le _, rfl, rfl, HB.out, Below.refl _ _⟩
        case round =>
          obtain ⟨k, hk, rfl, hs, hbel, hb1⟩ := hrel
          by_cases hlt : k < m.length
          · obtain ⟨bb, off, a', cap', rfl, e0, e1', e2', hts⟩ := sub_at HTM.out hb1 k hlt
            have hst : Hid (ownL d p first (m.drop k) k = (!(stT m[k] d) && !(decide ((k : Int) < p) && (m[k].kind != 1 || m[k].num != first - k)) && ownL d p first (m.drop (k + 1)) (k + 1))) := by
              show _ = _
              rw [List.drop_eq_getElem_cons hlt]
              simp only [ownL]
            have HTS := Lib.hid hts
            have FAIL : Hid ((!(stT m[k] d) && !(decide ((k : Int) < p) && (m[k].kind != 1 || m[k].num != first - k))) = false → false = ownV h m d p i first) := fun hh => by rw [HV2.out, ← hs.out, hst.out, hh]; rfl
            have GO : Hid ((!(stT m[k] d) && !(decide ((k : Int) < p) && (m[k].kind != 1 || m[k].num != first - k))) = true → ownL d p first (m.drop (k + 1)) (k + 1) = ownL d p first m 0) := fun hh => by rw [← hs.out, hst.out, hh]; rfl
            have hi0' : (0 : Int) ≤ k := by omega
            have hi1' : (k : Int) < m.length := by omega
            clear hts hst hs
            generalize m[k] = x at *
            cases hq : stT x d with
            | true =>
              have HQ := Lib.hid hq
              have F := Lib.hid (FAIL.out (by rw [hq]; rfl))
              clear hq
              go_wp2_with (go_at_call 69; refine (stands_any _ _ d _ HTS.out).mono ?_; rw [HQ.out]; rintro e w2 ⟨rfl, hb2⟩; have hbl : bb < wr.heap.size := World.block_lt_of_cell? wr _ e0; have e0 := (hb2.cell hbl).trans e0; have e1' := (hb2.cell hbl).trans e1'; have hwf := hbel.trans (hb2.mono hbel.size); have hw1f := hb1.trans (hb2.mono hb1.size); clear hb2)
              go_ret
              exact ⟨ret_bool F.out, hwf⟩
            | false =>
              have HQ := Lib.hid hq
              by_cases hkp : (k : Int) < p
              · cases q1 : (x.kind != 1) with
                | true =>
                  have F := Lib.hid (FAIL.out (by rw [hq, decide_eq_true hkp, q1]; rfl))
                  clear hq
                  go_wp2_with (go_at_call 69; refine (stands_any _ _ d _ HTS.out).mono ?_; rw [HQ.out]; rintro e w2 ⟨rfl, hb2⟩; have hbl : bb < wr.heap.size := World.block_lt_of_cell? wr _ e0; have e0 := (hb2.cell hbl).trans e0; have e1' := (hb2.cell hbl).trans e1'; have hwf := hbel.trans (hb2.mono hbel.size); have hw1f := hb1.trans (hb2.mono hb1.size); clear hb2)
                  go_ret
                  exact ⟨ret_bool F.out, hwf⟩
                | false =>
                  cases q2 : (x.num != first - k) with
                  | true =>
                    have F := Lib.hid (FAIL.out (by rw [hq, decide_eq_true hkp, q1, q2]; rfl))
                    clear hq
                    go_wp2_with (go_at_call 69; refine (stands_any _ _ d _ HTS.out).mono ?_; rw [HQ.out]; rintro e w2 ⟨rfl, hb2⟩; have hbl : bb < wr.heap.size := World.block_lt_of_cell? wr _ e0; have e0 := (hb2.cell hbl).trans e0; have e1' := (hb2.cell hbl).trans e1'; have hwf := hbel.trans (hb2.mono hbel.size); have hw1f := hb1.trans (hb2.mono hb1.size); clear hb2)
                    go_ret
                    exact ⟨ret_bool F.out, hwf⟩
                  | false =>
                    have G := Lib.hid (GO.out (by rw [hq, decide_eq_true hkp, q1, q2]; rfl))
                    clear hq
                    go_wp2_with (go_at_call 69; refine (stands_any _ _ d _ HTS.out).mono ?_; rw [HQ.out]; rintro e w2 ⟨rfl, hb2⟩; have hbl : bb < wr.heap.size := World.block_lt_of_cell? wr _ e0; have e0 := (hb2.cell hbl).trans e0; have e1' := (hb2.cell hbl).trans e1'; have hwf := hbel.trans (hb2.mono hbel.size); have hw1f := hb1.trans (hb2.mono hb1.size); clear hb2)
                    go_roundw
                    case rel => exact ⟨k + 1, hlt, by simp, G.out, hwf, hw1f⟩
                    case measure => simp [intOf]; omega
              · have G := Lib.hid (GO.out (by rw [hq, decide_eq_false hkp]; rfl))
                clear hq
                go_wp2_with (go_at_call 69; refine (stands_any _ _ d _ HTS.out).mono ?_; rw [HQ.out]; rintro e w2 ⟨rfl, hb2⟩; have hbl : bb < wr.heap.size := World.block_lt_of_cell? wr _ e0; have e0 := (hb2.cell hbl).trans e0; have e1' := (hb2.cell hbl).trans e1'; have hwf := hbel.trans (hb2.mono hbel.size); have hw1f := hb1.trans (hb2.mono hb1.size); clear hb2)
                go_roundw
                case rel => exact ⟨k + 1, hlt, by simp, G.out, hwf, hw1f⟩
                case measure => simp [intOf]; omega
          · have fin : Hid (true = ownV h m d p i first) := by
              show _ = _
              rw [HV2.out, ← hs.out, List.drop_of_length_le (by omega)]; simp only [ownL]
            go_wp2_with fail
            go_ret
            exact ⟨ret_bool fin.out, hbel⟩
end Go.Proofs.Ytackepdhcigdlaa
