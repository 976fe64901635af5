import Derived.Test.YtackepdhcigdlaaTm59
namespace Go.Proofs.Ytackepdhcigdlaa
open Go.RowKit
def lastI (L : List Int) : Int := L[L.length - 1]?.getD 0
def rgT (t : Tm) (f e : Int) : Bool := shapedB t && !decide (f < lsT t 0) && ((((nmT 6 7 t).length : Int) == 0) || decide (lastI (nmT 6 7 t) < e))
set_option maxRecDepth 100000 in
set_option maxHeartbeats 2000000 in
theorem right_any (t : Tm) (cs : List Value) (f m : Int) (w : World) (ht : TmC w t cs) :
    Calls Try.prog 45 #[.agg cs.toArray, .int .i64 f, .int .i64 m] w fun e w' => e = .returned (.bool (rgT t f m)) ∧ Below w.heap.size w w' := by
  have ht0 := ht
  obtain ⟨ad, cap, rfl, hsub, hlen⟩ := tm_open ht
  have hd : Below w.heap.size w (w.alloc (.cells #[.int .i64 t.kind, .int .i64 t.num, .slice ad t.sub.length cap] 24)) := (Below.refl _ _).alloc (Nat.le_refl _) _
  have BX := Lib.hid (Box3.new w (.int .i64 t.kind) (.int .i64 t.num) (.slice ad t.sub.length cap))
  have HD := Lib.hid hd
  have HT := Lib.hid ht0
  have SH := Lib.hid (shaped_any t _ _ (ht0.later hd))
  cases hb : shapedB t with
  | false =>
    have F : Hid (false = rgT t f m) := by show _ = _; unfold rgT; rw [hb]; rfl
    rw [hb] at SH
    clear ht ht0 hsub hd hb
    go_enter Try.func45, Try.ntmps45
    go_wp2_with fail
    refine SH.out.mono ?_
    rintro e w1 ⟨rfl, hb1⟩
    have HW1 := Lib.hid (HD.out.trans (hb1.mono HD.out.size))
    clear hb1
    go_wp2_with fail
    go_ret
    exact ⟨ret_bool F.out, HW1.out⟩
  | true =>
    have hsh := shaped_hg hb
    have hh := hsh.2.1
    have HG := Lib.hid hsh.1
    have hE : enT 6 7 t = nmT 6 7 t := if_pos hb
    have hnl := nm_len 6 7 t
    have hnd := hsh.2.2
    have HR : Hid (rgT t f m = (!decide (f < lsT t 0) && ((((nmT 6 7 t).length : Int) == 0) || decide (lastI (nmT 6 7 t) < m)))) := by show _ = _; unfold rgT; rw [hb]; rfl
    rw [hb] at SH
    have LO : Hid (∀ wz, Below w.heap.size w wz → Calls Try.prog 61 #[.agg #[.int .i64 t.kind, .int .i64 t.num, .slice ad t.sub.length cap], .int .i64 0] wz fun e w' => e = .returned (.int .i64 (lsT t 0)) ∧ Below wz.heap.size wz w') := fun wz hz => loose_any t _ 0 wz hsh.1 (by omega) (by omega) (HT.out.later hz)
    have EN : Hid (∀ wz, Below w.heap.size w wz → Calls Try.prog 38 #[.agg #[.int .i64 t.kind, .int .i64 t.num, .slice ad t.sub.length cap]] wz fun e w' => ∃ u c, e = .returned (.slice u (nmT 6 7 t).length c) ∧ Slc w' (.slice u (nmT 6 7 t).length c) ((nmT 6 7 t).map (Value.int .i64)) ∧ Below wz.heap.size wz w') := by
      intro wz hz
      have h := entries_any t _ wz (HT.out.later hz)
      rw [hE] at h
      exact h
    generalize hL : nmT 6 7 t = L at *
    have HLE := Lib.hid hL
    generalize hv : lsT t 0 = lv at *
    have HV := Lib.hid hv
    clear ht ht0 hsub hd hb hsh hE hL hv
    go_enter Try.func45, Try.ntmps45
    go_wp2_with fail
    refine SH.out.mono ?_
    rintro e w1 ⟨rfl, hb1⟩
    have BX1 := BX.out.later hb1 BX.out.lt
    obtain ⟨c0, c1, c2⟩ := BX1.cells
    have HW1 := Lib.hid (HD.out.trans (hb1.mono HD.out.size))
    have HBX1 := Lib.hid BX1
    clear hb1 BX1
    by_cases hf : f < lv
    · have F : Hid (false = rgT t f m) := by show _ = _; rw [HR.out, decide_eq_true hf]; rfl
      go_wp2_with (go_at_call 61; refine (LO.out _ HW1.out).mono ?_; rintro e w2 ⟨rfl, hb2⟩; have HW2 := Lib.hid (HW1.out.trans (hb2.mono HW1.out.size)); clear hb2)
      go_ret
      exact ⟨ret_bool F.out, HW2.out⟩
    · have HR2 : Hid (rgT t f m = (((L.length : Int) == 0) || decide (lastI L < m))) := by show _ = _; rw [HR.out, decide_eq_false hf]; rfl
      have hf' : lv ≤ f := by omega
      clear hf HR
      have hL9 : L.length ≤ 9223372036854775807 := by omega
      cases h0 : ((L.length : Int) == 0) with
      | true =>
        have F : Hid (true = rgT t f m) := by show _ = _; rw [HR2.out, h0]; rfl
        go_wp2_with (first | (go_at_call 61; refine (LO.out _ HW1.out).mono ?_; rintro e w2 ⟨rfl, hb2⟩; have HW2 := Lib.hid (HW1.out.trans (hb2.mono HW1.out.size)); obtain ⟨d0, d1, d2⟩ := (HBX1.out.later hb2 HBX1.out.lt).cells; clear hb2) | (go_at_call 38; refine (EN.out _ HW2.out).mono ?_; rintro e w3 ⟨u, c, rfl, hS, hb3⟩; have HW3 := Lib.hid (HW2.out.trans (hb3.mono HW2.out.size)); have HS := Lib.hid hS; clear hb3 hS))
        go_ret
        exact ⟨ret_bool F.out, HW3.out⟩
      | false =>
        have h1 : 0 < L.length := by rw [beq_eq_false_iff_ne] at h0; omega
        have F : Hid (decide (lastI L < m) = rgT t f m) := by show _ = _; rw [HR2.out, h0]; rfl
        have hlast : Hid (∀ h : L.length - 1 < L.length, L[L.length - 1] = lastI L) := by intro h; unfold lastI; rw [List.getElem?_eq_getElem h]; rfl
        clear HR2
        have hlt1 : Hid (L.length - 1 < (L.map (Value.int .i64)).length) := by
          show _ < _
          rw [List.length_map]
          omega
        generalize lastI L = x at *
        go_wp2_with (first | (go_at_call 61; refine (LO.out _ HW1.out).mono ?_; rintro e w2 ⟨rfl, hb2⟩; have HW2 := Lib.hid (HW1.out.trans (hb2.mono HW1.out.size)); obtain ⟨d0, d1, d2⟩ := (HBX1.out.later hb2 HBX1.out.lt).cells; clear hb2) | (go_at_call 38; refine (EN.out _ HW2.out).mono ?_; rintro e w3 ⟨u, c, rfl, hS, hb3⟩; have HW3 := Lib.hid (HW2.out.trans (hb3.mono HW2.out.size)); obtain ⟨bb, off, rfl, hc⟩ := slc_at hS (Below.refl _ _) (L.length - 1) hlt1.out; rw [List.getElem_map, hlast.out] at hc; have hi0 : (0 : Int) ≤ (L.length : Int) - 1 := (by omega); have hi1 : (L.length : Int) - 1 < L.length := (by omega); have hi2 : ((L.length : Int) - 1).toNat = L.length - 1 := (by omega); clear hb3 hS))
        go_ret
        exact ⟨ret_bool F.out, HW3.out⟩
theorem cl_bd (a b : Int) : ∀ t : Tm, goodB t = true → ∀ y ∈ clT a b t, 0 ≤ y ∧ y ≤ 1048576 := by
  refine Tm.ind ?_
  intro k n sub ih hg
  obtain ⟨hh, hs⟩ := good_parts hg
  have hn := head_num hh
  have : ∀ (l : List Tm), (∀ s ∈ l, goodB s = true → ∀ y ∈ clT a b s, 0 ≤ y ∧ y ≤ 1048576) → (∀ s ∈ l, goodB s = true) → ∀ y ∈ clS a b l, 0 ≤ y ∧ y ≤ 1048576 := by
    intro l
    induction l with
    | nil => intro _ _ y hy; simp [clS] at hy
    | cons t ts iht =>
      intro h1 h2 y hy
      simp only [clS, List.mem_append] at hy
      rcases hy with hy | hy
      · exact h1 t (by simp) (h2 t (by simp)) y hy
      · exact iht (fun s hs => h1 s (by simp [hs])) (fun s hs => h2 s (by simp [hs])) y hy
  intro y hy
  simp only [clT, List.mem_append] at hy
  rcases hy with hy | hy
  · split at hy
    · simp at hy; omega
    · simp at hy
  · exact this sub ih hs y hy
theorem last_bd (t : Tm) (hg : goodB t = true) : 0 ≤ lastI (nmT 6 7 t) ∧ lastI (nmT 6 7 t) ≤ 1048576 := by
  unfold lastI
  cases h : (nmT 6 7 t)[(nmT 6 7 t).length - 1]? with
  | none => simp
  | some x =>
    obtain ⟨hi, hx⟩ := List.getElem?_eq_some_iff.1 h
    have hm : x ∈ nmT 6 7 t := by rw [← hx]; exact List.getElem_mem hi
    rw [nm_cl] at hm
    exact cl_bd 6 7 t hg x hm
theorem rg_false {t : Tm} (h : shapedB t = false) (f e : Int) : rgT t f e = false := by unfold rgT; rw [h]; rfl
theorem rg_low {t : Tm} {f e : Int} (h : f < lsT t 0) : rgT t f e = false := by
  unfold rgT
  rw [decide_eq_true h]
  simp
theorem rg_ok {t : Tm} (hs : shapedB t = true) {f e : Int} (h1 : lsT t 0 ≤ f) (h2 : (nmT 6 7 t).length = 0 ∨ lastI (nmT 6 7 t) < e) : rgT t f e = true := by
  unfold rgT
  rw [hs, decide_eq_false (by omega)]
  rcases h2 with h2 | h2
  · rw [h2]; rfl
  · rw [decide_eq_true h2]; simp
theorem rg_few {t : Tm} {f e : Int} (h1 : 0 < (nmT 6 7 t).length) (h2 : e ≤ lastI (nmT 6 7 t)) : rgT t f e = false := by
  unfold rgT
  have e1 : ((((nmT 6 7 t).length : Nat) : Int) == 0) = false := by rw [beq_eq_false_iff_ne]; omega
  rw [e1, decide_eq_false (p := lastI (nmT 6 7 t) < e) (by omega)]
  simp
set_option maxRecDepth 100000 in
set_option maxHeartbeats 4000000 in
theorem loose_law (t : Tm) (cs : List Value) (x : Int) (hx0 : 0 ≤ x) (hx1 : x ≤ 255) (w : World) (ht : TmC w t cs) :
    Calls Try.prog 9 #[.agg cs.toArray, .int .u8 x] w fun e w' => e = .returned (.bool true) ∧ Below w.heap.size w w' := by
  have ht0 := ht
  obtain ⟨ad, cap, rfl, hsub, hlen⟩ := tm_open ht
  have hd : Below w.heap.size w (w.alloc (.cells #[.int .i64 t.kind, .int .i64 t.num, .slice ad t.sub.length cap] 24)) := (Below.refl _ _).alloc (Nat.le_refl _) _
  have BX := Lib.hid (Box3.new w (.int .i64 t.kind) (.int .i64 t.num) (.slice ad t.sub.length cap))
  have HD := Lib.hid hd
  have HT := Lib.hid ht0
  have SH := Lib.hid (rshaped_any t _ _ (ht0.later hd))
  have RG : Hid (∀ (f m : Int) wz, Below w.heap.size w wz → Calls Try.prog 45 #[.agg #[.int .i64 t.kind, .int .i64 t.num, .slice ad t.sub.length cap], .int .i64 f, .int .i64 m] wz fun e w' => e = .returned (.bool (rgT t f m)) ∧ Below wz.heap.size wz w') := fun f m wz hz => right_any t _ f m wz (HT.out.later hz)
  cases hb : shapedB t with
  | false =>
    have R99 := Lib.hid (rg_false hb 99 99)
    rw [hb] at SH
    clear ht ht0 hsub hd hb
    go_enter Try.func9, Try.ntmps9
    go_wp2_with fail
    refine SH.out.mono ?_
    rintro e w1 ⟨rfl, hb1⟩
    obtain ⟨c0, c1, c2⟩ := (BX.out.later hb1 BX.out.lt).cells
    have HW1 := Lib.hid (HD.out.trans (hb1.mono HD.out.size))
    clear hb1
    go_wp2_with (first | (go_at_call 45; refine (RG.out _ _ _ HW1.out).mono ?_; rw [R99.out]; rintro e w2 ⟨rfl, hb2⟩; have HW2 := Lib.hid (HW1.out.trans (hb2.mono HW1.out.size)); clear hb2) | (go_at_call 16; refine (awake_any _).mono ?_; rintro e w6 ⟨rfl, r6⟩))
    go_ret
    exact ⟨rfl, HW2.out.trans (r6.mono HW2.out.size)⟩
  | true =>
    have hsh := shaped_hg hb
    have hE : enT 6 7 t = nmT 6 7 t := if_pos hb
    have hnl := nm_len 6 7 t
    have hnd := hsh.2.2
    have hlb := last_bd t hsh.1
    have hls := ls_bd t 0 hsh.1 (by omega)
    have hLO : looseT t = lsT t 0 := if_pos hb
    have R1 : Hid (∀ f e : Int, lsT t 0 ≤ f → ((nmT 6 7 t).length = 0 ∨ lastI (nmT 6 7 t) < e) → rgT t f e = true) := fun f e => rg_ok hb
    have R2 : Hid (∀ f e : Int, f < lsT t 0 → rgT t f e = false) := fun f e => rg_low
    have R3 : Hid (∀ f e : Int, 0 < (nmT 6 7 t).length → e ≤ lastI (nmT 6 7 t) → rgT t f e = false) := fun f e => rg_few
    rw [hb] at SH
    have LO : Hid (∀ wz, Below w.heap.size w wz → Calls Try.prog 40 #[.agg #[.int .i64 t.kind, .int .i64 t.num, .slice ad t.sub.length cap]] wz fun e w' => e = .returned (.int .i64 (lsT t 0)) ∧ Below wz.heap.size wz w') := by
      intro wz hz
      have h := loose0_any t _ wz (HT.out.later hz)
      rw [hLO] at h
      exact h
    have EN : Hid (∀ wz, Below w.heap.size w wz → Calls Try.prog 38 #[.agg #[.int .i64 t.kind, .int .i64 t.num, .slice ad t.sub.length cap]] wz fun e w' => ∃ u c, e = .returned (.slice u (nmT 6 7 t).length c) ∧ Slc w' (.slice u (nmT 6 7 t).length c) ((nmT 6 7 t).map (Value.int .i64)) ∧ Below wz.heap.size wz w') := by
      intro wz hz
      have h := entries_any t _ wz (HT.out.later hz)
      rw [hE] at h
      exact h
    have hlast : Hid (∀ h : (nmT 6 7 t).length - 1 < (nmT 6 7 t).length, (nmT 6 7 t)[(nmT 6 7 t).length - 1] = lastI (nmT 6 7 t)) := by intro h; unfold lastI; rw [List.getElem?_eq_getElem h]; rfl
    generalize nmT 6 7 t = L at *
    generalize lsT t 0 = n at *
    generalize lastI L = q at *
    clear ht ht0 hsub hd hb hsh hE hLO
    have hL9 : L.length ≤ 9223372036854775807 := by omega
    go_enter Try.func9, Try.ntmps9
    go_wp2_with fail
    refine SH.out.mono ?_
    rintro e w1 ⟨rfl, hb1⟩
    have BX1 := BX.out.later hb1 BX.out.lt
    obtain ⟨c0, c1, c2⟩ := BX1.cells
    have HBX1 := Lib.hid BX1
    have HW1 := Lib.hid (HD.out.trans (hb1.mono HD.out.size))
    clear hb1 BX1
    go_wp2_with fail
    refine (LO.out _ HW1.out).mono ?_
    rintro e w2 ⟨rfl, hb2⟩
    have BX2 := HBX1.out.later hb2 HBX1.out.lt
    clear c0 c1 c2
    obtain ⟨c0, c1, c2⟩ := BX2.cells
    have HBX2 := Lib.hid BX2
    have HW2 := Lib.hid (HW1.out.trans (hb2.mono HW1.out.size))
    clear hb2 BX2
    go_wp2_with fail
    refine (EN.out _ HW2.out).mono ?_
    rintro e w3 ⟨u, c, rfl, hS, hb3⟩
    have BX3 := HBX2.out.later hb3 HBX2.out.lt
    clear c0 c1 c2
    obtain ⟨c0, c1, c2⟩ := BX3.cells
    have HBX3 := Lib.hid BX3
    have HW3 := Lib.hid (HW2.out.trans (hb3.mono HW2.out.size))
    have HS := Lib.hid hS
    clear hb3 BX3 hS
    by_cases h0 : L.length = 0
    · have h0' : ¬ (0 < (L.length : Int)) := by omega
      have h0'' : (L.length : Int) ≤ 0 := by omega
      have V1 := Lib.hid (R1.out n (0) (by omega) (by omega))
      have V2 := Lib.hid (R1.out (n + x) (x) (by omega) (by omega))
      by_cases hn0 : n = 0
      · have hn1 : (n == 0) = true := by rw [hn0]; rfl
        clear hn0
        go_wp2_with fail
        refine (RG.out _ _ _ HW3.out).mono ?_
        rw [V1.out]
        rintro e w4 ⟨rfl, hb4⟩
        have BX4 := HBX3.out.later hb4 HBX3.out.lt
        clear c0 c1 c2
        obtain ⟨c0, c1, c2⟩ := BX4.cells
        have HBX4 := Lib.hid BX4
        have HW4 := Lib.hid (HW3.out.trans (hb4.mono HW3.out.size))
        clear hb4 BX4
        go_wp2_with fail
        refine (RG.out _ _ _ HW4.out).mono ?_
        rw [V2.out]
        rintro e w5 ⟨rfl, hb5⟩
        have BX5 := HBX4.out.later hb5 HBX4.out.lt
        clear c0 c1 c2
        obtain ⟨c0, c1, c2⟩ := BX5.cells
        have HBX5 := Lib.hid BX5
        have HW5 := Lib.hid (HW4.out.trans (hb5.mono HW4.out.size))
        clear hb5 BX5
        go_wp2_with (go_at_call 16; refine (awake_any _).mono ?_; rintro e w99 ⟨rfl, r6⟩)
        go_ret
        exact ⟨rfl, HW5.out.trans (r6.mono HW5.out.size)⟩
      · have hn1 : (n == 0) = false := by simpa using hn0
        have V3 := Lib.hid (R2.out (n - 1) (0) (by omega))
        clear hn0
        go_wp2_with fail
        refine (RG.out _ _ _ HW3.out).mono ?_
        rw [V1.out]
        rintro e w4 ⟨rfl, hb4⟩
        have BX4 := HBX3.out.later hb4 HBX3.out.lt
        clear c0 c1 c2
        obtain ⟨c0, c1, c2⟩ := BX4.cells
        have HBX4 := Lib.hid BX4
        have HW4 := Lib.hid (HW3.out.trans (hb4.mono HW3.out.size))
        clear hb4 BX4
        go_wp2_with fail
        refine (RG.out _ _ _ HW4.out).mono ?_
        rw [V2.out]
        rintro e w5 ⟨rfl, hb5⟩
        have BX5 := HBX4.out.later hb5 HBX4.out.lt
        clear c0 c1 c2
        obtain ⟨c0, c1, c2⟩ := BX5.cells
        have HBX5 := Lib.hid BX5
        have HW5 := Lib.hid (HW4.out.trans (hb5.mono HW4.out.size))
        clear hb5 BX5
        go_wp2_with fail
        refine (RG.out _ _ _ HW5.out).mono ?_
        rw [V3.out]
        rintro e w6 ⟨rfl, hb6⟩
        have BX6 := HBX5.out.later hb6 HBX5.out.lt
        clear c0 c1 c2
        obtain ⟨c0, c1, c2⟩ := BX6.cells
        have HBX6 := Lib.hid BX6
        have HW6 := Lib.hid (HW5.out.trans (hb6.mono HW5.out.size))
        clear hb6 BX6
        go_wp2_with (go_at_call 16; refine (awake_any _).mono ?_; rintro e w99 ⟨rfl, r6⟩)
        go_ret
        exact ⟨rfl, HW6.out.trans (r6.mono HW6.out.size)⟩
    · have h0' : 0 < (L.length : Int) := by omega
      have hlt1 : Hid (L.length - 1 < (L.map (Value.int .i64)).length) := by
        show _ < _
        rw [List.length_map]
        omega
      obtain ⟨bb, off, rfl, hc⟩ := slc_at HS.out (Below.refl _ _) (L.length - 1) hlt1.out
      rw [List.getElem_map, hlast.out] at hc
      have hi0 : (0 : Int) ≤ (L.length : Int) - 1 := by omega
      have hi1 : (L.length : Int) - 1 < L.length := by omega
      have hi2 : ((L.length : Int) - 1).toNat = L.length - 1 := by omega
      have hm0 : (q + 1 == 0) = false := by rw [beq_eq_false_iff_ne]; omega
      have V1 := Lib.hid (R1.out n (q + 1) (by omega) (by omega))
      have V2 := Lib.hid (R1.out (n + x) (q + 1 + x) (by omega) (by omega))
      have V4 := Lib.hid (R3.out n (q) (by omega) (by omega))
      by_cases hn0 : n = 0
      · have hn1 : (n == 0) = true := by rw [hn0]; rfl
        clear hn0
        go_wp2_with fail
        refine (RG.out _ _ _ HW3.out).mono ?_
        rw [V1.out]
        rintro e w4 ⟨rfl, hb4⟩
        have BX4 := HBX3.out.later hb4 HBX3.out.lt
        clear c0 c1 c2
        obtain ⟨c0, c1, c2⟩ := BX4.cells
        have HBX4 := Lib.hid BX4
        have HW4 := Lib.hid (HW3.out.trans (hb4.mono HW3.out.size))
        clear hb4 BX4
        go_wp2_with fail
        refine (RG.out _ _ _ HW4.out).mono ?_
        rw [V2.out]
        rintro e w5 ⟨rfl, hb5⟩
        have BX5 := HBX4.out.later hb5 HBX4.out.lt
        clear c0 c1 c2
        obtain ⟨c0, c1, c2⟩ := BX5.cells
        have HBX5 := Lib.hid BX5
        have HW5 := Lib.hid (HW4.out.trans (hb5.mono HW4.out.size))
        clear hb5 BX5
        go_wp2_with fail
        refine (RG.out _ _ _ HW5.out).mono ?_
        rw [V4.out]
        rintro e w6 ⟨rfl, hb6⟩
        have BX6 := HBX5.out.later hb6 HBX5.out.lt
        clear c0 c1 c2
        obtain ⟨c0, c1, c2⟩ := BX6.cells
        have HBX6 := Lib.hid BX6
        have HW6 := Lib.hid (HW5.out.trans (hb6.mono HW5.out.size))
        clear hb6 BX6
        go_wp2_with (go_at_call 16; refine (awake_any _).mono ?_; rintro e w99 ⟨rfl, r6⟩)
        go_ret
        exact ⟨rfl, HW6.out.trans (r6.mono HW6.out.size)⟩
      · have hn1 : (n == 0) = false := by simpa using hn0
        have V3 := Lib.hid (R2.out (n - 1) (q + 1) (by omega))
        clear hn0
        go_wp2_with fail
        refine (RG.out _ _ _ HW3.out).mono ?_
        rw [V1.out]
        rintro e w4 ⟨rfl, hb4⟩
        have BX4 := HBX3.out.later hb4 HBX3.out.lt
        clear c0 c1 c2
        obtain ⟨c0, c1, c2⟩ := BX4.cells
        have HBX4 := Lib.hid BX4
        have HW4 := Lib.hid (HW3.out.trans (hb4.mono HW3.out.size))
        clear hb4 BX4
        go_wp2_with fail
        refine (RG.out _ _ _ HW4.out).mono ?_
        rw [V2.out]
        rintro e w5 ⟨rfl, hb5⟩
        have BX5 := HBX4.out.later hb5 HBX4.out.lt
        clear c0 c1 c2
        obtain ⟨c0, c1, c2⟩ := BX5.cells
        have HBX5 := Lib.hid BX5
        have HW5 := Lib.hid (HW4.out.trans (hb5.mono HW4.out.size))
        clear hb5 BX5
        go_wp2_with fail
        refine (RG.out _ _ _ HW5.out).mono ?_
        rw [V3.out]
        rintro e w6 ⟨rfl, hb6⟩
        have BX6 := HBX5.out.later hb6 HBX5.out.lt
        clear c0 c1 c2
        obtain ⟨c0, c1, c2⟩ := BX6.cells
        have HBX6 := Lib.hid BX6
        have HW6 := Lib.hid (HW5.out.trans (hb6.mono HW5.out.size))
        clear hb6 BX6
        go_wp2_with fail
        refine (RG.out _ _ _ HW6.out).mono ?_
        rw [V4.out]
        rintro e w7 ⟨rfl, hb7⟩
        have BX7 := HBX6.out.later hb7 HBX6.out.lt
        clear c0 c1 c2
        obtain ⟨c0, c1, c2⟩ := BX7.cells
        have HBX7 := Lib.hid BX7
        have HW7 := Lib.hid (HW6.out.trans (hb7.mono HW6.out.size))
        clear hb7 BX7
        go_wp2_with (go_at_call 16; refine (awake_any _).mono ?_; rintro e w99 ⟨rfl, r6⟩)
        go_ret
        exact ⟨rfl, HW7.out.trans (r6.mono HW7.out.size)⟩
theorem ints_self {xs : List Int} {v u : Value} {w : World} (hv : Slc w v (xs.map (Value.int .i64))) (hu : Slc w u (xs.map (Value.int .i64))) :
    Calls Try.prog 42 #[v, u] w fun e w' => e = .returned (.bool true) ∧ Below w.heap.size w w' := by
  have h := same_ints_any xs xs v u w hv hu
  rw [decide_eq_true rfl] at h
  exact h
theorem rloose0_any (t : Tm) (cs : List Value) (w : World) (hs : shapedB t = true) (ht : TmC w t cs) :
    Calls Try.prog 44 #[.agg cs.toArray, .int .i64 0] w fun e w' => e = .returned (.int .i64 (looseT t)) ∧ Below w.heap.size w w' := by
  have h := shaped_hg hs
  have hE : looseT t = lsT t 0 := if_pos hs
  rw [hE]
  exact rloose_any t cs 0 w h.1 (by omega) (by omega) ht
theorem frees_sh (t : Tm) (cs : List Value) (w : World) (hs : shapedB t = true) (ht : TmC w t cs) :
    Calls Try.prog 37 #[.agg cs.toArray] w fun e w' => ∃ u c, e = .returned (.slice u (nmT 8 8 t).length c) ∧ Slc w' (.slice u (nmT 8 8 t).length c) ((nmT 8 8 t).map (Value.int .i64)) ∧ Below w.heap.size w w' := by
  have h := frees_any t cs w ht
  rw [show enT 8 8 t = nmT 8 8 t from if_pos hs] at h
  exact h
theorem entries_sh (t : Tm) (cs : List Value) (w : World) (hs : shapedB t = true) (ht : TmC w t cs) :
    Calls Try.prog 38 #[.agg cs.toArray] w fun e w' => ∃ u c, e = .returned (.slice u (nmT 6 7 t).length c) ∧ Slc w' (.slice u (nmT 6 7 t).length c) ((nmT 6 7 t).map (Value.int .i64)) ∧ Below w.heap.size w w' := by
  have h := entries_any t cs w ht
  rw [show enT 6 7 t = nmT 6 7 t from if_pos hs] at h
  exact h
theorem frees_un (t : Tm) (cs : List Value) (w : World) (hs : shapedB t = false) (ht : TmC w t cs) :
    Calls Try.prog 37 #[.agg cs.toArray] w fun e w' => ∃ u c, e = .returned (.slice u 0 c) ∧ Below w.heap.size w w' := by
  have h := frees_any t cs w ht
  rw [show enT 8 8 t = [] from if_neg (by rw [hs]; simp)] at h
  exact h.mono fun e w' ⟨u, c, h1, h2, h3⟩ => ⟨u, c, h1, h3⟩
theorem entries_un (t : Tm) (cs : List Value) (w : World) (hs : shapedB t = false) (ht : TmC w t cs) :
    Calls Try.prog 38 #[.agg cs.toArray] w fun e w' => ∃ u c, e = .returned (.slice u 0 c) ∧ Below w.heap.size w w' := by
  have h := entries_any t cs w ht
  rw [show enT 6 7 t = [] from if_neg (by rw [hs]; simp)] at h
  exact h.mono fun e w' ⟨u, c, h1, h2, h3⟩ => ⟨u, c, h1, h3⟩
theorem keepS {w cur new : World} {x y z : Value} (h : (cur.cell? ⟨w.heap.size, 0, none⟩ = some x ∧ cur.cell? ⟨w.heap.size, 1, none⟩ = some y ∧ cur.cell? ⟨w.heap.size, 2, none⟩ = some z) ∧ Below w.heap.size w cur ∧ w.heap.size < cur.heap.size) (hb : Below cur.heap.size cur new) :
    (new.cell? ⟨w.heap.size, 0, none⟩ = some x ∧ new.cell? ⟨w.heap.size, 1, none⟩ = some y ∧ new.cell? ⟨w.heap.size, 2, none⟩ = some z) ∧ Below w.heap.size w new ∧ w.heap.size < new.heap.size :=
  ⟨⟨(hb.cell h.2.2).trans h.1.1, (hb.cell h.2.2).trans h.1.2.1, (hb.cell h.2.2).trans h.1.2.2⟩, h.2.1.trans (hb.mono h.2.1.size), Nat.lt_of_lt_of_le h.2.2 hb.size⟩
set_option maxRecDepth 100000 in
set_option maxHeartbeats 4000000 in
theorem numbers_law (t : Tm) (cs : List Value) (n : Int) (w : World) (ht : TmC w t cs) :
    Calls Try.prog 8 #[.agg cs.toArray, .int .i64 n] w fun e w' => e = .returned (.bool true) ∧ Below w.heap.size w w' := by
  have ht0 := ht
  obtain ⟨ad, cap, rfl, hsub, hlen⟩ := tm_open ht
  have hd : Below w.heap.size w (w.alloc (.cells #[.int .i64 t.kind, .int .i64 t.num, .slice ad t.sub.length cap] 24)) := (Below.refl _ _).alloc (Nat.le_refl _) _
  have BX := Lib.hid (Box3.new w (.int .i64 t.kind) (.int .i64 t.num) (.slice ad t.sub.length cap))
  have HD := Lib.hid hd
  have HT := Lib.hid ht0
  have SH := Lib.hid (rshaped_any t _ _ (ht0.later hd))
  cases hb : shapedB t with
  | false =>
    rw [hb] at SH
    have HSF := Lib.hid hb
    have hhas : Hid (hasT t n = false) := by show _ = _; unfold hasT; rw [hb]; simp
    have hlo : Hid (looseT t = 0) := if_neg (by rw [hb]; simp)
    clear ht ht0 hsub hd hb
    go_enter Try.func8, Try.ntmps8
    go_wp2_with fail
    refine SH.out.mono ?_
    rintro e w1 ⟨rfl, hb1⟩
    have BX1 := BX.out.later hb1 BX.out.lt
    obtain ⟨c0, c1, c2⟩ := BX1.cells
    have HW1 := Lib.hid (HD.out.trans (hb1.mono HD.out.size))
    have HBX1 := Lib.hid BX1
    clear hb1 BX1
    go_wp2_with fail
    refine (frees_un t _ _ HSF.out (HT.out.later HW1.out)).mono ?_
    rintro e w2 ⟨u2, k2, rfl, hb2⟩
    have BX2 := HBX1.out.later hb2 HBX1.out.lt
    clear c0 c1 c2
    obtain ⟨c0, c1, c2⟩ := BX2.cells
    have HW2 := Lib.hid (HW1.out.trans (hb2.mono HW1.out.size))
    have HBX2 := Lib.hid BX2
    clear hb2 BX2
    go_wp2_with fail
    refine (entries_un t _ _ HSF.out (HT.out.later HW2.out)).mono ?_
    rintro e w3 ⟨u3, k3, rfl, hb3⟩
    have BX3 := HBX2.out.later hb3 HBX2.out.lt
    clear c0 c1 c2
    obtain ⟨c0, c1, c2⟩ := BX3.cells
    have HW3 := Lib.hid (HW2.out.trans (hb3.mono HW2.out.size))
    have HBX3 := Lib.hid BX3
    clear hb3 BX3
    go_wp2_with fail
    refine (has0_any t _ n _ (HT.out.later HW3.out)).mono ?_
    rw [hhas.out]
    rintro e w4 ⟨rfl, hb4⟩
    have BX4 := HBX3.out.later hb4 HBX3.out.lt
    clear c0 c1 c2
    obtain ⟨c0, c1, c2⟩ := BX4.cells
    have HW4 := Lib.hid (HW3.out.trans (hb4.mono HW3.out.size))
    clear hb4 BX4
    go_wp2_with fail
    refine (loose0_any t _ _ (HT.out.later HW4.out)).mono ?_
    rw [hlo.out]
    rintro e w5 ⟨rfl, hb5⟩
    have HW5 := Lib.hid (HW4.out.trans (hb5.mono HW4.out.size))
    clear hb5
    go_wp2_with (go_at_call 16; refine (awake_any _).mono ?_; rintro e w6 ⟨rfl, r6⟩)
    go_ret
    exact ⟨rfl, HW5.out.trans (r6.mono HW5.out.size)⟩
  | true =>
    have HSF := Lib.hid hb
    have hsh := shaped_hg hb
    have HND : Hid (ndT t ≤ 20000) := by show _ ≤ _; omega
    have HG := Lib.hid hsh.1
    have hh := hsh.2.1
    rw [hb] at SH
    by_cases h0 : 0 ≤ n
    · by_cases h1 : n ≤ 1048576
      · cases hq : hasT t n with
        | true =>
          have HQ := Lib.hid hq
          clear ht ht0 hsub hd hb hsh
          go_enter Try.func8, Try.ntmps8
          go_wp2_with fail
          refine SH.out.mono ?_
          rintro e w1 ⟨rfl, hb1⟩
          have BX1 := BX.out.later hb1 BX.out.lt
          obtain ⟨c0, c1, c2⟩ := BX1.cells
          have HW1 := Lib.hid (HD.out.trans (hb1.mono HD.out.size))
          have HBX1 := Lib.hid BX1
          clear hb1 BX1
          have HSV := Lib.hid ((has_shaped HSF.out h0 h1).symm.trans hq)
          clear hq
          go_wp2_with fail
          refine (rhas_any t _ n _ HG.out h0 (by omega) (HT.out.later HW1.out)).mono ?_
          rw [HSV.out]
          rintro e w2 ⟨rfl, hb2⟩
          have BX2 := HBX1.out.later hb2 HBX1.out.lt
          clear c0 c1 c2
          obtain ⟨c0, c1, c2⟩ := BX2.cells
          have HWX := Lib.hid (HW1.out.trans (hb2.mono HW1.out.size))
          have HBX := Lib.hid BX2
          clear hb2 BX2
          go_wp2_with fail
          have HW0 : Hid (Below w.heap.size w w2.drew) := HWX.out.drew
          have HS0 : Hid ((w2.drew.cell? ⟨w.heap.size, 0, none⟩ = some (.int .i64 t.kind) ∧ w2.drew.cell? ⟨w.heap.size, 1, none⟩ = some (.int .i64 t.num) ∧ w2.drew.cell? ⟨w.heap.size, 2, none⟩ = some (.slice ad t.sub.length cap)) ∧ Below w.heap.size w w2.drew ∧ w.heap.size < w2.drew.heap.size) := ⟨⟨c0, c1, c2⟩, HWX.out.drew, HBX.out.lt⟩
          go_region_held3 (fun w' => (w'.cell? ⟨w.heap.size, 0, none⟩ = some (.int .i64 t.kind) ∧ w'.cell? ⟨w.heap.size, 1, none⟩ = some (.int .i64 t.num) ∧ w'.cell? ⟨w.heap.size, 2, none⟩ = some (.slice ad t.sub.length cap)) ∧ Below w.heap.size w w' ∧ w.heap.size < w'.heap.size) (first | exact keepS ‹(_ ∧ _ ∧ _) ∧ Below w.heap.size w _ ∧ _› hbc | exact keepS HS0.out hbc | exact HS0.out) (first | (go_at_call 37; refine (frees_sh t _ _ HSF.out (HT.out.later (by first | exact HW0.out | exact (‹(_ ∧ _ ∧ _) ∧ Below w.heap.size w _ ∧ _›).2.1))).mono ?_; rintro e wf ⟨uf, kf, rfl, hSf, hbc⟩) | (go_at_call 38; refine (entries_sh t _ _ HSF.out (HT.out.later (by first | exact HW0.out | exact (‹(_ ∧ _ ∧ _) ∧ Below w.heap.size w _ ∧ _›).2.1))).mono ?_; rintro e wf ⟨uf, kf, rfl, hSe, hbc⟩) | (go_at_call 43; refine (numbers_any _ _ t _ _ HND.out (HT.out.later (by first | exact HW0.out | exact (‹(_ ∧ _ ∧ _) ∧ Below w.heap.size w _ ∧ _›).2.1))).mono ?_; rintro e wn ⟨un, kn, rfl, hSn, hbc⟩) | (go_at_call 42; (first | refine (ints_self (hSe.later hbc) hSn).mono ?_ | refine (ints_self hSe (hSn.later hbc)).mono ?_ | refine (ints_self (hSf.later hbc) hSn).mono ?_ | refine (ints_self hSf (hSn.later hbc)).mono ?_); rintro e ws ⟨rfl, hbc⟩) | (go_at_call 39; refine (has0_any t _ n _ (HT.out.later (by first | exact HW0.out | exact (‹(_ ∧ _ ∧ _) ∧ Below w.heap.size w _ ∧ _›).2.1))).mono ?_; rw [HQ.out]; rintro e wh ⟨rfl, hbc⟩) | (go_at_call 40; refine (loose0_any t _ _ (HT.out.later (by first | exact HW0.out | exact (‹(_ ∧ _ ∧ _) ∧ Below w.heap.size w _ ∧ _›).2.1))).mono ?_; rintro e wl ⟨rfl, hbc⟩) | (go_at_call 44; refine (rloose0_any t _ _ HSF.out (HT.out.later (by first | exact HW0.out | exact (‹(_ ∧ _ ∧ _) ∧ Below w.heap.size w _ ∧ _›).2.1))).mono ?_; rintro e wl ⟨rfl, hbc⟩) | (go_at_call 16; refine (awake_any _).mono ?_; rintro e wa ⟨rfl, hbc⟩))
          have hend := (‹(_ ∧ _ ∧ _) ∧ Below w.heap.size w _ ∧ _›).2.1
          go_wp2_with fail
          go_ret
          exact ⟨rfl, hend⟩

        | false =>
          have HQ := Lib.hid hq
          clear ht ht0 hsub hd hb hsh
          go_enter Try.func8, Try.ntmps8
          go_wp2_with fail
          refine SH.out.mono ?_
          rintro e w1 ⟨rfl, hb1⟩
          have BX1 := BX.out.later hb1 BX.out.lt
          obtain ⟨c0, c1, c2⟩ := BX1.cells
          have HW1 := Lib.hid (HD.out.trans (hb1.mono HD.out.size))
          have HBX1 := Lib.hid BX1
          clear hb1 BX1
          have HSV := Lib.hid ((has_shaped HSF.out h0 h1).symm.trans hq)
          clear hq
          go_wp2_with fail
          refine (rhas_any t _ n _ HG.out h0 (by omega) (HT.out.later HW1.out)).mono ?_
          rw [HSV.out]
          rintro e w2 ⟨rfl, hb2⟩
          have BX2 := HBX1.out.later hb2 HBX1.out.lt
          clear c0 c1 c2
          obtain ⟨c0, c1, c2⟩ := BX2.cells
          have HWX := Lib.hid (HW1.out.trans (hb2.mono HW1.out.size))
          have HBX := Lib.hid BX2
          clear hb2 BX2
          go_wp2_with fail
          have HW0 : Hid (Below w.heap.size w w2.drew) := HWX.out.drew
          have HS0 : Hid ((w2.drew.cell? ⟨w.heap.size, 0, none⟩ = some (.int .i64 t.kind) ∧ w2.drew.cell? ⟨w.heap.size, 1, none⟩ = some (.int .i64 t.num) ∧ w2.drew.cell? ⟨w.heap.size, 2, none⟩ = some (.slice ad t.sub.length cap)) ∧ Below w.heap.size w w2.drew ∧ w.heap.size < w2.drew.heap.size) := ⟨⟨c0, c1, c2⟩, HWX.out.drew, HBX.out.lt⟩
          go_region_held3 (fun w' => (w'.cell? ⟨w.heap.size, 0, none⟩ = some (.int .i64 t.kind) ∧ w'.cell? ⟨w.heap.size, 1, none⟩ = some (.int .i64 t.num) ∧ w'.cell? ⟨w.heap.size, 2, none⟩ = some (.slice ad t.sub.length cap)) ∧ Below w.heap.size w w' ∧ w.heap.size < w'.heap.size) (first | exact keepS ‹(_ ∧ _ ∧ _) ∧ Below w.heap.size w _ ∧ _› hbc | exact keepS HS0.out hbc | exact HS0.out) (first | (go_at_call 37; refine (frees_sh t _ _ HSF.out (HT.out.later (by first | exact HW0.out | exact (‹(_ ∧ _ ∧ _) ∧ Below w.heap.size w _ ∧ _›).2.1))).mono ?_; rintro e wf ⟨uf, kf, rfl, hSf, hbc⟩) | (go_at_call 38; refine (entries_sh t _ _ HSF.out (HT.out.later (by first | exact HW0.out | exact (‹(_ ∧ _ ∧ _) ∧ Below w.heap.size w _ ∧ _›).2.1))).mono ?_; rintro e wf ⟨uf, kf, rfl, hSe, hbc⟩) | (go_at_call 43; refine (numbers_any _ _ t _ _ HND.out (HT.out.later (by first | exact HW0.out | exact (‹(_ ∧ _ ∧ _) ∧ Below w.heap.size w _ ∧ _›).2.1))).mono ?_; rintro e wn ⟨un, kn, rfl, hSn, hbc⟩) | (go_at_call 42; (first | refine (ints_self (hSe.later hbc) hSn).mono ?_ | refine (ints_self hSe (hSn.later hbc)).mono ?_ | refine (ints_self (hSf.later hbc) hSn).mono ?_ | refine (ints_self hSf (hSn.later hbc)).mono ?_); rintro e ws ⟨rfl, hbc⟩) | (go_at_call 39; refine (has0_any t _ n _ (HT.out.later (by first | exact HW0.out | exact (‹(_ ∧ _ ∧ _) ∧ Below w.heap.size w _ ∧ _›).2.1))).mono ?_; rw [HQ.out]; rintro e wh ⟨rfl, hbc⟩) | (go_at_call 40; refine (loose0_any t _ _ (HT.out.later (by first | exact HW0.out | exact (‹(_ ∧ _ ∧ _) ∧ Below w.heap.size w _ ∧ _›).2.1))).mono ?_; rintro e wl ⟨rfl, hbc⟩) | (go_at_call 44; refine (rloose0_any t _ _ HSF.out (HT.out.later (by first | exact HW0.out | exact (‹(_ ∧ _ ∧ _) ∧ Below w.heap.size w _ ∧ _›).2.1))).mono ?_; rintro e wl ⟨rfl, hbc⟩) | (go_at_call 16; refine (awake_any _).mono ?_; rintro e wa ⟨rfl, hbc⟩))
          have hend := (‹(_ ∧ _ ∧ _) ∧ Below w.heap.size w _ ∧ _›).2.1
          go_wp2_with fail
          go_ret
          exact ⟨rfl, hend⟩

      · have hq : hasT t n = false := by unfold hasT; rw [decide_eq_true h0, decide_eq_false h1]; rfl
        have h1' : 1048576 < n := by omega
        clear h1
        have HQ := Lib.hid hq
        clear ht ht0 hsub hd hb hsh
        go_enter Try.func8, Try.ntmps8
        go_wp2_with fail
        refine SH.out.mono ?_
        rintro e w1 ⟨rfl, hb1⟩
        have BX1 := BX.out.later hb1 BX.out.lt
        obtain ⟨c0, c1, c2⟩ := BX1.cells
        have HW1 := Lib.hid (HD.out.trans (hb1.mono HD.out.size))
        have HBX1 := Lib.hid BX1
        clear hb1 BX1
        clear hq
        go_wp2_with fail
        have HBX := HBX1
        have HWX := HW1
        have HW0 : Hid (Below w.heap.size w w1.drew) := HWX.out.drew
        have HS0 : Hid ((w1.drew.cell? ⟨w.heap.size, 0, none⟩ = some (.int .i64 t.kind) ∧ w1.drew.cell? ⟨w.heap.size, 1, none⟩ = some (.int .i64 t.num) ∧ w1.drew.cell? ⟨w.heap.size, 2, none⟩ = some (.slice ad t.sub.length cap)) ∧ Below w.heap.size w w1.drew ∧ w.heap.size < w1.drew.heap.size) := ⟨⟨c0, c1, c2⟩, HWX.out.drew, HBX.out.lt⟩
        go_region_held3 (fun w' => (w'.cell? ⟨w.heap.size, 0, none⟩ = some (.int .i64 t.kind) ∧ w'.cell? ⟨w.heap.size, 1, none⟩ = some (.int .i64 t.num) ∧ w'.cell? ⟨w.heap.size, 2, none⟩ = some (.slice ad t.sub.length cap)) ∧ Below w.heap.size w w' ∧ w.heap.size < w'.heap.size) (first | exact keepS ‹(_ ∧ _ ∧ _) ∧ Below w.heap.size w _ ∧ _› hbc | exact keepS HS0.out hbc | exact HS0.out) (first | (go_at_call 37; refine (frees_sh t _ _ HSF.out (HT.out.later (by first | exact HW0.out | exact (‹(_ ∧ _ ∧ _) ∧ Below w.heap.size w _ ∧ _›).2.1))).mono ?_; rintro e wf ⟨uf, kf, rfl, hSf, hbc⟩) | (go_at_call 38; refine (entries_sh t _ _ HSF.out (HT.out.later (by first | exact HW0.out | exact (‹(_ ∧ _ ∧ _) ∧ Below w.heap.size w _ ∧ _›).2.1))).mono ?_; rintro e wf ⟨uf, kf, rfl, hSe, hbc⟩) | (go_at_call 43; refine (numbers_any _ _ t _ _ HND.out (HT.out.later (by first | exact HW0.out | exact (‹(_ ∧ _ ∧ _) ∧ Below w.heap.size w _ ∧ _›).2.1))).mono ?_; rintro e wn ⟨un, kn, rfl, hSn, hbc⟩) | (go_at_call 42; (first | refine (ints_self (hSe.later hbc) hSn).mono ?_ | refine (ints_self hSe (hSn.later hbc)).mono ?_ | refine (ints_self (hSf.later hbc) hSn).mono ?_ | refine (ints_self hSf (hSn.later hbc)).mono ?_); rintro e ws ⟨rfl, hbc⟩) | (go_at_call 39; refine (has0_any t _ n _ (HT.out.later (by first | exact HW0.out | exact (‹(_ ∧ _ ∧ _) ∧ Below w.heap.size w _ ∧ _›).2.1))).mono ?_; rw [HQ.out]; rintro e wh ⟨rfl, hbc⟩) | (go_at_call 40; refine (loose0_any t _ _ (HT.out.later (by first | exact HW0.out | exact (‹(_ ∧ _ ∧ _) ∧ Below w.heap.size w _ ∧ _›).2.1))).mono ?_; rintro e wl ⟨rfl, hbc⟩) | (go_at_call 44; refine (rloose0_any t _ _ HSF.out (HT.out.later (by first | exact HW0.out | exact (‹(_ ∧ _ ∧ _) ∧ Below w.heap.size w _ ∧ _›).2.1))).mono ?_; rintro e wl ⟨rfl, hbc⟩) | (go_at_call 16; refine (awake_any _).mono ?_; rintro e wa ⟨rfl, hbc⟩))
        have hend := (‹(_ ∧ _ ∧ _) ∧ Below w.heap.size w _ ∧ _›).2.1
        go_wp2_with fail
        go_ret
        exact ⟨rfl, hend⟩

    · have hq : hasT t n = false := by unfold hasT; rw [decide_eq_false h0]; rfl
      have h0' : n < 0 := by omega
      clear h0
      have HQ := Lib.hid hq
      clear ht ht0 hsub hd hb hsh
      go_enter Try.func8, Try.ntmps8
      go_wp2_with fail
      refine SH.out.mono ?_
      rintro e w1 ⟨rfl, hb1⟩
      have BX1 := BX.out.later hb1 BX.out.lt
      obtain ⟨c0, c1, c2⟩ := BX1.cells
      have HW1 := Lib.hid (HD.out.trans (hb1.mono HD.out.size))
      have HBX1 := Lib.hid BX1
      clear hb1 BX1
      clear hq
      go_wp2_with fail
      have HBX := HBX1
      have HWX := HW1
      have HW0 : Hid (Below w.heap.size w w1.drew) := HWX.out.drew
      have HS0 : Hid ((w1.drew.cell? ⟨w.heap.size, 0, none⟩ = some (.int .i64 t.kind) ∧ w1.drew.cell? ⟨w.heap.size, 1, none⟩ = some (.int .i64 t.num) ∧ w1.drew.cell? ⟨w.heap.size, 2, none⟩ = some (.slice ad t.sub.length cap)) ∧ Below w.heap.size w w1.drew ∧ w.heap.size < w1.drew.heap.size) := ⟨⟨c0, c1, c2⟩, HWX.out.drew, HBX.out.lt⟩
      go_region_held3 (fun w' => (w'.cell? ⟨w.heap.size, 0, none⟩ = some (.int .i64 t.kind) ∧ w'.cell? ⟨w.heap.size, 1, none⟩ = some (.int .i64 t.num) ∧ w'.cell? ⟨w.heap.size, 2, none⟩ = some (.slice ad t.sub.length cap)) ∧ Below w.heap.size w w' ∧ w.heap.size < w'.heap.size) (first | exact keepS ‹(_ ∧ _ ∧ _) ∧ Below w.heap.size w _ ∧ _› hbc | exact keepS HS0.out hbc | exact HS0.out) (first | (go_at_call 37; refine (frees_sh t _ _ HSF.out (HT.out.later (by first | exact HW0.out | exact (‹(_ ∧ _ ∧ _) ∧ Below w.heap.size w _ ∧ _›).2.1))).mono ?_; rintro e wf ⟨uf, kf, rfl, hSf, hbc⟩) | (go_at_call 38; refine (entries_sh t _ _ HSF.out (HT.out.later (by first | exact HW0.out | exact (‹(_ ∧ _ ∧ _) ∧ Below w.heap.size w _ ∧ _›).2.1))).mono ?_; rintro e wf ⟨uf, kf, rfl, hSe, hbc⟩) | (go_at_call 43; refine (numbers_any _ _ t _ _ HND.out (HT.out.later (by first | exact HW0.out | exact (‹(_ ∧ _ ∧ _) ∧ Below w.heap.size w _ ∧ _›).2.1))).mono ?_; rintro e wn ⟨un, kn, rfl, hSn, hbc⟩) | (go_at_call 42; (first | refine (ints_self (hSe.later hbc) hSn).mono ?_ | refine (ints_self hSe (hSn.later hbc)).mono ?_ | refine (ints_self (hSf.later hbc) hSn).mono ?_ | refine (ints_self hSf (hSn.later hbc)).mono ?_); rintro e ws ⟨rfl, hbc⟩) | (go_at_call 39; refine (has0_any t _ n _ (HT.out.later (by first | exact HW0.out | exact (‹(_ ∧ _ ∧ _) ∧ Below w.heap.size w _ ∧ _›).2.1))).mono ?_; rw [HQ.out]; rintro e wh ⟨rfl, hbc⟩) | (go_at_call 40; refine (loose0_any t _ _ (HT.out.later (by first | exact HW0.out | exact (‹(_ ∧ _ ∧ _) ∧ Below w.heap.size w _ ∧ _›).2.1))).mono ?_; rintro e wl ⟨rfl, hbc⟩) | (go_at_call 44; refine (rloose0_any t _ _ HSF.out (HT.out.later (by first | exact HW0.out | exact (‹(_ ∧ _ ∧ _) ∧ Below w.heap.size w _ ∧ _›).2.1))).mono ?_; rintro e wl ⟨rfl, hbc⟩) | (go_at_call 16; refine (awake_any _).mono ?_; rintro e wa ⟨rfl, hbc⟩))
      have hend := (‹(_ ∧ _ ∧ _) ∧ Below w.heap.size w _ ∧ _›).2.1
      go_wp2_with fail
      go_ret
      exact ⟨rfl, hend⟩
theorem numbers_walk (t : Tm) (cs : List Value) (n : Int) (_hn : (Lit.int .i64 n).wf = true) (w : World) (ht : TmC w t cs) :
    Calls Try.prog 8 #[.agg cs.toArray, .int .i64 n] w fun e w' => e = .returned (.bool true) ∧ Below w.heap.size w w' := numbers_law t cs n w ht
theorem loose_walk (t : Tm) (cs : List Value) (x : Int) (hx : (Lit.int .u8 x).wf = true) (w : World) (ht : TmC w t cs) :
    Calls Try.prog 9 #[.agg cs.toArray, .int .u8 x] w fun e w' => e = .returned (.bool true) ∧ Below w.heap.size w w' := by
  simp [Lit.wf, IntKind.min, IntKind.max, IntKind.signed, IntKind.bits] at hx
  exact loose_law t cs x (by omega) (by omega) w ht
end Go.Proofs.Ytackepdhcigdlaa
