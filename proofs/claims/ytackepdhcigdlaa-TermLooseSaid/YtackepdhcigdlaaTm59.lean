import Derived.Test.YtackepdhcigdlaaTm58
import Derived.BigQuiet
namespace Go.Proofs.Ytackepdhcigdlaa
open Go.RowKit
theorem below_drewN (w : World) (q : Nat) : Below w.heap.size w (w.drewN q) := ⟨rfl, rfl, rfl, Nat.le_refl _, fun _ _ => rfl⟩
def enT (a b : Int) (t : Tm) : List Int := if shapedB t = true then nmT a b t else []
set_option maxRecDepth 100000 in
set_option maxHeartbeats 2000000 in
theorem frees_any (t : Tm) (cs : List Value) (w : World) (ht : TmC w t cs) :
    Calls Try.prog 37 #[.agg cs.toArray] w fun e w' => ∃ u c, e = .returned (.slice u (enT 8 8 t).length c) ∧ Slc w' (.slice u (enT 8 8 t).length c) ((enT 8 8 t).map (Value.int .i64)) ∧ Below w.heap.size w w' := by
  have ht0 := ht
  obtain ⟨ad, cap, rfl, hsub, hlen⟩ := tm_open ht
  have hd : Below w.heap.size w (w.alloc (.cells #[.int .i64 t.kind, .int .i64 t.num, .slice ad t.sub.length cap] 24)) := (Below.refl _ _).alloc (Nat.le_refl _) _
  have BX := Lib.hid (Box3.new w (.int .i64 t.kind) (.int .i64 t.num) (.slice ad t.sub.length cap))
  have HD := Lib.hid hd
  have HT := Lib.hid ht0
  cases hb : shapedB t with
  | true =>
    have hE : enT 8 8 t = nmT 8 8 t := if_pos hb
    have hnd := (shaped_hg hb).2.2
    have SH := Lib.hid (shaped_any t _ _ (ht0.later hd))
    rw [hb] at SH
    rw [hE]
    clear hE ht ht0 hsub hd hb
    go_enter Try.func37, Try.ntmps37
    go_wp2_with fail
    refine SH.out.mono ?_
    rintro e w1 ⟨rfl, hb1⟩
    obtain ⟨c0, c1, c2⟩ := (BX.out.later hb1 BX.out.lt).cells
    have HW1 := Lib.hid (HD.out.trans (hb1.mono HD.out.size))
    have C := Lib.hid (collect_any 8 8 t _ w1 (by omega) (HT.out.later HW1.out))
    clear hb1 SH
    go_wp2_with fail
    refine C.out.mono ?_
    rintro e w2 ⟨u, c, rfl, ho, hb2⟩
    have R := Lib.hid (rising_any 8 8 t u c w1.heap.size w2 (by omega) hb2.size ho)
    have HB2 := Lib.hid hb2
    clear hb2 ho C c0 c1 c2
    go_wp2_with fail
    refine R.out.mono ?_
    rintro e w3 ⟨rfl, ho3, hb3⟩
    have HS := Lib.hid (Slc.own ho3)
    have HB := Lib.hid (HW1.out.trans ((HB2.out.trans hb3).mono HW1.out.size))
    clear hb3 ho3 R
    go_wp2_with fail
    go_ret
    exact ⟨u, c, rfl, HS.out, HB.out⟩
  | false =>
    have hE : enT 8 8 t = [] := if_neg (by rw [hb]; simp)
    have SH := Lib.hid (shaped_any t _ _ (ht0.later hd))
    rw [hb] at SH
    rw [hE]
    clear hE ht ht0 hsub hd hb
    go_enter Try.func37, Try.ntmps37
    go_wp2_with fail
    refine SH.out.mono ?_
    rintro e w1 ⟨rfl, hb1⟩
    have HW1 := Lib.hid (HD.out.trans (hb1.mono HD.out.size))
    clear hb1
    go_wp2_with fail
    go_ret
    exact ⟨none, 0, rfl, Slc.nil _, HW1.out⟩
set_option maxRecDepth 100000 in
set_option maxHeartbeats 2000000 in
theorem entries_any (t : Tm) (cs : List Value) (w : World) (ht : TmC w t cs) :
    Calls Try.prog 38 #[.agg cs.toArray] w fun e w' => ∃ u c, e = .returned (.slice u (enT 6 7 t).length c) ∧ Slc w' (.slice u (enT 6 7 t).length c) ((enT 6 7 t).map (Value.int .i64)) ∧ Below w.heap.size w w' := by
  have ht0 := ht
  obtain ⟨ad, cap, rfl, hsub, hlen⟩ := tm_open ht
  have hd : Below w.heap.size w (w.alloc (.cells #[.int .i64 t.kind, .int .i64 t.num, .slice ad t.sub.length cap] 24)) := (Below.refl _ _).alloc (Nat.le_refl _) _
  have BX := Lib.hid (Box3.new w (.int .i64 t.kind) (.int .i64 t.num) (.slice ad t.sub.length cap))
  have HD := Lib.hid hd
  have HT := Lib.hid ht0
  cases hb : shapedB t with
  | true =>
    have hE : enT 6 7 t = nmT 6 7 t := if_pos hb
    have hnd := (shaped_hg hb).2.2
    have SH := Lib.hid (shaped_any t _ _ (ht0.later hd))
    rw [hb] at SH
    rw [hE]
    clear hE ht ht0 hsub hd hb
    go_enter Try.func38, Try.ntmps38
    go_wp2_with fail
    refine SH.out.mono ?_
    rintro e w1 ⟨rfl, hb1⟩
    obtain ⟨c0, c1, c2⟩ := (BX.out.later hb1 BX.out.lt).cells
    have HW1 := Lib.hid (HD.out.trans (hb1.mono HD.out.size))
    have C := Lib.hid (collect_any 6 7 t _ w1 (by omega) (HT.out.later HW1.out))
    clear hb1 SH
    go_wp2_with fail
    refine C.out.mono ?_
    rintro e w2 ⟨u, c, rfl, ho, hb2⟩
    have R := Lib.hid (rising_any 6 7 t u c w1.heap.size w2 (by omega) hb2.size ho)
    have HB2 := Lib.hid hb2
    clear hb2 ho C c0 c1 c2
    go_wp2_with fail
    refine R.out.mono ?_
    rintro e w3 ⟨rfl, ho3, hb3⟩
    have HS := Lib.hid (Slc.own ho3)
    have HB := Lib.hid (HW1.out.trans ((HB2.out.trans hb3).mono HW1.out.size))
    clear hb3 ho3 R
    go_wp2_with fail
    go_ret
    exact ⟨u, c, rfl, HS.out, HB.out⟩
  | false =>
    have hE : enT 6 7 t = [] := if_neg (by rw [hb]; simp)
    have SH := Lib.hid (shaped_any t _ _ (ht0.later hd))
    rw [hb] at SH
    rw [hE]
    clear hE ht ht0 hsub hd hb
    go_enter Try.func38, Try.ntmps38
    go_wp2_with fail
    refine SH.out.mono ?_
    rintro e w1 ⟨rfl, hb1⟩
    have HW1 := Lib.hid (HD.out.trans (hb1.mono HD.out.size))
    clear hb1
    go_wp2_with fail
    go_ret
    exact ⟨none, 0, rfl, Slc.nil _, HW1.out⟩
set_option maxRecDepth 100000 in
set_option maxHeartbeats 2000000 in
theorem same_ints_any (xs ys : List Int) (v u : Value) (w : World) (hv : Slc w v (xs.map (Value.int .i64))) (hu : Slc w u (ys.map (Value.int .i64))) :
    Calls Try.prog 42 #[v, u] w fun e w' => e = .returned (.bool (decide (xs = ys))) ∧ Below w.heap.size w w' := by
  obtain ⟨a, cap, rfl, hm, hm2⟩ := slc_shape hv
  obtain ⟨a2, cap2, rfl, hn, hn2⟩ := slc_shape hu
  rw [List.length_map] at hm hm2 hv hn hn2 hu
  simp only [List.length_map]
  have HV := Lib.hid hv
  have HU := Lib.hid hu
  clear hv hu
  go_enter Try.func42, Try.ntmps42
  by_cases hl : xs.length = ys.length
  · have h1 : ((xs.length : Int) != ys.length) = false := by rw [hl]; simp
    have HL := Lib.hid hl
    have hl2 : (ys.length : Int) = xs.length := by omega
    clear hl
    go_wp2_with fail
    go_loopw [5] (fun i wr => ∃ (k : Nat), k ≤ xs.length ∧ i = .int .i64 k ∧ Hid (xs.take k = ys.take k) ∧ Hid (Below w.heap.size w wr)) (fun i _ => xs.length - (intOf i).toNat)
    case atStart => exact ⟨0, Nat.zero_le _, rfl, rfl, Below.refl _ _⟩
    case round =>
      obtain ⟨k, hk, rfl, hs, hbel⟩ := hrel
      by_cases hlt : k < xs.length
      · have hlt2 : k < ys.length := by have := HL.out; omega
        obtain ⟨b, off, rfl, hc⟩ := slc_at HV.out hbel.out k (by simpa using hlt)
        obtain ⟨b2, off2, rfl, hc2⟩ := slc_at HU.out hbel.out k (by simpa using hlt2)
        rw [List.getElem_map] at hc hc2
        have hi0' : (0 : Int) ≤ k := by omega
        have hi1' : (k : Int) < xs.length := by omega
        have hi2' : (k : Int) < ys.length := by omega
        have HD : Hid (∀ q, Below w.heap.size w (wr.drewN q)) := fun q => hbel.out.trans ((below_drewN wr q).mono hbel.out.size)
        by_cases he : xs[k] = ys[k]
        · have G : Hid (xs.take (k + 1) = ys.take (k + 1)) := by
            show _ = _
            rw [List.take_succ_eq_append_getElem hlt, List.take_succ_eq_append_getElem hlt2, hs.out, he]
          have he2 : (xs[k] != ys[k]) = false := by rw [he]; simp
          clear hs he
          generalize xs[k] = x at *
          generalize ys[k] = y at *
          go_wp2_with fail
          go_quiet (fail)
          go_wp2_with fail
          go_roundw
          case rel => exact ⟨k + 1, hlt, by simp, G.out, HD.out _⟩
          case measure => simp [intOf]; omega
        · have F : Hid (false = decide (xs = ys)) := by
            show _ = _
            symm
            rw [decide_eq_false_iff_not]
            intro h
            apply he
            subst h; rfl
          have he2 : (xs[k] != ys[k]) = true := by simpa using he
          clear hs he
          generalize xs[k] = x at *
          generalize ys[k] = y at *
          go_wp2_with fail
          go_quiet (fail)
          go_wp2_with fail
          go_ret
          exact ⟨ret_bool F.out, HD.out _⟩
      · obtain rfl : k = xs.length := by omega
        have F : Hid (true = decide (xs = ys)) := by
          show _ = _
          symm
          rw [decide_eq_true_iff]
          have h1 := hs.out
          rw [List.take_length, List.take_of_length_le (by have := HL.out; omega)] at h1
          exact h1
        go_wp2_with fail
        go_ret
        exact ⟨ret_bool F.out, hbel.out⟩
  · have h1 : ((xs.length : Int) != ys.length) = true := by simp; omega
    have F : Hid (false = decide (xs = ys)) := by
      show _ = _
      symm
      rw [decide_eq_false_iff_not]
      intro h; apply hl; rw [h]
    clear hl
    go_wp2_with fail
    go_ret
    exact ⟨ret_bool F.out, Below.refl _ _⟩
set_option maxRecDepth 100000 in
set_option maxHeartbeats 2000000 in
theorem rloose_any : ∀ (t : Tm) (cs : List Value) (b : Int) (w : World), goodB t = true → 0 ≤ b → b + hgT t ≤ 1000 → TmC w t cs →
    Calls Try.prog 44 #[.agg cs.toArray, .int .i64 b] w fun e w' => e = .returned (.int .i64 (lsT t b)) ∧ Below w.heap.size w w' := by
  refine Tm.ind ?_
  intro kk n sub ih cs b w hg h0 h1 ht
  have ht0 := ht
  obtain ⟨a, cap, rfl, hsub, hlen⟩ := tm_open ht
  simp only [Tm.kind, Tm.num, Tm.sub] at *
  obtain ⟨hh, hgs⟩ := good_parts hg
  obtain ⟨hk1, hk8, hn0, hn1, -⟩ := head_num hh
  have hhg : (hgL sub : Int) + b ≤ 999 := by simp only [hgT] at h1; omega
  have IH := Lib.hid ih
  have HGS := Lib.hid hgs
  have HU := Lib.hid (und_eq hh)
  have HSUB0 : Hid (kk = 1 → sub.length = 0) := by
    intro h
    have h2 := (head_num hh).2.2.2.2
    rw [h] at h2
    have h3 : subsOf 1 = 0 := rfl
    omega
  clear ht ih hg hh hgs h1
  by_cases hk : kk = 1
  · have b1 : (kk == 1) = true := by rw [hk]; rfl
    have fin : Hid (lsT (.mk kk n sub) b = max 0 (n + 1 - b)) := by show _ = _; simp only [lsT]; rw [if_pos hk]
    clear hk
    have hs0 := Lib.hid (HSUB0.out (by simpa using b1))
    by_cases hnb : b ≤ n
    · go_enter Try.func44, Try.ntmps44
      go_wp2_with fail
      go_ret
      exact ⟨ret_int (by rw [fin.out]; omega), (Below.refl _ _).alloc (Nat.le_refl _) _⟩
    · have hnb' : n < b := by omega
      clear hnb
      go_enter Try.func44, Try.ntmps44
      go_wp2_with fail
      go_loopw [5, 6] (fun x i wr => x = .int .i64 0 ∧ i = .int .i64 0 ∧ Below (w.heap.size + 1) (w.alloc (.cells #[.int .i64 kk, .int .i64 n, .slice a sub.length cap] 24)) wr) (fun _ _ _ => 0)
      case atStart => exact ⟨rfl, rfl, Below.refl _ _⟩
      case round =>
        obtain ⟨rfl, rfl, hbox⟩ := hrel
        have hbel : Below w.heap.size w wr := ((Below.refl _ _).alloc (Nat.le_refl _) _).trans (hbox.mono (by omega))
        obtain ⟨x0, x1, x2⟩ := box_cells hbox
        rw [hs0.out] at x2
        go_wp2_with fail
        go_ret
        exact ⟨ret_int (by rw [fin.out]; omega), hbel⟩
  · have b1 : (kk == 1) = false := by simpa using hk
    have fin : Hid (lsT (.mk kk n sub) b = lsL kk sub 0 b 0) := by show _ = _; simp only [lsT]; rw [if_neg hk]
    clear hk
    go_enter Try.func44, Try.ntmps44
    go_wp2_with fail
    go_loopw [5, 6] (fun x i wr => ∃ k : Nat, k ≤ sub.length ∧ i = .int .i64 k ∧ ∃ g : Int, x = .int .i64 g ∧ 0 ≤ g ∧ g ≤ 1048577 ∧ Hid (lsL kk (sub.drop k) k b g = lsL kk sub 0 b 0) ∧ Below (w.heap.size + 1) (w.alloc (.cells #[.int .i64 kk, .int .i64 n, .slice a sub.length cap] 24)) wr) (fun _ i _ => sub.length - (intOf i).toNat)
    case atStart => exact ⟨0, Nat.zero_le _, rfl, 0, rfl, by omega, by omega, rfl, Below.refl _ _⟩
    case round =>
      obtain ⟨k, hk, rfl, g, rfl, hg0, hg1, HG, hbox⟩ := hrel
      have hbel : Below w.heap.size w wr := ((Below.refl _ _).alloc (Nat.le_refl _) _).trans (hbox.mono (by omega))
      obtain ⟨x0, x1, x2⟩ := box_cells hbox
      have hwr : w.heap.size < wr.heap.size := by have := hbox.size; simp at this; omega
      by_cases hlt : k < sub.length
      · obtain ⟨bb, off, a', cap', rfl, e0, e1, e2, hts⟩ := sub_at hsub hbel k hlt
        have hgk := HGS.out _ (List.getElem_mem hlt)
        have hhk : (hgT sub[k] : Int) ≤ hgL sub := by have := hgL_mem _ (List.getElem_mem hlt); omega
        have hu := und_bd kk k
        have hnext : Hid (lsL kk (sub.drop (k + 1)) (k + 1) b (max g (lsT sub[k] (b + undB kk k))) = lsL kk sub 0 b 0) := by
          have := HG.out
          rw [List.drop_eq_getElem_cons hlt] at this
          simp only [lsL] at this; exact this
        have hbd := ls_bd sub[k] (b + undB kk k) hgk (by omega)
        have hws := wrap_in (b + undB kk k) (by omega) (by omega)
        have hbox2 : Below (w.heap.size + 1) (w.alloc (.cells #[.int .i64 kk, .int .i64 n, .slice (some ⟨bb, off, none⟩) sub.length cap] 24)) wr.drew := hbox.drew
        have hbel2 : Below w.heap.size w wr.drew := hbel.drew
        have hd : Below wr.heap.size wr wr.drew := (Below.refl _ _).drew
        have hts2 := hts.later hd
        have ht2 := ht0.later hbel2
        have hbl0 : bb < wr.heap.size := World.block_lt_of_cell? wr _ e0
        have MV : Hid (∀ wz, Below wr.heap.size wr wz → wz.cell? ⟨bb, off + k * 3, none⟩ = some (.int .i64 sub[k].kind) ∧ wz.cell? ⟨bb, off + k * 3 + 1, none⟩ = some (.int .i64 sub[k].num) ∧ wz.cell? ⟨bb, off + k * 3 + 2, none⟩ = some (.slice a' sub[k].sub.length cap')) := fun wz hz => ⟨(hz.cell hbl0).trans e0, (hz.cell hbl0).trans e1, (hz.cell hbl0).trans e2⟩
        have hi0' : (0 : Int) ≤ k := by omega
        have hi1' : (k : Int) < sub.length := by omega
        clear hbl0
        go_wp2_with fail
        go_region_held3 (fun w' => (w'.cell? ⟨w.heap.size, 0, none⟩ = some (.int .i64 kk) ∧ w'.cell? ⟨w.heap.size, 1, none⟩ = some (.int .i64 n) ∧ w'.cell? ⟨w.heap.size, 2, none⟩ = some (.slice (some ⟨bb, off, none⟩) sub.length cap)) ∧ w'.cell? ⟨bb, off + k * 3, none⟩ = some (.int .i64 sub[k].kind) ∧ w'.cell? ⟨bb, off + k * 3 + 1, none⟩ = some (.int .i64 sub[k].num) ∧ w'.cell? ⟨bb, off + k * 3 + 2, none⟩ = some (.slice a' sub[k].sub.length cap')) (first | go_keep | exact ⟨box_cells (hbox2.trans ((hbu.trans (hbl.mono hbu.size)).mono (by simp; omega))), MV.out _ (hd.trans ((hbu.trans (hbl.mono hbu.size)).mono (by simp)))⟩ | exact ⟨box_cells (hbox2.trans (hbu.mono (by simp; omega))), MV.out _ (hd.trans (hbu.mono (by simp)))⟩) (first | (go_at_call 62; refine (runder_mk kk n sub _ k _ (HU.out k hlt) ht2).mono ?_; rintro e wu ⟨rfl, hbu⟩) | (go_at_call 44; refine (IH.out _ (List.getElem_mem hlt) _ (b + undB kk k) _ hgk (by omega) (by omega) (hts2.later hbu)).mono ?_; rintro e wl ⟨rfl, hbl⟩))
        have hfin : Below (w.heap.size + 1) (w.alloc (.cells #[.int .i64 kk, .int .i64 n, .slice (some ⟨bb, off, none⟩) sub.length cap] 24)) wl := hbox2.trans ((hbu.trans (hbl.mono hbu.size)).mono (by simp; omega))
        clear hbox2 hbel2 hd hts2 ht2 hts hbu hbl
        go_wp2_with fail
        go_roundw
        case rel => exact ⟨k + 1, by omega, by go_num, _, rfl, by omega, by omega, hnext, hfin⟩
        case measure => simp [intOf]; omega
      · have fin2 : Hid (g = lsL kk sub 0 b 0) := by
          have := HG.out
          rw [List.drop_of_length_le (by omega)] at this
          simp only [lsL] at this; exact this
        go_wp2_with fail
        go_ret
        exact ⟨ret_int (by rw [fin.out, fin2.out]), hbel⟩
end Go.Proofs.Ytackepdhcigdlaa
