import Derived.Test.YtackepdhcigdlaaTm49
namespace Go.Proofs.Ytackepdhcigdlaa
open Go.RowKit
def undR (k i : Int) : Int := if i = 1 ∧ k ≠ 5 then 1 else 0
set_option maxHeartbeats 400000 in
theorem runder_any (t : Tm) (cs : List Value) (i : Int) (w : World) (ht : TmC w t cs) :
    Calls Try.prog 62 #[.agg cs.toArray, .int .i64 i] w fun e w' => e = .returned (.int .i64 (undR t.kind i)) ∧ Below w.heap.size w w' := by
  obtain ⟨a, cap, rfl, hsub, hlen⟩ := tm_open ht
  clear hsub ht
  generalize t.kind = kk at *
  by_cases h1 : i = 1
  · have b1 : (i == 1) = true := by rw [h1]; rfl
    have H1 := Lib.hid h1; clear h1
    by_cases h3 : kk = 5
    · have b3 : (kk != 5) = false := by rw [h3]; rfl
      have fin : Hid (undR kk i = 0) := if_neg (by omega)
      clear h3
      go_enter Try.func62, Try.ntmps62
      go_wp2_with fail
      go_ret
      exact ⟨ret_int fin.out.symm, (Below.refl _ _).alloc (Nat.le_refl _) _⟩
    · have b3 : (kk != 5) = true := by simpa using h3
      have fin : Hid (undR kk i = 1) := if_pos ⟨H1.out, h3⟩
      clear h3
      go_enter Try.func62, Try.ntmps62
      go_wp2_with fail
      go_ret
      exact ⟨ret_int fin.out.symm, (Below.refl _ _).alloc (Nat.le_refl _) _⟩
  · have b1 : (i == 1) = false := by simpa using h1
    have fin : Hid (undR kk i = 0) := if_neg (by omega)
    clear h1
    go_enter Try.func62, Try.ntmps62
    go_wp2_with fail
    go_ret
    exact ⟨ret_int fin.out.symm, (Below.refl _ _).alloc (Nat.le_refl _) _⟩
theorem runder_mk (kk n : Int) (sub : List Tm) (cs : List Value) (i : Int) (w : World) (he : undR kk i = undB kk i) (ht : TmC w (.mk kk n sub) cs) :
    Calls Try.prog 62 #[.agg cs.toArray, .int .i64 i] w fun e w' => e = .returned (.int .i64 (undB kk i)) ∧ Below w.heap.size w w' := by
  rw [← he]
  exact runder_any _ cs i w ht
theorem und_eq {kk n : Int} {sub : List Tm} (hh : headB (.mk kk n sub) = true) : ∀ k : Nat, k < sub.length → undR kk k = undB kk k := by
  intro k hk
  unfold headB at hh
  rw [decide_eq_true_iff] at hh
  obtain ⟨-, -, h1, -⟩ := hh
  simp only [Tm.kind, Tm.sub] at h1
  unfold undR undB
  have h2 : subsOf kk = if kk = 3 ∨ kk = 4 ∨ kk = 5 then 2 else if kk = 7 then 1 else 0 := rfl
  rw [h2] at h1
  clear h2
  by_cases h345 : kk = 3 ∨ kk = 4 ∨ kk = 5
  · by_cases h5 : (k : Int) = 1
    · by_cases h6 : kk = 5
      · rw [if_neg (by omega), if_neg (by omega)]
      · rw [if_pos ⟨h5, h6⟩, if_pos ⟨h5, by omega⟩]
    · rw [if_neg (by omega), if_neg (by omega)]
  · rw [if_neg h345] at h1
    by_cases h7 : kk = 7
    · rw [if_pos h7] at h1
      rw [if_neg (by omega), if_neg (by omega)]
    · rw [if_neg h7] at h1
      rw [if_neg (by omega), if_neg (by omega)]
set_option maxRecDepth 100000 in
set_option maxHeartbeats 2000000 in
theorem rhas_any : ∀ (t : Tm) (cs : List Value) (b : Int) (w : World), goodB t = true → 0 ≤ b → b + hgT t ≤ 2000000 → TmC w t cs →
    Calls Try.prog 41 #[.agg cs.toArray, .int .i64 b] w fun e w' => e = .returned (.bool (hsT t b)) ∧ Below w.heap.size w w' := by
  refine Tm.ind ?_
  intro kk n sub ih cs b w hg h0 h1 ht
  have ht0 := ht
  obtain ⟨a, cap, rfl, hsub, hlen⟩ := tm_open ht
  simp only [Tm.kind, Tm.num, Tm.sub] at *
  have hhg : (hgL sub : Int) + b ≤ 1999999 := by simp only [hgT] at h1; omega
  obtain ⟨hh, hgs⟩ := good_parts hg
  have HGS := Lib.hid hgs
  have HU := Lib.hid (und_eq hh)
  have IH := Lib.hid ih
  clear ht ih h1 hg hh hgs
  by_cases hk : kk = 1
  · have b1 : (kk == 1) = true := by rw [hk]; rfl
    have fin : Hid (hsT (.mk kk n sub) b = (n == b)) := by show _ = _; simp only [hsT]; rw [if_pos hk]
    clear hk
    go_enter Try.func41, Try.ntmps41
    go_wp2_with fail
    go_ret
    exact ⟨ret_bool fin.out.symm, (Below.refl _ _).alloc (Nat.le_refl _) _⟩
  · have b1 : (kk == 1) = false := by simpa using hk
    have fin : Hid (hsT (.mk kk n sub) b = hsL kk sub 0 b) := by show _ = _; simp only [hsT]; rw [if_neg hk]
    clear hk
    go_enter Try.func41, Try.ntmps41
    go_wp2_with fail
    go_loopw [5] (fun i wr => ∃ k : Nat, k ≤ sub.length ∧ i = .int .i64 k ∧ Hid (hsL kk (sub.drop k) k b = hsL kk sub 0 b) ∧ Below (w.heap.size + 1) (w.alloc (.cells #[.int .i64 kk, .int .i64 n, .slice a sub.length cap] 24)) wr) (fun i _ => sub.length - (intOf i).toNat)
    case atStart => exact ⟨0, Nat.zero_le _, rfl, rfl, Below.refl _ _⟩
    case round =>
      obtain ⟨k, hk, rfl, HG, hbox⟩ := hrel
      have hbel : Below w.heap.size w wr := ((Below.refl _ _).alloc (Nat.le_refl _) _).trans (hbox.mono (by omega))
      obtain ⟨x0, x1, x2⟩ := box_cells hbox
      have hwr : w.heap.size < wr.heap.size := by have := hbox.size; simp at this; omega
      by_cases hlt : k < sub.length
      · obtain ⟨bb, off, a', cap', rfl, e0, e1, e2, hts⟩ := sub_at hsub hbel k hlt
        have hhk : (hgT sub[k] : Int) ≤ hgL sub := by have := hgL_mem _ (List.getElem_mem hlt); omega
        have hu := und_bd kk k
        have hws := wrap_in (b + undB kk k) (by omega) (by omega)
        have hbox2 : Below (w.heap.size + 1) (w.alloc (.cells #[.int .i64 kk, .int .i64 n, .slice (some ⟨bb, off, none⟩) sub.length cap] 24)) wr.drew := hbox.drew
        have hbel2 : Below w.heap.size w wr.drew := hbel.drew
        have hd : Below wr.heap.size wr wr.drew := (Below.refl _ _).drew
        have hts2 := hts.later hd
        have ht2 := ht0.later hbel2
        have hbl0 : bb < wr.heap.size := World.block_lt_of_cell? wr _ e0
        have MV : Hid (∀ wz, Below wr.heap.size wr wz → wz.cell? ⟨bb, off + k * 3, none⟩ = some (.int .i64 sub[k].kind) ∧ wz.cell? ⟨bb, off + k * 3 + 1, none⟩ = some (.int .i64 sub[k].num) ∧ wz.cell? ⟨bb, off + k * 3 + 2, none⟩ = some (.slice a' sub[k].sub.length cap')) := fun wz hz => ⟨(hz.cell hbl0).trans e0, (hz.cell hbl0).trans e1, (hz.cell hbl0).trans e2⟩
        clear hbl0
        have HD := Lib.hid (List.drop_eq_getElem_cons hlt)
        by_cases hq : hsT sub[k] (b + undB kk k) = true
        · have fin2 : Hid (hsL kk sub 0 b = true) := by
            have h1 := HG.out
            rw [HD.out] at h1
            simp only [hsL, hq, Bool.true_or] at h1; exact h1.symm
          go_wp2_with fail
          go_region_held3 (fun w' => (w'.cell? ⟨w.heap.size, 0, none⟩ = some (.int .i64 kk) ∧ w'.cell? ⟨w.heap.size, 1, none⟩ = some (.int .i64 n) ∧ w'.cell? ⟨w.heap.size, 2, none⟩ = some (.slice (some ⟨bb, off, none⟩) sub.length cap)) ∧ w'.cell? ⟨bb, off + k * 3, none⟩ = some (.int .i64 sub[k].kind) ∧ w'.cell? ⟨bb, off + k * 3 + 1, none⟩ = some (.int .i64 sub[k].num) ∧ w'.cell? ⟨bb, off + k * 3 + 2, none⟩ = some (.slice a' sub[k].sub.length cap')) (first | go_keep | exact ⟨box_cells (hbox2.trans ((hbu.trans (hbl.mono hbu.size)).mono (by simp; omega))), MV.out _ (hd.trans ((hbu.trans (hbl.mono hbu.size)).mono (by simp)))⟩ | exact ⟨box_cells (hbox2.trans (hbu.mono (by simp; omega))), MV.out _ (hd.trans (hbu.mono (by simp)))⟩) (first | (go_at_call 62; refine (runder_mk kk n sub _ k _ (HU.out k hlt) ht2).mono ?_; rintro e wu ⟨rfl, hbu⟩) | (go_at_call 41; refine (IH.out _ (List.getElem_mem hlt) _ (b + undB kk k) _ (HGS.out _ (List.getElem_mem hlt)) (by omega) (by omega) (hts2.later hbu)).mono ?_; rintro e wl ⟨rfl, hbl⟩))
          have hfin : Below w.heap.size w wl := hbel2.trans ((hbu.trans (hbl.mono hbu.size)).mono hbel2.size)
          clear hbox2 hbel2 hd hts2 ht2 hts hbu hbl
          go_wp2_with fail
          go_ret
          exact ⟨ret_bool (by rw [fin.out, fin2.out]), hfin⟩
        · have hq' : hsT sub[k] (b + undB kk k) = false := by simpa using hq
          have hnext : Hid (hsL kk (sub.drop (k + 1)) (k + 1) b = hsL kk sub 0 b) := by
            have h1 := HG.out
            rw [HD.out] at h1
            simp only [hsL, hq', Bool.false_or] at h1; exact h1
          clear hq
          go_wp2_with fail
          go_region_held3 (fun w' => (w'.cell? ⟨w.heap.size, 0, none⟩ = some (.int .i64 kk) ∧ w'.cell? ⟨w.heap.size, 1, none⟩ = some (.int .i64 n) ∧ w'.cell? ⟨w.heap.size, 2, none⟩ = some (.slice (some ⟨bb, off, none⟩) sub.length cap)) ∧ w'.cell? ⟨bb, off + k * 3, none⟩ = some (.int .i64 sub[k].kind) ∧ w'.cell? ⟨bb, off + k * 3 + 1, none⟩ = some (.int .i64 sub[k].num) ∧ w'.cell? ⟨bb, off + k * 3 + 2, none⟩ = some (.slice a' sub[k].sub.length cap')) (first | go_keep | exact ⟨box_cells (hbox2.trans ((hbu.trans (hbl.mono hbu.size)).mono (by simp; omega))), MV.out _ (hd.trans ((hbu.trans (hbl.mono hbu.size)).mono (by simp)))⟩ | exact ⟨box_cells (hbox2.trans (hbu.mono (by simp; omega))), MV.out _ (hd.trans (hbu.mono (by simp)))⟩) (first | (go_at_call 62; refine (runder_mk kk n sub _ k _ (HU.out k hlt) ht2).mono ?_; rintro e wu ⟨rfl, hbu⟩) | (go_at_call 41; refine (IH.out _ (List.getElem_mem hlt) _ (b + undB kk k) _ (HGS.out _ (List.getElem_mem hlt)) (by omega) (by omega) (hts2.later hbu)).mono ?_; rintro e wl ⟨rfl, hbl⟩))
          have hfin : Below (w.heap.size + 1) (w.alloc (.cells #[.int .i64 kk, .int .i64 n, .slice (some ⟨bb, off, none⟩) sub.length cap] 24)) wl := hbox2.trans ((hbu.trans (hbl.mono hbu.size)).mono (by simp; omega))
          clear hbox2 hbel2 hd hts2 ht2 hts hbu hbl
          go_wp2_with fail
          go_roundw
          case rel => exact ⟨k + 1, by omega, by go_num, hnext, hfin⟩
          case measure => simp [intOf]; omega
      · have fin2 : Hid (hsL kk sub 0 b = false) := by
          have := HG.out
          rw [List.drop_of_length_le (by omega)] at this
          simp only [hsL] at this; exact this.symm
        go_wp2_with fail
        go_ret
        exact ⟨ret_bool (by rw [fin.out, fin2.out]), hbel⟩
end Go.Proofs.Ytackepdhcigdlaa
