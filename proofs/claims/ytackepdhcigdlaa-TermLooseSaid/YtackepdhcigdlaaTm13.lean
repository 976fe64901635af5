import Derived.Test.YtackepdhcigdlaaTm12
namespace Go.Proofs.Ytackepdhcigdlaa
open Go.RowKit
mutual
def hsT : Tm → Int → Bool
  | .mk k n sub, b => if k = 1 then n == b else hsL k sub 0 b
def hsL : Int → List Tm → Nat → Int → Bool
  | _, [], _, _ => false
  | k, t :: ts, i, b => hsT t (b + undB k i) || hsL k ts (i + 1) b
end
set_option maxRecDepth 100000 in
set_option maxHeartbeats 2000000 in
theorem has_any : ∀ (t : Tm) (cs : List Value) (b : Int) (w : World), 0 ≤ b → b + hgT t ≤ 2000000 → TmC w t cs →
    Calls Try.prog 60 #[.agg cs.toArray, .int .i64 b] w fun e w' => e = .returned (.bool (hsT t b)) ∧ Below w.heap.size w w' := by
  refine Tm.ind ?_
  intro kk n sub ih cs b w h0 h1 ht
  have ht0 := ht
  obtain ⟨a, cap, rfl, hsub, hlen⟩ := tm_open ht
  simp only [Tm.kind, Tm.num, Tm.sub] at *
  have hhg : (hgL sub : Int) + b ≤ 1999999 := by simp only [hgT] at h1; omega
  have IH := Lib.hid ih
  clear ht ih h1
  by_cases hk : kk = 1
  · have b1 : (kk == 1) = true := by rw [hk]; rfl
    have fin : Hid (hsT (.mk kk n sub) b = (n == b)) := by show _ = _; simp only [hsT]; rw [if_pos hk]
    clear hk
    go_enter Try.func60, Try.ntmps60
    go_wp2_with fail
    go_ret
    exact ⟨ret_bool fin.out.symm, (Below.refl _ _).alloc (Nat.le_refl _) _⟩
  · have b1 : (kk == 1) = false := by simpa using hk
    have fin : Hid (hsT (.mk kk n sub) b = hsL kk sub 0 b) := by show _ = _; simp only [hsT]; rw [if_neg hk]
    clear hk
    go_enter Try.func60, Try.ntmps60
    go_wp2_with fail
    go_loopw [17] (fun i wr => ∃ k : Nat, k ≤ sub.length ∧ i = .int .i64 k ∧ Hid (hsL kk (sub.drop k) k b = hsL kk sub 0 b) ∧ Below (w.heap.size + 1) (w.alloc (.cells #[.int .i64 kk, .int .i64 n, .slice a sub.length cap] 24)) wr) (fun i _ => sub.length - (intOf i).toNat)
    case atStart => exact ⟨0, Nat.zero_le _, rfl, rfl, Below.refl _ _⟩
    case round =>
      obtain ⟨k, hk, rfl, HG, hbox⟩ := hrel
      have hbel : Below w.heap.size w wr := ((Below.refl _ _).alloc (Nat.le_refl _) _).trans (hbox.mono (by omega))
      obtain ⟨x0, x1, x2⟩ := box_cells hbox
      have hwr : w.heap.size < wr.heap.size := by have := hbox.size; simp at this; omega
      by_cases hlt : k < sub.length
      · obtain ⟨bb, off, a', cap', rfl, e0, e1, e2, hts⟩ := sub_at hsub hbel k hlt
        have hhk : (hgT sub[k] : Int) ≤ hgL sub := by have := hgL_mem _ (List.getElem_mem hlt); omega
        have hu := und_bd kk k
        have hws := wrap_in (b + undB kk k) (by omega) (by omega)
        have hbox2 : Below (w.heap.size + 1) (w.alloc (.cells #[.int .i64 kk, .int .i64 n, .slice (some ⟨bb, off, none⟩) sub.length cap] 24)) (wr.alloc (.cells #[.int .i64 sub[k].kind, .int .i64 sub[k].num, .slice a' sub[k].sub.length cap'] 24)).drew := (hbox.alloc (by omega) _).drew
        have hbel2 : Below w.heap.size w (wr.alloc (.cells #[.int .i64 sub[k].kind, .int .i64 sub[k].num, .slice a' sub[k].sub.length cap'] 24)).drew := (hbel.alloc hbel.size _).drew
        have hd : Below wr.heap.size wr (wr.alloc (.cells #[.int .i64 sub[k].kind, .int .i64 sub[k].num, .slice a' sub[k].sub.length cap'] 24)).drew := ((Below.refl _ _).alloc (Nat.le_refl _) _).drew
        have hts2 := hts.later hd
        have ht2 := ht0.later hbel2
        have hd2 : Below (wr.heap.size + 1) (wr.alloc (.cells #[.int .i64 sub[k].kind, .int .i64 sub[k].num, .slice a' sub[k].sub.length cap'] 24)) (wr.alloc (.cells #[.int .i64 sub[k].kind, .int .i64 sub[k].num, .slice a' sub[k].sub.length cap'] 24)).drew := (Below.refl _ _).drew
        have HD := Lib.hid (List.drop_eq_getElem_cons hlt)
        by_cases hq : hsT sub[k] (b + undB kk k) = true
        · have fin2 : Hid (hsL kk sub 0 b = true) := by
            have h1 := HG.out
            rw [HD.out] at h1
            simp only [hsL, hq, Bool.true_or] at h1; exact h1.symm
          go_wp2_with fail
          go_region_held3 (fun w' => (w'.cell? ⟨w.heap.size, 0, none⟩ = some (.int .i64 kk) ∧ w'.cell? ⟨w.heap.size, 1, none⟩ = some (.int .i64 n) ∧ w'.cell? ⟨w.heap.size, 2, none⟩ = some (.slice (some ⟨bb, off, none⟩) sub.length cap)) ∧ w'.cell? ⟨wr.heap.size, 0, none⟩ = some (.int .i64 sub[k].kind) ∧ w'.cell? ⟨wr.heap.size, 1, none⟩ = some (.int .i64 sub[k].num) ∧ w'.cell? ⟨wr.heap.size, 2, none⟩ = some (.slice a' sub[k].sub.length cap')) (first | go_keep | exact ⟨box_cells (hbox2.trans ((hbu.trans (hbl.mono hbu.size)).mono (by simp; omega))), box_cells (hd2.trans ((hbu.trans (hbl.mono hbu.size)).mono (by simp)))⟩ | exact ⟨box_cells (hbox2.trans (hbu.mono (by simp; omega))), box_cells (hd2.trans (hbu.mono (by simp)))⟩) (first | (go_at_call 77; refine (under_mk kk n sub _ _ _ ht2).mono ?_; rintro e wu ⟨rfl, hbu⟩) | (go_at_call 60; refine (IH.out _ (List.getElem_mem hlt) _ (b + undB kk k) _ (by omega) (by omega) (hts2.later hbu)).mono ?_; rintro e wl ⟨rfl, hbl⟩))
          have hfin : Below w.heap.size w wl := hbel2.trans ((hbu.trans (hbl.mono hbu.size)).mono hbel2.size)
          clear hd2 hbox2 hbel2 hd hts2 ht2 hts hbu hbl
          go_wp2_with fail
          go_ret
          exact ⟨ret_bool (by rw [fin.out, fin2.out]), hfin⟩
        · have hq' : hsT sub[k] (b + undB kk k) = false := by simpa using hq
          have hnext : Hid (hsL kk (sub.drop (k + 1)) (k + 1) b = hsL kk sub 0 b) := by
            have h1 := HG.out
            rw [HD.out] at h1
            simp only [hsL, hq', Bool.false_or] at h1; exact h1
          clear hq
          go_wp2_with fail
          go_region_held3 (fun w' => (w'.cell? ⟨w.heap.size, 0, none⟩ = some (.int .i64 kk) ∧ w'.cell? ⟨w.heap.size, 1, none⟩ = some (.int .i64 n) ∧ w'.cell? ⟨w.heap.size, 2, none⟩ = some (.slice (some ⟨bb, off, none⟩) sub.length cap)) ∧ w'.cell? ⟨wr.heap.size, 0, none⟩ = some (.int .i64 sub[k].kind) ∧ w'.cell? ⟨wr.heap.size, 1, none⟩ = some (.int .i64 sub[k].num) ∧ w'.cell? ⟨wr.heap.size, 2, none⟩ = some (.slice a' sub[k].sub.length cap')) (first | go_keep | exact ⟨box_cells (hbox2.trans ((hbu.trans (hbl.mono hbu.size)).mono (by simp; omega))), box_cells (hd2.trans ((hbu.trans (hbl.mono hbu.size)).mono (by simp)))⟩ | exact ⟨box_cells (hbox2.trans (hbu.mono (by simp; omega))), box_cells (hd2.trans (hbu.mono (by simp)))⟩) (first | (go_at_call 77; refine (under_mk kk n sub _ _ _ ht2).mono ?_; rintro e wu ⟨rfl, hbu⟩) | (go_at_call 60; refine (IH.out _ (List.getElem_mem hlt) _ (b + undB kk k) _ (by omega) (by omega) (hts2.later hbu)).mono ?_; rintro e wl ⟨rfl, hbl⟩))
          have hfin : Below (w.heap.size + 1) (w.alloc (.cells #[.int .i64 kk, .int .i64 n, .slice (some ⟨bb, off, none⟩) sub.length cap] 24)) wl := hbox2.trans ((hbu.trans (hbl.mono hbu.size)).mono (by simp; omega))
          clear hd2 hbox2 hbel2 hd hts2 ht2 hts hbu hbl
          go_wp2_with fail
          go_roundw
          case rel => exact ⟨k + 1, by omega, by go_num, hnext, hfin⟩
          case measure => simp [intOf]; omega
      · have fin2 : Hid (hsL kk sub 0 b = false) := by
          have := HG.out
          rw [List.drop_of_length_le (by omega)] at this
          simp only [hsL] at this; exact this.symm
        go_wp2_with fail
        go_ret
        exact ⟨ret_bool (by rw [fin.out, fin2.out]), hbel⟩
/-- what is shaped is not deep -/
theorem shaped_hg {t : Tm} (h : shapedB t = true) : goodB t = true ∧ hgT t ≤ 128 ∧ ndT t ≤ 8192 := by
  unfold shapedB at h
  rw [Bool.and_eq_true, decide_eq_true_iff] at h
  refine ⟨h.2, ?_, ?_⟩
  · have h1 := h.1
    unfold depthT at h1
    split at h1
    · omega
    · have := dp_hg t 1 (by omega) (by omega); omega
  · have h1 := h.1
    unfold depthT at h1
    split at h1
    · omega
    · rename_i h2
      have := sz_nd t 0 (by omega) (by omega)
      unfold sizeT at h2; omega
def looseT (t : Tm) : Int := if shapedB t = true then lsT t 0 else 0
set_option maxHeartbeats 400000 in
theorem loose0_any (t : Tm) (cs : List Value) (w : World) (ht : TmC w t cs) :
    Calls Try.prog 40 #[.agg cs.toArray] w fun e w' => e = .returned (.int .i64 (looseT t)) ∧ Below w.heap.size w w' := by
  have ht0 := ht
  obtain ⟨a, cap, rfl, hsub, hlen⟩ := tm_open ht
  have hd : Below w.heap.size w (w.alloc (.cells #[.int .i64 t.kind, .int .i64 t.num, .slice a t.sub.length cap] 24)) := (Below.refl _ _).alloc (Nat.le_refl _) _
  by_cases hb : shapedB t = true
  · have fin : Hid (looseT t = lsT t 0) := if_pos hb
    obtain ⟨hg, hh, -⟩ := shaped_hg hb
    have hg := Lib.hid hg
    go_enter Try.func40, Try.ntmps40
    go_wp2_with fail
    refine (shaped_any t _ _ (ht0.later hd)).mono ?_
    rintro e w1 ⟨rfl, hb1⟩
    obtain ⟨c0, c1, c2⟩ := box_cells (by simpa using hb1)
    have hw1 := hd.trans (hb1.mono hd.size)
    clear hb1
    go_wp2_with fail
    refine (loose_any t _ 0 _ hg.out (by omega) (by omega) (ht0.later hw1)).mono ?_
    rintro e w2 ⟨rfl, hb2⟩
    go_wp2_with fail
    go_ret
    exact ⟨ret_int fin.out.symm, hw1.trans (hb2.mono hw1.size)⟩
  · have fin : Hid (looseT t = 0) := if_neg hb
    have hb' : shapedB t = false := by simpa using hb
    clear hb
    go_enter Try.func40, Try.ntmps40
    go_wp2_with fail
    refine (shaped_any t _ _ (ht0.later hd)).mono ?_
    rintro e w1 ⟨rfl, hb1⟩
    go_wp2_with fail
    go_ret
    exact ⟨ret_int fin.out.symm, hd.trans (hb1.mono hd.size)⟩
def hasT (t : Tm) (n : Int) : Bool := decide (0 ≤ n) && decide (n ≤ 1048576) && shapedB t && hsT t n
set_option maxRecDepth 100000 in
set_option maxHeartbeats 400000 in
theorem has0_any (t : Tm) (cs : List Value) (n : Int) (w : World) (ht : TmC w t cs) :
    Calls Try.prog 39 #[.agg cs.toArray, .int .i64 n] w fun e w' => e = .returned (.bool (hasT t n)) ∧ Below w.heap.size w w' := by
  have ht0 := ht
  obtain ⟨a, cap, rfl, hsub, hlen⟩ := tm_open ht
  have hd : Below w.heap.size w (w.alloc (.cells #[.int .i64 t.kind, .int .i64 t.num, .slice a t.sub.length cap] 24)) := (Below.refl _ _).alloc (Nat.le_refl _) _
  by_cases h0 : 0 ≤ n
  · by_cases h1 : n ≤ 1048576
    · have d0 : decide (0 ≤ n) = true := by simpa using h0
      have d1 : decide (n ≤ 1048576) = true := by simpa using h1
      by_cases hb : shapedB t = true
      · have fin : Hid (hasT t n = hsT t n) := by show (_ && _ && _ && _) = _; rw [d0, d1, hb]; rfl
        have hh := (shaped_hg hb).2.1
        go_enter Try.func39, Try.ntmps39
        go_wp2_with fail
        refine (shaped_any t _ _ (ht0.later hd)).mono ?_
        rintro e w1 ⟨rfl, hb1⟩
        obtain ⟨c0, c1, c2⟩ := box_cells (by simpa using hb1)
        have hw1 := hd.trans (hb1.mono hd.size)
        clear hb1
        go_wp2_with fail
        refine (has_any t _ n _ h0 (by omega) (ht0.later hw1)).mono ?_
        rintro e w2 ⟨rfl, hb2⟩
        go_wp2_with fail
        go_ret
        exact ⟨ret_bool fin.out.symm, hw1.trans (hb2.mono hw1.size)⟩
      · have hb' : shapedB t = false := by simpa using hb
        have fin : Hid (hasT t n = false) := by show (_ && _ && _ && _) = _; rw [hb']; simp
        clear hb
        go_enter Try.func39, Try.ntmps39
        go_wp2_with fail
        refine (shaped_any t _ _ (ht0.later hd)).mono ?_
        rintro e w1 ⟨rfl, hb1⟩
        go_wp2_with fail
        go_ret
        exact ⟨ret_bool fin.out.symm, hd.trans (hb1.mono hd.size)⟩
    · have d0 : decide (0 ≤ n) = true := by simpa using h0
      have d1 : decide (n ≤ 1048576) = false := by simpa using h1
      have fin : Hid (hasT t n = false) := by show (_ && _ && _ && _) = _; rw [d0, d1]; rfl
      clear h1
      go_enter Try.func39, Try.ntmps39
      go_wp2_with fail
      go_ret
      exact ⟨ret_bool fin.out.symm, hd⟩
  · have d0 : decide (0 ≤ n) = false := by simpa using h0
    have fin : Hid (hasT t n = false) := by show (_ && _ && _ && _) = _; rw [d0]; rfl
    clear h0
    go_enter Try.func39, Try.ntmps39
    go_wp2_with fail
    go_ret
    exact ⟨ret_bool fin.out.symm, hd⟩
end Go.Proofs.Ytackepdhcigdlaa
