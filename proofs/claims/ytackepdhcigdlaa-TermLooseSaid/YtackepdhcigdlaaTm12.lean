import Derived.Test.YtackepdhcigdlaaTm11
namespace Go.Proofs.Ytackepdhcigdlaa
open Go.RowKit
/-- how many binders more stand above a Sub -/
def undB (k : Int) (i : Int) : Int := if i = 1 ∧ (k = 3 ∨ k = 4) then 1 else 0
set_option maxHeartbeats 400000 in
theorem under_any (t : Tm) (cs : List Value) (i : Int) (w : World) (ht : TmC w t cs) :
    Calls Try.prog 77 #[.agg cs.toArray, .int .i64 i] w fun e w' => e = .returned (.int .i64 (undB t.kind i)) ∧ Below w.heap.size w w' := by
  obtain ⟨a, cap, rfl, hsub, hlen⟩ := tm_open ht
  clear hsub ht
  generalize t.kind = kk at *
  by_cases h1 : i = 1
  · have b1 : (i == 1) = true := by rw [h1]; rfl
    have H1 := Lib.hid h1; clear h1
    by_cases h3 : kk = 3
    · have b3 : (kk == 3) = true := by rw [h3]; rfl
      have fin : Hid (undB kk i = 1) := if_pos ⟨H1.out, .inl h3⟩
      clear h3
      go_enter Try.func77, Try.ntmps77
      go_wp2_with fail
      go_ret
      exact ⟨ret_int fin.out.symm, (Below.refl _ _).alloc (Nat.le_refl _) _⟩
    · have b3 : (kk == 3) = false := by simpa using h3
      by_cases h4 : kk = 4
      · have b4 : (kk == 4) = true := by rw [h4]; rfl
        have fin : Hid (undB kk i = 1) := if_pos ⟨H1.out, .inr h4⟩
        clear h3 h4
        go_enter Try.func77, Try.ntmps77
        go_wp2_with fail
        go_ret
        exact ⟨ret_int fin.out.symm, (Below.refl _ _).alloc (Nat.le_refl _) _⟩
      · have b4 : (kk == 4) = false := by simpa using h4
        have fin : Hid (undB kk i = 0) := if_neg (by omega)
        clear h3 h4
        go_enter Try.func77, Try.ntmps77
        go_wp2_with fail
        go_ret
        exact ⟨ret_int fin.out.symm, (Below.refl _ _).alloc (Nat.le_refl _) _⟩
  · have b1 : (i == 1) = false := by simpa using h1
    have fin : Hid (undB kk i = 0) := if_neg (by omega)
    clear h1
    go_enter Try.func77, Try.ntmps77
    go_wp2_with fail
    go_ret
    exact ⟨ret_int fin.out.symm, (Below.refl _ _).alloc (Nat.le_refl _) _⟩
mutual
def lsT : Tm → Int → Int
  | .mk k n sub, b => if k = 1 then max 0 (n + 1 - b) else lsL k sub 0 b 0
def lsL : Int → List Tm → Nat → Int → Int → Int
  | _, [], _, _, m => m
  | k, t :: ts, i, b, m => lsL k ts (i + 1) b (max m (lsT t (b + undB k i)))
end
theorem und_bd (k i : Int) : 0 ≤ undB k i ∧ undB k i ≤ 1 := by unfold undB; split <;> omega
theorem mostOf_le (k : Int) : mostOf k ≤ 1048576 := by unfold mostOf; (repeat' split) <;> omega
theorem head_num {k n : Int} {sub : List Tm} (h : headB (.mk k n sub) = true) : 1 ≤ k ∧ k ≤ 8 ∧ 0 ≤ n ∧ n ≤ 1048576 ∧ (sub.length : Int) = subsOf k := by
  have := of_decide_eq_true h
  simp only [Tm.kind, Tm.num, Tm.sub] at this
  have := mostOf_le k
  omega
theorem under_mk (kk n : Int) (sub : List Tm) (cs : List Value) (i : Int) (w : World) (ht : TmC w (.mk kk n sub) cs) :
    Calls Try.prog 77 #[.agg cs.toArray, .int .i64 i] w fun e w' => e = .returned (.int .i64 (undB kk i)) ∧ Below w.heap.size w w' := under_any _ cs i w ht
theorem wrap_in (n : Int) (h0 : -9223372036854775808 ≤ n) (h1 : n ≤ 9223372036854775807) : IntKind.i64.wrap n = n := by
  simp [IntKind.wrap, IntKind.bits, IntKind.signed]; omega
theorem goodL_mem {l : List Tm} (h : goodL l = true) : ∀ s ∈ l, goodB s = true := by
  induction l with
  | nil => intro s hs; cases hs
  | cons t ts ih =>
    simp only [goodL, Bool.and_eq_true] at h
    intro s hs
    cases hs with
    | head => exact h.1
    | tail _ hm => exact ih h.2 s hm
theorem good_parts {k n : Int} {sub : List Tm} (h : goodB (.mk k n sub) = true) : headB (.mk k n sub) = true ∧ ∀ s ∈ sub, goodB s = true := by
  simp only [goodB, Bool.and_eq_true] at h
  exact ⟨h.1, goodL_mem h.2⟩
theorem hgL_mem {l : List Tm} : ∀ s ∈ l, hgT s ≤ hgL l := by
  induction l with
  | nil => intro s hs; cases hs
  | cons t ts ih =>
    intro s hs
    simp only [hgL]
    cases hs with
    | head => omega
    | tail _ hm => have := ih s hm; omega
theorem ls_bd : ∀ (t : Tm) (b : Int), goodB t = true → 0 ≤ b → 0 ≤ lsT t b ∧ lsT t b ≤ 1048577 := by
  refine Tm.ind ?_
  intro k n sub ih b hg hb
  obtain ⟨hh, hs⟩ := good_parts hg
  have hn := head_num hh
  have : ∀ (l : List Tm), (∀ s ∈ l, ∀ b : Int, goodB s = true → 0 ≤ b → 0 ≤ lsT s b ∧ lsT s b ≤ 1048577) → (∀ s ∈ l, goodB s = true) → ∀ (i : Nat) (m : Int), 0 ≤ m → m ≤ 1048577 → 0 ≤ lsL k l i b m ∧ lsL k l i b m ≤ 1048577 := by
    intro l
    induction l with
    | nil => intro _ _ i m h0 h1; simp only [lsL]; omega
    | cons t ts iht =>
      intro h1 h2 i m h3 h4
      simp only [lsL]
      have hu := und_bd k i
      have h5 := h1 t (by simp) (b + undB k i) (h2 t (by simp)) (by omega)
      exact iht (fun s hs => h1 s (by simp [hs])) (fun s hs => h2 s (by simp [hs])) (i + 1) _ (by omega) (by omega)
  simp only [lsT]
  split
  · omega
  · exact this sub ih hs 0 0 (by omega) (by omega)
set_option maxRecDepth 100000 in
set_option maxHeartbeats 2000000 in
theorem loose_any : ∀ (t : Tm) (cs : List Value) (b : Int) (w : World), goodB t = true → 0 ≤ b → b + hgT t ≤ 1000 → TmC w t cs →
    Calls Try.prog 61 #[.agg cs.toArray, .int .i64 b] w fun e w' => e = .returned (.int .i64 (lsT t b)) ∧ Below w.heap.size w w' := by
  refine Tm.ind ?_
  intro kk n sub ih cs b w hg h0 h1 ht
  have ht0 := ht
  obtain ⟨a, cap, rfl, hsub, hlen⟩ := tm_open ht
  simp only [Tm.kind, Tm.num, Tm.sub] at *
  obtain ⟨hh, hgs⟩ := good_parts hg
  obtain ⟨hk1, hk8, hn0, hn1, -⟩ := head_num hh
  have hhg : (hgL sub : Int) + b ≤ 999 := by simp only [hgT] at h1; omega
  have IH := Lib.hid ih
  have HGS := Lib.hid hgs
  clear ht ih hg hh hgs h1
  by_cases hk : kk = 1
  · have b1 : (kk == 1) = true := by rw [hk]; rfl
    have fin : Hid (lsT (.mk kk n sub) b = max 0 (n + 1 - b)) := by show _ = _; simp only [lsT]; rw [if_pos hk]
    clear hk
    go_enter Try.func61, Try.ntmps61
    go_wp2_with fail
    all_goals go_ret
    all_goals exact ⟨ret_int (by rw [fin.out]; omega), (Below.refl _ _).alloc (Nat.le_refl _) _⟩
  · have b1 : (kk == 1) = false := by simpa using hk
    have fin : Hid (lsT (.mk kk n sub) b = lsL kk sub 0 b 0) := by show _ = _; simp only [lsT]; rw [if_neg hk]
    clear hk
    go_enter Try.func61, Try.ntmps61
    go_wp2_with fail
    go_loopw [5, 20] (fun x i wr => ∃ k : Nat, k ≤ sub.length ∧ i = .int .i64 k ∧ ∃ g : Int, x = .int .i64 g ∧ 0 ≤ g ∧ g ≤ 1048577 ∧ Hid (lsL kk (sub.drop k) k b g = lsL kk sub 0 b 0) ∧ Below (w.heap.size + 1) (w.alloc (.cells #[.int .i64 kk, .int .i64 n, .slice a sub.length cap] 24)) wr) (fun _ i _ => sub.length - (intOf i).toNat)
    case atStart => exact ⟨0, Nat.zero_le _, rfl, 0, rfl, by omega, by omega, rfl, Below.refl _ _⟩
    case round =>
      obtain ⟨k, hk, rfl, g, rfl, hg0, hg1, HG, hbox⟩ := hrel
      have hbel : Below w.heap.size w wr := ((Below.refl _ _).alloc (Nat.le_refl _) _).trans (hbox.mono (by omega))
      obtain ⟨x0, x1, x2⟩ := box_cells hbox
      have hwr : w.heap.size < wr.heap.size := by have := hbox.size; simp at this; omega
      by_cases hlt : k < sub.length
      · obtain ⟨bb, off, a', cap', rfl, e0, e1, e2, hts⟩ := sub_at hsub hbel k hlt
        have hgk := HGS.out _ (List.getElem_mem hlt)
        have hhk : (hgT sub[k] : Int) ≤ hgL sub := by have := hgL_mem _ (List.getElem_mem hlt); omega
        have hu := und_bd kk k
        have hnext : Hid (lsL kk (sub.drop (k + 1)) (k + 1) b (if g < lsT sub[k] (b + undB kk k) then lsT sub[k] (b + undB kk k) else g) = lsL kk sub 0 b 0) := by
          have := HG.out
          rw [List.drop_eq_getElem_cons hlt] at this
          simp only [lsL, max_if] at this; exact this
        have hbd := ls_bd sub[k] (b + undB kk k) hgk (by omega)
        have hws := wrap_in (b + undB kk k) (by omega) (by omega)
        have hbox2 : Below (w.heap.size + 1) (w.alloc (.cells #[.int .i64 kk, .int .i64 n, .slice (some ⟨bb, off, none⟩) sub.length cap] 24)) (wr.alloc (.cells #[.int .i64 sub[k].kind, .int .i64 sub[k].num, .slice a' sub[k].sub.length cap'] 24)).drew := (hbox.alloc (by omega) _).drew
        have hbel2 : Below w.heap.size w (wr.alloc (.cells #[.int .i64 sub[k].kind, .int .i64 sub[k].num, .slice a' sub[k].sub.length cap'] 24)).drew := (hbel.alloc hbel.size _).drew
        have hd : Below wr.heap.size wr (wr.alloc (.cells #[.int .i64 sub[k].kind, .int .i64 sub[k].num, .slice a' sub[k].sub.length cap'] 24)).drew := ((Below.refl _ _).alloc (Nat.le_refl _) _).drew
        have hts2 := hts.later hd
        have ht2 := ht0.later hbel2
        have hd2 : Below (wr.heap.size + 1) (wr.alloc (.cells #[.int .i64 sub[k].kind, .int .i64 sub[k].num, .slice a' sub[k].sub.length cap'] 24)) (wr.alloc (.cells #[.int .i64 sub[k].kind, .int .i64 sub[k].num, .slice a' sub[k].sub.length cap'] 24)).drew := (Below.refl _ _).drew
        go_wp2_with fail
        go_region_held3 (fun w' => (w'.cell? ⟨w.heap.size, 0, none⟩ = some (.int .i64 kk) ∧ w'.cell? ⟨w.heap.size, 1, none⟩ = some (.int .i64 n) ∧ w'.cell? ⟨w.heap.size, 2, none⟩ = some (.slice (some ⟨bb, off, none⟩) sub.length cap)) ∧ w'.cell? ⟨wr.heap.size, 0, none⟩ = some (.int .i64 sub[k].kind) ∧ w'.cell? ⟨wr.heap.size, 1, none⟩ = some (.int .i64 sub[k].num) ∧ w'.cell? ⟨wr.heap.size, 2, none⟩ = some (.slice a' sub[k].sub.length cap')) (first | go_keep | exact ⟨box_cells (hbox2.trans ((hbu.trans (hbl.mono hbu.size)).mono (by simp; omega))), box_cells (hd2.trans ((hbu.trans (hbl.mono hbu.size)).mono (by simp)))⟩ | exact ⟨box_cells (hbox2.trans (hbu.mono (by simp; omega))), box_cells (hd2.trans (hbu.mono (by simp)))⟩) (first | (go_at_call 77; refine (under_mk kk n sub _ _ _ ht2).mono ?_; rintro e wu ⟨rfl, hbu⟩) | (go_at_call 61; refine (IH.out _ (List.getElem_mem hlt) _ (b + undB kk k) _ hgk (by omega) (by omega) (hts2.later hbu)).mono ?_; rintro e wl ⟨rfl, hbl⟩))
        have hfin : Below (w.heap.size + 1) (w.alloc (.cells #[.int .i64 kk, .int .i64 n, .slice (some ⟨bb, off, none⟩) sub.length cap] 24)) wl := hbox2.trans ((hbu.trans (hbl.mono hbu.size)).mono (by simp; omega))
        clear hd2 hbox2 hbel2 hd hts2 ht2 hts hbu hbl
        go_wp2_with fail
        go_roundw
        case rel => exact ⟨k + 1, by omega, by go_num, _, rfl, by split <;> omega, by split <;> omega, hnext, hfin⟩
        case measure => simp [intOf]; omega
      · have fin2 : Hid (g = lsL kk sub 0 b 0) := by
          have := HG.out
          rw [List.drop_of_length_le (by omega)] at this
          simp only [lsL] at this; exact this
        go_wp2_with fail
        go_ret
        exact ⟨ret_int (by rw [fin.out, fin2.out]), hbel⟩
end Go.Proofs.Ytackepdhcigdlaa
