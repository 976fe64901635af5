import Derived.Test.YtackepdhcigdlaaTm4
namespace Go.Proofs.Ytackepdhcigdlaa
open Go.RowKit
mutual
def goodB : Tm → Bool
  | .mk k n sub => headB (.mk k n sub) && goodL sub
def goodL : List Tm → Bool
  | [] => true
  | t :: ts => goodB t && goodL ts
end
mutual
def dpT : Tm → Int → Int
  | .mk _ _ sub, h => if 128 < h then h else dpL sub h h
def dpL : List Tm → Int → Int → Int
  | [], _, m => m
  | t :: ts, h, m => dpL ts h (max m (dpT t (h + 1)))
end
def sizeT (t : Tm) : Int := szT t 0
def depthT (t : Tm) : Int := if 8192 < sizeT t then 129 else dpT t 1
def shapedB (t : Tm) : Bool := decide (depthT t ≤ 128) && goodB t
theorem dp_bd : ∀ (t : Tm) (h : Int), h ≤ 129 → h ≤ dpT t h ∧ dpT t h ≤ 129 := by
  refine Tm.ind ?_
  intro k n sub ih h h1
  have : ∀ (l : List Tm), (∀ s ∈ l, ∀ (h : Int), h ≤ 129 → h ≤ dpT s h ∧ dpT s h ≤ 129) → ∀ h m : Int, h ≤ 128 → m ≤ 129 → m ≤ dpL l h m ∧ dpL l h m ≤ 129 := by
    intro l
    induction l with
    | nil => intro _ h m _ _; simp only [dpL]; omega
    | cons t ts iht =>
      intro hl h m h1 h2
      simp only [dpL]
      have h3 := hl t (by simp) (h + 1) (by omega)
      have h4 := iht (fun s hs => hl s (by simp [hs])) h (max m (dpT t (h + 1))) h1 (by omega)
      omega
  simp only [dpT]
  by_cases hb : 128 < h
  · rw [if_pos hb]; omega
  · rw [if_neg hb]; exact this sub ih h h (by omega) h1
theorem max_if (g x : Int) : max g x = if g < x then x else g := by split <;> omega
set_option maxRecDepth 100000 in
set_option maxHeartbeats 1000000 in
theorem deep_any : ∀ (t : Tm) (cs : List Value) (h : Int) (w : World), 0 ≤ h → h ≤ 129 → TmC w t cs →
    Calls Try.prog 52 #[.agg cs.toArray, .int .i64 h] w fun e w' => e = .returned (.int .i64 (dpT t h)) ∧ Below w.heap.size w w' := by
  refine Tm.ind ?_
  intro kk n sub ih cs h w h0 h1 ht
  obtain ⟨a, cap, rfl, hsub, hlen⟩ := tm_open ht
  simp only [Tm.kind, Tm.num, Tm.sub] at *
  have IH := Lib.hid ih
  clear ht ih
  by_cases hb : 128 < h
  · have fin : Hid (dpT (.mk kk n sub) h = h) := by show _ = _; simp only [dpT]; rw [if_pos hb]
    go_enter Try.func52, Try.ntmps52
    go_wp2_with fail
    go_ret
    exact ⟨ret_int fin.out.symm, (Below.refl _ _).alloc (Nat.le_refl _) _⟩
  · have fin : Hid (dpT (.mk kk n sub) h = dpL sub h h) := by show _ = _; simp only [dpT]; rw [if_neg hb]
    have hb2 : h ≤ 128 := by omega
    clear hb
    go_enter Try.func52, Try.ntmps52
    go_wp2_with fail
    go_loopw [5, 15] (fun x i wr => ∃ k : Nat, k ≤ sub.length ∧ i = .int .i64 k ∧ ∃ g : Int, x = .int .i64 g ∧ 0 ≤ g ∧ g ≤ 129 ∧ Hid (dpL (sub.drop k) h g = dpL sub h h) ∧ Below w.heap.size w wr) (fun _ i _ => sub.length - (intOf i).toNat)
    case atStart => exact ⟨0, Nat.zero_le _, rfl, h, rfl, by omega, by omega, rfl, (Below.refl _ _).alloc (Nat.le_refl _) _⟩
    case round =>
      obtain ⟨k, hk, rfl, g, rfl, hg0, hg1, HG, hbel⟩ := hrel
      by_cases hlt : k < sub.length
      · obtain ⟨b, off, a', cap', rfl, e0, e1, e2, hts⟩ := sub_at hsub hbel k hlt
        have hnext : Hid (dpL (sub.drop (k + 1)) h (if g < dpT sub[k] (h + 1) then dpT sub[k] (h + 1) else g) = dpL sub h h) := by
          have := HG.out
          rw [List.drop_eq_getElem_cons hlt] at this
          simp only [dpL, max_if] at this; exact this
        have hbd := dp_bd sub[k] (h + 1) (by omega)
        go_wp2_with fail
        have hd : Below wr.heap.size wr (wr.alloc (.cells #[.int .i64 sub[k].kind, .int .i64 sub[k].num, .slice a' sub[k].sub.length cap'] 24)) := (Below.refl _ _).alloc (Nat.le_refl _) _
        refine (IH.out _ (List.getElem_mem hlt) _ (h + 1) _ (by omega) (by omega) (hts.later hd)).mono ?_
        rintro e w' ⟨rfl, hb3⟩
        have hbel2 := hbel.trans ((hd.trans (hb3.mono (by simp))).mono hbel.size)
        clear hb3 hts hd
        go_wp2_with fail
        go_roundw
        case rel => exact ⟨k + 1, by omega, by go_num, _, rfl, by omega, by omega, hnext, hbel2⟩
        case measure => simp [intOf]; omega
      · have fin2 : Hid (g = dpL sub h h) := by
          have := HG.out
          rw [List.drop_of_length_le (by omega)] at this
          simp only [dpL] at this; exact this
        go_wp2_with fail
        go_ret
        exact ⟨ret_int (by rw [fin.out, fin2.out]), hbel⟩
set_option maxRecDepth 100000 in
set_option maxHeartbeats 1000000 in
theorem good_any : ∀ (t : Tm) (cs : List Value) (w : World), TmC w t cs →
    Calls Try.prog 50 #[.agg cs.toArray] w fun e w' => e = .returned (.bool (goodB t)) ∧ Below w.heap.size w w' := by
  refine Tm.ind ?_
  intro kk n sub ih cs w ht0
  have ht := ht0
  obtain ⟨a, cap, rfl, hsub, hlen⟩ := tm_open ht
  simp only [Tm.kind, Tm.num, Tm.sub] at *
  have IH := Lib.hid ih
  have hd0 : Below w.heap.size w (w.alloc (.cells #[.int .i64 kk, .int .i64 n, .slice a sub.length cap] 24)) := (Below.refl _ _).alloc (Nat.le_refl _) _
  have ht2 := ht0.later hd0
  clear ht ih ht0
  by_cases hh : headB (.mk kk n sub) = true
  · have fin : Hid (goodB (.mk kk n sub) = goodL sub) := by show _ = _; simp only [goodB, hh, Bool.true_and]
    go_enter Try.func50, Try.ntmps50
    go_wp2_with fail
    refine (head_any _ _ _ ht2).mono ?_
    rintro e w1 ⟨rfl, hb1⟩
    have hw1 := hd0.trans (hb1.mono hd0.size)
    have x2 : w1.cell? ⟨w.heap.size, 2, none⟩ = some (.slice a sub.length cap) := (hb1.cell (by simp)).trans (by simp)
    clear hb1 ht2
    go_wp2_with fail
    go_loopw [11] (fun i wr => ∃ k : Nat, k ≤ sub.length ∧ i = .int .i64 k ∧ Hid (goodL (sub.drop k) = goodL sub) ∧ Below w.heap.size w wr) (fun i _ => sub.length - (intOf i).toNat)
    case atStart => exact ⟨0, Nat.zero_le _, rfl, rfl, hw1⟩
    case round =>
      obtain ⟨k, hk, rfl, HG, hbel⟩ := hrel
      by_cases hlt : k < sub.length
      · obtain ⟨b, off, a', cap', rfl, e0, e1, e2, hts⟩ := sub_at hsub hbel k hlt
        have HD := Lib.hid (List.drop_eq_getElem_cons hlt)
        have hd : Below wr.heap.size wr (wr.alloc (.cells #[.int .i64 sub[k].kind, .int .i64 sub[k].num, .slice a' sub[k].sub.length cap'] 24)) := (Below.refl _ _).alloc (Nat.le_refl _) _
        by_cases hq : goodB sub[k] = true
        · have hnext : Hid (goodL (sub.drop (k+1)) = goodL sub) := by
            have h1 := HG.out
            rw [HD.out] at h1
            simp only [goodL, hq, Bool.true_and] at h1; exact h1
          go_wp2_with fail
          refine (IH.out _ (List.getElem_mem hlt) _ _ (hts.later hd)).mono ?_
          rintro e w' ⟨rfl, hb3⟩
          have hbel2 := hbel.trans ((hd.trans (hb3.mono (by simp))).mono hbel.size)
          clear hb3 hts hd
          go_wp2_with fail
          go_roundw
          case rel => exact ⟨k + 1, by omega, by go_num, hnext, hbel2⟩
          case measure => simp [intOf]; omega
        · have hq' : goodB sub[k] = false := by simpa using hq
          have fin2 : Hid (goodL sub = false) := by
            have h1 := HG.out
            rw [HD.out] at h1
            simp only [goodL, hq', Bool.false_and] at h1; exact h1.symm
          clear hq
          go_wp2_with fail
          refine (IH.out _ (List.getElem_mem hlt) _ _ (hts.later hd)).mono ?_
          rintro e w' ⟨rfl, hb3⟩
          have hbel2 := hbel.trans ((hd.trans (hb3.mono (by simp))).mono hbel.size)
          clear hb3 hts hd
          go_wp2_with fail
          go_ret
          exact ⟨ret_bool (by rw [fin.out, fin2.out]), hbel2⟩
      · have fin2 : Hid (goodL sub = true) := by
          have h1 := HG.out
          rw [List.drop_of_length_le (by omega)] at h1
          simp only [goodL] at h1; exact h1.symm
        go_wp2_with fail
        go_ret
        exact ⟨ret_bool (by rw [fin.out, fin2.out]), hbel⟩
  · have hh' : headB (.mk kk n sub) = false := by simpa using hh
    have fin : Hid (goodB (.mk kk n sub) = false) := by show _ = _; simp only [goodB, hh', Bool.false_and]
    clear hh
    go_enter Try.func50, Try.ntmps50
    go_wp2_with fail
    refine (head_any _ _ _ ht2).mono ?_
    rintro e w1 ⟨rfl, hb1⟩
    have hw1 := hd0.trans (hb1.mono hd0.size)
    clear hb1 ht2
    go_wp2_with fail
    go_ret
    exact ⟨ret_bool fin.out.symm, hw1⟩
end Go.Proofs.Ytackepdhcigdlaa
