import Derived.Test.YtackepdhcigdlaaTm1
import Derived.StillTailTactics
import Derived.BigQuiet
namespace Go.Proofs.Ytackepdhcigdlaa
open Go.RowKit
/-- an element of a slice of terms, in a later world -/
theorem sub_at {w wr : World} {a : Option Addr} {cap : Nat} {ts : List Tm} (h : TmS w (.slice a ts.length cap) ts) (hb : Below w.heap.size w wr) (k : Nat) (hlt : k < ts.length) :
    ∃ b off a' cap', a = some ⟨b, off, none⟩ ∧ wr.cell? ⟨b, off + k * 3, none⟩ = some (.int .i64 ts[k].kind) ∧ wr.cell? ⟨b, off + k * 3 + 1, none⟩ = some (.int .i64 ts[k].num) ∧
      wr.cell? ⟨b, off + k * 3 + 2, none⟩ = some (.slice a' ts[k].sub.length cap') ∧ TmC wr ts[k] [.int .i64 ts[k].kind, .int .i64 ts[k].num, .slice a' ts[k].sub.length cap'] := by
  obtain ⟨a0, c0, hv, _, _, hget⟩ := h.open
  simp only [Value.slice.injEq] at hv
  obtain ⟨rfl, _, rfl⟩ := hv
  obtain ⟨b, off, rfl, hgg⟩ := hget (by intro e; rw [e] at hlt; simp at hlt)
  obtain ⟨sv, c0, c1, c2, hsv⟩ := hgg k hlt
  obtain ⟨a', cap', rfl, -⟩ := hsv.open
  refine ⟨b, off, a', cap', rfl, ?_, ?_, ?_, (TmC.shut hsv).later hb⟩
  · exact (hb.cell (World.block_lt_of_cell? w _ c0)).trans c0
  · exact (hb.cell (World.block_lt_of_cell? w _ c1)).trans c1
  · exact (hb.cell (World.block_lt_of_cell? w _ c2)).trans c2
/-- a term's cells: the slice among them has a shape -/
theorem tm_open {w : World} {t : Tm} {cs : List Value} (h : TmC w t cs) : ∃ a cap, cs = [.int .i64 t.kind, .int .i64 t.num, .slice a t.sub.length cap] ∧ TmS w (.slice a t.sub.length cap) t.sub ∧ t.sub.length ≤ 9223372036854775807 := by
  obtain ⟨s, rfl, hs⟩ := h.open
  obtain ⟨a, cap, rfl, h1, h2, _⟩ := hs.open
  exact ⟨a, cap, rfl, hs, by unfold maxLen at h2; omega⟩
mutual
def eqT : Tm → Tm → Bool
  | .mk k n s, .mk k' n' s' => (k == k') && (n == n') && eqL s s'
def eqL : List Tm → List Tm → Bool
  | [], [] => true
  | t :: ts, t' :: ts' => eqT t t' && eqL ts ts'
  | _, _ => false
end
theorem eqL_length : ∀ {a b : List Tm}, eqL a b = true → a.length = b.length := by
  intro a
  induction a with
  | nil => intro b h; cases b <;> simp_all [eqL]
  | cons t ts ih => intro b h; cases b with
    | nil => simp [eqL] at h
    | cons t' ts' => simp only [eqL, Bool.and_eq_true] at h; simp [ih h.2]
theorem eqT_iff : ∀ (a b : Tm), eqT a b = true ↔ a = b := by
  refine Tm.ind ?_
  intro k n sub ih b
  cases b with
  | mk k' n' sub' =>
    simp only [eqT, Bool.and_eq_true, beq_iff_eq, Tm.mk.injEq]
    have : ∀ (l l' : List Tm), (∀ s ∈ l, ∀ b, eqT s b = true ↔ s = b) → (eqL l l' = true ↔ l = l') := by
      intro l
      induction l with
      | nil => intro l' _; cases l' <;> simp [eqL]
      | cons t ts iht =>
        intro l' hl
        cases l' with
        | nil => simp [eqL]
        | cons t' ts' =>
          simp only [eqL, Bool.and_eq_true, List.cons.injEq]
          rw [hl t (by simp), iht ts' (fun s hs => hl s (by simp [hs]))]
    rw [this sub sub' ih]
    constructor
    · rintro ⟨⟨h1, h2⟩, h3⟩; exact ⟨h1, h2, h3⟩
    · rintro ⟨h1, h2, h3⟩; exact ⟨⟨h1, h2⟩, h3⟩
set_option maxRecDepth 100000 in
set_option maxHeartbeats 1000000 in
theorem equal_any : ∀ (t u : Tm) (cs ds : List Value) (w : World), TmC w t cs → TmC w u ds →
    Calls Try.prog 55 #[.agg cs.toArray, .agg ds.toArray] w fun e w' => e = .returned (.bool (eqT t u)) ∧ Below w.heap.size w w' := by
  refine Tm.ind ?_
  intro kk n sub ih u cs ds w ht hu
  obtain ⟨a, cap, rfl, hsub, hlen⟩ := tm_open ht
  obtain ⟨a2, cap2, rfl, hsub2, hlen2⟩ := tm_open hu
  cases u with
  | mk kk2 n2 sub2 =>
  simp only [Tm.kind, Tm.num, Tm.sub] at *
  have IH := Lib.hid ih
  clear ht hu ih
  by_cases hk : kk = kk2
  · by_cases hn : n = n2
    · by_cases hl : sub.length = sub2.length
      · subst hk; subst hn
        have hb1 : (kk != kk) = false := by simp
        have hb2 : (n != n) = false := by simp
        have hb3 : ((sub.length : Int) != (sub2.length : Int)) = false := by rw [hl]; simp
        have HL := Lib.hid hl
        clear hl
        go_enter Try.func55, Try.ntmps55
        go_wp2_with fail
        go_loopw [30] (fun i wr => ∃ k : Nat, k ≤ sub.length ∧ i = .int .i64 k ∧ Hid (eqL (sub.drop k) (sub2.drop k) = eqL sub sub2) ∧ Below (w.heap.size + 2) ((w.alloc (.cells #[.int .i64 kk, .int .i64 n, .slice a sub.length cap] 24)).alloc (.cells #[.int .i64 kk, .int .i64 n, .slice a2 sub2.length cap2] 24)) wr) (fun i _ => sub.length - (intOf i).toNat)
        case atStart => exact ⟨0, Nat.zero_le _, rfl, rfl, Below.refl _ _⟩
        case round =>
          obtain ⟨k, hk, rfl, HG, hbox⟩ := hrel
          have hbel : Below w.heap.size w wr := (((Below.refl _ _).alloc (Nat.le_refl _) _).alloc (by simp) _).trans (hbox.mono (by omega))
          have x2 : wr.cell? ⟨w.heap.size, 2, none⟩ = some (.slice a sub.length cap) := (hbox.cell (by simp)).trans (by simp)
          have y2 : wr.cell? ⟨w.heap.size + 1, 2, none⟩ = some (.slice a2 sub2.length cap2) := (hbox.cell (by simp)).trans (by simp)
          by_cases hlt : k < sub.length
          · obtain ⟨b, off, a', cap', rfl, e0, e1, e2, hts⟩ := sub_at hsub hbel k hlt
            have hlt2 : k < sub2.length := by have := HL.out; omega
            obtain ⟨b2, off2, a2', cap2', rfl, f0, f1, f2, hts2⟩ := sub_at hsub2 hbel k hlt2
            have HD := Lib.hid (And.intro (List.drop_eq_getElem_cons hlt) (List.drop_eq_getElem_cons hlt2))
            by_cases hq : eqT sub[k] sub2[k] = true
            · have hnext : Hid (eqL (sub.drop (k+1)) (sub2.drop (k+1)) = eqL sub sub2) := by
                have h1 := HG.out
                rw [HD.out.1, HD.out.2] at h1
                simp only [eqL, hq, Bool.true_and] at h1; exact h1
              go_wp2_with fail
              go_still_tail 10, (by kernel_rfl)
              have hd : Below wr.heap.size wr wr.drew := (Below.refl _ _).drew
              go_wp2_with (go_at_call 55; refine (IH.out _ (List.getElem_mem hlt) sub2[k] _ _ _ (hts.later hd) (hts2.later hd)).mono ?_; rintro e w' ⟨rfl, hb2⟩)
              go_roundw
              case rel => exact ⟨k + 1, by omega, by go_num, hnext, hbox.trans ((hd.trans hb2).mono (by have := hbox.size; simpa using this))⟩
              case measure => simp [intOf]; omega
            · have hq' : eqT sub[k] sub2[k] = false := by simpa using hq
              have fin : Hid (eqL sub sub2 = false) := by
                have h1 := HG.out
                rw [HD.out.1, HD.out.2] at h1
                simp only [eqL, hq', Bool.false_and] at h1; exact h1.symm
              clear hq
              go_wp2_with fail
              go_still_tail 10, (by kernel_rfl)
              have hd : Below wr.heap.size wr wr.drew := (Below.refl _ _).drew
              go_wp2_with (go_at_call 55; refine (IH.out _ (List.getElem_mem hlt) sub2[k] _ _ _ (hts.later hd) (hts2.later hd)).mono ?_; rintro e w' ⟨rfl, hb2⟩)
              go_ret
              exact ⟨ret_bool (by simp only [eqT]; rw [fin.out]; simp), hbel.trans ((hd.trans hb2).mono hbel.size)⟩
          · have fin : Hid (eqL sub sub2 = true) := by
              have h1 := HG.out
              rw [List.drop_of_length_le (by omega), List.drop_of_length_le (by have := HL.out; omega)] at h1
              simp only [eqL] at h1; exact h1.symm
            go_wp2_with fail
            go_ret
            exact ⟨ret_bool (by simp only [eqT]; rw [fin.out]; simp), hbel⟩
      · have hb1 : (kk != kk2) = false := by rw [hk]; simp
        have hb2 : (n != n2) = false := by rw [hn]; simp
        have hb3 : ((sub.length : Int) != (sub2.length : Int)) = true := by simp; omega
        have fin : Hid (eqL sub sub2 = false) := by
          show _ = _
          rw [Bool.eq_false_iff]; intro h; exact hl (eqL_length h)
        clear hk hn hl
        go_enter Try.func55, Try.ntmps55
        go_wp2_with fail
        go_ret
        exact ⟨ret_bool (by simp only [eqT]; rw [fin.out]; simp), ((Below.refl _ _).alloc (Nat.le_refl _) _).alloc (by simp) _⟩
    · have hb1 : (kk != kk2) = false := by rw [hk]; simp
      have hb2 : (n != n2) = true := by simpa using hn
      have fin : Hid ((n == n2) = false) := by show _ = _; simpa using hn
      clear hk hn
      go_enter Try.func55, Try.ntmps55
      go_wp2_with fail
      go_ret
      exact ⟨ret_bool (by simp only [eqT]; rw [fin.out]; simp), ((Below.refl _ _).alloc (Nat.le_refl _) _).alloc (by simp) _⟩
  · have hb1 : (kk != kk2) = true := by simpa using hk
    have fin : Hid ((kk == kk2) = false) := by show _ = _; simpa using hk
    clear hk
    go_enter Try.func55, Try.ntmps55
    go_wp2_with fail
    go_ret
    exact ⟨ret_bool (by simp only [eqT]; rw [fin.out]; simp), ((Below.refl _ _).alloc (Nat.le_refl _) _).alloc (by simp) _⟩
end Go.Proofs.Ytackepdhcigdlaa
