import Derived.Test.YtffgfjnbgplckaaT13
namespace Go.Proofs.Ytffgfjnbgplckaa
open Go.RowKit
set_option maxRecDepth 100000 in
set_option maxHeartbeats 4000000 in
theorem sametexts_yes (l : List ByteArray) (v u : Value) (S S' : Nat → Prop) (w : World) (hv : RepS S w v l) (hu : RepS S' w u l) :
    Calls Try.prog 27 #[v, u] w fun e w' => e = .returned (.bool true) ∧ Below w.heap.size w w' := by
  obtain ⟨a, cap, rfl, h1, h2⟩ := hv.shape
  obtain ⟨a2, cap2, rfl, h3, h4⟩ := hu.shape
  have hl : l.length ≤ 9223372036854775807 := by unfold maxLen at h2; omega
  have HV := Lib.hid hv
  have HU := Lib.hid hu
  clear hv hu h1 h2 h3 h4
  go_enter Try.func27, Try.ntmps27
  go_wp2_with fail
  go_loopw [5] (fun i wr => ∃ k : Nat, k ≤ l.length ∧ i = .int .i64 k ∧ Below w.heap.size w wr) (fun i _ => l.length - (intOf i).toNat)
  case atStart => exact ⟨0, Nat.zero_le _, rfl, Below.refl _ _⟩
  case round =>
    obtain ⟨k, hk, rfl, hb⟩ := hrel
    by_cases hlt : k < l.length
    · obtain ⟨b, off, rfl, -, -, e0, -⟩ := str_at (HV.out.later hb) k hlt
      obtain ⟨b2, off2, rfl, -, -, e1, -⟩ := str_at (HU.out.later hb) k hlt
      have hb0 : (0 : Int) ≤ k := by omega
      have hb1 : (k : Int) < l.length := by omega
      have HB := Lib.hid hb
      clear hb
      go_wp2_with fail
      go_quiet (fail)
      go_wp2_with fail
      go_roundw
      case rel => exact ⟨k + 1, by omega, by go_num, HB.out.trans ⟨rfl, rfl, rfl, Nat.le_refl _, fun _ _ => rfl⟩⟩
      case measure => simp [intOf]; omega
    · obtain rfl : k = l.length := by omega
      go_wp2_with fail
      go_ret
      exact ⟨rfl, hb⟩
theorem small_nd {t : Nd} (h : smallB t = true) : ndT t ≤ 8192 := by
  have h1 := of_decide_eq_true h
  unfold depthT at h1
  have h2 := sz_nd t 0 (by omega) (by omega)
  by_cases hb : 8192 < sizeT t
  · rw [if_pos hb] at h1; omega
  · unfold sizeT at hb; omega
theorem exprB_small {t : Nd} (h : exprB t = true) : smallB t = true := by unfold exprB at h; simp at h; exact h.1
theorem patB_small {t : Nd} (h : patB t = true) : smallB t = true := by unfold patB at h; simp at h; exact h.1
def namesP (t : Nd) : List ByteArray := if (exprB t || patB t) = true then namesT t 1 else []
set_option maxHeartbeats 4000000 in
theorem names_any (t : Nd) (cs : List Value) (w : World) (ht : NdC w t cs) : Calls Try.prog 28 #[.agg cs.toArray] w fun e w' => ∃ v, e = .returned v ∧ RepS (fun b => w.heap.size ≤ b) w' v (namesP t) ∧ Below w.heap.size w w' := by
  obtain ⟨a, cap, rfl, hsub, hlen, hnsa⟩ := nd_open ht
  have E := boxes1 w #[.int .i64 t.kind, .int .i64 t.at, .string t.name, .int .i64 t.num, .slice a t.sub.length cap] 24
  have ht2 := ht.later E.2.1
  have HT2 := Lib.hid ht2
  have HE := Lib.hid E
  have CE := Lib.hid (expr_any t _ _ ht2)
  have hfin : (exprB t || patB t) = true → namesP t = namesT t 1 ∧ ndT t ≤ 8192 := fun h => ⟨if_pos h, by
    rw [Bool.or_eq_true] at h
    exact small_nd (h.elim exprB_small patB_small)⟩
  have hno : (exprB t || patB t) = false → namesP t = [] := fun h => by unfold namesP; rw [h]; rfl
  have FIN := Lib.hid hfin
  have NO := Lib.hid hno
  clear hsub hlen ht ht2 E hfin hno
  generalize namesP t = res at *
  have CP : Hid (∀ w1, Below (w.alloc (.cells #[.int .i64 t.kind, .int .i64 t.at, .string t.name, .int .i64 t.num, .slice a t.sub.length cap] 24)).heap.size (w.alloc (.cells #[.int .i64 t.kind, .int .i64 t.at, .string t.name, .int .i64 t.num, .slice a t.sub.length cap] 24)) w1 → Calls Try.prog 17 #[.agg #[.int .i64 t.kind, .int .i64 t.at, .string t.name, .int .i64 t.num, .slice a t.sub.length cap]] w1 fun e w' => e = .returned (.bool (patB t)) ∧ Below w1.heap.size w1 w') := fun w1 hb => pattern_any t _ _ (HT2.out.later hb)
  generalize exprB t = be at *
  generalize patB t = bp at *
  cases be with
  | true =>
    obtain ⟨RES, HN⟩ := FIN.out rfl
    have RES := Lib.hid RES
    have HN := Lib.hid HN
    go_enter Try.func28, Try.ntmps28
    go_wp2_with fail
    refine CE.out.mono ?_
    rintro e w1 ⟨rfl, hb1⟩
    obtain ⟨d0, d1, d2, d3, d4⟩ := (show Box5 _ _ _ _ _ _ _ _ from HE.out.1).later hb1 (by have := HE.out.2.2; omega) |>.cells
    have HB1 := Lib.hid hb1
    have HBW := Lib.hid (HE.out.2.1.trans (hb1.mono HE.out.2.1.size))
    clear hb1
    go_wp2_with fail
    refine (collect_any t _ 1 _ HN.out (HT2.out.later HB1.out)).mono ?_
    rintro e w2 ⟨v, rfl, hr, hb2⟩
    go_wp2_with fail
    go_ret
    exact ⟨_, rfl, by rw [RES.out]; exact hr.sub (fun b hb _ => by have := HBW.out.size; omega), HBW.out.trans (hb2.mono HBW.out.size)⟩
  | false =>
    go_enter Try.func28, Try.ntmps28
    go_wp2_with fail
    refine CE.out.mono ?_
    rintro e w1 ⟨rfl, hb1⟩
    obtain ⟨d0, d1, d2, d3, d4⟩ := (show Box5 _ _ _ _ _ _ _ _ from HE.out.1).later hb1 (by have := HE.out.2.2; omega) |>.cells
    have HB1 := Lib.hid hb1
    have HBW := Lib.hid (HE.out.2.1.trans (hb1.mono HE.out.2.1.size))
    clear hb1
    go_wp2_with fail
    refine (CP.out _ HB1.out).mono ?_
    rintro e w2 ⟨rfl, hb2⟩
    have HB2 := Lib.hid (HB1.out.trans (hb2.mono HB1.out.size))
    have HBW2 := Lib.hid (HBW.out.trans (hb2.mono HBW.out.size))
    clear d0 d1 d2 d3 d4 hb2
    obtain ⟨d0, d1, d2, d3, d4⟩ := (show Box5 _ _ _ _ _ _ _ _ from HE.out.1).later HB2.out (by have := HE.out.2.2; omega) |>.cells
    cases bp with
    | true =>
      obtain ⟨RES, HN⟩ := FIN.out rfl
      have RES := Lib.hid RES
      have HN := Lib.hid HN
      go_wp2_with fail
      refine (collect_any t _ 1 _ HN.out (HT2.out.later HB2.out)).mono ?_
      rintro e w3 ⟨v, rfl, hr, hb3⟩
      go_wp2_with fail
      go_ret
      exact ⟨_, rfl, by rw [RES.out]; exact hr.sub (fun b hb _ => by have := HBW2.out.size; omega), HBW2.out.trans (hb3.mono HBW2.out.size)⟩
    | false =>
      have RES := Lib.hid (NO.out rfl)
      go_wp2_with fail
      go_ret
      exact ⟨_, rfl, by rw [RES.out]; exact RepS.nil, HBW2.out⟩
/-- the names of patterns, where all are patterns -/
def varsP (l : List Nd) : List ByteArray := if l.all patB = true then namesL l 6 else []
end Go.Proofs.Ytffgfjnbgplckaa
