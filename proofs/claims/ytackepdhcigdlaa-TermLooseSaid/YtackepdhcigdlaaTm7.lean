import Derived.Test.YtackepdhcigdlaaTm6
namespace Go.Proofs.Ytackepdhcigdlaa
open Go.RowKit
theorem good_of {k n : Int} {sub : List Tm} (h : headB (.mk k n sub) = true) : goodB (.mk k n sub) = goodL sub := by simp only [goodB, h, Bool.true_and]
theorem good_no {k n : Int} {sub : List Tm} (h : headB (.mk k n sub) = false) : goodB (.mk k n sub) = false := by simp only [goodB, h, Bool.false_and]
set_option maxRecDepth 100000 in
set_option maxHeartbeats 1000000 in
theorem rgood_1 (n : Int) (sub : List Tm) (ih : ∀ s ∈ sub, ∀ (cs : List Value) (w : World), TmC w s cs → Calls Try.prog 54 #[.agg cs.toArray] w fun e w' => e = .returned (.bool (goodB s)) ∧ Below w.heap.size w w')
    (cs : List Value) (w : World) (ht : TmC w (.mk 1 n sub) cs) :
    Calls Try.prog 54 #[.agg cs.toArray] w fun e w' => e = .returned (.bool (goodB (.mk 1 n sub))) ∧ Below w.heap.size w w' := by
  obtain ⟨a, cap, rfl, hsub, hlen⟩ := tm_open ht
  simp only [Tm.kind, Tm.num, Tm.sub] at *
  have IH := Lib.hid ih
  have hh : Hid (headB (.mk 1 n sub) = decide ((sub.length : Int) = 0 ∧ 0 ≤ n ∧ n ≤ 1048576)) := by
    simp [Hid, headB, Tm.kind, Tm.num, Tm.sub, subsOf, mostOf]
  clear ht ih
  by_cases hl : sub.length = 0
  · by_cases h1 : 0 ≤ n
    · by_cases h2 : n ≤ 1048576
      · have fin : Hid (goodB (.mk 1 n sub) = true) := by
          show _ = _
          rw [good_of (by rw [hh.out, decide_eq_true_iff]; omega), List.eq_nil_of_length_eq_zero hl]; rfl
        have hz : ((sub.length : Int) != 0) = false := by rw [hl]; rfl
        generalize goodB (.mk 1 n sub) = B at *
        generalize sub.length = L at *
        subst hl
        clear hsub IH hh
        go_enter Try.func54, Try.ntmps54
        go_wp2_with fail
        refine wp_loop_rounds 1 ?_
        rw [rounds_succ]
        go_wp2_with fail
        go_ret
        exact ⟨ret_bool fin.out.symm, (Below.refl _ _).alloc (Nat.le_refl _) _⟩
      · have fin : Hid (goodB (.mk 1 n sub) = false) := good_no (by rw [hh.out, decide_eq_false_iff_not]; omega)
        have hz : ((sub.length : Int) != 0) = false := by rw [hl]; rfl
        generalize goodB (.mk 1 n sub) = B at *
        clear hsub IH hh
        generalize sub.length = L at *
        subst hl
        go_enter Try.func54, Try.ntmps54
        go_wp2_with fail
        go_ret
        exact ⟨ret_bool fin.out.symm, (Below.refl _ _).alloc (Nat.le_refl _) _⟩
    · have fin : Hid (goodB (.mk 1 n sub) = false) := good_no (by rw [hh.out, decide_eq_false_iff_not]; omega)
      have hz : ((sub.length : Int) != 0) = false := by rw [hl]; rfl
      generalize goodB (.mk 1 n sub) = B at *
      clear hsub IH hh
      generalize sub.length = L at *
      subst hl
      go_enter Try.func54, Try.ntmps54
      go_wp2_with fail
      go_ret
      exact ⟨ret_bool fin.out.symm, (Below.refl _ _).alloc (Nat.le_refl _) _⟩
  · have fin : Hid (goodB (.mk 1 n sub) = false) := good_no (by rw [hh.out, decide_eq_false_iff_not]; omega)
    have hz : ((sub.length : Int) != 0) = true := by rw [bne_iff_ne]; omega
    generalize goodB (.mk 1 n sub) = B at *
    clear hsub IH hh
    generalize sub.length = L at *
    clear hl
    go_enter Try.func54, Try.ntmps54
    go_wp2_with fail
    go_ret
    exact ⟨ret_bool fin.out.symm, (Below.refl _ _).alloc (Nat.le_refl _) _⟩
set_option maxRecDepth 100000 in
set_option maxHeartbeats 1000000 in
theorem rgood_2 (n : Int) (sub : List Tm) (ih : ∀ s ∈ sub, ∀ (cs : List Value) (w : World), TmC w s cs → Calls Try.prog 54 #[.agg cs.toArray] w fun e w' => e = .returned (.bool (goodB s)) ∧ Below w.heap.size w w')
    (cs : List Value) (w : World) (ht : TmC w (.mk 2 n sub) cs) :
    Calls Try.prog 54 #[.agg cs.toArray] w fun e w' => e = .returned (.bool (goodB (.mk 2 n sub))) ∧ Below w.heap.size w w' := by
  obtain ⟨a, cap, rfl, hsub, hlen⟩ := tm_open ht
  simp only [Tm.kind, Tm.num, Tm.sub] at *
  have IH := Lib.hid ih
  have hh : Hid (headB (.mk 2 n sub) = decide ((sub.length : Int) = 0 ∧ 0 ≤ n ∧ n ≤ 7)) := by
    simp [Hid, headB, Tm.kind, Tm.num, Tm.sub, subsOf, mostOf]
  clear ht ih
  by_cases hl : sub.length = 0
  · by_cases h1 : 0 ≤ n
    · by_cases h2 : n ≤ 7
      · have fin : Hid (goodB (.mk 2 n sub) = true) := by
          show _ = _
          rw [good_of (by rw [hh.out, decide_eq_true_iff]; omega), List.eq_nil_of_length_eq_zero hl]; rfl
        have hz : ((sub.length : Int) != 0) = false := by rw [hl]; rfl
        generalize goodB (.mk 2 n sub) = B at *
        generalize sub.length = L at *
        subst hl
        clear hsub IH hh
        go_enter Try.func54, Try.ntmps54
        go_wp2_with fail
        refine wp_loop_rounds 1 ?_
        rw [rounds_succ]
        go_wp2_with fail
        go_ret
        exact ⟨ret_bool fin.out.symm, (Below.refl _ _).alloc (Nat.le_refl _) _⟩
      · have fin : Hid (goodB (.mk 2 n sub) = false) := good_no (by rw [hh.out, decide_eq_false_iff_not]; omega)
        have hz : ((sub.length : Int) != 0) = false := by rw [hl]; rfl
        generalize goodB (.mk 2 n sub) = B at *
        clear hsub IH hh
        generalize sub.length = L at *
        subst hl
        go_enter Try.func54, Try.ntmps54
        go_wp2_with fail
        go_ret
        exact ⟨ret_bool fin.out.symm, (Below.refl _ _).alloc (Nat.le_refl _) _⟩
    · have fin : Hid (goodB (.mk 2 n sub) = false) := good_no (by rw [hh.out, decide_eq_false_iff_not]; omega)
      have hz : ((sub.length : Int) != 0) = false := by rw [hl]; rfl
      generalize goodB (.mk 2 n sub) = B at *
      clear hsub IH hh
      generalize sub.length = L at *
      subst hl
      go_enter Try.func54, Try.ntmps54
      go_wp2_with fail
      go_ret
      exact ⟨ret_bool fin.out.symm, (Below.refl _ _).alloc (Nat.le_refl _) _⟩
  · have fin : Hid (goodB (.mk 2 n sub) = false) := good_no (by rw [hh.out, decide_eq_false_iff_not]; omega)
    have hz : ((sub.length : Int) != 0) = true := by rw [bne_iff_ne]; omega
    generalize goodB (.mk 2 n sub) = B at *
    clear hsub IH hh
    generalize sub.length = L at *
    clear hl
    go_enter Try.func54, Try.ntmps54
    go_wp2_with fail
    go_ret
    exact ⟨ret_bool fin.out.symm, (Below.refl _ _).alloc (Nat.le_refl _) _⟩
set_option maxRecDepth 100000 in
set_option maxHeartbeats 1000000 in
theorem rgood_3 (n : Int) (sub : List Tm) (ih : ∀ s ∈ sub, ∀ (cs : List Value) (w : World), TmC w s cs → Calls Try.prog 54 #[.agg cs.toArray] w fun e w' => e = .returned (.bool (goodB s)) ∧ Below w.heap.size w w')
    (cs : List Value) (w : World) (ht : TmC w (.mk 3 n sub) cs) :
    Calls Try.prog 54 #[.agg cs.toArray] w fun e w' => e = .returned (.bool (goodB (.mk 3 n sub))) ∧ Below w.heap.size w w' := by
  obtain ⟨a, cap, rfl, hsub, hlen⟩ := tm_open ht
  simp only [Tm.kind, Tm.num, Tm.sub] at *
  have IH := Lib.hid ih
  have hh : Hid (headB (.mk 3 n sub) = decide ((sub.length : Int) = 2 ∧ 0 ≤ n ∧ n ≤ 0)) := by
    simp [Hid, headB, Tm.kind, Tm.num, Tm.sub, subsOf, mostOf]
  clear ht ih
  by_cases hl : sub.length = 2
  · by_cases h1 : 0 ≤ n
    · by_cases h2 : n ≤ 0
      · have fin : Hid (goodB (.mk 3 n sub) = goodL sub) := good_of (by rw [hh.out]; simp; omega)
        have hz : ((sub.length : Int) != 2) = false := by rw [hl]; rfl
        have HL := Lib.hid hl
        clear hl
        go_enter Try.func54, Try.ntmps54
        go_wp2_with fail
        go_loopw [5] (fun i wr => ∃ k : Nat, k ≤ sub.length ∧ i = .int .i64 k ∧ Hid (goodL (sub.drop k) = goodL sub) ∧ Below (w.heap.size + 1) (w.alloc (.cells #[.int .i64 3, .int .i64 n, .slice a sub.length cap] 24)) wr) (fun i _ => 2 - (intOf i).toNat)
        case atStart => exact ⟨0, Nat.zero_le _, rfl, rfl, Below.refl _ _⟩
        case round =>
          obtain ⟨j, hj, rfl, HG, hbox⟩ := hrel
          have hbel : Below w.heap.size w wr := ((Below.refl _ _).alloc (Nat.le_refl _) _).trans (hbox.mono (by omega))
          have x2 : wr.cell? ⟨w.heap.size, 2, none⟩ = some (.slice a sub.length cap) := (hbox.cell (by simp)).trans (by simp)
          have hj2 : j ≤ 2 := by have := HL.out; omega
          by_cases hlt0 : j < 2
          · have hlt : j < sub.length := by have := HL.out; omega
            obtain ⟨b, off, a', cap', rfl, e0, e1, e2, hts⟩ := sub_at hsub hbel j hlt
            have HD := Lib.hid (List.drop_eq_getElem_cons hlt)
            by_cases hq : goodB sub[j] = true
            · have hnext : Hid (goodL (sub.drop (j+1)) = goodL sub) := by
                have h1 := HG.out
                rw [HD.out] at h1
                simp only [goodL, hq, Bool.true_and] at h1; exact h1
              go_wp2_with (go_at_call 54; refine (IH.out _ (List.getElem_mem hlt) _ _ hts).mono ?_; rintro e w' ⟨rfl, hb3⟩)
              go_roundw
              case rel => exact ⟨j + 1, by omega, by go_num, hnext, hbox.trans (hb3.mono (by have := hbox.size; simpa using this))⟩
              case measure => simp [intOf]; omega
            · have hq' : goodB sub[j] = false := by simpa using hq
              have fin2 : Hid (goodL sub = false) := by
                have h1 := HG.out
                rw [HD.out] at h1
                simp only [goodL, hq', Bool.false_and] at h1; exact h1.symm
              clear hq
              go_wp2_with (go_at_call 54; refine (IH.out _ (List.getElem_mem hlt) _ _ hts).mono ?_; rintro e w' ⟨rfl, hb3⟩)
              go_ret
              exact ⟨ret_bool (by rw [fin.out, fin2.out]), hbel.trans (hb3.mono hbel.size)⟩
          · have fin2 : Hid (goodL sub = true) := by
              have h1 := HG.out
              rw [List.drop_of_length_le (by have := HL.out; omega)] at h1
              simp only [goodL] at h1; exact h1.symm
            go_wp2_with fail
            go_ret
            exact ⟨ret_bool (by rw [fin.out, fin2.out]), hbel⟩
      · have fin : Hid (goodB (.mk 3 n sub) = false) := good_no (by rw [hh.out, decide_eq_false_iff_not]; omega)
        have hz : ((sub.length : Int) != 2) = false := by rw [hl]; rfl
        generalize goodB (.mk 3 n sub) = B at *
        clear hsub IH hh
        generalize sub.length = L at *
        subst hl
        go_enter Try.func54, Try.ntmps54
        go_wp2_with fail
        go_ret
        exact ⟨ret_bool fin.out.symm, (Below.refl _ _).alloc (Nat.le_refl _) _⟩
    · have fin : Hid (goodB (.mk 3 n sub) = false) := good_no (by rw [hh.out, decide_eq_false_iff_not]; omega)
      have hz : ((sub.length : Int) != 2) = false := by rw [hl]; rfl
      generalize goodB (.mk 3 n sub) = B at *
      clear hsub IH hh
      generalize sub.length = L at *
      subst hl
      go_enter Try.func54, Try.ntmps54
      go_wp2_with fail
      go_ret
      exact ⟨ret_bool fin.out.symm, (Below.refl _ _).alloc (Nat.le_refl _) _⟩
  · have fin : Hid (goodB (.mk 3 n sub) = false) := good_no (by rw [hh.out, decide_eq_false_iff_not]; omega)
    have hz : ((sub.length : Int) != 2) = true := by rw [bne_iff_ne]; omega
    generalize goodB (.mk 3 n sub) = B at *
    clear hsub IH hh
    generalize sub.length = L at *
    clear hl
    go_enter Try.func54, Try.ntmps54
    go_wp2_with fail
    go_ret
    exact ⟨ret_bool fin.out.symm, (Below.refl _ _).alloc (Nat.le_refl _) _⟩
set_option maxRecDepth 100000 in
set_option maxHeartbeats 1000000 in
theorem rgood_4 (n : Int) (sub : List Tm) (ih : ∀ s ∈ sub, ∀ (cs : List Value) (w : World), TmC w s cs → Calls Try.prog 54 #[.agg cs.toArray] w fun e w' => e = .returned (.bool (goodB s)) ∧ Below w.heap.size w w')
    (cs : List Value) (w : World) (ht : TmC w (.mk 4 n sub) cs) :
    Calls Try.prog 54 #[.agg cs.toArray] w fun e w' => e = .returned (.bool (goodB (.mk 4 n sub))) ∧ Below w.heap.size w w' := by
  obtain ⟨a, cap, rfl, hsub, hlen⟩ := tm_open ht
  simp only [Tm.kind, Tm.num, Tm.sub] at *
  have IH := Lib.hid ih
  have hh : Hid (headB (.mk 4 n sub) = decide ((sub.length : Int) = 2 ∧ 0 ≤ n ∧ n ≤ 0)) := by
    simp [Hid, headB, Tm.kind, Tm.num, Tm.sub, subsOf, mostOf]
  clear ht ih
  by_cases hl : sub.length = 2
  · by_cases h1 : 0 ≤ n
    · by_cases h2 : n ≤ 0
      · have fin : Hid (goodB (.mk 4 n sub) = goodL sub) := good_of (by rw [hh.out]; simp; omega)
        have hz : ((sub.length : Int) != 2) = false := by rw [hl]; rfl
        have HL := Lib.hid hl
        clear hl
        go_enter Try.func54, Try.ntmps54
        go_wp2_with fail
        go_loopw [5] (fun i wr => ∃ k : Nat, k ≤ sub.length ∧ i = .int .i64 k ∧ Hid (goodL (sub.drop k) = goodL sub) ∧ Below (w.heap.size + 1) (w.alloc (.cells #[.int .i64 4, .int .i64 n, .slice a sub.length cap] 24)) wr) (fun i _ => 2 - (intOf i).toNat)
        case atStart => exact ⟨0, Nat.zero_le _, rfl, rfl, Below.refl _ _⟩
        case round =>
          obtain ⟨j, hj, rfl, HG, hbox⟩ := hrel
          have hbel : Below w.heap.size w wr := ((Below.refl _ _).alloc (Nat.le_refl _) _).trans (hbox.mono (by omega))
          have x2 : wr.cell? ⟨w.heap.size, 2, none⟩ = some (.slice a sub.length cap) := (hbox.cell (by simp)).trans (by simp)
          have hj2 : j ≤ 2 := by have := HL.out; omega
          by_cases hlt0 : j < 2
          · have hlt : j < sub.length := by have := HL.out; omega
            obtain ⟨b, off, a', cap', rfl, e0, e1, e2, hts⟩ := sub_at hsub hbel j hlt
            have HD := Lib.hid (List.drop_eq_getElem_cons hlt)
            by_cases hq : goodB sub[j] = true
            · have hnext : Hid (goodL (sub.drop (j+1)) = goodL sub) := by
                have h1 := HG.out
                rw [HD.out] at h1
                simp only [goodL, hq, Bool.true_and] at h1; exact h1
              go_wp2_with (go_at_call 54; refine (IH.out _ (List.getElem_mem hlt) _ _ hts).mono ?_; rintro e w' ⟨rfl, hb3⟩)
              go_roundw
              case rel => exact ⟨j + 1, by omega, by go_num, hnext, hbox.trans (hb3.mono (by have := hbox.size; simpa using this))⟩
              case measure => simp [intOf]; omega
            · have hq' : goodB sub[j] = false := by simpa using hq
              have fin2 : Hid (goodL sub = false) := by
                have h1 := HG.out
                rw [HD.out] at h1
                simp only [goodL, hq', Bool.false_and] at h1; exact h1.symm
              clear hq
              go_wp2_with (go_at_call 54; refine (IH.out _ (List.getElem_mem hlt) _ _ hts).mono ?_; rintro e w' ⟨rfl, hb3⟩)
              go_ret
              exact ⟨ret_bool (by rw [fin.out, fin2.out]), hbel.trans (hb3.mono hbel.size)⟩
          · have fin2 : Hid (goodL sub = true) := by
              have h1 := HG.out
              rw [List.drop_of_length_le (by have := HL.out; omega)] at h1
              simp only [goodL] at h1; exact h1.symm
            go_wp2_with fail
            go_ret
            exact ⟨ret_bool (by rw [fin.out, fin2.out]), hbel⟩
      · have fin : Hid (goodB (.mk 4 n sub) = false) := good_no (by rw [hh.out, decide_eq_false_iff_not]; omega)
        have hz : ((sub.length : Int) != 2) = false := by rw [hl]; rfl
        generalize goodB (.mk 4 n sub) = B at *
        clear hsub IH hh
        generalize sub.length = L at *
        subst hl
        go_enter Try.func54, Try.ntmps54
        go_wp2_with fail
        go_ret
        exact ⟨ret_bool fin.out.symm, (Below.refl _ _).alloc (Nat.le_refl _) _⟩
    · have fin : Hid (goodB (.mk 4 n sub) = false) := good_no (by rw [hh.out, decide_eq_false_iff_not]; omega)
      have hz : ((sub.length : Int) != 2) = false := by rw [hl]; rfl
      generalize goodB (.mk 4 n sub) = B at *
      clear hsub IH hh
      generalize sub.length = L at *
      subst hl
      go_enter Try.func54, Try.ntmps54
      go_wp2_with fail
      go_ret
      exact ⟨ret_bool fin.out.symm, (Below.refl _ _).alloc (Nat.le_refl _) _⟩
  · have fin : Hid (goodB (.mk 4 n sub) = false) := good_no (by rw [hh.out, decide_eq_false_iff_not]; omega)
    have hz : ((sub.length : Int) != 2) = true := by rw [bne_iff_ne]; omega
    generalize goodB (.mk 4 n sub) = B at *
    clear hsub IH hh
    generalize sub.length = L at *
    clear hl
    go_enter Try.func54, Try.ntmps54
    go_wp2_with fail
    go_ret
    exact ⟨ret_bool fin.out.symm, (Below.refl _ _).alloc (Nat.le_refl _) _⟩
set_option maxRecDepth 100000 in
set_option maxHeartbeats 1000000 in
theorem rgood_5 (n : Int) (sub : List Tm) (ih : ∀ s ∈ sub, ∀ (cs : List Value) (w : World), TmC w s cs → Calls Try.prog 54 #[.agg cs.toArray] w fun e w' => e = .returned (.bool (goodB s)) ∧ Below w.heap.size w w')
    (cs : List Value) (w : World) (ht : TmC w (.mk 5 n sub) cs) :
    Calls Try.prog 54 #[.agg cs.toArray] w fun e w' => e = .returned (.bool (goodB (.mk 5 n sub))) ∧ Below w.heap.size w w' := by
  obtain ⟨a, cap, rfl, hsub, hlen⟩ := tm_open ht
  simp only [Tm.kind, Tm.num, Tm.sub] at *
  have IH := Lib.hid ih
  have hh : Hid (headB (.mk 5 n sub) = decide ((sub.length : Int) = 2 ∧ 0 ≤ n ∧ n ≤ 0)) := by
    simp [Hid, headB, Tm.kind, Tm.num, Tm.sub, subsOf, mostOf]
  clear ht ih
  by_cases hl : sub.length = 2
  · by_cases h1 : 0 ≤ n
    · by_cases h2 : n ≤ 0
      · have fin : Hid (goodB (.mk 5 n sub) = goodL sub) := good_of (by rw [hh.out]; simp; omega)
        have hz : ((sub.length : Int) != 2) = false := by rw [hl]; rfl
        have HL := Lib.hid hl
        clear hl
        go_enter Try.func54, Try.ntmps54
        go_wp2_with fail
        go_loopw [5] (fun i wr => ∃ k : Nat, k ≤ sub.length ∧ i = .int .i64 k ∧ Hid (goodL (sub.drop k) = goodL sub) ∧ Below (w.heap.size + 1) (w.alloc (.cells #[.int .i64 5, .int .i64 n, .slice a sub.length cap] 24)) wr) (fun i _ => 2 - (intOf i).toNat)
        case atStart => exact ⟨0, Nat.zero_le _, rfl, rfl, Below.refl _ _⟩
        case round =>
          obtain ⟨j, hj, rfl, HG, hbox⟩ := hrel
          have hbel : Below w.heap.size w wr := ((Below.refl _ _).alloc (Nat.le_refl _) _).trans (hbox.mono (by omega))
          have x2 : wr.cell? ⟨w.heap.size, 2, none⟩ = some (.slice a sub.length cap) := (hbox.cell (by simp)).trans (by simp)
          have hj2 : j ≤ 2 := by have := HL.out; omega
          by_cases hlt0 : j < 2
          · have hlt : j < sub.length := by have := HL.out; omega
            obtain ⟨b, off, a', cap', rfl, e0, e1, e2, hts⟩ := sub_at hsub hbel j hlt
            have HD := Lib.hid (List.drop_eq_getElem_cons hlt)
            by_cases hq : goodB sub[j] = true
            · have hnext : Hid (goodL (sub.drop (j+1)) = goodL sub) := by
                have h1 := HG.out
                rw [HD.out] at h1
                simp only [goodL, hq, Bool.true_and] at h1; exact h1
              go_wp2_with (go_at_call 54; refine (IH.out _ (List.getElem_mem hlt) _ _ hts).mono ?_; rintro e w' ⟨rfl, hb3⟩)
              go_roundw
              case rel => exact ⟨j + 1, by omega, by go_num, hnext, hbox.trans (hb3.mono (by have := hbox.size; simpa using this))⟩
              case measure => simp [intOf]; omega
            · have hq' : goodB sub[j] = false := by simpa using hq
              have fin2 : Hid (goodL sub = false) := by
                have h1 := HG.out
                rw [HD.out] at h1
                simp only [goodL, hq', Bool.false_and] at h1; exact h1.symm
              clear hq
              go_wp2_with (go_at_call 54; refine (IH.out _ (List.getElem_mem hlt) _ _ hts).mono ?_; rintro e w' ⟨rfl, hb3⟩)
              go_ret
              exact ⟨ret_bool (by rw [fin.out, fin2.out]), hbel.trans (hb3.mono hbel.size)⟩
          · have fin2 : Hid (goodL sub = true) := by
              have h1 := HG.out
              rw [List.drop_of_length_le (by have := HL.out; omega)] at h1
              simp only [goodL] at h1; exact h1.symm
            go_wp2_with fail
            go_ret
            exact ⟨ret_bool (by rw [fin.out, fin2.out]), hbel⟩
      · have fin : Hid (goodB (.mk 5 n sub) = false) := good_no (by rw [hh.out, decide_eq_false_iff_not]; omega)
        have hz : ((sub.length : Int) != 2) = false := by rw [hl]; rfl
        generalize goodB (.mk 5 n sub) = B at *
        clear hsub IH hh
        generalize sub.length = L at *
        subst hl
        go_enter Try.func54, Try.ntmps54
        go_wp2_with fail
        go_ret
        exact ⟨ret_bool fin.out.symm, (Below.refl _ _).alloc (Nat.le_refl _) _⟩
    · have fin : Hid (goodB (.mk 5 n sub) = false) := good_no (by rw [hh.out, decide_eq_false_iff_not]; omega)
      have hz : ((sub.length : Int) != 2) = false := by rw [hl]; rfl
      generalize goodB (.mk 5 n sub) = B at *
      clear hsub IH hh
      generalize sub.length = L at *
      subst hl
      go_enter Try.func54, Try.ntmps54
      go_wp2_with fail
      go_ret
      exact ⟨ret_bool fin.out.symm, (Below.refl _ _).alloc (Nat.le_refl _) _⟩
  · have fin : Hid (goodB (.mk 5 n sub) = false) := good_no (by rw [hh.out, decide_eq_false_iff_not]; omega)
    have hz : ((sub.length : Int) != 2) = true := by rw [bne_iff_ne]; omega
    generalize goodB (.mk 5 n sub) = B at *
    clear hsub IH hh
    generalize sub.length = L at *
    clear hl
    go_enter Try.func54, Try.ntmps54
    go_wp2_with fail
    go_ret
    exact ⟨ret_bool fin.out.symm, (Below.refl _ _).alloc (Nat.le_refl _) _⟩
set_option maxRecDepth 100000 in
set_option maxHeartbeats 1000000 in
theorem rgood_6 (n : Int) (sub : List Tm) (ih : ∀ s ∈ sub, ∀ (cs : List Value) (w : World), TmC w s cs → Calls Try.prog 54 #[.agg cs.toArray] w fun e w' => e = .returned (.bool (goodB s)) ∧ Below w.heap.size w w')
    (cs : List Value) (w : World) (ht : TmC w (.mk 6 n sub) cs) :
    Calls Try.prog 54 #[.agg cs.toArray] w fun e w' => e = .returned (.bool (goodB (.mk 6 n sub))) ∧ Below w.heap.size w w' := by
  obtain ⟨a, cap, rfl, hsub, hlen⟩ := tm_open ht
  simp only [Tm.kind, Tm.num, Tm.sub] at *
  have IH := Lib.hid ih
  have hh : Hid (headB (.mk 6 n sub) = decide ((sub.length : Int) = 0 ∧ 0 ≤ n ∧ n ≤ 1048576)) := by
    simp [Hid, headB, Tm.kind, Tm.num, Tm.sub, subsOf, mostOf]
  clear ht ih
  by_cases hl : sub.length = 0
  · by_cases h1 : 0 ≤ n
    · by_cases h2 : n ≤ 1048576
      · have fin : Hid (goodB (.mk 6 n sub) = true) := by
          show _ = _
          rw [good_of (by rw [hh.out, decide_eq_true_iff]; omega), List.eq_nil_of_length_eq_zero hl]; rfl
        have hz : ((sub.length : Int) != 0) = false := by rw [hl]; rfl
        generalize goodB (.mk 6 n sub) = B at *
        generalize sub.length = L at *
        subst hl
        clear hsub IH hh
        go_enter Try.func54, Try.ntmps54
        go_wp2_with fail
        refine wp_loop_rounds 1 ?_
        rw [rounds_succ]
        go_wp2_with fail
        go_ret
        exact ⟨ret_bool fin.out.symm, (Below.refl _ _).alloc (Nat.le_refl _) _⟩
      · have fin : Hid (goodB (.mk 6 n sub) = false) := good_no (by rw [hh.out, decide_eq_false_iff_not]; omega)
        have hz : ((sub.length : Int) != 0) = false := by rw [hl]; rfl
        generalize goodB (.mk 6 n sub) = B at *
        clear hsub IH hh
        generalize sub.length = L at *
        subst hl
        go_enter Try.func54, Try.ntmps54
        go_wp2_with fail
        go_ret
        exact ⟨ret_bool fin.out.symm, (Below.refl _ _).alloc (Nat.le_refl _) _⟩
    · have fin : Hid (goodB (.mk 6 n sub) = false) := good_no (by rw [hh.out, decide_eq_false_iff_not]; omega)
      have hz : ((sub.length : Int) != 0) = false := by rw [hl]; rfl
      generalize goodB (.mk 6 n sub) = B at *
      clear hsub IH hh
      generalize sub.length = L at *
      subst hl
      go_enter Try.func54, Try.ntmps54
      go_wp2_with fail
      go_ret
      exact ⟨ret_bool fin.out.symm, (Below.refl _ _).alloc (Nat.le_refl _) _⟩
  · have fin : Hid (goodB (.mk 6 n sub) = false) := good_no (by rw [hh.out, decide_eq_false_iff_not]; omega)
    have hz : ((sub.length : Int) != 0) = true := by rw [bne_iff_ne]; omega
    generalize goodB (.mk 6 n sub) = B at *
    clear hsub IH hh
    generalize sub.length = L at *
    clear hl
    go_enter Try.func54, Try.ntmps54
    go_wp2_with fail
    go_ret
    exact ⟨ret_bool fin.out.symm, (Below.refl _ _).alloc (Nat.le_refl _) _⟩
set_option maxRecDepth 100000 in
set_option maxHeartbeats 1000000 in
theorem rgood_7 (n : Int) (sub : List Tm) (ih : ∀ s ∈ sub, ∀ (cs : List Value) (w : World), TmC w s cs → Calls Try.prog 54 #[.agg cs.toArray] w fun e w' => e = .returned (.bool (goodB s)) ∧ Below w.heap.size w w')
    (cs : List Value) (w : World) (ht : TmC w (.mk 7 n sub) cs) :
    Calls Try.prog 54 #[.agg cs.toArray] w fun e w' => e = .returned (.bool (goodB (.mk 7 n sub))) ∧ Below w.heap.size w w' := by
  obtain ⟨a, cap, rfl, hsub, hlen⟩ := tm_open ht
  simp only [Tm.kind, Tm.num, Tm.sub] at *
  have IH := Lib.hid ih
  have hh : Hid (headB (.mk 7 n sub) = decide ((sub.length : Int) = 1 ∧ 0 ≤ n ∧ n ≤ 1048576 ∧ fst0 sub = 2)) := by
    simp [Hid, headB, Tm.kind, Tm.num, Tm.sub, subsOf, mostOf]
  clear ht ih
  by_cases hl : sub.length = 1
  · by_cases h1 : 0 ≤ n
    · by_cases h2 : n ≤ 1048576
      · have hpos : 0 < sub.length := by omega
        have hf : fst0 sub = sub[0].kind := by
          match sub, hpos with
          | t0 :: _, _ => rfl
        by_cases h3 : sub[0].kind = 2
        · have h3b : (sub[0].kind != 2) = false := by rw [h3]; rfl
          obtain ⟨b, off, a', cap', rfl, e0, -, -, -⟩ := sub_at hsub ((Below.refl _ _).alloc (Nat.le_refl _) (.cells #[.int .i64 7, .int .i64 n, .slice a sub.length cap] 24)) 0 hpos
          simp only [Nat.zero_mul, Nat.add_zero] at e0
          have h3f : fst0 sub = 2 := by rw [hf, h3]
          have H3 := Lib.hid h3f
          clear h3 hf h3f
          have fin : Hid (goodB (.mk 7 n sub) = goodL sub) := good_of (by rw [hh.out]; simp; exact ⟨by omega, by omega, by omega, H3.out⟩)
          have hz : ((sub.length : Int) != 1) = false := by rw [hl]; rfl
          have HL := Lib.hid hl
          clear hl
          go_enter Try.func54, Try.ntmps54
          go_wp2_with fail
          go_loopw [5] (fun i wr => ∃ k : Nat, k ≤ sub.length ∧ i = .int .i64 k ∧ Hid (goodL (sub.drop k) = goodL sub) ∧ Below (w.heap.size + 1) (w.alloc (.cells #[.int .i64 7, .int .i64 n, (.slice (some ⟨b, off, none⟩) sub.length cap)] 24)) wr) (fun i _ => 1 - (intOf i).toNat)
          case atStart => exact ⟨0, Nat.zero_le _, rfl, rfl, Below.refl _ _⟩
          case round =>
            obtain ⟨j, hj, rfl, HG, hbox⟩ := hrel
            have hbel : Below w.heap.size w wr := ((Below.refl _ _).alloc (Nat.le_refl _) _).trans (hbox.mono (by omega))
            have x2 : wr.cell? ⟨w.heap.size, 2, none⟩ = some (.slice (some ⟨b, off, none⟩) sub.length cap) := (hbox.cell (by simp)).trans (by simp)
            have hj2 : j ≤ 1 := by have := HL.out; omega
            by_cases hlt0 : j < 1
            · have hlt : j < sub.length := by have := HL.out; omega
              obtain ⟨b', off', a'', cap'', hbb, e0, e1, e2, hts⟩ := sub_at hsub hbel j hlt
              simp only [Option.some.injEq, Addr.mk.injEq, and_true] at hbb
              obtain ⟨rfl, rfl⟩ := hbb
              have HD := Lib.hid (List.drop_eq_getElem_cons hlt)
              by_cases hq : goodB sub[j] = true
              · have hnext : Hid (goodL (sub.drop (j+1)) = goodL sub) := by
                  have h1 := HG.out
                  rw [HD.out] at h1
                  simp only [goodL, hq, Bool.true_and] at h1; exact h1
                go_wp2_with (go_at_call 54; refine (IH.out _ (List.getElem_mem hlt) _ _ hts).mono ?_; rintro e w' ⟨rfl, hb3⟩)
                go_roundw
                case rel => exact ⟨j + 1, by omega, by go_num, hnext, hbox.trans (hb3.mono (by have := hbox.size; simpa using this))⟩
                case measure => simp [intOf]; omega
              · have hq' : goodB sub[j] = false := by simpa using hq
                have fin2 : Hid (goodL sub = false) := by
                  have h1 := HG.out
                  rw [HD.out] at h1
                  simp only [goodL, hq', Bool.false_and] at h1; exact h1.symm
                clear hq
                go_wp2_with (go_at_call 54; refine (IH.out _ (List.getElem_mem hlt) _ _ hts).mono ?_; rintro e w' ⟨rfl, hb3⟩)
                go_ret
                exact ⟨ret_bool (by rw [fin.out, fin2.out]), hbel.trans (hb3.mono hbel.size)⟩
            · have fin2 : Hid (goodL sub = true) := by
                have h1 := HG.out
                rw [List.drop_of_length_le (by have := HL.out; omega)] at h1
                simp only [goodL] at h1; exact h1.symm
              go_wp2_with fail
              go_ret
              exact ⟨ret_bool (by rw [fin.out, fin2.out]), hbel⟩
        · have h3b : (sub[0].kind != 2) = true := by simpa using h3
          obtain ⟨b, off, a', cap', rfl, e0, -, -, -⟩ := sub_at hsub ((Below.refl _ _).alloc (Nat.le_refl _) (.cells #[.int .i64 7, .int .i64 n, .slice a sub.length cap] 24)) 0 hpos
          simp only [Nat.zero_mul, Nat.add_zero] at e0
          have hz : ((sub.length : Int) != 1) = false := by rw [hl]; rfl
          have fin : Hid (goodB (.mk 7 n sub) = false) := good_no (by rw [hh.out, hf]; simp [h3])
          clear h3 hf hl
          go_enter Try.func54, Try.ntmps54
          go_wp2_with fail
          go_ret
          exact ⟨ret_bool fin.out.symm, (Below.refl _ _).alloc (Nat.le_refl _) _⟩
      · have fin : Hid (goodB (.mk 7 n sub) = false) := good_no (by rw [hh.out, decide_eq_false_iff_not]; omega)
        have hz : ((sub.length : Int) != 1) = false := by rw [hl]; rfl
        generalize goodB (.mk 7 n sub) = B at *
        clear hsub IH hh
        generalize sub.length = L at *
        subst hl
        go_enter Try.func54, Try.ntmps54
        go_wp2_with fail
        go_ret
        exact ⟨ret_bool fin.out.symm, (Below.refl _ _).alloc (Nat.le_refl _) _⟩
    · have fin : Hid (goodB (.mk 7 n sub) = false) := good_no (by rw [hh.out, decide_eq_false_iff_not]; omega)
      have hz : ((sub.length : Int) != 1) = false := by rw [hl]; rfl
      generalize goodB (.mk 7 n sub) = B at *
      clear hsub IH hh
      generalize sub.length = L at *
      subst hl
      go_enter Try.func54, Try.ntmps54
      go_wp2_with fail
      go_ret
      exact ⟨ret_bool fin.out.symm, (Below.refl _ _).alloc (Nat.le_refl _) _⟩
  · have fin : Hid (goodB (.mk 7 n sub) = false) := good_no (by rw [hh.out, decide_eq_false_iff_not]; omega)
    have hz : ((sub.length : Int) != 1) = true := by rw [bne_iff_ne]; omega
    generalize goodB (.mk 7 n sub) = B at *
    clear hsub IH hh
    generalize sub.length = L at *
    clear hl
    go_enter Try.func54, Try.ntmps54
    go_wp2_with fail
    go_ret
    exact ⟨ret_bool fin.out.symm, (Below.refl _ _).alloc (Nat.le_refl _) _⟩
set_option maxRecDepth 100000 in
set_option maxHeartbeats 1000000 in
theorem rgood_8 (n : Int) (sub : List Tm) (ih : ∀ s ∈ sub, ∀ (cs : List Value) (w : World), TmC w s cs → Calls Try.prog 54 #[.agg cs.toArray] w fun e w' => e = .returned (.bool (goodB s)) ∧ Below w.heap.size w w')
    (cs : List Value) (w : World) (ht : TmC w (.mk 8 n sub) cs) :
    Calls Try.prog 54 #[.agg cs.toArray] w fun e w' => e = .returned (.bool (goodB (.mk 8 n sub))) ∧ Below w.heap.size w w' := by
  obtain ⟨a, cap, rfl, hsub, hlen⟩ := tm_open ht
  simp only [Tm.kind, Tm.num, Tm.sub] at *
  have IH := Lib.hid ih
  have hh : Hid (headB (.mk 8 n sub) = decide ((sub.length : Int) = 0 ∧ 0 ≤ n ∧ n ≤ 1048576)) := by
    simp [Hid, headB, Tm.kind, Tm.num, Tm.sub, subsOf, mostOf]
  clear ht ih
  by_cases hl : sub.length = 0
  · by_cases h1 : 0 ≤ n
    · by_cases h2 : n ≤ 1048576
      · have fin : Hid (goodB (.mk 8 n sub) = true) := by
          show _ = _
          rw [good_of (by rw [hh.out, decide_eq_true_iff]; omega), List.eq_nil_of_length_eq_zero hl]; rfl
        have hz : ((sub.length : Int) != 0) = false := by rw [hl]; rfl
        generalize goodB (.mk 8 n sub) = B at *
        generalize sub.length = L at *
        subst hl
        clear hsub IH hh
        go_enter Try.func54, Try.ntmps54
        go_wp2_with fail
        refine wp_loop_rounds 1 ?_
        rw [rounds_succ]
        go_wp2_with fail
        go_ret
        exact ⟨ret_bool fin.out.symm, (Below.refl _ _).alloc (Nat.le_refl _) _⟩
      · have fin : Hid (goodB (.mk 8 n sub) = false) := good_no (by rw [hh.out, decide_eq_false_iff_not]; omega)
        have hz : ((sub.length : Int) != 0) = false := by rw [hl]; rfl
        generalize goodB (.mk 8 n sub) = B at *
        clear hsub IH hh
        generalize sub.length = L at *
        subst hl
        go_enter Try.func54, Try.ntmps54
        go_wp2_with fail
        go_ret
        exact ⟨ret_bool fin.out.symm, (Below.refl _ _).alloc (Nat.le_refl _) _⟩
    · have fin : Hid (goodB (.mk 8 n sub) = false) := good_no (by rw [hh.out, decide_eq_false_iff_not]; omega)
      have hz : ((sub.length : Int) != 0) = false := by rw [hl]; rfl
      generalize goodB (.mk 8 n sub) = B at *
      clear hsub IH hh
      generalize sub.length = L at *
      subst hl
      go_enter Try.func54, Try.ntmps54
      go_wp2_with fail
      go_ret
      exact ⟨ret_bool fin.out.symm, (Below.refl _ _).alloc (Nat.le_refl _) _⟩
  · have fin : Hid (goodB (.mk 8 n sub) = false) := good_no (by rw [hh.out, decide_eq_false_iff_not]; omega)
    have hz : ((sub.length : Int) != 0) = true := by rw [bne_iff_ne]; omega
    generalize goodB (.mk 8 n sub) = B at *
    clear hsub IH hh
    generalize sub.length = L at *
    clear hl
    go_enter Try.func54, Try.ntmps54
    go_wp2_with fail
    go_ret
    exact ⟨ret_bool fin.out.symm, (Below.refl _ _).alloc (Nat.le_refl _) _⟩
set_option maxRecDepth 100000 in
set_option maxHeartbeats 1000000 in
theorem rgood_any : ∀ (t : Tm) (cs : List Value) (w : World), TmC w t cs →
    Calls Try.prog 54 #[.agg cs.toArray] w fun e w' => e = .returned (.bool (goodB t)) ∧ Below w.heap.size w w' := by
  refine Tm.ind ?_
  intro kk n sub ih cs w ht
  by_cases hk : 1 ≤ kk ∧ kk ≤ 8
  · have : kk = 1 ∨ kk = 2 ∨ kk = 3 ∨ kk = 4 ∨ kk = 5 ∨ kk = 6 ∨ kk = 7 ∨ kk = 8 := by omega
    rcases this with rfl | rfl | rfl | rfl | rfl | rfl | rfl | rfl
    · exact rgood_1 n sub ih cs w ht
    · exact rgood_2 n sub ih cs w ht
    · exact rgood_3 n sub ih cs w ht
    · exact rgood_4 n sub ih cs w ht
    · exact rgood_5 n sub ih cs w ht
    · exact rgood_6 n sub ih cs w ht
    · exact rgood_7 n sub ih cs w ht
    · exact rgood_8 n sub ih cs w ht
  · have fin : Hid (goodB (.mk kk n sub) = false) := good_no (by
      show decide _ = false; rw [decide_eq_false_iff_not]; simp only [Tm.kind]; omega)
    obtain ⟨a, cap, rfl, hsub, hlen⟩ := tm_open ht
    simp only [Tm.kind, Tm.num, Tm.sub] at *
    have b1 : (kk == 1) = false := by simp; omega
    have b2 : (kk == 2) = false := by simp; omega
    have b3 : (kk == 3) = false := by simp; omega
    have b4 : (kk == 4) = false := by simp; omega
    have b5 : (kk == 5) = false := by simp; omega
    have b6 : (kk == 6) = false := by simp; omega
    have b7 : (kk == 7) = false := by simp; omega
    have b8 : (kk == 8) = false := by simp; omega
    clear ht hsub ih hk
    go_enter Try.func54, Try.ntmps54
    go_wp2_with fail
    go_ret
    exact ⟨ret_bool fin.out.symm, (Below.refl _ _).alloc (Nat.le_refl _) _⟩
end Go.Proofs.Ytackepdhcigdlaa
