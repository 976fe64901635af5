import Derived.Test.YtffgfjnbgplckaaNd2
namespace Go.Proofs.Ytffgfjnbgplckaa
open Go.RowKit
mutual
/-- the same, but for offsets -/
def eqT : Nd → Nd → Bool
  | .mk k _ s n l, .mk k' _ s' n' l' => (k == k') && (s.toList == s'.toList) && (n == n') && eqL l l'
def eqL : List Nd → List Nd → Bool
  | [], [] => true
  | t :: ts, t' :: ts' => eqT t t' && eqL ts ts'
  | _, _ => false
end
theorem eqL_length : ∀ {a b : List Nd}, eqL a b = true → a.length = b.length := by
  intro a
  induction a with
  | nil => intro b h; cases b <;> simp_all [eqL]
  | cons t ts ih => intro b h; cases b with
    | nil => simp [eqL] at h
    | cons t' ts' => simp only [eqL, Bool.and_eq_true] at h; simp [ih h.2]
theorem eqT_comm : ∀ (a b : Nd), eqT a b = eqT b a := by
  refine Nd.ind ?_
  intro k aa s n sub ih b
  cases b with
  | mk k' aa' s' n' sub' =>
    simp only [eqT]
    have : ∀ (l l' : List Nd), (∀ s ∈ l, ∀ b, eqT s b = eqT b s) → eqL l l' = eqL l' l := by
      intro l
      induction l with
      | nil => intro l' _; cases l' <;> simp [eqL]
      | cons t ts iht =>
        intro l' hl
        cases l' with
        | nil => simp [eqL]
        | cons t' ts' =>
          simp only [eqL]
          rw [hl t (by simp), iht ts' (fun s hs => hl s (by simp [hs]))]
    rw [this sub sub' ih, Bool.beq_comm (a := k), Bool.beq_comm (a := s.toList), Bool.beq_comm (a := n)]
theorem eqT_refl : ∀ (a : Nd), eqT a a = true := by
  refine Nd.ind ?_
  intro k aa s n sub ih
  simp only [eqT, beq_self_eq_true, Bool.true_and]
  induction sub with
  | nil => simp [eqL]
  | cons t ts iht => simp only [eqL]; rw [ih t (by simp), iht (fun s hs => ih s (by simp [hs]))]; rfl
set_option maxRecDepth 100000 in
set_option maxHeartbeats 1000000 in
theorem equal_any : ∀ (t u : Nd) (cs ds : List Value) (w : World), NdC w t cs → NdC w u ds →
    Calls Try.prog 49 #[.agg cs.toArray, .agg ds.toArray] w fun e w' => e = .returned (.bool (eqT t u)) ∧ Below w.heap.size w w' := by
  refine Nd.ind ?_
  intro kk aa ss n sub ih u cs ds w ht hu
  obtain ⟨a, cap, rfl, hsub, hlen, hns1⟩ := nd_open ht
  obtain ⟨a2, cap2, rfl, hsub2, hlen2, hns2⟩ := nd_open hu
  cases u with
  | mk kk2 aa2 ss2 n2 sub2 =>
  simp only [Nd.kind, Nd.at, Nd.name, Nd.num, Nd.sub] at *
  have IH := Lib.hid ih
  clear ht hu ih
  have HBB : Hid (Below w.heap.size w ((w.alloc (.cells #[.int .i64 kk, .int .i64 aa, .string ss, .int .i64 n, .slice a sub.length cap] 24)).alloc (.cells #[.int .i64 kk2, .int .i64 aa2, .string ss2, .int .i64 n2, .slice a2 sub2.length cap2] 24))) := ((Below.refl _ _).alloc (Nat.le_refl _) _).alloc (by simp) _
  have EQ : Hid (eqT (.mk kk aa ss n sub) (.mk kk2 aa2 ss2 n2 sub2) = ((kk == kk2) && (ss.toList == ss2.toList) && (n == n2) && eqL sub sub2)) := by show _ = _; simp only [eqT]
  cases q1 : (kk == kk2) with
  | false =>
    have b1 : (kk != kk2) = true := by unfold bne; rw [q1]; rfl
    have F : Hid (false = eqT (.mk kk aa ss n sub) (.mk kk2 aa2 ss2 n2 sub2)) := by show _ = _; rw [EQ.out, q1]; rfl
    clear q1
    go_enter Try.func49, Try.ntmps49
    go_wp2_with fail
    go_ret
    exact ⟨ret_bool F.out, HBB.out⟩
  | true =>
    have b1 : (kk != kk2) = false := by unfold bne; rw [q1]; rfl
    cases q2 : (ss.toList == ss2.toList) with
    | false =>
      have b2 : (ss.toList != ss2.toList) = true := by unfold bne; rw [q2]; rfl
      have F : Hid (false = eqT (.mk kk aa ss n sub) (.mk kk2 aa2 ss2 n2 sub2)) := by show _ = _; rw [EQ.out, q1, q2]; rfl
      clear q1
      go_enter Try.func49, Try.ntmps49
      go_wp2_with fail
      go_ret
      exact ⟨ret_bool F.out, HBB.out⟩
    | true =>
      have b2 : (ss.toList != ss2.toList) = false := by unfold bne; rw [q2]; rfl
      cases q3 : (n == n2) with
      | false =>
        have b3 : (n != n2) = true := by unfold bne; rw [q3]; rfl
        have F : Hid (false = eqT (.mk kk aa ss n sub) (.mk kk2 aa2 ss2 n2 sub2)) := by show _ = _; rw [EQ.out, q1, q2, q3]; rfl
        clear q1 q3
        go_enter Try.func49, Try.ntmps49
        go_wp2_with fail
        go_ret
        exact ⟨ret_bool F.out, HBB.out⟩
      | true =>
        have b3 : (n != n2) = false := by unfold bne; rw [q3]; rfl
        have EQ2 : Hid (eqT (.mk kk aa ss n sub) (.mk kk2 aa2 ss2 n2 sub2) = eqL sub sub2) := by show _ = _; rw [EQ.out, q1, q2, q3]; rfl
        clear q1 q3
        by_cases hl : sub.length = sub2.length
        · have hb4 : ((sub.length : Int) != (sub2.length : Int)) = false := by rw [hl]; simp
          have HL := Lib.hid hl
          clear hl EQ
          go_enter Try.func49, Try.ntmps49
          go_wp2_with fail
          go_loopw [37] (fun i wr => ∃ k : Nat, k ≤ sub.length ∧ i = .int .i64 k ∧ Hid (eqL (sub.drop k) (sub2.drop k) = eqL sub sub2) ∧ Below (w.heap.size + 2) ((w.alloc (.cells #[.int .i64 kk, .int .i64 aa, .string ss, .int .i64 n, .slice a sub.length cap] 24)).alloc (.cells #[.int .i64 kk2, .int .i64 aa2, .string ss2, .int .i64 n2, .slice a2 sub2.length cap2] 24)) wr) (fun i _ => sub.length - (intOf i).toNat)
          case atStart => exact ⟨0, Nat.zero_le _, rfl, rfl, Below.refl _ _⟩
          case round =>
            obtain ⟨k, hk, rfl, HG, hbox⟩ := hrel
            have hbel : Below w.heap.size w wr := HBB.out.trans (hbox.mono (by omega))
            have x2 : wr.cell? ⟨w.heap.size, 4, none⟩ = some (.slice a sub.length cap) := (hbox.cell (by simp)).trans (by simp)
            have y2 : wr.cell? ⟨w.heap.size + 1, 4, none⟩ = some (.slice a2 sub2.length cap2) := (hbox.cell (by simp)).trans (by simp)
            by_cases hlt : k < sub.length
            · obtain ⟨b, off, a', cap', rfl, e0, e1, e2, e3, e4, hts⟩ := sub_at hsub hbel k hlt
              have hlt2 : k < sub2.length := by have := HL.out; omega
              obtain ⟨b2, off2, a2', cap2', rfl, f0, f1, f2, f3, f4, hts2⟩ := sub_at hsub2 hbel k hlt2
              have HD := Lib.hid (And.intro (List.drop_eq_getElem_cons hlt) (List.drop_eq_getElem_cons hlt2))
              by_cases hq : eqT sub[k] sub2[k] = true
              · have hnext : Hid (eqL (sub.drop (k+1)) (sub2.drop (k+1)) = eqL sub sub2) := by
                  have h1 := HG.out
                  rw [HD.out.1, HD.out.2] at h1
                  simp only [eqL, hq, Bool.true_and] at h1; exact h1
                go_wp2_with fail
                go_still_tail 10, (by kernel_rfl)
                have hd : Below wr.heap.size wr wr.drew := (Below.refl _ _).drew
                go_wp2_with (go_at_call 49; refine (IH.out _ (List.getElem_mem hlt) sub2[k] _ _ _ (hts.later hd) (hts2.later hd)).mono ?_; rintro e w' ⟨rfl, hb2⟩)
                go_roundw
                case rel => exact ⟨k + 1, by omega, by go_num, hnext, hbox.trans ((hd.trans hb2).mono (by have := hbox.size; simpa using this))⟩
                case measure => simp [intOf]; omega
              · have hq' : eqT sub[k] sub2[k] = false := by simpa using hq
                have fin : Hid (false = eqT (.mk kk aa ss n sub) (.mk kk2 aa2 ss2 n2 sub2)) := by
                  have h1 := HG.out
                  rw [HD.out.1, HD.out.2] at h1
                  simp only [eqL, hq', Bool.false_and] at h1
                  show _ = _
                  rw [EQ2.out]; exact h1
                clear hq
                go_wp2_with fail
                go_still_tail 10, (by kernel_rfl)
                have hd : Below wr.heap.size wr wr.drew := (Below.refl _ _).drew
                go_wp2_with (go_at_call 49; refine (IH.out _ (List.getElem_mem hlt) sub2[k] _ _ _ (hts.later hd) (hts2.later hd)).mono ?_; rintro e w' ⟨rfl, hb2⟩)
                go_ret
                exact ⟨ret_bool fin.out, hbel.trans ((hd.trans hb2).mono hbel.size)⟩
            · have fin : Hid (true = eqT (.mk kk aa ss n sub) (.mk kk2 aa2 ss2 n2 sub2)) := by
                have h1 := HG.out
                rw [List.drop_of_length_le (by omega), List.drop_of_length_le (by have := HL.out; omega)] at h1
                simp only [eqL] at h1
                show _ = _
                rw [EQ2.out]; exact h1
              go_wp2_with fail
              go_ret
              exact ⟨ret_bool fin.out, hbel⟩
        · have hb4 : ((sub.length : Int) != (sub2.length : Int)) = true := by simp; omega
          have F : Hid (false = eqT (.mk kk aa ss n sub) (.mk kk2 aa2 ss2 n2 sub2)) := by
            show _ = _
            rw [EQ2.out]
            symm
            rw [Bool.eq_false_iff]; intro h; exact hl (eqL_length h)
          clear hl EQ
          go_enter Try.func49, Try.ntmps49
          go_wp2_with fail
          go_ret
          exact ⟨ret_bool F.out, HBB.out⟩
end Go.Proofs.Ytffgfjnbgplckaa
