import Derived.Test.YtffgfjnbgplckaaNd3
namespace Go.Proofs.Ytffgfjnbgplckaa
open Go.RowKit
theorem below_drewN (w : World) (q : Nat) : Below w.heap.size w (w.drewN q) := ⟨rfl, rfl, rfl, Nat.le_refl _, fun _ _ => rfl⟩
set_option maxRecDepth 100000 in
set_option maxHeartbeats 1000000 in
theorem requal_any : ∀ (t u : Nd) (cs ds : List Value) (w : World), NdC w t cs → NdC w u ds →
    Calls Try.prog 50 #[.agg cs.toArray, .agg ds.toArray] w fun e w' => e = .returned (.bool (eqT t u)) ∧ Below w.heap.size w w' := by
  refine Nd.ind ?_
  intro kk aa ss n sub ih u cs ds w ht hu
  obtain ⟨a, cap, rfl, hsub, hlen, hns1⟩ := nd_open ht
  obtain ⟨a2, cap2, rfl, hsub2, hlen2, hns2⟩ := nd_open hu
  cases u with
  | mk kk2 aa2 ss2 n2 sub2 =>
  simp only [Nd.kind, Nd.at, Nd.name, Nd.num, Nd.sub] at *
  have IH := Lib.hid ih
  clear ht hu ih
  have HBB : Hid (Below w.heap.size w ((w.alloc (.cells #[.int .i64 kk, .int .i64 aa, .string ss, .int .i64 n, .slice a sub.length cap] 27)).alloc (.cells #[.int .i64 kk2, .int .i64 aa2, .string ss2, .int .i64 n2, .slice a2 sub2.length cap2] 27))) := ((Below.refl _ _).alloc (Nat.le_refl _) _).alloc (by simp) _
  have EQ : Hid (eqT (.mk kk aa ss n sub) (.mk kk2 aa2 ss2 n2 sub2) = ((kk == kk2) && (ss.toList == ss2.toList) && (n == n2) && eqL sub sub2)) := by show _ = _; simp only [eqT]
  cases q1 : (kk == kk2) with
  | false =>
    have b1 : (kk != kk2) = true := by unfold bne; rw [q1]; rfl
    have F : Hid (false = eqT (.mk kk aa ss n sub) (.mk kk2 aa2 ss2 n2 sub2)) := by show _ = _; rw [EQ.out, q1]; rfl
    clear q1
    go_enter Try.func50, Try.ntmps50
    go_wp2_with fail
    go_ret
    exact ⟨ret_bool F.out, HBB.out⟩
  | true =>
    have b1 : (kk != kk2) = false := by unfold bne; rw [q1]; rfl
    cases q2 : (ss.toList == ss2.toList) with
    | false =>
      have b2 : (ss.toList != ss2.toList) = true := by unfold bne; rw [q2]; rfl
      have F : Hid (false = eqT (.mk kk aa ss n sub) (.mk kk2 aa2 ss2 n2 sub2)) := by show _ = _; rw [EQ.out, q1, q2]; rfl
      clear q1
      go_enter Try.func50, Try.ntmps50
      go_wp2_with fail
      go_ret
      exact ⟨ret_bool F.out, HBB.out⟩
    | true =>
      have b2 : (ss.toList != ss2.toList) = false := by unfold bne; rw [q2]; rfl
      cases q3 : (n == n2) with
      | false =>
        have b3 : (n != n2) = true := by unfold bne; rw [q3]; rfl
        have F : Hid (false = eqT (.mk kk aa ss n sub) (.mk kk2 aa2 ss2 n2 sub2)) := by show _ = _; rw [EQ.out, q1, q2, q3]; rfl
        clear q1 q3
        go_enter Try.func50, Try.ntmps50
        go_wp2_with fail
        go_ret
        exact ⟨ret_bool F.out, HBB.out⟩
      | true =>
        have b3 : (n != n2) = false := by unfold bne; rw [q3]; rfl
        have EQ2 : Hid (eqT (.mk kk aa ss n sub) (.mk kk2 aa2 ss2 n2 sub2) = eqL sub sub2) := by show _ = _; rw [EQ.out, q1, q2, q3]; rfl
        clear q1 q3
        by_cases hl : sub.length = sub2.length
        · have hb4 : ((sub.length : Int) != (sub2.length : Int)) = false := by rw [hl]; simp
          have HL := Lib.hid hl
          clear hl EQ
          go_enter Try.func50, Try.ntmps50
          go_wp2_with fail
          go_loopw [5, 6] (fun b' i wr => ∃ (k : Nat) (b : Bool), k ≤ sub.length ∧ b' = .bool b ∧ i = .int .i64 k ∧ Hid ((b && eqL (sub.drop k) (sub2.drop k)) = eqL sub sub2) ∧ Below (w.heap.size + 2) ((w.alloc (.cells #[.int .i64 kk, .int .i64 aa, .string ss, .int .i64 n, .slice a sub.length cap] 27)).alloc (.cells #[.int .i64 kk2, .int .i64 aa2, .string ss2, .int .i64 n2, .slice a2 sub2.length cap2] 27)) wr) (fun _ i _ => sub.length - (intOf i).toNat)
          case atStart => exact ⟨0, true, Nat.zero_le _, rfl, rfl, by show _ = _; simp, Below.refl _ _⟩
          case round =>
            obtain ⟨k, b, hk, rfl, rfl, HG, hbox⟩ := hrel
            have hbel : Below w.heap.size w wr := HBB.out.trans (hbox.mono (by omega))
            have x2 : wr.cell? ⟨w.heap.size, 4, none⟩ = some (.slice a sub.length cap) := (hbox.cell (by simp)).trans (by simp)
            have y2 : wr.cell? ⟨w.heap.size + 1, 4, none⟩ = some (.slice a2 sub2.length cap2) := (hbox.cell (by simp)).trans (by simp)
            by_cases hlt : k < sub.length
            · obtain ⟨bb, off, a', cap', rfl, e0, e1, e2, e3, e4, hts⟩ := sub_at hsub hbel k hlt
              have hlt2 : k < sub2.length := by have := HL.out; omega
              obtain ⟨bb2, off2, a2', cap2', rfl, f0, f1, f2, f3, f4, hts2⟩ := sub_at hsub2 hbel k hlt2
              have HD := Lib.hid (And.intro (List.drop_eq_getElem_cons hlt) (List.drop_eq_getElem_cons hlt2))
              cases b with
              | true =>
                have hnext : Hid ((eqT sub[k] sub2[k] && eqL (sub.drop (k+1)) (sub2.drop (k+1))) = eqL sub sub2) := by
                  have h1 := HG.out
                  rw [HD.out.1, HD.out.2] at h1
                  simp only [eqL, Bool.true_and] at h1; exact h1
                go_wp2_with fail
                go_still_tail 12, (by kernel_rfl)
                have hd : Below wr.heap.size wr wr.drew := (Below.refl _ _).drew
                go_wp2_with (go_at_call 50; refine (IH.out _ (List.getElem_mem hlt) sub2[k] _ _ _ (hts.later hd) (hts2.later hd)).mono ?_; rintro e w' ⟨rfl, hb2⟩)
                go_roundw
                case rel => exact ⟨k + 1, _, by omega, rfl, by go_num, hnext, hbox.trans ((hd.trans hb2).mono (by have := hbox.size; simpa using this))⟩
                case measure => simp [intOf]; omega
              | false =>
                have hnext : Hid ((false && eqL (sub.drop (k+1)) (sub2.drop (k+1))) = eqL sub sub2) := by
                  have h1 := HG.out
                  rw [Bool.false_and] at h1
                  show _ = _
                  rw [Bool.false_and]; exact h1
                have HDR : Hid (∀ q, Below (w.heap.size + 2) ((w.alloc (.cells #[.int .i64 kk, .int .i64 aa, .string ss, .int .i64 n, .slice (some ⟨bb, off, none⟩) sub.length cap] 27)).alloc (.cells #[.int .i64 kk2, .int .i64 aa2, .string ss2, .int .i64 n2, .slice (some ⟨bb2, off2, none⟩) sub2.length cap2] 27)) (wr.drewN q)) := fun q => hbox.trans ((below_drewN wr q).mono (by have := hbox.size; simpa using this))
                go_wp2_with fail
                go_quiet (fail)
                go_wp2_with fail
                go_roundw
                case rel => exact ⟨k + 1, false, by omega, rfl, by go_num, hnext, HDR.out _⟩
                case measure => simp [intOf]; omega
            · have fin : Hid (b = eqT (.mk kk aa ss n sub) (.mk kk2 aa2 ss2 n2 sub2)) := by
                have h1 := HG.out
                rw [List.drop_of_length_le (by omega), List.drop_of_length_le (by have := HL.out; omega)] at h1
                simp only [eqL, Bool.and_true] at h1
                show _ = _
                rw [EQ2.out]; exact h1
              go_wp2_with fail
              go_ret
              exact ⟨ret_bool fin.out, hbel⟩
        · have hb4 : ((sub.length : Int) != (sub2.length : Int)) = true := by simp; omega
          have F : Hid (false = eqT (.mk kk aa ss n sub) (.mk kk2 aa2 ss2 n2 sub2)) := by
            show _ = _
            rw [EQ2.out]
            symm
            rw [Bool.eq_false_iff]; intro h; exact hl (eqL_length h)
          clear hl EQ
          go_enter Try.func50, Try.ntmps50
          go_wp2_with fail
          go_ret
          exact ⟨ret_bool F.out, HBB.out⟩
end Go.Proofs.Ytffgfjnbgplckaa
