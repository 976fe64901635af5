import Derived.Test.YtahhgpafjiljfaaOT4
set_option linter.unusedSimpArgs false
set_option linter.unusedVariables false
set_option maxHeartbeats 16000000
set_option maxRecDepth 100000
namespace Go.Proofs.Ytahhgpafjiljfaa
open Go.RowKit
theorem head_many {k a n : Int} {s : ByteArray} {sub : List Nd} (h : Qfn (.mk k a s n sub) = true) : 1 ≤ k ∧ k ≤ 10 ∧ Qbs k sub.length = true := by
 unfold Qfn at h
 simp only [Nd.kind, Nd.name, Nd.num, Nd.sub, Bool.and_eq_true] at h
 have h1 := of_decide_eq_true h.1.1.1
 exact ⟨h1.1, h1.2, h.1.1.2⟩
theorem good_sub {k a n : Int} {s : ByteArray} {sub : List Nd} {p : Bool} (h : Qfn (.mk k a s n sub) = true) (h6 : decide (6 ≤ k) = p) :
  ∃ q, Qak (.mk k a s n sub) p = Qbi sub q ∧ (sub.length = 0 ∨ (p = false ∧ q = false) ∨ (p = true ∧ k = 8 ∧ q = true) ∨ (p = true ∧ k = 10 ∧ q = false)) := by
 have e : Qak (.mk k a s n sub) p = Qbi sub (k == 8) := by
  simp only [Qak]; rw [h, h6]; simp
 refine ⟨k == 8, e, ?_⟩
 obtain ⟨h1, h2, h3⟩ := head_many h
 rcases many_cases k sub.length with ⟨rfl, hm⟩ | ⟨rfl, hm⟩ | ⟨rfl, hm⟩ | ⟨rfl, hm⟩ | ⟨rfl, hm⟩ | ⟨_, _, _, _, _, hm⟩
 ·exact .inr (.inr (.inl ⟨h6.symm, rfl, rfl⟩))
 ·exact .inr (.inl ⟨h6.symm, rfl⟩)
 ·exact .inr (.inl ⟨h6.symm, rfl⟩)
 ·exact .inr (.inl ⟨h6.symm, rfl⟩)
 ·exact .inr (.inr (.inr ⟨h6.symm, rfl, rfl⟩))
 ·rw [hm] at h3; simp at h3; exact .inl (by simp [h3])
theorem good_no1 {k a n : Int} {s : ByteArray} {sub : List Nd} {p : Bool} (h : Qfn (.mk k a s n sub) = false) : Qak (.mk k a s n sub) p = false := by simp only [Qak]; rw [h]; rfl
theorem good_no2 {k a n : Int} {s : ByteArray} {sub : List Nd} {p : Bool} (h : decide (6 ≤ k) = !p) : Qak (.mk k a s n sub) p = false := by simp only [Qak]; rw [h]; cases p <;> simp
theorem good_any : ∀ (t : Nd) (cs : List Value) (p : Bool) (w : World), NdC w t cs →
    Calls Try.prog 96 #[.agg cs.toArray, .bool p] w fun e w' => e = .returned (.bool (Qak t p)) ∧ Below w.heap.size w w' := by
  refine Nd.ind ?_
  intro kk aa ss n sub ih cs p w ht
  obtain ⟨a, cap, rfl, hsub, hlen, hnsa⟩ := Qev ht
  simp only [Nd.kind, Nd.at, Nd.name, Nd.num, Nd.sub] at hsub hlen hnsa ht ⊢
  have hd : Below w.heap.size w (w.alloc (.cells #[.int .i64 kk, .int .i64 aa, .string ss, .int .i64 n, .slice a sub.length cap] 31)) := (Below.refl _ _).alloc (Nat.le_refl _) _
  have HD := Lib.hid (head_any _ _ _ (ht.later hd))
  have IH := Lib.hid ih
  have HBX := Lib.hid hd
  clear ht ih hd
  have HSZ : Hid ((w.alloc (.cells #[.int .i64 kk, .int .i64 aa, .string ss, .int .i64 n, .slice a sub.length cap] 31)).heap.size = w.heap.size + 1) := by show _ = _; simp
  cases hh : Qfn (.mk kk aa ss n sub) with
  | false =>
    have fin : Hid (Qak (.mk kk aa ss n sub) p = false) := good_no1 hh
    rw [hh] at HD
    clear hh
    go_enter Try.func96, Try.ntmps96
    go_wp2_with ((go_at_call 106; refine HD.out.mono ?_; rintro e w1 ⟨rfl, hb⟩))
    go_ret
    exact ⟨Qae fin.out.symm, HBX.out.trans (hb.mono (by rw [HSZ.out]; omega))⟩
  | true =>
    rw [hh] at HD
    by_cases h6 : decide (6 ≤ kk) = p
    · obtain ⟨q, hq, hcase⟩ := good_sub hh h6
      have HQ := Lib.hid hq
      clear hh hq
      have main : ∀ (lit : Bool), (0 < sub.length → q = lit) → ((p = false ∧ decide (6 ≤ kk) = false ∧ lit = false) ∨ (p = true ∧ decide (6 ≤ kk) = true ∧ lit = (kk != 10))) → Calls Try.prog 96 #[.agg #[.int .i64 kk, .int .i64 aa, .string ss, .int .i64 n, .slice a sub.length cap], .bool p] w fun e w' => e = .returned (.bool (Qak (.mk kk aa ss n sub) p)) ∧ Below w.heap.size w w' := by
        intro lit hql hpl
        clear hcase h6
        have HQL := Lib.hid hql
        clear hql
        generalize Qak (.mk kk aa ss n sub) p = gT at *
        rcases hpl with ⟨rfl, h6, hl⟩ | ⟨rfl, h6, hl⟩
        all_goals
          have HLIT := Lib.hid hl
          clear hl
          go_enter Try.func96, Try.ntmps96
          go_wp2_with ((go_at_call 106; refine HD.out.mono ?_; rintro e w1 ⟨rfl, hb⟩; obtain ⟨c0, c1, c2, c3, c4⟩ := Qhh (by rw [HSZ.out] at hb; exact hb)))
          have hbw1 := HBX.out.trans (hb.mono (by rw [HSZ.out]; omega))
          have hz1 : w.heap.size + 1 ≤ w1.heap.size := by have := hb.size; rw [HSZ.out] at this; exact this
          clear hb
          go_loopw [20] (fun i wr => ∃ k : Nat, k ≤ sub.length ∧ i = .int .i64 k ∧ Hid (Qbi (sub.drop k) q = gT) ∧ Below w1.heap.size w1 wr) (fun i _ => sub.length - (intOf i).toNat)
          case atStart => exact ⟨0, Nat.zero_le _, rfl, HQ.out.symm, Below.refl _ _⟩
          case round =>
            obtain ⟨k, hk, rfl, HG, hbel⟩ := hrel
            have hbw := hbw1.trans (hbel.mono hbw1.size)
            have d0 := (hbel.cell (p := ⟨w.heap.size, 0, none⟩) hz1).trans c0
            by_cases hlt : k < sub.length
            · obtain ⟨b, off, a', cap', rfl, e0, e1, e2, e3, e4, hts⟩ := sub_at hsub hbw k hlt
              have hd : Below wr.heap.size wr (wr.alloc (.cells #[.int .i64 sub[k].kind, .int .i64 sub[k].at, .string sub[k].name, .int .i64 sub[k].num, .slice a' sub[k].sub.length cap'] 31)) := (Below.refl _ _).alloc (Nat.le_refl _) _
              have d0' := (hd.cell (p := ⟨w.heap.size, 0, none⟩) (by have := hbel.size; show w.heap.size < _; omega)).trans d0
              have hg0 := HG.out
              rw [goodL_take sub q k hlt] at hg0
              have IHk := IH.out sub[k] (List.getElem_mem hlt) _ q _ (hts.later hd)
              have hq2 := HQL.out (by omega)
              cases hg : Qak sub[k] q with
              | false =>
                have fin : Hid (gT = false) := by show _ = _; rw [← hg0, hg]; rfl
                rw [hg, hq2, HLIT.out] at IHk
                have IK := Lib.hid IHk
                clear IHk hg hg0 hts
                go_wp2_with ((go_at_call 96; refine IK.out.mono ?_; rintro e w' ⟨rfl, hb2⟩))
                go_ret
                exact ⟨Qae fin.out.symm, hbw.trans ((hd.trans (hb2.mono (by simp))).mono hbw.size)⟩
              | true =>
                have fin : Hid (Qbi (sub.drop (k + 1)) q = gT) := by show _ = _; rw [← hg0, hg]; simp
                rw [hg, hq2, HLIT.out] at IHk
                have IK := Lib.hid IHk
                have HD0 := Lib.hid hd
                have HBL := Lib.hid hbel
                clear IHk hg hg0 hts hd hbel
                go_wp2_with ((go_at_call 96; refine IK.out.mono ?_; rintro e w' ⟨rfl, hb2⟩))
                go_roundw
                case rel => exact ⟨k + 1, by omega, by go_num, fin, HBL.out.trans ((HD0.out.trans (hb2.mono (by simp))).mono HBL.out.size)⟩
                case measure => simp [intOf]; omega
            · have fin : Hid (gT = true) := by
                have := HG.out
                rw [List.drop_of_length_le (by omega)] at this
                show _ = _
                rw [← this]; rfl
              go_wp2_with fail
              go_ret
              exact ⟨Qae fin.out.symm, hbw⟩
      rcases hcase with h0 | ⟨hp, hq⟩ | ⟨hp, hk, hq⟩ | ⟨hp, hk, hq⟩
      · cases p with
        | false => exact main false (fun h => by omega) (.inl ⟨rfl, h6, rfl⟩)
        | true => exact main (kk != 10) (fun h => by omega) (.inr ⟨rfl, h6, rfl⟩)
      · exact main false (fun _ => hq) (.inl ⟨hp, by rw [h6, hp], rfl⟩)
      · exact main true (fun _ => hq) (.inr ⟨hp, by rw [h6, hp], by rw [hk]; rfl⟩)
      · exact main false (fun _ => hq) (.inr ⟨hp, by rw [h6, hp], by rw [hk]; rfl⟩)
    · have fin : Hid (Qak (.mk kk aa ss n sub) p = false) := good_no2 (by cases p <;> simp_all)
      clear hh
      cases p with
      | false =>
        have h6' : decide (6 ≤ kk) = true := by simpa using h6
        clear h6
        go_enter Try.func96, Try.ntmps96
        go_wp2_with ((go_at_call 106; refine HD.out.mono ?_; rintro e w1 ⟨rfl, hb⟩; obtain ⟨c0, c1, c2, c3, c4⟩ := Qhh (by rw [HSZ.out] at hb; exact hb)))
        go_ret
        exact ⟨Qae fin.out.symm, HBX.out.trans (hb.mono (by rw [HSZ.out]; omega))⟩
      | true =>
        have h6' : decide (6 ≤ kk) = false := by simpa using h6
        clear h6
        go_enter Try.func96, Try.ntmps96
        go_wp2_with ((go_at_call 106; refine HD.out.mono ?_; rintro e w1 ⟨rfl, hb⟩; obtain ⟨c0, c1, c2, c3, c4⟩ := Qhh (by rw [HSZ.out] at hb; exact hb)))
        go_ret
        exact ⟨Qae fin.out.symm, HBX.out.trans (hb.mono (by rw [HSZ.out]; omega))⟩
end Go.Proofs.Ytahhgpafjiljfaa
