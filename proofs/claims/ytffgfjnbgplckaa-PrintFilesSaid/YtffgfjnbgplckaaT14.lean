import Derived.Test.YtffgfjnbgplckaaT13
namespace Go.Proofs.Ytffgfjnbgplckaa
open Go.RowKit
set_option maxRecDepth 100000 in
set_option maxHeartbeats 4000000 in
theorem rnamed2_any : ∀ (t : Nd) (cs : List Value) (q : Int) (w : World), ndT t ≤ 8192 → NdC w t cs →
    Calls Try.prog 26 #[.agg cs.toArray, .int .i64 q] w fun e w' => ∃ v, e = .returned v ∧ RepS (fun b => w.heap.size ≤ b) w' v (namesT t q) ∧ Below w.heap.size w w' := by
  obtain ⟨i0, hi, hz0, hz1, hz2⟩ := info_parts infoS
  refine Nd.ind ?_
  intro kk aa ss n sub ih cs q w hn ht
  obtain ⟨a, cap, rfl, hsub, hlen, hnsa⟩ := nd_open ht
  simp only [ndT] at hn
  have IH := Lib.hid ih
  have HN : Hid (ndL sub ≤ 8191) := by show _ ≤ _; omega
  have HE := Lib.hid (boxes1 w #[.int .i64 kk, .int .i64 aa, .string ss, .int .i64 n, .slice a sub.length cap] 27)
  clear ht ih hn
  have main : ∀ (pre : List ByteArray), Hid (pre = (if kk = q then [ss] else [])) → pre.length ≤ 1 → namesT (.mk kk aa ss n sub) q = pre ++ namesL sub q := by
    intro pre h _; rw [h.out]; simp only [namesT]
  have MAIN := Lib.hid main
  clear main
  generalize namesT (.mk kk aa ss n sub) q = res at *
  simp only [Nd.kind, Nd.at, Nd.name, Nd.num, Nd.sub] at hsub hlen hnsa ⊢
  have OWN0 : Hid (Own (fun _ => False) 9 (w.heap.size + 1) (.slice (some ⟨w.heap.size + 1, 0, none⟩) 0 0) ([] : List ByteArray) ((w.alloc (.cells #[.int .i64 kk, .int .i64 aa, .string ss, .int .i64 n, .slice a sub.length cap] 27)).alloc (.cells #[] 9))) := by
    have h := own_made (α := ByteArray) (S := fun _ => False) (T := 9) (lo := w.heap.size + 1) (w := (w.alloc (.cells #[.int .i64 kk, .int .i64 aa, .string ss, .int .i64 n, .slice a sub.length cap] 27))) (by simp)
    rw [show (Addr.mk (w.alloc (.cells #[.int .i64 kk, .int .i64 aa, .string ss, .int .i64 n, .slice a sub.length cap] 27)).heap.size 0 none) = ⟨w.heap.size + 1, 0, none⟩ from by simp] at h
    exact h
  by_cases hq : kk = q
  · have RES : Hid (res = [ss] ++ namesL sub q) := MAIN.out [ss] (by show _ = _; rw [if_pos hq]) (by simp)
    have HSTR : Hid (RepS (fun b => False ∨ b = ((w.alloc (.cells #[.int .i64 kk, .int .i64 aa, .string ss, .int .i64 n, .slice a sub.length cap] 27)).alloc (.cells #[] 9)).heap.size) (((w.alloc (.cells #[.int .i64 kk, .int .i64 aa, .string ss, .int .i64 n, .slice a sub.length cap] 27)).alloc (.cells #[] 9)).alloc (.cells #[.string ss] 9)) (.slice (some ⟨w.heap.size + 1 + 1, 0, none⟩) 1 1) [ss]) := by
      have h := str_lit (S := fun _ => False) (w := ((w.alloc (.cells #[.int .i64 kk, .int .i64 aa, .string ss, .int .i64 n, .slice a sub.length cap] 27)).alloc (.cells #[] 9))) ss hnsa
      rw [show (Addr.mk ((w.alloc (.cells #[.int .i64 kk, .int .i64 aa, .string ss, .int .i64 n, .slice a sub.length cap] 27)).alloc (.cells #[] 9)).heap.size 0 none) = ⟨w.heap.size + 1 + 1, 0, none⟩ from by simp] at h
      exact h
    clear MAIN
    subst hq
    go_enter Try.func26, Try.ntmps26
    go_wp2_with (at_builtin; refine wpList_push (S := fun _ => False) (lo := w.heap.size + 1) rfl _ _ 40 rfl 9 i0 (.string ByteArray.empty) 16 Try.underlying40 hi hz0 hz1 hz2 rfl (by decide) (OWN0.out.later ((Below.refl _ _).alloc (Nat.le_refl _) _)) _ [ss] HSTR.out (by rfl) (by rfl) str_any (by unfold maxLen; simp) (by simp) (by simp) ?_; intro v2 w2 hown2 hb2 hg2 hap2; have EX := ((Below.refl (w.alloc (.cells #[.int .i64 kk, .int .i64 aa, .string ss, .int .i64 n, .slice a sub.length cap] 27)).heap.size _).alloc (Nat.le_refl _) (.cells #[] 9)).alloc (by simp) (.cells #[.string ss] 9); have BXs := ((show Box5 _ _ _ _ _ _ _ _ from HE.out.1).later EX (by simp)).later hb2 (by omega); have BWs := HE.out.2.1.trans ((EX.mono HE.out.2.1.size).trans (hb2.mono (by omega))); have BZs : w.heap.size + 1 ≤ w2.heap.size := (by have := hb2.size; simp at this; omega); obtain ⟨d0, d1, d2, d3, d4⟩ := BXs.cells; replace BXs := Lib.hid BXs; replace BWs := Lib.hid BWs; replace hown2 := Lib.hid hown2; clear EX hb2 hg2 hap2)
    go_loopw [5, 6] (fun v i wr => ∃ (k : Nat) (l : List ByteArray), k ≤ sub.length ∧ i = .int .i64 k ∧ Own (fun _ => False) 9 (w.heap.size + 1) v l wr ∧ Hid (l = [ss] ++ namesL (sub.take k) kk) ∧ Below w.heap.size w wr ∧ Box5 27 wr w.heap.size (.int .i64 kk) (.int .i64 aa) (.string ss) (.int .i64 n) (.slice a sub.length cap) ∧ w.heap.size + 1 ≤ wr.heap.size) (fun _ i _ => sub.length - (intOf i).toNat)
    case atStart => exact ⟨0, _, Nat.zero_le _, rfl, hown2.out, by show _ = _; simp [namesL], BWs.out, BXs.out, BZs⟩
    case round =>
      obtain ⟨k, l, hk, rfl, hown, HL, hbw, hbx, hsz⟩ := hrel
      by_cases hlt : k < sub.length
      · obtain ⟨bb, off, a', cap', rfl, e0, e1, e2, e3, e4, hts⟩ := sub_at hsub hbw k hlt
        obtain ⟨x0, x1, x2, x3, x4⟩ := hbx.cells
        have hd := Below.refl wr.heap.size wr
        have hnk : Hid (ndT sub[k] ≤ 8192) := by have := ndT_mem (List.getElem_mem hlt); have := HN.out; show _ ≤ _; omega
        have HO := Lib.hid hown
        have HTS := Lib.hid (hts.later hd)
        have HD := Lib.hid hd
        have HBW := Lib.hid hbw
        have HBX := Lib.hid hbx
        have hll : Hid (l.length + (namesT sub[k] kk).length ≤ 8193) := by
          have h1 := namesL_take sub kk k hlt
          have h2 := namesL_len (sub.take (k + 1)) kk
          have h3 := ndL_take sub (k + 1)
          have h4 := HN.out
          have h5 : [ss].length ≤ 1 := by simp
          rw [h1, List.length_append] at h2
          show _ ≤ _
          rw [HL.out, List.length_append]; omega
        clear hown hts hd hbw hbx
        go_wp2_with fail
        refine (IH.out _ (List.getElem_mem hlt) _ kk _ hnk.out HTS.out).mono ?_
        rintro e w1 ⟨v1, rfl, hrep, hb1⟩
        clear x0 x1 x2 x3 x4
        have HB1 := Lib.hid hb1
        have HO1 := Lib.hid (HO.out.later HB1.out)
        have HR1 := Lib.hid hrep
        have HZ1 := Lib.hid HB1.out.size
        clear hrep hb1
        go_wp2_with (at_builtin; refine wpList_push rfl _ _ 40 rfl 9 i0 (.string ByteArray.empty) 16 Try.underlying40 hi hz0 hz1 hz2 rfl (by decide) HO1.out _ _ HR1.out (by rfl) (by rfl) str_any (by have := hll.out; unfold maxLen; omega) (by have := hll.out; omega) (by have := HZ1.out; omega) ?_; intro v2 w2 hown2 hb2 hg2 hap2)
        have hbf := HBW.out.trans ((HB1.out.mono HBW.out.size).trans (hb2.mono (by omega)))
        have hl2 : Hid (l ++ namesT sub[k] kk = [ss] ++ namesL (sub.take (k + 1)) kk) := by
          show _ = _; rw [namesL_take sub kk k hlt, HL.out, List.append_assoc]
        have hz2' := hb2.size
        have hb3 := (HBX.out.later HB1.out (by omega)).later hb2 (by omega)
        have HSZ : Hid (w.heap.size + 1 ≤ w2.heap.size) := by have := HZ1.out; show _ ≤ _; omega
        clear hb2 hg2 hap2 hz2'
        go_roundw
        case rel => exact ⟨k + 1, _, by omega, by go_num, hown2, hl2, hbf, hb3, HSZ.out⟩
        case measure => simp [intOf]; omega
      · obtain rfl : k = sub.length := by omega
        obtain ⟨x0, x1, x2, x3, x4⟩ := hbx.cells
        rw [List.take_length] at HL
        have fin : Hid (res = l) := by show _ = _; rw [RES.out, HL.out]
        have hres := hown.done.sub (S' := fun b => w.heap.size ≤ b) (fun b hb _ => hb.elim False.elim (fun h => by omega))
        go_wp2_with fail
        go_ret
        exact ⟨_, rfl, by rw [fin.out]; exact hres, hbw⟩
  · have e1 : (kk == q) = false := by simpa using hq
    have RES : Hid (res = [] ++ namesL sub q) := MAIN.out [] (by show _ = _; rw [if_neg hq]) (by simp)
    clear MAIN
    go_enter Try.func26, Try.ntmps26
    go_wp2_with fail
    go_loopw [5, 6] (fun v i wr => ∃ (k : Nat) (l : List ByteArray), k ≤ sub.length ∧ i = .int .i64 k ∧ Own (fun _ => False) 9 (w.heap.size + 1) v l wr ∧ Hid (l = ([] : List ByteArray) ++ namesL (sub.take k) q) ∧ Below w.heap.size w wr ∧ Box5 27 wr w.heap.size (.int .i64 kk) (.int .i64 aa) (.string ss) (.int .i64 n) (.slice a sub.length cap) ∧ w.heap.size + 1 ≤ wr.heap.size) (fun _ i _ => sub.length - (intOf i).toNat)
    case atStart => exact ⟨0, _, Nat.zero_le _, rfl, OWN0.out, by show _ = _; simp [namesL], HE.out.2.1.alloc (by simp) _, (Below.heap_alloc _ _ _ (by simp)).trans HE.out.1, by simp⟩
    case round =>
      obtain ⟨k, l, hk, rfl, hown, HL, hbw, hbx, hsz⟩ := hrel
      by_cases hlt : k < sub.length
      · obtain ⟨bb, off, a', cap', rfl, e0, e1, e2, e3, e4, hts⟩ := sub_at hsub hbw k hlt
        obtain ⟨x0, x1, x2, x3, x4⟩ := hbx.cells
        have hd := Below.refl wr.heap.size wr
        have hnk : Hid (ndT sub[k] ≤ 8192) := by have := ndT_mem (List.getElem_mem hlt); have := HN.out; show _ ≤ _; omega
        have HO := Lib.hid hown
        have HTS := Lib.hid (hts.later hd)
        have HD := Lib.hid hd
        have HBW := Lib.hid hbw
        have HBX := Lib.hid hbx
        have hll : Hid (l.length + (namesT sub[k] q).length ≤ 8193) := by
          have h1 := namesL_take sub q k hlt
          have h2 := namesL_len (sub.take (k + 1)) q
          have h3 := ndL_take sub (k + 1)
          have h4 := HN.out
          have h5 : ([] : List ByteArray).length ≤ 1 := by simp
          rw [h1, List.length_append] at h2
          show _ ≤ _
          rw [HL.out, List.length_append]; omega
        clear hown hts hd hbw hbx
        go_wp2_with fail
        refine (IH.out _ (List.getElem_mem hlt) _ q _ hnk.out HTS.out).mono ?_
        rintro e w1 ⟨v1, rfl, hrep, hb1⟩
        clear x0 x1 x2 x3 x4
        have HB1 := Lib.hid hb1
        have HO1 := Lib.hid (HO.out.later HB1.out)
        have HR1 := Lib.hid hrep
        have HZ1 := Lib.hid HB1.out.size
        clear hrep hb1
        go_wp2_with (at_builtin; refine wpList_push rfl _ _ 40 rfl 9 i0 (.string ByteArray.empty) 16 Try.underlying40 hi hz0 hz1 hz2 rfl (by decide) HO1.out _ _ HR1.out (by rfl) (by rfl) str_any (by have := hll.out; unfold maxLen; omega) (by have := hll.out; omega) (by have := HZ1.out; omega) ?_; intro v2 w2 hown2 hb2 hg2 hap2)
        have hbf := HBW.out.trans ((HB1.out.mono HBW.out.size).trans (hb2.mono (by omega)))
        have hl2 : Hid (l ++ namesT sub[k] q = ([] : List ByteArray) ++ namesL (sub.take (k + 1)) q) := by
          show _ = _; rw [namesL_take sub q k hlt, HL.out, List.append_assoc]
        have hz2' := hb2.size
        have hb3 := (HBX.out.later HB1.out (by omega)).later hb2 (by omega)
        have HSZ : Hid (w.heap.size + 1 ≤ w2.heap.size) := by have := HZ1.out; show _ ≤ _; omega
        clear hb2 hg2 hap2 hz2'
        go_roundw
        case rel => exact ⟨k + 1, _, by omega, by go_num, hown2, hl2, hbf, hb3, HSZ.out⟩
        case measure => simp [intOf]; omega
      · obtain rfl : k = sub.length := by omega
        obtain ⟨x0, x1, x2, x3, x4⟩ := hbx.cells
        rw [List.take_length] at HL
        have fin : Hid (res = l) := by show _ = _; rw [RES.out, HL.out]
        have hres := hown.done.sub (S' := fun b => w.heap.size ≤ b) (fun b hb _ => hb.elim False.elim (fun h => by omega))
        go_wp2_with fail
        go_ret
        exact ⟨_, rfl, by rw [fin.out]; exact hres, hbw⟩
end Go.Proofs.Ytffgfjnbgplckaa
