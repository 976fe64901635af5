import Derived.Test.YtffgfjnbgplckaaBD
import Derived.Test.YtffgfjnbgplckaaBNd
import Derived.Deep.RegionHeld3
namespace Go.Proofs.Ytffgfjnbgplckaa
open Go.RowKit
theorem infoN : (Try.prog.info? 24).map (fun i => (i.zero, i.size, i.bytes)) = some (some (.agg #[.int .i64 0, .int .i64 0, .string ByteArray.empty, .int .i64 0, .slice none 0 0]), 5, 64) := by kernel_rfl
theorem ndL_le_of_take {sub : List Nd} (k : Nat) : (sub.take k).length ≤ ndL sub := Nat.le_trans (ndL_len _) (ndL_take sub k)
theorem ndT_mem {t : Nd} : ∀ {sub : List Nd}, t ∈ sub → ndT t ≤ ndL sub := by
  intro sub h
  induction sub with
  | nil => cases h
  | cons a l ih =>
    simp only [ndL]
    cases h with
    | head => omega
    | tail _ hm => have := ih hm; omega
set_option maxRecDepth 100000 in
set_option maxHeartbeats 4000000 in
theorem cloned_any : ∀ (t : Nd) (cs : List Value) (w : World), ndT t ≤ 8192 → NdC w t cs →
    Calls Try.prog 55 #[.agg cs.toArray] w fun e w' => ∃ v, e = .returned (.agg #[.int .i64 t.kind, .int .i64 t.at, .string t.name, .int .i64 t.num, v]) ∧ RepS (fun b => w.heap.size ≤ b) w' v t.sub ∧ Below w.heap.size w w' := by
  obtain ⟨i0, hi, hz0, hz1, hz2⟩ := info_parts infoN
  refine Nd.ind ?_
  intro kk aa ss n sub ih cs w hn ht
  obtain ⟨a, cap, rfl, hsub, hlen, hnsa⟩ := nd_open ht
  simp only [Nd.kind, Nd.at, Nd.name, Nd.num, Nd.sub] at hsub hlen hnsa ⊢
  simp only [ndT] at hn
  have IH := Lib.hid ih
  have HN : Hid (ndL sub ≤ 8191) := by show _ ≤ _; omega
  have hbox : Below w.heap.size w ((w.alloc (.cells #[.int .i64 kk, .int .i64 aa, .string ss, .int .i64 n, .slice a sub.length cap] 24)).alloc (.cells #[.int .i64 0, .int .i64 0, .string ByteArray.empty, .int .i64 0, .slice none 0 0] 24)) := ((Below.refl _ _).alloc (Nat.le_refl _) _).alloc (by simp) _
  have HBOX := Lib.hid hbox
  have B1 : Hid (Box5 24 ((w.alloc (.cells #[.int .i64 kk, .int .i64 aa, .string ss, .int .i64 n, .slice a sub.length cap] 24)).alloc (.cells #[.int .i64 0, .int .i64 0, .string ByteArray.empty, .int .i64 0, .slice none 0 0] 24)) w.heap.size (.int .i64 kk) (.int .i64 aa) (.string ss) (.int .i64 n) (.slice a sub.length cap)) := by
    exact (Box5.new 24 w _ _ _ _ _).later ((Below.refl _ _).alloc (Nat.le_refl _) _) (by simp)
  have B2 : Hid (Box5 24 ((w.alloc (.cells #[.int .i64 kk, .int .i64 aa, .string ss, .int .i64 n, .slice a sub.length cap] 24)).alloc (.cells #[.int .i64 0, .int .i64 0, .string ByteArray.empty, .int .i64 0, .slice none 0 0] 24)) (w.heap.size + 1) (.int .i64 0) (.int .i64 0) (.string ByteArray.empty) (.int .i64 0) (.slice none 0 0)) := by
    have h := Box5.new 24 (w.alloc (.cells #[.int .i64 kk, .int .i64 aa, .string ss, .int .i64 n, .slice a sub.length cap] 24)) (.int .i64 0) (.int .i64 0) (.string ByteArray.empty) (.int .i64 0) (.slice none 0 0)
    show Box5 _ _ _ _ _ _ _ _
    simpa using h
  clear ht ih hn hbox
  go_enter Try.func55, Try.ntmps55
  go_wp2_with fail
  go_loopw [3, 9] (fun v i wr => ∃ k : Nat, k ≤ sub.length ∧ i = .int .i64 k ∧ Own (fun b => w.heap.size + 2 ≤ b) 24 (w.heap.size + 2) v (sub.take k) wr ∧ Box5 24 wr w.heap.size (.int .i64 kk) (.int .i64 aa) (.string ss) (.int .i64 n) (.slice a sub.length cap) ∧ Box5 24 wr (w.heap.size + 1) (.int .i64 0) (.int .i64 0) (.string ByteArray.empty) (.int .i64 0) (.slice none 0 0) ∧ Below w.heap.size w wr ∧ w.heap.size + 2 ≤ wr.heap.size) (fun _ i _ => sub.length - (intOf i).toNat)
  case atStart => exact ⟨0, Nat.zero_le _, rfl, Own.nil, B1.out, B2.out, HBOX.out, by simp⟩
  case round =>
    obtain ⟨k, hk, rfl, hown, b1, b2, hbw, hsz⟩ := hrel
    by_cases hlt : k < sub.length
    · obtain ⟨bb, off, a', cap', rfl, e0, e1, e2, e3, e4, hts⟩ := sub_at hsub hbw k hlt
      have hnsk : sub[k].name.size ≤ maxLen := by obtain ⟨_, _, _, _, _, h⟩ := nd_open hts; exact h
      have hd : Below wr.heap.size wr (wr.alloc (.cells #[.int .i64 sub[k].kind, .int .i64 sub[k].at, .string sub[k].name, .int .i64 sub[k].num, .slice a' sub[k].sub.length cap'] 24)) := (Below.refl _ _).alloc (Nat.le_refl _) _
      have hnk : Hid (ndT sub[k] ≤ 8192) := by have := ndT_mem (List.getElem_mem hlt); have := HN.out; show _ ≤ _; omega
      have HO := Lib.hid hown
      have HBW := Lib.hid hbw
      have B1r := Lib.hid b1
      have B2r := Lib.hid b2
      have HTS := Lib.hid (hts.later hd)
      have HD := Lib.hid hd
      clear hown b1 b2 hts hd
      go_wp2_with fail
      refine (IH.out _ (List.getElem_mem hlt) _ _ hnk.out HTS.out).mono ?_
      rintro e w1 ⟨v1, rfl, hrep, hb1⟩
      have hb1' : Below wr.heap.size wr w1 := HD.out.trans (hb1.mono (by simp))
      have hs1 := hb1'.size
      have hone : RepS (fun b => wr.heap.size ≤ b) (w1.alloc (.cells #[.int .i64 sub[k].kind, .int .i64 sub[k].at, .string sub[k].name, .int .i64 sub[k].num, v1] 24)) (.slice (some ⟨w1.heap.size, 0, none⟩) 1 1) [sub[k]] :=
        (RepS.one (T := 24) (rep_nd.2 ⟨v1, rfl, hnsk, hrep⟩)).sub fun b hb _ => by
          rcases hb with hb | hb
          · simp at hb; omega
          · omega
      have hlt2 := HO.out.lt
      have hown1 := HO.out.later (hb1'.alloc hs1 (.cells #[.int .i64 sub[k].kind, .int .i64 sub[k].at, .string sub[k].name, .int .i64 sub[k].num, v1] 24))
      have hsub1 : ∀ d ∈ [sub[k]], ∀ cs, Rep (fun b => wr.heap.size ≤ b) (w1.alloc (.cells #[.int .i64 sub[k].kind, .int .i64 sub[k].at, .string sub[k].name, .int .i64 sub[k].num, v1] 24)) d cs → Rep (fun b => w.heap.size + 2 ≤ b ∧ u3.ownBlock ≠ some b) (w1.alloc (.cells #[.int .i64 sub[k].kind, .int .i64 sub[k].at, .string sub[k].name, .int .i64 sub[k].num, v1] 24)) d cs :=
        fun d _ cs h => h.sub fun b hb _ => ⟨by omega, fun e => by have := (hlt2 b e).2; omega⟩
      have hb2' : Below wr.heap.size wr (w1.alloc (.cells #[.int .i64 sub[k].kind, .int .i64 sub[k].at, .string sub[k].name, .int .i64 sub[k].num, v1] 24)) := hb1'.alloc hs1 _
      have hlen1 : (sub.take k).length + [sub[k]].length ≤ 8192 := by have := ndL_len sub; have := HN.out; simp; omega
      have HO1 := Lib.hid hown1
      have HONE := Lib.hid hone
      have HS1 := Lib.hid hsub1
      have HB2 := Lib.hid hb2'
      have HL1 := Lib.hid hlen1
      have HSZ1 : Hid (w.heap.size + 2 ≤ (w1.alloc (.cells #[.int .i64 sub[k].kind, .int .i64 sub[k].at, .string sub[k].name, .int .i64 sub[k].num, v1] 24)).heap.size) := by show _ ≤ _; simp; omega
      have HLT := Lib.hid hlt
      clear hown1 hone hsub1 hlen1 hlt2 hb1 hb1' hb2' hrep hs1
      go_wp2_with (at_builtin; refine wpList_push rfl _ _ 22 rfl 24 i0 (.agg #[.int .i64 0, .int .i64 0, .string ByteArray.empty, .int .i64 0, .slice none 0 0]) 64 Try.underlying22 hi hz0 hz1 hz2 rfl (by decide) HO1.out _ [sub[k]] HONE.out (by rfl) (by rfl) HS1.out (by have := HL1.out; unfold maxLen; omega) (by have := HL1.out; omega) HSZ1.out ?_; intro v2 w2 hown2 hb2 hg2 hap2)
      have hown3 : Own (fun b => w.heap.size + 2 ≤ b) 24 (w.heap.size + 2) v2 (sub.take (k + 1)) w2 := by rw [List.take_succ_eq_append_getElem hlt]; exact hown2
      have hz2 := HB2.out.size
      have b13 := (B1r.out.later HB2.out (by omega)).later hb2 (by omega)
      have b23 := (B2r.out.later HB2.out (by omega)).later hb2 (by omega)
      have hbw3 := HBW.out.trans ((HB2.out.mono HBW.out.size).trans (hb2.mono (by omega)))
      have hz3 := hb2.size
      have HZ : Hid (w.heap.size + 2 ≤ w2.heap.size) := by show _ ≤ _; omega
      clear hb2 hg2 hap2 hown2 hz3
      go_roundw
      case rel => exact ⟨k + 1, by omega, by go_num, hown3, b13, b23, hbw3, HZ.out⟩
      case measure => simp [intOf]; omega
    · obtain rfl : k = sub.length := by omega
      rw [List.take_length] at hown
      obtain ⟨av, cv, rfl⟩ := hown.shape
      obtain ⟨c0, c1, c2, c3, c4⟩ := b1.cells
      obtain ⟨d0, d1, d2, d3, d4⟩ := b2.cells
      have f0 := b2.free 0
      have f1 := b2.free 1
      have f2 := b2.free 2
      have f3 := b2.free 3
      have f4 := b2.free 4
      have g4 := b1.free 4
      go_wp2_with fail
      have hres : RepS (fun b => w.heap.size ≤ b) (set5 (wr.setCell ⟨w.heap.size, 4, none⟩ (.slice av sub.length cv)) (w.heap.size + 1) (.int .i64 kk) (.int .i64 aa) (.string ss) (.int .i64 n) (.slice av sub.length cv)) (.slice av sub.length cv) sub :=
        RepS.move (fun b hb _ => ⟨by omega, by rw [set5_heap _ _ _ _ _ _ _ _ (by omega), Below.heap_setCell _ _ _ _ (by show b ≠ w.heap.size; omega)]⟩) hown.done
      have hbf : Below w.heap.size w (set5 (wr.setCell ⟨w.heap.size, 4, none⟩ (.slice av sub.length cv)) (w.heap.size + 1) (.int .i64 kk) (.int .i64 aa) (.string ss) (.int .i64 n) (.slice av sub.length cv)) :=
        set5_below (hbw.setCell (Nat.le_refl _) _) (by omega) _ _ _ _ _
      exact bodyPost_ret (v := .agg #[.int .i64 kk, .int .i64 aa, .string ss, .int .i64 n, .slice av sub.length cv]) (by simp [results, Try.results55, go_sem, d0, d1, d2, d3, d4]) rfl ⟨_, rfl, hres, hbf⟩
end Go.Proofs.Ytffgfjnbgplckaa
