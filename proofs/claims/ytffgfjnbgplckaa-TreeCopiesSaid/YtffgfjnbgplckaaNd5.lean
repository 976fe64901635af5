import Derived.Test.YtffgfjnbgplckaaNd4
import Derived.Deep.RegionHeld3
namespace Go.Proofs.Ytffgfjnbgplckaa
open Go.RowKit
theorem info27 : (Try.prog.info? 27).map (fun i => (i.zero, i.size, i.bytes)) = some (some (.agg #[.int .i64 0, .int .i64 0, .string ByteArray.empty, .int .i64 0, .slice none 0 0]), 5, 64) := by kernel_rfl
theorem own_litN {w : World} {xs : List Value} {n size : Nat} (e : TypeId) (hn : xs.length = n * size) (hm : n ≤ maxLen) :
    (w.alloc (.cells xs.toArray e)).ownsRow w.heap.size e size (.slice (some ⟨w.heap.size, 0, none⟩) n n) n xs :=
  ⟨hn, .inr ⟨w.heap.size, n, xs.toArray, rfl, Nat.le_refl _, heap_alloc_new w _, Nat.le_refl _, hm, by simp; omega, by rw [← hn]; simp⟩⟩
theorem own_base {w : World} {base base' e size : Nat} {v : Value} {n : Nat} {xs : List Value} (h : w.ownsRow base e size v n xs) (hb : base' ≤ base) : w.ownsRow base' e size v n xs := by
  refine ⟨h.1, ?_⟩
  rcases h.2 with h2 | ⟨g, cap, cur, hv, hg, r⟩
  · exact .inl h2
  · exact .inr ⟨g, cap, cur, hv, by omega, r⟩
theorem ndcs_three {w : World} {ts : List Nd} {css : List (List Value)} (h : NdCs w ts css) : ∀ c ∈ css, c.length = 5 ∧ ∀ u ∈ c, u.oneCell' = true := by
  intro c hc
  obtain ⟨i, hi, rfl⟩ := List.getElem_of_mem hc
  obtain ⟨c', h1, h2⟩ := h.get i (by rw [← h.length]; exact hi)
  rw [List.getElem?_eq_getElem hi] at h1
  obtain rfl := Option.some.inj h1
  obtain ⟨a, cap, hcs, _⟩ := nd_open h2
  rw [hcs]
  refine ⟨rfl, ?_⟩
  intro u hu
  simp at hu
  rcases hu with rfl | rfl | rfl | rfl | rfl <;> rfl
theorem NdCs.append {w : World} : ∀ {a b : List Nd} {ca cb : List (List Value)}, NdCs w a ca → NdCs w b cb → NdCs w (a ++ b) (ca ++ cb) := by
  intro a
  induction a with
  | nil => intro b ca cb h1 h2; simp only [NdCs] at h1; subst h1; exact h2
  | cons t ts ih =>
    intro b ca cb h1 h2
    simp only [NdCs] at h1
    obtain ⟨c, cr, rfl, h3, h4⟩ := h1
    simp only [List.cons_append, NdCs]
    exact ⟨c, cr ++ cb, rfl, h3, ih h4 h2⟩
theorem NdCs.split {w : World} : ∀ {a b : List Nd} {css : List (List Value)}, NdCs w (a ++ b) css → ∃ ca cb, css = ca ++ cb ∧ NdCs w a ca ∧ NdCs w b cb := by
  intro a
  induction a with
  | nil => intro b css h; exact ⟨[], css, rfl, by simp only [NdCs], h⟩
  | cons t ts ih =>
    intro b css h
    simp only [List.cons_append, NdCs] at h
    obtain ⟨c, cr, rfl, h1, h2⟩ := h
    obtain ⟨ca, cb, rfl, h3, h4⟩ := ih h2
    exact ⟨c :: ca, cb, rfl, by simp only [NdCs]; exact ⟨c, ca, rfl, h1, h3⟩, h4⟩
theorem NdCs.take {w : World} {ts : List Nd} {css : List (List Value)} (h : NdCs w ts css) (k : Nat) : NdCs w (ts.take k) (css.take k) := by
  refine NdCs.mk (by rw [List.length_take, List.length_take, h.length]) fun i hi => ?_
  have hi2 : i < ts.length := by rw [List.length_take] at hi; omega
  have hik : i < k := by rw [List.length_take] at hi; omega
  obtain ⟨c, h1, h2⟩ := h.get i hi2
  exact ⟨c, by rw [List.getElem?_take, if_pos hik]; exact h1, by rw [List.getElem_take]; exact h2⟩
set_option maxRecDepth 100000 in
set_option maxHeartbeats 2000000 in
theorem rsize_any (t : Nd) (cs : List Value) (w : World) (ht : NdC w t cs) :
    Calls Try.prog 22 #[.agg cs.toArray] w fun e w' => e = .returned (.int .i64 (sizeT t)) ∧ Below w.heap.size w w' := by
  obtain ⟨i0, hi, hz0, hz1, hz2⟩ := info_parts info27
  have ht0 := ht
  obtain ⟨a, cap, rfl, hsub, hlen, hnsa⟩ := nd_open ht
  clear hsub ht
  go_enter Try.func22, Try.ntmps22
  go_wp2_with fail
  go_loopw [3, 4] (fun v g wr => ∃ (ts : List Nd) (css : List (List Value)) (k : Nat), k ≤ 8193 ∧ g = .int .i64 k ∧ NdCs w ts css ∧ wr.ownsRow w.heap.size 27 5 v ts.length css.flatten ∧ ts.length ≤ 8193 * k + 1 ∧ Hid (min (k + ndL ts) 8193 = min (ndT t) 8193) ∧ Below w.heap.size w wr) (fun _ g _ => 8193 - (intOf g).toNat)
  case atStart =>
    refine ⟨[t], [[.int .i64 t.kind, .int .i64 t.at, .string t.name, .int .i64 t.num, .slice a t.sub.length cap]], 0, by omega, rfl, ?_, ?_, by simp, ?_, ((Below.refl _ _).alloc (Nat.le_refl _) _).alloc (by simp) _⟩
    · simp only [NdCs]; exact ⟨_, [], rfl, ht0, rfl⟩
    · have h := own_base (base' := w.heap.size) (own_litN (w := w.alloc (.cells #[.int .i64 t.kind, .int .i64 t.at, .string t.name, .int .i64 t.num, .slice a t.sub.length cap] 27)) (xs := [.int .i64 t.kind, .int .i64 t.at, .string t.name, .int .i64 t.num, .slice a t.sub.length cap]) (n := 1) (size := 5) 27 rfl (by decide)) (by simp)
      simpa using h
    · show _ = _; simp only [ndL]; congr 1; omega
  case round =>
    obtain ⟨ts, css, k, hk, rfl, hcs, hown, hlen2, HN, hbel⟩ := hrel
    by_cases hne : ts = []
    · subst hne
      have fin : Hid ((k : Int) = sizeT t) := by
        have h1 := HN.out
        have h2 := sz_nd t 0 (by omega) (by omega)
        simp only [ndL] at h1
        show _ = szT t 0
        rw [h2]; omega
      obtain ⟨aB, capB, hB⟩ : ∃ aB capB, _ = Value.slice aB 0 capB := by
        obtain ⟨aB, capB, hv, _⟩ := (SlN.own hown hcs.length (fun c hc => (ndcs_three hcs c hc).1)).shape
        rw [hcs.length] at hv; exact ⟨aB, capB, hv⟩
      subst hB
      go_wp2_with fail
      go_ret
      exact ⟨ret_int fin.out, hbel⟩
    · obtain ⟨ts0, x, rfl⟩ : ∃ ts0 x, ts = ts0 ++ [x] := ⟨ts.dropLast, ts.getLast hne, (List.dropLast_concat_getLast hne).symm⟩
      clear hne
      have H3 := Lib.hid (ndcs_three hcs)
      have hlc := Lib.hid hcs.length
      have hsl := SlN.own hown hcs.length (fun c hc => (H3.out c hc).1)
      obtain ⟨aB, capB, hB, hcap1, hcap2⟩ := hsl.shape
      rw [hlc.out, List.length_append, List.length_singleton] at hB hcap1
      subst hB
      by_cases hbig : 8192 < k
      · have fin : Hid ((k : Int) = sizeT t) := by
          have h1 := HN.out
          have h2 := sz_nd t 0 (by omega) (by omega)
          show _ = szT t 0
          rw [h2]; omega
        go_wp2_with fail
        go_ret
        exact ⟨ret_int fin.out, hbel⟩
      · have hk2 : k ≤ 8192 := by omega
        clear hbig
        obtain ⟨c0, c1, hcss, hc0, hc1⟩ := hcs.split
        simp only [NdCs] at hc1
        obtain ⟨cx, cr, rfl, hx, rfl⟩ := hc1
        obtain ⟨a', cap', rfl, hxs, hxlen⟩ := nd_open hx
        subst hcss
        have hl0 := hc0.length
        obtain ⟨g, off, ha, hget⟩ : ∃ g off, aB = some ⟨g, off, none⟩ ∧ ∀ j u, [Value.int .i64 x.kind, .int .i64 x.at, .string x.name, .int .i64 x.num, .slice a' x.sub.length cap'][j]? = some u → wr.cell? ⟨g, off + ts0.length * 5 + j, none⟩ = some u := by
          obtain ⟨a2, cap2, hv, _, _, hc⟩ := hsl
          simp only [Value.slice.injEq] at hv
          obtain ⟨rfl, _, rfl⟩ := hv
          obtain ⟨g, off, ha, hcell⟩ := hc (by simp)
          refine ⟨g, off, ha, (hcell ts0.length _ ?_).2⟩
          rw [← hl0, List.getElem?_append_right (Nat.le_refl _), Nat.sub_self]; rfl
        subst ha
        have e0 := hget 0 _ rfl
        have e1 := hget 1 _ rfl
        have e2 := hget 2 _ rfl
        have e3 := hget 3 _ rfl
        have e4 := hget 4 _ rfl
        rw [Nat.add_zero] at e0
        clear hget
        have hmb : ts0.length + 1 ≤ 67117057 := by rw [List.length_append, List.length_singleton] at hlen2; omega
        have hlen3 : ts0.length ≤ 8193 * k := by rw [List.length_append, List.length_singleton] at hlen2; omega
        generalize hm : ts0.length = m at *
        have HM := Lib.hid hm; clear hm
        have hw1 : IntKind.i64.wrap (m : Int) = m := by simp [IntKind.wrap, IntKind.bits, IntKind.signed]; omega
        have hw2 : IntKind.i64.wrap ((m : Int) + 1 - 1) = m := by rw [Int.add_sub_cancel]; exact hw1
        have hs1 := fun w => run_slice_to (P := Try.prog) w 25 (some ⟨g, off, none⟩) (m + 1) capB m Try.underlying25 hi (by omega)
        have hcx : x.sub.length ≤ cap' ∧ cap' ≤ maxLen := by
          obtain ⟨a2, cap2, hv, h1, h2, _⟩ := hxs.open
          simp only [Value.slice.injEq] at hv
          obtain ⟨_, _, rfl⟩ := hv
          exact ⟨h1, h2⟩
        by_cases hshort : x.sub.length ≤ 8193
        · have hmn : ((8193 : Int) < (x.sub.length : Int)) = False := by simp; omega
          have hs2 := fun w => run_slice_to (P := Try.prog) w 25 a' x.sub.length cap' x.sub.length Try.underlying25 hi hcx.1
          have hW : Below w.heap.size w ((wr.alloc (.cells #[.int .i64 x.kind, .int .i64 x.at, .string x.name, .int .i64 x.num, .slice a' x.sub.length cap'] 27)).alloc (.cells #[] 27)).drew := ((hbel.alloc hbel.size _).alloc (by have := hbel.size; simp; omega) _).drew
          have hW0 : Below wr.heap.size wr ((wr.alloc (.cells #[.int .i64 x.kind, .int .i64 x.at, .string x.name, .int .i64 x.num, .slice a' x.sub.length cap'] 27)).alloc (.cells #[] 27)).drew := (((Below.refl _ _).alloc (Nat.le_refl _) _).alloc (by simp) _).drew
          have own0 : ((wr.alloc (.cells #[.int .i64 x.kind, .int .i64 x.at, .string x.name, .int .i64 x.num, .slice a' x.sub.length cap'] 27)).alloc (.cells #[] 27)).drew.ownsRow (wr.heap.size + 1) 27 5 (.slice (some ⟨wr.heap.size + 1, 0, none⟩) 0 0) 0 [] := by
            have h := (World.ownsRow_made (base := wr.heap.size + 1) (e := 27) (size := 5) (wr.alloc (.cells #[.int .i64 x.kind, .int .i64 x.at, .string x.name, .int .i64 x.num, .slice a' x.sub.length cap'] 27)) #[] 0 (by simp) (Nat.zero_le _) rfl)
            simpa using h.drew
          have src0 : SlN ((wr.alloc (.cells #[.int .i64 x.kind, .int .i64 x.at, .string x.name, .int .i64 x.num, .slice a' x.sub.length cap'] 27)).alloc (.cells #[] 27)).drew 5 (.slice (some ⟨g, off, none⟩) m capB) c0 := by
            have h := (hsl.take m (by simp; omega)).later hW0
            rw [List.take_append_of_le_length (by omega), List.take_of_length_le (by omega)] at h
            exact h
          have hc03 : ∀ c ∈ c0, c.length = 5 ∧ ∀ u ∈ c, u.oneCell' = true := ndcs_three hc0
          obtain ⟨cx, hxsl, hxcs⟩ := hxs
          have hcx3 : ∀ c ∈ cx, c.length = 5 ∧ ∀ u ∈ c, u.oneCell' = true := ndcs_three hxcs
          have hxl := hxcs.length
          go_wp2_with fail
          go_region_held3 (fun w' => w'.cell? ⟨wr.heap.size, 4, none⟩ = some (.slice a' x.sub.length cap')) (first | go_keep | exact (hb2.cell (by simp)).trans ((hb1.cell (by simp)).trans (by simp)) | exact (hb1.cell (by simp)).trans (by simp)) (first | (refine step_app_sl rfl (.tmp 21) (.tmp 26) 25 rfl (wr.heap.size + 1) 27 i0 (.agg #[.int .i64 0, .int .i64 0, .string ByteArray.empty, .int .i64 0, .slice none 0 0]) 5 64 Try.underlying25 hi hz0 hz1 hz2 rfl (by decide) _ _ _ own0 _ c0 src0 rfl rfl (fun c hc => (hc03 c hc).2) (fun c hc => (hc03 c hc).1) (by unfold maxLen; omega) (by omega) (by simp) ?_; intro v1 w1 hown1 hb1 hg1) | (refine step_app_sl rfl (.tmp 27) (.tmp 34) 25 rfl (wr.heap.size + 1) 27 i0 (.agg #[.int .i64 0, .int .i64 0, .string ByteArray.empty, .int .i64 0, .slice none 0 0]) 5 64 Try.underlying25 hi hz0 hz1 hz2 rfl (by decide) _ _ _ hown1 _ cx (hxsl.later (hW.trans (hb1.mono (by have := hbel.size; omega)))) rfl rfl (fun c hc => (hcx3 c hc).2) (fun c hc => (hcx3 c hc).1) (by unfold maxLen; omega) (by omega) (by have := hb1.size; simp at this; omega) ?_; intro v2 w2 hown2 hb2 hg2))
          all_goals
            go_wp2_with fail
            go_roundw
            case rel =>
              refine ⟨ts0 ++ x.sub, c0 ++ cx, k + 1, by omega, by go_num, hc0.append hxcs, ?_, ?_, ?_, hW.trans ((hb1.trans hb2).mono (by have := hbel.size; omega))⟩
              · have h := own_base (base' := w.heap.size) hown2 (by have := hbel.size; omega)
                rw [List.flatten_append, List.length_append, HM.out, ← hl0, ← hxl]
                simpa using h
              · rw [List.length_append, HM.out]; omega
              · have h1 := HN.out
                rw [ndL_append] at h1
                have h2 : ndL [x] = ndL x.sub + 1 := by cases x; simp only [ndL, ndT, Nd.sub]
                show min (k + 1 + ndL (ts0 ++ x.sub)) 8193 = _
                rw [ndL_append, ← h1, h2]; omega
            case measure => simp [intOf]; omega
        · have hmn : ((8193 : Int) < (x.sub.length : Int)) = True := by simp; omega
          have hs2 : ∀ w, (Instr.slice 25 (.slice a' x.sub.length cap') none (some (.int .i64 8193)) none).run Try.prog w = .ok (.slice a' 8193 cap') w := fun w => run_slice_to (P := Try.prog) w 25 a' x.sub.length cap' 8193 Try.underlying25 hi (by omega)
          have hW : Below w.heap.size w ((wr.alloc (.cells #[.int .i64 x.kind, .int .i64 x.at, .string x.name, .int .i64 x.num, .slice a' x.sub.length cap'] 27)).alloc (.cells #[] 27)).drew := ((hbel.alloc hbel.size _).alloc (by have := hbel.size; simp; omega) _).drew
          have hW0 : Below wr.heap.size wr ((wr.alloc (.cells #[.int .i64 x.kind, .int .i64 x.at, .string x.name, .int .i64 x.num, .slice a' x.sub.length cap'] 27)).alloc (.cells #[] 27)).drew := (((Below.refl _ _).alloc (Nat.le_refl _) _).alloc (by simp) _).drew
          have own0 : ((wr.alloc (.cells #[.int .i64 x.kind, .int .i64 x.at, .string x.name, .int .i64 x.num, .slice a' x.sub.length cap'] 27)).alloc (.cells #[] 27)).drew.ownsRow (wr.heap.size + 1) 27 5 (.slice (some ⟨wr.heap.size + 1, 0, none⟩) 0 0) 0 [] := by
            have h := (World.ownsRow_made (base := wr.heap.size + 1) (e := 27) (size := 5) (wr.alloc (.cells #[.int .i64 x.kind, .int .i64 x.at, .string x.name, .int .i64 x.num, .slice a' x.sub.length cap'] 27)) #[] 0 (by simp) (Nat.zero_le _) rfl)
            simpa using h.drew
          have src0 : SlN ((wr.alloc (.cells #[.int .i64 x.kind, .int .i64 x.at, .string x.name, .int .i64 x.num, .slice a' x.sub.length cap'] 27)).alloc (.cells #[] 27)).drew 5 (.slice (some ⟨g, off, none⟩) m capB) c0 := by
            have h := (hsl.take m (by simp; omega)).later hW0
            rw [List.take_append_of_le_length (by omega), List.take_of_length_le (by omega)] at h
            exact h
          have hc03 : ∀ c ∈ c0, c.length = 5 ∧ ∀ u ∈ c, u.oneCell' = true := ndcs_three hc0
          obtain ⟨cx, hxsl, hxcs⟩ := hxs
          have hcx3 : ∀ c ∈ cx, c.length = 5 ∧ ∀ u ∈ c, u.oneCell' = true := ndcs_three hxcs
          have hxl0 := hxcs.length
          have hxl : (cx.take 8193).length = (x.sub.take 8193).length := (hxcs.take 8193).length
          have hxl1 : (x.sub.take 8193).length = 8193 := by rw [List.length_take]; omega
          have hxl2 : (cx.take 8193).length = 8193 := by rw [hxl, hxl1]
          go_wp2_with fail
          go_region_held3 (fun w' => w'.cell? ⟨wr.heap.size, 4, none⟩ = some (.slice a' x.sub.length cap')) (first | go_keep | exact (hb2.cell (by simp)).trans ((hb1.cell (by simp)).trans (by simp)) | exact (hb1.cell (by simp)).trans (by simp)) (first | (refine step_app_sl rfl (.tmp 21) (.tmp 26) 25 rfl (wr.heap.size + 1) 27 i0 (.agg #[.int .i64 0, .int .i64 0, .string ByteArray.empty, .int .i64 0, .slice none 0 0]) 5 64 Try.underlying25 hi hz0 hz1 hz2 rfl (by decide) _ _ _ own0 _ c0 src0 rfl rfl (fun c hc => (hc03 c hc).2) (fun c hc => (hc03 c hc).1) (by unfold maxLen; omega) (by omega) (by simp) ?_; intro v1 w1 hown1 hb1 hg1) | (refine step_app_sl rfl (.tmp 27) (.tmp 34) 25 rfl (wr.heap.size + 1) 27 i0 (.agg #[.int .i64 0, .int .i64 0, .string ByteArray.empty, .int .i64 0, .slice none 0 0]) 5 64 Try.underlying25 hi hz0 hz1 hz2 rfl (by decide) _ _ _ hown1 _ (cx.take 8193) ((hxsl.take 8193 (by omega)).later (hW.trans (hb1.mono (by have := hbel.size; omega)))) rfl rfl (fun c hc => (hcx3 c (List.mem_of_mem_take hc)).2) (fun c hc => (hcx3 c (List.mem_of_mem_take hc)).1) (by unfold maxLen; omega) (by omega) (by have := hb1.size; simp at this; omega) ?_; intro v2 w2 hown2 hb2 hg2))
          all_goals
            go_wp2_with fail
            go_roundw
            case rel =>
              refine ⟨ts0 ++ x.sub.take 8193, c0 ++ cx.take 8193, k + 1, by omega, by go_num, hc0.append (hxcs.take 8193), ?_, ?_, ?_, hW.trans ((hb1.trans hb2).mono (by have := hbel.size; omega))⟩
              · have h := own_base (base' := w.heap.size) hown2 (by have := hbel.size; omega)
                rw [List.flatten_append, List.length_append, HM.out, ← hl0, ← hxl]
                simpa using h
              · rw [List.length_append, HM.out]; omega
              · have h1 := HN.out
                rw [ndL_append] at h1
                have h2 : ndL [x] = ndL x.sub + 1 := by cases x; simp only [ndL, ndT, Nd.sub]
                show min (k + 1 + ndL (ts0 ++ x.sub.take 8193)) 8193 = _
                have h3 := ndL_len (x.sub.take 8193)
                have h4 := ndL_len x.sub
                rw [ndL_append, ← h1, h2]; omega
            case measure => simp [intOf]; omega
end Go.Proofs.Ytffgfjnbgplckaa
