import Derived.Test.YtackepdhcigdlaaTm56
namespace Go.Proofs.Ytackepdhcigdlaa
open Go.RowKit
theorem ones_flat (N : List Int) : (N.map fun y => [Value.int .i64 y]).flatten = N.map (Value.int .i64) := by
  induction N with
  | nil => rfl
  | cons x xs ih => simp only [List.map_cons, List.flatten_cons, ih]; rfl
theorem sl_ones {w : World} {base e n : Nat} {v : Value} {N : List Int} (h : w.ownsRow base e 1 v n (N.map (Value.int .i64))) (hn : N.length = n) : SlN w 1 v (N.map fun y => [Value.int .i64 y]) :=
  SlN.own (by rw [ones_flat]; exact h) (by simpa using hn) (by intro c hc; simp at hc; obtain ⟨y, _, rfl⟩ := hc; rfl)
theorem own_sh1 {w : World} {base e n : Nat} {v : Value} {xs : List Value} (h : w.ownsRow base e 1 v n xs) : ∃ a c, v = .slice a n c := by
  have hS := Slc.own h
  obtain ⟨a, c, hv, -, -⟩ := slc_shape hS
  have := own_len h
  rw [this] at hv
  exact ⟨a, c, hv⟩
set_option maxRecDepth 100000 in
set_option maxHeartbeats 4000000 in
theorem collect_any (a b : Int) : ∀ (t : Tm) (cs : List Value) (w : World), ndT t ≤ 20000 → TmC w t cs →
    Calls Try.prog 59 #[.agg cs.toArray, .int .i64 a, .int .i64 b] w fun e w' => ∃ u c, e = .returned (.slice u (clT a b t).length c) ∧ w'.ownsRow w.heap.size 3 1 (.slice u (clT a b t).length c) (clT a b t).length ((clT a b t).map (Value.int .i64)) ∧ Below w.heap.size w w' := by
  obtain ⟨i0, hi, hz0, hz1, hz2⟩ := info_parts info3
  refine Tm.ind ?_
  intro kk n sub ih cs w hnd ht
  obtain ⟨ad, cap, rfl, hsub, hlen⟩ := tm_open ht
  simp only [Tm.kind, Tm.num, Tm.sub] at *
  have IH := Lib.hid ih
  have HND : Hid (ndL sub ≤ 19999) := by show _ ≤ _; simp only [ndT] at hnd; omega
  have hA : Below w.heap.size w (w.alloc (.cells #[.int .i64 kk, .int .i64 n, .slice ad sub.length cap] 24)) := (Below.refl _ _).alloc (Nat.le_refl _) _
  have BX0 := Box3.new w (.int .i64 kk) (.int .i64 n) (.slice ad sub.length cap)
  clear ih ht hnd
  go_enter Try.func59, Try.ntmps59
  by_cases hkab : kk = a ∨ kk = b
  · have HN0 : Hid (clT a b (.mk kk n sub) = [n] ++ clS a b (sub.take sub.length)) := by
      show _ = _
      simp only [clT]
      rw [if_pos hkab, List.take_length]
    by_cases hka : kk = a
    · have h1 : (kk == a) = true := beq_iff_eq.2 hka
      clear hka hkab
      have BXS1 := Lib.hid BX0
      have HB1 := Lib.hid hA
      obtain ⟨c0, c1, c2⟩ := BX0.cells
      clear BX0 hA
      go_upto_region 3 with fail
      have hzE2 : w.heap.size + 1 ≤ (w.alloc (.cells #[.int .i64 kk, .int .i64 n, .slice ad sub.length cap] 24)).heap.size := by simp
      have OWW := World.ownsRow_nil (w.alloc (.cells #[.int .i64 kk, .int .i64 n, .slice ad sub.length cap] 24)) (w.heap.size + 1) 3 1
      generalize (w.alloc (.cells #[.int .i64 kk, .int .i64 n, .slice ad sub.length cap] 24)) = wE at *
      go_wp2_with (at_builtin; refine wpList_app1 [.int .i64 n] rfl _ _ 33 rfl (w.heap.size + 1) 3 i0 (.int .i64 0) 1 8 Try.underlying33 hi hz0 hz1 hz2 rfl (by decide) _ _ _ OWW rfl rfl rfl (by intro u hu; simp at hu; subst hu; rfl) (by unfold maxLen; omega) (by omega) hzE2 ?_)
      intro u1 w1 ho1 hb1
      obtain ⟨a1, c1', hu1⟩ := own_sh1 ho1
      have hu2 : u1 = .slice a1 1 c1' := hu1
      clear hu1
      subst hu2
      have OW1 : Hid (w1.ownsRow (w.heap.size + 1) 3 1 (.slice a1 1 c1') 1 ([n].map (Value.int .i64))) := ho1
      have H0 : Hid (([n] : List Int).length + ndL sub ≤ 20000) := by show _ ≤ _; have := HND.out; simp; omega
      have BXS := Lib.hid (BXS1.out.later hb1 (Nat.lt_succ_self _))
      have HBS := Lib.hid (HB1.out.trans (hb1.mono (Nat.le_succ _)))
      have hsz0 : w.heap.size + 1 ≤ w1.heap.size := by have := hb1.size; omega
      clear ho1 hb1 OWW c0 c1 c2
      obtain ⟨c0, c1, c2⟩ := BXS.out.cells
      go_wp2_with fail
      clear c0 c1 c2
      go_loopw [7, 28] (fun o j wr => ∃ (k : Nat) (out : List Int) (ao : Option Addr) (co : Nat), k ≤ sub.length ∧ j = .int .i64 k ∧ o = .slice ao out.length co ∧ Hid (wr.ownsRow (w.heap.size + 1) 3 1 (.slice ao out.length co) out.length (out.map (Value.int .i64))) ∧ Hid (out = [n] ++ clS a b (sub.take k)) ∧ out.length + ndL (sub.drop k) ≤ 20000 ∧ Box3 wr w.heap.size (.int .i64 kk) (.int .i64 n) (.slice ad sub.length cap) ∧ Hid (Below w.heap.size w wr) ∧ w.heap.size + 1 ≤ wr.heap.size) (fun _ j _ => sub.length - (intOf j).toNat)
      case atStart => exact ⟨0, [n], _, _, Nat.zero_le _, rfl, rfl, OW1.out, by show _ = _; simp [clS], H0.out, BXS.out, HBS.out, hsz0⟩
      case round =>
        obtain ⟨k, out, ao, co, hk, rfl, rfl, hown, hcl, hlen2, BX, hbel, hsz⟩ := hrel
        by_cases hlt : k < sub.length
        · obtain ⟨bb, off, a', cap', rfl, e0, e1, e2, hts⟩ := sub_at hsub hbel.out k hlt
          have hdr : ndL (sub.drop k) = ndT sub[k] + ndL (sub.drop (k + 1)) := by rw [List.drop_eq_getElem_cons hlt]; simp only [ndL]
          have hnl := cl_len a b sub[k]
          have hA2 : Below wr.heap.size wr (wr.alloc (.cells #[.int .i64 sub[k].kind, .int .i64 sub[k].num, .slice a' sub[k].sub.length cap'] 24)) := (Below.refl _ _).alloc (Nat.le_refl _) _
          have C := Lib.hid (IH.out sub[k] (List.getElem_mem hlt) _ _ (by omega) (hts.later hA2))
          have hstep : Hid (out ++ clT a b sub[k] = [n] ++ clS a b (sub.take (k + 1))) := by
            show _ = _
            rw [List.take_succ_eq_append_getElem hlt, clS_append, hcl.out, List.append_assoc]
            simp only [clS, List.append_nil]
          have hi0' : (0 : Int) ≤ k := by omega
          have hi1' : (k : Int) < sub.length := by omega
          have HBX := Lib.hid BX
          have HA2 := Lib.hid hA2
          clear hts hcl BX hA2
          generalize sub[k] = x at *
          generalize clT a b x = N at *
          go_wp2_with fail
          refine C.out.mono ?_
          rintro e w2 ⟨u2, c2', rfl, ho2, hb2⟩
          have h12 := HA2.out.trans (hb2.mono HA2.out.size)
          have HOW := Lib.hid (own_later hown.out h12)
          have HSL := Lib.hid (sl_ones ho2 rfl)
          have HBX2 := Lib.hid (HBX.out.later h12 HBX.out.lt)
          have HB2 := Lib.hid (hbel.out.trans (h12.mono hbel.out.size))
          have hsz2 : w.heap.size + 1 ≤ w2.heap.size := by have := h12.size; omega
          clear hb2 ho2 h12 e0 e1 e2 C HBX hown HA2
          go_wp2_with (at_builtin; refine wpList_app_sl rfl _ _ 33 rfl (w.heap.size + 1) 3 i0 (.int .i64 0) 1 8 Try.underlying33 hi hz0 hz1 hz2 rfl (by decide) _ _ _ HOW.out _ _ HSL.out rfl rfl (by intro c hc u hu; simp at hc; obtain ⟨y, _, rfl⟩ := hc; simp at hu; subst hu; rfl) (by intro c hc; simp at hc; obtain ⟨y, _, rfl⟩ := hc; rfl) (by unfold maxLen; simp; omega) (by simp; omega) hsz2 ?_)
          intro v3 w3 ho3 hb3 hg3
          have ho4 : w3.ownsRow (w.heap.size + 1) 3 1 v3 (out ++ N).length ((out ++ N).map (Value.int .i64)) := by
            rw [List.length_append, List.map_append, ← ones_flat N]
            simpa using ho3
          obtain ⟨a3, c3, rfl⟩ := own_sh1 ho4
          have HO4 := Lib.hid ho4
          have HBX3 := Lib.hid (HBX2.out.later hb3 (by omega))
          have HB3 := Lib.hid (HB2.out.trans (hb3.mono (by omega)))
          have hsz3 : w.heap.size + 1 ≤ w3.heap.size := by have := hb3.size; omega
          have hlen3 : (out ++ N).length + ndL (sub.drop (k + 1)) ≤ 20000 := by rw [List.length_append]; omega
          generalize (out ++ N) = ou at *
          clear ho3 ho4 hb3 hg3 HOW HSL HBX2 HB2
          go_wp2_with fail
          go_roundw
          case rel => exact ⟨k + 1, ou, a3, c3, hlt, by simp, rfl, HO4.out, hstep.out, hlen3, HBX3.out, HB3.out, hsz3⟩
          case measure => simp [intOf]; omega
        · obtain rfl : k = sub.length := by omega
          have hfin : Hid (∀ u c, (Value.slice ao out.length co = .slice u out.length c) → wr.ownsRow w.heap.size 3 1 (.slice u out.length c) out.length (out.map (Value.int .i64))) := by
            intro u c h; rw [← h]; exact own_base hown.out (Nat.le_succ _)
          have hN : Hid (out = clT a b (.mk kk n sub)) := by show _ = _; rw [HN0.out, hcl.out]
          have FIN : Hid (∃ u c, Value.slice ao out.length co = .slice u (clT a b (.mk kk n sub)).length c ∧ wr.ownsRow w.heap.size 3 1 (.slice u (clT a b (.mk kk n sub)).length c) (clT a b (.mk kk n sub)).length ((clT a b (.mk kk n sub)).map (Value.int .i64))) := by
            rw [← hN.out]
            exact ⟨ao, co, rfl, hfin.out ao co rfl⟩
          clear hcl hfin hN
          go_wp2_with fail
          go_ret
          obtain ⟨u, c, h1, h2⟩ := FIN.out
          exact ⟨u, c, by rw [← h1]; rfl, h2, hbel.out⟩
    · have h1 : (kk == a) = false := by simpa using hka
      have h2 : (kk == b) = true := by rcases hkab with h | h; exact absurd h hka; exact beq_iff_eq.2 h
      clear hka hkab
      have BXS1 := Lib.hid BX0
      have HB1 := Lib.hid hA
      obtain ⟨c0, c1, c2⟩ := BX0.cells
      clear BX0 hA
      go_upto_region 3 with fail
      have hzE2 : w.heap.size + 1 ≤ (w.alloc (.cells #[.int .i64 kk, .int .i64 n, .slice ad sub.length cap] 24)).heap.size := by simp
      have OWW := World.ownsRow_nil (w.alloc (.cells #[.int .i64 kk, .int .i64 n, .slice ad sub.length cap] 24)) (w.heap.size + 1) 3 1
      generalize (w.alloc (.cells #[.int .i64 kk, .int .i64 n, .slice ad sub.length cap] 24)) = wE at *
      go_wp2_with (at_builtin; refine wpList_app1 [.int .i64 n] rfl _ _ 33 rfl (w.heap.size + 1) 3 i0 (.int .i64 0) 1 8 Try.underlying33 hi hz0 hz1 hz2 rfl (by decide) _ _ _ OWW rfl rfl rfl (by intro u hu; simp at hu; subst hu; rfl) (by unfold maxLen; omega) (by omega) hzE2 ?_)
      intro u1 w1 ho1 hb1
      obtain ⟨a1, c1', hu1⟩ := own_sh1 ho1
      have hu2 : u1 = .slice a1 1 c1' := hu1
      clear hu1
      subst hu2
      have OW1 : Hid (w1.ownsRow (w.heap.size + 1) 3 1 (.slice a1 1 c1') 1 ([n].map (Value.int .i64))) := ho1
      have H0 : Hid (([n] : List Int).length + ndL sub ≤ 20000) := by show _ ≤ _; have := HND.out; simp; omega
      have BXS := Lib.hid (BXS1.out.later hb1 (Nat.lt_succ_self _))
      have HBS := Lib.hid (HB1.out.trans (hb1.mono (Nat.le_succ _)))
      have hsz0 : w.heap.size + 1 ≤ w1.heap.size := by have := hb1.size; omega
      clear ho1 hb1 OWW c0 c1 c2
      obtain ⟨c0, c1, c2⟩ := BXS.out.cells
      go_wp2_with fail
      clear c0 c1 c2
      go_loopw [7, 28] (fun o j wr => ∃ (k : Nat) (out : List Int) (ao : Option Addr) (co : Nat), k ≤ sub.length ∧ j = .int .i64 k ∧ o = .slice ao out.length co ∧ Hid (wr.ownsRow (w.heap.size + 1) 3 1 (.slice ao out.length co) out.length (out.map (Value.int .i64))) ∧ Hid (out = [n] ++ clS a b (sub.take k)) ∧ out.length + ndL (sub.drop k) ≤ 20000 ∧ Box3 wr w.heap.size (.int .i64 kk) (.int .i64 n) (.slice ad sub.length cap) ∧ Hid (Below w.heap.size w wr) ∧ w.heap.size + 1 ≤ wr.heap.size) (fun _ j _ => sub.length - (intOf j).toNat)
      case atStart => exact ⟨0, [n], _, _, Nat.zero_le _, rfl, rfl, OW1.out, by show _ = _; simp [clS], H0.out, BXS.out, HBS.out, hsz0⟩
      case round =>
        obtain ⟨k, out, ao, co, hk, rfl, rfl, hown, hcl, hlen2, BX, hbel, hsz⟩ := hrel
        by_cases hlt : k < sub.length
        · obtain ⟨bb, off, a', cap', rfl, e0, e1, e2, hts⟩ := sub_at hsub hbel.out k hlt
          have hdr : ndL (sub.drop k) = ndT sub[k] + ndL (sub.drop (k + 1)) := by rw [List.drop_eq_getElem_cons hlt]; simp only [ndL]
          have hnl := cl_len a b sub[k]
          have hA2 : Below wr.heap.size wr (wr.alloc (.cells #[.int .i64 sub[k].kind, .int .i64 sub[k].num, .slice a' sub[k].sub.length cap'] 24)) := (Below.refl _ _).alloc (Nat.le_refl _) _
          have C := Lib.hid (IH.out sub[k] (List.getElem_mem hlt) _ _ (by omega) (hts.later hA2))
          have hstep : Hid (out ++ clT a b sub[k] = [n] ++ clS a b (sub.take (k + 1))) := by
            show _ = _
            rw [List.take_succ_eq_append_getElem hlt, clS_append, hcl.out, List.append_assoc]
            simp only [clS, List.append_nil]
          have hi0' : (0 : Int) ≤ k := by omega
          have hi1' : (k : Int) < sub.length := by omega
          have HBX := Lib.hid BX
          have HA2 := Lib.hid hA2
          clear hts hcl BX hA2
          generalize sub[k] = x at *
          generalize clT a b x = N at *
          go_wp2_with fail
          refine C.out.mono ?_
          rintro e w2 ⟨u2, c2', rfl, ho2, hb2⟩
          have h12 := HA2.out.trans (hb2.mono HA2.out.size)
          have HOW := Lib.hid (own_later hown.out h12)
          have HSL := Lib.hid (sl_ones ho2 rfl)
          have HBX2 := Lib.hid (HBX.out.later h12 HBX.out.lt)
          have HB2 := Lib.hid (hbel.out.trans (h12.mono hbel.out.size))
          have hsz2 : w.heap.size + 1 ≤ w2.heap.size := by have := h12.size; omega
          clear hb2 ho2 h12 e0 e1 e2 C HBX hown HA2
          go_wp2_with (at_builtin; refine wpList_app_sl rfl _ _ 33 rfl (w.heap.size + 1) 3 i0 (.int .i64 0) 1 8 Try.underlying33 hi hz0 hz1 hz2 rfl (by decide) _ _ _ HOW.out _ _ HSL.out rfl rfl (by intro c hc u hu; simp at hc; obtain ⟨y, _, rfl⟩ := hc; simp at hu; subst hu; rfl) (by intro c hc; simp at hc; obtain ⟨y, _, rfl⟩ := hc; rfl) (by unfold maxLen; simp; omega) (by simp; omega) hsz2 ?_)
          intro v3 w3 ho3 hb3 hg3
          have ho4 : w3.ownsRow (w.heap.size + 1) 3 1 v3 (out ++ N).length ((out ++ N).map (Value.int .i64)) := by
            rw [List.length_append, List.map_append, ← ones_flat N]
            simpa using ho3
          obtain ⟨a3, c3, rfl⟩ := own_sh1 ho4
          have HO4 := Lib.hid ho4
          have HBX3 := Lib.hid (HBX2.out.later hb3 (by omega))
          have HB3 := Lib.hid (HB2.out.trans (hb3.mono (by omega)))
          have hsz3 : w.heap.size + 1 ≤ w3.heap.size := by have := hb3.size; omega
          have hlen3 : (out ++ N).length + ndL (sub.drop (k + 1)) ≤ 20000 := by rw [List.length_append]; omega
          generalize (out ++ N) = ou at *
          clear ho3 ho4 hb3 hg3 HOW HSL HBX2 HB2
          go_wp2_with fail
          go_roundw
          case rel => exact ⟨k + 1, ou, a3, c3, hlt, by simp, rfl, HO4.out, hstep.out, hlen3, HBX3.out, HB3.out, hsz3⟩
          case measure => simp [intOf]; omega
        · obtain rfl : k = sub.length := by omega
          have hfin : Hid (∀ u c, (Value.slice ao out.length co = .slice u out.length c) → wr.ownsRow w.heap.size 3 1 (.slice u out.length c) out.length (out.map (Value.int .i64))) := by
            intro u c h; rw [← h]; exact own_base hown.out (Nat.le_succ _)
          have hN : Hid (out = clT a b (.mk kk n sub)) := by show _ = _; rw [HN0.out, hcl.out]
          have FIN : Hid (∃ u c, Value.slice ao out.length co = .slice u (clT a b (.mk kk n sub)).length c ∧ wr.ownsRow w.heap.size 3 1 (.slice u (clT a b (.mk kk n sub)).length c) (clT a b (.mk kk n sub)).length ((clT a b (.mk kk n sub)).map (Value.int .i64))) := by
            rw [← hN.out]
            exact ⟨ao, co, rfl, hfin.out ao co rfl⟩
          clear hcl hfin hN
          go_wp2_with fail
          go_ret
          obtain ⟨u, c, h1, h2⟩ := FIN.out
          exact ⟨u, c, by rw [← h1]; rfl, h2, hbel.out⟩
  · have HN0 : Hid (clT a b (.mk kk n sub) = [] ++ clS a b (sub.take sub.length)) := by
      show _ = _
      simp only [clT]
      rw [if_neg hkab, List.take_length]
    have h1 : (kk == a) = false := by simp; intro h; exact hkab (.inl h)
    have h2 : (kk == b) = false := by simp; intro h; exact hkab (.inr h)
    have BXS := Lib.hid BX0
    have HBS := Lib.hid hA
    have OW1 : Hid ((w.alloc (.cells #[.int .i64 kk, .int .i64 n, .slice ad sub.length cap] 24)).ownsRow (w.heap.size + 1) 3 1 (.slice none 0 0) 0 (([] : List Int).map (Value.int .i64))) := World.ownsRow_nil _ _ _ _
    obtain ⟨c0, c1, c2⟩ := BX0.cells
    have H0 : Hid (([] : List Int).length + ndL sub ≤ 20000) := by show _ ≤ _; have := HND.out; simp; omega
    have hsz0 : w.heap.size + 1 ≤ (w.alloc (.cells #[.int .i64 kk, .int .i64 n, .slice ad sub.length cap] 24)).heap.size := by simp
    clear hkab hA BX0
    go_wp2_with fail
    clear c0 c1 c2
    go_loopw [7, 28] (fun o j wr => ∃ (k : Nat) (out : List Int) (ao : Option Addr) (co : Nat), k ≤ sub.length ∧ j = .int .i64 k ∧ o = .slice ao out.length co ∧ Hid (wr.ownsRow (w.heap.size + 1) 3 1 (.slice ao out.length co) out.length (out.map (Value.int .i64))) ∧ Hid (out = ([] : List Int) ++ clS a b (sub.take k)) ∧ out.length + ndL (sub.drop k) ≤ 20000 ∧ Box3 wr w.heap.size (.int .i64 kk) (.int .i64 n) (.slice ad sub.length cap) ∧ Hid (Below w.heap.size w wr) ∧ w.heap.size + 1 ≤ wr.heap.size) (fun _ j _ => sub.length - (intOf j).toNat)
    case atStart => exact ⟨0, ([] : List Int), _, _, Nat.zero_le _, rfl, rfl, OW1.out, by show _ = _; simp [clS], H0.out, BXS.out, HBS.out, hsz0⟩
    case round =>
      obtain ⟨k, out, ao, co, hk, rfl, rfl, hown, hcl, hlen2, BX, hbel, hsz⟩ := hrel
      by_cases hlt : k < sub.length
      · obtain ⟨bb, off, a', cap', rfl, e0, e1, e2, hts⟩ := sub_at hsub hbel.out k hlt
        have hdr : ndL (sub.drop k) = ndT sub[k] + ndL (sub.drop (k + 1)) := by rw [List.drop_eq_getElem_cons hlt]; simp only [ndL]
        have hnl := cl_len a b sub[k]
        have hA2 : Below wr.heap.size wr (wr.alloc (.cells #[.int .i64 sub[k].kind, .int .i64 sub[k].num, .slice a' sub[k].sub.length cap'] 24)) := (Below.refl _ _).alloc (Nat.le_refl _) _
        have C := Lib.hid (IH.out sub[k] (List.getElem_mem hlt) _ _ (by omega) (hts.later hA2))
        have hstep : Hid (out ++ clT a b sub[k] = ([] : List Int) ++ clS a b (sub.take (k + 1))) := by
          show _ = _
          rw [List.take_succ_eq_append_getElem hlt, clS_append, hcl.out, List.append_assoc]
          simp only [clS, List.append_nil]
        have hi0' : (0 : Int) ≤ k := by omega
        have hi1' : (k : Int) < sub.length := by omega
        have HBX := Lib.hid BX
        have HA2 := Lib.hid hA2
        clear hts hcl BX hA2
        generalize sub[k] = x at *
        generalize clT a b x = N at *
        go_wp2_with fail
        refine C.out.mono ?_
        rintro e w2 ⟨u2, c2', rfl, ho2, hb2⟩
        have h12 := HA2.out.trans (hb2.mono HA2.out.size)
        have HOW := Lib.hid (own_later hown.out h12)
        have HSL := Lib.hid (sl_ones ho2 rfl)
        have HBX2 := Lib.hid (HBX.out.later h12 HBX.out.lt)
        have HB2 := Lib.hid (hbel.out.trans (h12.mono hbel.out.size))
        have hsz2 : w.heap.size + 1 ≤ w2.heap.size := by have := h12.size; omega
        clear hb2 ho2 h12 e0 e1 e2 C HBX hown HA2
        go_wp2_with (at_builtin; refine wpList_app_sl rfl _ _ 33 rfl (w.heap.size + 1) 3 i0 (.int .i64 0) 1 8 Try.underlying33 hi hz0 hz1 hz2 rfl (by decide) _ _ _ HOW.out _ _ HSL.out rfl rfl (by intro c hc u hu; simp at hc; obtain ⟨y, _, rfl⟩ := hc; simp at hu; subst hu; rfl) (by intro c hc; simp at hc; obtain ⟨y, _, rfl⟩ := hc; rfl) (by unfold maxLen; simp; omega) (by simp; omega) hsz2 ?_)
        intro v3 w3 ho3 hb3 hg3
        have ho4 : w3.ownsRow (w.heap.size + 1) 3 1 v3 (out ++ N).length ((out ++ N).map (Value.int .i64)) := by
          rw [List.length_append, List.map_append, ← ones_flat N]
          simpa using ho3
        obtain ⟨a3, c3, rfl⟩ := own_sh1 ho4
        have HO4 := Lib.hid ho4
        have HBX3 := Lib.hid (HBX2.out.later hb3 (by omega))
        have HB3 := Lib.hid (HB2.out.trans (hb3.mono (by omega)))
        have hsz3 : w.heap.size + 1 ≤ w3.heap.size := by have := hb3.size; omega
        have hlen3 : (out ++ N).length + ndL (sub.drop (k + 1)) ≤ 20000 := by rw [List.length_append]; omega
        generalize (out ++ N) = ou at *
        clear ho3 ho4 hb3 hg3 HOW HSL HBX2 HB2
        go_wp2_with fail
        go_roundw
        case rel => exact ⟨k + 1, ou, a3, c3, hlt, by simp, rfl, HO4.out, hstep.out, hlen3, HBX3.out, HB3.out, hsz3⟩
        case measure => simp [intOf]; omega
      · obtain rfl : k = sub.length := by omega
        have hfin : Hid (∀ u c, (Value.slice ao out.length co = .slice u out.length c) → wr.ownsRow w.heap.size 3 1 (.slice u out.length c) out.length (out.map (Value.int .i64))) := by
          intro u c h; rw [← h]; exact own_base hown.out (Nat.le_succ _)
        have hN : Hid (out = clT a b (.mk kk n sub)) := by show _ = _; rw [HN0.out, hcl.out]
        have FIN : Hid (∃ u c, Value.slice ao out.length co = .slice u (clT a b (.mk kk n sub)).length c ∧ wr.ownsRow w.heap.size 3 1 (.slice u (clT a b (.mk kk n sub)).length c) (clT a b (.mk kk n sub)).length ((clT a b (.mk kk n sub)).map (Value.int .i64))) := by
          rw [← hN.out]
          exact ⟨ao, co, rfl, hfin.out ao co rfl⟩
        clear hcl hfin hN
        go_wp2_with fail
        go_ret
        obtain ⟨u, c, h1, h2⟩ := FIN.out
        exact ⟨u, c, by rw [← h1]; rfl, h2, hbel.out⟩
end Go.Proofs.Ytackepdhcigdlaa
