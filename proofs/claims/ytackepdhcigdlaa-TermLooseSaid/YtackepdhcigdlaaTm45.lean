import Derived.Test.YtackepdhcigdlaaTm44
namespace Go.Proofs.Ytackepdhcigdlaa
open Go.RowKit
mutual
/-- the numbers of all nodes of two kinds, rising -/
def nmT (a b : Int) : Tm → List Int
  | .mk k n sub => nmS a b sub (if k = a ∨ k = b then [n] else [])
def nmS (a b : Int) : List Tm → List Int → List Int
  | [], out => out
  | t :: ts, out => nmS a b ts ((nmT a b t).foldl putL out)
end
theorem fold_len : ∀ (l out : List Int), (l.foldl putL out).length ≤ out.length + l.length := by
  intro l
  induction l with
  | nil => intro out; simp
  | cons x xs ih =>
    intro out
    have h1 := ih (putL out x)
    have h2 := putL_len x out
    simp only [List.foldl_cons, List.length_cons]
    omega
theorem fold_mem (y : Int) : ∀ (l out : List Int), y ∈ l.foldl putL out ↔ y ∈ out ∨ y ∈ l := by
  intro l
  induction l with
  | nil => intro out; simp
  | cons x xs ih =>
    intro out
    simp only [List.foldl_cons, ih, putL_mem, List.mem_cons]
    constructor
    · rintro ((h | h) | h)
      · exact .inr (.inl h)
      · exact .inl h
      · exact .inr (.inr h)
    · rintro (h | h | h)
      · exact .inl (.inr h)
      · exact .inl (.inl h)
      · exact .inr h
theorem nm_len (a b : Int) : ∀ t : Tm, (nmT a b t).length ≤ ndT t := by
  refine Tm.ind ?_
  intro k n sub ih
  have : ∀ (l : List Tm), (∀ s ∈ l, (nmT a b s).length ≤ ndT s) → ∀ out, (nmS a b l out).length ≤ out.length + ndL l := by
    intro l
    induction l with
    | nil => intro _ out; simp only [nmS]; omega
    | cons t ts iht =>
      intro hl out
      have h1 := iht (fun s hs => hl s (by simp [hs])) ((nmT a b t).foldl putL out)
      have h2 := fold_len (nmT a b t) out
      have h3 := hl t (by simp)
      simp only [nmS, ndL]
      omega
  have h := this sub ih (if k = a ∨ k = b then [n] else [])
  have h2 : (if k = a ∨ k = b then [n] else []).length ≤ 1 := by split <;> simp
  simp only [nmT, ndT]
  omega
theorem nm_stands (d : Int) : ∀ t : Tm, (d ∈ nmT 6 7 t ↔ stT t d = true) := by
  refine Tm.ind ?_
  intro k n sub ih
  have : ∀ (l : List Tm), (∀ s ∈ l, (d ∈ nmT 6 7 s ↔ stT s d = true)) → ∀ out, (d ∈ nmS 6 7 l out ↔ d ∈ out ∨ stL l d = true) := by
    intro l
    induction l with
    | nil => intro _ out; simp [nmS, stL]
    | cons t ts iht =>
      intro hl out
      simp only [nmS, stL, Bool.or_eq_true]
      rw [iht (fun s hs => hl s (by simp [hs])), fold_mem, hl t (by simp)]
      exact or_assoc
  simp only [nmT, stT]
  rw [this sub ih, Bool.or_eq_true]
  apply or_congr_left
  by_cases h : k = 6 ∨ k = 7
  · rw [if_pos h]
    simp
    constructor
    · intro e; exact ⟨h, e.symm⟩
    · intro e; exact e.2.symm
  · rw [if_neg h]
    simp
    intro h2; exact absurd h2 h
set_option maxRecDepth 100000 in
set_option maxHeartbeats 4000000 in
theorem numbers_any (a b : Int) : ∀ (t : Tm) (cs : List Value) (w : World), ndT t ≤ 20000 → TmC w t cs →
    Calls Try.prog 43 #[.agg cs.toArray, .int .i64 a, .int .i64 b] w fun e w' => ∃ u c, e = .returned (.slice u (nmT a b t).length c) ∧ Slc w' (.slice u (nmT a b t).length c) ((nmT a b t).map (Value.int .i64)) ∧ Below w.heap.size w w' := by
  obtain ⟨i0, hi, hz0, hz1, hz2⟩ := info_parts info3
  refine Tm.ind ?_
  intro kk n sub ih cs w hnd ht
  obtain ⟨ad, cap, rfl, hsub, hlen⟩ := tm_open ht
  simp only [Tm.kind, Tm.num, Tm.sub] at *
  have IH := Lib.hid ih
  have HND := Lib.hid hnd
  have hA : Below w.heap.size w (w.alloc (.cells #[.int .i64 kk, .int .i64 n, .slice ad sub.length cap] 24)) := (Below.refl _ _).alloc (Nat.le_refl _) _
  have BX0 := Box3.new w (.int .i64 kk) (.int .i64 n) (.slice ad sub.length cap)
  have HB0 := Lib.hid (hA.alloc hA.size (.cells #[] 3))
  have BX1 := BX0.later ((Below.refl (w.alloc (.cells #[.int .i64 kk, .int .i64 n, .slice ad sub.length cap] 24)).heap.size (w.alloc (.cells #[.int .i64 kk, .int .i64 n, .slice ad sub.length cap] 24))).alloc (Nat.le_refl _) (.cells #[] 3)) BX0.lt
  obtain ⟨c0, c1, c2⟩ := BX1.cells
  have OW := World.ownsRow_made (base := w.heap.size + 1) (e := 3) (size := 1) (w.alloc (.cells #[.int .i64 kk, .int .i64 n, .slice ad sub.length cap] 24)) #[] 0 (by simp) (Nat.zero_le _) rfl
  simp at OW
  clear ih ht hnd
  go_enter Try.func43, Try.ntmps43
  by_cases hkab : kk = a ∨ kk = b
  · by_cases hka : kk = a
    · have HN0 : Hid (nmS a b (sub.drop 0) [n] = nmT a b (.mk kk n sub)) := by
        show _ = _
        simp only [nmT]
        rw [if_pos hkab]; rfl
      have HLN0 : Hid (([n] : List Int).length + ndL (sub.drop 0) ≤ 20000) := by have := HND.out; simp only [ndT] at this; show _ ≤ _; simp; omega
      have BXS0 := Lib.hid BX1
      have hz8 := BX1.lt
      clear BX1 BX0 hA
      have h1 : (kk == a) = true := beq_iff_eq.2 hka
      clear hka
      go_upto_region 3 with fail
      have hzE : w.heap.size + 1 ≤ ((w.alloc (.cells #[.int .i64 kk, .int .i64 n, .slice ad sub.length cap] 24)).alloc (.cells #[] 3)).heap.size := by simp
      generalize ((w.alloc (.cells #[.int .i64 kk, .int .i64 n, .slice ad sub.length cap] 24)).alloc (.cells #[] 3)) = wE at *
      go_wp2_with (at_builtin; refine wpList_app1 [.int .i64 n] rfl _ _ 33 rfl (w.heap.size + 1) 3 i0 (.int .i64 0) 1 8 Try.underlying33 hi hz0 hz1 hz2 rfl (by decide) _ _ _ OW rfl rfl rfl (by intro u hu; simp at hu; subst hu; rfl) (by unfold maxLen; omega) (by omega) hzE ?_)
      intro u1 w1 ho1 hb1
      have hS1 := Slc.own ho1
      obtain ⟨a1, c1', hu1, -, -⟩ := slc_shape hS1
      have BXS := Lib.hid (BXS0.out.later hb1 (Nat.lt_succ_self _))
      have HBS := Lib.hid (HB0.out.trans (hb1.mono (Nat.le_succ _)))
      have hu2 : u1 = .slice a1 1 c1' := hu1
      clear hu1
      subst hu2
      have SLC0 : Hid (Slc w1 (.slice a1 1 c1') ([n].map (Value.int .i64))) := hS1
      clear ho1 hb1 hS1 OW c0 c1 c2
      go_wp2_with fail
      go_loopw [7, 8] (fun o j wr => ∃ (k : Nat) (out : List Int) (ao : Option Addr) (co : Nat), k ≤ sub.length ∧ j = .int .i64 k ∧ o = .slice ao out.length co ∧ Hid (Slc wr (.slice ao out.length co) (out.map (Value.int .i64))) ∧ Hid (nmS a b (sub.drop k) out = nmT a b (.mk kk n sub)) ∧ out.length + ndL (sub.drop k) ≤ 20000 ∧ Box3 wr w.heap.size (.int .i64 kk) (.int .i64 n) (.slice ad sub.length cap) ∧ Hid (Below w.heap.size w wr)) (fun _ j _ => sub.length - (intOf j).toNat)
      case atStart => exact ⟨0, [n], _, _, Nat.zero_le _, rfl, rfl, SLC0.out, HN0.out, HLN0.out, BXS.out, HBS.out⟩
      case round =>
        obtain ⟨k, out, ao, co, hk, rfl, rfl, hS, hnm, hlen2, BX, hbel⟩ := hrel
        obtain ⟨c0, c1, c2⟩ := BX.cells
        by_cases hlt : k < sub.length
        · obtain ⟨bb, off, a', cap', rfl, e0, e1, e2, hts⟩ := sub_at hsub hbel.out k hlt
          have hdr : ndL (sub.drop k) = ndT sub[k] + ndL (sub.drop (k + 1)) := by rw [List.drop_eq_getElem_cons hlt]; simp only [ndL]
          have hstep : Hid (nmS a b (sub.drop (k + 1)) ((nmT a b sub[k]).foldl putL out) = nmT a b (.mk kk n sub)) := by
            show _ = _
            rw [← hnm.out, List.drop_eq_getElem_cons hlt]
            simp only [nmS]
          have hnl := nm_len a b sub[k]
          have C := Lib.hid (IH.out sub[k] (List.getElem_mem hlt) _ wr (by omega) hts)
          have hi0' : (0 : Int) ≤ k := by omega
          have hi1' : (k : Int) < sub.length := by omega
          have HBX := Lib.hid BX
          clear hts hnm BX
          generalize sub[k] = x at *
          generalize nmT a b x = N at *
          have hNL : N.length ≤ 9223372036854775807 := by omega
          go_wp2_with fail
          refine C.out.mono ?_
          rintro e w2 ⟨u2, c2', rfl, hS2, hb2⟩
          have HS2 := Lib.hid hS2
          have HSo := Lib.hid (hS.out.later hb2)
          have HB2 := Lib.hid (hbel.out.trans (hb2.mono hbel.out.size))
          have HBX2 := Lib.hid (HBX.out.later hb2 HBX.out.lt)
          clear hb2 hS2 hS c0 c1 c2 e0 e1 e2 C
          go_wp2_with fail
          go_loopw [7, 10] (fun o j wr => ∃ (q : Nat) (ou : List Int) (ap : Option Addr) (cp : Nat), q ≤ N.length ∧ j = .int .i64 q ∧ o = .slice ap ou.length cp ∧ Hid (Slc wr (.slice ap ou.length cp) (ou.map (Value.int .i64))) ∧ Hid (ou = (N.take q).foldl putL out) ∧ Hid (Below w.heap.size w wr) ∧ Hid (Below w2.heap.size w2 wr)) (fun _ j _ => N.length - (intOf j).toNat)
          case atStart => exact ⟨0, out, _, _, Nat.zero_le _, rfl, rfl, HSo.out, rfl, HB2.out, Below.refl _ _⟩
          case round =>
            obtain ⟨q, ou, ap, cp, hq, rfl, rfl, hSq, hou, hbq, hb2q⟩ := hrel
            by_cases hlq : q < N.length
            · obtain ⟨b3, off3, rfl, hc3⟩ := slc_at HS2.out hb2q.out q (by simpa using hlq)
              rw [List.getElem_map] at hc3
              have hout : ou.length ≤ out.length + q := by
                have h := fold_len (N.take q) out
                rw [← hou.out, List.length_take] at h
                omega
              have hnext : Hid (putL ou N[q] = (N.take (q + 1)).foldl putL out) := by
                show _ = _
                rw [List.take_succ_eq_append_getElem hlq, List.foldl_append, ← hou.out]; rfl
              have P := Lib.hid (put_any ou _ N[q] wr wr (by omega) hSq.out (Below.refl _ _))
              have hq0 : (0 : Int) ≤ q := by omega
              have hq1 : (q : Int) < N.length := by omega
              clear hSq hou
              go_wp2_with fail
              refine P.out.mono ?_
              rintro e w4 ⟨a4, c4, rfl, hS4, hb4⟩
              have HS4 := Lib.hid hS4
              have HB4 := Lib.hid (hbq.out.trans (hb4.mono hbq.out.size))
              have HB24 := Lib.hid (hb2q.out.trans (hb4.mono hb2q.out.size))
              clear hb4 hS4 P hc3
              go_wp2_with fail
              go_roundw
              case rel => exact ⟨q + 1, putL ou N[q], a4, c4, hlq, by simp, rfl, HS4.out, hnext.out, HB4.out, HB24.out⟩
              case measure => simp [intOf]; omega
            · obtain rfl : q = N.length := by omega
              have hlast : Hid (nmS a b (sub.drop (k + 1)) ou = nmT a b (.mk kk n sub)) := by
                show _ = _
                have h := hou.out
                rw [List.take_length] at h
                rw [h]; exact hstep.out
              have hlen3 : ou.length + ndL (sub.drop (k + 1)) ≤ 20000 := by
                have h := fold_len (N.take N.length) out
                rw [← hou.out, List.length_take] at h
                omega
              have HBX3 := Lib.hid (HBX2.out.later hb2q.out HBX2.out.lt)
              clear hou hstep
              go_wp2_with fail
              go_roundw
              case rel => exact ⟨k + 1, ou, ap, cp, hlt, by simp, rfl, hSq.out, hlast.out, hlen3, HBX3.out, hbq.out⟩
              case measure => simp [intOf]; omega
        · obtain rfl : k = sub.length := by omega
          have hfin : Hid (out = nmT a b (.mk kk n sub)) := by
            show _ = _
            have h := hnm.out
            rw [List.drop_length] at h
            simpa only [nmS] using h
          go_wp2_with fail
          go_ret
          exact ⟨ao, co, by rw [← hfin.out]; rfl, by rw [← hfin.out]; exact hS.out, hbel.out⟩
    · have HN0 : Hid (nmS a b (sub.drop 0) [n] = nmT a b (.mk kk n sub)) := by
        show _ = _
        simp only [nmT]
        rw [if_pos hkab]; rfl
      have HLN0 : Hid (([n] : List Int).length + ndL (sub.drop 0) ≤ 20000) := by have := HND.out; simp only [ndT] at this; show _ ≤ _; simp; omega
      have BXS0 := Lib.hid BX1
      have hz8 := BX1.lt
      clear BX1 BX0 hA
      have h1 : (kk == a) = false := by rw [beq_eq_false_iff_ne]; exact hka
      have h2 : (kk == b) = true := by rw [beq_iff_eq]; omega
      clear hka
      go_upto_region 3 with fail
      have hzE : w.heap.size + 1 ≤ ((w.alloc (.cells #[.int .i64 kk, .int .i64 n, .slice ad sub.length cap] 24)).alloc (.cells #[] 3)).heap.size := by simp
      generalize ((w.alloc (.cells #[.int .i64 kk, .int .i64 n, .slice ad sub.length cap] 24)).alloc (.cells #[] 3)) = wE at *
      go_wp2_with (at_builtin; refine wpList_app1 [.int .i64 n] rfl _ _ 33 rfl (w.heap.size + 1) 3 i0 (.int .i64 0) 1 8 Try.underlying33 hi hz0 hz1 hz2 rfl (by decide) _ _ _ OW rfl rfl rfl (by intro u hu; simp at hu; subst hu; rfl) (by unfold maxLen; omega) (by omega) hzE ?_)
      intro u1 w1 ho1 hb1
      have hS1 := Slc.own ho1
      obtain ⟨a1, c1', hu1, -, -⟩ := slc_shape hS1
      have BXS := Lib.hid (BXS0.out.later hb1 (Nat.lt_succ_self _))
      have HBS := Lib.hid (HB0.out.trans (hb1.mono (Nat.le_succ _)))
      have hu2 : u1 = .slice a1 1 c1' := hu1
      clear hu1
      subst hu2
      have SLC0 : Hid (Slc w1 (.slice a1 1 c1') ([n].map (Value.int .i64))) := hS1
      clear ho1 hb1 hS1 OW c0 c1 c2
      go_wp2_with fail
      go_loopw [7, 8] (fun o j wr => ∃ (k : Nat) (out : List Int) (ao : Option Addr) (co : Nat), k ≤ sub.length ∧ j = .int .i64 k ∧ o = .slice ao out.length co ∧ Hid (Slc wr (.slice ao out.length co) (out.map (Value.int .i64))) ∧ Hid (nmS a b (sub.drop k) out = nmT a b (.mk kk n sub)) ∧ out.length + ndL (sub.drop k) ≤ 20000 ∧ Box3 wr w.heap.size (.int .i64 kk) (.int .i64 n) (.slice ad sub.length cap) ∧ Hid (Below w.heap.size w wr)) (fun _ j _ => sub.length - (intOf j).toNat)
      case atStart => exact ⟨0, [n], _, _, Nat.zero_le _, rfl, rfl, SLC0.out, HN0.out, HLN0.out, BXS.out, HBS.out⟩
      case round =>
        obtain ⟨k, out, ao, co, hk, rfl, rfl, hS, hnm, hlen2, BX, hbel⟩ := hrel
        obtain ⟨c0, c1, c2⟩ := BX.cells
        by_cases hlt : k < sub.length
        · obtain ⟨bb, off, a', cap', rfl, e0, e1, e2, hts⟩ := sub_at hsub hbel.out k hlt
          have hdr : ndL (sub.drop k) = ndT sub[k] + ndL (sub.drop (k + 1)) := by rw [List.drop_eq_getElem_cons hlt]; simp only [ndL]
          have hstep : Hid (nmS a b (sub.drop (k + 1)) ((nmT a b sub[k]).foldl putL out) = nmT a b (.mk kk n sub)) := by
            show _ = _
            rw [← hnm.out, List.drop_eq_getElem_cons hlt]
            simp only [nmS]
          have hnl := nm_len a b sub[k]
          have C := Lib.hid (IH.out sub[k] (List.getElem_mem hlt) _ wr (by omega) hts)
          have hi0' : (0 : Int) ≤ k := by omega
          have hi1' : (k : Int) < sub.length := by omega
          have HBX := Lib.hid BX
          clear hts hnm BX
          generalize sub[k] = x at *
          generalize nmT a b x = N at *
          have hNL : N.length ≤ 9223372036854775807 := by omega
          go_wp2_with fail
          refine C.out.mono ?_
          rintro e w2 ⟨u2, c2', rfl, hS2, hb2⟩
          have HS2 := Lib.hid hS2
          have HSo := Lib.hid (hS.out.later hb2)
          have HB2 := Lib.hid (hbel.out.trans (hb2.mono hbel.out.size))
          have HBX2 := Lib.hid (HBX.out.later hb2 HBX.out.lt)
          clear hb2 hS2 hS c0 c1 c2 e0 e1 e2 C
          go_wp2_with fail
          go_loopw [7, 10] (fun o j wr => ∃ (q : Nat) (ou : List Int) (ap : Option Addr) (cp : Nat), q ≤ N.length ∧ j = .int .i64 q ∧ o = .slice ap ou.length cp ∧ Hid (Slc wr (.slice ap ou.length cp) (ou.map (Value.int .i64))) ∧ Hid (ou = (N.take q).foldl putL out) ∧ Hid (Below w.heap.size w wr) ∧ Hid (Below w2.heap.size w2 wr)) (fun _ j _ => N.length - (intOf j).toNat)
          case atStart => exact ⟨0, out, _, _, Nat.zero_le _, rfl, rfl, HSo.out, rfl, HB2.out, Below.refl _ _⟩
          case round =>
            obtain ⟨q, ou, ap, cp, hq, rfl, rfl, hSq, hou, hbq, hb2q⟩ := hrel
            by_cases hlq : q < N.length
            · obtain ⟨b3, off3, rfl, hc3⟩ := slc_at HS2.out hb2q.out q (by simpa using hlq)
              rw [List.getElem_map] at hc3
              have hout : ou.length ≤ out.length + q := by
                have h := fold_len (N.take q) out
                rw [← hou.out, List.length_take] at h
                omega
              have hnext : Hid (putL ou N[q] = (N.take (q + 1)).foldl putL out) := by
                show _ = _
                rw [List.take_succ_eq_append_getElem hlq, List.foldl_append, ← hou.out]; rfl
              have P := Lib.hid (put_any ou _ N[q] wr wr (by omega) hSq.out (Below.refl _ _))
              have hq0 : (0 : Int) ≤ q := by omega
              have hq1 : (q : Int) < N.length := by omega
              clear hSq hou
              go_wp2_with fail
              refine P.out.mono ?_
              rintro e w4 ⟨a4, c4, rfl, hS4, hb4⟩
              have HS4 := Lib.hid hS4
              have HB4 := Lib.hid (hbq.out.trans (hb4.mono hbq.out.size))
              have HB24 := Lib.hid (hb2q.out.trans (hb4.mono hb2q.out.size))
              clear hb4 hS4 P hc3
              go_wp2_with fail
              go_roundw
              case rel => exact ⟨q + 1, putL ou N[q], a4, c4, hlq, by simp, rfl, HS4.out, hnext.out, HB4.out, HB24.out⟩
              case measure => simp [intOf]; omega
            · obtain rfl : q = N.length := by omega
              have hlast : Hid (nmS a b (sub.drop (k + 1)) ou = nmT a b (.mk kk n sub)) := by
                show _ = _
                have h := hou.out
                rw [List.take_length] at h
                rw [h]; exact hstep.out
              have hlen3 : ou.length + ndL (sub.drop (k + 1)) ≤ 20000 := by
                have h := fold_len (N.take N.length) out
                rw [← hou.out, List.length_take] at h
                omega
              have HBX3 := Lib.hid (HBX2.out.later hb2q.out HBX2.out.lt)
              clear hou hstep
              go_wp2_with fail
              go_roundw
              case rel => exact ⟨k + 1, ou, ap, cp, hlt, by simp, rfl, hSq.out, hlast.out, hlen3, HBX3.out, hbq.out⟩
              case measure => simp [intOf]; omega
        · obtain rfl : k = sub.length := by omega
          have hfin : Hid (out = nmT a b (.mk kk n sub)) := by
            show _ = _
            have h := hnm.out
            rw [List.drop_length] at h
            simpa only [nmS] using h
          go_wp2_with fail
          go_ret
          exact ⟨ao, co, by rw [← hfin.out]; rfl, by rw [← hfin.out]; exact hS.out, hbel.out⟩
  · have h1 : (kk == a) = false := by rw [beq_eq_false_iff_ne]; omega
    have h2 : (kk == b) = false := by rw [beq_eq_false_iff_ne]; omega
    have SLC0 := Lib.hid (Slc.own OW)
    have HN0 : Hid (nmS a b (sub.drop 0) [] = nmT a b (.mk kk n sub)) := by
      show _ = _
      simp only [nmT]
      rw [if_neg hkab]; rfl
    have HLN0 : Hid (([] : List Int).length + ndL (sub.drop 0) ≤ 20000) := by have := HND.out; simp only [ndT] at this; show _ ≤ _; simp; omega
    have BXS := Lib.hid BX1
    have HBS := HB0
    clear OW BX1 BX0 hA
    go_wp2_with fail
    clear c0 c1 c2
    go_loopw [7, 8] (fun o j wr => ∃ (k : Nat) (out : List Int) (ao : Option Addr) (co : Nat), k ≤ sub.length ∧ j = .int .i64 k ∧ o = .slice ao out.length co ∧ Hid (Slc wr (.slice ao out.length co) (out.map (Value.int .i64))) ∧ Hid (nmS a b (sub.drop k) out = nmT a b (.mk kk n sub)) ∧ out.length + ndL (sub.drop k) ≤ 20000 ∧ Box3 wr w.heap.size (.int .i64 kk) (.int .i64 n) (.slice ad sub.length cap) ∧ Hid (Below w.heap.size w wr)) (fun _ j _ => sub.length - (intOf j).toNat)
    case atStart => exact ⟨0, [], _, _, Nat.zero_le _, rfl, rfl, SLC0.out, HN0.out, HLN0.out, BXS.out, HBS.out⟩
    case round =>
      obtain ⟨k, out, ao, co, hk, rfl, rfl, hS, hnm, hlen2, BX, hbel⟩ := hrel
      obtain ⟨c0, c1, c2⟩ := BX.cells
      by_cases hlt : k < sub.length
      · obtain ⟨bb, off, a', cap', rfl, e0, e1, e2, hts⟩ := sub_at hsub hbel.out k hlt
        have hdr : ndL (sub.drop k) = ndT sub[k] + ndL (sub.drop (k + 1)) := by rw [List.drop_eq_getElem_cons hlt]; simp only [ndL]
        have hstep : Hid (nmS a b (sub.drop (k + 1)) ((nmT a b sub[k]).foldl putL out) = nmT a b (.mk kk n sub)) := by
          show _ = _
          rw [← hnm.out, List.drop_eq_getElem_cons hlt]
          simp only [nmS]
        have hnl := nm_len a b sub[k]
        have C := Lib.hid (IH.out sub[k] (List.getElem_mem hlt) _ wr (by omega) hts)
        have hi0' : (0 : Int) ≤ k := by omega
        have hi1' : (k : Int) < sub.length := by omega
        have HBX := Lib.hid BX
        clear hts hnm BX
        generalize sub[k] = x at *
        generalize nmT a b x = N at *
        have hNL : N.length ≤ 9223372036854775807 := by omega
        go_wp2_with fail
        refine C.out.mono ?_
        rintro e w2 ⟨u2, c2', rfl, hS2, hb2⟩
        have HS2 := Lib.hid hS2
        have HSo := Lib.hid (hS.out.later hb2)
        have HB2 := Lib.hid (hbel.out.trans (hb2.mono hbel.out.size))
        have HBX2 := Lib.hid (HBX.out.later hb2 HBX.out.lt)
        clear hb2 hS2 hS c0 c1 c2 e0 e1 e2 C
        go_wp2_with fail
        go_loopw [7, 10] (fun o j wr => ∃ (q : Nat) (ou : List Int) (ap : Option Addr) (cp : Nat), q ≤ N.length ∧ j = .int .i64 q ∧ o = .slice ap ou.length cp ∧ Hid (Slc wr (.slice ap ou.length cp) (ou.map (Value.int .i64))) ∧ Hid (ou = (N.take q).foldl putL out) ∧ Hid (Below w.heap.size w wr) ∧ Hid (Below w2.heap.size w2 wr)) (fun _ j _ => N.length - (intOf j).toNat)
        case atStart => exact ⟨0, out, _, _, Nat.zero_le _, rfl, rfl, HSo.out, rfl, HB2.out, Below.refl _ _⟩
        case round =>
          obtain ⟨q, ou, ap, cp, hq, rfl, rfl, hSq, hou, hbq, hb2q⟩ := hrel
          by_cases hlq : q < N.length
          · obtain ⟨b3, off3, rfl, hc3⟩ := slc_at HS2.out hb2q.out q (by simpa using hlq)
            rw [List.getElem_map] at hc3
            have hout : ou.length ≤ out.length + q := by
              have h := fold_len (N.take q) out
              rw [← hou.out, List.length_take] at h
              omega
            have hnext : Hid (putL ou N[q] = (N.take (q + 1)).foldl putL out) := by
              show _ = _
              rw [List.take_succ_eq_append_getElem hlq, List.foldl_append, ← hou.out]; rfl
            have P := Lib.hid (put_any ou _ N[q] wr wr (by omega) hSq.out (Below.refl _ _))
            have hq0 : (0 : Int) ≤ q := by omega
            have hq1 : (q : Int) < N.length := by omega
            clear hSq hou
            go_wp2_with fail
            refine P.out.mono ?_
            rintro e w4 ⟨a4, c4, rfl, hS4, hb4⟩
            have HS4 := Lib.hid hS4
            have HB4 := Lib.hid (hbq.out.trans (hb4.mono hbq.out.size))
            have HB24 := Lib.hid (hb2q.out.trans (hb4.mono hb2q.out.size))
            clear hb4 hS4 P hc3
            go_wp2_with fail
            go_roundw
            case rel => exact ⟨q + 1, putL ou N[q], a4, c4, hlq, by simp, rfl, HS4.out, hnext.out, HB4.out, HB24.out⟩
            case measure => simp [intOf]; omega
          · obtain rfl : q = N.length := by omega
            have hlast : Hid (nmS a b (sub.drop (k + 1)) ou = nmT a b (.mk kk n sub)) := by
              show _ = _
              have h := hou.out
              rw [List.take_length] at h
              rw [h]; exact hstep.out
            have hlen3 : ou.length + ndL (sub.drop (k + 1)) ≤ 20000 := by
              have h := fold_len (N.take N.length) out
              rw [← hou.out, List.length_take] at h
              omega
            have HBX3 := Lib.hid (HBX2.out.later hb2q.out HBX2.out.lt)
            clear hou hstep
            go_wp2_with fail
            go_roundw
            case rel => exact ⟨k + 1, ou, ap, cp, hlt, by simp, rfl, hSq.out, hlast.out, hlen3, HBX3.out, hbq.out⟩
            case measure => simp [intOf]; omega
      · obtain rfl : k = sub.length := by omega
        have hfin : Hid (out = nmT a b (.mk kk n sub)) := by
          show _ = _
          have h := hnm.out
          rw [List.drop_length] at h
          simpa only [nmS] using h
        go_wp2_with fail
        go_ret
        exact ⟨ao, co, by rw [← hfin.out]; rfl, by rw [← hfin.out]; exact hS.out, hbel.out⟩
end Go.Proofs.Ytackepdhcigdlaa
