import Derived.Test.YtackepdhcigdlaaTm50
namespace Go.Proofs.Ytackepdhcigdlaa
open Go.RowKit
theorem has_shaped {t : Tm} {n : Int} (hs : shapedB t = true) (h0 : 0 ≤ n) (h1 : n ≤ 1048576) : hasT t n = hsT t n := by
  unfold hasT
  rw [decide_eq_true h0, decide_eq_true h1, hs]; rfl
set_option maxRecDepth 100000 in
set_option maxHeartbeats 4000000 in
theorem rpargs_any (l : List Tm) (v : Value) (d p i : Int) (w : World) (hl24 : l.length ≤ 24) (hsh : ∀ t ∈ l, shapedB t = true) (hp0 : 0 ≤ p) (hp1 : p ≤ 24) (hi0 : 0 ≤ i) (hi1 : i ≤ 24) (hl : TmS w v l) :
    Calls Try.prog 48 #[v, .int .i64 d, .int .i64 p, .int .i64 i] w fun e w' => e = .returned (.int .i64 (argsF d p i l 0)) ∧ Below w.heap.size w w' := by
  obtain ⟨al, cl, rfl, hl1, hl2, -⟩ := hl.open
  have HL := Lib.hid hl
  have HSH := Lib.hid hsh
  clear hl hsh
  go_enter Try.func48, Try.ntmps48
  go_wp2_with fail
  go_loopw [9] (fun i' wr => ∃ (k : Nat), k ≤ l.length ∧ i' = .int .i64 k ∧ Hid (argsF d p i (l.drop k) k = argsF d p i l 0) ∧ Below w.heap.size w wr) (fun i' _ => l.length - (intOf i').toNat)
  case atStart => exact ⟨0, Nat.zero_le _, rfl, rfl, Below.refl _ _⟩
  case round =>
    obtain ⟨wo, rfl⟩ : ∃ x, x = wr := ⟨wr, rfl⟩
    obtain ⟨k, hk, rfl, hs, hbel⟩ := hrel
    by_cases hlt : k < l.length
    · obtain ⟨bb, off, a', cap', rfl, e0, e1, e2, hts⟩ := sub_at HL.out hbel k hlt
      have HSK := Lib.hid (HSH.out _ (List.getElem_mem hlt))
      have hst : Hid (argsF d p i (l.drop k) k = if (decide (-2 < chkW l[k] d p i (p - 1 + k)) || (stT l[k] d && laterF (l.drop (k + 1)) 0)) = true then (k : Int) else argsF d p i (l.drop (k + 1)) (k + 1)) := by
        show _ = _
        rw [List.drop_eq_getElem_cons hlt]
        simp only [argsF]
      have hbl0 : bb <  wo.heap.size := World.block_lt_of_cell? wo _ e0
      have MV : Hid (∀ wz, Below wo.heap.size wo wz → wz.cell? ⟨bb, off + k * 3, none⟩ = some (.int .i64 l[k].kind) ∧ wz.cell? ⟨bb, off + k * 3 + 1, none⟩ = some (.int .i64 l[k].num) ∧ wz.cell? ⟨bb, off + k * 3 + 2, none⟩ = some (.slice a' l[k].sub.length cap')) := fun wz hz => ⟨(hz.cell hbl0).trans e0, (hz.cell hbl0).trans e1, (hz.cell hbl0).trans e2⟩
      have HTS := Lib.hid hts
      have hi0' : (0 : Int) ≤ k := by omega
      have hi1' : (k : Int) < l.length := by omega
      have TY := Lib.hid (rtype2_any l[k] _ d p i (p - 1 + k) wo HSK.out hp0 hp1 hi0 hi1 (by omega) (by omega) hts)
      clear hts hbl0
      generalize l[k] = x at *
      by_cases hch : -2 < chkW x d p i (p - 1 + k)
      · have F : Hid ((k : Int) = argsF d p i l 0) := by show _ = _; rw [← hs.out, hst.out, decide_eq_true hch, Bool.true_or, if_pos rfl]
        generalize chkW x d p i (p - 1 + k) = ch at *
        clear hs hst
        go_wp2_with (go_at_call 71; refine TY.out.mono ?_; rintro e w3 ⟨rfl, hb3⟩; have hwf := Lib.hid (hbel.trans (hb3.mono hbel.size)); clear hb3)
        go_ret
        exact ⟨ret_int F.out, hwf.out⟩
      · have hst2 : Hid (argsF d p i (l.drop k) k = if (stT x d && laterF (l.drop (k + 1)) 0) = true then (k : Int) else argsF d p i (l.drop (k + 1)) (k + 1)) := by
          show _ = _
          rw [hst.out, decide_eq_false hch, Bool.false_or]
        have hch' : chkW x d p i (p - 1 + k) ≤ -2 := by omega
        generalize chkW x d p i (p - 1 + k) = ch at *
        clear hst hch
        go_wp2_with (go_at_call 71; refine TY.out.mono ?_; rintro e w3 ⟨rfl, hb3⟩; have hwf := Lib.hid (hbel.trans (hb3.mono hbel.size)); have HB3 := Lib.hid hb3; clear hb3)
        clear TY e0 e1 e2
        go_loopw [10] (fun i' wz => ∃ (j : Nat), k + 1 ≤ j ∧ j ≤ l.length ∧ i' = .int .i64 j ∧ Hid ((stT x d && laterF (l.drop j) ((j : Int) - k - 1)) = (stT x d && laterF (l.drop (k + 1)) 0)) ∧ Below w.heap.size w wz ∧ Below wo.heap.size wo wz) (fun i' _ => l.length - (intOf i').toNat)
        case atStart => exact ⟨k + 1, Nat.le_refl _, hlt, by simp, by show _ = _; congr 2; omega, hwf.out, HB3.out⟩
        case round =>
          obtain ⟨j, hj1, hj2, rfl, hsj, hbelj, hbr⟩ := hrel
          by_cases hjt : j < l.length
          · obtain ⟨bb', off', a2, cap2, hbb, j0, j1, j2, htj⟩ := sub_at HL.out hbelj j hjt
            simp only [Option.some.injEq, Addr.mk.injEq, and_true] at hbb
            obtain ⟨rfl, rfl⟩ := hbb
            obtain ⟨e0, e1, e2⟩ := MV.out _ hbr
            have HSJ := Lib.hid (HSH.out _ (List.getElem_mem hjt))
            have hsh2 := shaped_hg HSJ.out
            have hhj := hsh2.2.1
            have hlat : Hid (laterF (l.drop j) ((j : Int) - k - 1) = (hsT l[j] ((j : Int) - k - 1) || laterF (l.drop (j + 1)) ((j + 1 : Nat) - k - 1))) := by
              show _ = _
              rw [List.drop_eq_getElem_cons hjt]
              simp only [laterF]
              rw [has_shaped HSJ.out (by omega) (by omega)]
              congr 2
              omega
            have HGJ := Lib.hid hsh2.1
            have HNK := Lib.hid (shaped_hg HSK.out).2.2
            have HTJ := Lib.hid htj
            have hbl0 : bb < wr.heap.size := World.block_lt_of_cell? wr _ j0
            have MJ : Hid (∀ wy, Below wr.heap.size wr wy → wy.cell? ⟨bb, off + j * 3, none⟩ = some (.int .i64 l[j].kind) ∧ wy.cell? ⟨bb, off + j * 3 + 1, none⟩ = some (.int .i64 l[j].num) ∧ wy.cell? ⟨bb, off + j * 3 + 2, none⟩ = some (.slice a2 l[j].sub.length cap2)) := fun wy hz => ⟨(hz.cell hbl0).trans j0, (hz.cell hbl0).trans j1, (hz.cell hbl0).trans j2⟩
            have hj0' : (0 : Int) ≤ j := by omega
            have hj1' : (j : Int) < l.length := by omega
            clear htj hsh2
            generalize l[j] = y at *
            cases hq : stT x d with
            | false =>
              have HQ := Lib.hid hq
              have G : Hid ((stT x d && laterF (l.drop (j + 1)) ((j + 1 : Nat) - k - 1)) = (stT x d && laterF (l.drop (k + 1)) 0)) := by show _ = _; rw [hq]; rfl
              clear hq hsj hs hlat
              go_wp2_with (go_at_call 72; refine (rstands_any _ _ d _ (by have := HNK.out; omega) (HTS.out.later hbr)).mono ?_; rw [HQ.out]; rintro e w3 ⟨rfl, hb3⟩; have hwj := Lib.hid (hbelj.trans (hb3.mono hbelj.size)); have hwk := Lib.hid (hbr.trans (hb3.mono hbr.size)); clear hb3)
              go_roundw
              case rel => exact ⟨j + 1, by omega, hjt, by simp, by show _ = _; rfl, hwj.out, hwk.out⟩
              case measure => simp [intOf]; omega
            | true =>
              have HQ := Lib.hid hq
              cases hr : hsT y ((j : Int) - k - 1) with
              | true =>
                have HR := Lib.hid hr
                have F : Hid ((k : Int) = argsF d p i l 0) := by
                  show _ = _
                  rw [← hs.out, hst2.out, if_pos]
                  rw [← hsj.out, hq, hlat.out, hr]; rfl
                clear hq hr hsj hs hlat
                go_wp2_with (first | (go_at_call 72; refine (rstands_any _ _ d _ (by have := HNK.out; omega) (HTS.out.later hbr)).mono ?_; rw [HQ.out]; rintro e w3 ⟨rfl, hb3⟩; have hwj := Lib.hid (hbelj.trans (hb3.mono hbelj.size)); have HB3 := Lib.hid hb3; obtain ⟨j0, j1, j2⟩ := MJ.out _ hb3; clear hb3) | (go_at_call 41; refine (rhas_any _ _ _ _ HGJ.out (by omega) (by omega) (HTJ.out.later HB3.out)).mono ?_; rw [HR.out]; rintro e w4 ⟨rfl, hb4⟩; have hwl := Lib.hid (hwj.out.trans (hb4.mono hwj.out.size)); clear hb4))
                go_ret
                exact ⟨ret_int F.out, hwl.out⟩
              | false =>
                have HR := Lib.hid hr
                have G : Hid ((stT x d && laterF (l.drop (j + 1)) ((j + 1 : Nat) - k - 1)) = (stT x d && laterF (l.drop (k + 1)) 0)) := by
                  show _ = _
                  rw [← hsj.out, hlat.out, hr, Bool.false_or]
                clear hq hr hsj hs hlat
                go_wp2_with (first | (go_at_call 72; refine (rstands_any _ _ d _ (by have := HNK.out; omega) (HTS.out.later hbr)).mono ?_; rw [HQ.out]; rintro e w3 ⟨rfl, hb3⟩; have hwj := Lib.hid (hbelj.trans (hb3.mono hbelj.size)); have hwk := Lib.hid (hbr.trans (hb3.mono hbr.size)); have HB3 := Lib.hid hb3; obtain ⟨j0, j1, j2⟩ := MJ.out _ hb3; clear hb3) | (go_at_call 41; refine (rhas_any _ _ _ _ HGJ.out (by omega) (by omega) (HTJ.out.later HB3.out)).mono ?_; rw [HR.out]; rintro e w4 ⟨rfl, hb4⟩; have hwl := Lib.hid (hwj.out.trans (hb4.mono hwj.out.size)); have hwm := Lib.hid (hwk.out.trans (hb4.mono hwk.out.size)); clear hb4))
                go_roundw
                case rel => exact ⟨j + 1, by omega, hjt, by simp, by show _ = _; rw [← HQ.out]; exact G.out, hwl.out, hwm.out⟩
                case measure => simp [intOf]; omega
          · obtain rfl : j = l.length := by omega
            have G : Hid (argsF d p i (l.drop (k + 1)) (k + 1) = argsF d p i l 0) := by
              have h1 := hsj.out
              rw [List.drop_length] at h1
              simp only [laterF, Bool.and_false] at h1
              show _ = _
              rw [← hs.out, hst2.out, ← h1, if_neg (by simp)]
            go_wp2_with fail
            go_roundw
            case rel => exact ⟨k + 1, hlt, by simp, G.out, hbelj⟩
            case measure => simp [intOf]; omega
    · have F : Hid (-1 = argsF d p i l 0) := by
        show _ = _
        rw [← hs.out, List.drop_of_length_le (by omega)]; simp only [argsF]
      go_wp2_with fail
      go_ret
      exact ⟨ret_int F.out, hbel⟩
end Go.Proofs.Ytackepdhcigdlaa
