import Derived.Test.YtackepdhcigdlaaTm48
namespace Go.Proofs.Ytackepdhcigdlaa
open Go.RowKit
theorem pi_nd : ∀ (la : List Tm) (b : Tm), ndT b ≤ ndT (piT la b) ∧ ∀ a ∈ la, ndT a ≤ ndT (piT la b)
  | [], b => ⟨Nat.le_refl _, by intro a h; cases h⟩
  | x :: la, b => by
    obtain ⟨h1, h2⟩ := pi_nd la b
    simp only [piT, ndT, ndL]
    refine ⟨by omega, ?_⟩
    intro a ha
    cases ha with
    | head => omega
    | tail _ hm => have := h2 a hm; omega
theorem ap_nd : ∀ (m : List Tm) (h : Tm), ndT h ≤ ndT (applyT h m) ∧ ∀ a ∈ m, ndT a ≤ ndT (applyT h m)
  | [], h => ⟨Nat.le_refl _, by intro a h; cases h⟩
  | x :: m, h => by
    obtain ⟨h1, h2⟩ := ap_nd m (.mk 5 0 [h, x])
    simp only [applyT]
    have e : ndT (.mk 5 0 [h, x]) = ndT h + ndT x + 1 := by simp only [ndT, ndL]; omega
    refine ⟨by omega, ?_⟩
    intro a ha
    cases ha with
    | head => omega
    | tail _ hm => exact h2 a hm
theorem own_app (d p f : Int) : ∀ (l : List Tm) (k : Nat), ownL d p f l k = (appL p (f + 1) l k && !(l.any fun a => stT a d))
  | [], k => rfl
  | a :: l, k => by
    simp only [ownL, appL, List.any_cons]
    rw [own_app d p f l (k + 1), show f + 1 - 1 - (k : Int) = f - k by omega]
    generalize stT a d = x
    generalize (decide ((k : Int) < p) && (a.kind != 1 || a.num != f - ↑k)) = y
    generalize appL p (f + 1) l (k + 1) = z
    generalize (l.any fun a => stT a d) = u
    cases x <;> cases y <;> cases z <;> cases u <;> rfl
theorem ownV_app (h : Tm) (m : List Tm) (d p i f : Int) : ownV h m d p i f = (appV h m d p i (f + 1) && !(m.any fun a => stT a d)) := by
  unfold ownV appV
  rw [own_app]
  generalize (h.kind == 6 && h.num == d && ((m.length : Int) == p + i)) = x
  cases x <;> rfl
theorem any_take {α : Type} (l : List α) (p : α → Bool) (k : Nat) (h : k < l.length) : (l.take (k + 1)).any p = ((l.take k).any p || p l[k]) := by
  rw [List.take_succ_eq_append_getElem h, List.any_append]
  simp
set_option maxRecDepth 100000 in
set_option maxHeartbeats 4000000 in
theorem rtype_any (t : Tm) (la : List Tm) (b h : Tm) (m : List Tm) (cs : List Value) (d p i first : Int) (w : World) (hs : shapedB t = true) (hpi : t = piT la b) (hb3 : b.kind ≠ 3) (h5 : h.kind ≠ 5) (hap : applyT h m = b) (hp0 : 0 ≤ p) (hp1 : p ≤ 24) (hi0 : 0 ≤ i) (hi1 : i ≤ 24) (hf0 : -1 ≤ first) (hf1 : first ≤ 1100000) (ht : TmC w t cs) :
    Calls Try.prog 71 #[.agg cs.toArray, .int .i64 d, .int .i64 p, .int .i64 i, .int .i64 first] w fun e w' => e = .returned (.int .i64 (chkV t d p i first h m la)) ∧ Below w.heap.size w w' := by
  have ht0 := ht
  obtain ⟨hg, hh, hnd⟩ := shaped_hg hs
  obtain ⟨a, cap, rfl, hsub, hlen⟩ := tm_open ht
  have hA : Below w.heap.size w (w.alloc (.cells #[.int .i64 t.kind, .int .i64 t.num, .slice a t.sub.length cap] 24)) := (Below.refl _ _).alloc (Nat.le_refl _) _
  have BX0 := Lib.hid (Box3.new w (.int .i64 t.kind) (.int .i64 t.num) (.slice a t.sub.length cap))
  have hasl : la.length ≤ 128 := by have := pi_hg la b; rw [← hpi] at this; omega
  have hgb := (pi_good la b (by rw [← hpi]; exact hg)).1
  have hhb : hgT b ≤ 128 := by have := sub_hg la b; rw [← hpi] at this; omega
  have hnb : ndT b ≤ 8192 := by have := (pi_nd la b).1; rw [← hpi] at this; omega
  have HNL : Hid (∀ x ∈ la, ndT x ≤ 20000) := by intro x hx; have := (pi_nd la b).2 x hx; rw [← hpi] at this; omega
  have HNM : Hid (∀ x ∈ m, ndT x ≤ 20000) := by intro x hx; have := (ap_nd m h).2 x hx; rw [hap] at this; omega
  have HST : Hid (∀ wz, Below w.heap.size w wz → Calls Try.prog 72 #[.agg #[.int .i64 t.kind, .int .i64 t.num, .slice a t.sub.length cap], .int .i64 d] wz fun e w' => e = .returned (.bool (stT t d)) ∧ Below wz.heap.size wz w') := fun wz hz => rstands_any t _ d wz (by omega) (ht0.later hz)
  have HTE : Hid (∀ wz, Below w.heap.size w wz → Calls Try.prog 79 #[.agg #[.int .i64 t.kind, .int .i64 t.num, .slice a t.sub.length cap]] wz fun e w' => ∃ (al : Option Addr) (cl : Nat), e = .returned (.slice al la.length cl) ∧ TmS w' (.slice al la.length cl) la ∧ Below wz.heap.size wz w') := fun wz hz => rtele_any t la b _ wz hg hpi hb3 (by omega) (ht0.later hz)
  have HBE : Hid (∀ wz, Below w.heap.size w wz → Calls Try.prog 80 #[.agg #[.int .i64 t.kind, .int .i64 t.num, .slice a t.sub.length cap]] wz fun e w' => ∃ (k n : Int) (a : Option Addr) (len cap : Nat), e = .returned (.agg #[.int .i64 k, .int .i64 n, .slice a len cap]) ∧ TmC w' b [.int .i64 k, .int .i64 n, .slice a len cap] ∧ Below wz.heap.size wz w') := fun wz hz => rbeneath_any t la b _ wz hg hpi hb3 (ht0.later hz)
  have HA := Lib.hid hA
  have HAP := Lib.hid hap
  clear hsub ht ht0 hpi hA hg hs hap
  go_enter Try.func71, Try.ntmps71
  go_wp2_with fail
  refine (HST.out _ HA.out).mono ?_
  cases hst : stT t d with
  | false =>
    rintro e w1 ⟨rfl, hb1⟩
    have fin : Hid (-2 = chkV t d p i first h m la) := by show _ = _; unfold chkV; rw [hst]; rfl
    have hw1 := HA.out.trans (hb1.mono HA.out.size)
    go_wp2_with fail
    go_ret
    exact ⟨ret_int fin.out, hw1⟩
  | true =>
    rintro e w1 ⟨rfl, hb1⟩
    have fin : Hid (chkV t d p i first h m la = chkT d p i first h m la 0) := by show _ = _; unfold chkV; rw [hst]; rfl
    have BX1 := BX0.out.later hb1 BX0.out.lt
    have HW1 := Lib.hid (HA.out.trans (hb1.mono HA.out.size))
    obtain ⟨c0, c1, c2⟩ := BX1.cells
    clear hb1 HA BX0 hst HST
    go_wp2_with fail
    refine (HTE.out _ HW1.out).mono ?_
    rintro e w2 ⟨al, cl, rfl, hTL, hb2⟩
    have BX2 := Lib.hid (BX1.later hb2 BX1.lt)
    have HW2 := Lib.hid (HW1.out.trans (hb2.mono HW1.out.size))
    have HTL := Lib.hid hTL
    clear hb2 HW1 BX1 HTE c0 c1 c2 hTL
    go_wp2_with fail
    go_loopw [12] (fun i' wr => ∃ (k : Nat), k ≤ la.length ∧ i' = .int .i64 k ∧ Hid (chkT d p i first h m (la.drop k) k = chkT d p i first h m la 0) ∧ Below w2.heap.size w2 wr) (fun i' _ => la.length - (intOf i').toNat)
    case atStart => exact ⟨0, Nat.zero_le _, rfl, rfl, Below.refl _ _⟩
    case round =>
      obtain ⟨k, hk, rfl, hs, hbel⟩ := hrel
      by_cases hlt : k < la.length
      · obtain ⟨bb, off, a', cap', rfl, e0, e1, e2, hts⟩ := sub_at HTL.out hbel k hlt
        have HND := Lib.hid (HNL.out _ (List.getElem_mem hlt))
        have hst : Hid (chkT d p i first h m (la.drop k) k = if stT la[k] d = true then (k : Int) else chkT d p i first h m (la.drop (k + 1)) (k + 1)) := by
          show _ = _
          rw [List.drop_eq_getElem_cons hlt]
          simp only [chkT]
        have HTS := Lib.hid hts
        have hi0' : (0 : Int) ≤ k := by omega
        have hi1' : (k : Int) < la.length := by omega
        clear hts
        generalize la[k] = x at *
        cases hq : stT x d with
        | true =>
          have HQ := Lib.hid hq
          have F : Hid ((k : Int) = chkV t d p i first h m la) := by show _ = _; rw [fin.out, ← hs.out, hst.out, if_pos hq]
          clear hq hs hst
          go_wp2_with (go_at_call 72; refine (rstands_any _ _ d _ HND.out HTS.out).mono ?_; rw [HQ.out]; rintro e w3 ⟨rfl, hb3⟩; have hwf := Lib.hid (HW2.out.trans ((hbel.trans (hb3.mono hbel.size)).mono HW2.out.size)); clear hb3)
          go_ret
          exact ⟨ret_int F.out, hwf.out⟩
        | false =>
          have HQ := Lib.hid hq
          have G : Hid (chkT d p i first h m (la.drop (k + 1)) (k + 1) = chkT d p i first h m la 0) := by show _ = _; rw [← hs.out, hst.out, if_neg (by rw [hq]; simp)]
          clear hq hs hst
          go_wp2_with (go_at_call 72; refine (rstands_any _ _ d _ HND.out HTS.out).mono ?_; rw [HQ.out]; rintro e w3 ⟨rfl, hb3⟩; have hwf := Lib.hid (hbel.trans (hb3.mono hbel.size)); clear hb3)
          go_roundw
          case rel => exact ⟨k + 1, hlt, by simp, G.out, hwf.out⟩
          case measure => simp [intOf]; omega
      · obtain rfl : k = la.length := by omega
        have hCk : Hid (chkV t d p i first h m la = if la.length ≤ 24 ∧ ownV h m d p i (first + la.length) = true then -2 else -1) := by
          show _ = _
          rw [fin.out, ← hs.out, List.drop_length]
          simp only [chkT]
        have BX3 := BX2.out.later hbel BX2.out.lt
        obtain ⟨c0, c1, c2⟩ := BX3.cells
        have HW3 := Lib.hid (HW2.out.trans (hbel.mono HW2.out.size))
        clear hs BX3 HTL fin HW2 BX2 hbel
        go_wp2_with fail
        refine (HBE.out _ HW3.out).mono ?_
        rintro e w4 ⟨k4, n4, a4, l4, cap4, rfl, hTb, hb4⟩
        obtain ⟨x1, x2, hex, -, -⟩ := tm_open hTb
        simp only [List.cons.injEq, Value.int.injEq, true_and, and_true, Value.slice.injEq] at hex
        obtain ⟨rfl, rfl, rfl, rfl, rfl⟩ := hex
        have HW4 := Lib.hid (HW3.out.trans (hb4.mono HW3.out.size))
        have hA5 : Below w4.heap.size w4 (w4.alloc (.cells #[.int .i64 b.kind, .int .i64 b.num, .slice a4 b.sub.length cap4] 24)) := (Below.refl _ _).alloc (Nat.le_refl _) _
        have HA5 := Lib.hid hA5
        have BX5 := Lib.hid (Box3.new w4 (.int .i64 b.kind) (.int .i64 b.num) (.slice a4 b.sub.length cap4))
        have HTB := Lib.hid hTb
        clear hTb hA5 hb4 c0 c1 c2 HBE HW3
        by_cases h24 : la.length ≤ 24
        · have hgt : ((la.length : Int) > 24) = False := by simp; omega
          have h24' : (la.length : Int) ≤ 24 := by omega
          have HAPP := Lib.hid (rapplied_any b h m _ d p i (first + 1 + la.length) _ hgb hhb h5 HAP.out hp0 hp1 hi0 hi1 (by omega) (by omega) (HTB.out.later HA5.out))
          have hov := ownV_app h m d p i (first + la.length)
          rw [show first + (la.length : Int) + 1 = first + 1 + la.length by omega] at hov
          have HOV := Lib.hid hov
          clear hov hgt
          cases ho : appV h m d p i (first + 1 + la.length) with
          | false =>
            have F : Hid (-1 = chkV t d p i first h m la) := by
              show _ = _
              rw [hCk.out, if_neg]
              rw [HOV.out, ho]; simp
            rw [ho] at HAPP
            clear ho
            go_wp2_with fail
            refine HAPP.out.mono ?_
            rintro e w6 ⟨rfl, hb6⟩
            have hw6 := Lib.hid (HW4.out.trans ((HA5.out.trans (hb6.mono HA5.out.size)).mono HW4.out.size))
            clear hb6
            go_wp2_with fail
            go_ret
            exact ⟨ret_int F.out, hw6.out⟩
          | true =>
            have hco : Hid (chkV t d p i first h m la = if (m.any fun a => stT a d) = true then -1 else -2) := by
              show _ = _
              rw [hCk.out, HOV.out, ho, Bool.true_and]
              cases (m.any fun a => stT a d) with
              | true => rw [if_neg (by simp), if_pos rfl]
              | false => rw [if_pos ⟨h24, rfl⟩, if_neg (by simp)]
            rw [ho] at HAPP
            clear ho
            go_wp2_with fail
            refine HAPP.out.mono ?_
            rintro e w6 ⟨rfl, hb6⟩
            have BX6 := BX5.out.later hb6 BX5.out.lt
            obtain ⟨c0, c1, c2⟩ := BX6.cells
            have H46 := Lib.hid (HA5.out.trans (hb6.mono HA5.out.size))
            have HAR := Lib.hid (rargs2_any b [] _ w4 w6 H46.out (by exact hhb) hgb HTB.out)
            clear hb6 BX6 BX5 HAPP HA5 HOV hCk
            go_wp2_with fail
            refine HAR.out.mono ?_
            rintro e w7 ⟨h', m', css, am, cm, rfl, h5', hap', hown, hTm, hb7⟩
            obtain ⟨rfl, rfl⟩ := spine_uniq _ m m' h h' rfl h5 h5' (by rw [HAP.out, hap'])
            have HW7 := Lib.hid (H46.out.trans (hb7.mono H46.out.size))
            have hS := SlN.own hown hTm.length (fun c hc => (tmcs_cs3 hTm c hc).three)
            have HTM : Hid (TmS w7 (.slice am m.length cm) m) := ⟨css, hS, hTm.later HW7.out⟩
            have HW := Lib.hid (HW4.out.trans (HW7.out.mono HW4.out.size))
            have hm128 : m.length ≤ 128 := by have := spine_hg (x := h) (l := m); rw [hap'] at this; omega
            clear hS hown hTm c0 c1 c2 hb7 HW7 HAR H46 HW4
            go_wp2_with fail
            go_loopw [15] (fun i' wr => ∃ (k : Nat), k ≤ m.length ∧ i' = .int .i64 k ∧ Hid ((m.take k).any (fun a => stT a d) = false) ∧ Below w7.heap.size w7 wr) (fun i' _ => m.length - (intOf i').toNat)
            case atStart => exact ⟨0, Nat.zero_le _, rfl, rfl, Below.refl _ _⟩
            case round =>
              obtain ⟨k, hk, rfl, hs, hbel⟩ := hrel
              by_cases hlt : k < m.length
              · obtain ⟨bb, off, a', cap', rfl, e0, e1, e2, hts⟩ := sub_at HTM.out hbel k hlt
                have HND := Lib.hid (HNM.out _ (List.getElem_mem hlt))
                have hst := any_take m (fun a => stT a d) k hlt
                rw [hs.out, Bool.false_or] at hst
                have HTS := Lib.hid hts
                have hi0' : (0 : Int) ≤ k := by omega
                have hi1' : (k : Int) < m.length := by omega
                have HALL : Hid (stT m[k] d = true → (m.any fun a => stT a d) = true) := fun hq => List.any_eq_true.2 ⟨_, List.getElem_mem hlt, hq⟩
                have HST2 := Lib.hid hst
                clear hts hst
                generalize m[k] = x at *
                cases hq : stT x d with
                | true =>
                  have HQ := Lib.hid hq
                  have F : Hid (-1 = chkV t d p i first h m la) := by show _ = _; rw [hco.out, if_pos (HALL.out hq)]
                  clear hq hs HST2
                  go_wp2_with (go_at_call 72; refine (rstands_any _ _ d _ HND.out HTS.out).mono ?_; rw [HQ.out]; rintro e w3 ⟨rfl, hb3⟩; have hwf := Lib.hid (HW.out.trans ((hbel.trans (hb3.mono hbel.size)).mono HW.out.size)); clear hb3)
                  go_ret
                  exact ⟨ret_int F.out, hwf.out⟩
                | false =>
                  have HQ := Lib.hid hq
                  have G : Hid ((m.take (k + 1)).any (fun a => stT a d) = false) := by show _ = _; rw [HST2.out]; exact hq
                  clear hq hs HST2
                  go_wp2_with (go_at_call 72; refine (rstands_any _ _ d _ HND.out HTS.out).mono ?_; rw [HQ.out]; rintro e w3 ⟨rfl, hb3⟩; have hwf := Lib.hid (hbel.trans (hb3.mono hbel.size)); clear hb3)
                  go_roundw
                  case rel => exact ⟨k + 1, hlt, by simp, G.out, hwf.out⟩
                  case measure => simp [intOf]; omega
              · obtain rfl : k = m.length := by omega
                have F : Hid (-2 = chkV t d p i first h m la) := by
                  have h1 := hs.out
                  rw [List.take_length] at h1
                  show _ = _
                  rw [hco.out, h1]; rfl
                have hwf := Lib.hid (HW.out.trans (hbel.mono HW.out.size))
                go_wp2_with fail
                go_ret
                exact ⟨ret_int F.out, hwf.out⟩
        · have h24' : (24 : Int) < la.length := by omega
          have F : Hid (-1 = chkV t d p i first h m la) := by
            show _ = _
            rw [hCk.out, if_neg (by omega)]
          have hwf := Lib.hid (HW4.out.trans (HA5.out.mono HW4.out.size))
          go_wp2_with fail
          go_ret
          exact ⟨ret_int F.out, hwf.out⟩
theorem rtype2_any (t : Tm) (cs : List Value) (d p i first : Int) (w : World) (hs : shapedB t = true) (hp0 : 0 ≤ p) (hp1 : p ≤ 24) (hi0 : 0 ≤ i) (hi1 : i ≤ 24) (hf0 : -1 ≤ first) (hf1 : first ≤ 1100000) (ht : TmC w t cs) :
    Calls Try.prog 71 #[.agg cs.toArray, .int .i64 d, .int .i64 p, .int .i64 i, .int .i64 first] w fun e w' => e = .returned (.int .i64 (chkW t d p i first)) ∧ Below w.heap.size w w' := by
  obtain ⟨hg, hh, -⟩ := shaped_hg hs
  obtain ⟨h1, h2⟩ := piA_ok 200 t hg (by omega)
  have hgb := (pi_good (piA 200 t).1 (piA 200 t).2 (by rw [← h1]; exact hg)).1
  have hhb : hgT (piA 200 t).2 ≤ 128 := by have := sub_hg (piA 200 t).1 (piA 200 t).2; rw [← h1] at this; omega
  obtain ⟨h3, h4⟩ := apA_ok 200 (piA 200 t).2 hgb (by omega)
  exact rtype_any t _ _ _ _ cs d p i first w hs h1 h2 h4 h3 hp0 hp1 hi0 hi1 hf0 hf1 ht
end Go.Proofs.Ytackepdhcigdlaa
