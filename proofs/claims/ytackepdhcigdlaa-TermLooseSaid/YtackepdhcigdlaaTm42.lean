import Derived.Test.YtackepdhcigdlaaTm41
namespace Go.Proofs.Ytackepdhcigdlaa
open Go.RowKit
def piT : List Tm → Tm → Tm
  | [], b => b
  | a :: la, b => .mk 3 0 [a, piT la b]
theorem good_pi {x : Tm} (hg : goodB x = true) (h3 : x.kind = 3) : ∃ a y, x = .mk 3 0 [a, y] ∧ goodB a = true ∧ goodB y = true := by
  cases x with
  | mk k n sub =>
    have h3' : k = 3 := h3
    subst h3'
    obtain ⟨h1, h2⟩ := good_parts hg
    have h4 := of_decide_eq_true h1
    simp only [Tm.kind, Tm.num, Tm.sub] at h4
    obtain ⟨_, _, hl, hn0, hn1, _⟩ := h4
    have hl2 : sub.length = 2 := by have : subsOf 3 = 2 := by decide
                                    omega
    have hn : n = 0 := by have : mostOf 3 = 0 := by decide
                          omega
    subst hn
    match sub, hl2 with
    | [a, y], _ => exact ⟨a, y, rfl, h2 a (by simp), h2 y (by simp)⟩
theorem pi_some : ∀ (t : Tm), goodB t = true → ∃ la b, t = piT la b ∧ b.kind ≠ 3 := by
  refine Tm.ind ?_
  intro k n sub ih hg
  by_cases h3 : k = 3
  · obtain ⟨a, y, he, ha, hy⟩ := good_pi hg h3
    simp only [Tm.mk.injEq] at he
    obtain ⟨rfl, rfl, rfl⟩ := he
    obtain ⟨la, b, h1, h2⟩ := ih y (by simp) hy
    exact ⟨a :: la, b, by simp only [piT, ← h1], h2⟩
  · exact ⟨[], .mk k n sub, rfl, h3⟩
theorem app_some : ∀ (t : Tm), goodB t = true → ∃ h m, applyT h m = t ∧ h.kind ≠ 5 := by
  refine Tm.ind ?_
  intro k n sub ih hg
  by_cases h5 : k = 5
  · obtain ⟨y, b, he, hy, hb⟩ := good_app hg h5
    simp only [Tm.mk.injEq] at he
    obtain ⟨rfl, rfl, rfl⟩ := he
    obtain ⟨h, m, h1, h2⟩ := ih y (by simp) hy
    exact ⟨h, m ++ [b], by rw [applyT_snoc, h1], h2⟩
  · exact ⟨.mk k n sub, [], rfl, h5⟩
theorem pi_hg : ∀ (la : List Tm) (b : Tm), la.length + hgT b ≤ hgT (piT la b) := by
  intro la
  induction la with
  | nil => intro b; simp [piT]
  | cons a la ih =>
    intro b
    have h1 := ih b
    simp only [piT, hgT, hgL, List.length_cons]
    omega
theorem pi_good : ∀ (la : List Tm) (b : Tm), goodB (piT la b) = true → goodB b = true ∧ ∀ a ∈ la, goodB a = true := by
  intro la
  induction la with
  | nil => intro b h; exact ⟨h, fun a ha => by cases ha⟩
  | cons a la ih =>
    intro b h
    obtain ⟨_, h2⟩ := good_parts h
    obtain ⟨h3, h4⟩ := ih b (h2 _ (by simp))
    refine ⟨h3, fun x hx => ?_⟩
    cases hx with
    | head => exact h2 _ (by simp)
    | tail _ hm => exact h4 x hm
theorem pi_uniq : ∀ (la la' : List Tm) (b b' : Tm), b.kind ≠ 3 → b'.kind ≠ 3 → piT la b = piT la' b' → la = la' ∧ b = b' := by
  intro la
  induction la with
  | nil =>
    intro la' b b' h h' he
    cases la' with
    | nil => exact ⟨rfl, he⟩
    | cons a la' => exact absurd (show b.kind = 3 by rw [show b = _ from he]; rfl) h
  | cons a la ih =>
    intro la' b b' h h' he
    cases la' with
    | nil => exact absurd (show b'.kind = 3 by rw [show b' = _ from he.symm]; rfl) h'
    | cons a' la' =>
      simp only [piT, Tm.mk.injEq, List.cons.injEq, and_true, true_and] at he
      obtain ⟨h1, h2⟩ := ih la' b b' h h' he.2
      exact ⟨by rw [he.1, h1], h2⟩
def chkT (d p i first : Int) (h : Tm) (m : List Tm) : List Tm → Nat → Int
  | [], k => if k ≤ 24 ∧ ownV h m d p i (first + k) = true then -2 else -1
  | a :: la, k => if stT a d = true then k else chkT d p i first h m la (k + 1)
def chkV (t : Tm) (d p i first : Int) (h : Tm) (m la : List Tm) : Int := if stT t d = true then chkT d p i first h m la 0 else -2
set_option maxRecDepth 100000 in
set_option maxHeartbeats 4000000 in
theorem check_any (t : Tm) (la : List Tm) (b h : Tm) (m : List Tm) (cs : List Value) (d p i first : Int) (w : World) (hg : goodB t = true) (hh : hgT t ≤ 128) (hpi : t = piT la b) (hb3 : b.kind ≠ 3) (h5 : h.kind ≠ 5) (hap : applyT h m = b) (hp0 : 0 ≤ p) (hp1 : p ≤ 24) (hi0 : 0 ≤ i) (hi1 : i ≤ 24) (hf0 : -1 ≤ first) (hf1 : first ≤ 1100000) (ht : TmC w t cs) :
    Calls Try.prog 68 #[.agg cs.toArray, .int .i64 d, .int .i64 p, .int .i64 i, .int .i64 first] w fun e w' => e = .returned (.int .i64 (chkV t d p i first h m la)) ∧ Below w.heap.size w w' := by
  have ht0 := ht
  obtain ⟨a, cap, rfl, hsub, hlen⟩ := tm_open ht
  have hA : Below w.heap.size w (w.alloc (.cells #[.int .i64 t.kind, .int .i64 t.num, .slice a t.sub.length cap] 24)) := (Below.refl _ _).alloc (Nat.le_refl _) _
  have BX0 := Box3.new w (.int .i64 t.kind) (.int .i64 t.num) (.slice a t.sub.length cap)
  have S0 := Lib.hid (stands_any t _ d _ (ht0.later hA))
  have hasl : la.length ≤ 128 := by have := pi_hg la b; rw [← hpi] at this; omega
  have HPI := Lib.hid hpi
  have HT := Lib.hid ht0
  have HB := Lib.hid hA
  clear hsub ht ht0 hpi
  go_enter Try.func68, Try.ntmps68
  go_wp2_with fail
  refine S0.out.mono ?_
  cases hst : stT t d with
  | false =>
    rintro e w1 ⟨rfl, hb1⟩
    have fin : Hid (-2 = chkV t d p i first h m la) := by show _ = _; unfold chkV; rw [hst]; rfl
    have hw1 := hA.trans (hb1.mono hA.size)
    go_wp2_with fail
    go_ret
    exact ⟨ret_int fin.out, hw1⟩
  | true =>
    rintro e w1 ⟨rfl, hb1⟩
    have fin : Hid (chkV t d p i first h m la = chkT d p i first h m la 0) := by show _ = _; unfold chkV; rw [hst]; rfl
    have BX1 := Lib.hid (BX0.later hb1 BX0.lt)
    have HW1 := Lib.hid (hA.trans (hb1.mono hA.size))
    clear hb1 hA BX0 hst S0
    go_wp2_with fail
    go_loopg [11] la.length (fun g v wr => ∃ (la' : List Tm) (x : Tm) (k : Nat) (kk nn : Int) (ax : Option Addr) (lx cx : Nat), g = la'.length ∧ v = .int .i64 k ∧ k + la'.length = la.length ∧ Hid (x = piT la' b) ∧ Hid (goodB x = true) ∧ Hid (hgT x ≤ 128) ∧ Hid (chkT d p i first h m la' k = chkT d p i first h m la 0) ∧ Hid (TmC w x [.int .i64 kk, .int .i64 nn, .slice ax lx cx]) ∧ Box3 wr w.heap.size (.int .i64 kk) (.int .i64 nn) (.slice ax lx cx) ∧ Hid (Below w.heap.size w wr))
    case atStart => exact ⟨la, t, 0, _, _, _, _, _, rfl, rfl, by omega, HPI.out, hg, hh, rfl, HT.out, BX1.out, HW1.out⟩
    case round =>
      obtain ⟨la', x, k, kk, nn, ax, lx, cx, hgk, rfl, hka, HX, HGX, HHX, HC, HTX, BX, hbel⟩ := hrel
      obtain ⟨c0, c1, c2⟩ := BX.cells
      obtain ⟨ax', cx', hex, hsubx, hlx⟩ := tm_open HTX.out
      simp only [List.cons.injEq, Value.int.injEq, true_and, and_true, Value.slice.injEq] at hex
      obtain ⟨rfl, rfl, rfl, rfl, rfl⟩ := hex
      cases la' with
      | nil =>
        obtain rfl : x = b := HX.out
        have hd3 : (x.kind == 3) = false := by rw [beq_eq_false_iff_ne]; exact hb3
        have hCk : chkT d p i first h m la 0 = if k ≤ 24 ∧ ownV h m d p i (first + k) = true then -2 else -1 := HC.out.symm
        have HCk := Lib.hid hCk
        clear hCk HC
        by_cases h24 : (k : Int) ≤ 24
        · have OW := Lib.hid (own_any x h m _ d p i (first + k) wr HGX.out HHX.out h5 hap hp0 hp1 hi0 hi1 (by omega) (by omega) (HTX.out.later hbel.out))
          cases ho : ownV h m d p i (first + k) with
          | true =>
            have F : Hid (-2 = chkV t d p i first h m la) := by
              show _ = _
              rw [fin.out, HCk.out, if_pos ⟨by omega, ho⟩]
            rw [ho] at OW
            clear ho
            go_wp2_with fail
            refine OW.out.mono ?_
            rintro e w2 ⟨rfl, hb2⟩
            have hw2 := Lib.hid (hbel.out.trans (hb2.mono hbel.out.size))
            clear hb2
            go_wp2_with fail
            go_ret
            exact ⟨ret_int F.out, hw2.out⟩
          | false =>
            have F : Hid (-1 = chkV t d p i first h m la) := by
              show _ = _
              rw [fin.out, HCk.out, if_neg (by rw [ho]; simp)]
            rw [ho] at OW
            clear ho
            go_wp2_with fail
            refine OW.out.mono ?_
            rintro e w2 ⟨rfl, hb2⟩
            have hw2 := Lib.hid (hbel.out.trans (hb2.mono hbel.out.size))
            clear hb2
            go_wp2_with fail
            go_ret
            exact ⟨ret_int F.out, hw2.out⟩
        · have F : Hid (-1 = chkV t d p i first h m la) := by
            show _ = _
            rw [fin.out, HCk.out, if_neg (by omega)]
          go_wp2_with fail
          go_ret
          exact ⟨ret_int F.out, hbel.out⟩
      | cons a1 la1 =>
        obtain rfl : x = .mk 3 0 [a1, piT la1 b] := HX.out
        obtain ⟨_, hgs⟩ := good_parts HGX.out
        have hgy : goodB (piT la1 b) = true := hgs _ (by simp)
        have hhy : hgT (piT la1 b) ≤ 128 := by have := HHX.out; simp only [hgT, hgL] at this; omega
        have HGY := Lib.hid hgy
        have HHY := Lib.hid hhy
        clear hgs hgy hhy
        simp only [Tm.kind, Tm.num, Tm.sub, List.length_cons, List.length_nil, Nat.zero_add, Nat.reduceAdd] at c0 c1 c2 HTX BX hsubx hlx hka hgk
        obtain ⟨bb, off, a', cap', rfl, e0, e1, e2, hty⟩ := sub_at (ts := [a1, piT la1 b]) hsubx (Below.refl _ _) 0 (by simp)
        obtain ⟨bb', off', a'', cap'', hbb, j0, j1, j2, htb⟩ := sub_at (ts := [a1, piT la1 b]) hsubx (Below.refl _ _) 1 (by simp)
        simp only [Option.some.injEq, Addr.mk.injEq, and_true] at hbb
        obtain ⟨rfl, rfl⟩ := hbb
        have hbl : bb < w.heap.size := World.block_lt_of_cell? w _ e0
        simp only [List.getElem_cons_zero, List.getElem_cons_succ] at hty htb e0 e1 e2 j0 j1 j2
        have mvc : Hid (∀ wz, Below w.heap.size w wz → wz.cell? ⟨bb, off, none⟩ = some (.int .i64 a1.kind) ∧ wz.cell? ⟨bb, off + 1, none⟩ = some (.int .i64 a1.num) ∧ wz.cell? ⟨bb, off + 2, none⟩ = some (.slice a' a1.sub.length cap') ∧ wz.cell? ⟨bb, off + 3, none⟩ = some (.int .i64 (piT la1 b).kind) ∧ wz.cell? ⟨bb, off + 3 + 1, none⟩ = some (.int .i64 (piT la1 b).num) ∧ wz.cell? ⟨bb, off + 3 + 2, none⟩ = some (.slice a'' (piT la1 b).sub.length cap'')) := by
          intro wz hz
          simp only [Nat.zero_mul, Nat.one_mul, Nat.add_zero] at e0 e1 e2 j0 j1 j2
          exact ⟨(hz.cell hbl).trans e0, (hz.cell hbl).trans e1, (hz.cell hbl).trans e2, (hz.cell hbl).trans j0, (hz.cell hbl).trans j1, (hz.cell hbl).trans j2⟩
        clear e0 e1 e2 j0 j1 j2
        obtain ⟨e0, e1, e2, -, -, -⟩ := mvc.out wr hbel.out
        have S1 := Lib.hid (stands_any a1 _ d wr (hty.later hbel.out))
        have HTB := Lib.hid htb
        have HCk : Hid (chkT d p i first h m la 0 = if stT a1 d = true then (k : Int) else chkT d p i first h m la1 (k + 1)) := HC.out.symm
        have HBX := Lib.hid BX
        clear hty htb hsubx HC BX
        cases hq : stT a1 d with
        | true =>
          have F : Hid ((k : Int) = chkV t d p i first h m la) := by
            show _ = _
            rw [fin.out, HCk.out, if_pos hq]
          rw [hq] at S1
          clear hq
          go_wp2_with fail
          refine S1.out.mono ?_
          rintro e w2 ⟨rfl, hb2⟩
          have hw2 := Lib.hid (hbel.out.trans (hb2.mono hbel.out.size))
          clear hb2
          go_wp2_with fail
          go_ret
          exact ⟨ret_int F.out, hw2.out⟩
        | false =>
          have G : Hid (chkT d p i first h m la1 (k + 1) = chkT d p i first h m la 0) := by
            show _ = _
            rw [HCk.out, if_neg (by rw [hq]; decide)]
          rw [hq] at S1
          clear hq
          go_wp2_with fail
          refine S1.out.mono ?_
          rintro e w2 ⟨rfl, hb2⟩
          have hw2 := Lib.hid (hbel.out.trans (hb2.mono hbel.out.size))
          have BX2 := HBX.out.later hb2 HBX.out.lt
          obtain ⟨-, -, -, j0, j1, j2⟩ := mvc.out w2 hw2.out
          obtain ⟨d0, d1, d2⟩ := BX2.cells
          have g0 := BX2.free 0
          have g1 := BX2.free 1
          have g2 := BX2.free 2
          have HBX2 := Lib.hid BX2
          clear hb2 BX2 c0 c1 c2 e0 e1 e2
          generalize piT la1 b = y at *
          go_wp2_with fail
          go_roundg la1.length
          case measure => omega
          case rel =>
            have hy : y = piT la1 b := by
              have h1 := HX.out
              simp only [piT, Tm.mk.injEq, List.cons.injEq, and_true, true_and] at h1
              exact h1
            exact ⟨la1, y, k + 1, y.kind, y.num, a'', y.sub.length, cap'', rfl, by simp, by omega, hy, HGY.out, HHY.out, G.out, HTB.out, HBX2.out.set _ _ _, set3_below hw2.out (Nat.le_refl _) _ _ _⟩
def laterF : List Tm → Int → Bool
  | [], _ => false
  | t :: ts, j => hasT t j || laterF ts (j + 1)
set_option maxRecDepth 100000 in
set_option maxHeartbeats 2000000 in
theorem later_any (l : List Tm) (v : Value) (k : Nat) (w : World) (hk : k ≤ 1000) (hl : TmS w v l) :
    Calls Try.prog 70 #[v, .int .i64 k] w fun e w' => e = .returned (.bool (laterF (l.drop (k + 1)) 0)) ∧ Below w.heap.size w w' := by
  obtain ⟨al, cl, rfl, hl1, hl2, -⟩ := hl.open
  have hll : l.length ≤ 9223372036854775807 := by unfold maxLen at hl2; omega
  go_enter Try.func70, Try.ntmps70
  go_wp2_with fail
  go_loopw [5] (fun i wr => ∃ (j : Nat), k + 1 ≤ j ∧ (j ≤ l.length ∨ j = k + 1) ∧ i = .int .i64 j ∧ Hid (laterF (l.drop j) ((j : Int) - k - 1) = laterF (l.drop (k + 1)) 0) ∧ Below w.heap.size w wr) (fun i _ => l.length - (intOf i).toNat)
  case atStart => exact ⟨k + 1, Nat.le_refl _, .inr rfl, by simp, by show _ = _; congr 1; omega, Below.refl _ _⟩
  case round =>
    obtain ⟨j, hj1, hj2, rfl, hs, hbel⟩ := hrel
    by_cases hlt : j < l.length
    · obtain ⟨bb, off, a', cap', rfl, e0, e1, e2, hts⟩ := sub_at hl hbel j hlt
      have hst : Hid (laterF (l.drop j) ((j : Int) - k - 1) = (hasT l[j] ((j : Int) - k - 1) || laterF (l.drop (j + 1)) ((j + 1 : Nat) - k - 1))) := by
        show _ = _
        rw [List.drop_eq_getElem_cons hlt]
        simp only [laterF]
        congr 2
        omega
      have C := Lib.hid (has0_any l[j] _ ((j : Int) - k - 1) wr hts)
      have hi0 : (0 : Int) ≤ j := by omega
      have hi1 : (j : Int) < l.length := by omega
      have hi2 : (k : Int) ≤ 1000 := by omega
      have hi3 : (k : Int) + 1 ≤ j := by omega
      clear hts
      cases hq : hasT l[j] ((j : Int) - k - 1) with
      | true =>
        have F : Hid (true = laterF (l.drop (k + 1)) 0) := by
          show _ = _
          rw [← hs.out, hst.out, hq]; rfl
        rw [hq] at C
        clear hq hst hs
        go_wp2_with fail
        refine C.out.mono ?_
        rintro e w2 ⟨rfl, hb2⟩
        have hw2 := Lib.hid (hbel.trans (hb2.mono hbel.size))
        clear hb2
        go_wp2_with fail
        go_ret
        exact ⟨ret_bool F.out, hw2.out⟩
      | false =>
        have G : Hid (laterF (l.drop (j + 1)) (((j + 1 : Nat) : Int) - k - 1) = laterF (l.drop (k + 1)) 0) := by
          show _ = _
          rw [← hs.out, hst.out, hq]; rfl
        rw [hq] at C
        clear hq hst hs
        go_wp2_with fail
        refine C.out.mono ?_
        rintro e w2 ⟨rfl, hb2⟩
        have hw2 := Lib.hid (hbel.trans (hb2.mono hbel.size))
        clear hb2
        go_wp2_with fail
        go_roundw
        case rel => exact ⟨j + 1, by omega, .inl hlt, by simp, G.out, hw2.out⟩
        case measure => simp [intOf]; omega
    · have F : Hid (false = laterF (l.drop (k + 1)) 0) := by
        show _ = _
        rw [← hs.out, List.drop_of_length_le (by omega)]; simp only [laterF]
      go_wp2_with fail
      go_ret
      exact ⟨ret_bool F.out, hbel⟩
end Go.Proofs.Ytackepdhcigdlaa
