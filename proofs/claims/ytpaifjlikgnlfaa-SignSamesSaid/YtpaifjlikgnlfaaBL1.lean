import Derived.Test.YtpaifjlikgnlfaaBL
import Derived.Test.YtpaifjlikgnlfaaBS1
set_option linter.unusedSimpArgs false
set_option linter.unusedVariables false
set_option maxHeartbeats 16000000
set_option maxRecDepth 100000
namespace Go.Proofs.Ytpaifjlikgnlfaa
open Go.RowKit
section
variable {w w0 : World} {v0 v1 : Value} {a b : List En}
theorem Qfe (h : RepS (fun _ => True) w v0 a) : Calls Try.prog 4 #[v0] w fun e w' => e = .returned (.bool (decide ((a.length : Int) ≤ 300))) ∧ Below w.heap.size w w' :=
 PCalls.top ((light_p a).mono fun p s hp => hp.1) (Qav (Qds (by decide) h) (Qbz _ _))
theorem awake_w (w : World) : Calls Try.prog 5 #[] w fun e w' => e = .returned (.bool true) ∧ Below w.heap.size w w' :=
 PCalls.top (awake12_p.mono fun p s hp => hp.1) (Qbz _ _)
theorem ssame_w (h : RepS (fun _ => True) w v0 a) (h1 : RepS (fun _ => True) w v1 b) : Calls Try.prog 6 #[v0, v1] w fun e w' => e = .returned (.bool (Qch a b)) ∧ Below w.heap.size w w' :=
 PCalls.top ((ssame_p a b).mono fun p s hp => hp.1) (Qav (Qds (by decide) h) (Qav (Qds (by decide) h1) (Qbz _ _)))
theorem rsame_w (h : RepS (fun _ => True) w v0 a) (h1 : RepS (fun _ => True) w v1 b) : Calls Try.prog 7 #[v0, v1] w fun e w' => e = .returned (.bool (Qch a b)) ∧ Below w.heap.size w w' :=
 PCalls.top ((rsame_p a b).mono fun p s hp => hp.1) (Qav (Qds (by decide) h) (Qav (Qds (by decide) h1) (Qbz _ _)))
end
theorem copyE_ok {l : List En} (h : ∀ e ∈ l, EnOk e) : ∀ e ∈ l.map Qbj, EnOk e := by
 intro e he
 obtain ⟨x, hx, rfl⟩ := List.mem_map.1 he
 exact h x hx
theorem sames_walk (v0 : Value) (a : List En) (v1 : Value) (b : List En) (w : World) (h0 : EnS w v0 a) (h1 : EnS w v1 b) : Calls Try.prog 3 #[v0, v1] w fun e w' => e = .returned (.bool true) ∧ Below w.heap.size w w' := by
 have H0 := Hh h0.1
 have H1 := Hh h1.1
 have HO := Hh h0.2
 clear h0 h1
 by_cases ha : (a.length : Int) ≤ 300
 rotate_left
 ·have hf : decide ((a.length : Int) ≤ 300) = false := decide_eq_false ha
  go_enter Try.func3, Try.ntmps3
  go_wp2_with fail
  refine (Qfe H0.out).mono ?_
  rw [hf]
  rintro e w1 ⟨rfl, hb1⟩
  have HB1 := Hh hb1
  clear hb1 ha hf
  go_wp2_with fail
  refine (awake_w _).mono ?_
  rintro e w2 ⟨rfl, hb2⟩
  have hw := HB1.out.trans (hb2.mono HB1.out.size)
  go_wp2_with fail
  go_ret
  exact ⟨rfl, hw⟩
 by_cases hb : (b.length : Int) ≤ 300
 rotate_left
 ·have ht : decide ((a.length : Int) ≤ 300) = true := decide_eq_true ha
  have hf : decide ((b.length : Int) ≤ 300) = false := decide_eq_false hb
  go_enter Try.func3, Try.ntmps3
  go_wp2_with fail
  refine (Qfe H0.out).mono ?_
  rw [ht]
  rintro e w1 ⟨rfl, hb1⟩
  have HB1 := Hh hb1
  clear hb1 ha ht
  go_wp2_with fail
  refine (Qfe (H1.out.later HB1.out)).mono ?_
  rw [hf]
  rintro e w2 ⟨rfl, hb2⟩
  have HB2 := Hh (HB1.out.trans (hb2.mono HB1.out.size))
  clear hb2 hb hf
  go_wp2_with fail
  refine (awake_w _).mono ?_
  rintro e w3 ⟨rfl, hb3⟩
  have hw := HB2.out.trans (hb3.mono HB2.out.size)
  go_wp2_with fail
  go_ret
  exact ⟨rfl, hw⟩
 have ht : decide ((a.length : Int) ≤ 300) = true := decide_eq_true ha
 have ht2 : decide ((b.length : Int) ≤ 300) = true := decide_eq_true hb
 have HA : Hid (a.length ≤ 100000) := by show _ ≤ _; omega
 go_enter Try.func3, Try.ntmps3
 go_wp2_with fail
 refine (Qfe H0.out).mono ?_
 rw [ht]
 rintro e w1 ⟨rfl, hb1⟩
 have HB1 := Hh hb1
 clear hb1 ha ht
 go_wp2_with fail
 refine (Qfe (H1.out.later HB1.out)).mono ?_
 rw [ht2]
 rintro e w2 ⟨rfl, hb2⟩
 have HB2 := Hh (HB1.out.trans (hb2.mono HB1.out.size))
 clear hb2 hb ht2
 go_wp2_with fail
 refine (ssame_w (H0.out.later HB2.out) (H1.out.later HB2.out)).mono ?_
 obtain ⟨q, hq⟩ : ∃ q, q = Qch a b := ⟨_, rfl⟩
 rw [← hq]
 have HQ := Hh hq
 clear hq
 rintro e w3 ⟨rfl, hb3⟩
 have HB3 := Hh (HB2.out.trans (hb3.mono HB2.out.size))
 clear hb3
 go_wp2_with fail
 refine (rsame_w (H0.out.later HB3.out) (H1.out.later HB3.out)).mono ?_
 rw [← HQ.out]
 rintro e w4 ⟨rfl, hb4⟩
 have HB4 := Hh (HB3.out.trans (hb4.mono HB3.out.size))
 have hqq : (q != q) = false := by simp
 clear hb4 HQ
 go_wp2_with fail
 refine (ssame_w (H0.out.later HB4.out) (H0.out.later HB4.out)).mono ?_
 rw [sameS_refl]
 rintro e w5 ⟨rfl, hb5⟩
 have HB5 := Hh (HB4.out.trans (hb5.mono HB4.out.size))
 clear hb5
 go_wp2_with fail
 refine (scopy_w a HO.out HA.out v0 w5 (H0.out.later HB5.out)).mono ?_
 rintro e w6 ⟨u1, css1, rfl, hc1, hb6⟩
 have HB6 := Hh hb6
 have HC1 := Hh hc1
 clear hb6 hc1
 go_wp2_with fail
 refine (scopy_w (a.map Qbj) (copyE_ok HO.out) (by rw [List.length_map]; exact HA.out) u1 w6 (HC1.out.rep.sub fun _ _ _ => trivial)).mono ?_
 rintro e w7 ⟨u2, css2, rfl, hc2, hb7⟩
 have HB7 := Hh hb7
 have HC2 := Hh hc2
 have hm : w6.heap.size ≤ w7.heap.size := hb7.size
 have hl : w.heap.size ≤ w5.heap.size := HB5.out.size
 have hbw : Below w.heap.size w w7 := (HB5.out.trans (HB6.out.mono hl)).trans (hb7.mono (Nat.le_trans hl HB6.out.size))
 have HS0 := Hh (SI.start (lo := w5.heap.size) (mid := w6.heap.size) (hi := w7.heap.size) hbw (Nat.le_refl _))
 have HC := Hh (HC1.out.move (S' := fun b => w5.heap.size ≤ b ∧ b < w6.heap.size) (w' := w7) fun b hb => ⟨hb, hb7.block b hb.2⟩)
 have HM := Hh hm
 have HL := Hh hl
 obtain ⟨au, cu, rfl⟩ : ∃ x c, u1 = .slice x a.length c := by
  obtain ⟨x, c, e⟩ := HC1.out.shape
  exact ⟨x, c, by rw [e, List.length_map]⟩
 have hl63 : a.length ≤ 9223372036854775807 := by have := HA.out; omega
 clear hb7 hc2 hm hl hbw
 go_wp2_with fail
 go_loopw [7] (fun i wr => ∃ k : Nat, k ≤ a.length ∧ i = .int .i64 k ∧ SI w w7 w5.heap.size w6.heap.size w7.heap.size wr) (fun i _ => a.length - (intOf i).toNat)
 case atStart => exact ⟨0, Nat.zero_le _, rfl, HS0.out⟩
 case round =>
  obtain ⟨k, hk, rfl, hS⟩ := hrel
  by_cases hlt : k < a.length
  ·obtain ⟨g, cap, k1, m1, a1, n1, c1, k2, m2, a2, n2, c2, a3, n3, c3, N1, N2, he, hn3, hat, hi3⟩ := SI.at_ (w := w) (hi := w7.heap.size) HC.out k (by rw [List.length_map]; exact hlt)
   rw [List.length_map] at he
   simp only [Value.slice.injEq, true_and] at he
   obtain ⟨rfl, rfl⟩ := he
   obtain ⟨⟨x2, x3, x4⟩, -, -, s1, -⟩ := hat _ hS
   have HAT := Hh hat
   have HI3 := Hh hi3
   have HS := Hh hS
   have HN3 := Hh hn3
   have HLT := Hh hlt
   have S1 := Hh s1
   clear hat hi3 hS hn3 s1
   go_wp2_with fail
   have hsz := HS.out.size
   refine (spoil_any (SB w7 w5.heap.size w6.heap.size) w5.heap.size (fun b h => h.1) N1 _ _ S1.out (fun b h => by have := h.2.1; have := HM.out; omega) (by have := HB6.out.size; have := HM.out; omega)).mono ?_
   rintro e w8 ⟨rfl, hb8, hF8, hK8⟩
   have hS8 := HS.out.spoil HM.out HL.out hb8 hF8 hK8
   obtain ⟨-, ⟨x5, x6, x7⟩, -, -, s2⟩ := HAT.out _ hS8
   have HS8 := Hh hS8
   have S2 := Hh s2
   clear hS8 s2 hb8 hF8 hK8 hsz x2 x3 x4
   go_wp2_with fail
   have hsz := HS8.out.size
   refine (spoil_any (SB w7 w5.heap.size w6.heap.size) w5.heap.size (fun b h => h.1) N2 _ _ S2.out (fun b h => by have := h.2.1; have := HM.out; omega) (by have := HB6.out.size; have := HM.out; omega)).mono ?_
   rintro e w9 ⟨rfl, hb9, hF9, hK9⟩
   have HS9 := Hh (HS8.out.spoil HM.out HL.out hb9 hF9 hK9)
   clear hb9 hF9 hK9 hsz x5 x6 x7 S2 HS8 S1 HS
   go_wp2_with fail
   go_loopw [8] (fun j wr => ∃ m : Nat, m ≤ n3 ∧ j = .int .i64 m ∧ SI w w7 w5.heap.size w6.heap.size w7.heap.size wr) (fun j _ => n3 - (intOf j).toNat)
   case atStart => exact ⟨0, Nat.zero_le _, rfl, HS9.out⟩
   case round =>
    obtain ⟨m, hm, rfl, hS⟩ := hrel
    obtain ⟨-, -, x13, -, -⟩ := HAT.out _ hS
    have hn63 : n3 ≤ 9223372036854775807 := by have := HN3.out; unfold maxLen at this; omega
    by_cases hlm : m < n3
    ·obtain ⟨g3, cur, rfl, q1, q2, q3, q4⟩ := HI3.out (by omega)
     obtain ⟨cur', r1, r2⟩ := hS.ints g3 cur q1 q2 q3
     have cc : ∃ x, wr.cell? ⟨g3, m, none⟩ = some x := by
      have e : cur' = cur'.toList.toArray := rfl
      rw [e] at r1
      exact ⟨cur'[m], by rw [cell_of_row wr g3 _ _ 3 (0, 0) r1]; simp [show m < cur'.size by omega]⟩
     obtain ⟨xx, c0⟩ := cc
     have f0 : wr.frozen? ⟨g3, m, none⟩ = false := by unfold World.frozen?; rw [r1]; simp
     have HSZ := Hh (hS.int (o := m) (u := .int .i64 (-7)) HM.out HL.out q1 q2 q3)
     have HLM := Hh hlm
     have b0 : (0 : Int) ≤ m := by omega
     clear r1 r2 q1 q2 q3 q4 hS
     go_wp2_with fail
     go_roundw
     case rel => exact ⟨m + 1, HLM.out, by simp, HSZ.out⟩
     case measure => have := HLM.out; simp [intOf]; omega
    ·obtain rfl : m = n3 := by omega
     have HSE := Hh hS
     clear hS
     go_wp2_with fail
     go_roundw
     case rel => exact ⟨k + 1, HLT.out, by simp, HSE.out⟩
     case measure => have := HLT.out; simp [intOf]; omega
  ·obtain rfl : k = a.length := by omega
   have HS := Hh hS
   clear hS
   go_wp2_with fail
   refine (rsame_w (a := (a.map Qbj).map Qbj) (b := a) ((HC2.out.move (S' := fun _ => True) fun b hb => ⟨trivial, HS.out.new b hb.1 hb.2⟩).rep) (H0.out.later HS.out.old)).mono ?_
   have hcc : (a.map Qbj).map Qbj = a.map Qbj := by rw [List.map_map]; exact List.map_congr_left fun x _ => copyE_twice x
   rw [hcc, sameS_copy]
   rintro e w10 ⟨rfl, hb10⟩
   have HE := Hh (HS.out.old.trans (hb10.mono HS.out.old.size))
   clear hb10 hcc
   go_wp2_with fail
   refine (awake_w _).mono ?_
   rintro e w11 ⟨rfl, hb11⟩
   have hw := HE.out.trans (hb11.mono HE.out.size)
   go_wp2_with fail
   go_ret
   exact ⟨rfl, hw⟩
end Go.Proofs.Ytpaifjlikgnlfaa
