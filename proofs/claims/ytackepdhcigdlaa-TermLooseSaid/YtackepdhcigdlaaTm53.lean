import Derived.Test.YtackepdhcigdlaaTm52
namespace Go.Proofs.Ytackepdhcigdlaa
open Go.RowKit
def ptN (v : Int) : Int := if -2 < v then v else -1
def ptE (v : Int) : Int := if -2 < v then 9 else 0
set_option maxRecDepth 100000 in
set_option maxHeartbeats 2000000 in
theorem ptype_ok (t : Tm) (cs : List Value) (d p i first : Int) (w : World) (hs : shapedB t = true) (hp0 : 0 ≤ p) (hp1 : p ≤ 24) (hi0 : 0 ≤ i) (hi1 : i ≤ 24) (hf0 : p - 1 ≤ first) (hf1 : first ≤ 1048576) (hd0 : 0 ≤ d) (ht : TmC w t cs) :
    Calls Try.prog 64 #[.agg cs.toArray, .int .i64 d, .int .i64 p, .int .i64 i, .int .i64 first] w fun e w' => e = .returned (.tuple #[.int .i64 (ptN (chkW t d p i first)), .int .i64 (ptE (chkW t d p i first))]) ∧ Below w.heap.size w w' := by
  have ht0 := ht
  obtain ⟨a, cap, rfl, hsub, hlen⟩ := tm_open ht
  have hA : Below w.heap.size w (w.alloc (.cells #[.int .i64 t.kind, .int .i64 t.num, .slice a t.sub.length cap] 24)) := (Below.refl _ _).alloc (Nat.le_refl _) _
  have BX0 := Lib.hid (Box3.new w (.int .i64 t.kind) (.int .i64 t.num) (.slice a t.sub.length cap))
  have SH := shaped_any t _ _ (ht0.later hA)
  rw [hs] at SH
  have CH : Hid (∀ wz, Below w.heap.size w wz → Calls Try.prog 68 #[.agg #[.int .i64 t.kind, .int .i64 t.num, .slice a t.sub.length cap], .int .i64 d, .int .i64 p, .int .i64 i, .int .i64 first] wz fun e w' => e = .returned (.int .i64 (chkW t d p i first)) ∧ Below wz.heap.size wz w') := fun wz hz => check2_any t _ d p i first wz hs hp0 hp1 hi0 hi1 (by omega) (by omega) (ht0.later hz)
  have HSH := Lib.hid SH
  have HA := Lib.hid hA
  have FB : Hid ([p, i].all fitB = true) := by
    show _ = _
    simp only [List.all_cons, List.all_nil, fitB, Bool.and_true]
    rw [decide_eq_true ⟨hp0, hp1⟩, decide_eq_true ⟨hi0, hi1⟩]; rfl
  clear SH hA ht ht0 hsub hs
  go_enter Try.func64, Try.ntmps64
  go_wp2_with fail
  refine HSH.out.mono ?_
  rintro e w1 ⟨rfl, hb1⟩
  have BX1 := BX0.out.later hb1 BX0.out.lt
  have HW1 := Lib.hid (HA.out.trans (hb1.mono HA.out.size))
  have hown : (w1.alloc (.cells #[.int .i64 p, .int .i64 i] 3)).ownsRow w1.heap.size 3 1 (.slice (some ⟨w1.heap.size, 0, none⟩) 2 2) 2 ([p, i].map (Value.int .i64)) :=
    own_lit 3 rfl (by decide) (Below.refl _ _)
  have FT := fits_any [p, i] _ _ (Slc.own hown)
  rw [FB.out] at FT
  have HFT := Lib.hid FT
  have hA1 : Below w1.heap.size w1 (w1.alloc (.cells #[.int .i64 p, .int .i64 i] 3)) := (Below.refl _ _).alloc (Nat.le_refl _) _
  have HW2 := Lib.hid (HW1.out.trans (hA1.mono HW1.out.size))
  have BX2 := BX1.later hA1 BX1.lt
  obtain ⟨c0, c1, c2⟩ := BX2.cells
  have CH2 := Lib.hid (CH.out _ HW2.out)
  clear hown FT hA1 BX1 BX2 hb1 HW1 CH BX0
  generalize hve : chkW t d p i first = v at *
  have HVE := Lib.hid hve
  clear hve
  by_cases hv : -2 < v
  · have F1 : Hid (v = ptN (chkW t d p i first)) := by show _ = _; rw [HVE.out]; unfold ptN; rw [if_pos hv]
    have F2 : Hid (9 = ptE (chkW t d p i first)) := by show _ = _; rw [HVE.out]; unfold ptE; rw [if_pos hv]
    go_wp2_with (first | (go_at_call 67; refine HFT.out.mono ?_; rintro e w2 ⟨rfl, rfl⟩) | (go_at_call 68; refine CH2.out.mono ?_; rintro e w3 ⟨rfl, hb3⟩; have hwf := Lib.hid (HW2.out.trans (hb3.mono HW2.out.size)); clear hb3))
    go_ret2
    exact ⟨ret_int2 F1.out F2.out, hwf.out⟩
  · have F1 : Hid (-1 = ptN (chkW t d p i first)) := by show _ = _; rw [HVE.out]; unfold ptN; rw [if_neg hv]
    have F2 : Hid (0 = ptE (chkW t d p i first)) := by show _ = _; rw [HVE.out]; unfold ptE; rw [if_neg hv]
    have hv' : v ≤ -2 := by omega
    clear hv
    go_wp2_with (first | (go_at_call 67; refine HFT.out.mono ?_; rintro e w2 ⟨rfl, rfl⟩) | (go_at_call 68; refine CH2.out.mono ?_; rintro e w3 ⟨rfl, hb3⟩; have hwf := Lib.hid (HW2.out.trans (hb3.mono HW2.out.size)); clear hb3))
    go_ret2
    exact ⟨ret_int2 F1.out F2.out, hwf.out⟩
def aw1 : Tm := .mk 3 0 [.mk 6 3 [], .mk 6 0 []]
def aw2 : Tm := .mk 3 0 [.mk 6 0 [], .mk 6 3 []]
theorem aw12 : shapedB aw1 = true ∧ shapedB aw2 = true ∧ chkW aw1 3 0 0 0 = 0 ∧ chkW aw2 3 0 0 0 = -2 := by decide +kernel
set_option maxRecDepth 100000 in
set_option maxHeartbeats 1000000 in
theorem awake19_any (w : World) : Calls Try.prog 46 #[] w fun e w' => e = .returned (.bool true) ∧ Below w.heap.size w w' := by
  obtain ⟨s1, s2, v1, v2⟩ := aw12
  go_enter Try.func46, Try.ntmps46
  go_wp2_with fail
  refine (rC_any _ _).mono ?_
  rintro e w1 ⟨rfl, hb1⟩
  go_wp2_with fail
  refine (rC_any _ _).mono ?_
  rintro e w2 ⟨rfl, hb2⟩
  go_wp2_with fail
  refine (rP_any (.mk 6 3 []) (.mk 6 0 []) _ _ _ (leaf_tm 6 3 _) (leaf_tm 6 0 _)).mono ?_
  rintro e w3 ⟨a3, c3, rfl, ht3, hb3⟩
  go_wp2_with fail
  refine (ptype_ok aw1 _ 3 0 0 0 _ s1 (by omega) (by omega) (by omega) (by omega) (by omega) (by omega) (by omega) ht3).mono ?_
  rw [v1, show ptN 0 = 0 from rfl, show ptE 0 = 9 from rfl]
  rintro e w4 ⟨rfl, hb4⟩
  have hw4 := hb1.trans ((hb2.trans ((hb3.trans (hb4.mono hb3.size)).mono hb2.size)).mono hb1.size)
  clear ht3 hb1 hb2 hb3 hb4
  go_wp2_with fail
  refine (rC_any _ _).mono ?_
  rintro e w5 ⟨rfl, hb5⟩
  go_wp2_with fail
  refine (rC_any _ _).mono ?_
  rintro e w6 ⟨rfl, hb6⟩
  go_wp2_with fail
  refine (rP_any (.mk 6 0 []) (.mk 6 3 []) _ _ _ (leaf_tm 6 0 _) (leaf_tm 6 3 _)).mono ?_
  rintro e w7 ⟨a7, c7, rfl, ht7, hb7⟩
  go_wp2_with fail
  refine (ptype_ok aw2 _ 3 0 0 0 _ s2 (by omega) (by omega) (by omega) (by omega) (by omega) (by omega) (by omega) ht7).mono ?_
  rw [v2, show ptN (-2) = -1 from rfl, show ptE (-2) = 0 from rfl]
  rintro e w8 ⟨rfl, hb8⟩
  have hw8 := hw4.trans ((hb5.trans ((hb6.trans ((hb7.trans (hb8.mono hb7.size)).mono hb6.size)).mono hb5.size)).mono hw4.size)
  clear ht7 hb5 hb6 hb7 hb8 hw4
  go_wp2_with fail
  go_ret
  exact ⟨rfl, hw8⟩
end Go.Proofs.Ytackepdhcigdlaa
