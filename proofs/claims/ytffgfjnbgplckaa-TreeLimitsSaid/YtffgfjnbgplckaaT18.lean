import Derived.Test.YtffgfjnbgplckaaT9
import Derived.Test.YtffgfjnbgplckaaT1
namespace Go.Proofs.Ytffgfjnbgplckaa
open Go.RowKit
def chN : Nat → Nd | 0 => .mk 2 0 ⟨#[]⟩ 0 [] | m + 1 => .mk 5 0 ⟨#[]⟩ 0 [chN m, .mk 2 0 ⟨#[]⟩ 0 []]
def anyN : Nd := .mk 7 0 ⟨#[]⟩ 0 []
def wideN (n : Nat) : Nd := .mk 8 0 ⟨#[99]⟩ 0 (List.replicate n anyN)
theorem ch_vals : exprB (chN 126) = true ∧ depthT (chN 126) = 127 ∧ exprB (chN 127) = true ∧ depthT (chN 127) = 128 ∧ exprB (chN 128) = false ∧ depthT (chN 128) = 129 := by decide +kernel
theorem ndL_rep (n : Nat) : ndL (List.replicate n anyN) = n := by
  induction n with
  | zero => rfl
  | succ n ih => rw [List.replicate_succ]; simp only [ndL, ih]; have : ndT anyN = 1 := rfl; omega
theorem hgL_rep (n : Nat) : hgL (List.replicate n anyN) ≤ 1 := by
  induction n with
  | zero => simp [hgL]
  | succ n ih => rw [List.replicate_succ]; simp only [hgL]; have : hgT anyN = 1 := rfl; omega
theorem goodL_rep (n : Nat) : goodL (List.replicate n anyN) true = true := by
  induction n with
  | zero => rfl
  | succ n ih => rw [List.replicate_succ]; simp only [goodL, ih]; have : goodT anyN true = true := by decide +kernel
                 rw [this]; rfl
theorem wide_size (n : Nat) : sizeT (wideN n) = min (n + 1) 8193 := by
  unfold sizeT
  rw [sz_nd _ 0 (by omega) (by omega)]
  have : ndT (wideN n) = n + 1 := by unfold wideN; simp only [ndT, ndL_rep]
  rw [this]; omega
theorem wide_pat (n : Nat) (h : 1 ≤ n) : patB (wideN n) = decide (n + 1 ≤ 8192) := by
  have hg : goodT (wideN n) true = true := by
    have h1 : manyB 8 n = true := by unfold manyB; rw [if_pos rfl]; exact decide_eq_true (by omega)
    have h2 : namedB 8 ⟨#[99]⟩ = true := by decide +kernel
    have h3 := goodT_mk 8 0 0 ⟨#[99]⟩ (List.replicate n anyN) true
    rw [List.length_replicate, h1, h2] at h3
    have h4 : goodL (List.replicate n anyN) ((8 : Int) == 8) = true := goodL_rep n
    rw [h4] at h3
    exact h3.trans rfl
  have hs := wide_size n
  unfold patB
  rw [hg, Bool.and_true]
  unfold smallB depthT
  rw [hs]
  by_cases hb : n + 1 ≤ 8192
  · rw [if_neg (by omega), dp_hg _ 1 (by omega) (by omega)]
    have h5 : hgT (wideN n) ≤ 2 := by unfold wideN; simp only [hgT]; have := hgL_rep n; omega
    rw [decide_eq_true hb]; exact decide_eq_true (by omega)
  · rw [if_pos (by omega), decide_eq_false hb]; rfl
theorem wide_vals : patB (wideN 8190) = true ∧ sizeT (wideN 8190) = 8191 ∧ patB (wideN 8191) = true ∧ sizeT (wideN 8191) = 8192 ∧ patB (wideN 8192) = false ∧ sizeT (wideN 8192) = 8193 :=
  ⟨(wide_pat _ (by omega)).trans (decide_eq_true (by omega)), (wide_size _).trans (by omega), (wide_pat _ (by omega)).trans (decide_eq_true (by omega)), (wide_size _).trans (by omega), (wide_pat _ (by omega)).trans (decide_eq_false (by omega)), (wide_size _).trans (by omega)⟩
theorem rep_ch {S : Nat → Prop} {w : World} (m : Nat) {k : Int} {s : Value} (hk : k = (chN m).kind) (h : RepS S w s (chN m).sub) : Rep S w (chN m) [.int .i64 k, .int .i64 0, .string ⟨#[]⟩, .int .i64 0, s] := by
  subst hk
  cases m with
  | zero => exact rep_nd.2 ⟨s, rfl, by decide, h⟩
  | succ m => exact rep_nd.2 ⟨s, rfl, (show ByteArray.size ⟨#[]⟩ ≤ maxLen by decide), h⟩
set_option maxRecDepth 100000 in
set_option maxHeartbeats 8000000 in
theorem limits_walk (more : Int) (hm : (Lit.int .u8 more).wf = true) (w : World) :
    Calls Try.prog 5 #[.int .u8 more] w fun e w' => e = .returned (.bool true) ∧ Below w.heap.size w w' := by
  obtain ⟨i0, hi, hz0, hz1, hz2⟩ := info_parts infoN
  obtain ⟨r, hr2, hr⟩ : ∃ r : Nat, r ≤ 2 ∧ more.tmod 3 = r := by
    have h0 : 0 ≤ more := by simp [Lit.wf, IntKind.min, IntKind.max, IntKind.signed, IntKind.bits] at hm; omega
    refine ⟨(more.tmod 3).toNat, ?_, ?_⟩
    · rw [Int.tmod_eq_emod_of_nonneg h0]; omega
    · rw [Int.tmod_eq_emod_of_nonneg h0]; omega
  have CV := Lib.hid ch_vals
  have WV := Lib.hid wide_vals
  go_enter Try.func5, Try.ntmps5
  go_wp2_with fail
  go_loopw [5] (fun i wr => ∃ (m : Nat) (k : Int) (a : Option Addr) (n c : Nat), m ≤ 126 + r ∧ i = .int .i64 (m + 1) ∧ Hid (k = (chN m).kind) ∧ Box5 24 wr w.heap.size (.int .i64 k) (.int .i64 0) (.string ⟨#[]⟩) (.int .i64 0) (.slice a n c) ∧ RepS (fun b => w.heap.size < b) wr (.slice a n c) (chN m).sub ∧ Below w.heap.size w wr ∧ w.heap.size + 1 ≤ wr.heap.size) (fun i _ => 300 - (intOf i).toNat)
  case atStart => exact ⟨0, 2, none, 0, 0, by omega, rfl, rfl, (boxes1 w _ _).1, RepS.nil, (boxes1 w _ _).2.1, by simp⟩
  case round =>
    obtain ⟨m, k, a, n, c, hmr, rfl, HK, hbx, hrep, hbw, hsz⟩ := hrel
    by_cases hlt : m < 126 + r
    · have hd : decide ((m : Int) + 1 < 127 + r) = true := by simp; omega
      have HREP := Lib.hid hrep
      have E := boxes1 wr #[.int .i64 k, .int .i64 0, .string ⟨#[]⟩, .int .i64 0, .slice a n c, .int .i64 2, .int .i64 0, .string ⟨#[]⟩, .int .i64 0, .slice none 0 0] 24
      have hbx2 := hbx.later E.2.1 (by omega)
      obtain ⟨c0, c1, c2, c3, c4⟩ := hbx.cells
      obtain ⟨d0, d1, d2, d3, d4⟩ := hbx2.cells
      have f0 := hbx2.free 0
      have f1 := hbx2.free 1
      have f2 := hbx2.free 2
      have f3 := hbx2.free 3
      have f4 := hbx2.free 4
      have HE := Lib.hid E
      have HBX := Lib.hid hbx2
      have HBW := Lib.hid hbw
      have htwo := RepS.two (T := 24) (rep_ch m HK.out hrep) (rep_leaf (S := fun b => w.heap.size < b) (w := wr) 2 0 ⟨#[]⟩ 0 (by decide))
      have HTWO : Hid (RepS (fun b => w.heap.size < b) _ _ [chN m, .mk 2 0 ⟨#[]⟩ 0 []]) := htwo.sub (S' := fun b => w.heap.size < b) (fun b hb _ => by rcases hb with hb | hb <;> omega)
      clear E hbx hbx2 hrep hbw htwo
      go_wp2_with fail
      go_roundw
      case rel =>
        refine ⟨m + 1, 5, _, 2, 2, by omega, by go_num, rfl, HBX.out.set _ _ _ _ _, RepS.move (fun b hb _ => ⟨hb, set5_heap _ _ _ _ _ _ _ _ (by omega)⟩) HTWO.out, set5_below (HBW.out.alloc HBW.out.size _) (Nat.le_refl _) _ _ _ _ _, by simp; omega⟩
      case measure => simp [intOf]; omega
    · obtain rfl : m = 126 + r := by omega
      have hd : decide (((126 + r : Nat) : Int) + 1 < 127 + r) = false := by simp; omega
      have hN := Rep.toC _ _ (rep_ch _ HK.out hrep)
      have HN := Lib.hid hN
      have HBX := Lib.hid hbx
      have HBW := Lib.hid hbw
      obtain ⟨c0, c1, c2, c3, c4⟩ := hbx.cells
      have hE : exprB (chN (126 + r)) = decide ((127 : Int) + r ≤ 128) := by
        obtain rfl | rfl | rfl : r = 0 ∨ r = 1 ∨ r = 2 := by omega
        · exact CV.out.1
        · exact CV.out.2.2.1
        · exact CV.out.2.2.2.2.1
      have hD : depthT (chN (126 + r)) = 127 + r := by
        obtain rfl | rfl | rfl : r = 0 ∨ r = 1 ∨ r = 2 := by omega
        · exact CV.out.2.1
        · exact CV.out.2.2.2.1
        · exact CV.out.2.2.2.2.2
      have HE := Lib.hid hE
      have HD := Lib.hid hD
      clear hE hD hN hbx hbw hrep
      go_wp2_with fail
      refine (expr_any _ _ _ HN.out).mono ?_
      rintro e w2 ⟨rfl, hb2⟩
      rw [HE.out]
      obtain ⟨d0, d1, d2, d3, d4⟩ := (HBX.out.later hb2 (by omega)).cells
      have HB2 := Lib.hid hb2
      have HBW2 := Lib.hid (HBW.out.trans (hb2.mono HBW.out.size))
      clear hb2 c0 c1 c2 c3 c4
      go_wp2_with fail
      refine (depth_any _ _ _ (HN.out.later HB2.out)).mono ?_
      rintro e w3 ⟨rfl, hb3⟩
      rw [HD.out]
      have HBW3 := Lib.hid (HBW2.out.trans (hb3.mono HBW2.out.size))
      clear d0 d1 d2 d3 d4 hb3 HB2
      go_wp2_with fail
      go_loopw [7] (fun i wr => ∃ (n : Nat) (v : Value), n ≤ 8190 + r ∧ i = .int .i64 (n + 1) ∧ Own (fun _ => False) 24 (w3.heap.size + 1) v (List.replicate n anyN) wr ∧ Box5 24 wr w3.heap.size (.int .i64 8) (.int .i64 0) (.string ⟨#[99]⟩) (.int .i64 0) v ∧ Below w3.heap.size w3 wr ∧ w3.heap.size + 1 ≤ wr.heap.size) (fun i _ => 9000 - (intOf i).toNat)
      case atStart => exact ⟨0, .slice none 0 0, by omega, rfl, Own.nil, (boxes1 w3 _ _).1, (boxes1 w3 _ _).2.1, by simp⟩
      case round =>
        obtain ⟨n, v, hn, rfl, hown, hbx, hbw, hsz⟩ := hrel
        by_cases hlt : n < 8190 + r
        · have hd : decide ((n : Int) + 1 < 8191 + r) = true := by simp; omega
          have E := boxes1 wr #[.int .i64 7, .int .i64 0, .string ⟨#[]⟩, .int .i64 0, .slice none 0 0] 24
          have HO := Lib.hid (hown.later E.2.1)
          have hone : RepS (fun b => b = wr.heap.size) (wr.alloc (.cells #[.int .i64 7, .int .i64 0, .string ⟨#[]⟩, .int .i64 0, .slice none 0 0] 24)) (.slice (some ⟨wr.heap.size, 0, none⟩) 1 1) [anyN] :=
            (RepS.one (T := 24) (rep_leaf (S := fun _ => False) (w := wr) 7 0 ⟨#[]⟩ 0 (by decide))).sub fun b hb _ => hb.elim False.elim id
          have hS : ∀ d ∈ [anyN], ∀ cs, Rep (fun b => b = wr.heap.size) (wr.alloc (.cells #[.int .i64 7, .int .i64 0, .string ⟨#[]⟩, .int .i64 0, .slice none 0 0] 24)) d cs → Rep (fun b => False ∧ v.ownBlock ≠ some b) (wr.alloc (.cells #[.int .i64 7, .int .i64 0, .string ⟨#[]⟩, .int .i64 0, .slice none 0 0] 24)) d cs := by
            intro d hd cs h
            simp at hd; subst hd
            obtain ⟨u, rfl, h1, h2⟩ := rep_nd.1 h
            obtain ⟨a, cp, rfl, h3, h4⟩ := h2.shape
            exact rep_nd.2 ⟨_, rfl, h1, RepS.mk (css := []) ⟨a, cp, rfl, h3, h4, fun h => absurd rfl h⟩ (by simp only [anyN, Nd.sub, List.map_nil, RepL])⟩
          have hbx2 := hbx.later E.2.1 (by omega)
          obtain ⟨c0, c1, c2, c3, c4⟩ := hbx.cells
          obtain ⟨d0, d1, d2, d3, d4⟩ := hbx2.cells
          have HONE := Lib.hid hone
          have HS := Lib.hid hS
          have HBX := Lib.hid hbx2
          have HBW := Lib.hid (hbw.trans (E.2.1.mono hbw.size))
          have HZ := Lib.hid (show w3.heap.size + 1 ≤ (wr.alloc (.cells #[.int .i64 7, .int .i64 0, .string ⟨#[]⟩, .int .i64 0, .slice none 0 0] 24)).heap.size by simp; omega)
          have HL : Hid ((List.replicate n anyN).length + 1 ≤ 9000) := by show _ ≤ _; rw [List.length_replicate]; omega
          clear E hown hone hS hbx hbx2 hbw
          go_wp2_with (at_builtin; refine wpList_push rfl _ _ 22 rfl 24 i0 (.agg #[.int .i64 0, .int .i64 0, .string ByteArray.empty, .int .i64 0, .slice none 0 0]) 64 Try.underlying22 hi hz0 hz1 hz2 rfl (by decide) HO.out _ [anyN] HONE.out (by rfl) (by rfl) HS.out (by have := HL.out; unfold maxLen; simp at this ⊢; omega) (by have := HL.out; simp at this ⊢; omega) HZ.out ?_; intro v2 w4 hown2 hb2 hg2 hap2; obtain ⟨g2, cp2, rfl, -⟩ := hown2.some (by simp); have q3 := Lib.hid (HBX.out.later hb2 (by omega)); obtain ⟨y0, y1, y2, y3, y4⟩ := q3.out.cells; have y5 := q3.out.free 4; replace hown2 := Lib.hid hown2; replace hb2 := Lib.hid hb2; clear hg2 hap2)
          have hrepl : List.replicate n anyN ++ [anyN] = List.replicate (n + 1) anyN := (List.replicate_succ').symm
          have hO := hown2.out
          rw [hrepl] at hO
          go_roundw
          case rel =>
            refine ⟨n + 1, _, by omega, by go_num, hO.move fun b hb _ => Below.heap_setCell _ _ _ _ (by show b ≠ w3.heap.size; rcases hb with hb | hb; exact hb.elim; omega), by rw [List.length_replicate]; exact q3.out.set4 _, (HBW.out.trans (hb2.out.mono (by omega))).setCell (Nat.le_refl _) _, by have h1 := hb2.out.size; have h2 := HZ.out; rw [World.setCell]; simp; omega⟩
          case measure => simp [intOf]; omega
        · obtain rfl : n = 8190 + r := by omega
          have hd : decide (((8190 + r : Nat) : Int) + 1 < 8191 + r) = false := by simp; omega
          obtain ⟨av, cv, rfl⟩ := hown.shape
          rw [List.length_replicate] at hown hbx
          have hW : NdC wr (wideN (8190 + r)) [.int .i64 8, .int .i64 0, .string ⟨#[99]⟩, .int .i64 0, .slice av (8190 + r) cv] := Rep.toC _ _ ((rep_nd (t := wideN (8190 + r))).2 ⟨_, rfl, (show ByteArray.size ⟨#[99]⟩ ≤ maxLen by decide), hown.done⟩)
          have hP : patB (wideN (8190 + r)) = decide ((8191 : Int) + r ≤ 8192) := by
            obtain rfl | rfl | rfl : r = 0 ∨ r = 1 ∨ r = 2 := by omega
            · exact WV.out.1
            · exact WV.out.2.2.1
            · exact WV.out.2.2.2.2.1
          have hS : sizeT (wideN (8190 + r)) = 8191 + r := by
            obtain rfl | rfl | rfl : r = 0 ∨ r = 1 ∨ r = 2 := by omega
            · exact WV.out.2.1
            · exact WV.out.2.2.2.1
            · exact WV.out.2.2.2.2.2
          have HP := Lib.hid hP
          have HS := Lib.hid hS
          have HW := Lib.hid hW
          have HBX := Lib.hid hbx
          have HBWr := Lib.hid (HBW3.out.trans (hbw.mono HBW3.out.size))
          obtain ⟨c0, c1, c2, c3, c4⟩ := hbx.cells
          clear hP hS hW hbx hbw hown
          go_wp2_with fail
          refine (pattern_any _ _ _ HW.out).mono ?_
          rintro e w5 ⟨rfl, hb5⟩
          rw [HP.out]
          obtain ⟨d0, d1, d2, d3, d4⟩ := (HBX.out.later hb5 (by omega)).cells
          have HB5 := Lib.hid hb5
          have HBW5 := Lib.hid (HBWr.out.trans (hb5.mono HBWr.out.size))
          clear hb5 c0 c1 c2 c3 c4
          go_wp2_with fail
          refine (size0_any _ _ _ (HW.out.later HB5.out)).mono ?_
          rintro e w6 ⟨rfl, hb6⟩
          rw [HS.out]
          have HBW6 := Lib.hid (HBW5.out.trans (hb6.mono HBW5.out.size))
          clear d0 d1 d2 d3 d4 hb6 HB5
          go_wp2_with fail
          refine (awake_any _).mono ?_
          rintro e w7 ⟨rfl, hb7⟩
          have HBW7 := Lib.hid (HBW6.out.trans (hb7.mono HBW6.out.size))
          go_wp2_with fail
          go_ret
          exact ⟨rfl, HBW7.out⟩
end Go.Proofs.Ytffgfjnbgplckaa
