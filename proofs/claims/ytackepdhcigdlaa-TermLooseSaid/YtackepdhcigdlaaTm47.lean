import Derived.Test.YtackepdhcigdlaaTm46
namespace Go.Proofs.Ytackepdhcigdlaa
open Go.RowKit
set_option maxRecDepth 100000 in
set_option maxHeartbeats 2000000 in
theorem rtele_any (t : Tm) (la : List Tm) (b : Tm) (cs : List Value) (w : World) (hg : goodB t = true) (hpi : t = piT la b) (hb3 : b.kind ≠ 3) (hla : la.length ≤ 200) (ht : TmC w t cs) :
    Calls Try.prog 79 #[.agg cs.toArray] w fun e w' => ∃ (al : Option Addr) (cl : Nat), e = .returned (.slice al la.length cl) ∧ TmS w' (.slice al la.length cl) la ∧ Below w.heap.size w w' := by
  obtain ⟨i0, hi, hz0, hz1, hz2⟩ := info_parts info24
  have ht0 := ht
  obtain ⟨a, cap, rfl, hsub, hlen⟩ := tm_open ht
  have BX0 : Hid (Box3 ((w.alloc (.cells #[.int .i64 t.kind, .int .i64 t.num, .slice a t.sub.length cap] 24)).alloc (.cells #[] 24)) w.heap.size (.int .i64 t.kind) (.int .i64 t.num) (.slice a t.sub.length cap)) :=
    (Box3.new w _ _ _).later ((Below.refl _ _).alloc (Nat.le_refl _) _) (by simp)
  have hd : Hid (Below w.heap.size w ((w.alloc (.cells #[.int .i64 t.kind, .int .i64 t.num, .slice a t.sub.length cap] 24)).alloc (.cells #[] 24))) := ((Below.refl _ _).alloc (Nat.le_refl _) _).alloc (by simp) _
  have OW := World.ownsRow_made (base := w.heap.size + 1) (e := 24) (size := 3) (w.alloc (.cells #[.int .i64 t.kind, .int .i64 t.num, .slice a t.sub.length cap] 24)) #[] 0 (by simp) (Nat.zero_le _) rfl
  simp at OW
  have HOW := Lib.hid OW
  have HT := Lib.hid ht0
  have HPI := Lib.hid hpi
  have HG := Lib.hid hg
  clear ht0 hpi hg ht hsub OW
  go_enter Try.func79, Try.ntmps79
  go_wp2_with fail
  go_loopg [3] la.length (fun g v wr => ∃ (x : Tm) (rest dn : List Tm) (css : List (List Value)) (k n : Int) (a : Option Addr) (len cap : Nat) (av : Option Addr) (cv : Nat), v = .slice av dn.length cv ∧ g = rest.length ∧ Hid (dn ++ rest = la) ∧ dn.length ≤ 200 ∧ Hid (x = piT rest b) ∧ Hid (goodB x = true) ∧ Hid (TmC w x [.int .i64 k, .int .i64 n, .slice a len cap]) ∧ Hid (TmCs w dn css) ∧
      Hid (wr.ownsRow (w.heap.size + 1) 24 3 (.slice av dn.length cv) dn.length css.flatten) ∧ Box3 wr w.heap.size (.int .i64 k) (.int .i64 n) (.slice a len cap) ∧ Hid (Below w.heap.size w wr) ∧ w.heap.size + 1 ≤ wr.heap.size)
  case atStart =>
    refine ⟨t, la, [], [], _, _, _, _, _, _, 0, rfl, rfl, rfl, by simp, HPI.out, HG.out, HT.out, ?_, HOW.out, BX0.out, hd.out, by simp⟩
    show TmCs w [] []
    simp only [TmCs]
  case round =>
    obtain ⟨x, rest, dn, css, k, n, a1, len, cap1, av, cv, rfl, hgk, HD, hdl, HX0, HGX, HX, HXS, hown, BX, hbel, hlo⟩ := hrel
    obtain ⟨c0, c1, c2⟩ := BX.cells
    obtain ⟨ax, capx, hex, hsubx, hlx⟩ := tm_open HX.out
    simp only [List.cons.injEq, Value.int.injEq, true_and, and_true, Value.slice.injEq] at hex
    obtain ⟨rfl, rfl, rfl, rfl, rfl⟩ := hex
    cases rest with
    | nil =>
      obtain rfl : x = b := HX0.out
      have hd3 : (x.kind == 3) = false := by rw [beq_eq_false_iff_ne]; exact hb3
      have hdn : Hid (dn = la) := by have h := HD.out; rw [List.append_nil] at h; exact h
      have hS := SlN.own hown.out HXS.out.length (fun c hc => (tmcs_cs3 HXS.out c hc).three)
      have RES : Hid (∃ (al : Option Addr) (cl : Nat), Value.slice av dn.length cv = .slice al la.length cl ∧ TmS wr (.slice al la.length cl) la) := by
        refine ⟨av, cv, by rw [hdn.out], css, ?_, ?_⟩
        · rw [← hdn.out]; exact hS
        · rw [← hdn.out]; exact HXS.out.later hbel.out
      clear hS
      go_wp2_with fail
      go_ret
      obtain ⟨al, cl, h1, h2⟩ := RES.out
      exact ⟨al, cl, by rw [← h1]; rfl, h2, hbel.out⟩
    | cons a0 la1 =>
      obtain rfl : x = .mk 3 0 [a0, piT la1 b] := HX0.out
      obtain ⟨-, hgs⟩ := good_parts HGX.out
      have HGY := Lib.hid (hgs (piT la1 b) (by simp))
      clear hgs
      simp only [Tm.kind, Tm.num, Tm.sub, List.length_cons, List.length_nil, Nat.zero_add, Nat.reduceAdd] at c0 c1 c2 HX BX hsubx hlx hgk
      obtain ⟨bb, off, a', cap', rfl, e0, e1, e2, hty⟩ := sub_at (ts := [a0, piT la1 b]) hsubx (Below.refl _ _) 0 (by simp)
      obtain ⟨bb', off', a'', cap'', hbb, j0, j1, j2, htb⟩ := sub_at (ts := [a0, piT la1 b]) hsubx (Below.refl _ _) 1 (by simp)
      simp only [Option.some.injEq, Addr.mk.injEq, and_true] at hbb
      obtain ⟨rfl, rfl⟩ := hbb
      have hbl : bb < w.heap.size := World.block_lt_of_cell? w _ e0
      simp only [List.getElem_cons_zero, List.getElem_cons_succ] at hty htb e0 e1 e2 j0 j1 j2
      have mvc : Hid (∀ wz, Below w.heap.size w wz → wz.cell? ⟨bb, off, none⟩ = some (.int .i64 a0.kind) ∧ wz.cell? ⟨bb, off + 1, none⟩ = some (.int .i64 a0.num) ∧ wz.cell? ⟨bb, off + 2, none⟩ = some (.slice a' a0.sub.length cap') ∧ wz.cell? ⟨bb, off + 3, none⟩ = some (.int .i64 (piT la1 b).kind) ∧ wz.cell? ⟨bb, off + 3 + 1, none⟩ = some (.int .i64 (piT la1 b).num) ∧ wz.cell? ⟨bb, off + 3 + 2, none⟩ = some (.slice a'' (piT la1 b).sub.length cap'')) := by
        intro wz hz
        simp only [Nat.zero_mul, Nat.one_mul, Nat.add_zero] at e0 e1 e2 j0 j1 j2
        exact ⟨(hz.cell hbl).trans e0, (hz.cell hbl).trans e1, (hz.cell hbl).trans e2, (hz.cell hbl).trans j0, (hz.cell hbl).trans j1, (hz.cell hbl).trans j2⟩
      clear e0 e1 e2 j0 j1 j2
      obtain ⟨e0, e1, e2, -, -, -⟩ := mvc.out wr hbel.out
      have HTY := Lib.hid hty
      have HTB := Lib.hid htb
      have hdl2 : dn.length + 1 ≤ 200 := by
        have h := congrArg List.length HD.out
        simp at h
        omega
      clear hty htb hsubx HX
      have hsl : Hid (SlN (wr.alloc (.cells #[.int .i64 a0.kind, .int .i64 a0.num, .slice a' a0.sub.length cap'] 24)) 3 (.slice (some ⟨wr.heap.size, 0, none⟩) 1 1) [[.int .i64 a0.kind, .int .i64 a0.num, .slice a' a0.sub.length cap']]) :=
        SlN.own (own_litN (w := wr) (xs := [.int .i64 a0.kind, .int .i64 a0.num, .slice a' a0.sub.length cap']) (n := 1) (size := 3) 24 rfl (by decide)) rfl (by intro c hc; simp at hc; subst hc; rfl)
      have BXA := Lib.hid BX
      clear BX
      go_wp2_with (at_builtin; refine wpList_app_sl rfl _ _ 22 rfl (w.heap.size + 1) 24 i0 (.agg #[.int .i64 0, .int .i64 0, .slice none 0 0]) 3 40 Try.underlying22 hi hz0 hz1 hz2 rfl (by decide) _ _ _ (hown.out.alloc _) _ _ hsl.out rfl rfl (by intro c hc u hu; simp at hc; subst hc; simp at hu; rcases hu with rfl | rfl | rfl <;> rfl) (by intro c hc; simp at hc; subst hc; rfl) (by unfold maxLen; simp; omega) (by simp; omega) (by simp; omega) ?_)
      intro v2 w2 hown2 hb2 hg2
      obtain ⟨g2, cap2, rfl⟩ := own_sh3 hown2 (by omega)
      have hbe2 : Below w.heap.size w w2 := (hbel.out.alloc (by omega) _).trans (hb2.mono (by omega))
      have hs2 := hb2.size
      have BX2 := (BXA.out.later ((Below.refl _ _).alloc (Nat.le_refl _) (.cells #[.int .i64 a0.kind, .int .i64 a0.num, .slice a' a0.sub.length cap'] 24)) (by omega)).later hb2 (by omega)
      obtain ⟨-, -, -, j0, j1, j2⟩ := mvc.out w2 hbe2
      obtain ⟨d0, d1, d2⟩ := BX2.cells
      have g0 := BX2.free 0
      have g1 := BX2.free 1
      have g2f := BX2.free 2
      have HBX2 := Lib.hid BX2
      have HO2 := Lib.hid hown2
      have HBE2 := Lib.hid hbe2
      simp at hs2
      clear BX2 hown2 hbe2 hb2 hg2 c0 c1 c2 e0 e1 e2 hown BXA hsl
      go_wp2_with fail
      go_roundg la1.length
      case measure => omega
      case rel =>
        refine ⟨piT la1 b, la1, dn ++ [a0], css ++ [[Value.int .i64 a0.kind, Value.int .i64 a0.num, Value.slice a' a0.sub.length cap']], (piT la1 b).kind, (piT la1 b).num, a'', (piT la1 b).sub.length, cap'', some ⟨g2, 0, none⟩, cap2, by simp, rfl, ?_, by simp; omega, rfl, HGY.out, HTB.out, Lib.hid (TmCs.snoc HTY.out HXS.out), ?_, HBX2.out.set _ _ _, set3_below HBE2.out (Nat.le_refl _) _ _ _, by simp; omega⟩
        · show _ = _
          rw [← HD.out]; simp
        · have h := own_move (w' := ((w2.setCell ⟨w.heap.size, 0, none⟩ (.int .i64 (piT la1 b).kind)).setCell ⟨w.heap.size, 1, none⟩ (.int .i64 (piT la1 b).num)).setCell ⟨w.heap.size, 2, none⟩ (.slice a'' (piT la1 b).sub.length cap'')) HO2.out (fun b hb => set3_heap _ _ _ _ _ _ (by omega))
          show World.ownsRow _ _ _ _ _ _ _
          rw [List.length_append, List.flatten_append]
          simpa using h
def appL (p binders : Int) : List Tm → Nat → Bool
  | [], _ => true
  | a :: l, k => !(decide ((k : Int) < p) && (a.kind != 1 || a.num != binders - 1 - k)) && appL p binders l (k + 1)
/-- a family with its first variables, and so many arguments more -/
def appV (h : Tm) (m : List Tm) (d p i binders : Int) : Bool := h.kind == 6 && h.num == d && ((m.length : Int) == p + i) && appL p binders m 0
end Go.Proofs.Ytackepdhcigdlaa
