import Derived.Test.YtffgfjnbgplckaaBD
import Derived.Test.YtffgfjnbgplckaaBNd
namespace Go.Proofs.Ytffgfjnbgplckaa
open Go.RowKit
theorem infoR : (Try.prog.info? 27).map (fun i => (i.zero, i.size, i.bytes)) = some (some (.agg #[.int .i64 0, .int .i64 0, .string ByteArray.empty, .int .i64 0, .slice none 0 0]), 5, 64) := by kernel_rfl
theorem budL_count : ∀ (ls : List Nd) (l : Int), ((budL ls l).1.length : Int) ≤ max 0 (l + 9000)
  | [], l => by simp only [budL, List.length_nil]; omega
  | t :: ts, l => by
    have h1 := budL_count ts (budT t l).2
    have h2 := (bud_facts t l).1
    simp only [budL]
    split
    · simp only [List.length_cons]; omega
    · simp only [List.length_nil]; omega
theorem bud_kind (t : Nd) (l : Int) : (budT t l).1 = .mk t.kind t.at t.name t.num (budT t l).1.sub ∧ (budT t l).1.sub = (budL t.sub (l - 1)).1 ∧ (budT t l).2 = (budL t.sub (l - 1)).2 := by
  cases t; simp only [budT, Nd.kind, Nd.at, Nd.name, Nd.num, Nd.sub]; exact ⟨trivial, trivial, trivial⟩
theorem bud_lo : ∀ (t : Nd) (l : Int), -9000 < l → -9000 ≤ (budT t l).2 := by
  refine Nd.ind ?_
  intro kk aa ss n sub ih l hl
  have : ∀ (ls : List Nd), (∀ s ∈ ls, ∀ l, -9000 < l → -9000 ≤ (budT s l).2) → ∀ l, -9000 ≤ l → -9000 ≤ (budL ls l).2 := by
    intro ls
    induction ls with
    | nil => intro _ l h; simp only [budL]; exact h
    | cons t ts iht =>
      intro hs l h
      simp only [budL]
      split
      · rename_i h9
        exact iht (fun s h => hs s (by simp [h])) _ (hs t (by simp) l h9)
      · exact h
  simp only [budT]
  exact this sub ih (l - 1) (by omega)
set_option maxRecDepth 100000 in
set_option maxHeartbeats 4000000 in
theorem budget_any : ∀ (t : Nd) (cs : List Value) (l : Int) (w : World), -9000 < l → l ≤ 1000 → NdC w t cs →
    Calls Try.prog 47 #[.agg cs.toArray, .int .i64 l] w fun e w' => ∃ v, e = .returned (.tuple #[.agg #[.int .i64 t.kind, .int .i64 t.at, .string t.name, .int .i64 t.num, v], .int .i64 (budT t l).2]) ∧ RepS (fun b => w.heap.size ≤ b) w' v (budT t l).1.sub ∧ Below w.heap.size w w' := by
  obtain ⟨i0, hi, hz0, hz1, hz2⟩ := info_parts infoR
  refine Nd.ind ?_
  intro kk aa ss n sub ih cs l w hl0 hl1 ht
  obtain ⟨a, cap, rfl, hsub, hlen, hnsa⟩ := nd_open ht
  have hbk := (bud_kind (.mk kk aa ss n sub) l).2
  generalize (budT (.mk kk aa ss n sub) l).1.sub = R at hbk ⊢
  generalize (budT (.mk kk aa ss n sub) l).2 = X at hbk ⊢
  simp only [Nd.kind, Nd.at, Nd.name, Nd.num, Nd.sub] at hsub hlen hnsa hbk ⊢
  have BK := Lib.hid hbk
  clear hbk
  have IH := Lib.hid ih
  clear ht ih
  go_enter Try.func47, Try.ntmps47
  go_wp2_with fail
  go_loopw [1, 7] (fun g i wr => ∃ (k : Nat) (v : Value) (rs : List Nd) (x : Int), k ≤ sub.length ∧ i = .int .i64 k ∧ g = .int .i64 x ∧ -9000 ≤ x ∧ x ≤ 1000 ∧ Own (fun b => w.heap.size + 3 ≤ b) 27 (w.heap.size + 3) v rs wr ∧ Hid (budL sub (l - 1) = (rs ++ (budL (sub.drop k) x).1, (budL (sub.drop k) x).2)) ∧ Box5 24 wr w.heap.size (.int .i64 kk) (.int .i64 aa) (.string ss) (.int .i64 n) (.slice a sub.length cap) ∧ Box5 27 wr (w.heap.size + 1) (.int .i64 0) (.int .i64 0) (.string ByteArray.empty) (.int .i64 0) (.slice none 0 0) ∧ Box5 27 wr (w.heap.size + 2) (.int .i64 kk) (.int .i64 aa) (.string ss) (.int .i64 n) v ∧ Below w.heap.size w wr ∧ w.heap.size + 3 ≤ wr.heap.size) (fun _ i _ => sub.length - (intOf i).toNat)
  case atStart =>
    obtain ⟨h1, h2, h3, h4, h5⟩ := boxes3 w #[.int .i64 kk, .int .i64 aa, .string ss, .int .i64 n, .slice a sub.length cap] #[.int .i64 0, .int .i64 0, .string ByteArray.empty, .int .i64 0, .slice none 0 0] #[.int .i64 kk, .int .i64 aa, .string ss, .int .i64 n, .slice none 0 0] 24 27 27
    exact ⟨0, _, [], l - 1, Nat.zero_le _, rfl, by go_num, by omega, by omega, Own.nil, rfl, h1, h2, h3, h4, h5⟩
  case round =>
    obtain ⟨k, v, rs, x, hk, rfl, rfl, hx0, hx1, hown, HG, b1, b2, b3, hbw, hsz⟩ := hrel
    obtain ⟨c0, c1, c2, c3, c4⟩ := b1.cells
    by_cases hlt : k < sub.length ∧ -9000 < x
    · obtain ⟨hlt, hx⟩ := hlt
      obtain ⟨bb, off, a', cap', rfl, e0, e1, e2, e3, e4, hts⟩ := sub_at hsub hbw k hlt
      have hnsk : sub[k].name.size ≤ maxLen := by obtain ⟨_, _, _, _, _, h⟩ := nd_open hts; exact h
      have hnext : Hid (budL sub (l - 1) = ((rs ++ [(budT sub[k] x).1]) ++ (budL (sub.drop (k + 1)) (budT sub[k] x).2).1, (budL (sub.drop (k + 1)) (budT sub[k] x).2).2)) := by
        have h := HG.out
        rw [List.drop_eq_getElem_cons hlt] at h
        simp only [budL] at h
        rw [if_pos hx] at h
        show _ = _
        rw [h, List.append_assoc]; rfl
      have hcnt : Hid (rs.length + 1 ≤ 20000) := by
        have h := congrArg (fun p => p.1.length) hnext.out
        have h2 := budL_count sub (l - 1)
        simp only [List.length_append, List.length_singleton] at h
        show _ ≤ _
        omega
      have hlo := bud_lo sub[k] x hx
      have hhi := (bud_facts sub[k] x).1
      have HO := Lib.hid hown
      have HBW := Lib.hid hbw
      have B1r := Lib.hid b1
      have B2r := Lib.hid b2
      have B3r := Lib.hid b3
      have HTS := Lib.hid hts
      clear hown b1 b2 b3 hts HG hbw
      go_wp2_with fail
      refine (IH.out _ (List.getElem_mem hlt) _ x _ hx hx1 HTS.out).mono ?_
      rintro e w1 ⟨v1, rfl, hrep, hb1⟩
      obtain ⟨a1, n1, c1, rfl⟩ := hrep.form
      have hs1 := hb1.size
      have hw2 : Below wr.heap.size wr (w1.alloc (.cells #[.int .i64 sub[k].kind, .int .i64 sub[k].at, .string sub[k].name, .int .i64 sub[k].num, .slice a1 n1 c1] 27)) := hb1.alloc hs1 _
      have hzw : wr.heap.size + 1 ≤ (w1.alloc (.cells #[.int .i64 sub[k].kind, .int .i64 sub[k].at, .string sub[k].name, .int .i64 sub[k].num, .slice a1 n1 c1] 27)).heap.size := by simp; omega
      have b3w := B3r.out.later hw2 (by omega)
      obtain ⟨g0, g1, g2, g3, g4⟩ := b3w.cells
      have fz4 := b3w.free 4
      have hrep2 : Rep (fun b => wr.heap.size ≤ b) (w1.alloc (.cells #[.int .i64 sub[k].kind, .int .i64 sub[k].at, .string sub[k].name, .int .i64 sub[k].num, .slice a1 n1 c1] 27)) (budT sub[k] x).1 [.int .i64 sub[k].kind, .int .i64 sub[k].at, .string sub[k].name, .int .i64 sub[k].num, .slice a1 n1 c1] := by
        have hk := (bud_kind sub[k] x).1
        have h := (rep_nd (t := .mk sub[k].kind sub[k].at sub[k].name sub[k].num (budT sub[k] x).1.sub)).2 ⟨_, rfl, hnsk, hrep⟩
        rw [hk]
        exact h.later ((Below.refl _ _).alloc (Nat.le_refl _) _)
      have hown2 := HO.out.later hw2
      have hlt2 := HO.out.lt
      have E1 := boxes1 (w1.alloc (.cells #[.int .i64 sub[k].kind, .int .i64 sub[k].at, .string sub[k].name, .int .i64 sub[k].num, .slice a1 n1 c1] 27)) #[.int .i64 sub[k].kind, .int .i64 sub[k].at, .string sub[k].name, .int .i64 sub[k].num, .slice a1 n1 c1] 27
      have hone := (RepS.one (T := 27) hrep2).sub (S' := fun b => wr.heap.size ≤ b) fun b hb _ => by
        rcases hb with hb | hb
        · exact hb
        · omega
      have hown3 := hown2.later E1.2.1
      have hS3 : ∀ d ∈ [(budT sub[k] x).1], ∀ cs, Rep (fun b => wr.heap.size ≤ b) ((w1.alloc (.cells #[.int .i64 sub[k].kind, .int .i64 sub[k].at, .string sub[k].name, .int .i64 sub[k].num, .slice a1 n1 c1] 27)).alloc (.cells #[.int .i64 sub[k].kind, .int .i64 sub[k].at, .string sub[k].name, .int .i64 sub[k].num, .slice a1 n1 c1] 27)) d cs → Rep (fun b => w.heap.size + 3 ≤ b ∧ v.ownBlock ≠ some b) ((w1.alloc (.cells #[.int .i64 sub[k].kind, .int .i64 sub[k].at, .string sub[k].name, .int .i64 sub[k].num, .slice a1 n1 c1] 27)).alloc (.cells #[.int .i64 sub[k].kind, .int .i64 sub[k].at, .string sub[k].name, .int .i64 sub[k].num, .slice a1 n1 c1] 27)) d cs :=
        fun d _ cs h => h.sub fun b hb _ => ⟨by omega, fun e => by have := (hlt2 b e).2; omega⟩
      have HO3 := Lib.hid hown3
      rw [show (w1.alloc (.cells #[.int .i64 sub[k].kind, .int .i64 sub[k].at, .string sub[k].name, .int .i64 sub[k].num, .slice a1 n1 c1] 27)).heap.size = w1.heap.size + 1 from by simp] at hone
      have HONE := Lib.hid hone
      have HS3 := Lib.hid hS3
      have HZ3 := Lib.hid (show w.heap.size + 3 ≤ ((w1.alloc (.cells #[.int .i64 sub[k].kind, .int .i64 sub[k].at, .string sub[k].name, .int .i64 sub[k].num, .slice a1 n1 c1] 27)).alloc (.cells #[.int .i64 sub[k].kind, .int .i64 sub[k].at, .string sub[k].name, .int .i64 sub[k].num, .slice a1 n1 c1] 27)).heap.size by have := E1.2.2; omega)
      have HW3 := Lib.hid (hw2.trans (E1.2.1.mono (by omega)))
      clear hown2 hlt2 hone hown3 hS3 E1 hrep2 hrep hw2 hzw hb1 b3w
      have HLO := Lib.hid hlo
      have HHI := Lib.hid hhi
      clear hlo hhi
      have hz0r := Lib.hid hsz
      go_wp2_with (at_builtin; refine wpList_push rfl _ _ 25 rfl 27 i0 (.agg #[.int .i64 0, .int .i64 0, .string ByteArray.empty, .int .i64 0, .slice none 0 0]) 64 Try.underlying25 hi hz0 hz1 hz2 rfl (by decide) HO3.out _ [(budT sub[k] x).1] HONE.out (by rfl) (by rfl) HS3.out (by have := hcnt.out; unfold maxLen; simp; omega) (by have := hcnt.out; simp; omega) HZ3.out ?_; intro v2 w2 hown2 hb2 hg2 hap2; obtain ⟨g2, cp2, rfl, -⟩ := hown2.some (by simp); have q3 := Lib.hid ((B3r.out.later HW3.out (by omega)).later hb2 (by omega)); obtain ⟨y0, y1, y2, y3, y4⟩ := q3.out.cells; have y5 := q3.out.free 4; replace hown2 := Lib.hid hown2; replace hb2 := Lib.hid hb2)
      clear hg2 hap2
      have hbf := HBW.out.trans ((HW3.out.mono HBW.out.size).trans (hb2.out.mono (by omega)))
      have HLT := Lib.hid hlt
      go_roundw
      case rel =>
        have hlo := HLO.out
        have hhi := HHI.out
        have hz4 := hb2.out.size
        have hz3 := HZ3.out
        refine ⟨k + 1, _, rs ++ [(budT sub[k] x).1], (budT sub[k] x).2, by omega, by go_num, rfl, by omega, by omega, hown2.out.move fun b hb _ => Below.heap_setCell _ _ _ _ (by show b ≠ w.heap.size + 2; omega), hnext, ?_, ?_, by rw [List.length_append]; exact q3.out.set4 _, hbf.setCell (by show w.heap.size ≤ w.heap.size + 2; omega) _, by simp; omega⟩
        · exact Box5.set_ne ((B1r.out.later HW3.out (by omega)).later hb2.out (by omega)) (by show w.heap.size ≠ w.heap.size + 2; omega) _
        · exact Box5.set_ne ((B2r.out.later HW3.out (by omega)).later hb2.out (by omega)) (by show w.heap.size + 1 ≠ w.heap.size + 2; omega) _
      case measure => have := HLT.out; simp [intOf]; omega
    · have hend : budL (sub.drop k) x = ([], x) := by
        by_cases h1 : k < sub.length
        · rw [List.drop_eq_getElem_cons h1]; simp only [budL]; rw [if_neg (by omega)]
        · rw [List.drop_of_length_le (by omega)]; rfl
      have h := HG.out
      rw [hend] at h
      have hb := BK.out
      rw [h] at hb
      have HRS : Hid (rs = R ∧ x = X) := ⟨by rw [hb.1]; simp, hb.2.symm⟩
      obtain ⟨d0, d1, d2, d3, d4⟩ := b2.cells
      obtain ⟨g0, g1, g2, g3, g4⟩ := b3.cells
      have f0 := b2.free 0
      have f1 := b2.free 1
      have f2 := b2.free 2
      have f3 := b2.free 3
      have f4 := b2.free 4
      obtain ⟨av, cv, rfl⟩ := hown.shape
      have hres : RepS (fun b => w.heap.size ≤ b) (set5 wr (w.heap.size + 1) (.int .i64 kk) (.int .i64 aa) (.string ss) (.int .i64 n) (.slice av rs.length cv)) (.slice av rs.length cv) rs :=
        RepS.move (fun b hb _ => ⟨by omega, by rw [set5_heap _ _ _ _ _ _ _ _ (by omega)]⟩) hown.done
      have HRES := Lib.hid hres
      have hbf : Below w.heap.size w (set5 wr (w.heap.size + 1) (.int .i64 kk) (.int .i64 aa) (.string ss) (.int .i64 n) (.slice av rs.length cv)) := set5_below hbw (by omega) _ _ _ _ _
      have HBF := Lib.hid hbf
      clear h hb hend HG hres hbf b1 b2 b3 hbw hown
      rcases (show (k < sub.length ∧ x ≤ -9000) ∨ sub.length ≤ k by omega) with ⟨h1, h2⟩ | h1
      all_goals
        clear hlt
        go_wp2_with fail
        exact bodyPost_ret (v := .tuple #[.agg #[.int .i64 kk, .int .i64 aa, .string ss, .int .i64 n, .slice av rs.length cv], .int .i64 x]) (by simp [results, Try.results47, go_sem, d0, d1, d2, d3, d4]) rfl ⟨_, by rw [HRS.out.2], by rw [← HRS.out.1]; exact HRES.out, HBF.out⟩
end Go.Proofs.Ytffgfjnbgplckaa
