import Derived.Test.YtffgfjnbgplckaaT7
import Derived.Test.YtffgfjnbgplckaaBU
import Derived.Test.YtffgfjnbgplckaaT35
import Derived.Test.YtffgfjnbgplckaaBA1
import Derived.Test.YtffgfjnbgplckaaBV
set_option linter.unusedSimpArgs false
set_option linter.unusedVariables false
namespace Go.Proofs.Ytffgfjnbgplckaa
open Go.RowKit
def okN6 (t : Nd) : Bool := decide (0 < (budT t 600).2)
theorem ok6_same {t : Nd} (h : okN6 t = true) : (budT t 600).1 = t ∧ ndT t < 600 := by
  have h1 := of_decide_eq_true h
  obtain ⟨_, _, h2⟩ := bud_facts t 600
  obtain ⟨h3, h4⟩ := h2 (by omega)
  exact ⟨h3, by omega⟩
set_option maxRecDepth 100000 in
set_option maxHeartbeats 4000000 in
theorem budget6_any : ∀ (t : Nd) (cs : List Value) (l : Int) (w : World), -9000 < l → l ≤ 1000 → NdC w t cs →
    Calls Try.prog 71 #[.agg cs.toArray, .int .i64 l] w fun e w' => ∃ v, e = .returned (.tuple #[.agg #[.int .i64 t.kind, .int .i64 t.at, .string t.name, .int .i64 t.num, v], .int .i64 (budT t l).2]) ∧ RepS (fun b => w.heap.size ≤ b) w' v (budT t l).1.sub ∧ Below w.heap.size w w' := by
  obtain ⟨i0, hi, hz0, hz1, hz2⟩ := info_parts infoR
  refine Nd.ind ?_
  intro kk aa ss n sub ih cs l w hl0 hl1 ht
  obtain ⟨a, cap, rfl, hsub, hlen, hnsa⟩ := nd_open ht
  have hbk := (bud_kind (.mk kk aa ss n sub) l).2
  generalize (budT (.mk kk aa ss n sub) l).1.sub = R at hbk ⊢
  generalize (budT (.mk kk aa ss n sub) l).2 = X at hbk ⊢
  simp only [Nd.kind, Nd.at, Nd.name, Nd.num, Nd.sub] at hsub hlen hnsa hbk ⊢
  have BK := Lib.hid hbk
  clear hbk
  have IH := Lib.hid ih
  clear ht ih
  go_enter Try.func71, Try.ntmps71
  go_wp2_with fail
  go_loopw [1, 7] (fun g i wr => ∃ (k : Nat) (v : Value) (rs : List Nd) (x : Int), k ≤ sub.length ∧ i = .int .i64 k ∧ g = .int .i64 x ∧ -9000 ≤ x ∧ x ≤ 1000 ∧ Own (fun b => w.heap.size + 3 ≤ b) 27 (w.heap.size + 3) v rs wr ∧ Hid (budL sub (l - 1) = (rs ++ (budL (sub.drop k) x).1, (budL (sub.drop k) x).2)) ∧ Box5 24 wr w.heap.size (.int .i64 kk) (.int .i64 aa) (.string ss) (.int .i64 n) (.slice a sub.length cap) ∧ Box5 27 wr (w.heap.size + 1) (.int .i64 0) (.int .i64 0) (.string ByteArray.empty) (.int .i64 0) (.slice none 0 0) ∧ Box5 27 wr (w.heap.size + 2) (.int .i64 kk) (.int .i64 aa) (.string ss) (.int .i64 n) v ∧ Below w.heap.size w wr ∧ w.heap.size + 3 ≤ wr.heap.size) (fun _ i _ => sub.length - (intOf i).toNat)
  case atStart =>
    obtain ⟨h1, h2, h3, h4, h5⟩ := boxes3 w #[.int .i64 kk, .int .i64 aa, .string ss, .int .i64 n, .slice a sub.length cap] #[.int .i64 0, .int .i64 0, .string ByteArray.empty, .int .i64 0, .slice none 0 0] #[.int .i64 kk, .int .i64 aa, .string ss, .int .i64 n, .slice none 0 0] 24 27 27
    exact ⟨0, _, [], l - 1, Nat.zero_le _, rfl, by go_num, by omega, by omega, Own.nil, rfl, h1, h2, h3, h4, h5⟩
  case round =>
    obtain ⟨k, v, rs, x, hk, rfl, rfl, hx0, hx1, hown, HG, b1, b2, b3, hbw, hsz⟩ := hrel
    obtain ⟨c0, c1, c2, c3, c4⟩ := b1.cells
    by_cases hlt : k < sub.length ∧ -9000 < x
    · obtain ⟨hlt, hx⟩ := hlt
      obtain ⟨bb, off, a', cap', rfl, e0, e1, e2, e3, e4, hts⟩ := sub_at hsub hbw k hlt
      have hnsk : sub[k].name.size ≤ maxLen := by obtain ⟨_, _, _, _, _, h⟩ := nd_open hts; exact h
      have hnext : Hid (budL sub (l - 1) = ((rs ++ [(budT sub[k] x).1]) ++ (budL (sub.drop (k + 1)) (budT sub[k] x).2).1, (budL (sub.drop (k + 1)) (budT sub[k] x).2).2)) := by
        have h := HG.out
        rw [List.drop_eq_getElem_cons hlt] at h
        simp only [budL] at h
        rw [if_pos hx] at h
        show _ = _
        rw [h, List.append_assoc]; rfl
      have hcnt : Hid (rs.length + 1 ≤ 20000) := by
        have h := congrArg (fun p => p.1.length) hnext.out
        have h2 := budL_count sub (l - 1)
        simp only [List.length_append, List.length_singleton] at h
        show _ ≤ _
        omega
      have hlo := bud_lo sub[k] x hx
      have hhi := (bud_facts sub[k] x).1
      have HO := Lib.hid hown
      have HBW := Lib.hid hbw
      have B1r := Lib.hid b1
      have B2r := Lib.hid b2
      have B3r := Lib.hid b3
      have HTS := Lib.hid hts
      clear hown b1 b2 b3 hts HG hbw
      go_wp2_with fail
      refine (IH.out _ (List.getElem_mem hlt) _ x _ hx hx1 HTS.out).mono ?_
      rintro e w1 ⟨v1, rfl, hrep, hb1⟩
      obtain ⟨a1, n1, c1, rfl⟩ := hrep.form
      have hs1 := hb1.size
      have hw2 : Below wr.heap.size wr (w1.alloc (.cells #[.int .i64 sub[k].kind, .int .i64 sub[k].at, .string sub[k].name, .int .i64 sub[k].num, .slice a1 n1 c1] 27)) := hb1.alloc hs1 _
      have hzw : wr.heap.size + 1 ≤ (w1.alloc (.cells #[.int .i64 sub[k].kind, .int .i64 sub[k].at, .string sub[k].name, .int .i64 sub[k].num, .slice a1 n1 c1] 27)).heap.size := by simp; omega
      have b3w := B3r.out.later hw2 (by omega)
      obtain ⟨g0, g1, g2, g3, g4⟩ := b3w.cells
      have fz4 := b3w.free 4
      have hrep2 : Rep (fun b => wr.heap.size ≤ b) (w1.alloc (.cells #[.int .i64 sub[k].kind, .int .i64 sub[k].at, .string sub[k].name, .int .i64 sub[k].num, .slice a1 n1 c1] 27)) (budT sub[k] x).1 [.int .i64 sub[k].kind, .int .i64 sub[k].at, .string sub[k].name, .int .i64 sub[k].num, .slice a1 n1 c1] := by
        have hk := (bud_kind sub[k] x).1
        have h := (rep_nd (t := .mk sub[k].kind sub[k].at sub[k].name sub[k].num (budT sub[k] x).1.sub)).2 ⟨_, rfl, hnsk, hrep⟩
        rw [hk]
        exact h.later ((Below.refl _ _).alloc (Nat.le_refl _) _)
      have hown2 := HO.out.later hw2
      have hlt2 := HO.out.lt
      have E1 := boxes1 (w1.alloc (.cells #[.int .i64 sub[k].kind, .int .i64 sub[k].at, .string sub[k].name, .int .i64 sub[k].num, .slice a1 n1 c1] 27)) #[.int .i64 sub[k].kind, .int .i64 sub[k].at, .string sub[k].name, .int .i64 sub[k].num, .slice a1 n1 c1] 27
      have hone := (RepS.one (T := 27) hrep2).sub (S' := fun b => wr.heap.size ≤ b) fun b hb _ => by
        rcases hb with hb | hb
        · exact hb
        · omega
      have hown3 := hown2.later E1.2.1
      have hS3 : ∀ d ∈ [(budT sub[k] x).1], ∀ cs, Rep (fun b => wr.heap.size ≤ b) ((w1.alloc (.cells #[.int .i64 sub[k].kind, .int .i64 sub[k].at, .string sub[k].name, .int .i64 sub[k].num, .slice a1 n1 c1] 27)).alloc (.cells #[.int .i64 sub[k].kind, .int .i64 sub[k].at, .string sub[k].name, .int .i64 sub[k].num, .slice a1 n1 c1] 27)) d cs → Rep (fun b => w.heap.size + 3 ≤ b ∧ v.ownBlock ≠ some b) ((w1.alloc (.cells #[.int .i64 sub[k].kind, .int .i64 sub[k].at, .string sub[k].name, .int .i64 sub[k].num, .slice a1 n1 c1] 27)).alloc (.cells #[.int .i64 sub[k].kind, .int .i64 sub[k].at, .string sub[k].name, .int .i64 sub[k].num, .slice a1 n1 c1] 27)) d cs :=
        fun d _ cs h => h.sub fun b hb _ => ⟨by omega, fun e => by have := (hlt2 b e).2; omega⟩
      have HO3 := Lib.hid hown3
      rw [show (w1.alloc (.cells #[.int .i64 sub[k].kind, .int .i64 sub[k].at, .string sub[k].name, .int .i64 sub[k].num, .slice a1 n1 c1] 27)).heap.size = w1.heap.size + 1 from by simp] at hone
      have HONE := Lib.hid hone
      have HS3 := Lib.hid hS3
      have HZ3 := Lib.hid (show w.heap.size + 3 ≤ ((w1.alloc (.cells #[.int .i64 sub[k].kind, .int .i64 sub[k].at, .string sub[k].name, .int .i64 sub[k].num, .slice a1 n1 c1] 27)).alloc (.cells #[.int .i64 sub[k].kind, .int .i64 sub[k].at, .string sub[k].name, .int .i64 sub[k].num, .slice a1 n1 c1] 27)).heap.size by have := E1.2.2; omega)
      have HW3 := Lib.hid (hw2.trans (E1.2.1.mono (by omega)))
      clear hown2 hlt2 hone hown3 hS3 E1 hrep2 hrep hw2 hzw hb1 b3w
      have HLO := Lib.hid hlo
      have HHI := Lib.hid hhi
      clear hlo hhi
      have hz0r := Lib.hid hsz
      go_wp2_with (at_builtin; refine wpList_push rfl _ _ 25 rfl 27 i0 (.agg #[.int .i64 0, .int .i64 0, .string ByteArray.empty, .int .i64 0, .slice none 0 0]) 64 Try.underlying25 hi hz0 hz1 hz2 rfl (by decide) HO3.out _ [(budT sub[k] x).1] HONE.out (by rfl) (by rfl) HS3.out (by have := hcnt.out; unfold maxLen; simp; omega) (by have := hcnt.out; simp; omega) HZ3.out ?_; intro v2 w2 hown2 hb2 hg2 hap2; obtain ⟨g2, cp2, rfl, -⟩ := hown2.some (by simp); have q3 := Lib.hid ((B3r.out.later HW3.out (by omega)).later hb2 (by omega)); obtain ⟨y0, y1, y2, y3, y4⟩ := q3.out.cells; have y5 := q3.out.free 4; replace hown2 := Lib.hid hown2; replace hb2 := Lib.hid hb2)
      clear hg2 hap2
      have hbf := HBW.out.trans ((HW3.out.mono HBW.out.size).trans (hb2.out.mono (by omega)))
      have HLT := Lib.hid hlt
      go_roundw
      case rel =>
        have hlo := HLO.out
        have hhi := HHI.out
        have hz4 := hb2.out.size
        have hz3 := HZ3.out
        refine ⟨k + 1, _, rs ++ [(budT sub[k] x).1], (budT sub[k] x).2, by omega, by go_num, rfl, by omega, by omega, hown2.out.move fun b hb _ => Below.heap_setCell _ _ _ _ (by show b ≠ w.heap.size + 2; omega), hnext, ?_, ?_, by rw [List.length_append]; exact q3.out.set4 _, hbf.setCell (by show w.heap.size ≤ w.heap.size + 2; omega) _, by simp; omega⟩
        · exact Box5.set_ne ((B1r.out.later HW3.out (by omega)).later hb2.out (by omega)) (by show w.heap.size ≠ w.heap.size + 2; omega) _
        · exact Box5.set_ne ((B2r.out.later HW3.out (by omega)).later hb2.out (by omega)) (by show w.heap.size + 1 ≠ w.heap.size + 2; omega) _
      case measure => have := HLT.out; simp [intOf]; omega
    · have hend : budL (sub.drop k) x = ([], x) := by
        by_cases h1 : k < sub.length
        · rw [List.drop_eq_getElem_cons h1]; simp only [budL]; rw [if_neg (by omega)]
        · rw [List.drop_of_length_le (by omega)]; rfl
      have h := HG.out
      rw [hend] at h
      have hb := BK.out
      rw [h] at hb
      have HRS : Hid (rs = R ∧ x = X) := ⟨by rw [hb.1]; simp, hb.2.symm⟩
      obtain ⟨d0, d1, d2, d3, d4⟩ := b2.cells
      obtain ⟨g0, g1, g2, g3, g4⟩ := b3.cells
      have f0 := b2.free 0
      have f1 := b2.free 1
      have f2 := b2.free 2
      have f3 := b2.free 3
      have f4 := b2.free 4
      obtain ⟨av, cv, rfl⟩ := hown.shape
      have hres : RepS (fun b => w.heap.size ≤ b) (set5 wr (w.heap.size + 1) (.int .i64 kk) (.int .i64 aa) (.string ss) (.int .i64 n) (.slice av rs.length cv)) (.slice av rs.length cv) rs :=
        RepS.move (fun b hb _ => ⟨by omega, by rw [set5_heap _ _ _ _ _ _ _ _ (by omega)]⟩) hown.done
      have HRES := Lib.hid hres
      have hbf : Below w.heap.size w (set5 wr (w.heap.size + 1) (.int .i64 kk) (.int .i64 aa) (.string ss) (.int .i64 n) (.slice av rs.length cv)) := set5_below hbw (by omega) _ _ _ _ _
      have HBF := Lib.hid hbf
      clear h hb hend HG hres hbf b1 b2 b3 hbw hown
      rcases (show (k < sub.length ∧ x ≤ -9000) ∨ sub.length ≤ k by omega) with ⟨h1, h2⟩ | h1
      all_goals
        clear hlt
        go_wp2_with fail
        exact bodyPost_ret (v := .tuple #[.agg #[.int .i64 kk, .int .i64 aa, .string ss, .int .i64 n, .slice av rs.length cv], .int .i64 x]) (by simp [results, Try.results71, go_sem, d0, d1, d2, d3, d4]) rfl ⟨_, by rw [HRS.out.2], by rw [← HRS.out.1]; exact HRES.out, HBF.out⟩
set_option maxRecDepth 100000 in
set_option maxHeartbeats 4000000 in
theorem of6_any (t : Nd) (cs : List Value) (w : World) (ht : NdC w t cs) :
    Calls Try.prog 38 #[.agg cs.toArray] w fun e w' => ∃ v, e = .returned (.tuple #[.agg #[.int .i64 t.kind, .int .i64 t.at, .string t.name, .int .i64 t.num, v], .bool (okN6 t)]) ∧ RepS (fun b => w.heap.size ≤ b) w' v (budT t 600).1.sub ∧ Below w.heap.size w w' := by
  obtain ⟨a, cap, rfl, hsub, hlen, hnsa⟩ := nd_open ht
  have E := boxes2 w #[.int .i64 t.kind, .int .i64 t.at, .string t.name, .int .i64 t.num, .slice a t.sub.length cap] #[.int .i64 0, .int .i64 0, .string ByteArray.empty, .int .i64 0, .slice none 0 0] 24 27
  have BU := Lib.hid (budget6_any t _ 600 _ (by omega) (by omega) (ht.later E.2.2.1))
  have HE := Lib.hid E
  have fin : Hid (decide (0 < (budT t 600).2) = okN6 t) := rfl
  clear hsub hlen ht E
  generalize (budT t 600).1.sub = R at *
  generalize (budT t 600).2 = X at *
  generalize okN6 t = ok at *
  go_enter Try.func38, Try.ntmps38
  go_wp2_with ((go_at_call 71; refine BU.out.mono ?_; rintro e w1 ⟨v1, rfl, hrep, hb1⟩; obtain ⟨a1, n1, c1, rfl⟩ := hrep.form; have q2 := Lib.hid ((show Box5 _ _ _ _ _ _ _ _ from HE.out.2.1).later (hb1.alloc hb1.size (.cells #[.int .i64 t.kind, .int .i64 t.at, .string t.name, .int .i64 t.num, .slice a1 n1 c1] 27)) (by have := HE.out.2.2.2; omega)); obtain ⟨d0, d1, d2, d3, d4⟩ := q2.out.cells; have f0 := q2.out.free 0; have f1 := q2.out.free 1; have f2 := q2.out.free 2; have f3 := q2.out.free 3; have f4 := q2.out.free 4; replace hrep := Lib.hid hrep; replace hb1 := Lib.hid hb1))
  have hw2 : Below w.heap.size w (w1.alloc (.cells #[.int .i64 t.kind, .int .i64 t.at, .string t.name, .int .i64 t.num, .slice a1 n1 c1] 27)) := HE.out.2.2.1.trans ((hb1.out.mono HE.out.2.2.1.size).alloc (Nat.le_trans HE.out.2.2.1.size hb1.out.size) _)
  have hres : RepS (fun b => w.heap.size ≤ b) (set5 (w1.alloc (.cells #[.int .i64 t.kind, .int .i64 t.at, .string t.name, .int .i64 t.num, .slice a1 n1 c1] 27)) (w.heap.size + 1) (.int .i64 t.kind) (.int .i64 t.at) (.string t.name) (.int .i64 t.num) (.slice a1 n1 c1)) (.slice a1 n1 c1) R := by
    refine RepS.move (fun b hb hl => ⟨?_, ?_⟩) hrep.out
    · have := HE.out.2.2.2; omega
    · rw [set5_heap _ _ _ _ _ _ _ _ (by have := HE.out.2.2.2; omega)]; exact Below.heap_alloc _ _ _ hl
  exact bodyPost_ret (v := .tuple #[.agg #[.int .i64 t.kind, .int .i64 t.at, .string t.name, .int .i64 t.num, .slice a1 n1 c1], .bool (decide (0 < X))]) (by simp [results, Try.results38, go_sem, d0, d1, d2, d3, d4]) rfl ⟨_, by rw [fin.out], hres, set5_below hw2 (by omega) _ _ _ _ _⟩
theorem of6_p (t : Nd) : PCalls Try.prog 38 [aggD t] [] fun p s => p = .tup [aggD (budT t 600).1, .d (.v (.bool (okN6 t)))] ∧ s = [] := by
  refine PCalls.data fun K w vs ha => ?_
  obtain ⟨v, rfl, hv⟩ := ha.one
  obtain ⟨cs, rfl, hc⟩ := agg_nd hv
  have hns : t.name.size ≤ maxLen := by obtain ⟨_, _, _, _, _, h⟩ := nd_open hc; exact h
  refine (of6_any t cs w hc).mono ?_
  rintro e w' ⟨u, rfl, hr, hb⟩
  refine ⟨_, rfl, hb, fun K' hK => ?_⟩
  refine tup2 ?_ (.d (.v trivial))
  have : Rep (fun b => w.heap.size ≤ b) w' (budT t 600).1 [.int .i64 t.kind, .int .i64 t.at, .string t.name, .int .i64 t.num, u] := by
    cases t with
    | mk k a s n sub =>
      rw [show budT (.mk k a s n sub) 600 = (.mk k a s n (budL sub (600 - 1)).1, (budL sub (600 - 1)).2) by simp only [budT]] at hr ⊢
      exact rep_nd.2 ⟨u, rfl, hns, hr⟩
  exact rel_rep (fun b o v h1 h2 => hK b o v h1 h2) this
end Go.Proofs.Ytffgfjnbgplckaa

namespace Go.Proofs.Ytffgfjnbgplckaa
open Go.RowKit
def okB6 (b : Bd) : Bool := okN6 b.ty
set_option maxRecDepth 100000 in
set_option maxHeartbeats 4000000 in
theorem lbinds6_any (S0 : Nat → Prop) (l : List Bd) (v : Value) (w : World) (hv : RepS S0 w v l) (hl30 : l.length ≤ 1000) : Calls Try.prog 76 #[v] w fun e w' => ∃ u, e = .returned (.tuple #[u, .bool (l.all okB6)]) ∧ RepS (fun b => w.heap.size ≤ b) w' u (if l.all okB6 then l else []) ∧ Below w.heap.size w w' := by
  obtain ⟨i0, hi, hz0, hz1, hz2⟩ := info_parts infoB
  obtain ⟨a, cap, rfl, h1, h2⟩ := hv.shape
  have hll : l.length ≤ 9223372036854775807 := by omega
  have HV := Lib.hid hv
  have L30 := Lib.hid hl30
  have RLF : l.all okB6 = false → (if l.all okB6 then l else []) = [] := fun h => by rw [h]; rfl
  have RLT : l.all okB6 = true → (if l.all okB6 then l else []) = l := fun h => by rw [h]; rfl
  have HF := Lib.hid RLF
  have HTT := Lib.hid RLT
  clear RLF RLT
  generalize (if l.all okB6 then l else []) = rl at *
  obtain ⟨res, HR⟩ : ∃ r, Hid (l.all okB6 = r) := ⟨_, rfl⟩
  rw [HR.out]
  clear hv h1 h2 hl30
  go_enter Try.func76, Try.ntmps76
  go_wp2_with fail
  go_loopw [4, 5] (fun u i wr => ∃ (k : Nat) (x : Later w), k ≤ l.length ∧ i = .int .i64 k ∧ wr = x.w ∧ Own (fun b => w.heap.size ≤ b) 114 w.heap.size u (l.take k) x.w ∧ Hid ((l.take k).all okB6 = true)) (fun _ i _ => l.length - (intOf i).toNat)
  case atStart => exact ⟨0, ⟨_, (Below.refl _ _).alloc (Nat.le_refl _) _⟩, Nat.zero_le _, rfl, rfl, own_made (Nat.le_refl _), rfl⟩
  case round =>
    obtain ⟨k, x, hk, rfl, rfl, hown, HA⟩ := hrel
    by_cases hlt : k < l.length
    · obtain ⟨bb, off, a', n', c', rfl, e0w, e1w, e2w, e3w, e4w, e5w, e6w, hns, htyw⟩ := bd_at HV.out k hlt
      have hbb : bb < w.heap.size := World.block_lt_of_cell? w _ e0w
      have mvw : ∀ {p : Addr} {v : Value}, w.cell? p = some v → x.w.cell? p = some v := fun c => (x.b.cell (World.block_lt_of_cell? w _ c)).trans c
      have e0 := mvw e0w
      have e1 := mvw e1w
      have e2 := mvw e2w
      have e3 := mvw e3w
      have e4 := mvw e4w
      have e5 := mvw e5w
      have e6 := mvw e6w
      have hty := htyw.later x.b
      clear mvw e0w e1w e2w e3w e4w e5w e6w htyw
      have hts := Rep.toC _ _ hty
      have hnk : l[k].ty.name.size ≤ maxLen := by obtain ⟨_, _, _, _, _, h⟩ := nd_open hts; exact h
      have hb0 : (0 : Int) ≤ k := by omega
      have hb1 : (k : Int) < l.length := by omega
      have hstep := all_take_g okB6 l k hlt
      rw [HA.out, Bool.true_and] at hstep
      have HO := Lib.hid hown
      have HOF := Lib.hid (of6_any l[k].ty _ _ hts)
      clear hown hts hty
      cases hk1 : okN6 l[k].ty with
      | false =>
        have fin : Hid (res = false) := by show _ = _; rw [← HR.out, all_false_g (p := okB6) k hlt hk1]
        rw [hk1] at HOF
        clear hk1 hstep
        go_wp2_with fail
        refine HOF.out.mono ?_
        rintro e w5 ⟨v5, rfl, hr5, hb5⟩
        obtain ⟨a5, n5, c5, rfl⟩ := hr5.form
        go_wp2_with fail
        go_ret2
        exact ⟨_, ret_vb fin.out.symm, by rw [HF.out (by rw [HR.out]; exact fin.out)]; exact RepS.nil, x.b.trans ((hb5.alloc hb5.size _).mono x.b.size)⟩
      | true =>
        have HK1 := Lib.hid hk1
        rw [hk1] at HOF
        rw [show okB6 l[k] = true from hk1] at hstep
        have HA2 := Lib.hid hstep
        clear hk1 hstep
        go_wp2_with fail
        refine HOF.out.mono ?_
        rintro e w5 ⟨v5, rfl, hr5, hb5⟩
        obtain ⟨a5, n5, c5, rfl⟩ := hr5.form
        rw [(ok6_same HK1.out).1] at hr5
        have hz := x.b.size
        have hz5 := hb5.size
        have hw2 : Below x.w.heap.size x.w (w5.alloc (.cells #[.int .i64 l[k].ty.kind, .int .i64 l[k].ty.at, .string l[k].ty.name, .int .i64 l[k].ty.num, .slice a5 n5 c5] 27)) := hb5.alloc hb5.size _
        have E1 : Below (w5.alloc (.cells #[.int .i64 l[k].ty.kind, .int .i64 l[k].ty.at, .string l[k].ty.name, .int .i64 l[k].ty.num, .slice a5 n5 c5] 27)).heap.size (w5.alloc (.cells #[.int .i64 l[k].ty.kind, .int .i64 l[k].ty.at, .string l[k].ty.name, .int .i64 l[k].ty.num, .slice a5 n5 c5] 27)) ((w5.alloc (.cells #[.int .i64 l[k].ty.kind, .int .i64 l[k].ty.at, .string l[k].ty.name, .int .i64 l[k].ty.num, .slice a5 n5 c5] 27)).alloc (.cells #[.string l[k].name, .int .i64 l[k].at_, .int .i64 l[k].ty.kind, .int .i64 l[k].ty.at, .string l[k].ty.name, .int .i64 l[k].ty.num, .slice a5 n5 c5] 114)).drew := ((Below.refl _ _).alloc (Nat.le_refl _) _).drew
        have hbx : Box5 27 (w5.alloc (.cells #[.int .i64 l[k].ty.kind, .int .i64 l[k].ty.at, .string l[k].ty.name, .int .i64 l[k].ty.num, .slice a5 n5 c5] 27)) w5.heap.size (.int .i64 l[k].ty.kind) (.int .i64 l[k].ty.at) (.string l[k].ty.name) (.int .i64 l[k].ty.num) (.slice a5 n5 c5) := Box5.new _ _ _ _ _ _ _
        obtain ⟨q0, q1, q2, q3, q4⟩ := hbx.cells
        have KEEP : Hid (∀ w', Below (w5.alloc (.cells #[.int .i64 l[k].ty.kind, .int .i64 l[k].ty.at, .string l[k].ty.name, .int .i64 l[k].ty.num, .slice a5 n5 c5] 27)).heap.size (w5.alloc (.cells #[.int .i64 l[k].ty.kind, .int .i64 l[k].ty.at, .string l[k].ty.name, .int .i64 l[k].ty.num, .slice a5 n5 c5] 27)) w' → w'.cell? ⟨bb, off + k * 7, none⟩ = some (.string l[k].name) ∧ w'.cell? ⟨bb, off + k * 7 + 1, none⟩ = some (.int .i64 l[k].at_) ∧ w'.cell? ⟨w5.heap.size, 0, none⟩ = some (.int .i64 l[k].ty.kind) ∧ w'.cell? ⟨w5.heap.size, 1, none⟩ = some (.int .i64 l[k].ty.at) ∧ w'.cell? ⟨w5.heap.size, 2, none⟩ = some (.string l[k].ty.name) ∧ w'.cell? ⟨w5.heap.size, 3, none⟩ = some (.int .i64 l[k].ty.num) ∧ w'.cell? ⟨w5.heap.size, 4, none⟩ = some (.slice a5 n5 c5)) := fun w' h =>
          have mv : ∀ {p : Addr} {v : Value}, (w5.alloc (.cells #[.int .i64 l[k].ty.kind, .int .i64 l[k].ty.at, .string l[k].ty.name, .int .i64 l[k].ty.num, .slice a5 n5 c5] 27)).cell? p = some v → w'.cell? p = some v := fun c => (h.cell (World.block_lt_of_cell? (w5.alloc (.cells #[.int .i64 l[k].ty.kind, .int .i64 l[k].ty.at, .string l[k].ty.name, .int .i64 l[k].ty.num, .slice a5 n5 c5] 27)) _ c)).trans c
          have mx : ∀ {p : Addr} {v : Value}, x.w.cell? p = some v → (w5.alloc (.cells #[.int .i64 l[k].ty.kind, .int .i64 l[k].ty.at, .string l[k].ty.name, .int .i64 l[k].ty.num, .slice a5 n5 c5] 27)).cell? p = some v := fun c => (hw2.cell (World.block_lt_of_cell? x.w _ c)).trans c
          ⟨mv (mx e0), mv (mx e1), mv q0, mv q1, mv q2, mv q3, mv q4⟩
        have hrep : Rep (fun b => x.w.heap.size ≤ b) (w5.alloc (.cells #[.int .i64 l[k].ty.kind, .int .i64 l[k].ty.at, .string l[k].ty.name, .int .i64 l[k].ty.num, .slice a5 n5 c5] 27)) l[k] [.string l[k].name, .int .i64 l[k].at_, .int .i64 l[k].ty.kind, .int .i64 l[k].ty.at, .string l[k].ty.name, .int .i64 l[k].ty.num, .slice a5 n5 c5] := (rep_bd.2 ⟨_, rfl, hns, hnk, hr5⟩ : Rep _ w5 l[k] _).later ((Below.refl _ _).alloc (Nat.le_refl _) _)
        have hone0 := (RepS.one (T := 114) hrep).sub (S' := fun b => x.w.heap.size ≤ b) fun b hb _ => by
          rcases hb with hb | hb
          · exact hb
          · rw [hb]; simp; omega
        rw [show (w5.alloc (.cells #[.int .i64 l[k].ty.kind, .int .i64 l[k].ty.at, .string l[k].ty.name, .int .i64 l[k].ty.num, .slice a5 n5 c5] 27)).heap.size = w5.heap.size + 1 from by simp] at hone0
        have hone := hone0.later (w' := ((w5.alloc (.cells #[.int .i64 l[k].ty.kind, .int .i64 l[k].ty.at, .string l[k].ty.name, .int .i64 l[k].ty.num, .slice a5 n5 c5] 27)).alloc (.cells #[.string l[k].name, .int .i64 l[k].at_, .int .i64 l[k].ty.kind, .int .i64 l[k].ty.at, .string l[k].ty.name, .int .i64 l[k].ty.num, .slice a5 n5 c5] 114)).drew) (Below.refl _ _).drew
        have hlt2 := HO.out.lt
        have hS3 : ∀ d ∈ [l[k]], ∀ cs, Rep (fun b => x.w.heap.size ≤ b) ((w5.alloc (.cells #[.int .i64 l[k].ty.kind, .int .i64 l[k].ty.at, .string l[k].ty.name, .int .i64 l[k].ty.num, .slice a5 n5 c5] 27)).alloc (.cells #[.string l[k].name, .int .i64 l[k].at_, .int .i64 l[k].ty.kind, .int .i64 l[k].ty.at, .string l[k].ty.name, .int .i64 l[k].ty.num, .slice a5 n5 c5] 114)).drew d cs → Rep (fun b => w.heap.size ≤ b ∧ u4.ownBlock ≠ some b) ((w5.alloc (.cells #[.int .i64 l[k].ty.kind, .int .i64 l[k].ty.at, .string l[k].ty.name, .int .i64 l[k].ty.num, .slice a5 n5 c5] 27)).alloc (.cells #[.string l[k].name, .int .i64 l[k].at_, .int .i64 l[k].ty.kind, .int .i64 l[k].ty.at, .string l[k].ty.name, .int .i64 l[k].ty.num, .slice a5 n5 c5] 114)).drew d cs :=
          fun d _ cs h => h.sub fun b hb _ => ⟨by omega, fun e => by have := (hlt2 b e).2; omega⟩
        have HO3 := Lib.hid ((HO.out.later hw2).later E1)
        have HONE := Lib.hid hone
        have HS3 := Lib.hid hS3
        have HW3 := Lib.hid (x.b.trans ((hw2.trans (E1.mono hw2.size)).mono x.b.size))
        have HE1 := Lib.hid E1
        have HL3 : Hid ((l.take k).length + 1 ≤ 2000) := by have := L30.out; show _ ≤ _; rw [List.length_take]; omega
        have KEEP2 : Hid (∀ w', ((w5.alloc (.cells #[.int .i64 l[k].ty.kind, .int .i64 l[k].ty.at, .string l[k].ty.name, .int .i64 l[k].ty.num, .slice a5 n5 c5] 27)).alloc (.cells #[.string l[k].name, .int .i64 l[k].at_, .int .i64 l[k].ty.kind, .int .i64 l[k].ty.at, .string l[k].ty.name, .int .i64 l[k].ty.num, .slice a5 n5 c5] 114)).drew.grownBy w' u4.ownBlock → w'.cell? ⟨bb, off + k * 7, none⟩ = some (.string l[k].name) ∧ w'.cell? ⟨bb, off + k * 7 + 1, none⟩ = some (.int .i64 l[k].at_) ∧ w'.cell? ⟨w5.heap.size, 0, none⟩ = some (.int .i64 l[k].ty.kind) ∧ w'.cell? ⟨w5.heap.size, 1, none⟩ = some (.int .i64 l[k].ty.at) ∧ w'.cell? ⟨w5.heap.size, 2, none⟩ = some (.string l[k].ty.name) ∧ w'.cell? ⟨w5.heap.size, 3, none⟩ = some (.int .i64 l[k].ty.num) ∧ w'.cell? ⟨w5.heap.size, 4, none⟩ = some (.slice a5 n5 c5)) := fun w' h =>
          have mv : ∀ {p : Addr} {v : Value}, ((w5.alloc (.cells #[.int .i64 l[k].ty.kind, .int .i64 l[k].ty.at, .string l[k].ty.name, .int .i64 l[k].ty.num, .slice a5 n5 c5] 27)).alloc (.cells #[.string l[k].name, .int .i64 l[k].at_, .int .i64 l[k].ty.kind, .int .i64 l[k].ty.at, .string l[k].ty.name, .int .i64 l[k].ty.num, .slice a5 n5 c5] 114)).drew.cell? p = some v → u4.ownBlock ≠ some p.block → w'.cell? p = some v := fun c hne => h.cell c (fun e => hne e.symm)
          have hne1 : u4.ownBlock ≠ some bb := fun e => by have := (hlt2 _ e).1; omega
          have hne2 : u4.ownBlock ≠ some w5.heap.size := fun e => by have := (hlt2 _ e).2; omega
          have K := KEEP.out _ E1
          ⟨mv K.1 hne1, mv K.2.1 hne1, mv K.2.2.1 hne2, mv K.2.2.2.1 hne2, mv K.2.2.2.2.1 hne2, mv K.2.2.2.2.2.1 hne2, mv K.2.2.2.2.2.2 hne2⟩
        have hx0 := (KEEP.out (w5.alloc (.cells #[.int .i64 l[k].ty.kind, .int .i64 l[k].ty.at, .string l[k].ty.name, .int .i64 l[k].ty.num, .slice a5 n5 c5] 27)) (Below.refl _ _)).1
        have hx1 := (KEEP.out (w5.alloc (.cells #[.int .i64 l[k].ty.kind, .int .i64 l[k].ty.at, .string l[k].ty.name, .int .i64 l[k].ty.num, .slice a5 n5 c5] 27)) (Below.refl _ _)).2.1
        clear hr5 hb5 hw2 E1 hrep hone hone0 hS3 hlt2 hbx
        go_wp2_with fail
        go_region_held3 (fun w' => w'.cell? ⟨bb, off + k * 7, none⟩ = some (.string l[k].name) ∧ w'.cell? ⟨bb, off + k * 7 + 1, none⟩ = some (.int .i64 l[k].at_) ∧ w'.cell? ⟨w5.heap.size, 0, none⟩ = some (.int .i64 l[k].ty.kind) ∧ w'.cell? ⟨w5.heap.size, 1, none⟩ = some (.int .i64 l[k].ty.at) ∧ w'.cell? ⟨w5.heap.size, 2, none⟩ = some (.string l[k].ty.name) ∧ w'.cell? ⟨w5.heap.size, 3, none⟩ = some (.int .i64 l[k].ty.num) ∧ w'.cell? ⟨w5.heap.size, 4, none⟩ = some (.slice a5 n5 c5)) (first | go_keep | exact KEEP.out _ ((Below.refl _ _).drew) | exact KEEP.out _ HE1.out | exact KEEP2.out _ hg2) ((refine step_push rfl (.tmp 26) (.tmp 39) 50 rfl 114 i0 (.agg #[.string ByteArray.empty, .int .i64 0, .int .i64 0, .int .i64 0, .string ByteArray.empty, .int .i64 0, .slice none 0 0]) 88 Try.underlying50 hi hz0 hz1 hz2 rfl (by decide) HO3.out _ [l[k]] HONE.out (by rfl) (by rfl) HS3.out (by have := HL3.out; unfold maxLen; simp at this ⊢; omega) (by have := HL3.out; simp at this ⊢; omega) HW3.out.size ?_; intro v2 w2 hown2 hb2 hg2 hap2))
        go_wp2_with fail
        have hown3 : Own (fun b => w.heap.size ≤ b) 114 w.heap.size v2 (l.take (k + 1)) w2 := by rw [List.take_succ_eq_append_getElem hlt]; exact hown2
        have hbf := HW3.out.trans hb2
        clear hb2 hg2 hap2 hown2
        go_roundw
        case rel => exact ⟨k + 1, ⟨_, hbf⟩, by omega, by go_num, rfl, hown3, HA2⟩
        case measure => simp [intOf]; omega
    · obtain rfl : k = l.length := by omega
      rw [List.take_length] at hown HA
      have fin : Hid (res = true) := by show _ = _; rw [← HR.out, HA.out]
      have hres := hown.done.sub (S' := fun b => w.heap.size ≤ b) (fun b hb _ => hb.elim id id)
      have HX := Lib.hid x.b
      have HRES := Lib.hid hres
      go_wp2_with fail
      go_ret2
      exact ⟨_, ret_vb fin.out.symm, by rw [HTT.out (by rw [HR.out]; exact fin.out)]; exact HRES.out, HX.out⟩
end Go.Proofs.Ytffgfjnbgplckaa

namespace Go.Proofs.Ytffgfjnbgplckaa
open Go.RowKit
set_option maxRecDepth 100000
def okBs6 (l : List Bd) : Bool := l.all okB6
def cvBs6 (l : List Bd) : List Bd := if l.all okB6 then l else []
theorem cvBs6_ok {l : List Bd} (h : okBs6 l = true) : cvBs6 l = l := by unfold cvBs6; unfold okBs6 at h; rw [if_pos h]
def cvN6 (t : Nd) : Nd := (budT t 600).1
theorem cvN6_ok {t : Nd} (h : okN6 t = true) : cvN6 t = t := (ok6_same h).1
theorem lof6_p (t : Nd) : PCalls Try.prog 38 [aggD t] [] fun p s => p = .tup [aggD (cvN6 t), .d (.v (.bool (okN6 t)))] ∧ s = [] := of6_p t
theorem lbinds6_p (l : List Bd) (hl : l.length ≤ 1000) : PCalls Try.prog 76 [.d (slD l)] [] fun p s => p = .tup [.d (slD (cvBs6 l)), .d (.v (.bool (okBs6 l)))] ∧ s = [] := by
  refine PCalls.data fun K w vs ha => ?_
  obtain ⟨v, rfl, hv⟩ := ha.one
  have hv' : RepS (fun _ => True) w v l := by cases hv with | d h => exact repS_rel (by decide) h
  refine (lbinds6_any _ l v w hv' hl).mono ?_
  rintro e w' ⟨u, rfl, hr, hb⟩
  exact ⟨_, rfl, hb, fun K' hK => tup2 (agg_form hK (by decide) hr) (.d (.v trivial))⟩
def okRw6 (r : Rw) : Bool := okN6 r.body && decide (r.pats.length ≤ 30) && r.pats.all okN6
def okDc6 (d : Dc) : Bool := decide (d.tele.length ≤ 30 ∧ d.cons.length ≤ 30 ∧ d.rows.length ≤ 40) && (okBs6 d.tele && d.rows.all okRw6) && okBs6 d.cons && okN6 d.ty
def convR6 (r : Rw) (ps : List (List D)) : List D := [.v (.int .i64 r.at_), .sl ps, .v (.bool r.has), .v (.int .i64 (cvN6 r.body).kind), .v (.int .i64 (cvN6 r.body).at), .v (.string (cvN6 r.body).name), .v (.int .i64 (cvN6 r.body).num), .sl ((cvN6 r.body).sub.map encD)]
def acc6 (a : Bool) (l : List Rw) : Bool := a && l.all okRw6
def rowsI (d : Dc) (x : Nat × List (List D)) : Prop := x.1 ≤ d.rows.length ∧ x.2.length = x.1 ∧ (∀ row ∈ x.2, row.length = 8) ∧ (acc6 (okBs6 d.tele) (d.rows.take x.1) = true → x.2 = (d.rows.take x.1).map encD)
def patsI (r : Rw) (a : Bool) (x : Nat × Bool × List (List D)) : Prop := x.1 ≤ r.pats.length ∧ x.2.2.length = x.1 ∧ (∀ row ∈ x.2.2, row.length = 5) ∧ (a = true → x.2.1 = (r.pats.take x.1).all okN6) ∧ (a = false → x.2.1 = false) ∧ (x.2.1 = true → x.2.2 = (r.pats.take x.1).map encD)
def cvE (q : Nd) : List D := encD (cvN6 q)
theorem cvE_eq (q : Nd) : cvE q = [.v (.int .i64 (cvN6 q).kind), .v (.int .i64 (cvN6 q).at), .v (.string (cvN6 q).name), .v (.int .i64 (cvN6 q).num), .sl ((cvN6 q).sub.map encD)] := encD_nd _
theorem cvE_len (q : Nd) : (cvE q).length = 5 := by rw [cvE_eq]; rfl
theorem convR6_ok {r : Rw} (h : okRw6 r = true) : convR6 r (r.pats.map cvE) = encD r := by
  unfold okRw6 at h
  simp only [Bool.and_eq_true, List.all_eq_true] at h
  unfold convR6
  rw [encD_rw, cvN6_ok h.1.1]
  have : r.pats.map cvE = r.pats.map encD := List.map_congr_left fun q hq => by unfold cvE; rw [cvN6_ok (h.2 q hq)]
  rw [this]
set_option maxHeartbeats 16000000 in
theorem decl6_p (d : Dc) : PCalls Try.prog 43 [aggD d] [] fun p s => (∃ q, p = .tup [.agg q, .d (.v (.bool (okDc6 d)))] ∧ q.length = 11 ∧ q.all PV.one = true ∧ (okDc6 d = true → q = (encD d).map .d)) ∧ s = [] := by
  simp only [aggD, encD_dc, List.map_cons, List.map_nil]
  refine PCalls.enter Try.func43 rfl Try.ntmps43 (by simp) ?_
  simp only [argsF]
  repeat (first | (with_reducible first | refine Qa ?_ | refine Qb ?_ | refine Qc ?_ | refine Qd ?_ | refine Qe ?_ | refine Qf ?_ | refine Qg ?_ | refine Qh ?_ | refine Qi ?_ | refine Qj ?_ | refine Qk ?_ | refine Ql ?_ | refine Qm ?_ | refine Qn ?_ | refine Qo ?_ | refine Qp rfl ?_) | (first | refine Qq ?_ | refine Qr ?_) | (first | refine Qs ?_ | refine Qt ?_ | refine Qu ?_) | (first | refine Qv ?_ | refine Qw ?_) | (first | refine Qx ?_ | refine Qy ?_) | (first | refine Qz ?_ | refine Ra ?_ | refine Rb ?_))
  refine POps_box_a ?_
  intro i0 hi0
  refine POps_alloc_a ?_
  intro i1 hi1
  simp only [St.freshB_box, St.freshB_nil] at hi1
  repeat (first | (with_reducible first | refine Qa ?_ | refine Qb ?_ | refine Qc ?_ | refine Qd ?_ | refine Qe ?_ | refine Qf ?_ | refine Qg ?_ | refine Qh ?_ | refine Qi ?_ | refine Qj ?_ | refine Qk ?_ | refine Ql ?_ | refine Qm ?_ | refine Qn ?_ | refine Qo ?_ | refine Qp rfl ?_) | (first | refine Qq ?_ | refine Qr ?_) | (first | refine Qs ?_ | refine Qt ?_ | refine Qu ?_) | (first | refine Qv ?_ | refine Qw ?_) | (first | refine Qx ?_ | refine Qy ?_) | (first | refine Qz ?_ | refine Ra ?_ | refine Rb ?_))
  by_cases hb : d.tele.length ≤ 30 ∧ d.cons.length ≤ 30 ∧ d.rows.length ≤ 40
  rotate_left
  · have hok : okDc6 d = false := by simp [okDc6, hb]
    rcases (show 30 < d.tele.length ∨ (d.tele.length ≤ 30 ∧ 30 < d.cons.length) ∨ (d.tele.length ≤ 30 ∧ d.cons.length ≤ 30 ∧ 40 < d.rows.length) by omega) with h1 | ⟨h1, h2⟩ | ⟨h1, h2, h3⟩
    · have h1' : (30 : Int) < d.tele.length := by omega
      repeat (first | (with_reducible first | refine Qa ?_ | refine Qb ?_ | refine Qc ?_ | refine Qd ?_ | refine Qe ?_ | refine Qf ?_ | refine Qg ?_ | refine Qh ?_ | refine Qi ?_ | refine Qj ?_ | refine Qk ?_ | refine Ql ?_ | refine Qm ?_ | refine Qn ?_ | refine Qo ?_ | refine Qp rfl ?_) | (first | refine Qq ?_ | refine Qr ?_) | (first | refine Qs ?_ | refine Qt ?_ | refine Qu ?_) | (first | refine Qv ?_ | refine Qw ?_) | (first | refine Qx ?_ | refine Qy ?_) | (first | refine Qz ?_ | refine Ra ?_ | refine Rb ?_))
      refine Rc ?_
      repeat (first | (with_reducible first | refine Qa ?_ | refine Qb ?_ | refine Qc ?_ | refine Qd ?_ | refine Qe ?_ | refine Qf ?_ | refine Qg ?_ | refine Qh ?_ | refine Qi ?_ | refine Qj ?_ | refine Qk ?_ | refine Ql ?_ | refine Qm ?_ | refine Qn ?_ | refine Qo ?_ | refine Qp rfl ?_) | (first | refine Qq ?_ | refine Qr ?_) | (first | refine Qs ?_ | refine Qt ?_ | refine Qu ?_) | (first | refine Qv ?_ | refine Qw ?_) | (first | refine Qx ?_ | refine Qy ?_) | (first | refine Qz ?_ | refine Ra ?_ | refine Rb ?_))
      refine retP_ok (by simp) (by simp only [Try.results43]; rfl) (by simp [resP, St.box?, PF.get, loadB, TyK.agg, *]; rfl) (List.nil_sublist _) ?_
      rw [hok]
      exact ⟨⟨_, rfl, rfl, rfl, fun h => by cases h⟩, rfl⟩
    · have h1' : ¬ (30 : Int) < d.tele.length := by omega
      have h2' : (30 : Int) < d.cons.length := by omega
      repeat (first | (with_reducible first | refine Qa ?_ | refine Qb ?_ | refine Qc ?_ | refine Qd ?_ | refine Qe ?_ | refine Qf ?_ | refine Qg ?_ | refine Qh ?_ | refine Qi ?_ | refine Qj ?_ | refine Qk ?_ | refine Ql ?_ | refine Qm ?_ | refine Qn ?_ | refine Qo ?_ | refine Qp rfl ?_) | (first | refine Qq ?_ | refine Qr ?_) | (first | refine Qs ?_ | refine Qt ?_ | refine Qu ?_) | (first | refine Qv ?_ | refine Qw ?_) | (first | refine Qx ?_ | refine Qy ?_) | (first | refine Qz ?_ | refine Ra ?_ | refine Rb ?_))
      refine Rc ?_
      repeat (first | (with_reducible first | refine Qa ?_ | refine Qb ?_ | refine Qc ?_ | refine Qd ?_ | refine Qe ?_ | refine Qf ?_ | refine Qg ?_ | refine Qh ?_ | refine Qi ?_ | refine Qj ?_ | refine Qk ?_ | refine Ql ?_ | refine Qm ?_ | refine Qn ?_ | refine Qo ?_ | refine Qp rfl ?_) | (first | refine Qq ?_ | refine Qr ?_) | (first | refine Qs ?_ | refine Qt ?_ | refine Qu ?_) | (first | refine Qv ?_ | refine Qw ?_) | (first | refine Qx ?_ | refine Qy ?_) | (first | refine Qz ?_ | refine Ra ?_ | refine Rb ?_))
      refine retP_ok (by simp) (by simp only [Try.results43]; rfl) (by simp [resP, St.box?, PF.get, loadB, TyK.agg, *]; rfl) (List.nil_sublist _) ?_
      rw [hok]
      exact ⟨⟨_, rfl, rfl, rfl, fun h => by cases h⟩, rfl⟩
    · have h1' : ¬ (30 : Int) < d.tele.length := by omega
      have h2' : ¬ (30 : Int) < d.cons.length := by omega
      have h3' : (40 : Int) < d.rows.length := by omega
      repeat (first | (with_reducible first | refine Qa ?_ | refine Qb ?_ | refine Qc ?_ | refine Qd ?_ | refine Qe ?_ | refine Qf ?_ | refine Qg ?_ | refine Qh ?_ | refine Qi ?_ | refine Qj ?_ | refine Qk ?_ | refine Ql ?_ | refine Qm ?_ | refine Qn ?_ | refine Qo ?_ | refine Qp rfl ?_) | (first | refine Qq ?_ | refine Qr ?_) | (first | refine Qs ?_ | refine Qt ?_ | refine Qu ?_) | (first | refine Qv ?_ | refine Qw ?_) | (first | refine Qx ?_ | refine Qy ?_) | (first | refine Qz ?_ | refine Ra ?_ | refine Rb ?_))
      refine Rc ?_
      repeat (first | (with_reducible first | refine Qa ?_ | refine Qb ?_ | refine Qc ?_ | refine Qd ?_ | refine Qe ?_ | refine Qf ?_ | refine Qg ?_ | refine Qh ?_ | refine Qi ?_ | refine Qj ?_ | refine Qk ?_ | refine Ql ?_ | refine Qm ?_ | refine Qn ?_ | refine Qo ?_ | refine Qp rfl ?_) | (first | refine Qq ?_ | refine Qr ?_) | (first | refine Qs ?_ | refine Qt ?_ | refine Qu ?_) | (first | refine Qv ?_ | refine Qw ?_) | (first | refine Qx ?_ | refine Qy ?_) | (first | refine Qz ?_ | refine Ra ?_ | refine Rb ?_))
      refine retP_ok (by simp) (by simp only [Try.results43]; rfl) (by simp [resP, St.box?, PF.get, loadB, TyK.agg, *]; rfl) (List.nil_sublist _) ?_
      rw [hok]
      exact ⟨⟨_, rfl, rfl, rfl, fun h => by cases h⟩, rfl⟩
  obtain ⟨h1, h2, h3⟩ := hb
  have h1' : ¬ (30 : Int) < d.tele.length := by omega
  have h2' : ¬ (30 : Int) < d.cons.length := by omega
  have h3' : ¬ (40 : Int) < d.rows.length := by omega
  repeat (first | (with_reducible first | refine Qa ?_ | refine Qb ?_ | refine Qc ?_ | refine Qd ?_ | refine Qe ?_ | refine Qf ?_ | refine Qg ?_ | refine Qh ?_ | refine Qi ?_ | refine Qj ?_ | refine Qk ?_ | refine Ql ?_ | refine Qm ?_ | refine Qn ?_ | refine Qo ?_ | refine Qp rfl ?_) | (first | refine Qq ?_ | refine Qr ?_) | (first | refine Qs ?_ | refine Qt ?_ | refine Qu ?_) | (first | refine Qv ?_ | refine Qw ?_) | (first | refine Qx ?_ | refine Qy ?_) | (first | refine Qz ?_ | refine Ra ?_ | refine Rb ?_))
  refine POps_call_a (lbinds6_p d.tele (by omega)) ?_
  repeat (first | (with_reducible first | refine Qa ?_ | refine Qb ?_ | refine Qc ?_ | refine Qd ?_ | refine Qe ?_ | refine Qf ?_ | refine Qg ?_ | refine Qh ?_ | refine Qi ?_ | refine Qj ?_ | refine Qk ?_ | refine Ql ?_ | refine Qm ?_ | refine Qn ?_ | refine Qo ?_ | refine Qp rfl ?_) | (first | refine Qq ?_ | refine Qr ?_) | (first | refine Qs ?_ | refine Qt ?_ | refine Qu ?_) | (first | refine Qv ?_ | refine Qw ?_) | (first | refine Qx ?_ | refine Qy ?_) | (first | refine Qz ?_ | refine Ra ?_ | refine Rb ?_))
  refine POps_call_a (lbinds6_p d.cons (by omega)) ?_
  repeat (first | (with_reducible first | refine Qa ?_ | refine Qb ?_ | refine Qc ?_ | refine Qd ?_ | refine Qe ?_ | refine Qf ?_ | refine Qg ?_ | refine Qh ?_ | refine Qi ?_ | refine Qj ?_ | refine Qk ?_ | refine Ql ?_ | refine Qm ?_ | refine Qn ?_ | refine Qo ?_ | refine Qp rfl ?_) | (first | refine Qq ?_ | refine Qr ?_) | (first | refine Qs ?_ | refine Qt ?_ | refine Qu ?_) | (first | refine Qv ?_ | refine Qw ?_) | (first | refine Qx ?_ | refine Qy ?_) | (first | refine Qz ?_ | refine Ra ?_ | refine Rb ?_))
  refine POps_call_a (lof6_p d.ty) ?_
  repeat (first | (with_reducible first | refine Qa ?_ | refine Qb ?_ | refine Qc ?_ | refine Qd ?_ | refine Qe ?_ | refine Qf ?_ | refine Qg ?_ | refine Qh ?_ | refine Qi ?_ | refine Qj ?_ | refine Qk ?_ | refine Ql ?_ | refine Qm ?_ | refine Qn ?_ | refine Qo ?_ | refine Qp rfl ?_) | (first | refine Qq ?_ | refine Qr ?_) | (first | refine Qs ?_ | refine Qt ?_ | refine Qu ?_) | (first | refine Qv ?_ | refine Qw ?_) | (first | refine Qx ?_ | refine Qy ?_) | (first | refine Qz ?_ | refine Ra ?_ | refine Rb ?_))
  refine POps_alloc_a ?_
  intro i2 hi2
  simp only [St.freshB_box, St.freshB_nil] at hi2
  repeat (first | (with_reducible first | refine Qa ?_ | refine Qb ?_ | refine Qc ?_ | refine Qd ?_ | refine Qe ?_ | refine Qf ?_ | refine Qg ?_ | refine Qh ?_ | refine Qi ?_ | refine Qj ?_ | refine Qk ?_ | refine Ql ?_ | refine Qm ?_ | refine Qn ?_ | refine Qo ?_ | refine Qp rfl ?_) | (first | refine Qq ?_ | refine Qr ?_) | (first | refine Qs ?_ | refine Qt ?_ | refine Qu ?_) | (first | refine Qv ?_ | refine Qw ?_) | (first | refine Qx ?_ | refine Qy ?_) | (first | refine Qz ?_ | refine Ra ?_ | refine Rb ?_))
  refine Rc ?_
  repeat (first | (with_reducible first | refine Qa ?_ | refine Qb ?_ | refine Qc ?_ | refine Qd ?_ | refine Qe ?_ | refine Qf ?_ | refine Qg ?_ | refine Qh ?_ | refine Qi ?_ | refine Qj ?_ | refine Qk ?_ | refine Ql ?_ | refine Qm ?_ | refine Qn ?_ | refine Qo ?_ | refine Qp rfl ?_) | (first | refine Qq ?_ | refine Qr ?_) | (first | refine Qs ?_ | refine Qt ?_ | refine Qu ?_) | (first | refine Qv ?_ | refine Qw ?_) | (first | refine Qx ?_ | refine Qy ?_) | (first | refine Qz ?_ | refine Ra ?_ | refine Rb ?_))
  refine POps_alloc_a ?_
  intro i3 hi3
  simp only [St.freshB_box, St.freshB_nil] at hi3
  repeat (first | (with_reducible first | refine Qa ?_ | refine Qb ?_ | refine Qc ?_ | refine Qd ?_ | refine Qe ?_ | refine Qf ?_ | refine Qg ?_ | refine Qh ?_ | refine Qi ?_ | refine Qj ?_ | refine Qk ?_ | refine Ql ?_ | refine Qm ?_ | refine Qn ?_ | refine Qo ?_ | refine Qp rfl ?_) | (first | refine Qq ?_ | refine Qr ?_) | (first | refine Qs ?_ | refine Qt ?_ | refine Qu ?_) | (first | refine Qv ?_ | refine Qw ?_) | (first | refine Qx ?_ | refine Qy ?_) | (first | refine Qz ?_ | refine Ra ?_ | refine Rb ?_))
  refine Rc ?_
  repeat (first | (with_reducible first | refine Qa ?_ | refine Qb ?_ | refine Qc ?_ | refine Qd ?_ | refine Qe ?_ | refine Qf ?_ | refine Qg ?_ | refine Qh ?_ | refine Qi ?_ | refine Qj ?_ | refine Qk ?_ | refine Ql ?_ | refine Qm ?_ | refine Qn ?_ | refine Qo ?_ | refine Qp rfl ?_) | (first | refine Qq ?_ | refine Qr ?_) | (first | refine Qs ?_ | refine Qt ?_ | refine Qu ?_) | (first | refine Qv ?_ | refine Qw ?_) | (first | refine Qx ?_ | refine Qy ?_) | (first | refine Qz ?_ | refine Ra ?_ | refine Rb ?_))
  refine PW_ownB i3 10 86 8 (by simp [nev, nevA, nevB, evBuild, PF.eval, PF.get, PF.wants, cPV, cCell, PV.rows, evBin, evUn, evConv, evLen, loadA, loadB, TyK.agg, partA, St.box?, St.tok?, St.setBox, St.setTok, fillO, spl, PV.ps, PV.one, evalArgs, aggD, slD, encD_nd, encD_bd, encD_rw, encD_dc, encD_str, encD_int, *]; rfl) (by rfl) (by rfl) (by intro g; simp [St.setBox, *]; rfl) (by decide) ?_
  intro g hg
  refine PW_loop (ι := Nat × List (List D)) (rowsI d) (fun x => [(1, .ptr i0 0), (2, .ptr i1 0), (5, .d (.v (.bool (acc6 (okBs6 d.tele) (d.rows.take x.1))))), (7, .d (.v (.bool (okBs6 d.cons)))), (9, .d (.v (.bool (okN6 d.ty)))), (10, .ptr i3 0), (11, .d (.v (.int .i64 x.1)))])
    (fun x => [.tok g 86 8 x.1, .box i3 53 [.d (.v (.int .i64 d.kind)), .d (.v (.int .i64 d.at_)), .d (.v (.string d.name)), .d (.sl ((cvBs6 d.tele).map encD)), .d (.v (.int .i64 (cvN6 d.ty).kind)), .d (.v (.int .i64 (cvN6 d.ty).at)), .d (.v (.string (cvN6 d.ty).name)), .d (.v (.int .i64 (cvN6 d.ty).num)), .d (.sl ((cvN6 d.ty).sub.map encD)), .d (.sl ((cvBs6 d.cons).map encD)), .own g x.2], .box i1 53 [.d (.v (.int .i64 0)), .d (.v (.int .i64 0)), .d (.v (.string ByteArray.empty)), .nils, .d (.v (.int .i64 0)), .d (.v (.int .i64 0)), .d (.v (.string ByteArray.empty)), .d (.v (.int .i64 0)), .nils, .nils, .nils], .box i0 49 [.d (.v (.int .i64 d.kind)), .d (.v (.int .i64 d.at_)), .d (.v (.string d.name)), .d (.sl (d.tele.map encD)), .d (.v (.int .i64 d.ty.kind)), .d (.v (.int .i64 d.ty.at)), .d (.v (.string d.ty.name)), .d (.v (.int .i64 d.ty.num)), .d (.sl (d.ty.sub.map encD)), .d (.sl (d.cons.map encD)), .d (.sl (d.rows.map encD))]])
    (fun x => d.rows.length - x.1) (0, []) ⟨Nat.zero_le _, rfl, by simp, fun _ => rfl⟩ ?_ ?_ ?_
  · repeat (first | exact sub_nil _ | refine sub_cons (by simp [PF.get]; rfl) (by first | rfl | (simp [acc6]; done) | fail) ?_)
  · repeat (first | exact List.Sublist.refl _ | exact List.nil_sublist _ | refine List.Sublist.cons_cons _ ?_ | refine List.Sublist.cons _ ?_)
  · rintro ⟨k, rs⟩ hI
    have HI := Lib.hid hI
    have hk : k ≤ d.rows.length := hI.1
    have hrl : rs.length = k := hI.2.1
    clear hI
    simp only at *
    by_cases hlt : k < d.rows.length
    · have hx : (d.rows.map encD)[k]? = some (encD d.rows[k]) := get_enc hlt
      have hc : ((k : Int) < (d.rows.length : Int)) := by omega
      have hn : (0 : Int) ≤ (k : Int) := by omega
      have hin := wrap_next hlt (by omega)
      have HACC := Lib.hid (show acc6 (okBs6 d.tele) (d.rows.take (k + 1)) = (acc6 (okBs6 d.tele) (d.rows.take k) && okRw6 d.rows[k]) by
        simp only [acc6]
        rw [List.take_succ_eq_append_getElem hlt, List.all_append]
        simp [Bool.and_assoc])
      have HR := Lib.hid (show okRw6 d.rows[k] = (okN6 d.rows[k].body && decide (d.rows[k].pats.length ≤ 30) && d.rows[k].pats.all okN6) from rfl)
      generalize hA0 : acc6 (okBs6 d.tele) (d.rows.take k) = A at *
      have HA0 := Lib.hid hA0
      clear hA0
      repeat (first | (with_reducible first | refine Qa ?_ | refine Qb ?_ | refine Qc ?_ | refine Qd ?_ | refine Qe ?_ | refine Qf ?_ | refine Qg ?_ | refine Qh ?_ | refine Qi ?_ | refine Qj ?_ | refine Qk ?_ | refine Ql ?_ | refine Qm ?_ | refine Qn ?_ | refine Qo ?_ | refine Qp rfl ?_) | (first | refine Qq ?_ | refine Qr ?_) | (first | refine Qs ?_ | refine Qt ?_ | refine Qu ?_) | (first | refine Qv ?_ | refine Qw ?_) | (first | refine Qx ?_ | refine Qy ?_) | (first | refine Qz ?_ | refine Ra ?_ | refine Rb ?_))
      refine POps_call_a (lof6_p d.rows[k].body) ?_
      repeat (first | (with_reducible first | refine Qa ?_ | refine Qb ?_ | refine Qc ?_ | refine Qd ?_ | refine Qe ?_ | refine Qf ?_ | refine Qg ?_ | refine Qh ?_ | refine Qi ?_ | refine Qj ?_ | refine Qk ?_ | refine Ql ?_ | refine Qm ?_ | refine Qn ?_ | refine Qo ?_ | refine Qp rfl ?_) | (first | refine Qq ?_ | refine Qr ?_) | (first | refine Qs ?_ | refine Qt ?_ | refine Qu ?_) | (first | refine Qv ?_ | refine Qw ?_) | (first | refine Qx ?_ | refine Qy ?_) | (first | refine Qz ?_ | refine Ra ?_ | refine Rb ?_))
      refine POps_alloc_a ?_
      intro i4 hi4
      simp only [St.freshB_box, St.freshB_nil, St.freshB_tok] at hi4
      repeat (first | (with_reducible first | refine Qa ?_ | refine Qb ?_ | refine Qc ?_ | refine Qd ?_ | refine Qe ?_ | refine Qf ?_ | refine Qg ?_ | refine Qh ?_ | refine Qi ?_ | refine Qj ?_ | refine Qk ?_ | refine Ql ?_ | refine Qm ?_ | refine Qn ?_ | refine Qo ?_ | refine Qp rfl ?_) | (first | refine Qq ?_ | refine Qr ?_) | (first | refine Qs ?_ | refine Qt ?_ | refine Qu ?_) | (first | refine Qv ?_ | refine Qw ?_) | (first | refine Qx ?_ | refine Qy ?_) | (first | refine Qz ?_ | refine Ra ?_ | refine Rb ?_))
      refine Rc ?_
      repeat (first | (with_reducible first | refine Qa ?_ | refine Qb ?_ | refine Qc ?_ | refine Qd ?_ | refine Qe ?_ | refine Qf ?_ | refine Qg ?_ | refine Qh ?_ | refine Qi ?_ | refine Qj ?_ | refine Qk ?_ | refine Ql ?_ | refine Qm ?_ | refine Qn ?_ | refine Qo ?_ | refine Qp rfl ?_) | (first | refine Qq ?_ | refine Qr ?_) | (first | refine Qs ?_ | refine Qt ?_ | refine Qu ?_) | (first | refine Qv ?_ | refine Qw ?_) | (first | refine Qx ?_ | refine Qy ?_) | (first | refine Qz ?_ | refine Ra ?_ | refine Rb ?_))
      refine PW_drawnJ (J := keepJ [(i0, _), (i4, _)]) [(0, .a), (1, .a), (2, .a), (3, .a), (4, .a), (5, .a), (6, .a), (7, .a), (8, .a), (9, .a), (10, .a), (11, .a), (12, .a), (13, .a), (14, .e), (15, .e)] (by kernel_rfl) (by rfl) (by kernel_rfl) (by (repeat (first | exact keepJ_nil _ | refine keepJ_cons (by simp [St.box?, *] <;> rfl) ?_))) ?_
      repeat (first | with_reducible refine PJ_nil ?_ | refine PJ_gn2 ?_ | refine PJ_s2 ?_ | refine PJ_b2 ?_)
      refine PJ_alloc rfl (by decide) rfl (by simp; rfl) (fun i hi => by simp only [St.freshB_box, St.freshB_nil, St.freshB_tok] at hi; (repeat (first | exact keepJ_nil _ | refine keepJ_cons (by simp [St.box?, *] <;> rfl) ?_))) ?_
      intro i5 hi5
      simp only [St.freshB_box, St.freshB_nil, St.freshB_tok] at hi5
      refine PJ_store rfl rfl (by simp [nev, nevA, nevB, evBuild, PF.eval, PF.get, PF.wants, cPV, cCell, PV.rows, evBin, evUn, evConv, evLen, loadA, loadB, TyK.agg, partA, St.box?, St.tok?, St.setBox, St.setTok, fillO, spl, PV.ps, PV.one, evalArgs, aggD, slD, encD_nd, encD_bd, encD_rw, encD_dc, encD_str, encD_int, *]; rfl) (by rfl) (by simp [nev, nevA, nevB, evBuild, PF.eval, PF.get, PF.wants, cPV, cCell, PV.rows, evBin, evUn, evConv, evLen, loadA, loadB, TyK.agg, partA, St.box?, St.tok?, St.setBox, St.setTok, fillO, spl, PV.ps, PV.one, evalArgs, aggD, slD, encD_nd, encD_bd, encD_rw, encD_dc, encD_str, encD_int, *]; rfl) (by simp [PV.ps, aggD, slD, encD_nd, encD_bd, encD_rw, encD_dc, encD_str, encD_int]; rfl) (by first | rfl | (simp [*]; done) | (simp [PV.one, *]; done) | fail) (by simp; rfl) (by first | (simp; done) | fail) (by simp [nev, nevA, nevB, evBuild, PF.eval, PF.get, PF.wants, cPV, cCell, PV.rows, evBin, evUn, evConv, evLen, loadA, loadB, TyK.agg, partA, St.box?, St.tok?, St.setBox, St.setTok, fillO, spl, PV.ps, PV.one, evalArgs, aggD, slD, encD_nd, encD_bd, encD_rw, encD_dc, encD_str, encD_int, *]; rfl) (by rfl) (by first | (simp; done) | fail) (by simp [St.setBox, spl, *]; rfl) (by (repeat (first | exact keepJ_nil _ | refine keepJ_cons (by simp [St.box?, *] <;> rfl) ?_))) ?_
      repeat (first | with_reducible refine PJ_nil ?_ | refine PJ_gn2 ?_ | refine PJ_s2 ?_ | refine PJ_b2 ?_)
      repeat (first | (with_reducible first | refine Qa ?_ | refine Qb ?_ | refine Qc ?_ | refine Qd ?_ | refine Qe ?_ | refine Qf ?_ | refine Qg ?_ | refine Qh ?_ | refine Qi ?_ | refine Qj ?_ | refine Qk ?_ | refine Ql ?_ | refine Qm ?_ | refine Qn ?_ | refine Qo ?_ | refine Qp rfl ?_) | (first | refine Qq ?_ | refine Qr ?_) | (first | refine Qs ?_ | refine Qt ?_ | refine Qu ?_) | (first | refine Qv ?_ | refine Qw ?_) | (first | refine Qx ?_ | refine Qy ?_) | (first | refine Qz ?_ | refine Ra ?_ | refine Rb ?_))
      generalize hF : okN6 d.rows[k].body = Fb at *
      have HF := Lib.hid hF
      clear hF
      by_cases hall : A = true ∧ Fb = true ∧ d.rows[k].pats.length ≤ 30
      · obtain ⟨rfl, rfl, hp⟩ := hall
        have hp' : (d.rows[k].pats.length : Int) ≤ 30 := by omega
        repeat (first | (with_reducible first | refine Qa ?_ | refine Qb ?_ | refine Qc ?_ | refine Qd ?_ | refine Qe ?_ | refine Qf ?_ | refine Qg ?_ | refine Qh ?_ | refine Qi ?_ | refine Qj ?_ | refine Qk ?_ | refine Ql ?_ | refine Qm ?_ | refine Qn ?_ | refine Qo ?_ | refine Qp rfl ?_) | (first | refine Qq ?_ | refine Qr ?_) | (first | refine Qs ?_ | refine Qt ?_ | refine Qu ?_) | (first | refine Qv ?_ | refine Qw ?_) | (first | refine Qx ?_ | refine Qy ?_) | (first | refine Qz ?_ | refine Ra ?_ | refine Rb ?_))
        refine PW_ownB i5 1 27 5 (by simp [nev, nevA, nevB, evBuild, PF.eval, PF.get, PF.wants, cPV, cCell, PV.rows, evBin, evUn, evConv, evLen, loadA, loadB, TyK.agg, partA, St.box?, St.tok?, St.setBox, St.setTok, fillO, spl, PV.ps, PV.one, evalArgs, aggD, slD, encD_nd, encD_bd, encD_rw, encD_dc, encD_str, encD_int, *]; rfl) (by rfl) (by rfl) (by intro g; simp [St.setBox, *]; rfl) (by decide) ?_
        intro g2 hg2
        simp only [St.freshT_tok, St.freshT_box, St.freshT_nil] at hg2
        refine PW_loop (ι := Nat × Bool) (fun x => x.1 ≤ d.rows[k].pats.length ∧ x.2 = (d.rows[k].pats.take x.1).all okN6) (fun x => [(1, .ptr i0 0), (2, .ptr i1 0), (5, .d (.v (.bool x.2))), (7, .d (.v (.bool (okBs6 d.cons)))), (9, .d (.v (.bool (okN6 d.ty)))), (10, .ptr i3 0), (11, .d (.v (.int .i64 k))), (14, .ptr i5 0), (15, .d (.v (.int .i64 x.1)))])
          (fun x => [.tok g2 27 5 x.1, .box i5 86 [.d (.v (.int .i64 d.rows[k].at_)), .own g2 ((d.rows[k].pats.map cvE).take x.1), .d (.v (.bool d.rows[k].has)), .d (.v (.int .i64 (cvN6 d.rows[k].body).kind)), .d (.v (.int .i64 (cvN6 d.rows[k].body).at)), .d (.v (.string (cvN6 d.rows[k].body).name)), .d (.v (.int .i64 (cvN6 d.rows[k].body).num)), .d (.sl ((cvN6 d.rows[k].body).sub.map encD))], .tok g 86 8 k, .box i3 53 [.d (.v (.int .i64 d.kind)), .d (.v (.int .i64 d.at_)), .d (.v (.string d.name)), .d (.sl ((cvBs6 d.tele).map encD)), .d (.v (.int .i64 (cvN6 d.ty).kind)), .d (.v (.int .i64 (cvN6 d.ty).at)), .d (.v (.string (cvN6 d.ty).name)), .d (.v (.int .i64 (cvN6 d.ty).num)), .d (.sl ((cvN6 d.ty).sub.map encD)), .d (.sl ((cvBs6 d.cons).map encD)), .own g rs], .box i1 53 [.d (.v (.int .i64 0)), .d (.v (.int .i64 0)), .d (.v (.string ByteArray.empty)), .nils, .d (.v (.int .i64 0)), .d (.v (.int .i64 0)), .d (.v (.string ByteArray.empty)), .d (.v (.int .i64 0)), .nils, .nils, .nils], .box i0 49 [.d (.v (.int .i64 d.kind)), .d (.v (.int .i64 d.at_)), .d (.v (.string d.name)), .d (.sl (d.tele.map encD)), .d (.v (.int .i64 d.ty.kind)), .d (.v (.int .i64 d.ty.at)), .d (.v (.string d.ty.name)), .d (.v (.int .i64 d.ty.num)), .d (.sl (d.ty.sub.map encD)), .d (.sl (d.cons.map encD)), .d (.sl (d.rows.map encD))]])
          (fun x => d.rows[k].pats.length - x.1) (0, true) ⟨Nat.zero_le _, rfl⟩ ?_ ?_ ?_
        · repeat (first | exact sub_nil _ | refine sub_cons (by simp [PF.get]; rfl) (by first | rfl | (simp [*]; done) | fail) ?_)
        · repeat (first | exact List.Sublist.refl _ | exact List.nil_sublist _ | refine List.Sublist.cons_cons _ ?_ | refine List.Sublist.cons _ ?_)
        · rintro ⟨m, a⟩ ⟨hm, hA⟩
          simp only at hm hA ⊢
          by_cases hml : m < d.rows[k].pats.length
          · have hcm : (m : Int) < (d.rows[k].pats.length : Int) := by omega
            have hnm : (0 : Int) ≤ (m : Int) := by omega
            have hxm : (d.rows[k].pats.map encD)[m]? = some (encD d.rows[k].pats[m]) := get_enc hml
            have hinm := wrap_next hml (by omega)
            have HAm := Lib.hid (show (d.rows[k].pats.take (m + 1)).all okN6 = (a && okN6 d.rows[k].pats[m]) by
              rw [List.take_succ_eq_append_getElem hml, List.all_append, ← hA]; simp)
            have HPm := Lib.hid (show (d.rows[k].pats.map cvE).take (m + 1) = (d.rows[k].pats.map cvE).take m ++ [cvE d.rows[k].pats[m]] by
              rw [List.take_succ_eq_append_getElem (by simpa using hml)]; simp)
            rw [cvE_eq d.rows[k].pats[m]] at HPm
            have HA := Lib.hid hA
            clear hA
            cases a with
            | true =>
              repeat (first | (with_reducible first | refine Qa ?_ | refine Qb ?_ | refine Qc ?_ | refine Qd ?_ | refine Qe ?_ | refine Qf ?_ | refine Qg ?_ | refine Qh ?_ | refine Qi ?_ | refine Qj ?_ | refine Qk ?_ | refine Ql ?_ | refine Qm ?_ | refine Qn ?_ | refine Qo ?_ | refine Qp rfl ?_) | (first | refine Qq ?_ | refine Qr ?_) | (first | refine Qs ?_ | refine Qt ?_ | refine Qu ?_) | (first | refine Qv ?_ | refine Qw ?_) | (first | refine Qx ?_ | refine Qy ?_) | (first | refine Qz ?_ | refine Ra ?_ | refine Rb ?_))
              refine POps_call_a (lof6_p d.rows[k].pats[m]) ?_
              repeat (first | (with_reducible first | refine Qa ?_ | refine Qb ?_ | refine Qc ?_ | refine Qd ?_ | refine Qe ?_ | refine Qf ?_ | refine Qg ?_ | refine Qh ?_ | refine Qi ?_ | refine Qj ?_ | refine Qk ?_ | refine Ql ?_ | refine Qm ?_ | refine Qn ?_ | refine Qo ?_ | refine Qp rfl ?_) | (first | refine Qq ?_ | refine Qr ?_) | (first | refine Qs ?_ | refine Qt ?_ | refine Qu ?_) | (first | refine Qv ?_ | refine Qw ?_) | (first | refine Qx ?_ | refine Qy ?_) | (first | refine Qz ?_ | refine Ra ?_ | refine Rb ?_))
              refine POps_alloc_a ?_
              intro i6 hi6
              simp only [St.freshB_box, St.freshB_nil, St.freshB_tok] at hi6
              repeat (first | (with_reducible first | refine Qa ?_ | refine Qb ?_ | refine Qc ?_ | refine Qd ?_ | refine Qe ?_ | refine Qf ?_ | refine Qg ?_ | refine Qh ?_ | refine Qi ?_ | refine Qj ?_ | refine Qk ?_ | refine Ql ?_ | refine Qm ?_ | refine Qn ?_ | refine Qo ?_ | refine Qp rfl ?_) | (first | refine Qq ?_ | refine Qr ?_) | (first | refine Qs ?_ | refine Qt ?_ | refine Qu ?_) | (first | refine Qv ?_ | refine Qw ?_) | (first | refine Qx ?_ | refine Qy ?_) | (first | refine Qz ?_ | refine Ra ?_ | refine Rb ?_))
              refine Rc ?_
              repeat (first | (with_reducible first | refine Qa ?_ | refine Qb ?_ | refine Qc ?_ | refine Qd ?_ | refine Qe ?_ | refine Qf ?_ | refine Qg ?_ | refine Qh ?_ | refine Qi ?_ | refine Qj ?_ | refine Qk ?_ | refine Ql ?_ | refine Qm ?_ | refine Qn ?_ | refine Qo ?_ | refine Qp rfl ?_) | (first | refine Qq ?_ | refine Qr ?_) | (first | refine Qs ?_ | refine Qt ?_ | refine Qu ?_) | (first | refine Qv ?_ | refine Qw ?_) | (first | refine Qx ?_ | refine Qy ?_) | (first | refine Qz ?_ | refine Ra ?_ | refine Rb ?_))
              refine POps_bs_a ?_
              refine POps_app_a (m + 1) ?_ ?_ ?_ ?_
              · simp; omega
              · exact rows_take cvE_len
              · exact rows_one rfl
              repeat (first | (with_reducible first | refine Qa ?_ | refine Qb ?_ | refine Qc ?_ | refine Qd ?_ | refine Qe ?_ | refine Qf ?_ | refine Qg ?_ | refine Qh ?_ | refine Qi ?_ | refine Qj ?_ | refine Qk ?_ | refine Ql ?_ | refine Qm ?_ | refine Qn ?_ | refine Qo ?_ | refine Qp rfl ?_) | (first | refine Qq ?_ | refine Qr ?_) | (first | refine Qs ?_ | refine Qt ?_ | refine Qu ?_) | (first | refine Qv ?_ | refine Qw ?_) | (first | refine Qx ?_ | refine Qy ?_) | (first | refine Qz ?_ | refine Ra ?_ | refine Rb ?_))
              refine Rc ?_
              repeat (first | (with_reducible first | refine Qa ?_ | refine Qb ?_ | refine Qc ?_ | refine Qd ?_ | refine Qe ?_ | refine Qf ?_ | refine Qg ?_ | refine Qh ?_ | refine Qi ?_ | refine Qj ?_ | refine Qk ?_ | refine Ql ?_ | refine Qm ?_ | refine Qn ?_ | refine Qo ?_ | refine Qp rfl ?_) | (first | refine Qq ?_ | refine Qr ?_) | (first | refine Qs ?_ | refine Qt ?_ | refine Qu ?_) | (first | refine Qv ?_ | refine Qw ?_) | (first | refine Qx ?_ | refine Qy ?_) | (first | refine Qz ?_ | refine Ra ?_ | refine Rb ?_))
              refine ⟨(m + 1, okN6 d.rows[k].pats[m]), ⟨hml, by rw [HAm.out]; rfl⟩, by simp only; omega, ?_, ?_⟩
              · simp only
                repeat (first | exact sub_nil _ | refine sub_cons (by simp [PF.get]; rfl) (by first | rfl | (simp [hinm]; done) | fail) ?_)
              · simp only
                rw [HPm.out]
                repeat (first | exact List.Sublist.refl _ | exact List.nil_sublist _ | refine List.Sublist.cons_cons _ ?_ | refine List.Sublist.cons _ ?_)
            | false =>
              have HB := Lib.hid (show (true && okRw6 d.rows[k]) = false by
                rw [HR.out]
                have : d.rows[k].pats.all okN6 = false := by
                  rw [← List.take_append_drop m d.rows[k].pats, List.all_append, ← HA.out]; rfl
                rw [this]; simp)
              repeat (first | (with_reducible first | refine Qa ?_ | refine Qb ?_ | refine Qc ?_ | refine Qd ?_ | refine Qe ?_ | refine Qf ?_ | refine Qg ?_ | refine Qh ?_ | refine Qi ?_ | refine Qj ?_ | refine Qk ?_ | refine Ql ?_ | refine Qm ?_ | refine Qn ?_ | refine Qo ?_ | refine Qp rfl ?_) | (first | refine Qq ?_ | refine Qr ?_) | (first | refine Qs ?_ | refine Qt ?_ | refine Qu ?_) | (first | refine Qv ?_ | refine Qw ?_) | (first | refine Qx ?_ | refine Qy ?_) | (first | refine Qz ?_ | refine Ra ?_ | refine Rb ?_))
              refine POps_bs_a ?_
              refine POps_app_a (k + 1) ?_ ?_ ?_ ?_
              · simp [hrl]
              · exact HI.out.2.2.1
              · exact rows_one rfl
              repeat (first | (with_reducible first | refine Qa ?_ | refine Qb ?_ | refine Qc ?_ | refine Qd ?_ | refine Qe ?_ | refine Qf ?_ | refine Qg ?_ | refine Qh ?_ | refine Qi ?_ | refine Qj ?_ | refine Qk ?_ | refine Ql ?_ | refine Qm ?_ | refine Qn ?_ | refine Qo ?_ | refine Qp rfl ?_) | (first | refine Qq ?_ | refine Qr ?_) | (first | refine Qs ?_ | refine Qt ?_ | refine Qu ?_) | (first | refine Qv ?_ | refine Qw ?_) | (first | refine Qx ?_ | refine Qy ?_) | (first | refine Qz ?_ | refine Ra ?_ | refine Rb ?_))
              refine Rc ?_
              repeat (first | (with_reducible first | refine Qa ?_ | refine Qb ?_ | refine Qc ?_ | refine Qd ?_ | refine Qe ?_ | refine Qf ?_ | refine Qg ?_ | refine Qh ?_ | refine Qi ?_ | refine Qj ?_ | refine Qk ?_ | refine Ql ?_ | refine Qm ?_ | refine Qn ?_ | refine Qo ?_ | refine Qp rfl ?_) | (first | refine Qq ?_ | refine Qr ?_) | (first | refine Qs ?_ | refine Qt ?_ | refine Qu ?_) | (first | refine Qv ?_ | refine Qw ?_) | (first | refine Qx ?_ | refine Qy ?_) | (first | refine Qz ?_ | refine Ra ?_ | refine Rb ?_))
              refine ⟨(k + 1, rs ++ [convR6 d.rows[k] ((d.rows[k].pats.map cvE).take m)]), ⟨hlt, by simp [hrl], ?_, ?_⟩, by simp only; omega, ?_, ?_⟩
              · intro row hrow
                rcases List.mem_append.1 hrow with hrow | hrow
                · exact HI.out.2.2.1 row hrow
                · rw [List.mem_singleton.1 hrow]; rfl
              · exact fun h => by simp only at h; rw [HACC.out, HB.out] at h; cases h
              · simp only
                repeat (first | exact sub_nil _ | refine sub_cons (by simp [PF.get]; rfl) (by first | rfl | (simp [HACC.out, HB.out, hin]; done) | fail) ?_)
              · simp only
                repeat (first | exact List.Sublist.refl _ | exact List.nil_sublist _ | refine List.Sublist.cons_cons _ ?_ | refine List.Sublist.cons _ ?_)
          · have hml' : m = d.rows[k].pats.length := by omega
            have hcm : ¬ ((m : Int) < (d.rows[k].pats.length : Int)) := by omega
            have HM := Lib.hid (show (d.rows[k].pats.map cvE).take m = d.rows[k].pats.map cvE from List.take_of_length_le (by rw [List.length_map]; omega))
            have HB := Lib.hid (show okRw6 d.rows[k] = a by
              rw [HR.out, hA, List.take_of_length_le (by omega), decide_eq_true hp]; rfl)
            clear hA hml'
            repeat (first | (with_reducible first | refine Qa ?_ | refine Qb ?_ | refine Qc ?_ | refine Qd ?_ | refine Qe ?_ | refine Qf ?_ | refine Qg ?_ | refine Qh ?_ | refine Qi ?_ | refine Qj ?_ | refine Qk ?_ | refine Ql ?_ | refine Qm ?_ | refine Qn ?_ | refine Qo ?_ | refine Qp rfl ?_) | (first | refine Qq ?_ | refine Qr ?_) | (first | refine Qs ?_ | refine Qt ?_ | refine Qu ?_) | (first | refine Qv ?_ | refine Qw ?_) | (first | refine Qx ?_ | refine Qy ?_) | (first | refine Qz ?_ | refine Ra ?_ | refine Rb ?_))
            refine POps_bs_a ?_
            refine POps_app_a (k + 1) ?_ ?_ ?_ ?_
            · simp [hrl]
            · exact HI.out.2.2.1
            · exact rows_one rfl
            repeat (first | (with_reducible first | refine Qa ?_ | refine Qb ?_ | refine Qc ?_ | refine Qd ?_ | refine Qe ?_ | refine Qf ?_ | refine Qg ?_ | refine Qh ?_ | refine Qi ?_ | refine Qj ?_ | refine Qk ?_ | refine Ql ?_ | refine Qm ?_ | refine Qn ?_ | refine Qo ?_ | refine Qp rfl ?_) | (first | refine Qq ?_ | refine Qr ?_) | (first | refine Qs ?_ | refine Qt ?_ | refine Qu ?_) | (first | refine Qv ?_ | refine Qw ?_) | (first | refine Qx ?_ | refine Qy ?_) | (first | refine Qz ?_ | refine Ra ?_ | refine Rb ?_))
            refine Rc ?_
            repeat (first | (with_reducible first | refine Qa ?_ | refine Qb ?_ | refine Qc ?_ | refine Qd ?_ | refine Qe ?_ | refine Qf ?_ | refine Qg ?_ | refine Qh ?_ | refine Qi ?_ | refine Qj ?_ | refine Qk ?_ | refine Ql ?_ | refine Qm ?_ | refine Qn ?_ | refine Qo ?_ | refine Qp rfl ?_) | (first | refine Qq ?_ | refine Qr ?_) | (first | refine Qs ?_ | refine Qt ?_ | refine Qu ?_) | (first | refine Qv ?_ | refine Qw ?_) | (first | refine Qx ?_ | refine Qy ?_) | (first | refine Qz ?_ | refine Ra ?_ | refine Rb ?_))
            refine ⟨(k + 1, rs ++ [convR6 d.rows[k] ((d.rows[k].pats.map cvE).take m)]), ⟨hlt, by simp [hrl], ?_, ?_⟩, by simp only; omega, ?_, ?_⟩
            · intro row hrow
              rcases List.mem_append.1 hrow with hrow | hrow
              · exact HI.out.2.2.1 row hrow
              · rw [List.mem_singleton.1 hrow]; rfl
            · intro h
              simp only at h ⊢
              rw [HACC.out] at h
              simp only [Bool.true_and] at h
              have e := HI.out.2.2.2 HA0.out
              simp only at e
              rw [e, HM.out, convR6_ok h, List.take_succ_eq_append_getElem hlt, List.map_append]
              rfl
            · simp only
              repeat (first | exact sub_nil _ | refine sub_cons (by simp [PF.get]; rfl) (by first | rfl | (simp [HACC.out, HB.out, hin]; done) | fail) ?_)
            · simp only
              repeat (first | exact List.Sublist.refl _ | exact List.nil_sublist _ | refine List.Sublist.cons_cons _ ?_ | refine List.Sublist.cons _ ?_)
      · have HB := Lib.hid (show (A && okRw6 d.rows[k]) = false by
          rw [HR.out]
          cases A with
          | false => rfl
          | true =>
            cases Fb with
            | false => rfl
            | true =>
              have : ¬ d.rows[k].pats.length ≤ 30 := fun h => hall ⟨rfl, rfl, h⟩
              rw [decide_eq_false this]; rfl)
        obtain ⟨B, hBB⟩ : ∃ B, B = false := ⟨_, rfl⟩
        rcases (show A = false ∨ (A = true ∧ Fb = false) ∨ (A = true ∧ Fb = true ∧ 30 < d.rows[k].pats.length) by
          cases A with
          | false => exact .inl rfl
          | true =>
            cases Fb with
            | false => exact .inr (.inl ⟨rfl, rfl⟩)
            | true =>
              have : ¬ d.rows[k].pats.length ≤ 30 := fun h => hall ⟨rfl, rfl, h⟩
              exact .inr (.inr ⟨rfl, rfl, by omega⟩)) with rfl | ⟨rfl, rfl⟩ | ⟨rfl, rfl, hp⟩
        all_goals
          try have hp' : ¬ (d.rows[k].pats.length : Int) ≤ 30 := by omega
          repeat (first | (with_reducible first | refine Qa ?_ | refine Qb ?_ | refine Qc ?_ | refine Qd ?_ | refine Qe ?_ | refine Qf ?_ | refine Qg ?_ | refine Qh ?_ | refine Qi ?_ | refine Qj ?_ | refine Qk ?_ | refine Ql ?_ | refine Qm ?_ | refine Qn ?_ | refine Qo ?_ | refine Qp rfl ?_) | (first | refine Qq ?_ | refine Qr ?_) | (first | refine Qs ?_ | refine Qt ?_ | refine Qu ?_) | (first | refine Qv ?_ | refine Qw ?_) | (first | refine Qx ?_ | refine Qy ?_) | (first | refine Qz ?_ | refine Ra ?_ | refine Rb ?_))
          refine PW_loop (ι := Unit) (fun _ => True) (fun _ => [(1, .ptr i0 0), (2, .ptr i1 0), (5, .d (.v (.bool false))), (7, .d (.v (.bool (okBs6 d.cons)))), (9, .d (.v (.bool (okN6 d.ty)))), (10, .ptr i3 0), (11, .d (.v (.int .i64 k))), (14, .ptr i5 0), (15, .d (.v (.int .i64 0)))]) (fun _ => [.box i5 86 [.d (.v (.int .i64 d.rows[k].at_)), .nils, .d (.v (.bool d.rows[k].has)), .d (.v (.int .i64 (cvN6 d.rows[k].body).kind)), .d (.v (.int .i64 (cvN6 d.rows[k].body).at)), .d (.v (.string (cvN6 d.rows[k].body).name)), .d (.v (.int .i64 (cvN6 d.rows[k].body).num)), .d (.sl ((cvN6 d.rows[k].body).sub.map encD))], .tok g 86 8 k, .box i3 53 [.d (.v (.int .i64 d.kind)), .d (.v (.int .i64 d.at_)), .d (.v (.string d.name)), .d (.sl ((cvBs6 d.tele).map encD)), .d (.v (.int .i64 (cvN6 d.ty).kind)), .d (.v (.int .i64 (cvN6 d.ty).at)), .d (.v (.string (cvN6 d.ty).name)), .d (.v (.int .i64 (cvN6 d.ty).num)), .d (.sl ((cvN6 d.ty).sub.map encD)), .d (.sl ((cvBs6 d.cons).map encD)), .own g rs], .box i1 53 [.d (.v (.int .i64 0)), .d (.v (.int .i64 0)), .d (.v (.string ByteArray.empty)), .nils, .d (.v (.int .i64 0)), .d (.v (.int .i64 0)), .d (.v (.string ByteArray.empty)), .d (.v (.int .i64 0)), .nils, .nils, .nils], .box i0 49 [.d (.v (.int .i64 d.kind)), .d (.v (.int .i64 d.at_)), .d (.v (.string d.name)), .d (.sl (d.tele.map encD)), .d (.v (.int .i64 d.ty.kind)), .d (.v (.int .i64 d.ty.at)), .d (.v (.string d.ty.name)), .d (.v (.int .i64 d.ty.num)), .d (.sl (d.ty.sub.map encD)), .d (.sl (d.cons.map encD)), .d (.sl (d.rows.map encD))]]) (fun _ => 0) () trivial ?_ ?_ ?_
          · repeat (first | exact sub_nil _ | refine sub_cons (by simp [PF.get]; rfl) (by first | rfl | (simp [*]; done) | fail) ?_)
          · repeat (first | exact List.Sublist.refl _ | exact List.nil_sublist _ | refine List.Sublist.cons_cons _ ?_ | refine List.Sublist.cons _ ?_)
          · intro _ _
            by_cases hz : 0 < d.rows[k].pats.length
            · have hz1 : (0 : Int) < (d.rows[k].pats.length : Int) := by omega
              have hz2 : ¬ d.rows[k].pats = [] := List.ne_nil_of_length_pos hz
              repeat (first | (with_reducible first | refine Qa ?_ | refine Qb ?_ | refine Qc ?_ | refine Qd ?_ | refine Qe ?_ | refine Qf ?_ | refine Qg ?_ | refine Qh ?_ | refine Qi ?_ | refine Qj ?_ | refine Qk ?_ | refine Ql ?_ | refine Qm ?_ | refine Qn ?_ | refine Qo ?_ | refine Qp rfl ?_) | (first | refine Qq ?_ | refine Qr ?_) | (first | refine Qs ?_ | refine Qt ?_ | refine Qu ?_) | (first | refine Qv ?_ | refine Qw ?_) | (first | refine Qx ?_ | refine Qy ?_) | (first | refine Qz ?_ | refine Ra ?_ | refine Rb ?_))
              refine POps_bs_a ?_
              refine POps_app_a (k + 1) ?_ ?_ ?_ ?_
              · simp [hrl]
              · exact HI.out.2.2.1
              · exact rows_one rfl
              repeat (first | (with_reducible first | refine Qa ?_ | refine Qb ?_ | refine Qc ?_ | refine Qd ?_ | refine Qe ?_ | refine Qf ?_ | refine Qg ?_ | refine Qh ?_ | refine Qi ?_ | refine Qj ?_ | refine Qk ?_ | refine Ql ?_ | refine Qm ?_ | refine Qn ?_ | refine Qo ?_ | refine Qp rfl ?_) | (first | refine Qq ?_ | refine Qr ?_) | (first | refine Qs ?_ | refine Qt ?_ | refine Qu ?_) | (first | refine Qv ?_ | refine Qw ?_) | (first | refine Qx ?_ | refine Qy ?_) | (first | refine Qz ?_ | refine Ra ?_ | refine Rb ?_))
              refine Rc ?_
              repeat (first | (with_reducible first | refine Qa ?_ | refine Qb ?_ | refine Qc ?_ | refine Qd ?_ | refine Qe ?_ | refine Qf ?_ | refine Qg ?_ | refine Qh ?_ | refine Qi ?_ | refine Qj ?_ | refine Qk ?_ | refine Ql ?_ | refine Qm ?_ | refine Qn ?_ | refine Qo ?_ | refine Qp rfl ?_) | (first | refine Qq ?_ | refine Qr ?_) | (first | refine Qs ?_ | refine Qt ?_ | refine Qu ?_) | (first | refine Qv ?_ | refine Qw ?_) | (first | refine Qx ?_ | refine Qy ?_) | (first | refine Qz ?_ | refine Ra ?_ | refine Rb ?_))
              refine ⟨(k + 1, rs ++ [convR6 d.rows[k] []]), ⟨hlt, by simp [hrl], ?_, ?_⟩, by simp only; omega, ?_, ?_⟩
              · intro row hrow
                rcases List.mem_append.1 hrow with hrow | hrow
                · exact HI.out.2.2.1 row hrow
                · rw [List.mem_singleton.1 hrow]; rfl
              · exact fun h => by simp only at h; rw [HACC.out, HB.out] at h; cases h
              · simp only
                repeat (first | exact sub_nil _ | refine sub_cons (by simp [PF.get]; rfl) (by first | rfl | (simp [HACC.out, HB.out, hin]; done) | fail) ?_)
              · simp only
                repeat (first | exact List.Sublist.refl _ | exact List.nil_sublist _ | refine List.Sublist.cons_cons _ ?_ | refine List.Sublist.cons _ ?_)
            · have hz1 : ¬ (0 : Int) < (d.rows[k].pats.length : Int) := by omega
              have hz2 : decide (0 < d.rows[k].pats.length) = false := decide_eq_false hz
              repeat (first | (with_reducible first | refine Qa ?_ | refine Qb ?_ | refine Qc ?_ | refine Qd ?_ | refine Qe ?_ | refine Qf ?_ | refine Qg ?_ | refine Qh ?_ | refine Qi ?_ | refine Qj ?_ | refine Qk ?_ | refine Ql ?_ | refine Qm ?_ | refine Qn ?_ | refine Qo ?_ | refine Qp rfl ?_) | (first | refine Qq ?_ | refine Qr ?_) | (first | refine Qs ?_ | refine Qt ?_ | refine Qu ?_) | (first | refine Qv ?_ | refine Qw ?_) | (first | refine Qx ?_ | refine Qy ?_) | (first | refine Qz ?_ | refine Ra ?_ | refine Rb ?_))
              refine POps_bs_a ?_
              refine POps_app_a (k + 1) ?_ ?_ ?_ ?_
              · simp [hrl]
              · exact HI.out.2.2.1
              · exact rows_one rfl
              repeat (first | (with_reducible first | refine Qa ?_ | refine Qb ?_ | refine Qc ?_ | refine Qd ?_ | refine Qe ?_ | refine Qf ?_ | refine Qg ?_ | refine Qh ?_ | refine Qi ?_ | refine Qj ?_ | refine Qk ?_ | refine Ql ?_ | refine Qm ?_ | refine Qn ?_ | refine Qo ?_ | refine Qp rfl ?_) | (first | refine Qq ?_ | refine Qr ?_) | (first | refine Qs ?_ | refine Qt ?_ | refine Qu ?_) | (first | refine Qv ?_ | refine Qw ?_) | (first | refine Qx ?_ | refine Qy ?_) | (first | refine Qz ?_ | refine Ra ?_ | refine Rb ?_))
              refine Rc ?_
              repeat (first | (with_reducible first | refine Qa ?_ | refine Qb ?_ | refine Qc ?_ | refine Qd ?_ | refine Qe ?_ | refine Qf ?_ | refine Qg ?_ | refine Qh ?_ | refine Qi ?_ | refine Qj ?_ | refine Qk ?_ | refine Ql ?_ | refine Qm ?_ | refine Qn ?_ | refine Qo ?_ | refine Qp rfl ?_) | (first | refine Qq ?_ | refine Qr ?_) | (first | refine Qs ?_ | refine Qt ?_ | refine Qu ?_) | (first | refine Qv ?_ | refine Qw ?_) | (first | refine Qx ?_ | refine Qy ?_) | (first | refine Qz ?_ | refine Ra ?_ | refine Rb ?_))
              refine ⟨(k + 1, rs ++ [convR6 d.rows[k] []]), ⟨hlt, by simp [hrl], ?_, ?_⟩, by simp only; omega, ?_, ?_⟩
              · intro row hrow
                rcases List.mem_append.1 hrow with hrow | hrow
                · exact HI.out.2.2.1 row hrow
                · rw [List.mem_singleton.1 hrow]; rfl
              · exact fun h => by simp only at h; rw [HACC.out, HB.out] at h; cases h
              · simp only
                repeat (first | exact sub_nil _ | refine sub_cons (by simp [PF.get]; rfl) (by first | rfl | (simp [HACC.out, HB.out, hin]; done) | fail) ?_)
              · simp only
                repeat (first | exact List.Sublist.refl _ | exact List.nil_sublist _ | refine List.Sublist.cons_cons _ ?_ | refine List.Sublist.cons _ ?_)
    · have hkl : k = d.rows.length := by omega
      have hc : ¬ ((k : Int) < (d.rows.length : Int)) := by omega
      have hacc : acc6 (okBs6 d.tele) (d.rows.take k) = acc6 (okBs6 d.tele) d.rows := by rw [List.take_of_length_le (by omega)]
      have hfin : okDc6 d = (acc6 (okBs6 d.tele) d.rows && okBs6 d.cons && okN6 d.ty) := by
        simp only [okDc6, acc6, decide_eq_true (show d.tele.length ≤ 30 ∧ d.cons.length ≤ 30 ∧ d.rows.length ≤ 40 from ⟨h1, h2, h3⟩), Bool.true_and]
      have hall : okDc6 d = true → cvBs6 d.tele = d.tele ∧ cvBs6 d.cons = d.cons ∧ cvN6 d.ty = d.ty ∧ rs = d.rows.map encD := by
        intro h
        have h' := h
        rw [hfin] at h'
        simp only [Bool.and_eq_true] at h'
        have hr := HI.out.2.2.2 (by rw [← hacc] at h'; exact h'.1.1)
        rw [List.take_of_length_le (by omega)] at hr
        simp only [acc6, Bool.and_eq_true] at h'
        exact ⟨cvBs6_ok h'.1.1.1, cvBs6_ok h'.1.2, cvN6_ok h'.2, hr⟩
      rw [hacc]
      have HALL := Lib.hid hall
      have HFIN := Lib.hid hfin
      clear hall hfin hacc
      generalize hA : acc6 (okBs6 d.tele) d.rows = A at *
      generalize hB : okBs6 d.cons = B at *
      have HA := Lib.hid hA
      have HB := Lib.hid hB
      clear hA hB hkl
      cases A <;> cases B
      all_goals
        repeat (first | (with_reducible first | refine Qa ?_ | refine Qb ?_ | refine Qc ?_ | refine Qd ?_ | refine Qe ?_ | refine Qf ?_ | refine Qg ?_ | refine Qh ?_ | refine Qi ?_ | refine Qj ?_ | refine Qk ?_ | refine Ql ?_ | refine Qm ?_ | refine Qn ?_ | refine Qo ?_ | refine Qp rfl ?_) | (first | refine Qq ?_ | refine Qr ?_) | (first | refine Qs ?_ | refine Qt ?_ | refine Qu ?_) | (first | refine Qv ?_ | refine Qw ?_) | (first | refine Qx ?_ | refine Qy ?_) | (first | refine Qz ?_ | refine Ra ?_ | refine Rb ?_))
        refine Rc ?_
        repeat (first | (with_reducible first | refine Qa ?_ | refine Qb ?_ | refine Qc ?_ | refine Qd ?_ | refine Qe ?_ | refine Qf ?_ | refine Qg ?_ | refine Qh ?_ | refine Qi ?_ | refine Qj ?_ | refine Qk ?_ | refine Ql ?_ | refine Qm ?_ | refine Qn ?_ | refine Qo ?_ | refine Qp rfl ?_) | (first | refine Qq ?_ | refine Qr ?_) | (first | refine Qs ?_ | refine Qt ?_ | refine Qu ?_) | (first | refine Qv ?_ | refine Qw ?_) | (first | refine Qx ?_ | refine Qy ?_) | (first | refine Qz ?_ | refine Ra ?_ | refine Rb ?_))
        refine retP_ok (by simp) (by simp only [Try.results43]; rfl) (by simp [resP, St.box?, PF.get, loadB, TyK.agg, *]; rfl) (List.nil_sublist _) ?_
        refine ⟨⟨_, (by rw [HFIN.out]; rfl), rfl, rfl, fun h => ?_⟩, rfl⟩
        obtain ⟨e1, e2, e3, e4⟩ := HALL.out h
        simp only [e1, e2, e3, e4, List.map_cons, List.map_nil, PV.norm0]
end Go.Proofs.Ytffgfjnbgplckaa

namespace Go.Proofs.Ytffgfjnbgplckaa
open Go.RowKit
set_option maxRecDepth 100000
set_option maxHeartbeats 8000000 in
theorem rin_step (t : Nd) (hg : goodT t false = true) (hs : ndT t ≤ 100000000) (ih : ∀ x ∈ t.sub, ∀ lv, lv ≤ 8 → RxC x lv) : RiC t := by
  obtain ⟨k, a, s, n, sub⟩ := t
  have hname := good_name hg
  unfold RiC
  rcases ex_cases hg with ⟨rfl, rfl⟩ | ⟨rfl, rfl, hn0, hn7⟩ | ⟨x, y, hk, rfl, hx, hy⟩
  · have HE := Lib.hid (inL_name 1 a n s rfl)
    generalize inL (.mk 1 a s n []) = txt at *
    simp only [aggD, encD_mk, List.map_cons, List.map_nil]
    refine PCalls.enter Try.func75 rfl Try.ntmps75 (by simp) ?_
    simp only [argsF]
    repeat (first | (with_reducible first | refine Qa ?_ | refine Qb ?_ | refine Qc ?_ | refine Qd ?_ | refine Qe ?_ | refine Qf ?_ | refine Qg ?_ | refine Qh ?_ | refine Qi ?_ | refine Qj ?_ | refine Qk ?_ | refine Ql ?_ | refine Qm ?_ | refine Qn ?_ | refine Qo ?_ | refine Qp rfl ?_) | (first | refine Qq ?_ | refine Qr ?_) | (first | refine Qs ?_ | refine Qt ?_ | refine Qu ?_) | (first | refine Qv ?_ | refine Qw ?_) | (first | refine Qx ?_ | refine Qy ?_) | (first | refine Qz ?_ | refine Ra ?_ | refine Rb ?_))
    refine POps_box_a ?_
    intro i0 hi0
    repeat (first | (with_reducible first | refine Qa ?_ | refine Qb ?_ | refine Qc ?_ | refine Qd ?_ | refine Qe ?_ | refine Qf ?_ | refine Qg ?_ | refine Qh ?_ | refine Qi ?_ | refine Qj ?_ | refine Qk ?_ | refine Ql ?_ | refine Qm ?_ | refine Qn ?_ | refine Qo ?_ | refine Qp rfl ?_) | (first | refine Qq ?_ | refine Qr ?_) | (first | refine Qs ?_ | refine Qt ?_ | refine Qu ?_) | (first | refine Qv ?_ | refine Qw ?_) | (first | refine Qx ?_ | refine Qy ?_) | (first | refine Qz ?_ | refine Ra ?_ | refine Rb ?_))
    refine retP_ok (by simp) (by simp only [Try.results75]; rfl) (by simp [resP, St.box?, PF.get, loadB, TyK.agg, *]; rfl) (List.nil_sublist _) ?_
    exact ⟨by rw [HE.out, ← strB_toList]; rfl, rfl⟩
  · have HE := Lib.hid (inL_set 2 a n s rfl)
    generalize inL (.mk 2 a s n []) = txt at *
    simp only [aggD, encD_mk, List.map_cons, List.map_nil]
    have hnl : (numS n).toList.length ≤ 20 := by
      rw [size_toList, numS, if_neg (by omega)]; exact (decS_size n.natAbs (by omega)).2
    by_cases hn : n = 0
    · refine PCalls.enter Try.func75 rfl Try.ntmps75 (by simp) ?_
      simp only [argsF]
      repeat (first | (with_reducible first | refine Qa ?_ | refine Qb ?_ | refine Qc ?_ | refine Qd ?_ | refine Qe ?_ | refine Qf ?_ | refine Qg ?_ | refine Qh ?_ | refine Qi ?_ | refine Qj ?_ | refine Qk ?_ | refine Ql ?_ | refine Qm ?_ | refine Qn ?_ | refine Qo ?_ | refine Qp rfl ?_) | (first | refine Qq ?_ | refine Qr ?_) | (first | refine Qs ?_ | refine Qt ?_ | refine Qu ?_) | (first | refine Qv ?_ | refine Qw ?_) | (first | refine Qx ?_ | refine Qy ?_) | (first | refine Qz ?_ | refine Ra ?_ | refine Rb ?_))
      refine POps_box_a ?_
      intro i0 hi0
      repeat (first | (with_reducible first | refine Qa ?_ | refine Qb ?_ | refine Qc ?_ | refine Qd ?_ | refine Qe ?_ | refine Qf ?_ | refine Qg ?_ | refine Qh ?_ | refine Qi ?_ | refine Qj ?_ | refine Qk ?_ | refine Ql ?_ | refine Qm ?_ | refine Qn ?_ | refine Qo ?_ | refine Qp rfl ?_) | (first | refine Qq ?_ | refine Qr ?_) | (first | refine Qs ?_ | refine Qt ?_ | refine Qu ?_) | (first | refine Qv ?_ | refine Qw ?_) | (first | refine Qx ?_ | refine Qy ?_) | (first | refine Qz ?_ | refine Ra ?_ | refine Rb ?_))
      refine retP_ok (by simp) (by simp only [Try.results75]; rfl) (by simp [resP, St.box?, PF.get, loadB, TyK.agg, *]; rfl) (List.nil_sublist _) ?_
      exact ⟨by rw [HE.out, if_neg (by omega)]; rfl, rfl⟩
    · refine PCalls.enter Try.func75 rfl Try.ntmps75 (by simp) ?_
      simp only [argsF]
      repeat (first | (with_reducible first | refine Qa ?_ | refine Qb ?_ | refine Qc ?_ | refine Qd ?_ | refine Qe ?_ | refine Qf ?_ | refine Qg ?_ | refine Qh ?_ | refine Qi ?_ | refine Qj ?_ | refine Qk ?_ | refine Ql ?_ | refine Qm ?_ | refine Qn ?_ | refine Qo ?_ | refine Qp rfl ?_) | (first | refine Qq ?_ | refine Qr ?_) | (first | refine Qs ?_ | refine Qt ?_ | refine Qu ?_) | (first | refine Qv ?_ | refine Qw ?_) | (first | refine Qx ?_ | refine Qy ?_) | (first | refine Qz ?_ | refine Ra ?_ | refine Rb ?_))
      refine POps_box_a ?_
      intro i0 hi0
      repeat (first | (with_reducible first | refine Qa ?_ | refine Qb ?_ | refine Qc ?_ | refine Qd ?_ | refine Qe ?_ | refine Qf ?_ | refine Qg ?_ | refine Qh ?_ | refine Qi ?_ | refine Qj ?_ | refine Qk ?_ | refine Ql ?_ | refine Qm ?_ | refine Qn ?_ | refine Qo ?_ | refine Qp rfl ?_) | (first | refine Qq ?_ | refine Qr ?_) | (first | refine Qs ?_ | refine Qt ?_ | refine Qu ?_) | (first | refine Qv ?_ | refine Qw ?_) | (first | refine Qx ?_ | refine Qy ?_) | (first | refine Qz ?_ | refine Ra ?_ | refine Rb ?_))
      refine POps_call_a (rnum_p n hn0 (by omega)) ?_
      repeat (first | (with_reducible first | refine Qa ?_ | refine Qb ?_ | refine Qc ?_ | refine Qd ?_ | refine Qe ?_ | refine Qf ?_ | refine Qg ?_ | refine Qh ?_ | refine Qi ?_ | refine Qj ?_ | refine Qk ?_ | refine Ql ?_ | refine Qm ?_ | refine Qn ?_ | refine Qo ?_ | refine Qp rfl ?_) | (first | refine Qq ?_ | refine Qr ?_) | (first | refine Qs ?_ | refine Qt ?_ | refine Qu ?_) | (first | refine Qv ?_ | refine Qw ?_) | (first | refine Qx ?_ | refine Qy ?_) | (first | refine Qz ?_ | refine Ra ?_ | refine Rb ?_))
      refine POps_cat_a ?_
      repeat (first | (with_reducible first | refine Qa ?_ | refine Qb ?_ | refine Qc ?_ | refine Qd ?_ | refine Qe ?_ | refine Qf ?_ | refine Qg ?_ | refine Qh ?_ | refine Qi ?_ | refine Qj ?_ | refine Qk ?_ | refine Ql ?_ | refine Qm ?_ | refine Qn ?_ | refine Qo ?_ | refine Qp rfl ?_) | (first | refine Qq ?_ | refine Qr ?_) | (first | refine Qs ?_ | refine Qt ?_ | refine Qu ?_) | (first | refine Qv ?_ | refine Qw ?_) | (first | refine Qx ?_ | refine Qy ?_) | (first | refine Qz ?_ | refine Ra ?_ | refine Rb ?_))
      refine retP_ok (by simp) (by simp only [Try.results75]; rfl) (by simp [resP, St.box?, PF.get, loadB, TyK.agg, *]; rfl) (List.nil_sublist _) ?_
      exact ⟨by rw [HE.out, if_pos (by omega)]; simp [tupP, PV.norm2, PV.norm1, PV.norm0], rfl⟩
  · have hx' := ih x (by simp [Nd.sub])
    have hy' := ih y (by simp [Nd.sub])
    have hlx := ex_len hx
    have hly := ex_len hy
    have hnx : ndT x ≤ 100000000 ∧ ndT y ≤ 100000000 := by simp only [ndT, ndL] at hs; omega
    clear ih
    rcases hk with rfl | rfl | rfl
    · by_cases hsu : s = ⟨#[95]⟩
      · have HE := Lib.hid (inL_arrow 3 a n s x y rfl hsu)
        generalize inL (.mk 3 a s n [x, y]) = txt at *
        subst hsu
        have h1 := hx' 1 (by omega)
        have h2 := hy' 0 (by omega)
        have l1 := hlx 1
        have l2 := hly 0
        clear hlx hly hx' hy'
        simp only [aggD, encD_mk, List.map_cons, List.map_nil]
        refine PCalls.enter Try.func75 rfl Try.ntmps75 (by simp) ?_
        simp only [argsF]
        repeat (first | (with_reducible first | refine Qa ?_ | refine Qb ?_ | refine Qc ?_ | refine Qd ?_ | refine Qe ?_ | refine Qf ?_ | refine Qg ?_ | refine Qh ?_ | refine Qi ?_ | refine Qj ?_ | refine Qk ?_ | refine Ql ?_ | refine Qm ?_ | refine Qn ?_ | refine Qo ?_ | refine Qp rfl ?_) | (first | refine Qq ?_ | refine Qr ?_) | (first | refine Qs ?_ | refine Qt ?_ | refine Qu ?_) | (first | refine Qv ?_ | refine Qw ?_) | (first | refine Qx ?_ | refine Qy ?_) | (first | refine Qz ?_ | refine Ra ?_ | refine Rb ?_))
        refine POps_box_a ?_
        intro i0 hi0
        repeat (first | (with_reducible first | refine Qa ?_ | refine Qb ?_ | refine Qc ?_ | refine Qd ?_ | refine Qe ?_ | refine Qf ?_ | refine Qg ?_ | refine Qh ?_ | refine Qi ?_ | refine Qj ?_ | refine Qk ?_ | refine Ql ?_ | refine Qm ?_ | refine Qn ?_ | refine Qo ?_ | refine Qp rfl ?_) | (first | refine Qq ?_ | refine Qr ?_) | (first | refine Qs ?_ | refine Qt ?_ | refine Qu ?_) | (first | refine Qv ?_ | refine Qw ?_) | (first | refine Qx ?_ | refine Qy ?_) | (first | refine Qz ?_ | refine Ra ?_ | refine Rb ?_))
        refine PW_drawn [(0, .a), (1, .b), (2, .a), (3, .a), (4, .a), (5, .a), (6, .a), (7, .b), (8, .a), (9, .a), (10, .a), (11, .a), (12, .a)] (by kernel_rfl) (by rfl) (by kernel_rfl) ?_
        repeat (first | (with_reducible first | refine Qa ?_ | refine Qb ?_ | refine Qc ?_ | refine Qd ?_ | refine Qe ?_ | refine Qf ?_ | refine Qg ?_ | refine Qh ?_ | refine Qi ?_ | refine Qj ?_ | refine Qk ?_ | refine Ql ?_ | refine Qm ?_ | refine Qn ?_ | refine Qo ?_ | refine Qp rfl ?_) | (first | refine Qq ?_ | refine Qr ?_) | (first | refine Qs ?_ | refine Qt ?_ | refine Qu ?_) | (first | refine Qv ?_ | refine Qw ?_) | (first | refine Qx ?_ | refine Qy ?_) | (first | refine Qz ?_ | refine Ra ?_ | refine Rb ?_))
        refine POrd_call_b (h1) ?_
        repeat (first | (with_reducible first | refine Qa ?_ | refine Qb ?_ | refine Qc ?_ | refine Qd ?_ | refine Qe ?_ | refine Qf ?_ | refine Qg ?_ | refine Qh ?_ | refine Qi ?_ | refine Qj ?_ | refine Qk ?_ | refine Ql ?_ | refine Qm ?_ | refine Qn ?_ | refine Qo ?_ | refine Qp rfl ?_) | (first | refine Qq ?_ | refine Qr ?_) | (first | refine Qs ?_ | refine Qt ?_ | refine Qu ?_) | (first | refine Qv ?_ | refine Qw ?_) | (first | refine Qx ?_ | refine Qy ?_) | (first | refine Qz ?_ | refine Ra ?_ | refine Rb ?_))
        refine POrd_cat_a ?_
        repeat (first | (with_reducible first | refine Qa ?_ | refine Qb ?_ | refine Qc ?_ | refine Qd ?_ | refine Qe ?_ | refine Qf ?_ | refine Qg ?_ | refine Qh ?_ | refine Qi ?_ | refine Qj ?_ | refine Qk ?_ | refine Ql ?_ | refine Qm ?_ | refine Qn ?_ | refine Qo ?_ | refine Qp rfl ?_) | (first | refine Qq ?_ | refine Qr ?_) | (first | refine Qs ?_ | refine Qt ?_ | refine Qu ?_) | (first | refine Qv ?_ | refine Qw ?_) | (first | refine Qx ?_ | refine Qy ?_) | (first | refine Qz ?_ | refine Ra ?_ | refine Rb ?_))
        refine POrd_call_b (h2) ?_
        repeat (first | (with_reducible first | refine Qa ?_ | refine Qb ?_ | refine Qc ?_ | refine Qd ?_ | refine Qe ?_ | refine Qf ?_ | refine Qg ?_ | refine Qh ?_ | refine Qi ?_ | refine Qj ?_ | refine Qk ?_ | refine Ql ?_ | refine Qm ?_ | refine Qn ?_ | refine Qo ?_ | refine Qp rfl ?_) | (first | refine Qq ?_ | refine Qr ?_) | (first | refine Qs ?_ | refine Qt ?_ | refine Qu ?_) | (first | refine Qv ?_ | refine Qw ?_) | (first | refine Qx ?_ | refine Qy ?_) | (first | refine Qz ?_ | refine Ra ?_ | refine Rb ?_))
        refine POrd_cat_a ?_
        repeat (first | (with_reducible first | refine Qa ?_ | refine Qb ?_ | refine Qc ?_ | refine Qd ?_ | refine Qe ?_ | refine Qf ?_ | refine Qg ?_ | refine Qh ?_ | refine Qi ?_ | refine Qj ?_ | refine Qk ?_ | refine Ql ?_ | refine Qm ?_ | refine Qn ?_ | refine Qo ?_ | refine Qp rfl ?_) | (first | refine Qq ?_ | refine Qr ?_) | (first | refine Qs ?_ | refine Qt ?_ | refine Qu ?_) | (first | refine Qv ?_ | refine Qw ?_) | (first | refine Qx ?_ | refine Qy ?_) | (first | refine Qz ?_ | refine Ra ?_ | refine Rb ?_))
        refine retP_ok (by simp) (by simp only [Try.results75]; rfl) (by simp [resP, St.box?, PF.get, loadB, TyK.agg, *]; rfl) (List.nil_sublist _) ?_
        exact ⟨by rw [HE.out]; simp [tupP, PV.norm2, PV.norm1, PV.norm0], rfl⟩
      · have HE := Lib.hid (inL_pi 3 a n s x y rfl hsu)
        have hs' := ne_toList (b := #[95]) hsu
        generalize inL (.mk 3 a s n [x, y]) = txt at *
        have h1 := hx' 0 (by omega)
        have h2 := hy' 0 (by omega)
        have l1 := hlx 0
        have l2 := hly 0
        clear hlx hly hx' hy'
        simp only [aggD, encD_mk, List.map_cons, List.map_nil]
        refine PCalls.enter Try.func75 rfl Try.ntmps75 (by simp) ?_
        simp only [argsF]
        repeat (first | (with_reducible first | refine Qa ?_ | refine Qb ?_ | refine Qc ?_ | refine Qd ?_ | refine Qe ?_ | refine Qf ?_ | refine Qg ?_ | refine Qh ?_ | refine Qi ?_ | refine Qj ?_ | refine Qk ?_ | refine Ql ?_ | refine Qm ?_ | refine Qn ?_ | refine Qo ?_ | refine Qp rfl ?_) | (first | refine Qq ?_ | refine Qr ?_) | (first | refine Qs ?_ | refine Qt ?_ | refine Qu ?_) | (first | refine Qv ?_ | refine Qw ?_) | (first | refine Qx ?_ | refine Qy ?_) | (first | refine Qz ?_ | refine Ra ?_ | refine Rb ?_))
        refine POps_box_a ?_
        intro i0 hi0
        repeat (first | (with_reducible first | refine Qa ?_ | refine Qb ?_ | refine Qc ?_ | refine Qd ?_ | refine Qe ?_ | refine Qf ?_ | refine Qg ?_ | refine Qh ?_ | refine Qi ?_ | refine Qj ?_ | refine Qk ?_ | refine Ql ?_ | refine Qm ?_ | refine Qn ?_ | refine Qo ?_ | refine Qp rfl ?_) | (first | refine Qq ?_ | refine Qr ?_) | (first | refine Qs ?_ | refine Qt ?_ | refine Qu ?_) | (first | refine Qv ?_ | refine Qw ?_) | (first | refine Qx ?_ | refine Qy ?_) | (first | refine Qz ?_ | refine Ra ?_ | refine Rb ?_))
        refine PW_drawn [(0, .a), (1, .b), (2, .a), (3, .a), (4, .a), (5, .b), (6, .a), (7, .a), (8, .a), (9, .a), (10, .a), (11, .a), (12, .b), (13, .a), (14, .a), (15, .a), (16, .a), (17, .a)] (by kernel_rfl) (by rfl) (by kernel_rfl) ?_
        repeat (first | (with_reducible first | refine Qa ?_ | refine Qb ?_ | refine Qc ?_ | refine Qd ?_ | refine Qe ?_ | refine Qf ?_ | refine Qg ?_ | refine Qh ?_ | refine Qi ?_ | refine Qj ?_ | refine Qk ?_ | refine Ql ?_ | refine Qm ?_ | refine Qn ?_ | refine Qo ?_ | refine Qp rfl ?_) | (first | refine Qq ?_ | refine Qr ?_) | (first | refine Qs ?_ | refine Qt ?_ | refine Qu ?_) | (first | refine Qv ?_ | refine Qw ?_) | (first | refine Qx ?_ | refine Qy ?_) | (first | refine Qz ?_ | refine Ra ?_ | refine Rb ?_))
        refine POrd_cat_a ?_
        refine POrd_cat_a ?_
        repeat (first | (with_reducible first | refine Qa ?_ | refine Qb ?_ | refine Qc ?_ | refine Qd ?_ | refine Qe ?_ | refine Qf ?_ | refine Qg ?_ | refine Qh ?_ | refine Qi ?_ | refine Qj ?_ | refine Qk ?_ | refine Ql ?_ | refine Qm ?_ | refine Qn ?_ | refine Qo ?_ | refine Qp rfl ?_) | (first | refine Qq ?_ | refine Qr ?_) | (first | refine Qs ?_ | refine Qt ?_ | refine Qu ?_) | (first | refine Qv ?_ | refine Qw ?_) | (first | refine Qx ?_ | refine Qy ?_) | (first | refine Qz ?_ | refine Ra ?_ | refine Rb ?_))
        refine POrd_call_b (h1) ?_
        repeat (first | (with_reducible first | refine Qa ?_ | refine Qb ?_ | refine Qc ?_ | refine Qd ?_ | refine Qe ?_ | refine Qf ?_ | refine Qg ?_ | refine Qh ?_ | refine Qi ?_ | refine Qj ?_ | refine Qk ?_ | refine Ql ?_ | refine Qm ?_ | refine Qn ?_ | refine Qo ?_ | refine Qp rfl ?_) | (first | refine Qq ?_ | refine Qr ?_) | (first | refine Qs ?_ | refine Qt ?_ | refine Qu ?_) | (first | refine Qv ?_ | refine Qw ?_) | (first | refine Qx ?_ | refine Qy ?_) | (first | refine Qz ?_ | refine Ra ?_ | refine Rb ?_))
        refine POrd_cat_a ?_
        refine POrd_cat_a ?_
        repeat (first | (with_reducible first | refine Qa ?_ | refine Qb ?_ | refine Qc ?_ | refine Qd ?_ | refine Qe ?_ | refine Qf ?_ | refine Qg ?_ | refine Qh ?_ | refine Qi ?_ | refine Qj ?_ | refine Qk ?_ | refine Ql ?_ | refine Qm ?_ | refine Qn ?_ | refine Qo ?_ | refine Qp rfl ?_) | (first | refine Qq ?_ | refine Qr ?_) | (first | refine Qs ?_ | refine Qt ?_ | refine Qu ?_) | (first | refine Qv ?_ | refine Qw ?_) | (first | refine Qx ?_ | refine Qy ?_) | (first | refine Qz ?_ | refine Ra ?_ | refine Rb ?_))
        refine POrd_call_b (h2) ?_
        repeat (first | (with_reducible first | refine Qa ?_ | refine Qb ?_ | refine Qc ?_ | refine Qd ?_ | refine Qe ?_ | refine Qf ?_ | refine Qg ?_ | refine Qh ?_ | refine Qi ?_ | refine Qj ?_ | refine Qk ?_ | refine Ql ?_ | refine Qm ?_ | refine Qn ?_ | refine Qo ?_ | refine Qp rfl ?_) | (first | refine Qq ?_ | refine Qr ?_) | (first | refine Qs ?_ | refine Qt ?_ | refine Qu ?_) | (first | refine Qv ?_ | refine Qw ?_) | (first | refine Qx ?_ | refine Qy ?_) | (first | refine Qz ?_ | refine Ra ?_ | refine Rb ?_))
        refine POrd_cat_a ?_
        repeat (first | (with_reducible first | refine Qa ?_ | refine Qb ?_ | refine Qc ?_ | refine Qd ?_ | refine Qe ?_ | refine Qf ?_ | refine Qg ?_ | refine Qh ?_ | refine Qi ?_ | refine Qj ?_ | refine Qk ?_ | refine Ql ?_ | refine Qm ?_ | refine Qn ?_ | refine Qo ?_ | refine Qp rfl ?_) | (first | refine Qq ?_ | refine Qr ?_) | (first | refine Qs ?_ | refine Qt ?_ | refine Qu ?_) | (first | refine Qv ?_ | refine Qw ?_) | (first | refine Qx ?_ | refine Qy ?_) | (first | refine Qz ?_ | refine Ra ?_ | refine Rb ?_))
        refine retP_ok (by simp) (by simp only [Try.results75]; rfl) (by simp [resP, St.box?, PF.get, loadB, TyK.agg, *]; rfl) (List.nil_sublist _) ?_
        exact ⟨by rw [HE.out]; simp [binL, tupP, PV.norm2, PV.norm1, PV.norm0], rfl⟩
    · have HE := Lib.hid (inL_lam 4 a n s x y rfl)
      generalize inL (.mk 4 a s n [x, y]) = txt at *
      have h1 := hx' 0 (by omega)
      have h2 := hy' 0 (by omega)
      have l1 := hlx 0
      have l2 := hly 0
      clear hlx hly hx' hy'
      simp only [aggD, encD_mk, List.map_cons, List.map_nil]
      refine PCalls.enter Try.func75 rfl Try.ntmps75 (by simp) ?_
      simp only [argsF]
      repeat (first | (with_reducible first | refine Qa ?_ | refine Qb ?_ | refine Qc ?_ | refine Qd ?_ | refine Qe ?_ | refine Qf ?_ | refine Qg ?_ | refine Qh ?_ | refine Qi ?_ | refine Qj ?_ | refine Qk ?_ | refine Ql ?_ | refine Qm ?_ | refine Qn ?_ | refine Qo ?_ | refine Qp rfl ?_) | (first | refine Qq ?_ | refine Qr ?_) | (first | refine Qs ?_ | refine Qt ?_ | refine Qu ?_) | (first | refine Qv ?_ | refine Qw ?_) | (first | refine Qx ?_ | refine Qy ?_) | (first | refine Qz ?_ | refine Ra ?_ | refine Rb ?_))
      refine POps_box_a ?_
      intro i0 hi0
      repeat (first | (with_reducible first | refine Qa ?_ | refine Qb ?_ | refine Qc ?_ | refine Qd ?_ | refine Qe ?_ | refine Qf ?_ | refine Qg ?_ | refine Qh ?_ | refine Qi ?_ | refine Qj ?_ | refine Qk ?_ | refine Ql ?_ | refine Qm ?_ | refine Qn ?_ | refine Qo ?_ | refine Qp rfl ?_) | (first | refine Qq ?_ | refine Qr ?_) | (first | refine Qs ?_ | refine Qt ?_ | refine Qu ?_) | (first | refine Qv ?_ | refine Qw ?_) | (first | refine Qx ?_ | refine Qy ?_) | (first | refine Qz ?_ | refine Ra ?_ | refine Rb ?_))
      refine PW_drawn [(0, .a), (1, .b), (2, .a), (3, .a), (4, .a), (5, .b), (6, .a), (7, .a), (8, .a), (9, .a), (10, .a), (11, .a), (12, .b), (13, .a), (14, .a), (15, .a), (16, .a), (17, .a)] (by kernel_rfl) (by rfl) (by kernel_rfl) ?_
      repeat (first | (with_reducible first | refine Qa ?_ | refine Qb ?_ | refine Qc ?_ | refine Qd ?_ | refine Qe ?_ | refine Qf ?_ | refine Qg ?_ | refine Qh ?_ | refine Qi ?_ | refine Qj ?_ | refine Qk ?_ | refine Ql ?_ | refine Qm ?_ | refine Qn ?_ | refine Qo ?_ | refine Qp rfl ?_) | (first | refine Qq ?_ | refine Qr ?_) | (first | refine Qs ?_ | refine Qt ?_ | refine Qu ?_) | (first | refine Qv ?_ | refine Qw ?_) | (first | refine Qx ?_ | refine Qy ?_) | (first | refine Qz ?_ | refine Ra ?_ | refine Rb ?_))
      refine POrd_cat_a ?_
      refine POrd_cat_a ?_
      repeat (first | (with_reducible first | refine Qa ?_ | refine Qb ?_ | refine Qc ?_ | refine Qd ?_ | refine Qe ?_ | refine Qf ?_ | refine Qg ?_ | refine Qh ?_ | refine Qi ?_ | refine Qj ?_ | refine Qk ?_ | refine Ql ?_ | refine Qm ?_ | refine Qn ?_ | refine Qo ?_ | refine Qp rfl ?_) | (first | refine Qq ?_ | refine Qr ?_) | (first | refine Qs ?_ | refine Qt ?_ | refine Qu ?_) | (first | refine Qv ?_ | refine Qw ?_) | (first | refine Qx ?_ | refine Qy ?_) | (first | refine Qz ?_ | refine Ra ?_ | refine Rb ?_))
      refine POrd_call_b (h1) ?_
      repeat (first | (with_reducible first | refine Qa ?_ | refine Qb ?_ | refine Qc ?_ | refine Qd ?_ | refine Qe ?_ | refine Qf ?_ | refine Qg ?_ | refine Qh ?_ | refine Qi ?_ | refine Qj ?_ | refine Qk ?_ | refine Ql ?_ | refine Qm ?_ | refine Qn ?_ | refine Qo ?_ | refine Qp rfl ?_) | (first | refine Qq ?_ | refine Qr ?_) | (first | refine Qs ?_ | refine Qt ?_ | refine Qu ?_) | (first | refine Qv ?_ | refine Qw ?_) | (first | refine Qx ?_ | refine Qy ?_) | (first | refine Qz ?_ | refine Ra ?_ | refine Rb ?_))
      refine POrd_cat_a ?_
      refine POrd_cat_a ?_
      repeat (first | (with_reducible first | refine Qa ?_ | refine Qb ?_ | refine Qc ?_ | refine Qd ?_ | refine Qe ?_ | refine Qf ?_ | refine Qg ?_ | refine Qh ?_ | refine Qi ?_ | refine Qj ?_ | refine Qk ?_ | refine Ql ?_ | refine Qm ?_ | refine Qn ?_ | refine Qo ?_ | refine Qp rfl ?_) | (first | refine Qq ?_ | refine Qr ?_) | (first | refine Qs ?_ | refine Qt ?_ | refine Qu ?_) | (first | refine Qv ?_ | refine Qw ?_) | (first | refine Qx ?_ | refine Qy ?_) | (first | refine Qz ?_ | refine Ra ?_ | refine Rb ?_))
      refine POrd_call_b (h2) ?_
      repeat (first | (with_reducible first | refine Qa ?_ | refine Qb ?_ | refine Qc ?_ | refine Qd ?_ | refine Qe ?_ | refine Qf ?_ | refine Qg ?_ | refine Qh ?_ | refine Qi ?_ | refine Qj ?_ | refine Qk ?_ | refine Ql ?_ | refine Qm ?_ | refine Qn ?_ | refine Qo ?_ | refine Qp rfl ?_) | (first | refine Qq ?_ | refine Qr ?_) | (first | refine Qs ?_ | refine Qt ?_ | refine Qu ?_) | (first | refine Qv ?_ | refine Qw ?_) | (first | refine Qx ?_ | refine Qy ?_) | (first | refine Qz ?_ | refine Ra ?_ | refine Rb ?_))
      refine POrd_cat_a ?_
      repeat (first | (with_reducible first | refine Qa ?_ | refine Qb ?_ | refine Qc ?_ | refine Qd ?_ | refine Qe ?_ | refine Qf ?_ | refine Qg ?_ | refine Qh ?_ | refine Qi ?_ | refine Qj ?_ | refine Qk ?_ | refine Ql ?_ | refine Qm ?_ | refine Qn ?_ | refine Qo ?_ | refine Qp rfl ?_) | (first | refine Qq ?_ | refine Qr ?_) | (first | refine Qs ?_ | refine Qt ?_ | refine Qu ?_) | (first | refine Qv ?_ | refine Qw ?_) | (first | refine Qx ?_ | refine Qy ?_) | (first | refine Qz ?_ | refine Ra ?_ | refine Rb ?_))
      refine POps_cat_a ?_
      repeat (first | (with_reducible first | refine Qa ?_ | refine Qb ?_ | refine Qc ?_ | refine Qd ?_ | refine Qe ?_ | refine Qf ?_ | refine Qg ?_ | refine Qh ?_ | refine Qi ?_ | refine Qj ?_ | refine Qk ?_ | refine Ql ?_ | refine Qm ?_ | refine Qn ?_ | refine Qo ?_ | refine Qp rfl ?_) | (first | refine Qq ?_ | refine Qr ?_) | (first | refine Qs ?_ | refine Qt ?_ | refine Qu ?_) | (first | refine Qv ?_ | refine Qw ?_) | (first | refine Qx ?_ | refine Qy ?_) | (first | refine Qz ?_ | refine Ra ?_ | refine Rb ?_))
      refine retP_ok (by simp) (by simp only [Try.results75]; rfl) (by simp [resP, St.box?, PF.get, loadB, TyK.agg, *]; rfl) (List.nil_sublist _) ?_
      exact ⟨by rw [HE.out]; simp [binL, tupP, PV.norm2, PV.norm1, PV.norm0], rfl⟩
    · have HE := Lib.hid (inL_app 5 a n s x y rfl)
      generalize inL (.mk 5 a s n [x, y]) = txt at *
      have h1 := hx' 1 (by omega)
      have h2 := hy' 2 (by omega)
      have l1 := hlx 1
      have l2 := hly 2
      clear hlx hly hx' hy'
      simp only [aggD, encD_mk, List.map_cons, List.map_nil]
      refine PCalls.enter Try.func75 rfl Try.ntmps75 (by simp) ?_
      simp only [argsF]
      repeat (first | (with_reducible first | refine Qa ?_ | refine Qb ?_ | refine Qc ?_ | refine Qd ?_ | refine Qe ?_ | refine Qf ?_ | refine Qg ?_ | refine Qh ?_ | refine Qi ?_ | refine Qj ?_ | refine Qk ?_ | refine Ql ?_ | refine Qm ?_ | refine Qn ?_ | refine Qo ?_ | refine Qp rfl ?_) | (first | refine Qq ?_ | refine Qr ?_) | (first | refine Qs ?_ | refine Qt ?_ | refine Qu ?_) | (first | refine Qv ?_ | refine Qw ?_) | (first | refine Qx ?_ | refine Qy ?_) | (first | refine Qz ?_ | refine Ra ?_ | refine Rb ?_))
      refine POps_box_a ?_
      intro i0 hi0
      repeat (first | (with_reducible first | refine Qa ?_ | refine Qb ?_ | refine Qc ?_ | refine Qd ?_ | refine Qe ?_ | refine Qf ?_ | refine Qg ?_ | refine Qh ?_ | refine Qi ?_ | refine Qj ?_ | refine Qk ?_ | refine Ql ?_ | refine Qm ?_ | refine Qn ?_ | refine Qo ?_ | refine Qp rfl ?_) | (first | refine Qq ?_ | refine Qr ?_) | (first | refine Qs ?_ | refine Qt ?_ | refine Qu ?_) | (first | refine Qv ?_ | refine Qw ?_) | (first | refine Qx ?_ | refine Qy ?_) | (first | refine Qz ?_ | refine Ra ?_ | refine Rb ?_))
      refine PW_drawn [(0, .a), (1, .b), (2, .a), (3, .a), (4, .a), (5, .a), (6, .a), (7, .b), (8, .a), (9, .a), (10, .a), (11, .a), (12, .a)] (by kernel_rfl) (by rfl) (by kernel_rfl) ?_
      repeat (first | (with_reducible first | refine Qa ?_ | refine Qb ?_ | refine Qc ?_ | refine Qd ?_ | refine Qe ?_ | refine Qf ?_ | refine Qg ?_ | refine Qh ?_ | refine Qi ?_ | refine Qj ?_ | refine Qk ?_ | refine Ql ?_ | refine Qm ?_ | refine Qn ?_ | refine Qo ?_ | refine Qp rfl ?_) | (first | refine Qq ?_ | refine Qr ?_) | (first | refine Qs ?_ | refine Qt ?_ | refine Qu ?_) | (first | refine Qv ?_ | refine Qw ?_) | (first | refine Qx ?_ | refine Qy ?_) | (first | refine Qz ?_ | refine Ra ?_ | refine Rb ?_))
      refine POrd_call_b (h1) ?_
      repeat (first | (with_reducible first | refine Qa ?_ | refine Qb ?_ | refine Qc ?_ | refine Qd ?_ | refine Qe ?_ | refine Qf ?_ | refine Qg ?_ | refine Qh ?_ | refine Qi ?_ | refine Qj ?_ | refine Qk ?_ | refine Ql ?_ | refine Qm ?_ | refine Qn ?_ | refine Qo ?_ | refine Qp rfl ?_) | (first | refine Qq ?_ | refine Qr ?_) | (first | refine Qs ?_ | refine Qt ?_ | refine Qu ?_) | (first | refine Qv ?_ | refine Qw ?_) | (first | refine Qx ?_ | refine Qy ?_) | (first | refine Qz ?_ | refine Ra ?_ | refine Rb ?_))
      refine POrd_cat_a ?_
      repeat (first | (with_reducible first | refine Qa ?_ | refine Qb ?_ | refine Qc ?_ | refine Qd ?_ | refine Qe ?_ | refine Qf ?_ | refine Qg ?_ | refine Qh ?_ | refine Qi ?_ | refine Qj ?_ | refine Qk ?_ | refine Ql ?_ | refine Qm ?_ | refine Qn ?_ | refine Qo ?_ | refine Qp rfl ?_) | (first | refine Qq ?_ | refine Qr ?_) | (first | refine Qs ?_ | refine Qt ?_ | refine Qu ?_) | (first | refine Qv ?_ | refine Qw ?_) | (first | refine Qx ?_ | refine Qy ?_) | (first | refine Qz ?_ | refine Ra ?_ | refine Rb ?_))
      refine POrd_call_b (h2) ?_
      repeat (first | (with_reducible first | refine Qa ?_ | refine Qb ?_ | refine Qc ?_ | refine Qd ?_ | refine Qe ?_ | refine Qf ?_ | refine Qg ?_ | refine Qh ?_ | refine Qi ?_ | refine Qj ?_ | refine Qk ?_ | refine Ql ?_ | refine Qm ?_ | refine Qn ?_ | refine Qo ?_ | refine Qp rfl ?_) | (first | refine Qq ?_ | refine Qr ?_) | (first | refine Qs ?_ | refine Qt ?_ | refine Qu ?_) | (first | refine Qv ?_ | refine Qw ?_) | (first | refine Qx ?_ | refine Qy ?_) | (first | refine Qz ?_ | refine Ra ?_ | refine Rb ?_))
      refine POrd_cat_a ?_
      repeat (first | (with_reducible first | refine Qa ?_ | refine Qb ?_ | refine Qc ?_ | refine Qd ?_ | refine Qe ?_ | refine Qf ?_ | refine Qg ?_ | refine Qh ?_ | refine Qi ?_ | refine Qj ?_ | refine Qk ?_ | refine Ql ?_ | refine Qm ?_ | refine Qn ?_ | refine Qo ?_ | refine Qp rfl ?_) | (first | refine Qq ?_ | refine Qr ?_) | (first | refine Qs ?_ | refine Qt ?_ | refine Qu ?_) | (first | refine Qv ?_ | refine Qw ?_) | (first | refine Qx ?_ | refine Qy ?_) | (first | refine Qz ?_ | refine Ra ?_ | refine Rb ?_))
      refine retP_ok (by simp) (by simp only [Try.results75]; rfl) (by simp [resP, St.box?, PF.get, loadB, TyK.agg, *]; rfl) (List.nil_sublist _) ?_
      exact ⟨by rw [HE.out]; simp [tupP, PV.norm2, PV.norm1, PV.norm0], rfl⟩
theorem rex_w : ∀ (m : Nat) (t : Nd), SizeOf.sizeOf t ≤ m → goodT t false = true → ndT t ≤ 100000000 → ∀ lv, lv ≤ 8 → RxC t lv := by
  intro m
  induction m with
  | zero => intro t h; cases t; simp at h
  | succ m ih =>
    intro t h hg hs lv hlv
    refine rex_of_in t lv hlv hg hs (rin_step t hg hs fun x hx lv hlv => ?_)
    have h2 := nd_mem hx
    have h3 := nd_sub t
    obtain ⟨k, a, s, n, sub⟩ := t
    have hlt : SizeOf.sizeOf x ≤ m := by
      have := List.sizeOf_lt_of_mem hx
      simp only [Nd.sub] at this
      simp at h
      omega
    rcases ex_cases hg with ⟨_, rfl⟩ | ⟨_, rfl, _⟩ | ⟨y, z, _, rfl, hy, hz⟩
    · simp [Nd.sub] at hx
    · simp [Nd.sub] at hx
    · simp only [Nd.sub, List.mem_cons, List.not_mem_nil, or_false] at hx
      rcases hx with rfl | rfl
      · exact ih _ hlt hy (by omega) lv hlv
      · exact ih _ hlt hz (by omega) lv hlv
end Go.Proofs.Ytffgfjnbgplckaa

namespace Go.Proofs.Ytffgfjnbgplckaa
open Go.RowKit
set_option maxRecDepth 100000
section
variable {P : Program} {n : Nat} {ops : Array Oper} {Q : PF → St → Prop} {rest : List Oper} {fr : PF} {st : St} {t rt ty : TypeId} {x y : Operand} {pos : String} {after : Array Edge} {gd : Option (Nat × Bool)} {d j : Nat} {od : List (Nat × Kd)}
theorem POps_callV {fo : Operand} {f : FuncId} {xs : Array Operand} {ts : Array TypeId} {ps qs : List PV} {r : PV} (hc : PCalls P f qs [] fun p s => p = r ∧ s = []) (hd : d < n) (hw : PF.wants fr ops ⟨some d, .call { callee := .value fo, args := xs, argTypes := ts }, ty, pos, after, gd⟩ = some true) (hf : fr.eval fo = some (.fn (.func f) [] [])) (hxs : evalArgs fr.eval xs.toList = some ps) (hn : ps.map PV.norm1 = qs) (hca : callable P f = true)
    (h : POps P n ops Q rest ((d, r) :: fr) st) : POps P n ops Q (⟨some d, .call { callee := .value fo, args := xs, argTypes := ts }, ty, pos, after, gd⟩ :: rest) fr st := by
  refine POps_e hd hw (POp_call (st0 := []) (st1 := st) (first := []) (cap := []) rfl hf hxs hca (List.Perm.refl _) (R0 := fun p s => p = r ∧ s = []) ?_ ?_)
  · simp only [List.nil_append, List.append_nil]
    subst hn
    exact hc.args_norm
  · rintro p s0 ⟨rfl, rfl⟩
    exact h
theorem POp_from {o : Oper} {ρ : Operand → Option PV} {t : TypeId} {x : Operand} {i : Nat} {s : ByteArray} (ho : o.op = .slice t x (some (.const (.int .i64 i))) none none) (ht : P.underlying t = some .string) (hx : ρ x = some (.d (.v (.string s)))) (hi : i ≤ s.size) (st : St) : POp P o ρ st fun q s' => q = .d (.v (.string (s.extract i s.size))) ∧ s' = st := by
  refine POp.of_run fun F K w a h1 h2 => ?_
  obtain ⟨od, op, ty, pos, after, guard⟩ := o
  simp only at ho h2
  subst ho
  have hr := h2 x (by simp [Op.operands]) _ hx
  generalize hv : a.eval x = v at hr
  cases hr with
  | d hr =>
    cases hr with
    | v hok =>
      have hok' : (s.extract i s.size).size ≤ maxLen := by
        have hok2 : s.size ≤ maxLen := hok
        rw [ByteArray.size_extract]; omega
      refine ⟨.string (s.extract i s.size), w, K, _, st, ?_, Ext.refl _ _ _, h1, .d (.v hok'), rfl, rfl⟩
      simp only [execOp, Option.map, hv]
      rw [Sem.run_bind, run_sliceAt_string _ _ _ _ _ _ ht]
      have := run_slice_string_l (P := P) w t s ht .i64 (i : Int) (by omega) (by omega)
      rw [show a.eval (.const (.int .i64 (i : Int))) = .int .i64 (i : Int) from rfl, this]
      rfl
end
theorem name_p (s : ByteArray) : PCalls Try.prog 70 [.d (.v (.string s))] [] fun p st => p = aggD (Nd.mk 1 0 s 0 []) ∧ st = [] := by
  refine PCalls.enter Try.func70 rfl Try.ntmps70 (by simp) ?_
  simp only [argsF]
  repeat (first | (with_reducible first | refine Qa ?_ | refine Qb ?_ | refine Qc ?_ | refine Qd ?_ | refine Qe ?_ | refine Qf ?_ | refine Qg ?_ | refine Qh ?_ | refine Qi ?_ | refine Qj ?_ | refine Qk ?_ | refine Ql ?_ | refine Qm ?_ | refine Qn ?_ | refine Qo ?_ | refine Qp rfl ?_) | (first | refine Qq ?_ | refine Qr ?_) | (first | refine Qs ?_ | refine Qt ?_ | refine Qu ?_) | (first | refine Qv ?_ | refine Qw ?_) | (first | refine Qx ?_ | refine Qy ?_) | (first | refine Qz ?_ | refine Ra ?_ | refine Rb ?_))
  refine POps_alloc_a ?_
  intro i0 hi0
  repeat (first | (with_reducible first | refine Qa ?_ | refine Qb ?_ | refine Qc ?_ | refine Qd ?_ | refine Qe ?_ | refine Qf ?_ | refine Qg ?_ | refine Qh ?_ | refine Qi ?_ | refine Qj ?_ | refine Qk ?_ | refine Ql ?_ | refine Qm ?_ | refine Qn ?_ | refine Qo ?_ | refine Qp rfl ?_) | (first | refine Qq ?_ | refine Qr ?_) | (first | refine Qs ?_ | refine Qt ?_ | refine Qu ?_) | (first | refine Qv ?_ | refine Qw ?_) | (first | refine Qx ?_ | refine Qy ?_) | (first | refine Qz ?_ | refine Ra ?_ | refine Rb ?_))
  refine Rc ?_
  repeat (first | (with_reducible first | refine Qa ?_ | refine Qb ?_ | refine Qc ?_ | refine Qd ?_ | refine Qe ?_ | refine Qf ?_ | refine Qg ?_ | refine Qh ?_ | refine Qi ?_ | refine Qj ?_ | refine Qk ?_ | refine Ql ?_ | refine Qm ?_ | refine Qn ?_ | refine Qo ?_ | refine Qp rfl ?_) | (first | refine Qq ?_ | refine Qr ?_) | (first | refine Qs ?_ | refine Qt ?_ | refine Qu ?_) | (first | refine Qv ?_ | refine Qw ?_) | (first | refine Qx ?_ | refine Qy ?_) | (first | refine Qz ?_ | refine Ra ?_ | refine Rb ?_))
  refine retP_ok (by simp) (by simp only [Try.results70]; rfl) (by simp [resP, St.box?, PF.get, loadB, TyK.agg, *]; rfl) (List.nil_sublist _) ?_
  exact ⟨rfl, rfl⟩
theorem arrow_p (a b : Nd) : PCalls Try.prog 69 [aggD a, aggD b] [] fun p st => p = aggD (Nd.mk 3 0 ⟨#[95]⟩ 0 [a, b]) ∧ st = [] := by
  have hE := encD_mk 3 0 0 ⟨#[95]⟩ [a, b]
  simp only [List.map_cons, List.map_nil, encD_nd a, encD_nd b] at hE
  simp only [aggD, encD_nd a, encD_nd b, List.map_cons, List.map_nil]
  refine PCalls.enter Try.func69 rfl Try.ntmps69 (by simp) ?_
  simp only [argsF]
  repeat (first | (with_reducible first | refine Qa ?_ | refine Qb ?_ | refine Qc ?_ | refine Qd ?_ | refine Qe ?_ | refine Qf ?_ | refine Qg ?_ | refine Qh ?_ | refine Qi ?_ | refine Qj ?_ | refine Qk ?_ | refine Ql ?_ | refine Qm ?_ | refine Qn ?_ | refine Qo ?_ | refine Qp rfl ?_) | (first | refine Qq ?_ | refine Qr ?_) | (first | refine Qs ?_ | refine Qt ?_ | refine Qu ?_) | (first | refine Qv ?_ | refine Qw ?_) | (first | refine Qx ?_ | refine Qy ?_) | (first | refine Qz ?_ | refine Ra ?_ | refine Rb ?_))
  refine POps_box_a ?_
  intro i0 hi0
  refine POps_box_a ?_
  intro i1 hi1
  simp only [St.freshB_box, St.freshB_nil] at hi1
  refine POps_alloc_a ?_
  intro i2 hi2
  simp only [St.freshB_box, St.freshB_nil] at hi2
  repeat (first | (with_reducible first | refine Qa ?_ | refine Qb ?_ | refine Qc ?_ | refine Qd ?_ | refine Qe ?_ | refine Qf ?_ | refine Qg ?_ | refine Qh ?_ | refine Qi ?_ | refine Qj ?_ | refine Qk ?_ | refine Ql ?_ | refine Qm ?_ | refine Qn ?_ | refine Qo ?_ | refine Qp rfl ?_) | (first | refine Qq ?_ | refine Qr ?_) | (first | refine Qs ?_ | refine Qt ?_ | refine Qu ?_) | (first | refine Qv ?_ | refine Qw ?_) | (first | refine Qx ?_ | refine Qy ?_) | (first | refine Qz ?_ | refine Ra ?_ | refine Rb ?_))
  refine POps_bs_a ?_
  repeat (first | (with_reducible first | refine Qa ?_ | refine Qb ?_ | refine Qc ?_ | refine Qd ?_ | refine Qe ?_ | refine Qf ?_ | refine Qg ?_ | refine Qh ?_ | refine Qi ?_ | refine Qj ?_ | refine Qk ?_ | refine Ql ?_ | refine Qm ?_ | refine Qn ?_ | refine Qo ?_ | refine Qp rfl ?_) | (first | refine Qq ?_ | refine Qr ?_) | (first | refine Qs ?_ | refine Qt ?_ | refine Qu ?_) | (first | refine Qv ?_ | refine Qw ?_) | (first | refine Qx ?_ | refine Qy ?_) | (first | refine Qz ?_ | refine Ra ?_ | refine Rb ?_))
  refine Rc ?_
  repeat (first | (with_reducible first | refine Qa ?_ | refine Qb ?_ | refine Qc ?_ | refine Qd ?_ | refine Qe ?_ | refine Qf ?_ | refine Qg ?_ | refine Qh ?_ | refine Qi ?_ | refine Qj ?_ | refine Qk ?_ | refine Ql ?_ | refine Qm ?_ | refine Qn ?_ | refine Qo ?_ | refine Qp rfl ?_) | (first | refine Qq ?_ | refine Qr ?_) | (first | refine Qs ?_ | refine Qt ?_ | refine Qu ?_) | (first | refine Qv ?_ | refine Qw ?_) | (first | refine Qx ?_ | refine Qy ?_) | (first | refine Qz ?_ | refine Ra ?_ | refine Rb ?_))
  refine retP_ok (by simp) (by simp only [Try.results69]; rfl) (by simp [resP, St.box?, PF.get, loadB, TyK.agg, *]; rfl) (List.nil_sublist _) ?_
  refine ⟨?_, rfl⟩
  rw [hE]
  rfl
def aw6 : Nd := .mk 3 0 ⟨#[95]⟩ 0 [.mk 3 0 ⟨#[95]⟩ 0 [.mk 1 0 ⟨#[65]⟩ 0 [], .mk 1 0 ⟨#[66]⟩ 0 []], .mk 1 0 ⟨#[67]⟩ 0 []]
theorem aw_text : exprR aw6 = .tup [.d (.v (.string ⟨#[40, 65, 32, 45, 62, 32, 66, 41, 32, 45, 62, 32, 67]⟩)), .d (.v (.int .i64 0))] := by
  have h1 : exprB aw6 = true := by decide +kernel
  have h2 : exL aw6 0 = [40, 65, 32, 45, 62, 32, 66, 41, 32, 45, 62, 32, 67] := by
    unfold aw6 exL
    rw [inL_arrow _ _ _ _ _ _ rfl rfl]
    unfold exL
    rw [inL_arrow _ _ _ _ _ _ rfl rfl]
    unfold exL
    simp only [inL_name _ _ _ _ rfl]
    simp [par, wrapL, Nd.kind]
  unfold exprR
  rw [if_pos h1, h2]
  rfl
theorem num_aw : numS (-10) = ⟨#[45, 49, 48]⟩ := by
  rw [numS, if_pos (by omega)]
  unfold decS
  rw [show (-10 : Int).natAbs = 10 from rfl, decL_step 10 (by omega), decL_small (10 / 10) (by omega)]
  rfl
set_option maxHeartbeats 4000000 in
theorem awake6_p : PCalls Try.prog 37 [] [] fun p st => p = .d (.v (.bool true)) ∧ st = [] := by
  have hN := pexpr_p aw6
  rw [aw_text] at hN
  unfold aw6 at hN
  have hP := pnum_p (-10) (by omega) (by omega)
  rw [num_aw] at hP
  refine PCalls.enter Try.func37 rfl Try.ntmps37 (by simp) ?_
  simp only [argsF]
  repeat (first | (with_reducible first | refine Qa ?_ | refine Qb ?_ | refine Qc ?_ | refine Qd ?_ | refine Qe ?_ | refine Qf ?_ | refine Qg ?_ | refine Qh ?_ | refine Qi ?_ | refine Qj ?_ | refine Qk ?_ | refine Ql ?_ | refine Qm ?_ | refine Qn ?_ | refine Qo ?_ | refine Qp rfl ?_) | (first | refine Qq ?_ | refine Qr ?_) | (first | refine Qs ?_ | refine Qt ?_ | refine Qu ?_) | (first | refine Qv ?_ | refine Qw ?_) | (first | refine Qx ?_ | refine Qy ?_) | (first | refine Qz ?_ | refine Ra ?_ | refine Rb ?_))
  refine POps_call_a (name_p ⟨#[65]⟩) ?_
  repeat (first | (with_reducible first | refine Qa ?_ | refine Qb ?_ | refine Qc ?_ | refine Qd ?_ | refine Qe ?_ | refine Qf ?_ | refine Qg ?_ | refine Qh ?_ | refine Qi ?_ | refine Qj ?_ | refine Qk ?_ | refine Ql ?_ | refine Qm ?_ | refine Qn ?_ | refine Qo ?_ | refine Qp rfl ?_) | (first | refine Qq ?_ | refine Qr ?_) | (first | refine Qs ?_ | refine Qt ?_ | refine Qu ?_) | (first | refine Qv ?_ | refine Qw ?_) | (first | refine Qx ?_ | refine Qy ?_) | (first | refine Qz ?_ | refine Ra ?_ | refine Rb ?_))
  refine POps_call_a (name_p ⟨#[66]⟩) ?_
  repeat (first | (with_reducible first | refine Qa ?_ | refine Qb ?_ | refine Qc ?_ | refine Qd ?_ | refine Qe ?_ | refine Qf ?_ | refine Qg ?_ | refine Qh ?_ | refine Qi ?_ | refine Qj ?_ | refine Qk ?_ | refine Ql ?_ | refine Qm ?_ | refine Qn ?_ | refine Qo ?_ | refine Qp rfl ?_) | (first | refine Qq ?_ | refine Qr ?_) | (first | refine Qs ?_ | refine Qt ?_ | refine Qu ?_) | (first | refine Qv ?_ | refine Qw ?_) | (first | refine Qx ?_ | refine Qy ?_) | (first | refine Qz ?_ | refine Ra ?_ | refine Rb ?_))
  refine POps_callV (arrow_p (.mk 1 0 ⟨#[65]⟩ 0 []) (.mk 1 0 ⟨#[66]⟩ 0 [])) (by decide) rfl (by first | (simp [nev, nevA, nevB, evBuild, PF.eval, PF.get, PF.wants, cPV, cCell, PV.rows, evBin, evUn, evConv, evLen, loadA, loadB, TyK.agg, partA, St.box?, St.tok?, St.setBox, St.setTok, fillO, spl, PV.ps, PV.one, evalArgs, aggD, slD, encD_nd, encD_bd, encD_rw, encD_dc, encD_str, encD_int, *]; done) | fail) (by simp [nev, nevA, nevB, evBuild, PF.eval, PF.get, PF.wants, cPV, cCell, PV.rows, evBin, evUn, evConv, evLen, loadA, loadB, TyK.agg, partA, St.box?, St.tok?, St.setBox, St.setTok, fillO, spl, PV.ps, PV.one, evalArgs, aggD, slD, encD_nd, encD_bd, encD_rw, encD_dc, encD_str, encD_int, *]; rfl) (by first | (simp [PV.norm1, PV.norm0, aggD, slD, encD_nd, encD_bd, encD_rw, encD_dc, encD_str]; done) | fail) rfl ?_
  repeat (first | (with_reducible first | refine Qa ?_ | refine Qb ?_ | refine Qc ?_ | refine Qd ?_ | refine Qe ?_ | refine Qf ?_ | refine Qg ?_ | refine Qh ?_ | refine Qi ?_ | refine Qj ?_ | refine Qk ?_ | refine Ql ?_ | refine Qm ?_ | refine Qn ?_ | refine Qo ?_ | refine Qp rfl ?_) | (first | refine Qq ?_ | refine Qr ?_) | (first | refine Qs ?_ | refine Qt ?_ | refine Qu ?_) | (first | refine Qv ?_ | refine Qw ?_) | (first | refine Qx ?_ | refine Qy ?_) | (first | refine Qz ?_ | refine Ra ?_ | refine Rb ?_))
  refine POps_call_a (name_p ⟨#[67]⟩) ?_
  repeat (first | (with_reducible first | refine Qa ?_ | refine Qb ?_ | refine Qc ?_ | refine Qd ?_ | refine Qe ?_ | refine Qf ?_ | refine Qg ?_ | refine Qh ?_ | refine Qi ?_ | refine Qj ?_ | refine Qk ?_ | refine Ql ?_ | refine Qm ?_ | refine Qn ?_ | refine Qo ?_ | refine Qp rfl ?_) | (first | refine Qq ?_ | refine Qr ?_) | (first | refine Qs ?_ | refine Qt ?_ | refine Qu ?_) | (first | refine Qv ?_ | refine Qw ?_) | (first | refine Qx ?_ | refine Qy ?_) | (first | refine Qz ?_ | refine Ra ?_ | refine Rb ?_))
  refine POps_callV (arrow_p (.mk 3 0 ⟨#[95]⟩ 0 [.mk 1 0 ⟨#[65]⟩ 0 [], .mk 1 0 ⟨#[66]⟩ 0 []]) (.mk 1 0 ⟨#[67]⟩ 0 [])) (by decide) rfl (by first | (simp [nev, nevA, nevB, evBuild, PF.eval, PF.get, PF.wants, cPV, cCell, PV.rows, evBin, evUn, evConv, evLen, loadA, loadB, TyK.agg, partA, St.box?, St.tok?, St.setBox, St.setTok, fillO, spl, PV.ps, PV.one, evalArgs, aggD, slD, encD_nd, encD_bd, encD_rw, encD_dc, encD_str, encD_int, *]; done) | fail) (by simp [nev, nevA, nevB, evBuild, PF.eval, PF.get, PF.wants, cPV, cCell, PV.rows, evBin, evUn, evConv, evLen, loadA, loadB, TyK.agg, partA, St.box?, St.tok?, St.setBox, St.setTok, fillO, spl, PV.ps, PV.one, evalArgs, aggD, slD, encD_nd, encD_bd, encD_rw, encD_dc, encD_str, encD_int, *]; rfl) (by first | (simp [PV.norm1, PV.norm0, aggD, slD, encD_nd, encD_bd, encD_rw, encD_dc, encD_str]; done) | fail) rfl ?_
  repeat (first | (with_reducible first | refine Qa ?_ | refine Qb ?_ | refine Qc ?_ | refine Qd ?_ | refine Qe ?_ | refine Qf ?_ | refine Qg ?_ | refine Qh ?_ | refine Qi ?_ | refine Qj ?_ | refine Qk ?_ | refine Ql ?_ | refine Qm ?_ | refine Qn ?_ | refine Qo ?_ | refine Qp rfl ?_) | (first | refine Qq ?_ | refine Qr ?_) | (first | refine Qs ?_ | refine Qt ?_ | refine Qu ?_) | (first | refine Qv ?_ | refine Qw ?_) | (first | refine Qx ?_ | refine Qy ?_) | (first | refine Qz ?_ | refine Ra ?_ | refine Rb ?_))
  refine POps_call_a (hN) ?_
  repeat (first | (with_reducible first | refine Qa ?_ | refine Qb ?_ | refine Qc ?_ | refine Qd ?_ | refine Qe ?_ | refine Qf ?_ | refine Qg ?_ | refine Qh ?_ | refine Qi ?_ | refine Qj ?_ | refine Qk ?_ | refine Ql ?_ | refine Qm ?_ | refine Qn ?_ | refine Qo ?_ | refine Qp rfl ?_) | (first | refine Qq ?_ | refine Qr ?_) | (first | refine Qs ?_ | refine Qt ?_ | refine Qu ?_) | (first | refine Qv ?_ | refine Qw ?_) | (first | refine Qx ?_ | refine Qy ?_) | (first | refine Qz ?_ | refine Ra ?_ | refine Rb ?_))
  refine POps_call_b (hP) ?_
  repeat (first | (with_reducible first | refine Qa ?_ | refine Qb ?_ | refine Qc ?_ | refine Qd ?_ | refine Qe ?_ | refine Qf ?_ | refine Qg ?_ | refine Qh ?_ | refine Qi ?_ | refine Qj ?_ | refine Qk ?_ | refine Ql ?_ | refine Qm ?_ | refine Qn ?_ | refine Qo ?_ | refine Qp rfl ?_) | (first | refine Qq ?_ | refine Qr ?_) | (first | refine Qs ?_ | refine Qt ?_ | refine Qu ?_) | (first | refine Qv ?_ | refine Qw ?_) | (first | refine Qx ?_ | refine Qy ?_) | (first | refine Qz ?_ | refine Ra ?_ | refine Rb ?_))
  refine retP_ok (by simp) (by simp only [Try.results37]; rfl) (by simp [resP, St.box?, PF.get, loadB, TyK.agg, *]; rfl) (List.nil_sublist _) ?_
  exact ⟨rfl, rfl⟩
end Go.Proofs.Ytffgfjnbgplckaa

namespace Go.Proofs.Ytffgfjnbgplckaa
open Go.RowKit
set_option maxRecDepth 100000
theorem patsL_len_take (l : List Nd) (k : Nat) : (patsL (l.take k)).length ≤ (patsL l).length := by
  have := patsL_app (l.take k) (l.drop k)
  rw [List.take_append_drop] at this
  rw [this]; simp
theorem pats_len : ∀ (l : List Nd), (∀ x ∈ l, (patL x).length + 1 ≤ 60 * ndT x) → (patsL l).length ≤ 60 * ndL l
  | [], _ => by simp [patsL]
  | t :: ts, h => by
    have h1 := h t (by simp)
    have h2 := pats_len ts fun x hx => h x (by simp [hx])
    simp only [patsL, ndL, List.length_append, List.length_cons, List.length_nil]; omega
theorem pat_len : ∀ (m : Nat) (t : Nd), SizeOf.sizeOf t ≤ m → goodT t true = true → (patL t).length + 1 ≤ 60 * ndT t := by
  intro m
  induction m with
  | zero => intro t h; cases t; simp at h
  | succ m ih =>
    intro t h hg
    obtain ⟨k, a, s, n, sub⟩ := t
    have hn := good_name hg
    rcases pat_cases hg with ⟨rfl, rfl⟩ | ⟨rfl, rfl⟩ | ⟨rfl, rfl⟩ | ⟨rfl, x, rfl, hx⟩ | ⟨rfl, hL⟩
    · simp only [patL, ndT, ndL]; simp; omega
    · simp only [patL, ndT, ndL]; simp
    · simp only [patL, ndT, ndL]; simp
    · have := ex_len hx 2
      simp only [patL, ndT, ndL, dotL]; simp; omega
    · have := pats_len sub fun x hx => by
        refine ih x ?_ (goodL_mem hL x hx)
        have := List.sizeOf_lt_of_mem hx
        simp at h; omega
      simp only [patL, ndT]; simp; omega
def RpC (t : Nd) : Prop := PCalls Try.prog 42 [aggD t] [] fun p s => p = .d (.v (.string (strB (patL t)))) ∧ s = []
set_option maxHeartbeats 8000000 in
theorem rpat_step (t : Nd) (hg : goodT t true = true) (hs : ndT t ≤ 100000) (ih : ∀ x ∈ t.sub, goodT x true = true → RpC x) : RpC t := by
  have hlen := pat_len _ t (Nat.le_refl _) hg
  obtain ⟨k, a, s, n, sub⟩ := t
  have hname := good_name hg
  unfold RpC
  have hdot := fun x (hx : goodT x false = true) (h : ndT x ≤ 100000000) => rex_w _ x (Nat.le_refl _) hx h 2 (by omega)
  rcases pat_cases hg with ⟨rfl, rfl⟩ | ⟨rfl, rfl⟩ | ⟨rfl, rfl⟩ | ⟨rfl, x, rfl, hx⟩ | ⟨rfl, hL⟩
  · have HE := Lib.hid (show patL (.mk 6 a s n []) = s.toList by simp [patL])
    generalize patL (.mk 6 a s n []) = txt at *
    simp only [aggD, encD_mk, List.map_cons, List.map_nil]
    refine PCalls.enter Try.func42 rfl Try.ntmps42 (by simp) ?_
    simp only [argsF]
    repeat (first | (with_reducible first | refine Qa ?_ | refine Qb ?_ | refine Qc ?_ | refine Qd ?_ | refine Qe ?_ | refine Qf ?_ | refine Qg ?_ | refine Qh ?_ | refine Qi ?_ | refine Qj ?_ | refine Qk ?_ | refine Ql ?_ | refine Qm ?_ | refine Qn ?_ | refine Qo ?_ | refine Qp rfl ?_) | (first | refine Qq ?_ | refine Qr ?_) | (first | refine Qs ?_ | refine Qt ?_ | refine Qu ?_) | (first | refine Qv ?_ | refine Qw ?_) | (first | refine Qx ?_ | refine Qy ?_) | (first | refine Qz ?_ | refine Ra ?_ | refine Rb ?_))
    refine POps_box_a ?_
    intro i0 hi0
    repeat (first | (with_reducible first | refine Qa ?_ | refine Qb ?_ | refine Qc ?_ | refine Qd ?_ | refine Qe ?_ | refine Qf ?_ | refine Qg ?_ | refine Qh ?_ | refine Qi ?_ | refine Qj ?_ | refine Qk ?_ | refine Ql ?_ | refine Qm ?_ | refine Qn ?_ | refine Qo ?_ | refine Qp rfl ?_) | (first | refine Qq ?_ | refine Qr ?_) | (first | refine Qs ?_ | refine Qt ?_ | refine Qu ?_) | (first | refine Qv ?_ | refine Qw ?_) | (first | refine Qx ?_ | refine Qy ?_) | (first | refine Qz ?_ | refine Ra ?_ | refine Rb ?_))
    refine retP_ok (by simp) (by simp only [Try.results42]; rfl) (by simp [resP, St.box?, PF.get, loadB, TyK.agg, *]; rfl) (List.nil_sublist _) ?_
    exact ⟨by rw [HE.out, ← strB_toList]; rfl, rfl⟩
  · have HE := Lib.hid (show patL (.mk 7 a s n []) = [95] by simp [patL])
    generalize patL (.mk 7 a s n []) = txt at *
    simp only [aggD, encD_mk, List.map_cons, List.map_nil]
    refine PCalls.enter Try.func42 rfl Try.ntmps42 (by simp) ?_
    simp only [argsF]
    repeat (first | (with_reducible first | refine Qa ?_ | refine Qb ?_ | refine Qc ?_ | refine Qd ?_ | refine Qe ?_ | refine Qf ?_ | refine Qg ?_ | refine Qh ?_ | refine Qi ?_ | refine Qj ?_ | refine Qk ?_ | refine Ql ?_ | refine Qm ?_ | refine Qn ?_ | refine Qo ?_ | refine Qp rfl ?_) | (first | refine Qq ?_ | refine Qr ?_) | (first | refine Qs ?_ | refine Qt ?_ | refine Qu ?_) | (first | refine Qv ?_ | refine Qw ?_) | (first | refine Qx ?_ | refine Qy ?_) | (first | refine Qz ?_ | refine Ra ?_ | refine Rb ?_))
    refine POps_box_a ?_
    intro i0 hi0
    repeat (first | (with_reducible first | refine Qa ?_ | refine Qb ?_ | refine Qc ?_ | refine Qd ?_ | refine Qe ?_ | refine Qf ?_ | refine Qg ?_ | refine Qh ?_ | refine Qi ?_ | refine Qj ?_ | refine Qk ?_ | refine Ql ?_ | refine Qm ?_ | refine Qn ?_ | refine Qo ?_ | refine Qp rfl ?_) | (first | refine Qq ?_ | refine Qr ?_) | (first | refine Qs ?_ | refine Qt ?_ | refine Qu ?_) | (first | refine Qv ?_ | refine Qw ?_) | (first | refine Qx ?_ | refine Qy ?_) | (first | refine Qz ?_ | refine Ra ?_ | refine Rb ?_))
    refine retP_ok (by simp) (by simp only [Try.results42]; rfl) (by simp [resP, St.box?, PF.get, loadB, TyK.agg, *]; rfl) (List.nil_sublist _) ?_
    exact ⟨by rw [HE.out]; rfl, rfl⟩
  · have HE := Lib.hid (show patL (.mk 9 a s n []) = [40, 41] by simp [patL])
    generalize patL (.mk 9 a s n []) = txt at *
    simp only [aggD, encD_mk, List.map_cons, List.map_nil]
    refine PCalls.enter Try.func42 rfl Try.ntmps42 (by simp) ?_
    simp only [argsF]
    repeat (first | (with_reducible first | refine Qa ?_ | refine Qb ?_ | refine Qc ?_ | refine Qd ?_ | refine Qe ?_ | refine Qf ?_ | refine Qg ?_ | refine Qh ?_ | refine Qi ?_ | refine Qj ?_ | refine Qk ?_ | refine Ql ?_ | refine Qm ?_ | refine Qn ?_ | refine Qo ?_ | refine Qp rfl ?_) | (first | refine Qq ?_ | refine Qr ?_) | (first | refine Qs ?_ | refine Qt ?_ | refine Qu ?_) | (first | refine Qv ?_ | refine Qw ?_) | (first | refine Qx ?_ | refine Qy ?_) | (first | refine Qz ?_ | refine Ra ?_ | refine Rb ?_))
    refine POps_box_a ?_
    intro i0 hi0
    repeat (first | (with_reducible first | refine Qa ?_ | refine Qb ?_ | refine Qc ?_ | refine Qd ?_ | refine Qe ?_ | refine Qf ?_ | refine Qg ?_ | refine Qh ?_ | refine Qi ?_ | refine Qj ?_ | refine Qk ?_ | refine Ql ?_ | refine Qm ?_ | refine Qn ?_ | refine Qo ?_ | refine Qp rfl ?_) | (first | refine Qq ?_ | refine Qr ?_) | (first | refine Qs ?_ | refine Qt ?_ | refine Qu ?_) | (first | refine Qv ?_ | refine Qw ?_) | (first | refine Qx ?_ | refine Qy ?_) | (first | refine Qz ?_ | refine Ra ?_ | refine Rb ?_))
    refine retP_ok (by simp) (by simp only [Try.results42]; rfl) (by simp [resP, St.box?, PF.get, loadB, TyK.agg, *]; rfl) (List.nil_sublist _) ?_
    exact ⟨by rw [HE.out]; rfl, rfl⟩
  · have HE := Lib.hid (show patL (.mk 10 a s n [x]) = [46] ++ exL x 2 by simp [patL, dotL])
    generalize patL (.mk 10 a s n [x]) = txt at *
    have hnx : ndT x ≤ 100000000 := by simp only [ndT, ndL] at hs; omega
    have hd := hdot x hx hnx
    have hl := ex_len hx 2
    clear hdot hlen
    simp only [aggD, encD_mk, List.map_cons, List.map_nil]
    refine PCalls.enter Try.func42 rfl Try.ntmps42 (by simp) ?_
    simp only [argsF]
    repeat (first | (with_reducible first | refine Qa ?_ | refine Qb ?_ | refine Qc ?_ | refine Qd ?_ | refine Qe ?_ | refine Qf ?_ | refine Qg ?_ | refine Qh ?_ | refine Qi ?_ | refine Qj ?_ | refine Qk ?_ | refine Ql ?_ | refine Qm ?_ | refine Qn ?_ | refine Qo ?_ | refine Qp rfl ?_) | (first | refine Qq ?_ | refine Qr ?_) | (first | refine Qs ?_ | refine Qt ?_ | refine Qu ?_) | (first | refine Qv ?_ | refine Qw ?_) | (first | refine Qx ?_ | refine Qy ?_) | (first | refine Qz ?_ | refine Ra ?_ | refine Rb ?_))
    refine POps_box_a ?_
    intro i0 hi0
    repeat (first | (with_reducible first | refine Qa ?_ | refine Qb ?_ | refine Qc ?_ | refine Qd ?_ | refine Qe ?_ | refine Qf ?_ | refine Qg ?_ | refine Qh ?_ | refine Qi ?_ | refine Qj ?_ | refine Qk ?_ | refine Ql ?_ | refine Qm ?_ | refine Qn ?_ | refine Qo ?_ | refine Qp rfl ?_) | (first | refine Qq ?_ | refine Qr ?_) | (first | refine Qs ?_ | refine Qt ?_ | refine Qu ?_) | (first | refine Qv ?_ | refine Qw ?_) | (first | refine Qx ?_ | refine Qy ?_) | (first | refine Qz ?_ | refine Ra ?_ | refine Rb ?_))
    refine POps_call_a (hd) ?_
    repeat (first | (with_reducible first | refine Qa ?_ | refine Qb ?_ | refine Qc ?_ | refine Qd ?_ | refine Qe ?_ | refine Qf ?_ | refine Qg ?_ | refine Qh ?_ | refine Qi ?_ | refine Qj ?_ | refine Qk ?_ | refine Ql ?_ | refine Qm ?_ | refine Qn ?_ | refine Qo ?_ | refine Qp rfl ?_) | (first | refine Qq ?_ | refine Qr ?_) | (first | refine Qs ?_ | refine Qt ?_ | refine Qu ?_) | (first | refine Qv ?_ | refine Qw ?_) | (first | refine Qx ?_ | refine Qy ?_) | (first | refine Qz ?_ | refine Ra ?_ | refine Rb ?_))
    refine POps_cat_a ?_
    repeat (first | (with_reducible first | refine Qa ?_ | refine Qb ?_ | refine Qc ?_ | refine Qd ?_ | refine Qe ?_ | refine Qf ?_ | refine Qg ?_ | refine Qh ?_ | refine Qi ?_ | refine Qj ?_ | refine Qk ?_ | refine Ql ?_ | refine Qm ?_ | refine Qn ?_ | refine Qo ?_ | refine Qp rfl ?_) | (first | refine Qq ?_ | refine Qr ?_) | (first | refine Qs ?_ | refine Qt ?_ | refine Qu ?_) | (first | refine Qv ?_ | refine Qw ?_) | (first | refine Qx ?_ | refine Qy ?_) | (first | refine Qz ?_ | refine Ra ?_ | refine Rb ?_))
    refine retP_ok (by simp) (by simp only [Try.results42]; rfl) (by simp [resP, St.box?, PF.get, loadB, TyK.agg, *]; rfl) (List.nil_sublist _) ?_
    exact ⟨by rw [HE.out]; simp [tupP, PV.norm2, PV.norm1, PV.norm0], rfl⟩
  · have HE := Lib.hid (show patL (.mk 8 a s n sub) = [40] ++ s.toList ++ patsL sub ++ [41] by simp [patL])
    have hpl : (patsL sub).length ≤ 10000000 := by rw [HE.out] at hlen; simp at hlen; omega
    generalize patL (.mk 8 a s n sub) = txt at *
    have ih' : ∀ (k : Nat) (h : k < sub.length), RpC sub[k] := fun k h => ih _ (List.getElem_mem h) (goodL_mem hL _ (List.getElem_mem h))
    have hsl : sub.length ≤ 100000 := by
      rw [nd_sub] at hs
      have := ndL_len sub
      simp only [Nd.sub] at hs; omega
    clear ih hdot hs hlen
    simp only [aggD, encD_mk, List.map_cons, List.map_nil]
    refine PCalls.enter Try.func42 rfl Try.ntmps42 (by simp) ?_
    simp only [argsF]
    repeat (first | (with_reducible first | refine Qa ?_ | refine Qb ?_ | refine Qc ?_ | refine Qd ?_ | refine Qe ?_ | refine Qf ?_ | refine Qg ?_ | refine Qh ?_ | refine Qi ?_ | refine Qj ?_ | refine Qk ?_ | refine Ql ?_ | refine Qm ?_ | refine Qn ?_ | refine Qo ?_ | refine Qp rfl ?_) | (first | refine Qq ?_ | refine Qr ?_) | (first | refine Qs ?_ | refine Qt ?_ | refine Qu ?_) | (first | refine Qv ?_ | refine Qw ?_) | (first | refine Qx ?_ | refine Qy ?_) | (first | refine Qz ?_ | refine Ra ?_ | refine Rb ?_))
    refine POps_box_a ?_
    intro i0 hi0
    repeat (first | (with_reducible first | refine Qa ?_ | refine Qb ?_ | refine Qc ?_ | refine Qd ?_ | refine Qe ?_ | refine Qf ?_ | refine Qg ?_ | refine Qh ?_ | refine Qi ?_ | refine Qj ?_ | refine Qk ?_ | refine Ql ?_ | refine Qm ?_ | refine Qn ?_ | refine Qo ?_ | refine Qp rfl ?_) | (first | refine Qq ?_ | refine Qr ?_) | (first | refine Qs ?_ | refine Qt ?_ | refine Qu ?_) | (first | refine Qv ?_ | refine Qw ?_) | (first | refine Qx ?_ | refine Qy ?_) | (first | refine Qz ?_ | refine Ra ?_ | refine Rb ?_))
    refine POps_cat_a ?_
    repeat (first | (with_reducible first | refine Qa ?_ | refine Qb ?_ | refine Qc ?_ | refine Qd ?_ | refine Qe ?_ | refine Qf ?_ | refine Qg ?_ | refine Qh ?_ | refine Qi ?_ | refine Qj ?_ | refine Qk ?_ | refine Ql ?_ | refine Qm ?_ | refine Qn ?_ | refine Qo ?_ | refine Qp rfl ?_) | (first | refine Qq ?_ | refine Qr ?_) | (first | refine Qs ?_ | refine Qt ?_ | refine Qu ?_) | (first | refine Qv ?_ | refine Qw ?_) | (first | refine Qx ?_ | refine Qy ?_) | (first | refine Qz ?_ | refine Ra ?_ | refine Rb ?_))
    refine PW_loop (ι := Nat) (fun k => k ≤ sub.length) (fun k => [(1, .ptr i0 0), (3, .d (.v (.string (strB ([40] ++ s.toList ++ patsL (sub.take k)))))), (4, .d (.v (.int .i64 k)))]) (fun k => [.box i0 27 [.d (.v (.int .i64 8)), .d (.v (.int .i64 a)), .d (.v (.string s)), .d (.v (.int .i64 n)), .d (.sl (sub.map encD))]]) (fun k => sub.length - k) 0 (Nat.zero_le _) ?_ ?_ ?_
    · refine sub_cons (by simp [PF.get] <;> rfl) rfl ?_
      refine sub_cons (by simp [PF.get] <;> rfl) (by simp [patsL]) ?_
      repeat (first | exact sub_nil _ | refine sub_cons (by simp [PF.get]; rfl) (by first | rfl | (simp [*]; done) | fail) ?_)
    · repeat (first | exact List.Sublist.refl _ | exact List.nil_sublist _ | refine List.Sublist.cons_cons _ ?_ | refine List.Sublist.cons _ ?_)
    · intro k hk
      by_cases hlt : k < sub.length
      · have hx := get_enc hlt
        have hc : ((k : Int) < (sub.length : Int)) := by omega
        have hn : (0 : Int) ≤ (k : Int) := by omega
        have hin := wrap_next hlt (by omega)
        have hpk := patsL_len_take sub k
        have hp1 := patsL_len_take sub (k + 1)
        rw [patsL_take hlt] at hp1
        simp only [List.length_append] at hp1
        have HT := Lib.hid (patsL_take hlt)
        repeat (first | (with_reducible first | refine Qa ?_ | refine Qb ?_ | refine Qc ?_ | refine Qd ?_ | refine Qe ?_ | refine Qf ?_ | refine Qg ?_ | refine Qh ?_ | refine Qi ?_ | refine Qj ?_ | refine Qk ?_ | refine Ql ?_ | refine Qm ?_ | refine Qn ?_ | refine Qo ?_ | refine Qp rfl ?_) | (first | refine Qq ?_ | refine Qr ?_) | (first | refine Qs ?_ | refine Qt ?_ | refine Qu ?_) | (first | refine Qv ?_ | refine Qw ?_) | (first | refine Qx ?_ | refine Qy ?_) | (first | refine Qz ?_ | refine Ra ?_ | refine Rb ?_))
        refine POps_cat_a ?_
        repeat (first | (with_reducible first | refine Qa ?_ | refine Qb ?_ | refine Qc ?_ | refine Qd ?_ | refine Qe ?_ | refine Qf ?_ | refine Qg ?_ | refine Qh ?_ | refine Qi ?_ | refine Qj ?_ | refine Qk ?_ | refine Ql ?_ | refine Qm ?_ | refine Qn ?_ | refine Qo ?_ | refine Qp rfl ?_) | (first | refine Qq ?_ | refine Qr ?_) | (first | refine Qs ?_ | refine Qt ?_ | refine Qu ?_) | (first | refine Qv ?_ | refine Qw ?_) | (first | refine Qx ?_ | refine Qy ?_) | (first | refine Qz ?_ | refine Ra ?_ | refine Rb ?_))
        refine POps_call_a (ih' k hlt) ?_
        refine POps_cat_a ?_
        repeat (first | (with_reducible first | refine Qa ?_ | refine Qb ?_ | refine Qc ?_ | refine Qd ?_ | refine Qe ?_ | refine Qf ?_ | refine Qg ?_ | refine Qh ?_ | refine Qi ?_ | refine Qj ?_ | refine Qk ?_ | refine Ql ?_ | refine Qm ?_ | refine Qn ?_ | refine Qo ?_ | refine Qp rfl ?_) | (first | refine Qq ?_ | refine Qr ?_) | (first | refine Qs ?_ | refine Qt ?_ | refine Qu ?_) | (first | refine Qv ?_ | refine Qw ?_) | (first | refine Qx ?_ | refine Qy ?_) | (first | refine Qz ?_ | refine Ra ?_ | refine Rb ?_))
        refine ⟨k + 1, by omega, by omega, ?_, ?_⟩
        · refine sub_cons (by simp [PF.get] <;> rfl) rfl ?_
          refine sub_cons (by simp [PF.get] <;> rfl) (by rw [HT.out]; simp) ?_
          repeat (first | exact sub_nil _ | refine sub_cons (by simp [PF.get]; rfl) (by first | rfl | (simp [hin]; done) | fail) ?_)
        · repeat (first | exact List.Sublist.refl _ | exact List.nil_sublist _ | refine List.Sublist.cons_cons _ ?_ | refine List.Sublist.cons _ ?_)
      · have hc : ¬ ((k : Int) < (sub.length : Int)) := by omega
        have hpk := patsL_len_take sub k
        have htk : sub.take k = sub := List.take_of_length_le (by omega)
        repeat (first | (with_reducible first | refine Qa ?_ | refine Qb ?_ | refine Qc ?_ | refine Qd ?_ | refine Qe ?_ | refine Qf ?_ | refine Qg ?_ | refine Qh ?_ | refine Qi ?_ | refine Qj ?_ | refine Qk ?_ | refine Ql ?_ | refine Qm ?_ | refine Qn ?_ | refine Qo ?_ | refine Qp rfl ?_) | (first | refine Qq ?_ | refine Qr ?_) | (first | refine Qs ?_ | refine Qt ?_ | refine Qu ?_) | (first | refine Qv ?_ | refine Qw ?_) | (first | refine Qx ?_ | refine Qy ?_) | (first | refine Qz ?_ | refine Ra ?_ | refine Rb ?_))
        refine POps_cat_a ?_
        repeat (first | (with_reducible first | refine Qa ?_ | refine Qb ?_ | refine Qc ?_ | refine Qd ?_ | refine Qe ?_ | refine Qf ?_ | refine Qg ?_ | refine Qh ?_ | refine Qi ?_ | refine Qj ?_ | refine Qk ?_ | refine Ql ?_ | refine Qm ?_ | refine Qn ?_ | refine Qo ?_ | refine Qp rfl ?_) | (first | refine Qq ?_ | refine Qr ?_) | (first | refine Qs ?_ | refine Qt ?_ | refine Qu ?_) | (first | refine Qv ?_ | refine Qw ?_) | (first | refine Qx ?_ | refine Qy ?_) | (first | refine Qz ?_ | refine Ra ?_ | refine Rb ?_))
        refine retP_ok (by simp) (by simp only [Try.results42]; rfl) (by simp [resP, St.box?, PF.get, loadB, TyK.agg, *]; rfl) (List.nil_sublist _) ?_
        exact ⟨by rw [HE.out]; simp [tupP, PV.norm2, PV.norm1, PV.norm0, htk], rfl⟩
theorem rpat_w : ∀ (m : Nat) (t : Nd), SizeOf.sizeOf t ≤ m → goodT t true = true → ndT t ≤ 100000 → RpC t := by
  intro m
  induction m with
  | zero => intro t h; cases t; simp at h
  | succ m ih =>
    intro t h hg hs
    refine rpat_step t hg hs fun x hx hgx => ?_
    have h2 := nd_mem hx
    rw [nd_sub] at hs
    obtain ⟨k, a, s, n, sub⟩ := t
    have hlt : SizeOf.sizeOf x ≤ m := by
      have := List.sizeOf_lt_of_mem hx
      simp only [Nd.sub] at this
      simp at h
      omega
    exact ih x hlt hgx (by omega)
end Go.Proofs.Ytffgfjnbgplckaa

namespace Go.Proofs.Ytffgfjnbgplckaa
open Go.RowKit
set_option maxRecDepth 100000
theorem exprB_good {t : Nd} (h : exprB t = true) : goodT t false = true := by unfold exprB at h; simp only [Bool.and_eq_true] at h; exact h.2
theorem patB_good {t : Nd} (h : patB t = true) : goodT t true = true := by unfold patB at h; simp only [Bool.and_eq_true] at h; exact h.2
theorem exprR_yes {t : Nd} (h : exprB t = true) (hs : ndT t < 600) : exprR t = .tup [.d (.v (.string (strB (exL t 0)))), .d (.v (.int .i64 0))] := by
  have := ex_len (exprB_good h) 0
  rw [exprR, if_pos h, textP, if_pos (by omega)]; rfl
theorem exprR_no {t : Nd} (h : exprB t = false) : exprR t = .tup [.d (.v (.string ⟨#[]⟩)), .d (.v (.int .i64 5))] := by
  rw [exprR, if_neg (by rw [h]; decide)]
theorem patR_yes {t : Nd} (h : patB t = true) (hs : ndT t < 600) : patR t = .tup [.d (.v (.string (strB (patL t)))), .d (.v (.int .i64 0))] := by
  have := pat_len _ t (Nat.le_refl _) (patB_good h)
  rw [patR, if_pos h, textP, if_pos (by omega)]; rfl
theorem patR_no {t : Nd} (h : patB t = false) : patR t = .tup [.d (.v (.string ⟨#[]⟩)), .d (.v (.int .i64 5))] := by
  rw [patR, if_neg (by rw [h]; decide)]
set_option maxHeartbeats 8000000 in
theorem printExprs_p (t : Nd) : PCalls Try.prog 10 [aggD t] [] fun p s => p = .d (.v (.bool true)) ∧ s = [] := by
  have hof := of6_p t
  cases hok : okN6 t with
  | false =>
    rw [hok] at hof
    generalize (budT t 600).1 = u at hof
    simp only [aggD, encD_nd, List.map_cons, List.map_nil] at hof ⊢
    refine PCalls.enter Try.func10 rfl Try.ntmps10 (by simp) ?_
    simp only [argsF]
    repeat (first | (with_reducible first | refine Qa ?_ | refine Qb ?_ | refine Qc ?_ | refine Qd ?_ | refine Qe ?_ | refine Qf ?_ | refine Qg ?_ | refine Qh ?_ | refine Qi ?_ | refine Qj ?_ | refine Qk ?_ | refine Ql ?_ | refine Qm ?_ | refine Qn ?_ | refine Qo ?_ | refine Qp rfl ?_) | (first | refine Qq ?_ | refine Qr ?_) | (first | refine Qs ?_ | refine Qt ?_ | refine Qu ?_) | (first | refine Qv ?_ | refine Qw ?_) | (first | refine Qx ?_ | refine Qy ?_) | (first | refine Qz ?_ | refine Ra ?_ | refine Rb ?_))
    refine POps_box_a ?_
    intro i0 hi0
    repeat (first | (with_reducible first | refine Qa ?_ | refine Qb ?_ | refine Qc ?_ | refine Qd ?_ | refine Qe ?_ | refine Qf ?_ | refine Qg ?_ | refine Qh ?_ | refine Qi ?_ | refine Qj ?_ | refine Qk ?_ | refine Ql ?_ | refine Qm ?_ | refine Qn ?_ | refine Qo ?_ | refine Qp rfl ?_) | (first | refine Qq ?_ | refine Qr ?_) | (first | refine Qs ?_ | refine Qt ?_ | refine Qu ?_) | (first | refine Qv ?_ | refine Qw ?_) | (first | refine Qx ?_ | refine Qy ?_) | (first | refine Qz ?_ | refine Ra ?_ | refine Rb ?_))
    refine POps_call_a (hof) ?_
    repeat (first | (with_reducible first | refine Qa ?_ | refine Qb ?_ | refine Qc ?_ | refine Qd ?_ | refine Qe ?_ | refine Qf ?_ | refine Qg ?_ | refine Qh ?_ | refine Qi ?_ | refine Qj ?_ | refine Qk ?_ | refine Ql ?_ | refine Qm ?_ | refine Qn ?_ | refine Qo ?_ | refine Qp rfl ?_) | (first | refine Qq ?_ | refine Qr ?_) | (first | refine Qs ?_ | refine Qt ?_ | refine Qu ?_) | (first | refine Qv ?_ | refine Qw ?_) | (first | refine Qx ?_ | refine Qy ?_) | (first | refine Qz ?_ | refine Ra ?_ | refine Rb ?_))
    refine POps_alloc_a ?_
    intro i1 hi1
    simp only [St.freshB_box, St.freshB_nil] at hi1
    repeat (first | (with_reducible first | refine Qa ?_ | refine Qb ?_ | refine Qc ?_ | refine Qd ?_ | refine Qe ?_ | refine Qf ?_ | refine Qg ?_ | refine Qh ?_ | refine Qi ?_ | refine Qj ?_ | refine Qk ?_ | refine Ql ?_ | refine Qm ?_ | refine Qn ?_ | refine Qo ?_ | refine Qp rfl ?_) | (first | refine Qq ?_ | refine Qr ?_) | (first | refine Qs ?_ | refine Qt ?_ | refine Qu ?_) | (first | refine Qv ?_ | refine Qw ?_) | (first | refine Qx ?_ | refine Qy ?_) | (first | refine Qz ?_ | refine Ra ?_ | refine Rb ?_))
    refine Rc ?_
    repeat (first | (with_reducible first | refine Qa ?_ | refine Qb ?_ | refine Qc ?_ | refine Qd ?_ | refine Qe ?_ | refine Qf ?_ | refine Qg ?_ | refine Qh ?_ | refine Qi ?_ | refine Qj ?_ | refine Qk ?_ | refine Ql ?_ | refine Qm ?_ | refine Qn ?_ | refine Qo ?_ | refine Qp rfl ?_) | (first | refine Qq ?_ | refine Qr ?_) | (first | refine Qs ?_ | refine Qt ?_ | refine Qu ?_) | (first | refine Qv ?_ | refine Qw ?_) | (first | refine Qx ?_ | refine Qy ?_) | (first | refine Qz ?_ | refine Ra ?_ | refine Rb ?_))
    refine POps_call_a (awake6_p) ?_
    repeat (first | (with_reducible first | refine Qa ?_ | refine Qb ?_ | refine Qc ?_ | refine Qd ?_ | refine Qe ?_ | refine Qf ?_ | refine Qg ?_ | refine Qh ?_ | refine Qi ?_ | refine Qj ?_ | refine Qk ?_ | refine Ql ?_ | refine Qm ?_ | refine Qn ?_ | refine Qo ?_ | refine Qp rfl ?_) | (first | refine Qq ?_ | refine Qr ?_) | (first | refine Qs ?_ | refine Qt ?_ | refine Qu ?_) | (first | refine Qv ?_ | refine Qw ?_) | (first | refine Qx ?_ | refine Qy ?_) | (first | refine Qz ?_ | refine Ra ?_ | refine Rb ?_))
    refine retP_ok (by simp) (by simp only [Try.results10]; rfl) (by simp [resP, St.box?, PF.get, loadB, TyK.agg, *]; rfl) (List.nil_sublist _) ?_
    exact ⟨rfl, rfl⟩
  | true =>
    obtain ⟨hsame, hnd⟩ := ok6_same hok
    rw [hok, hsame] at hof
    have hpe := pexpr_p t
    have hpp := ppat_p t
    have hre := rexpr_p t
    have hrp := rpat_p t
    have hge := fun h : exprB t = true => rex_w _ t (Nat.le_refl _) (exprB_good h) (by omega) 0 (by omega)
    have hgp := fun h : patB t = true => rpat_w _ t (Nat.le_refl _) (patB_good h) (by omega)
    cases he : exprB t with
    | false =>
      cases hp : patB t with
      | false =>
        rw [exprR_no he] at hpe
        rw [patR_no hp] at hpp
        rw [he] at hre
        rw [hp] at hrp
        clear hge hgp hok hsame
        simp only [aggD, encD_nd, List.map_cons, List.map_nil]
        refine PCalls.enter Try.func10 rfl Try.ntmps10 (by simp) ?_
        simp only [argsF]
        repeat (first | (with_reducible first | refine Qa ?_ | refine Qb ?_ | refine Qc ?_ | refine Qd ?_ | refine Qe ?_ | refine Qf ?_ | refine Qg ?_ | refine Qh ?_ | refine Qi ?_ | refine Qj ?_ | refine Qk ?_ | refine Ql ?_ | refine Qm ?_ | refine Qn ?_ | refine Qo ?_ | refine Qp rfl ?_) | (first | refine Qq ?_ | refine Qr ?_) | (first | refine Qs ?_ | refine Qt ?_ | refine Qu ?_) | (first | refine Qv ?_ | refine Qw ?_) | (first | refine Qx ?_ | refine Qy ?_) | (first | refine Qz ?_ | refine Ra ?_ | refine Rb ?_))
        refine POps_box_a ?_
        intro i0 hi0
        repeat (first | (with_reducible first | refine Qa ?_ | refine Qb ?_ | refine Qc ?_ | refine Qd ?_ | refine Qe ?_ | refine Qf ?_ | refine Qg ?_ | refine Qh ?_ | refine Qi ?_ | refine Qj ?_ | refine Qk ?_ | refine Ql ?_ | refine Qm ?_ | refine Qn ?_ | refine Qo ?_ | refine Qp rfl ?_) | (first | refine Qq ?_ | refine Qr ?_) | (first | refine Qs ?_ | refine Qt ?_ | refine Qu ?_) | (first | refine Qv ?_ | refine Qw ?_) | (first | refine Qx ?_ | refine Qy ?_) | (first | refine Qz ?_ | refine Ra ?_ | refine Rb ?_))
        refine POps_call_a (hof) ?_
        repeat (first | (with_reducible first | refine Qa ?_ | refine Qb ?_ | refine Qc ?_ | refine Qd ?_ | refine Qe ?_ | refine Qf ?_ | refine Qg ?_ | refine Qh ?_ | refine Qi ?_ | refine Qj ?_ | refine Qk ?_ | refine Ql ?_ | refine Qm ?_ | refine Qn ?_ | refine Qo ?_ | refine Qp rfl ?_) | (first | refine Qq ?_ | refine Qr ?_) | (first | refine Qs ?_ | refine Qt ?_ | refine Qu ?_) | (first | refine Qv ?_ | refine Qw ?_) | (first | refine Qx ?_ | refine Qy ?_) | (first | refine Qz ?_ | refine Ra ?_ | refine Rb ?_))
        refine POps_alloc_a ?_
        intro i1 hi1
        simp only [St.freshB_box, St.freshB_nil] at hi1
        repeat (first | (with_reducible first | refine Qa ?_ | refine Qb ?_ | refine Qc ?_ | refine Qd ?_ | refine Qe ?_ | refine Qf ?_ | refine Qg ?_ | refine Qh ?_ | refine Qi ?_ | refine Qj ?_ | refine Qk ?_ | refine Ql ?_ | refine Qm ?_ | refine Qn ?_ | refine Qo ?_ | refine Qp rfl ?_) | (first | refine Qq ?_ | refine Qr ?_) | (first | refine Qs ?_ | refine Qt ?_ | refine Qu ?_) | (first | refine Qv ?_ | refine Qw ?_) | (first | refine Qx ?_ | refine Qy ?_) | (first | refine Qz ?_ | refine Ra ?_ | refine Rb ?_))
        refine Rc ?_
        repeat (first | (with_reducible first | refine Qa ?_ | refine Qb ?_ | refine Qc ?_ | refine Qd ?_ | refine Qe ?_ | refine Qf ?_ | refine Qg ?_ | refine Qh ?_ | refine Qi ?_ | refine Qj ?_ | refine Qk ?_ | refine Ql ?_ | refine Qm ?_ | refine Qn ?_ | refine Qo ?_ | refine Qp rfl ?_) | (first | refine Qq ?_ | refine Qr ?_) | (first | refine Qs ?_ | refine Qt ?_ | refine Qu ?_) | (first | refine Qv ?_ | refine Qw ?_) | (first | refine Qx ?_ | refine Qy ?_) | (first | refine Qz ?_ | refine Ra ?_ | refine Rb ?_))
        refine POps_call_a (hpe) ?_
        repeat (first | (with_reducible first | refine Qa ?_ | refine Qb ?_ | refine Qc ?_ | refine Qd ?_ | refine Qe ?_ | refine Qf ?_ | refine Qg ?_ | refine Qh ?_ | refine Qi ?_ | refine Qj ?_ | refine Qk ?_ | refine Ql ?_ | refine Qm ?_ | refine Qn ?_ | refine Qo ?_ | refine Qp rfl ?_) | (first | refine Qq ?_ | refine Qr ?_) | (first | refine Qs ?_ | refine Qt ?_ | refine Qu ?_) | (first | refine Qv ?_ | refine Qw ?_) | (first | refine Qx ?_ | refine Qy ?_) | (first | refine Qz ?_ | refine Ra ?_ | refine Rb ?_))
        refine POps_call_a (hpp) ?_
        repeat (first | (with_reducible first | refine Qa ?_ | refine Qb ?_ | refine Qc ?_ | refine Qd ?_ | refine Qe ?_ | refine Qf ?_ | refine Qg ?_ | refine Qh ?_ | refine Qi ?_ | refine Qj ?_ | refine Qk ?_ | refine Ql ?_ | refine Qm ?_ | refine Qn ?_ | refine Qo ?_ | refine Qp rfl ?_) | (first | refine Qq ?_ | refine Qr ?_) | (first | refine Qs ?_ | refine Qt ?_ | refine Qu ?_) | (first | refine Qv ?_ | refine Qw ?_) | (first | refine Qx ?_ | refine Qy ?_) | (first | refine Qz ?_ | refine Ra ?_ | refine Rb ?_))
        refine POps_call_a (hre) ?_
        repeat (first | (with_reducible first | refine Qa ?_ | refine Qb ?_ | refine Qc ?_ | refine Qd ?_ | refine Qe ?_ | refine Qf ?_ | refine Qg ?_ | refine Qh ?_ | refine Qi ?_ | refine Qj ?_ | refine Qk ?_ | refine Ql ?_ | refine Qm ?_ | refine Qn ?_ | refine Qo ?_ | refine Qp rfl ?_) | (first | refine Qq ?_ | refine Qr ?_) | (first | refine Qs ?_ | refine Qt ?_ | refine Qu ?_) | (first | refine Qv ?_ | refine Qw ?_) | (first | refine Qx ?_ | refine Qy ?_) | (first | refine Qz ?_ | refine Ra ?_ | refine Rb ?_))
        refine POps_call_b (hrp) ?_
        repeat (first | (with_reducible first | refine Qa ?_ | refine Qb ?_ | refine Qc ?_ | refine Qd ?_ | refine Qe ?_ | refine Qf ?_ | refine Qg ?_ | refine Qh ?_ | refine Qi ?_ | refine Qj ?_ | refine Qk ?_ | refine Ql ?_ | refine Qm ?_ | refine Qn ?_ | refine Qo ?_ | refine Qp rfl ?_) | (first | refine Qq ?_ | refine Qr ?_) | (first | refine Qs ?_ | refine Qt ?_ | refine Qu ?_) | (first | refine Qv ?_ | refine Qw ?_) | (first | refine Qx ?_ | refine Qy ?_) | (first | refine Qz ?_ | refine Ra ?_ | refine Rb ?_))
        refine POps_call_a (hre) ?_
        repeat (first | (with_reducible first | refine Qa ?_ | refine Qb ?_ | refine Qc ?_ | refine Qd ?_ | refine Qe ?_ | refine Qf ?_ | refine Qg ?_ | refine Qh ?_ | refine Qi ?_ | refine Qj ?_ | refine Qk ?_ | refine Ql ?_ | refine Qm ?_ | refine Qn ?_ | refine Qo ?_ | refine Qp rfl ?_) | (first | refine Qq ?_ | refine Qr ?_) | (first | refine Qs ?_ | refine Qt ?_ | refine Qu ?_) | (first | refine Qv ?_ | refine Qw ?_) | (first | refine Qx ?_ | refine Qy ?_) | (first | refine Qz ?_ | refine Ra ?_ | refine Rb ?_))
        refine POps_call_b (hrp) ?_
        repeat (first | (with_reducible first | refine Qa ?_ | refine Qb ?_ | refine Qc ?_ | refine Qd ?_ | refine Qe ?_ | refine Qf ?_ | refine Qg ?_ | refine Qh ?_ | refine Qi ?_ | refine Qj ?_ | refine Qk ?_ | refine Ql ?_ | refine Qm ?_ | refine Qn ?_ | refine Qo ?_ | refine Qp rfl ?_) | (first | refine Qq ?_ | refine Qr ?_) | (first | refine Qs ?_ | refine Qt ?_ | refine Qu ?_) | (first | refine Qv ?_ | refine Qw ?_) | (first | refine Qx ?_ | refine Qy ?_) | (first | refine Qz ?_ | refine Ra ?_ | refine Rb ?_))
        refine POps_call_a (awake6_p) ?_
        repeat (first | (with_reducible first | refine Qa ?_ | refine Qb ?_ | refine Qc ?_ | refine Qd ?_ | refine Qe ?_ | refine Qf ?_ | refine Qg ?_ | refine Qh ?_ | refine Qi ?_ | refine Qj ?_ | refine Qk ?_ | refine Ql ?_ | refine Qm ?_ | refine Qn ?_ | refine Qo ?_ | refine Qp rfl ?_) | (first | refine Qq ?_ | refine Qr ?_) | (first | refine Qs ?_ | refine Qt ?_ | refine Qu ?_) | (first | refine Qv ?_ | refine Qw ?_) | (first | refine Qx ?_ | refine Qy ?_) | (first | refine Qz ?_ | refine Ra ?_ | refine Rb ?_))
        refine retP_ok (by simp) (by simp only [Try.results10]; rfl) (by simp [resP, St.box?, PF.get, loadB, TyK.agg, *]; rfl) (List.nil_sublist _) ?_
        exact ⟨rfl, rfl⟩
      | true =>
        rw [exprR_no he] at hpe
        rw [patR_yes hp hnd] at hpp
        rw [he] at hre
        rw [hp] at hrp
        have hy := hgp hp
        clear hge hgp hok hsame
        unfold RpC at hy
        generalize strB (patL t) = S2 at *
        simp only [aggD, encD_nd, List.map_cons, List.map_nil]
        refine PCalls.enter Try.func10 rfl Try.ntmps10 (by simp) ?_
        simp only [argsF]
        repeat (first | (with_reducible first | refine Qa ?_ | refine Qb ?_ | refine Qc ?_ | refine Qd ?_ | refine Qe ?_ | refine Qf ?_ | refine Qg ?_ | refine Qh ?_ | refine Qi ?_ | refine Qj ?_ | refine Qk ?_ | refine Ql ?_ | refine Qm ?_ | refine Qn ?_ | refine Qo ?_ | refine Qp rfl ?_) | (first | refine Qq ?_ | refine Qr ?_) | (first | refine Qs ?_ | refine Qt ?_ | refine Qu ?_) | (first | refine Qv ?_ | refine Qw ?_) | (first | refine Qx ?_ | refine Qy ?_) | (first | refine Qz ?_ | refine Ra ?_ | refine Rb ?_))
        refine POps_box_a ?_
        intro i0 hi0
        repeat (first | (with_reducible first | refine Qa ?_ | refine Qb ?_ | refine Qc ?_ | refine Qd ?_ | refine Qe ?_ | refine Qf ?_ | refine Qg ?_ | refine Qh ?_ | refine Qi ?_ | refine Qj ?_ | refine Qk ?_ | refine Ql ?_ | refine Qm ?_ | refine Qn ?_ | refine Qo ?_ | refine Qp rfl ?_) | (first | refine Qq ?_ | refine Qr ?_) | (first | refine Qs ?_ | refine Qt ?_ | refine Qu ?_) | (first | refine Qv ?_ | refine Qw ?_) | (first | refine Qx ?_ | refine Qy ?_) | (first | refine Qz ?_ | refine Ra ?_ | refine Rb ?_))
        refine POps_call_a (hof) ?_
        repeat (first | (with_reducible first | refine Qa ?_ | refine Qb ?_ | refine Qc ?_ | refine Qd ?_ | refine Qe ?_ | refine Qf ?_ | refine Qg ?_ | refine Qh ?_ | refine Qi ?_ | refine Qj ?_ | refine Qk ?_ | refine Ql ?_ | refine Qm ?_ | refine Qn ?_ | refine Qo ?_ | refine Qp rfl ?_) | (first | refine Qq ?_ | refine Qr ?_) | (first | refine Qs ?_ | refine Qt ?_ | refine Qu ?_) | (first | refine Qv ?_ | refine Qw ?_) | (first | refine Qx ?_ | refine Qy ?_) | (first | refine Qz ?_ | refine Ra ?_ | refine Rb ?_))
        refine POps_alloc_a ?_
        intro i1 hi1
        simp only [St.freshB_box, St.freshB_nil] at hi1
        repeat (first | (with_reducible first | refine Qa ?_ | refine Qb ?_ | refine Qc ?_ | refine Qd ?_ | refine Qe ?_ | refine Qf ?_ | refine Qg ?_ | refine Qh ?_ | refine Qi ?_ | refine Qj ?_ | refine Qk ?_ | refine Ql ?_ | refine Qm ?_ | refine Qn ?_ | refine Qo ?_ | refine Qp rfl ?_) | (first | refine Qq ?_ | refine Qr ?_) | (first | refine Qs ?_ | refine Qt ?_ | refine Qu ?_) | (first | refine Qv ?_ | refine Qw ?_) | (first | refine Qx ?_ | refine Qy ?_) | (first | refine Qz ?_ | refine Ra ?_ | refine Rb ?_))
        refine Rc ?_
        repeat (first | (with_reducible first | refine Qa ?_ | refine Qb ?_ | refine Qc ?_ | refine Qd ?_ | refine Qe ?_ | refine Qf ?_ | refine Qg ?_ | refine Qh ?_ | refine Qi ?_ | refine Qj ?_ | refine Qk ?_ | refine Ql ?_ | refine Qm ?_ | refine Qn ?_ | refine Qo ?_ | refine Qp rfl ?_) | (first | refine Qq ?_ | refine Qr ?_) | (first | refine Qs ?_ | refine Qt ?_ | refine Qu ?_) | (first | refine Qv ?_ | refine Qw ?_) | (first | refine Qx ?_ | refine Qy ?_) | (first | refine Qz ?_ | refine Ra ?_ | refine Rb ?_))
        refine POps_call_a (hpe) ?_
        repeat (first | (with_reducible first | refine Qa ?_ | refine Qb ?_ | refine Qc ?_ | refine Qd ?_ | refine Qe ?_ | refine Qf ?_ | refine Qg ?_ | refine Qh ?_ | refine Qi ?_ | refine Qj ?_ | refine Qk ?_ | refine Ql ?_ | refine Qm ?_ | refine Qn ?_ | refine Qo ?_ | refine Qp rfl ?_) | (first | refine Qq ?_ | refine Qr ?_) | (first | refine Qs ?_ | refine Qt ?_ | refine Qu ?_) | (first | refine Qv ?_ | refine Qw ?_) | (first | refine Qx ?_ | refine Qy ?_) | (first | refine Qz ?_ | refine Ra ?_ | refine Rb ?_))
        refine POps_call_a (hpp) ?_
        repeat (first | (with_reducible first | refine Qa ?_ | refine Qb ?_ | refine Qc ?_ | refine Qd ?_ | refine Qe ?_ | refine Qf ?_ | refine Qg ?_ | refine Qh ?_ | refine Qi ?_ | refine Qj ?_ | refine Qk ?_ | refine Ql ?_ | refine Qm ?_ | refine Qn ?_ | refine Qo ?_ | refine Qp rfl ?_) | (first | refine Qq ?_ | refine Qr ?_) | (first | refine Qs ?_ | refine Qt ?_ | refine Qu ?_) | (first | refine Qv ?_ | refine Qw ?_) | (first | refine Qx ?_ | refine Qy ?_) | (first | refine Qz ?_ | refine Ra ?_ | refine Rb ?_))
        refine POps_call_a (hre) ?_
        repeat (first | (with_reducible first | refine Qa ?_ | refine Qb ?_ | refine Qc ?_ | refine Qd ?_ | refine Qe ?_ | refine Qf ?_ | refine Qg ?_ | refine Qh ?_ | refine Qi ?_ | refine Qj ?_ | refine Qk ?_ | refine Ql ?_ | refine Qm ?_ | refine Qn ?_ | refine Qo ?_ | refine Qp rfl ?_) | (first | refine Qq ?_ | refine Qr ?_) | (first | refine Qs ?_ | refine Qt ?_ | refine Qu ?_) | (first | refine Qv ?_ | refine Qw ?_) | (first | refine Qx ?_ | refine Qy ?_) | (first | refine Qz ?_ | refine Ra ?_ | refine Rb ?_))
        refine POps_call_b (hrp) ?_
        repeat (first | (with_reducible first | refine Qa ?_ | refine Qb ?_ | refine Qc ?_ | refine Qd ?_ | refine Qe ?_ | refine Qf ?_ | refine Qg ?_ | refine Qh ?_ | refine Qi ?_ | refine Qj ?_ | refine Qk ?_ | refine Ql ?_ | refine Qm ?_ | refine Qn ?_ | refine Qo ?_ | refine Qp rfl ?_) | (first | refine Qq ?_ | refine Qr ?_) | (first | refine Qs ?_ | refine Qt ?_ | refine Qu ?_) | (first | refine Qv ?_ | refine Qw ?_) | (first | refine Qx ?_ | refine Qy ?_) | (first | refine Qz ?_ | refine Ra ?_ | refine Rb ?_))
        refine POps_call_a (hre) ?_
        repeat (first | (with_reducible first | refine Qa ?_ | refine Qb ?_ | refine Qc ?_ | refine Qd ?_ | refine Qe ?_ | refine Qf ?_ | refine Qg ?_ | refine Qh ?_ | refine Qi ?_ | refine Qj ?_ | refine Qk ?_ | refine Ql ?_ | refine Qm ?_ | refine Qn ?_ | refine Qo ?_ | refine Qp rfl ?_) | (first | refine Qq ?_ | refine Qr ?_) | (first | refine Qs ?_ | refine Qt ?_ | refine Qu ?_) | (first | refine Qv ?_ | refine Qw ?_) | (first | refine Qx ?_ | refine Qy ?_) | (first | refine Qz ?_ | refine Ra ?_ | refine Rb ?_))
        refine POps_call_b (hrp) ?_
        repeat (first | (with_reducible first | refine Qa ?_ | refine Qb ?_ | refine Qc ?_ | refine Qd ?_ | refine Qe ?_ | refine Qf ?_ | refine Qg ?_ | refine Qh ?_ | refine Qi ?_ | refine Qj ?_ | refine Qk ?_ | refine Ql ?_ | refine Qm ?_ | refine Qn ?_ | refine Qo ?_ | refine Qp rfl ?_) | (first | refine Qq ?_ | refine Qr ?_) | (first | refine Qs ?_ | refine Qt ?_ | refine Qu ?_) | (first | refine Qv ?_ | refine Qw ?_) | (first | refine Qx ?_ | refine Qy ?_) | (first | refine Qz ?_ | refine Ra ?_ | refine Rb ?_))
        refine POps_call_b (hy) ?_
        repeat (first | (with_reducible first | refine Qa ?_ | refine Qb ?_ | refine Qc ?_ | refine Qd ?_ | refine Qe ?_ | refine Qf ?_ | refine Qg ?_ | refine Qh ?_ | refine Qi ?_ | refine Qj ?_ | refine Qk ?_ | refine Ql ?_ | refine Qm ?_ | refine Qn ?_ | refine Qo ?_ | refine Qp rfl ?_) | (first | refine Qq ?_ | refine Qr ?_) | (first | refine Qs ?_ | refine Qt ?_ | refine Qu ?_) | (first | refine Qv ?_ | refine Qw ?_) | (first | refine Qx ?_ | refine Qy ?_) | (first | refine Qz ?_ | refine Ra ?_ | refine Rb ?_))
        refine POps_call_a (awake6_p) ?_
        repeat (first | (with_reducible first | refine Qa ?_ | refine Qb ?_ | refine Qc ?_ | refine Qd ?_ | refine Qe ?_ | refine Qf ?_ | refine Qg ?_ | refine Qh ?_ | refine Qi ?_ | refine Qj ?_ | refine Qk ?_ | refine Ql ?_ | refine Qm ?_ | refine Qn ?_ | refine Qo ?_ | refine Qp rfl ?_) | (first | refine Qq ?_ | refine Qr ?_) | (first | refine Qs ?_ | refine Qt ?_ | refine Qu ?_) | (first | refine Qv ?_ | refine Qw ?_) | (first | refine Qx ?_ | refine Qy ?_) | (first | refine Qz ?_ | refine Ra ?_ | refine Rb ?_))
        refine retP_ok (by simp) (by simp only [Try.results10]; rfl) (by simp [resP, St.box?, PF.get, loadB, TyK.agg, *]; rfl) (List.nil_sublist _) ?_
        exact ⟨rfl, rfl⟩
    | true =>
      cases hp : patB t with
      | false =>
        rw [exprR_yes he hnd] at hpe
        rw [patR_no hp] at hpp
        rw [he] at hre
        rw [hp] at hrp
        have hx := hge he
        clear hge hgp hok hsame
        unfold RxC at hx
        generalize strB (exL t 0) = S1 at *
        simp only [aggD, encD_nd, List.map_cons, List.map_nil]
        refine PCalls.enter Try.func10 rfl Try.ntmps10 (by simp) ?_
        simp only [argsF]
        repeat (first | (with_reducible first | refine Qa ?_ | refine Qb ?_ | refine Qc ?_ | refine Qd ?_ | refine Qe ?_ | refine Qf ?_ | refine Qg ?_ | refine Qh ?_ | refine Qi ?_ | refine Qj ?_ | refine Qk ?_ | refine Ql ?_ | refine Qm ?_ | refine Qn ?_ | refine Qo ?_ | refine Qp rfl ?_) | (first | refine Qq ?_ | refine Qr ?_) | (first | refine Qs ?_ | refine Qt ?_ | refine Qu ?_) | (first | refine Qv ?_ | refine Qw ?_) | (first | refine Qx ?_ | refine Qy ?_) | (first | refine Qz ?_ | refine Ra ?_ | refine Rb ?_))
        refine POps_box_a ?_
        intro i0 hi0
        repeat (first | (with_reducible first | refine Qa ?_ | refine Qb ?_ | refine Qc ?_ | refine Qd ?_ | refine Qe ?_ | refine Qf ?_ | refine Qg ?_ | refine Qh ?_ | refine Qi ?_ | refine Qj ?_ | refine Qk ?_ | refine Ql ?_ | refine Qm ?_ | refine Qn ?_ | refine Qo ?_ | refine Qp rfl ?_) | (first | refine Qq ?_ | refine Qr ?_) | (first | refine Qs ?_ | refine Qt ?_ | refine Qu ?_) | (first | refine Qv ?_ | refine Qw ?_) | (first | refine Qx ?_ | refine Qy ?_) | (first | refine Qz ?_ | refine Ra ?_ | refine Rb ?_))
        refine POps_call_a (hof) ?_
        repeat (first | (with_reducible first | refine Qa ?_ | refine Qb ?_ | refine Qc ?_ | refine Qd ?_ | refine Qe ?_ | refine Qf ?_ | refine Qg ?_ | refine Qh ?_ | refine Qi ?_ | refine Qj ?_ | refine Qk ?_ | refine Ql ?_ | refine Qm ?_ | refine Qn ?_ | refine Qo ?_ | refine Qp rfl ?_) | (first | refine Qq ?_ | refine Qr ?_) | (first | refine Qs ?_ | refine Qt ?_ | refine Qu ?_) | (first | refine Qv ?_ | refine Qw ?_) | (first | refine Qx ?_ | refine Qy ?_) | (first | refine Qz ?_ | refine Ra ?_ | refine Rb ?_))
        refine POps_alloc_a ?_
        intro i1 hi1
        simp only [St.freshB_box, St.freshB_nil] at hi1
        repeat (first | (with_reducible first | refine Qa ?_ | refine Qb ?_ | refine Qc ?_ | refine Qd ?_ | refine Qe ?_ | refine Qf ?_ | refine Qg ?_ | refine Qh ?_ | refine Qi ?_ | refine Qj ?_ | refine Qk ?_ | refine Ql ?_ | refine Qm ?_ | refine Qn ?_ | refine Qo ?_ | refine Qp rfl ?_) | (first | refine Qq ?_ | refine Qr ?_) | (first | refine Qs ?_ | refine Qt ?_ | refine Qu ?_) | (first | refine Qv ?_ | refine Qw ?_) | (first | refine Qx ?_ | refine Qy ?_) | (first | refine Qz ?_ | refine Ra ?_ | refine Rb ?_))
        refine Rc ?_
        repeat (first | (with_reducible first | refine Qa ?_ | refine Qb ?_ | refine Qc ?_ | refine Qd ?_ | refine Qe ?_ | refine Qf ?_ | refine Qg ?_ | refine Qh ?_ | refine Qi ?_ | refine Qj ?_ | refine Qk ?_ | refine Ql ?_ | refine Qm ?_ | refine Qn ?_ | refine Qo ?_ | refine Qp rfl ?_) | (first | refine Qq ?_ | refine Qr ?_) | (first | refine Qs ?_ | refine Qt ?_ | refine Qu ?_) | (first | refine Qv ?_ | refine Qw ?_) | (first | refine Qx ?_ | refine Qy ?_) | (first | refine Qz ?_ | refine Ra ?_ | refine Rb ?_))
        refine POps_call_a (hpe) ?_
        repeat (first | (with_reducible first | refine Qa ?_ | refine Qb ?_ | refine Qc ?_ | refine Qd ?_ | refine Qe ?_ | refine Qf ?_ | refine Qg ?_ | refine Qh ?_ | refine Qi ?_ | refine Qj ?_ | refine Qk ?_ | refine Ql ?_ | refine Qm ?_ | refine Qn ?_ | refine Qo ?_ | refine Qp rfl ?_) | (first | refine Qq ?_ | refine Qr ?_) | (first | refine Qs ?_ | refine Qt ?_ | refine Qu ?_) | (first | refine Qv ?_ | refine Qw ?_) | (first | refine Qx ?_ | refine Qy ?_) | (first | refine Qz ?_ | refine Ra ?_ | refine Rb ?_))
        refine POps_call_a (hpp) ?_
        repeat (first | (with_reducible first | refine Qa ?_ | refine Qb ?_ | refine Qc ?_ | refine Qd ?_ | refine Qe ?_ | refine Qf ?_ | refine Qg ?_ | refine Qh ?_ | refine Qi ?_ | refine Qj ?_ | refine Qk ?_ | refine Ql ?_ | refine Qm ?_ | refine Qn ?_ | refine Qo ?_ | refine Qp rfl ?_) | (first | refine Qq ?_ | refine Qr ?_) | (first | refine Qs ?_ | refine Qt ?_ | refine Qu ?_) | (first | refine Qv ?_ | refine Qw ?_) | (first | refine Qx ?_ | refine Qy ?_) | (first | refine Qz ?_ | refine Ra ?_ | refine Rb ?_))
        refine POps_call_a (hre) ?_
        repeat (first | (with_reducible first | refine Qa ?_ | refine Qb ?_ | refine Qc ?_ | refine Qd ?_ | refine Qe ?_ | refine Qf ?_ | refine Qg ?_ | refine Qh ?_ | refine Qi ?_ | refine Qj ?_ | refine Qk ?_ | refine Ql ?_ | refine Qm ?_ | refine Qn ?_ | refine Qo ?_ | refine Qp rfl ?_) | (first | refine Qq ?_ | refine Qr ?_) | (first | refine Qs ?_ | refine Qt ?_ | refine Qu ?_) | (first | refine Qv ?_ | refine Qw ?_) | (first | refine Qx ?_ | refine Qy ?_) | (first | refine Qz ?_ | refine Ra ?_ | refine Rb ?_))
        refine POps_call_b (hrp) ?_
        repeat (first | (with_reducible first | refine Qa ?_ | refine Qb ?_ | refine Qc ?_ | refine Qd ?_ | refine Qe ?_ | refine Qf ?_ | refine Qg ?_ | refine Qh ?_ | refine Qi ?_ | refine Qj ?_ | refine Qk ?_ | refine Ql ?_ | refine Qm ?_ | refine Qn ?_ | refine Qo ?_ | refine Qp rfl ?_) | (first | refine Qq ?_ | refine Qr ?_) | (first | refine Qs ?_ | refine Qt ?_ | refine Qu ?_) | (first | refine Qv ?_ | refine Qw ?_) | (first | refine Qx ?_ | refine Qy ?_) | (first | refine Qz ?_ | refine Ra ?_ | refine Rb ?_))
        refine POps_call_a (hre) ?_
        repeat (first | (with_reducible first | refine Qa ?_ | refine Qb ?_ | refine Qc ?_ | refine Qd ?_ | refine Qe ?_ | refine Qf ?_ | refine Qg ?_ | refine Qh ?_ | refine Qi ?_ | refine Qj ?_ | refine Qk ?_ | refine Ql ?_ | refine Qm ?_ | refine Qn ?_ | refine Qo ?_ | refine Qp rfl ?_) | (first | refine Qq ?_ | refine Qr ?_) | (first | refine Qs ?_ | refine Qt ?_ | refine Qu ?_) | (first | refine Qv ?_ | refine Qw ?_) | (first | refine Qx ?_ | refine Qy ?_) | (first | refine Qz ?_ | refine Ra ?_ | refine Rb ?_))
        refine POps_call_b (hx) ?_
        repeat (first | (with_reducible first | refine Qa ?_ | refine Qb ?_ | refine Qc ?_ | refine Qd ?_ | refine Qe ?_ | refine Qf ?_ | refine Qg ?_ | refine Qh ?_ | refine Qi ?_ | refine Qj ?_ | refine Qk ?_ | refine Ql ?_ | refine Qm ?_ | refine Qn ?_ | refine Qo ?_ | refine Qp rfl ?_) | (first | refine Qq ?_ | refine Qr ?_) | (first | refine Qs ?_ | refine Qt ?_ | refine Qu ?_) | (first | refine Qv ?_ | refine Qw ?_) | (first | refine Qx ?_ | refine Qy ?_) | (first | refine Qz ?_ | refine Ra ?_ | refine Rb ?_))
        refine POps_call_b (hrp) ?_
        repeat (first | (with_reducible first | refine Qa ?_ | refine Qb ?_ | refine Qc ?_ | refine Qd ?_ | refine Qe ?_ | refine Qf ?_ | refine Qg ?_ | refine Qh ?_ | refine Qi ?_ | refine Qj ?_ | refine Qk ?_ | refine Ql ?_ | refine Qm ?_ | refine Qn ?_ | refine Qo ?_ | refine Qp rfl ?_) | (first | refine Qq ?_ | refine Qr ?_) | (first | refine Qs ?_ | refine Qt ?_ | refine Qu ?_) | (first | refine Qv ?_ | refine Qw ?_) | (first | refine Qx ?_ | refine Qy ?_) | (first | refine Qz ?_ | refine Ra ?_ | refine Rb ?_))
        refine POps_call_a (awake6_p) ?_
        repeat (first | (with_reducible first | refine Qa ?_ | refine Qb ?_ | refine Qc ?_ | refine Qd ?_ | refine Qe ?_ | refine Qf ?_ | refine Qg ?_ | refine Qh ?_ | refine Qi ?_ | refine Qj ?_ | refine Qk ?_ | refine Ql ?_ | refine Qm ?_ | refine Qn ?_ | refine Qo ?_ | refine Qp rfl ?_) | (first | refine Qq ?_ | refine Qr ?_) | (first | refine Qs ?_ | refine Qt ?_ | refine Qu ?_) | (first | refine Qv ?_ | refine Qw ?_) | (first | refine Qx ?_ | refine Qy ?_) | (first | refine Qz ?_ | refine Ra ?_ | refine Rb ?_))
        refine retP_ok (by simp) (by simp only [Try.results10]; rfl) (by simp [resP, St.box?, PF.get, loadB, TyK.agg, *]; rfl) (List.nil_sublist _) ?_
        exact ⟨rfl, rfl⟩
      | true =>
        rw [exprR_yes he hnd] at hpe
        rw [patR_yes hp hnd] at hpp
        rw [he] at hre
        rw [hp] at hrp
        have hx := hge he
        have hy := hgp hp
        clear hge hgp hok hsame
        unfold RxC at hx
        generalize strB (exL t 0) = S1 at *
        unfold RpC at hy
        generalize strB (patL t) = S2 at *
        simp only [aggD, encD_nd, List.map_cons, List.map_nil]
        refine PCalls.enter Try.func10 rfl Try.ntmps10 (by simp) ?_
        simp only [argsF]
        repeat (first | (with_reducible first | refine Qa ?_ | refine Qb ?_ | refine Qc ?_ | refine Qd ?_ | refine Qe ?_ | refine Qf ?_ | refine Qg ?_ | refine Qh ?_ | refine Qi ?_ | refine Qj ?_ | refine Qk ?_ | refine Ql ?_ | refine Qm ?_ | refine Qn ?_ | refine Qo ?_ | refine Qp rfl ?_) | (first | refine Qq ?_ | refine Qr ?_) | (first | refine Qs ?_ | refine Qt ?_ | refine Qu ?_) | (first | refine Qv ?_ | refine Qw ?_) | (first | refine Qx ?_ | refine Qy ?_) | (first | refine Qz ?_ | refine Ra ?_ | refine Rb ?_))
        refine POps_box_a ?_
        intro i0 hi0
        repeat (first | (with_reducible first | refine Qa ?_ | refine Qb ?_ | refine Qc ?_ | refine Qd ?_ | refine Qe ?_ | refine Qf ?_ | refine Qg ?_ | refine Qh ?_ | refine Qi ?_ | refine Qj ?_ | refine Qk ?_ | refine Ql ?_ | refine Qm ?_ | refine Qn ?_ | refine Qo ?_ | refine Qp rfl ?_) | (first | refine Qq ?_ | refine Qr ?_) | (first | refine Qs ?_ | refine Qt ?_ | refine Qu ?_) | (first | refine Qv ?_ | refine Qw ?_) | (first | refine Qx ?_ | refine Qy ?_) | (first | refine Qz ?_ | refine Ra ?_ | refine Rb ?_))
        refine POps_call_a (hof) ?_
        repeat (first | (with_reducible first | refine Qa ?_ | refine Qb ?_ | refine Qc ?_ | refine Qd ?_ | refine Qe ?_ | refine Qf ?_ | refine Qg ?_ | refine Qh ?_ | refine Qi ?_ | refine Qj ?_ | refine Qk ?_ | refine Ql ?_ | refine Qm ?_ | refine Qn ?_ | refine Qo ?_ | refine Qp rfl ?_) | (first | refine Qq ?_ | refine Qr ?_) | (first | refine Qs ?_ | refine Qt ?_ | refine Qu ?_) | (first | refine Qv ?_ | refine Qw ?_) | (first | refine Qx ?_ | refine Qy ?_) | (first | refine Qz ?_ | refine Ra ?_ | refine Rb ?_))
        refine POps_alloc_a ?_
        intro i1 hi1
        simp only [St.freshB_box, St.freshB_nil] at hi1
        repeat (first | (with_reducible first | refine Qa ?_ | refine Qb ?_ | refine Qc ?_ | refine Qd ?_ | refine Qe ?_ | refine Qf ?_ | refine Qg ?_ | refine Qh ?_ | refine Qi ?_ | refine Qj ?_ | refine Qk ?_ | refine Ql ?_ | refine Qm ?_ | refine Qn ?_ | refine Qo ?_ | refine Qp rfl ?_) | (first | refine Qq ?_ | refine Qr ?_) | (first | refine Qs ?_ | refine Qt ?_ | refine Qu ?_) | (first | refine Qv ?_ | refine Qw ?_) | (first | refine Qx ?_ | refine Qy ?_) | (first | refine Qz ?_ | refine Ra ?_ | refine Rb ?_))
        refine Rc ?_
        repeat (first | (with_reducible first | refine Qa ?_ | refine Qb ?_ | refine Qc ?_ | refine Qd ?_ | refine Qe ?_ | refine Qf ?_ | refine Qg ?_ | refine Qh ?_ | refine Qi ?_ | refine Qj ?_ | refine Qk ?_ | refine Ql ?_ | refine Qm ?_ | refine Qn ?_ | refine Qo ?_ | refine Qp rfl ?_) | (first | refine Qq ?_ | refine Qr ?_) | (first | refine Qs ?_ | refine Qt ?_ | refine Qu ?_) | (first | refine Qv ?_ | refine Qw ?_) | (first | refine Qx ?_ | refine Qy ?_) | (first | refine Qz ?_ | refine Ra ?_ | refine Rb ?_))
        refine POps_call_a (hpe) ?_
        repeat (first | (with_reducible first | refine Qa ?_ | refine Qb ?_ | refine Qc ?_ | refine Qd ?_ | refine Qe ?_ | refine Qf ?_ | refine Qg ?_ | refine Qh ?_ | refine Qi ?_ | refine Qj ?_ | refine Qk ?_ | refine Ql ?_ | refine Qm ?_ | refine Qn ?_ | refine Qo ?_ | refine Qp rfl ?_) | (first | refine Qq ?_ | refine Qr ?_) | (first | refine Qs ?_ | refine Qt ?_ | refine Qu ?_) | (first | refine Qv ?_ | refine Qw ?_) | (first | refine Qx ?_ | refine Qy ?_) | (first | refine Qz ?_ | refine Ra ?_ | refine Rb ?_))
        refine POps_call_a (hpp) ?_
        repeat (first | (with_reducible first | refine Qa ?_ | refine Qb ?_ | refine Qc ?_ | refine Qd ?_ | refine Qe ?_ | refine Qf ?_ | refine Qg ?_ | refine Qh ?_ | refine Qi ?_ | refine Qj ?_ | refine Qk ?_ | refine Ql ?_ | refine Qm ?_ | refine Qn ?_ | refine Qo ?_ | refine Qp rfl ?_) | (first | refine Qq ?_ | refine Qr ?_) | (first | refine Qs ?_ | refine Qt ?_ | refine Qu ?_) | (first | refine Qv ?_ | refine Qw ?_) | (first | refine Qx ?_ | refine Qy ?_) | (first | refine Qz ?_ | refine Ra ?_ | refine Rb ?_))
        refine POps_call_a (hre) ?_
        repeat (first | (with_reducible first | refine Qa ?_ | refine Qb ?_ | refine Qc ?_ | refine Qd ?_ | refine Qe ?_ | refine Qf ?_ | refine Qg ?_ | refine Qh ?_ | refine Qi ?_ | refine Qj ?_ | refine Qk ?_ | refine Ql ?_ | refine Qm ?_ | refine Qn ?_ | refine Qo ?_ | refine Qp rfl ?_) | (first | refine Qq ?_ | refine Qr ?_) | (first | refine Qs ?_ | refine Qt ?_ | refine Qu ?_) | (first | refine Qv ?_ | refine Qw ?_) | (first | refine Qx ?_ | refine Qy ?_) | (first | refine Qz ?_ | refine Ra ?_ | refine Rb ?_))
        refine POps_call_b (hrp) ?_
        repeat (first | (with_reducible first | refine Qa ?_ | refine Qb ?_ | refine Qc ?_ | refine Qd ?_ | refine Qe ?_ | refine Qf ?_ | refine Qg ?_ | refine Qh ?_ | refine Qi ?_ | refine Qj ?_ | refine Qk ?_ | refine Ql ?_ | refine Qm ?_ | refine Qn ?_ | refine Qo ?_ | refine Qp rfl ?_) | (first | refine Qq ?_ | refine Qr ?_) | (first | refine Qs ?_ | refine Qt ?_ | refine Qu ?_) | (first | refine Qv ?_ | refine Qw ?_) | (first | refine Qx ?_ | refine Qy ?_) | (first | refine Qz ?_ | refine Ra ?_ | refine Rb ?_))
        refine POps_call_a (hre) ?_
        repeat (first | (with_reducible first | refine Qa ?_ | refine Qb ?_ | refine Qc ?_ | refine Qd ?_ | refine Qe ?_ | refine Qf ?_ | refine Qg ?_ | refine Qh ?_ | refine Qi ?_ | refine Qj ?_ | refine Qk ?_ | refine Ql ?_ | refine Qm ?_ | refine Qn ?_ | refine Qo ?_ | refine Qp rfl ?_) | (first | refine Qq ?_ | refine Qr ?_) | (first | refine Qs ?_ | refine Qt ?_ | refine Qu ?_) | (first | refine Qv ?_ | refine Qw ?_) | (first | refine Qx ?_ | refine Qy ?_) | (first | refine Qz ?_ | refine Ra ?_ | refine Rb ?_))
        refine POps_call_b (hx) ?_
        repeat (first | (with_reducible first | refine Qa ?_ | refine Qb ?_ | refine Qc ?_ | refine Qd ?_ | refine Qe ?_ | refine Qf ?_ | refine Qg ?_ | refine Qh ?_ | refine Qi ?_ | refine Qj ?_ | refine Qk ?_ | refine Ql ?_ | refine Qm ?_ | refine Qn ?_ | refine Qo ?_ | refine Qp rfl ?_) | (first | refine Qq ?_ | refine Qr ?_) | (first | refine Qs ?_ | refine Qt ?_ | refine Qu ?_) | (first | refine Qv ?_ | refine Qw ?_) | (first | refine Qx ?_ | refine Qy ?_) | (first | refine Qz ?_ | refine Ra ?_ | refine Rb ?_))
        refine POps_call_b (hrp) ?_
        repeat (first | (with_reducible first | refine Qa ?_ | refine Qb ?_ | refine Qc ?_ | refine Qd ?_ | refine Qe ?_ | refine Qf ?_ | refine Qg ?_ | refine Qh ?_ | refine Qi ?_ | refine Qj ?_ | refine Qk ?_ | refine Ql ?_ | refine Qm ?_ | refine Qn ?_ | refine Qo ?_ | refine Qp rfl ?_) | (first | refine Qq ?_ | refine Qr ?_) | (first | refine Qs ?_ | refine Qt ?_ | refine Qu ?_) | (first | refine Qv ?_ | refine Qw ?_) | (first | refine Qx ?_ | refine Qy ?_) | (first | refine Qz ?_ | refine Ra ?_ | refine Rb ?_))
        refine POps_call_b (hy) ?_
        repeat (first | (with_reducible first | refine Qa ?_ | refine Qb ?_ | refine Qc ?_ | refine Qd ?_ | refine Qe ?_ | refine Qf ?_ | refine Qg ?_ | refine Qh ?_ | refine Qi ?_ | refine Qj ?_ | refine Qk ?_ | refine Ql ?_ | refine Qm ?_ | refine Qn ?_ | refine Qo ?_ | refine Qp rfl ?_) | (first | refine Qq ?_ | refine Qr ?_) | (first | refine Qs ?_ | refine Qt ?_ | refine Qu ?_) | (first | refine Qv ?_ | refine Qw ?_) | (first | refine Qx ?_ | refine Qy ?_) | (first | refine Qz ?_ | refine Ra ?_ | refine Rb ?_))
        refine POps_call_a (awake6_p) ?_
        repeat (first | (with_reducible first | refine Qa ?_ | refine Qb ?_ | refine Qc ?_ | refine Qd ?_ | refine Qe ?_ | refine Qf ?_ | refine Qg ?_ | refine Qh ?_ | refine Qi ?_ | refine Qj ?_ | refine Qk ?_ | refine Ql ?_ | refine Qm ?_ | refine Qn ?_ | refine Qo ?_ | refine Qp rfl ?_) | (first | refine Qq ?_ | refine Qr ?_) | (first | refine Qs ?_ | refine Qt ?_ | refine Qu ?_) | (first | refine Qv ?_ | refine Qw ?_) | (first | refine Qx ?_ | refine Qy ?_) | (first | refine Qz ?_ | refine Ra ?_ | refine Rb ?_))
        refine retP_ok (by simp) (by simp only [Try.results10]; rfl) (by simp [resP, St.box?, PF.get, loadB, TyK.agg, *]; rfl) (List.nil_sublist _) ?_
        exact ⟨rfl, rfl⟩
end Go.Proofs.Ytffgfjnbgplckaa

namespace Go.Proofs.Ytffgfjnbgplckaa
open Go.RowKit
theorem printExprs_walk (t : Nd) (cs : List Value) (w : World) (ht : NdC w t cs) : Calls Try.prog 10 #[.agg cs.toArray] w fun e w' => e = .returned (.bool true) ∧ Below w.heap.size w w' :=
  ((printExprs_p t).mono fun p s h => h.1).top (relVs_cons (rel_rep (K := K0 w) (fun b o v _ h => ⟨v, h⟩) (NdC.toR t cs ht)) (relVs_nil _ _))
end Go.Proofs.Ytffgfjnbgplckaa

namespace Go.Proofs.Ytffgfjnbgplckaa
open Go.RowKit
set_option maxRecDepth 100000
def bdL (b : Bd) : List UInt8 := b.name.toList ++ [32, 58, 32] ++ exL b.ty 0
def patsW : List Nd → List UInt8
  | [] => []
  | t :: ts => patL t ++ [32] ++ patsW ts
def rowL (r : Rw) : List UInt8 := [32, 32] ++ patsW r.pats ++ (if r.has then [61, 32] ++ exL r.body 0 else []) ++ [59, 10]
theorem patsW_app (a b : List Nd) : patsW (a ++ b) = patsW a ++ patsW b := by
  induction a with
  | nil => rfl
  | cons x a ih => simp only [List.cons_append, patsW, ih, List.append_assoc]
theorem patsW_take {l : List Nd} {k : Nat} (h : k < l.length) : patsW (l.take (k + 1)) = patsW (l.take k) ++ (patL l[k] ++ [32]) := by
  rw [List.take_succ_eq_append_getElem h, patsW_app]
  simp [patsW]
set_option maxHeartbeats 4000000 in
theorem typed_w (b : Bd) (h : exprB b.ty = true) : WC 93 [aggD b] (bdL b) := by
  intro i g o T hW
  have hx := expr_w _ b.ty (Nat.le_refl _) (exprB_good h) 0
  have HE := Lib.hid (show bdL b = b.name.toList ++ [32, 58, 32] ++ exL b.ty 0 from rfl)
  generalize bdL b = txt at *
  simp only [aggD, encD_bd, List.map_cons, List.map_nil]
  refine PCalls.enter Try.func93 rfl Try.ntmps93 (by simp) ?_
  simp only [argsF]
  repeat (first | (with_reducible first | refine Qa ?_ | refine Qb ?_ | refine Qc ?_ | refine Qd ?_ | refine Qe ?_ | refine Qf ?_ | refine Qg ?_ | refine Qh ?_ | refine Qi ?_ | refine Qj ?_ | refine Qk ?_ | refine Ql ?_ | refine Qm ?_ | refine Qn ?_ | refine Qo ?_ | refine Qp rfl ?_) | (first | refine Qq ?_ | refine Qr ?_) | (first | refine Qs ?_ | refine Qt ?_ | refine Qu ?_) | (first | refine Qv ?_ | refine Qw ?_) | (first | refine Qx ?_ | refine Qy ?_) | (first | refine Qz ?_ | refine Ra ?_ | refine Rb ?_))
  refine POps_box_a ?_
  intro i0 hi0
  repeat (first | (with_reducible first | refine Qa ?_ | refine Qb ?_ | refine Qc ?_ | refine Qd ?_ | refine Qe ?_ | refine Qf ?_ | refine Qg ?_ | refine Qh ?_ | refine Qi ?_ | refine Qj ?_ | refine Qk ?_ | refine Ql ?_ | refine Qm ?_ | refine Qn ?_ | refine Qo ?_ | refine Qp rfl ?_) | (first | refine Qq ?_ | refine Qr ?_) | (first | refine Qs ?_ | refine Qt ?_ | refine Qu ?_) | (first | refine Qv ?_ | refine Qw ?_) | (first | refine Qx ?_ | refine Qy ?_) | (first | refine Qz ?_ | refine Ra ?_ | refine Rb ?_))
  refine PW_drawn [(0, .a), (1, .a), (2, .a), (3, .a), (4, .b), (5, .a), (6, .e)] (by kernel_rfl) (by rfl) (by kernel_rfl) ?_
  repeat (first | (with_reducible first | refine Qa ?_ | refine Qb ?_ | refine Qc ?_ | refine Qd ?_ | refine Qe ?_ | refine Qf ?_ | refine Qg ?_ | refine Qh ?_ | refine Qi ?_ | refine Qj ?_ | refine Qk ?_ | refine Ql ?_ | refine Qm ?_ | refine Qn ?_ | refine Qo ?_ | refine Qp rfl ?_) | (first | refine Qq ?_ | refine Qr ?_) | (first | refine Qs ?_ | refine Qt ?_ | refine Qu ?_) | (first | refine Qv ?_ | refine Qw ?_) | (first | refine Qx ?_ | refine Qy ?_) | (first | refine Qz ?_ | refine Ra ?_ | refine Rb ?_))
  refine POrd_bs_a ?_
  refine POrd_wr_a 1 (⟨hW, add_w [b.name, ⟨#[32, 58, 32]⟩] (by simp)⟩) ?_
  intro o1 hW1
  repeat (first | (with_reducible first | refine Qa ?_ | refine Qb ?_ | refine Qc ?_ | refine Qd ?_ | refine Qe ?_ | refine Qf ?_ | refine Qg ?_ | refine Qh ?_ | refine Qi ?_ | refine Qj ?_ | refine Qk ?_ | refine Ql ?_ | refine Qm ?_ | refine Qn ?_ | refine Qo ?_ | refine Qp rfl ?_) | (first | refine Qq ?_ | refine Qr ?_) | (first | refine Qs ?_ | refine Qt ?_ | refine Qu ?_) | (first | refine Qv ?_ | refine Qw ?_) | (first | refine Qx ?_ | refine Qy ?_) | (first | refine Qz ?_ | refine Ra ?_ | refine Rb ?_))
  refine POps_wr_a 1 (⟨hW1, hx⟩) ?_
  intro o2 hW2
  repeat (first | (with_reducible first | refine Qa ?_ | refine Qb ?_ | refine Qc ?_ | refine Qd ?_ | refine Qe ?_ | refine Qf ?_ | refine Qg ?_ | refine Qh ?_ | refine Qi ?_ | refine Qj ?_ | refine Qk ?_ | refine Ql ?_ | refine Qm ?_ | refine Qn ?_ | refine Qo ?_ | refine Qp rfl ?_) | (first | refine Qq ?_ | refine Qr ?_) | (first | refine Qs ?_ | refine Qt ?_ | refine Qu ?_) | (first | refine Qv ?_ | refine Qw ?_) | (first | refine Qx ?_ | refine Qy ?_) | (first | refine Qz ?_ | refine Ra ?_ | refine Rb ?_))
  refine retP_keep (by simp) (by simp only [Try.results93]; rfl) (by simp [resP]; rfl) (by repeat (first | exact List.Sublist.refl _ | exact List.nil_sublist _ | refine List.Sublist.cons_cons _ ?_ | refine List.Sublist.cons _ ?_)) ⟨rfl, o2, ?_, rfl⟩
  rw [HE.out]
  simpa [txts] using hW2
theorem patB_w {t : Nd} (h : patB t = true) : PaC t := pattern_w _ t (Nat.le_refl _) (patB_good h) (small_nd (patB_small h))
set_option maxHeartbeats 4000000 in
theorem row_w (r : Rw) (h : rowB r = true) : WC 94 [aggD r] (rowL r) := by
  intro i g o T hW
  unfold rowB at h
  simp only [Bool.and_eq_true, decide_eq_true_eq] at h
  obtain ⟨⟨hlen, hpats⟩, hbody⟩ := h
  have ih' : ∀ (k : Nat) (h : k < r.pats.length), PaC r.pats[k] := fun k h => patB_w (List.all_eq_true.1 hpats _ (List.getElem_mem h))
  have HE := Lib.hid (show rowL r = [32, 32] ++ patsW r.pats ++ (if r.has then [61, 32] ++ exL r.body 0 else []) ++ [59, 10] from rfl)
  generalize rowL r = txt at *
  clear hpats
  simp only [aggD, encD_rw, List.map_cons, List.map_nil]
  refine PCalls.enter Try.func94 rfl Try.ntmps94 (by simp) ?_
  simp only [argsF]
  repeat (first | (with_reducible first | refine Qa ?_ | refine Qb ?_ | refine Qc ?_ | refine Qd ?_ | refine Qe ?_ | refine Qf ?_ | refine Qg ?_ | refine Qh ?_ | refine Qi ?_ | refine Qj ?_ | refine Qk ?_ | refine Ql ?_ | refine Qm ?_ | refine Qn ?_ | refine Qo ?_ | refine Qp rfl ?_) | (first | refine Qq ?_ | refine Qr ?_) | (first | refine Qs ?_ | refine Qt ?_ | refine Qu ?_) | (first | refine Qv ?_ | refine Qw ?_) | (first | refine Qx ?_ | refine Qy ?_) | (first | refine Qz ?_ | refine Ra ?_ | refine Rb ?_))
  refine POps_box_a ?_
  intro i0 hi0
  repeat (first | (with_reducible first | refine Qa ?_ | refine Qb ?_ | refine Qc ?_ | refine Qd ?_ | refine Qe ?_ | refine Qf ?_ | refine Qg ?_ | refine Qh ?_ | refine Qi ?_ | refine Qj ?_ | refine Qk ?_ | refine Ql ?_ | refine Qm ?_ | refine Qn ?_ | refine Qo ?_ | refine Qp rfl ?_) | (first | refine Qq ?_ | refine Qr ?_) | (first | refine Qs ?_ | refine Qt ?_ | refine Qu ?_) | (first | refine Qv ?_ | refine Qw ?_) | (first | refine Qx ?_ | refine Qy ?_) | (first | refine Qz ?_ | refine Ra ?_ | refine Rb ?_))
  refine POps_bs_a ?_
  refine POps_wr_a 1 (⟨hW, add_w [⟨#[32, 32]⟩] (by simp)⟩) ?_
  intro o1 hW1
  repeat (first | (with_reducible first | refine Qa ?_ | refine Qb ?_ | refine Qc ?_ | refine Qd ?_ | refine Qe ?_ | refine Qf ?_ | refine Qg ?_ | refine Qh ?_ | refine Qi ?_ | refine Qj ?_ | refine Qk ?_ | refine Ql ?_ | refine Qm ?_ | refine Qn ?_ | refine Qo ?_ | refine Qp rfl ?_) | (first | refine Qq ?_ | refine Qr ?_) | (first | refine Qs ?_ | refine Qt ?_ | refine Qu ?_) | (first | refine Qv ?_ | refine Qw ?_) | (first | refine Qx ?_ | refine Qy ?_) | (first | refine Qz ?_ | refine Ra ?_ | refine Rb ?_))
  refine PW_loop (ι := Nat × (List UInt8 × Bool)) (fun k => k.1 ≤ r.pats.length ∧ Wr k.2 (T ++ [32, 32] ++ patsW (r.pats.take k.1))) (fun k => [(0, .ptr i 0), (3, .ptr i0 0), (12, .d (.sl (r.pats.map encD))), (13, .d (.v (.int .i64 r.pats.length))), (14, .d (.v (.int .i64 k.1)))]) (fun k => .box i0 82 [.d (.v (.int .i64 r.at_)), .d (.sl (r.pats.map encD)), .d (.v (.bool r.has)), .d (.v (.int .i64 r.body.kind)), .d (.v (.int .i64 r.body.at)), .d (.v (.string r.body.name)), .d (.v (.int .i64 r.body.num)), .d (.sl (r.body.sub.map encD))] :: wrS i g 103 k.2) (fun k => r.pats.length - k.1) (0, o1) ⟨Nat.zero_le _, by simpa [txts, patsW] using hW1⟩ ?_ ?_ ?_
  · repeat (first | exact sub_nil _ | refine sub_cons (by simp [PF.get]; rfl) (by first | rfl | (simp [*]; done) | fail) ?_)
  · simp only [List.cons_append, List.nil_append]
    repeat (first | exact List.Sublist.refl _ | exact List.nil_sublist _ | refine List.Sublist.cons_cons _ ?_ | refine List.Sublist.cons _ ?_)
  · rintro ⟨k, o⟩ ⟨hk, hWk⟩
    simp only at hk hWk ⊢
    clear hW hW1
    by_cases hlt : k < r.pats.length
    · have hx := get_enc hlt
      have hc : ((k : Int) < (r.pats.length : Int)) := by omega
      have hn : (0 : Int) ≤ (k : Int) := by omega
      repeat (first | (with_reducible first | refine Qa ?_ | refine Qb ?_ | refine Qc ?_ | refine Qd ?_ | refine Qe ?_ | refine Qf ?_ | refine Qg ?_ | refine Qh ?_ | refine Qi ?_ | refine Qj ?_ | refine Qk ?_ | refine Ql ?_ | refine Qm ?_ | refine Qn ?_ | refine Qo ?_ | refine Qp rfl ?_) | (first | refine Qq ?_ | refine Qr ?_) | (first | refine Qs ?_ | refine Qt ?_ | refine Qu ?_) | (first | refine Qv ?_ | refine Qw ?_) | (first | refine Qx ?_ | refine Qy ?_) | (first | refine Qz ?_ | refine Ra ?_ | refine Rb ?_))
      refine POps_alloc_a ?_
      intro i2 hi2
      simp only [St.freshB_box] at hi2
      repeat (first | (with_reducible first | refine Qa ?_ | refine Qb ?_ | refine Qc ?_ | refine Qd ?_ | refine Qe ?_ | refine Qf ?_ | refine Qg ?_ | refine Qh ?_ | refine Qi ?_ | refine Qj ?_ | refine Qk ?_ | refine Ql ?_ | refine Qm ?_ | refine Qn ?_ | refine Qo ?_ | refine Qp rfl ?_) | (first | refine Qq ?_ | refine Qr ?_) | (first | refine Qs ?_ | refine Qt ?_ | refine Qu ?_) | (first | refine Qv ?_ | refine Qw ?_) | (first | refine Qx ?_ | refine Qy ?_) | (first | refine Qz ?_ | refine Ra ?_ | refine Rb ?_))
      refine Rc ?_
      repeat (first | (with_reducible first | refine Qa ?_ | refine Qb ?_ | refine Qc ?_ | refine Qd ?_ | refine Qe ?_ | refine Qf ?_ | refine Qg ?_ | refine Qh ?_ | refine Qi ?_ | refine Qj ?_ | refine Qk ?_ | refine Ql ?_ | refine Qm ?_ | refine Qn ?_ | refine Qo ?_ | refine Qp rfl ?_) | (first | refine Qq ?_ | refine Qr ?_) | (first | refine Qs ?_ | refine Qt ?_ | refine Qu ?_) | (first | refine Qv ?_ | refine Qw ?_) | (first | refine Qx ?_ | refine Qy ?_) | (first | refine Qz ?_ | refine Ra ?_ | refine Rb ?_))
      refine POps_wr_a 2 (⟨hWk, ih' k hlt⟩) ?_
      intro o2 hW2
      repeat (first | (with_reducible first | refine Qa ?_ | refine Qb ?_ | refine Qc ?_ | refine Qd ?_ | refine Qe ?_ | refine Qf ?_ | refine Qg ?_ | refine Qh ?_ | refine Qi ?_ | refine Qj ?_ | refine Qk ?_ | refine Ql ?_ | refine Qm ?_ | refine Qn ?_ | refine Qo ?_ | refine Qp rfl ?_) | (first | refine Qq ?_ | refine Qr ?_) | (first | refine Qs ?_ | refine Qt ?_ | refine Qu ?_) | (first | refine Qv ?_ | refine Qw ?_) | (first | refine Qx ?_ | refine Qy ?_) | (first | refine Qz ?_ | refine Ra ?_ | refine Rb ?_))
      refine POps_bs_a ?_
      refine POps_wr_a 2 (⟨hW2, add_w [⟨#[32]⟩] (by simp)⟩) ?_
      intro o3 hW3
      have hin := wrap_next hlt (by omega)
      repeat (first | (with_reducible first | refine Qa ?_ | refine Qb ?_ | refine Qc ?_ | refine Qd ?_ | refine Qe ?_ | refine Qf ?_ | refine Qg ?_ | refine Qh ?_ | refine Qi ?_ | refine Qj ?_ | refine Qk ?_ | refine Ql ?_ | refine Qm ?_ | refine Qn ?_ | refine Qo ?_ | refine Qp rfl ?_) | (first | refine Qq ?_ | refine Qr ?_) | (first | refine Qs ?_ | refine Qt ?_ | refine Qu ?_) | (first | refine Qv ?_ | refine Qw ?_) | (first | refine Qx ?_ | refine Qy ?_) | (first | refine Qz ?_ | refine Ra ?_ | refine Rb ?_))
      refine ⟨(k + 1, o3), ⟨by simp only; omega, ?_⟩, by simp only; omega, ?_, ?_⟩
      · simp only [patsW_take hlt]
        simpa [txts] using hW3
      · simp only
        repeat (first | exact sub_nil _ | refine sub_cons (by simp [PF.get]; rfl) (by first | rfl | (simp [hin]; done) | fail) ?_)
      · simp only [List.cons_append, List.nil_append]
        repeat (first | exact List.Sublist.refl _ | exact List.nil_sublist _ | refine List.Sublist.cons_cons _ ?_ | refine List.Sublist.cons _ ?_)
    · have hc : ¬ ((k : Int) < (r.pats.length : Int)) := by omega
      rw [List.take_of_length_le (by omega)] at hWk
      cases hh : r.has with
      | true =>
        have hx := expr_w _ r.body (Nat.le_refl _) (exprB_good (by rw [hh, if_pos rfl] at hbody; exact hbody)) 0
        clear hbody
        rw [hh] at HE
        repeat (first | (with_reducible first | refine Qa ?_ | refine Qb ?_ | refine Qc ?_ | refine Qd ?_ | refine Qe ?_ | refine Qf ?_ | refine Qg ?_ | refine Qh ?_ | refine Qi ?_ | refine Qj ?_ | refine Qk ?_ | refine Ql ?_ | refine Qm ?_ | refine Qn ?_ | refine Qo ?_ | refine Qp rfl ?_) | (first | refine Qq ?_ | refine Qr ?_) | (first | refine Qs ?_ | refine Qt ?_ | refine Qu ?_) | (first | refine Qv ?_ | refine Qw ?_) | (first | refine Qx ?_ | refine Qy ?_) | (first | refine Qz ?_ | refine Ra ?_ | refine Rb ?_))
        refine POps_bs_a ?_
        refine POps_wr_a 1 (⟨hWk, add_w [⟨#[61, 32]⟩] (by simp)⟩) ?_
        intro o2 hW2
        repeat (first | (with_reducible first | refine Qa ?_ | refine Qb ?_ | refine Qc ?_ | refine Qd ?_ | refine Qe ?_ | refine Qf ?_ | refine Qg ?_ | refine Qh ?_ | refine Qi ?_ | refine Qj ?_ | refine Qk ?_ | refine Ql ?_ | refine Qm ?_ | refine Qn ?_ | refine Qo ?_ | refine Qp rfl ?_) | (first | refine Qq ?_ | refine Qr ?_) | (first | refine Qs ?_ | refine Qt ?_ | refine Qu ?_) | (first | refine Qv ?_ | refine Qw ?_) | (first | refine Qx ?_ | refine Qy ?_) | (first | refine Qz ?_ | refine Ra ?_ | refine Rb ?_))
        refine POps_wr_a 1 (⟨hW2, hx⟩) ?_
        intro o3 hW3
        repeat (first | (with_reducible first | refine Qa ?_ | refine Qb ?_ | refine Qc ?_ | refine Qd ?_ | refine Qe ?_ | refine Qf ?_ | refine Qg ?_ | refine Qh ?_ | refine Qi ?_ | refine Qj ?_ | refine Qk ?_ | refine Ql ?_ | refine Qm ?_ | refine Qn ?_ | refine Qo ?_ | refine Qp rfl ?_) | (first | refine Qq ?_ | refine Qr ?_) | (first | refine Qs ?_ | refine Qt ?_ | refine Qu ?_) | (first | refine Qv ?_ | refine Qw ?_) | (first | refine Qx ?_ | refine Qy ?_) | (first | refine Qz ?_ | refine Ra ?_ | refine Rb ?_))
        refine POps_bs_a ?_
        refine POps_wr_a 1 (⟨hW3, add_w [⟨#[59, 10]⟩] (by simp)⟩) ?_
        intro o4 hW4
        repeat (first | (with_reducible first | refine Qa ?_ | refine Qb ?_ | refine Qc ?_ | refine Qd ?_ | refine Qe ?_ | refine Qf ?_ | refine Qg ?_ | refine Qh ?_ | refine Qi ?_ | refine Qj ?_ | refine Qk ?_ | refine Ql ?_ | refine Qm ?_ | refine Qn ?_ | refine Qo ?_ | refine Qp rfl ?_) | (first | refine Qq ?_ | refine Qr ?_) | (first | refine Qs ?_ | refine Qt ?_ | refine Qu ?_) | (first | refine Qv ?_ | refine Qw ?_) | (first | refine Qx ?_ | refine Qy ?_) | (first | refine Qz ?_ | refine Ra ?_ | refine Rb ?_))
        refine retP_keep (by simp) (by simp only [Try.results94]; rfl) (by simp [resP]; rfl) (by repeat (first | exact List.Sublist.refl _ | exact List.nil_sublist _ | refine List.Sublist.cons_cons _ ?_ | refine List.Sublist.cons _ ?_)) ⟨rfl, o4, ?_, rfl⟩
        rw [HE.out]
        simpa [txts] using hW4
      | false =>
        clear hbody
        rw [hh] at HE
        repeat (first | (with_reducible first | refine Qa ?_ | refine Qb ?_ | refine Qc ?_ | refine Qd ?_ | refine Qe ?_ | refine Qf ?_ | refine Qg ?_ | refine Qh ?_ | refine Qi ?_ | refine Qj ?_ | refine Qk ?_ | refine Ql ?_ | refine Qm ?_ | refine Qn ?_ | refine Qo ?_ | refine Qp rfl ?_) | (first | refine Qq ?_ | refine Qr ?_) | (first | refine Qs ?_ | refine Qt ?_ | refine Qu ?_) | (first | refine Qv ?_ | refine Qw ?_) | (first | refine Qx ?_ | refine Qy ?_) | (first | refine Qz ?_ | refine Ra ?_ | refine Rb ?_))
        refine POps_bs_a ?_
        refine POps_wr_a 1 (⟨hWk, add_w [⟨#[59, 10]⟩] (by simp)⟩) ?_
        intro o4 hW4
        repeat (first | (with_reducible first | refine Qa ?_ | refine Qb ?_ | refine Qc ?_ | refine Qd ?_ | refine Qe ?_ | refine Qf ?_ | refine Qg ?_ | refine Qh ?_ | refine Qi ?_ | refine Qj ?_ | refine Qk ?_ | refine Ql ?_ | refine Qm ?_ | refine Qn ?_ | refine Qo ?_ | refine Qp rfl ?_) | (first | refine Qq ?_ | refine Qr ?_) | (first | refine Qs ?_ | refine Qt ?_ | refine Qu ?_) | (first | refine Qv ?_ | refine Qw ?_) | (first | refine Qx ?_ | refine Qy ?_) | (first | refine Qz ?_ | refine Ra ?_ | refine Rb ?_))
        refine retP_keep (by simp) (by simp only [Try.results94]; rfl) (by simp [resP]; rfl) (by repeat (first | exact List.Sublist.refl _ | exact List.nil_sublist _ | refine List.Sublist.cons_cons _ ?_ | refine List.Sublist.cons _ ?_)) ⟨rfl, o4, ?_, rfl⟩
        rw [HE.out]
        simpa [txts] using hW4
end Go.Proofs.Ytffgfjnbgplckaa
