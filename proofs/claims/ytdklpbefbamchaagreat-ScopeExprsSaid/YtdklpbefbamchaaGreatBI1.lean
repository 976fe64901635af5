import Derived.Test.YtdklpbefbamchaaGreatT7
import Derived.Test.YtdklpbefbamchaaGreatBU
import Derived.Test.YtdklpbefbamchaaGreatBI
import Derived.Test.YtdklpbefbamchaaGreatBS3
set_option linter.unusedSimpArgs false
set_option linter.unusedVariables false
set_option maxHeartbeats 16000000
set_option maxRecDepth 100000
namespace Go.Proofs.YtdklpbefbamchaaGreat
open Go.RowKit
def okN18 (t : Nd) : Bool := decide (0 < (budT t 600).2)
theorem ok18_same {t : Nd} (h : okN18 t = true) : (budT t 600).1 = t ∧ ndT t < 600 := by
 have h1 := of_decide_eq_true h
 obtain ⟨_, _, h2⟩ := Qko t 600
 obtain ⟨h3, h4⟩ := h2 (by omega)
 exact ⟨h3, by omega⟩
theorem budget18_any : ∀ (t : Nd) (cs : List Value) (l : Int) (w : World), -9000 < l → l ≤ 1000 → NdC w t cs →
  Calls Tryz.prog 100 #[.agg cs.toArray, .int .i64 l] w fun e w' => ∃ v, e = .returned (.tuple #[.agg #[.int .i64 t.kind, .int .i64 t.at, .string t.name, .int .i64 t.num, v], .int .i64 (budT t l).2]) ∧ RepS (fun b => w.heap.size ≤ b) w' v (budT t l).1.sub ∧ Below w.heap.size w w' := by
 obtain ⟨i0, hi, hz0, hz1, hz2⟩ := info_parts infoR
 refine Nd.ind ?_
 intro kk aa ss n sub ih cs l w hl0 hl1 ht
 obtain ⟨a, cap, rfl, hsub, hlen, hnsa⟩ := Qcd ht
 have hbk := (bud_kind (.mk kk aa ss n sub) l).2
 generalize (budT (.mk kk aa ss n sub) l).1.sub = R at hbk ⊢
 generalize (budT (.mk kk aa ss n sub) l).2 = X at hbk ⊢
 simp only [Nd.kind, Nd.at, Nd.name, Nd.num, Nd.sub] at hsub hlen hnsa hbk ⊢
 have BK := Lib.hid hbk
 clear hbk
 have IH := Lib.hid ih
 clear ht ih
 go_enter Tryz.func100, Tryz.ntmps100
 go_wp2_with fail
 go_loopw [1, 7] (fun g i wr => ∃ (k : Nat) (v : Value) (rs : List Nd) (x : Int), k ≤ sub.length ∧ i = .int .i64 k ∧ g = .int .i64 x ∧ -9000 ≤ x ∧ x ≤ 1000 ∧ Own (fun b => w.heap.size + 3 ≤ b) 64 (w.heap.size + 3) v rs wr ∧ Hid (budL sub (l - 1) = (rs ++ (budL (sub.drop k) x).1, (budL (sub.drop k) x).2)) ∧ Box5 68 wr w.heap.size (.int .i64 kk) (.int .i64 aa) (.string ss) (.int .i64 n) (.slice a sub.length cap) ∧ Box5 64 wr (w.heap.size + 1) (.int .i64 0) (.int .i64 0) (.string ByteArray.empty) (.int .i64 0) (.slice none 0 0) ∧ Box5 64 wr (w.heap.size + 2) (.int .i64 kk) (.int .i64 aa) (.string ss) (.int .i64 n) v ∧ Below w.heap.size w wr ∧ w.heap.size + 3 ≤ wr.heap.size) (fun _ i _ => sub.length - (intOf i).toNat)
 case atStart =>
  obtain ⟨h1, h2, h3, h4, h5⟩ := boxes3 w #[.int .i64 kk, .int .i64 aa, .string ss, .int .i64 n, .slice a sub.length cap] #[.int .i64 0, .int .i64 0, .string ByteArray.empty, .int .i64 0, .slice none 0 0] #[.int .i64 kk, .int .i64 aa, .string ss, .int .i64 n, .slice none 0 0] 68 64 64
  exact ⟨0, _, [], l - 1, Nat.zero_le _, rfl, by go_num, by omega, by omega, Own.nil, rfl, h1, h2, h3, h4, h5⟩
 case round =>
  obtain ⟨k, v, rs, x, hk, rfl, rfl, hx0, hx1, hown, HG, b1, b2, b3, hbw, hsz⟩ := hrel
  obtain ⟨c0, c1, c2, c3, c4⟩ := b1.cells
  by_cases hlt : k < sub.length ∧ -9000 < x
  ·obtain ⟨hlt, hx⟩ := hlt
   obtain ⟨bb, off, a', cap', rfl, e0, e1, e2, e3, e4, hts⟩ := sub_at hsub hbw k hlt
   have hnsk : sub[k].name.size ≤ maxLen := by obtain ⟨_, _, _, _, _, h⟩ := Qcd hts; exact h
   have hnext : Hid (budL sub (l - 1) = ((rs ++ [(budT sub[k] x).1]) ++ (budL (sub.drop (k + 1)) (budT sub[k] x).2).1, (budL (sub.drop (k + 1)) (budT sub[k] x).2).2)) := by
    have h := HG.out
    rw [List.drop_eq_getElem_cons hlt] at h
    simp only [budL] at h
    rw [if_pos hx] at h
    show _ = _
    rw [h, List.append_assoc]; rfl
   have hcnt : Hid (rs.length + 1 ≤ 20000) := by
    have h := congrArg (fun p => p.1.length) hnext.out
    have h2 := budL_count sub (l - 1)
    simp only [List.length_append, List.length_singleton] at h
    show _ ≤ _
    omega
   have hlo := bud_lo sub[k] x hx
   have hhi := (Qko sub[k] x).1
   have HO := Lib.hid hown
   have HBW := Lib.hid hbw
   have B1r := Lib.hid b1
   have B2r := Lib.hid b2
   have B3r := Lib.hid b3
   have HTS := Lib.hid hts
   clear hown b1 b2 b3 hts HG hbw
   go_wp2_with fail
   refine (IH.out _ (List.getElem_mem hlt) _ x _ hx hx1 HTS.out).mono ?_
   rintro e w1 ⟨v1, rfl, hrep, hb1⟩
   obtain ⟨a1, n1, c1, rfl⟩ := hrep.form
   have hs1 := hb1.size
   have hw2 : Below wr.heap.size wr (w1.alloc (.cells #[.int .i64 sub[k].kind, .int .i64 sub[k].at, .string sub[k].name, .int .i64 sub[k].num, .slice a1 n1 c1] 64)) := hb1.alloc hs1 _
   have hzw : wr.heap.size + 1 ≤ (w1.alloc (.cells #[.int .i64 sub[k].kind, .int .i64 sub[k].at, .string sub[k].name, .int .i64 sub[k].num, .slice a1 n1 c1] 64)).heap.size := by simp; omega
   have b3w := B3r.out.later hw2 (by omega)
   obtain ⟨g0, g1, g2, g3, g4⟩ := b3w.cells
   have fz4 := b3w.free 4
   have hrep2 : Rep (fun b => wr.heap.size ≤ b) (w1.alloc (.cells #[.int .i64 sub[k].kind, .int .i64 sub[k].at, .string sub[k].name, .int .i64 sub[k].num, .slice a1 n1 c1] 64)) (budT sub[k] x).1 [.int .i64 sub[k].kind, .int .i64 sub[k].at, .string sub[k].name, .int .i64 sub[k].num, .slice a1 n1 c1] := by
    have hk := (bud_kind sub[k] x).1
    have h := (rep_nd (t := .mk sub[k].kind sub[k].at sub[k].name sub[k].num (budT sub[k] x).1.sub)).2 ⟨_, rfl, hnsk, hrep⟩
    rw [hk]
    exact h.later ((Below.refl _ _).alloc (Nat.le_refl _) _)
   have hown2 := HO.out.later hw2
   have hlt2 := HO.out.lt
   have E1 := Qig (w1.alloc (.cells #[.int .i64 sub[k].kind, .int .i64 sub[k].at, .string sub[k].name, .int .i64 sub[k].num, .slice a1 n1 c1] 64)) #[.int .i64 sub[k].kind, .int .i64 sub[k].at, .string sub[k].name, .int .i64 sub[k].num, .slice a1 n1 c1] 64
   have hone := (RepS.one (T := 64) hrep2).sub (S' := fun b => wr.heap.size ≤ b) fun b hb _ => by
    rcases hb with hb | hb
    ·exact hb
    ·omega
   have hown3 := hown2.later E1.2.1
   have hS3 : ∀ d ∈ [(budT sub[k] x).1], ∀ cs, Rep (fun b => wr.heap.size ≤ b) ((w1.alloc (.cells #[.int .i64 sub[k].kind, .int .i64 sub[k].at, .string sub[k].name, .int .i64 sub[k].num, .slice a1 n1 c1] 64)).alloc (.cells #[.int .i64 sub[k].kind, .int .i64 sub[k].at, .string sub[k].name, .int .i64 sub[k].num, .slice a1 n1 c1] 64)) d cs → Rep (fun b => w.heap.size + 3 ≤ b ∧ v.ownBlock ≠ some b) ((w1.alloc (.cells #[.int .i64 sub[k].kind, .int .i64 sub[k].at, .string sub[k].name, .int .i64 sub[k].num, .slice a1 n1 c1] 64)).alloc (.cells #[.int .i64 sub[k].kind, .int .i64 sub[k].at, .string sub[k].name, .int .i64 sub[k].num, .slice a1 n1 c1] 64)) d cs :=
    fun d _ cs h => h.sub fun b hb _ => ⟨by omega, fun e => by have := (hlt2 b e).2; omega⟩
   have HO3 := Lib.hid hown3
   rw [show (w1.alloc (.cells #[.int .i64 sub[k].kind, .int .i64 sub[k].at, .string sub[k].name, .int .i64 sub[k].num, .slice a1 n1 c1] 64)).heap.size = w1.heap.size + 1 from by simp] at hone
   have HONE := Lib.hid hone
   have HS3 := Lib.hid hS3
   have HZ3 := Lib.hid (show w.heap.size + 3 ≤ ((w1.alloc (.cells #[.int .i64 sub[k].kind, .int .i64 sub[k].at, .string sub[k].name, .int .i64 sub[k].num, .slice a1 n1 c1] 64)).alloc (.cells #[.int .i64 sub[k].kind, .int .i64 sub[k].at, .string sub[k].name, .int .i64 sub[k].num, .slice a1 n1 c1] 64)).heap.size by have := E1.2.2; omega)
   have HW3 := Lib.hid (hw2.trans (E1.2.1.mono (by omega)))
   clear hown2 hlt2 hone hown3 hS3 E1 hrep2 hrep hw2 hzw hb1 b3w
   have HLO := Lib.hid hlo
   have HHI := Lib.hid hhi
   clear hlo hhi
   have hz0r := Lib.hid hsz
   go_wp2_with (at_builtin; refine wpList_push rfl _ _ 62 rfl 64 i0 (.agg #[.int .i64 0, .int .i64 0, .string ByteArray.empty, .int .i64 0, .slice none 0 0]) 64 Tryz.underlying62 hi hz0 hz1 hz2 rfl (by decide) HO3.out _ [(budT sub[k] x).1] HONE.out (by rfl) (by rfl) HS3.out (by have := hcnt.out; unfold maxLen; simp; omega) (by have := hcnt.out; simp; omega) HZ3.out ?_; intro v2 w2 hown2 hb2 hg2 hap2; obtain ⟨g2, cp2, rfl, -⟩ := hown2.some (by simp); have q3 := Lib.hid ((B3r.out.later HW3.out (by omega)).later hb2 (by omega)); obtain ⟨y0, y1, y2, y3, y4⟩ := q3.out.cells; have y5 := q3.out.free 4; replace hown2 := Lib.hid hown2; replace hb2 := Lib.hid hb2)
   clear hg2 hap2
   have hbf := HBW.out.trans ((HW3.out.mono HBW.out.size).trans (hb2.out.mono (by omega)))
   have HLT := Lib.hid hlt
   go_roundw
   case rel =>
    have hlo := HLO.out
    have hhi := HHI.out
    have hz4 := hb2.out.size
    have hz3 := HZ3.out
    refine ⟨k + 1, _, rs ++ [(budT sub[k] x).1], (budT sub[k] x).2, by omega, by go_num, rfl, by omega, by omega, hown2.out.move fun b hb _ => Below.heap_setCell _ _ _ _ (by show b ≠ w.heap.size + 2; omega), hnext, ?_, ?_, by rw [List.length_append]; exact q3.out.set4 _, hbf.setCell (by show w.heap.size ≤ w.heap.size + 2; omega) _, by simp; omega⟩
    ·exact Box5.set_ne ((B1r.out.later HW3.out (by omega)).later hb2.out (by omega)) (by show w.heap.size ≠ w.heap.size + 2; omega) _
    ·exact Box5.set_ne ((B2r.out.later HW3.out (by omega)).later hb2.out (by omega)) (by show w.heap.size + 1 ≠ w.heap.size + 2; omega) _
   case measure => have := HLT.out; simp [intOf]; omega
  ·have hend : budL (sub.drop k) x = ([], x) := by
    by_cases h1 : k < sub.length
    ·rw [List.drop_eq_getElem_cons h1]; simp only [budL]; rw [if_neg (by omega)]
    ·rw [List.drop_of_length_le (by omega)]; rfl
   have h := HG.out
   rw [hend] at h
   have hb := BK.out
   rw [h] at hb
   have HRS : Hid (rs = R ∧ x = X) := ⟨by rw [hb.1]; simp, hb.2.symm⟩
   obtain ⟨d0, d1, d2, d3, d4⟩ := b2.cells
   obtain ⟨g0, g1, g2, g3, g4⟩ := b3.cells
   have f0 := b2.free 0
   have f1 := b2.free 1
   have f2 := b2.free 2
   have f3 := b2.free 3
   have f4 := b2.free 4
   obtain ⟨av, cv, rfl⟩ := hown.shape
   have hres : RepS (fun b => w.heap.size ≤ b) (set5 wr (w.heap.size + 1) (.int .i64 kk) (.int .i64 aa) (.string ss) (.int .i64 n) (.slice av rs.length cv)) (.slice av rs.length cv) rs :=
    RepS.move (fun b hb _ => ⟨by omega, by rw [set5_heap _ _ _ _ _ _ _ _ (by omega)]⟩) hown.done
   have HRES := Lib.hid hres
   have hbf : Below w.heap.size w (set5 wr (w.heap.size + 1) (.int .i64 kk) (.int .i64 aa) (.string ss) (.int .i64 n) (.slice av rs.length cv)) := set5_below hbw (by omega) _ _ _ _ _
   have HBF := Lib.hid hbf
   clear h hb hend HG hres hbf b1 b2 b3 hbw hown
   rcases (show (k < sub.length ∧ x ≤ -9000) ∨ sub.length ≤ k by omega) with ⟨h1, h2⟩ | h1
   all_goals
    clear hlt
    go_wp2_with fail
    exact bodyPost_ret (v := .tuple #[.agg #[.int .i64 kk, .int .i64 aa, .string ss, .int .i64 n, .slice av rs.length cv], .int .i64 x]) (by simp [results, Tryz.results100, go_sem, d0, d1, d2, d3, d4]) rfl ⟨_, by rw [HRS.out.2], by rw [← HRS.out.1]; exact HRES.out, HBF.out⟩
theorem of18_any (t : Nd) (cs : List Value) (w : World) (ht : NdC w t cs) :
  Calls Tryz.prog 49 #[.agg cs.toArray] w fun e w' => ∃ v, e = .returned (.tuple #[.agg #[.int .i64 t.kind, .int .i64 t.at, .string t.name, .int .i64 t.num, v], .bool (okN18 t)]) ∧ RepS (fun b => w.heap.size ≤ b) w' v (budT t 600).1.sub ∧ Below w.heap.size w w' := by
 obtain ⟨a, cap, rfl, hsub, hlen, hnsa⟩ := Qcd ht
 have E := boxes2 w #[.int .i64 t.kind, .int .i64 t.at, .string t.name, .int .i64 t.num, .slice a t.sub.length cap] #[.int .i64 0, .int .i64 0, .string ByteArray.empty, .int .i64 0, .slice none 0 0] 68 64
 have BU := Lib.hid (budget18_any t _ 600 _ (by omega) (by omega) (ht.later E.2.2.1))
 have HE := Lib.hid E
 have fin : Hid (decide (0 < (budT t 600).2) = okN18 t) := rfl
 clear hsub hlen ht E
 generalize (budT t 600).1.sub = R at *
 generalize (budT t 600).2 = X at *
 generalize okN18 t = ok at *
 go_enter Tryz.func49, Tryz.ntmps49
 go_wp2_with ((go_at_call 100; refine BU.out.mono ?_; rintro e w1 ⟨v1, rfl, hrep, hb1⟩; obtain ⟨a1, n1, c1, rfl⟩ := hrep.form; have q2 := Lib.hid ((show Box5 _ _ _ _ _ _ _ _ from HE.out.2.1).later (hb1.alloc hb1.size (.cells #[.int .i64 t.kind, .int .i64 t.at, .string t.name, .int .i64 t.num, .slice a1 n1 c1] 64)) (by have := HE.out.2.2.2; omega)); obtain ⟨d0, d1, d2, d3, d4⟩ := q2.out.cells; have f0 := q2.out.free 0; have f1 := q2.out.free 1; have f2 := q2.out.free 2; have f3 := q2.out.free 3; have f4 := q2.out.free 4; replace hrep := Lib.hid hrep; replace hb1 := Lib.hid hb1))
 have hw2 : Below w.heap.size w (w1.alloc (.cells #[.int .i64 t.kind, .int .i64 t.at, .string t.name, .int .i64 t.num, .slice a1 n1 c1] 64)) := HE.out.2.2.1.trans ((hb1.out.mono HE.out.2.2.1.size).alloc (Nat.le_trans HE.out.2.2.1.size hb1.out.size) _)
 have hres : RepS (fun b => w.heap.size ≤ b) (set5 (w1.alloc (.cells #[.int .i64 t.kind, .int .i64 t.at, .string t.name, .int .i64 t.num, .slice a1 n1 c1] 64)) (w.heap.size + 1) (.int .i64 t.kind) (.int .i64 t.at) (.string t.name) (.int .i64 t.num) (.slice a1 n1 c1)) (.slice a1 n1 c1) R := by
  refine RepS.move (fun b hb hl => ⟨?_, ?_⟩) hrep.out
  ·have := HE.out.2.2.2; omega
  ·rw [set5_heap _ _ _ _ _ _ _ _ (by have := HE.out.2.2.2; omega)]; exact Below.heap_alloc _ _ _ hl
 exact bodyPost_ret (v := .tuple #[.agg #[.int .i64 t.kind, .int .i64 t.at, .string t.name, .int .i64 t.num, .slice a1 n1 c1], .bool (decide (0 < X))]) (by simp [results, Tryz.results49, go_sem, d0, d1, d2, d3, d4]) rfl ⟨_, by rw [fin.out], hres, set5_below hw2 (by omega) _ _ _ _ _⟩
theorem of18_p (t : Nd) : PCalls Tryz.prog 49 [aggD t] [] fun p s => p = .tup [aggD (budT t 600).1, .d (.v (.bool (okN18 t)))] ∧ s = [] := by
  refine PCalls.data fun K w vs ha => ?_
  obtain ⟨v, rfl, hv⟩ := ha.one
  obtain ⟨cs, rfl, hc⟩ := agg_nd hv
  have hns : t.name.size ≤ maxLen := by obtain ⟨_, _, _, _, _, h⟩ := Qcd hc; exact h
  refine (of18_any t cs w hc).mono ?_
  rintro e w' ⟨u, rfl, hr, hb⟩
  refine ⟨_, rfl, hb, fun K' hK => ?_⟩
  refine tup2 ?_ (.d (.v trivial))
  have : Rep (fun b => w.heap.size ≤ b) w' (budT t 600).1 [.int .i64 t.kind, .int .i64 t.at, .string t.name, .int .i64 t.num, u] := by
    cases t with
    | mk k a s n sub =>
      rw [show budT (.mk k a s n sub) 600 = (.mk k a s n (budL sub (600 - 1)).1, (budL sub (600 - 1)).2) by simp only [budT]] at hr ⊢
      exact rep_nd.2 ⟨u, rfl, hns, hr⟩
  exact Qjh (fun b o v h1 h2 => hK b o v h1 h2) this
theorem Qdf (k a n : Int) (s : ByteArray) (sub : List Nd) : aggD (Nd.mk k a s n sub) = .agg [.d (.v (.int .i64 k)), .d (.v (.int .i64 a)), .d (.v (.string s)), .d (.v (.int .i64 n)), .d (.sl (sub.map encD))] := by
 unfold aggD; rw [Jh]; rfl
def findI (o : Option Nat) : Int := match o with | some c => c | none => -1
theorem rfindI_p (l : List En) (s : ByteArray) : PCalls Tryz.prog 148 [.d (.sl (l.map encD)), .d (.v (.string s))] [] fun p st => p = .d (.v (.int .i64 (findI (Qdd s l 0)))) ∧ st = [] := by
  obtain ⟨R, hR⟩ : ∃ R, R = Qdd s l 0 := ⟨_, rfl⟩
  rw [← hR]
  have HR : Hid (R = Qdd s (l.drop 0) 0) := hR
  clear hR
  refine PCalls.enter Tryz.func148 rfl Tryz.ntmps148 (by simp) ?_
  simp only [Qaa]
  refine Qeg (t := 0) (rows := l.map encD) (by simp [PF.get] <;> rfl) rfl fun hml => ?_
  rw [List.length_map] at hml
  unfold maxLen at hml
  refine go_ ?_
  refine Qao (ι := Nat) (fun y => y ≤ l.length ∧ Hid (R = Qdd s (l.drop y) y)) (fun y => [(0, .d (.sl (l.map encD))), (1, .d (.v (.string s))), (5, .d (.v (.int .i64 (y : Int))))]) (fun _ => []) (fun y => l.length - y) 0 ⟨Nat.zero_le _, HR.out⟩ ?_ ?_ ?_
  · repeat (first | exact Jt _ | refine Js (by simp [PF.get]; rfl) (by first | rfl | (simp [*]; done) | fail) ?_)
  · repeat (first | exact List.Sublist.refl _ | exact List.nil_sublist _ | refine List.Sublist.cons_cons _ ?_ | refine List.Sublist.cons _ ?_)
  · rintro j ⟨hj, hR⟩
    clear HR
    by_cases hlt : j < l.length
    · have hx := Qar hlt
      have hc : (j : Int) < l.length := by omega
      have hn : (0 : Int) ≤ j := by omega
      have hin := wr64 (n := (j : Int) + 1) (by omega) (by omega)
      have hR2 : Hid (R = if (l[j].name.toList == s.toList) = true then some j else Qdd s (l.drop (j + 1)) (j + 1)) := by
        rw [show R = _ from hR.out, List.drop_eq_getElem_cons hlt]; rfl
      clear hR
      cases hq : (l[j].name.toList == s.toList) with
      | true =>
        have hf : Hid (R = some j) := by show _ = _; rw [show R = _ from hR2.out, hq]; rfl
        clear hR2
        refine go_ ?_
        refine Jm (by simp) (by simp only [Tryz.results148]; rfl) (by simp [resP, St.box?, PF.get, Jn, TyK.agg, *]; rfl) Nl ?_
        exact ⟨by rw [hf.out]; rfl, rfl⟩
      | false =>
        have hR3 : Hid (R = Qdd s (l.drop (j + 1)) (j + 1)) := by show _ = _; rw [show R = _ from hR2.out, hq]; rfl
        clear hR2
        refine go_ ?_
        exact ⟨j + 1, ⟨hlt, hR3⟩, by omega, by repeat (first | exact Jt _ | refine Js (by simp [PF.get]; rfl) (by first | rfl | (simp [*]; done) | fail) ?_), by repeat (first | exact List.Sublist.refl _ | exact List.nil_sublist _ | refine List.Sublist.cons_cons _ ?_ | refine List.Sublist.cons _ ?_)⟩
    · have hc : ¬ (j : Int) < l.length := by omega
      have hf : Hid (R = none) := by rw [show R = _ from hR.out, List.drop_of_length_le (by omega)]; rfl
      refine go_ ?_
      refine Jm (by simp) (by simp only [Tryz.results148]; rfl) (by simp [resP, St.box?, PF.get, Jn, TyK.agg, *]; rfl) Nl ?_
      exact ⟨by rw [hf.out]; rfl, rfl⟩
theorem rchk_p (l : List En) (ns : List ByteArray) (ho : ∀ e ∈ l, EnOk e) : PCalls Tryz.prog 106 [.d (.sl (l.map encD)), .d (.sl (ns.map encD))] [] fun p s => p = .d (.v (.int .i64 (chkE l ns))) ∧ s = [] := by
  obtain ⟨R, hR⟩ : ∃ R, R = chkE l ns := ⟨_, rfl⟩
  rw [← hR]
  have hF := rformed_p l ho
  rw [← formed_eq] at hF
  have H2 := Lib.hid hF
  have HR : Hid (R = if ((ns.drop 0).all namB && formedB l) = true then (if 24 < ns.length then 2 else 0) else 5) := hR
  clear hR ho hF
  generalize formedB l = b at *
  refine PCalls.enter Tryz.func106 rfl Tryz.ntmps106 (by simp) ?_
  simp only [Qaa]
  refine Qeg (t := 1) (rows := ns.map encD) (by simp [PF.get] <;> rfl) rfl fun hml => ?_
  rw [List.length_map] at hml
  unfold maxLen at hml
  refine go_ ?_
  refine Qao (ι := Nat) (fun y => y ≤ ns.length ∧ Hid (R = if ((ns.drop y).all namB && b) = true then (if 24 < ns.length then 2 else 0) else 5)) (fun y => [(0, .d (.sl (l.map encD))), (1, .d (.sl (ns.map encD))), (5, .d (.v (.int .i64 (y : Int))))]) (fun _ => []) (fun y => ns.length - y) 0 ⟨Nat.zero_le _, HR.out⟩ ?_ ?_ ?_
  · repeat (first | exact Jt _ | refine Js (by simp [PF.get]; rfl) (by first | rfl | (simp [*]; done) | fail) ?_)
  · repeat (first | exact List.Sublist.refl _ | exact List.nil_sublist _ | refine List.Sublist.cons_cons _ ?_ | refine List.Sublist.cons _ ?_)
  · rintro j ⟨hj, hR⟩
    clear HR
    by_cases hlt : j < ns.length
    · have hx := get_str hlt
      have hc : (j : Int) < ns.length := by omega
      have hn : (0 : Int) ≤ j := by omega
      have hin := wr64 (n := (j : Int) + 1) (by omega) (by omega)
      have hR2 : Hid (R = if ((namB ns[j] && (ns.drop (j + 1)).all namB) && b) = true then (if 24 < ns.length then 2 else 0) else 5) := by
        show _ = _; rw [show R = _ from hR.out, List.drop_eq_getElem_cons hlt, List.all_cons]
      have hc1 := Lib.hid (rnright_p ns[j])
      unfold namB at hR2
      clear hR
      generalize Qaq ns[j] = q at *
      cases hu : (ns[j].toList == [95]) with
      | true =>
        rw [hu, Bool.true_or, Bool.true_and] at hR2
        refine go_ ?_
        exact ⟨j + 1, ⟨hlt, hR2⟩, by omega, by repeat (first | exact Jt _ | refine Js (by simp [PF.get]; rfl) (by first | rfl | (simp [*]; done) | fail) ?_), by repeat (first | exact List.Sublist.refl _ | exact List.nil_sublist _ | refine List.Sublist.cons_cons _ ?_ | refine List.Sublist.cons _ ?_)⟩
      | false =>
        rw [hu, Bool.false_or] at hR2
        refine go_ ?_
        refine Jr (hc1.out) ?_
        cases q with
        | false =>
          have hf : Hid (R = 5) := by show _ = _; rw [show R = _ from hR2.out]; rfl
          refine go_ ?_
          refine Jm (by simp) (by simp only [Tryz.results106]; rfl) (by simp [resP, St.box?, PF.get, Jn, TyK.agg, *]; rfl) Nl ?_
          exact ⟨by rw [hf.out]; rfl, rfl⟩
        | true =>
          rw [Bool.true_and] at hR2
          refine go_ ?_
          exact ⟨j + 1, ⟨hlt, hR2⟩, by omega, by repeat (first | exact Jt _ | refine Js (by simp [PF.get]; rfl) (by first | rfl | (simp [*]; done) | fail) ?_), by repeat (first | exact List.Sublist.refl _ | exact List.nil_sublist _ | refine List.Sublist.cons_cons _ ?_ | refine List.Sublist.cons _ ?_)⟩
    · have hc : ¬ (j : Int) < ns.length := by omega
      have hR2 : Hid (R = if b = true then (if 24 < ns.length then 2 else 0) else 5) := by show _ = _; rw [show R = _ from hR.out, List.drop_of_length_le (by omega)]; rfl
      clear hR
      cases b with
      | false =>
        have hf : Hid (R = 5) := by show _ = _; rw [show R = _ from hR2.out]; rfl
        refine go_ ?_
        refine Jc (H2.out) ?_
        refine go_ ?_
        refine Jm (by simp) (by simp only [Tryz.results106]; rfl) (by simp [resP, St.box?, PF.get, Jn, TyK.agg, *]; rfl) Nl ?_
        exact ⟨by rw [hf.out]; rfl, rfl⟩
      | true =>
        by_cases h24 : 24 < ns.length
        · have hf : Hid (R = 2) := by show _ = _; rw [show R = _ from hR2.out, if_pos rfl, if_pos h24]
          have hn2 : (24 : Int) < ns.length := by omega
          clear hR2 h24
          refine go_ ?_
          refine Jc (H2.out) ?_
          refine go_ ?_
          refine Jm (by simp) (by simp only [Tryz.results106]; rfl) (by simp [resP, St.box?, PF.get, Jn, TyK.agg, *]; rfl) Nl ?_
          exact ⟨by rw [hf.out]; rfl, rfl⟩
        · have hf : Hid (R = 0) := by show _ = _; rw [show R = _ from hR2.out, if_pos rfl, if_neg h24]
          have hn2 : ¬ (24 : Int) < ns.length := by omega
          clear hR2 h24
          refine go_ ?_
          refine Jc (H2.out) ?_
          refine go_ ?_
          refine Jm (by simp) (by simp only [Tryz.results106]; rfl) (by simp [resP, St.box?, PF.get, Jn, TyK.agg, *]; rfl) Nl ?_
          exact ⟨by rw [hf.out]; rfl, rfl⟩
def gotP (x : Tm × Int × Int) : PV := .agg [.d (.v (.int .i64 x.1.kind)), .d (.v (.int .i64 x.1.num)), .d (.sl (x.1.sub.map encD)), .d (.v (.int .i64 x.2.1)), .d (.v (.int .i64 x.2.2))]
def gotO (x : Tm × Option Int) : Tm × Int × Int := match x.2 with
 | none => (x.1, 0, 0)
 | some a => (zeT, a, 3)
theorem rscT_p (l : List En) : ∀ (t : Nd) (ns : List ByteArray), Qca t false = true → ns.length + hgT t ≤ 900 → PCalls Tryz.prog 107 [.d (.sl (l.map encD)), .d (.sl (ns.map encD)), aggD t] [] fun p s => p = gotP (gotO (scT l t ns)) ∧ s = [] := by
  refine Nd.ind ?_
  intro k a s n sub ih ns hg hh
  rcases ex_cases hg with ⟨rfl, rfl⟩ | ⟨rfl, rfl, h0, h7⟩ | ⟨x, y, hk, rfl, gx, gy⟩
  · rw [Qjj]
    have hP := Lib.hid (Qkw ns s)
    have hF := Lib.hid (rfindI_p l s)
    unfold Qgl
    have hpb := (Qhu ns s ns.length).2
    have hpb0 := (Qhu ns s ns.length).1
    generalize Qap ns s ns.length = pl at *
    have hl := Lib.hid (rleaf_p 1 ((ns.length : Int) - 1 - pl))
    simp only [aggD, Jh, List.map_cons, List.map_nil, Nd.kind, Nd.at, Nd.name, Nd.num, Nd.sub]
    have hnl : ns.length ≤ 900 := by omega
    clear ih hg hh
    by_cases h0 : 0 ≤ pl
    · rw [if_pos h0]
      unfold gotP gotO
      simp only [aggD, Jl, List.map_cons, List.map_nil, Jv, Jw, Jx] at hl ⊢
      have hw1 := wr64 (n := (ns.length : Int) - 1) (by omega) (by omega)
      have hw2 := wr64 (n := (ns.length : Int) - 1 - pl) (by omega) (by omega)
      clear hF
      refine PCalls.enter Tryz.func107 rfl Tryz.ntmps107 (by simp) ?_
      simp only [Qaa]
      refine go_ ?_
      refine Jd ?_
      intro i5 hi5
      try simp only [Ja, Rh, Rg, Jb] at hi5
      refine go_ ?_
      refine Je ?_
      intro i6 hi6
      try simp only [Ja, Rh, Rg, Jb] at hi6
      refine go_ ?_
      refine Jc (hP.out) ?_
      refine go_ ?_
      refine Jc (hl.out) ?_
      refine go_ ?_
      refine Rd ?_
      refine go_ ?_
      refine Jm (by simp) (by simp only [Tryz.results107]; rfl) (by simp [resP, St.box?, PF.get, Jn, TyK.agg, *]; rfl) Nl ?_
      exact ⟨by simp [tupP, PV.norm2, PV.norm1, PV.norm0], rfl⟩
    · rw [if_neg h0]
      clear hl
      cases hfd : Qdd s l 0 with
      | some c =>
        rw [hfd] at hF
        have hl := Lib.hid (rleaf_p 6 c)
        unfold gotP gotO
        unfold findI at hF
        simp only [aggD, Jl, List.map_cons, List.map_nil, Jv, Jw, Jx] at hl ⊢
        have hc0 : ¬ (c : Int) < 0 := by omega
        clear hfd
        refine PCalls.enter Tryz.func107 rfl Tryz.ntmps107 (by simp) ?_
        simp only [Qaa]
        refine go_ ?_
        refine Jd ?_
        intro i5 hi5
        try simp only [Ja, Rh, Rg, Jb] at hi5
        refine go_ ?_
        refine Je ?_
        intro i6 hi6
        try simp only [Ja, Rh, Rg, Jb] at hi6
        refine go_ ?_
        refine Jc (hP.out) ?_
        refine go_ ?_
        refine Jc (hF.out) ?_
        refine go_ ?_
        refine Jc (hl.out) ?_
        refine go_ ?_
        refine Rd ?_
        refine go_ ?_
        refine Jm (by simp) (by simp only [Tryz.results107]; rfl) (by simp [resP, St.box?, PF.get, Jn, TyK.agg, *]; rfl) Nl ?_
        exact ⟨by simp [tupP, PV.norm2, PV.norm1, PV.norm0], rfl⟩
      | none =>
        rw [hfd] at hF
        unfold gotP gotO zeT
        unfold findI at hF
        simp only [List.map_nil, Jv, Jw, Jx]
        clear hfd
        refine PCalls.enter Tryz.func107 rfl Tryz.ntmps107 (by simp) ?_
        simp only [Qaa]
        refine go_ ?_
        refine Jd ?_
        intro i5 hi5
        try simp only [Ja, Rh, Rg, Jb] at hi5
        refine go_ ?_
        refine Je ?_
        intro i6 hi6
        try simp only [Ja, Rh, Rg, Jb] at hi6
        refine go_ ?_
        refine Jc (hP.out) ?_
        refine go_ ?_
        refine Jc (hF.out) ?_
        refine go_ ?_
        refine Rd ?_
        refine go_ ?_
        refine Jm (by simp) (by simp only [Tryz.results107]; rfl) (by simp [resP, St.box?, PF.get, Jn, TyK.agg, *]; rfl) Nl ?_
        exact ⟨by simp [tupP, PV.norm2, PV.norm1, PV.norm0], rfl⟩
  · rw [sc_set]
    have hl := Lib.hid (rleaf_p 2 n)
    unfold gotP gotO
    simp only [aggD, Jh, Jl, List.map_cons, List.map_nil, Nd.kind, Nd.at, Nd.name, Nd.num, Nd.sub, Jv, Jw, Jx] at hl ⊢
    clear ih hg hh
    refine PCalls.enter Tryz.func107 rfl Tryz.ntmps107 (by simp) ?_
    simp only [Qaa]
    refine go_ ?_
    refine Jd ?_
    intro i5 hi5
    try simp only [Ja, Rh, Rg, Jb] at hi5
    refine go_ ?_
    refine Je ?_
    intro i6 hi6
    try simp only [Ja, Rh, Rg, Jb] at hi6
    refine go_ ?_
    refine Jc (hl.out) ?_
    refine go_ ?_
    refine Rd ?_
    refine go_ ?_
    refine Jm (by simp) (by simp only [Tryz.results107]; rfl) (by simp [resP, St.box?, PF.get, Jn, TyK.agg, *]; rfl) Nl ?_
    exact ⟨by simp [tupP, PV.norm2, PV.norm1, PV.norm0], rfl⟩
  · rw [sc_two hk]
    obtain ⟨q1, q2⟩ := hg_two k a n s x y
    have c1 := ih x (by simp) ns gx (by omega)
    have hinn : (innE k s ns).length ≤ ns.length + 1 := by
      unfold innE
      split
      · omega
      · rw [List.length_append, List.length_singleton]; omega
    have c2 := ih y (by simp) (innE k s ns) gy (by omega)
    have hA : ns.map encD ++ [[D.v (.string s)]] = (ns ++ [s]).map encD := by rw [List.map_append]; rfl
    have HA := Lib.hid hA
    have hlen : ns.length ≤ 900 := by omega
    clear ih hg hA hh q1 q2 hinn
    generalize scT l x ns = X at *
    generalize hY : scT l y (innE k s ns) = Y at *
    clear hY
    have H3 := Lib.hid (rtwo_p (kndE k) X.1 Y.1)
    have hx0 := Qdf k a n s [x, y]
    simp only [aggD, Jl, List.map_cons, List.map_nil, Jv, Jw, Jx] at H3
    rw [hx0]
    simp only [aggD, Jh, List.map_cons, List.map_nil] at c1 c2 ⊢
    have C1 := Lib.hid c1
    have C2 := Lib.hid c2
    clear c1 c2 hx0
    obtain ⟨X1, X2⟩ := X
    cases X2 with
    | some e =>
      simp only [Option.or] at *
      unfold gotP gotO at C1 ⊢
      unfold zeT at C1 ⊢
      simp only [List.map_nil, Jv, Jw, Jx] at C1 ⊢
      clear C2 H3 HA
      rcases hk with rfl | rfl | rfl
      all_goals
        refine PCalls.enter Tryz.func107 rfl Tryz.ntmps107 (by simp) ?_
        simp only [Qaa]
        refine go_ ?_
        refine Jd ?_
        intro i5 hi5
        try simp only [Ja, Rh, Rg, Jb] at hi5
        refine go_ ?_
        refine Je ?_
        intro i6 hi6
        try simp only [Ja, Rh, Rg, Jb] at hi6
        refine go_ ?_
        refine Jc (C1.out) ?_
        refine go_ ?_
        refine Je ?_
        intro i9 hi9
        try simp only [Ja, Rh, Rg, Jb] at hi9
        refine go_ ?_
        refine Rd ?_
        refine go_ ?_
        refine Rd ?_
        refine go_ ?_
        refine Jm (by simp) (by simp only [Tryz.results107]; rfl) (by simp [resP, St.box?, PF.get, Jn, TyK.agg, *]; rfl) Nl ?_
        exact ⟨by simp [tupP, PV.norm2, PV.norm1, PV.norm0], rfl⟩
    | none =>
      obtain ⟨Y1, Y2⟩ := Y
      simp only [Option.or] at *
      have HC2 : ∀ (k2 : Int), Hid (k2 = k) → True := fun _ _ => trivial
      clear HC2
      cases Y2 with
      | some e =>
        unfold gotP gotO at C1 C2 ⊢
        unfold zeT at C2 ⊢
        simp only [List.map_nil, Jv, Jw, Jx] at C1 C2 ⊢
        clear H3
        rcases hk with rfl | rfl | rfl
        · rw [show innE 3 s ns = ns ++ [s] from rfl, ← HA.out] at C2
          refine PCalls.enter Tryz.func107 rfl Tryz.ntmps107 (by simp) ?_
          simp only [Qaa]
          refine go_ ?_
          refine Jd ?_
          intro i5 hi5
          try simp only [Ja, Rh, Rg, Jb] at hi5
          refine go_ ?_
          refine Je ?_
          intro i6 hi6
          try simp only [Ja, Rh, Rg, Jb] at hi6
          refine go_ ?_
          refine Jc (C1.out) ?_
          refine go_ ?_
          refine Je ?_
          intro i9 hi9
          try simp only [Ja, Rh, Rg, Jb] at hi9
          refine go_ ?_
          refine Rd ?_
          refine go_ ?_
          refine Qba ?_ (by decide) (by first | (simp [nev, nevA, nevB, Jp, PF.eval, PF.get, PF.wants, cPV, Qad, PV.rows, Qae, evUn, Jq, Qag, Qaf, Jn, TyK.agg, Qac, St.box?, St.tok?, St.setBox, St.setTok, Qab, spl, PV.ps, PV.one, Jo, aggD, slD, Jh, Jk, Ji, Jj, Jg, Jf, *]; done) | fail) (by simp; rfl) (by rfl) (by simp; rfl) (by rfl) (by decide)
          intro g hg
          refine go_ ?_
          refine Qai ns.length ?_ ?_ ?_ ?_
          · simp
          · simp
          · exact Qal _
          refine go_ ?_
          refine Qam ?_
          refine go_ ?_
          refine Qai (ns.length + 1) ?_ ?_ ?_ ?_
          · simp
          · exact Qal _
          · exact Qau rfl
          rw [List.nil_append]
          refine go_ ?_
          refine Jc (C2.out) ?_
          refine go_ ?_
          refine Je ?_
          intro i12 hi12
          try simp only [Ja, Rh, Rg, Jb] at hi12
          refine go_ ?_
          refine Rd ?_
          refine go_ ?_
          refine Rd ?_
          refine go_ ?_
          refine Jm (by simp) (by simp only [Tryz.results107]; rfl) (by simp [resP, St.box?, PF.get, Jn, TyK.agg, *]; rfl) Nl ?_
          exact ⟨by simp [tupP, PV.norm2, PV.norm1, PV.norm0], rfl⟩
        · rw [show innE 4 s ns = ns ++ [s] from rfl, ← HA.out] at C2
          refine PCalls.enter Tryz.func107 rfl Tryz.ntmps107 (by simp) ?_
          simp only [Qaa]
          refine go_ ?_
          refine Jd ?_
          intro i5 hi5
          try simp only [Ja, Rh, Rg, Jb] at hi5
          refine go_ ?_
          refine Je ?_
          intro i6 hi6
          try simp only [Ja, Rh, Rg, Jb] at hi6
          refine go_ ?_
          refine Jc (C1.out) ?_
          refine go_ ?_
          refine Je ?_
          intro i9 hi9
          try simp only [Ja, Rh, Rg, Jb] at hi9
          refine go_ ?_
          refine Rd ?_
          refine go_ ?_
          refine Qba ?_ (by decide) (by first | (simp [nev, nevA, nevB, Jp, PF.eval, PF.get, PF.wants, cPV, Qad, PV.rows, Qae, evUn, Jq, Qag, Qaf, Jn, TyK.agg, Qac, St.box?, St.tok?, St.setBox, St.setTok, Qab, spl, PV.ps, PV.one, Jo, aggD, slD, Jh, Jk, Ji, Jj, Jg, Jf, *]; done) | fail) (by simp; rfl) (by rfl) (by simp; rfl) (by rfl) (by decide)
          intro g hg
          refine go_ ?_
          refine Qai ns.length ?_ ?_ ?_ ?_
          · simp
          · simp
          · exact Qal _
          refine go_ ?_
          refine Qam ?_
          refine go_ ?_
          refine Qai (ns.length + 1) ?_ ?_ ?_ ?_
          · simp
          · exact Qal _
          · exact Qau rfl
          rw [List.nil_append]
          refine go_ ?_
          refine Jc (C2.out) ?_
          refine go_ ?_
          refine Je ?_
          intro i12 hi12
          try simp only [Ja, Rh, Rg, Jb] at hi12
          refine go_ ?_
          refine Rd ?_
          refine go_ ?_
          refine Rd ?_
          refine go_ ?_
          refine Jm (by simp) (by simp only [Tryz.results107]; rfl) (by simp [resP, St.box?, PF.get, Jn, TyK.agg, *]; rfl) Nl ?_
          exact ⟨by simp [tupP, PV.norm2, PV.norm1, PV.norm0], rfl⟩
        · rw [show innE 5 s ns = ns from rfl] at C2
          refine PCalls.enter Tryz.func107 rfl Tryz.ntmps107 (by simp) ?_
          simp only [Qaa]
          refine go_ ?_
          refine Jd ?_
          intro i5 hi5
          try simp only [Ja, Rh, Rg, Jb] at hi5
          refine go_ ?_
          refine Je ?_
          intro i6 hi6
          try simp only [Ja, Rh, Rg, Jb] at hi6
          refine go_ ?_
          refine Jc (C1.out) ?_
          refine go_ ?_
          refine Je ?_
          intro i9 hi9
          try simp only [Ja, Rh, Rg, Jb] at hi9
          refine go_ ?_
          refine Rd ?_
          refine go_ ?_
          refine Qba ?_ (by decide) (by first | (simp [nev, nevA, nevB, Jp, PF.eval, PF.get, PF.wants, cPV, Qad, PV.rows, Qae, evUn, Jq, Qag, Qaf, Jn, TyK.agg, Qac, St.box?, St.tok?, St.setBox, St.setTok, Qab, spl, PV.ps, PV.one, Jo, aggD, slD, Jh, Jk, Ji, Jj, Jg, Jf, *]; done) | fail) (by simp; rfl) (by rfl) (by simp; rfl) (by rfl) (by decide)
          intro g hg
          refine go_ ?_
          refine Qai ns.length ?_ ?_ ?_ ?_
          · simp
          · simp
          · exact Qal _
          rw [List.nil_append]
          refine go_ ?_
          refine Jc (C2.out) ?_
          refine go_ ?_
          refine Je ?_
          intro i12 hi12
          try simp only [Ja, Rh, Rg, Jb] at hi12
          refine go_ ?_
          refine Rd ?_
          refine go_ ?_
          refine Rd ?_
          refine go_ ?_
          refine Jm (by simp) (by simp only [Tryz.results107]; rfl) (by simp [resP, St.box?, PF.get, Jn, TyK.agg, *]; rfl) Nl ?_
          exact ⟨by simp [tupP, PV.norm2, PV.norm1, PV.norm0], rfl⟩
      | none =>
        unfold gotP gotO at C1 C2 ⊢
        simp only [List.map_nil, Jv, Jw, Jx] at C1 C2 H3 ⊢
        simp only [List.map_cons, List.map_nil, Jl] at H3 ⊢
        rcases hk with rfl | rfl | rfl
        · rw [show innE 3 s ns = ns ++ [s] from rfl, ← HA.out] at C2
          rw [show kndE 3 = 3 from rfl] at H3 ⊢
          refine PCalls.enter Tryz.func107 rfl Tryz.ntmps107 (by simp) ?_
          simp only [Qaa]
          refine go_ ?_
          refine Jd ?_
          intro i5 hi5
          try simp only [Ja, Rh, Rg, Jb] at hi5
          refine go_ ?_
          refine Je ?_
          intro i6 hi6
          try simp only [Ja, Rh, Rg, Jb] at hi6
          refine go_ ?_
          refine Jc (C1.out) ?_
          refine go_ ?_
          refine Je ?_
          intro i9 hi9
          try simp only [Ja, Rh, Rg, Jb] at hi9
          refine go_ ?_
          refine Rd ?_
          refine go_ ?_
          refine Qba ?_ (by decide) (by first | (simp [nev, nevA, nevB, Jp, PF.eval, PF.get, PF.wants, cPV, Qad, PV.rows, Qae, evUn, Jq, Qag, Qaf, Jn, TyK.agg, Qac, St.box?, St.tok?, St.setBox, St.setTok, Qab, spl, PV.ps, PV.one, Jo, aggD, slD, Jh, Jk, Ji, Jj, Jg, Jf, *]; done) | fail) (by simp; rfl) (by rfl) (by simp; rfl) (by rfl) (by decide)
          intro g hg
          refine go_ ?_
          refine Qai ns.length ?_ ?_ ?_ ?_
          · simp
          · simp
          · exact Qal _
          refine go_ ?_
          refine Qam ?_
          refine go_ ?_
          refine Qai (ns.length + 1) ?_ ?_ ?_ ?_
          · simp
          · exact Qal _
          · exact Qau rfl
          rw [List.nil_append]
          refine go_ ?_
          refine Jc (C2.out) ?_
          refine go_ ?_
          refine Je ?_
          intro i12 hi12
          try simp only [Ja, Rh, Rg, Jb] at hi12
          refine go_ ?_
          refine Rd ?_
          refine go_ ?_
          refine Jc (H3.out) ?_
          refine go_ ?_
          refine Rd ?_
          refine go_ ?_
          refine Jm (by simp) (by simp only [Tryz.results107]; rfl) (by simp [resP, St.box?, PF.get, Jn, TyK.agg, *]; rfl) Nl ?_
          exact ⟨by simp [tupP, PV.norm2, PV.norm1, PV.norm0], rfl⟩
        · rw [show innE 4 s ns = ns ++ [s] from rfl, ← HA.out] at C2
          rw [show kndE 4 = 4 from rfl] at H3 ⊢
          refine PCalls.enter Tryz.func107 rfl Tryz.ntmps107 (by simp) ?_
          simp only [Qaa]
          refine go_ ?_
          refine Jd ?_
          intro i5 hi5
          try simp only [Ja, Rh, Rg, Jb] at hi5
          refine go_ ?_
          refine Je ?_
          intro i6 hi6
          try simp only [Ja, Rh, Rg, Jb] at hi6
          refine go_ ?_
          refine Jc (C1.out) ?_
          refine go_ ?_
          refine Je ?_
          intro i9 hi9
          try simp only [Ja, Rh, Rg, Jb] at hi9
          refine go_ ?_
          refine Rd ?_
          refine go_ ?_
          refine Qba ?_ (by decide) (by first | (simp [nev, nevA, nevB, Jp, PF.eval, PF.get, PF.wants, cPV, Qad, PV.rows, Qae, evUn, Jq, Qag, Qaf, Jn, TyK.agg, Qac, St.box?, St.tok?, St.setBox, St.setTok, Qab, spl, PV.ps, PV.one, Jo, aggD, slD, Jh, Jk, Ji, Jj, Jg, Jf, *]; done) | fail) (by simp; rfl) (by rfl) (by simp; rfl) (by rfl) (by decide)
          intro g hg
          refine go_ ?_
          refine Qai ns.length ?_ ?_ ?_ ?_
          · simp
          · simp
          · exact Qal _
          refine go_ ?_
          refine Qam ?_
          refine go_ ?_
          refine Qai (ns.length + 1) ?_ ?_ ?_ ?_
          · simp
          · exact Qal _
          · exact Qau rfl
          rw [List.nil_append]
          refine go_ ?_
          refine Jc (C2.out) ?_
          refine go_ ?_
          refine Je ?_
          intro i12 hi12
          try simp only [Ja, Rh, Rg, Jb] at hi12
          refine go_ ?_
          refine Rd ?_
          refine go_ ?_
          refine Jc (H3.out) ?_
          refine go_ ?_
          refine Rd ?_
          refine go_ ?_
          refine Jm (by simp) (by simp only [Tryz.results107]; rfl) (by simp [resP, St.box?, PF.get, Jn, TyK.agg, *]; rfl) Nl ?_
          exact ⟨by simp [tupP, PV.norm2, PV.norm1, PV.norm0], rfl⟩
        · rw [show innE 5 s ns = ns from rfl] at C2
          rw [show kndE 5 = 5 from rfl] at H3 ⊢
          refine PCalls.enter Tryz.func107 rfl Tryz.ntmps107 (by simp) ?_
          simp only [Qaa]
          refine go_ ?_
          refine Jd ?_
          intro i5 hi5
          try simp only [Ja, Rh, Rg, Jb] at hi5
          refine go_ ?_
          refine Je ?_
          intro i6 hi6
          try simp only [Ja, Rh, Rg, Jb] at hi6
          refine go_ ?_
          refine Jc (C1.out) ?_
          refine go_ ?_
          refine Je ?_
          intro i9 hi9
          try simp only [Ja, Rh, Rg, Jb] at hi9
          refine go_ ?_
          refine Rd ?_
          refine go_ ?_
          refine Qba ?_ (by decide) (by first | (simp [nev, nevA, nevB, Jp, PF.eval, PF.get, PF.wants, cPV, Qad, PV.rows, Qae, evUn, Jq, Qag, Qaf, Jn, TyK.agg, Qac, St.box?, St.tok?, St.setBox, St.setTok, Qab, spl, PV.ps, PV.one, Jo, aggD, slD, Jh, Jk, Ji, Jj, Jg, Jf, *]; done) | fail) (by simp; rfl) (by rfl) (by simp; rfl) (by rfl) (by decide)
          intro g hg
          refine go_ ?_
          refine Qai ns.length ?_ ?_ ?_ ?_
          · simp
          · simp
          · exact Qal _
          rw [List.nil_append]
          refine go_ ?_
          refine Jc (C2.out) ?_
          refine go_ ?_
          refine Je ?_
          intro i12 hi12
          try simp only [Ja, Rh, Rg, Jb] at hi12
          refine go_ ?_
          refine Rd ?_
          refine go_ ?_
          refine Jc (H3.out) ?_
          refine go_ ?_
          refine Rd ?_
          refine go_ ?_
          refine Jm (by simp) (by simp only [Tryz.results107]; rfl) (by simp [resP, St.box?, PF.get, Jn, TyK.agg, *]; rfl) Nl ?_
          exact ⟨by simp [tupP, PV.norm2, PV.norm1, PV.norm0], rfl⟩
theorem rsTerm_p (l : List En) (ns : List ByteArray) (t : Nd) (ho : ∀ e ∈ l, EnOk e) : PCalls Tryz.prog 53 [.d (.sl (l.map encD)), .d (.sl (ns.map encD)), aggD t] [] fun p s => p = gotP (stA l ns t) ∧ s = [] := by
  have hE := Lib.hid (rexpr_p t)
  have hC := Lib.hid (rchk_p l ns ho)
  have hT := fun (h1 : Qdj t = true) (h2 : chkE l ns = 0) => rscT_p l t ns (exB_good h1) (by have := exB_hg h1; have := (Qjf h2).1; omega)
  have hS := Lib.hid (Qiy (scT l t ns).1)
  obtain ⟨R, hR⟩ : ∃ R, R = stA l ns t := ⟨_, rfl⟩
  rw [← hR]
  unfold stA at hR
  have HR := Lib.hid hR
  have HT := Lib.hid hT
  clear hR hT ho
  generalize Qdj t = ex at *
  generalize chkE l ns = ck at *
  generalize scT l t ns = X at *
  generalize Qak X.1 = sh at *
  simp only [aggD, Jh, Jl, List.map_cons, List.map_nil] at hE HT hS ⊢
  cases ex with
  | false =>
    have hf : Hid (R = (zeT, 0, 5)) := HR.out
    rw [hf.out]
    unfold zeT gotP
    simp only [List.map_nil, Jv, Jw, Jx]
    clear HR hf HT hS hC
    refine PCalls.enter Tryz.func53 rfl Tryz.ntmps53 (by simp) ?_
    simp only [Qaa]
    refine go_ ?_
    refine Jd ?_
    intro i5 hi5
    try simp only [Ja, Rh, Rg, Jb] at hi5
    refine go_ ?_
    refine Je ?_
    intro i6 hi6
    try simp only [Ja, Rh, Rg, Jb] at hi6
    refine go_ ?_
    refine Jc (hE.out) ?_
    refine go_ ?_
    refine Rd ?_
    refine go_ ?_
    refine Jm (by simp) (by simp only [Tryz.results53]; rfl) (by simp [resP, St.box?, PF.get, Jn, TyK.agg, *]; rfl) Nl ?_
    exact ⟨by simp [tupP, PV.norm2, PV.norm1, PV.norm0], rfl⟩
  | true =>
  by_cases hck : ck = 0
  rotate_left
  · have hf : Hid (R = (zeT, 0, ck)) := by show _ = _; rw [show R = _ from HR.out, if_pos rfl, if_neg hck]
    rw [hf.out]
    unfold zeT gotP
    simp only [List.map_nil, Jv, Jw, Jx]
    clear HR hf HT hS
    refine PCalls.enter Tryz.func53 rfl Tryz.ntmps53 (by simp) ?_
    simp only [Qaa]
    refine go_ ?_
    refine Jd ?_
    intro i5 hi5
    try simp only [Ja, Rh, Rg, Jb] at hi5
    refine go_ ?_
    refine Je ?_
    intro i6 hi6
    try simp only [Ja, Rh, Rg, Jb] at hi6
    refine go_ ?_
    refine Jc (hE.out) ?_
    refine go_ ?_
    refine Jc (hC.out) ?_
    refine go_ ?_
    refine Rd ?_
    refine go_ ?_
    refine Jm (by simp) (by simp only [Tryz.results53]; rfl) (by simp [resP, St.box?, PF.get, Jn, TyK.agg, *]; rfl) Nl ?_
    exact ⟨by simp [tupP, PV.norm2, PV.norm1, PV.norm0], rfl⟩
  subst hck
  have hTT := HT.out rfl rfl
  clear HT
  obtain ⟨T, o⟩ := X
  simp only at hTT hS HR
  cases o with
  | some a =>
    have hf : Hid (R = (zeT, a, 3)) := by show _ = _; rw [show R = _ from HR.out]; rfl
    rw [hf.out]
    have HT := Lib.hid hTT
    unfold gotO at HT
    unfold zeT gotP at HT ⊢
    simp only [List.map_nil, Jv, Jw, Jx] at HT ⊢
    clear HR hf hS hTT
    refine PCalls.enter Tryz.func53 rfl Tryz.ntmps53 (by simp) ?_
    simp only [Qaa]
    refine go_ ?_
    refine Jd ?_
    intro i5 hi5
    try simp only [Ja, Rh, Rg, Jb] at hi5
    refine go_ ?_
    refine Je ?_
    intro i6 hi6
    try simp only [Ja, Rh, Rg, Jb] at hi6
    refine go_ ?_
    refine Jc (hE.out) ?_
    refine go_ ?_
    refine Jc (hC.out) ?_
    refine go_ ?_
    refine Jc (HT.out) ?_
    refine go_ ?_
    refine Je ?_
    intro i8 hi8
    try simp only [Ja, Rh, Rg, Jb] at hi8
    refine go_ ?_
    refine Rd ?_
    refine go_ ?_
    refine Rd ?_
    refine go_ ?_
    refine Jm (by simp) (by simp only [Tryz.results53]; rfl) (by simp [resP, St.box?, PF.get, Jn, TyK.agg, *]; rfl) Nl ?_
    exact ⟨by simp [tupP, PV.norm2, PV.norm1, PV.norm0], rfl⟩
  | none =>
    have HT := Lib.hid hTT
    unfold gotO gotP at HT
    simp only at HT
    clear hTT
    cases sh with
    | false =>
      have hf : Hid (R = (zeT, 0, 2)) := by show _ = _; rw [show R = _ from HR.out]; rfl
      rw [hf.out]
      unfold zeT gotP
      simp only [List.map_nil, Jv, Jw, Jx]
      clear HR hf
      refine PCalls.enter Tryz.func53 rfl Tryz.ntmps53 (by simp) ?_
      simp only [Qaa]
      refine go_ ?_
      refine Jd ?_
      intro i5 hi5
      try simp only [Ja, Rh, Rg, Jb] at hi5
      refine go_ ?_
      refine Je ?_
      intro i6 hi6
      try simp only [Ja, Rh, Rg, Jb] at hi6
      refine go_ ?_
      refine Jc (hE.out) ?_
      refine go_ ?_
      refine Jc (hC.out) ?_
      refine go_ ?_
      refine Jc (HT.out) ?_
      refine go_ ?_
      refine Je ?_
      intro i8 hi8
      try simp only [Ja, Rh, Rg, Jb] at hi8
      refine go_ ?_
      refine Rd ?_
      refine go_ ?_
      refine Jr (hS.out) ?_
      refine go_ ?_
      refine Rd ?_
      refine go_ ?_
      refine Jm (by simp) (by simp only [Tryz.results53]; rfl) (by simp [resP, St.box?, PF.get, Jn, TyK.agg, *]; rfl) Nl ?_
      exact ⟨by simp [tupP, PV.norm2, PV.norm1, PV.norm0], rfl⟩
    | true =>
      have hf : Hid (R = (T, 0, 0)) := by show _ = _; rw [show R = _ from HR.out]; rfl
      rw [hf.out]
      unfold gotP
      clear HR hf
      refine PCalls.enter Tryz.func53 rfl Tryz.ntmps53 (by simp) ?_
      simp only [Qaa]
      refine go_ ?_
      refine Jd ?_
      intro i5 hi5
      try simp only [Ja, Rh, Rg, Jb] at hi5
      refine go_ ?_
      refine Je ?_
      intro i6 hi6
      try simp only [Ja, Rh, Rg, Jb] at hi6
      refine go_ ?_
      refine Jc (hE.out) ?_
      refine go_ ?_
      refine Jc (hC.out) ?_
      refine go_ ?_
      refine Jc (HT.out) ?_
      refine go_ ?_
      refine Je ?_
      intro i8 hi8
      try simp only [Ja, Rh, Rg, Jb] at hi8
      refine go_ ?_
      refine Rd ?_
      refine go_ ?_
      refine Jr (hS.out) ?_
      refine go_ ?_
      refine Rd ?_
      refine go_ ?_
      refine Jm (by simp) (by simp only [Tryz.results53]; rfl) (by simp [resP, St.box?, PF.get, Jn, TyK.agg, *]; rfl) Nl ?_
      exact ⟨by simp [tupP, PV.norm2, PV.norm1, PV.norm0], rfl⟩
theorem slight_p (l : List En) (ns : List ByteArray) : PCalls Tryz.prog 50 [.d (.sl (l.map encD)), .d (.sl (ns.map encD))] [] fun p s => p = .d (.v (.bool (decide (l.length ≤ 60 ∧ ns.length ≤ 40)))) ∧ s = [] := by
 by_cases h1 : (l.length : Int) ≤ 60
 ·by_cases h2 : (ns.length : Int) ≤ 40
  ·rw [decide_eq_true (by omega)]
   refine PCalls.enter Tryz.func50 rfl Tryz.ntmps50 (by simp) ?_
   simp only [Qaa]
   refine go_ ?_
   refine Jm (by simp) (by simp only [Tryz.results50]; rfl) (by simp [resP, St.box?, PF.get, Jn, TyK.agg, *]; rfl) Nl ?_
   exact ⟨by simp [tupP, PV.norm2, PV.norm1, PV.norm0, *], rfl⟩
  ·rw [decide_eq_false (by omega)]
   refine PCalls.enter Tryz.func50 rfl Tryz.ntmps50 (by simp) ?_
   simp only [Qaa]
   refine go_ ?_
   refine Jm (by simp) (by simp only [Tryz.results50]; rfl) (by simp [resP, St.box?, PF.get, Jn, TyK.agg, *]; rfl) Nl ?_
   exact ⟨by simp [tupP, PV.norm2, PV.norm1, PV.norm0, *], rfl⟩
 ·rw [decide_eq_false (by omega)]
  refine PCalls.enter Tryz.func50 rfl Tryz.ntmps50 (by simp) ?_
  simp only [Qaa]
  refine go_ ?_
  refine Jm (by simp) (by simp only [Tryz.results50]; rfl) (by simp [resP, St.box?, PF.get, Jn, TyK.agg, *]; rfl) Nl ?_
  exact ⟨by simp [tupP, PV.norm2, PV.norm1, PV.norm0, *], rfl⟩
def fS : ByteArray := ⟨#[102]⟩
def fNd : Nd := .mk 1 0 fS 0 []
theorem formed_nil : formedB [] = true := by
 unfold formedB
 have : distB (nms []) = true := by
  rw [dist_iff]
  intro i j hij hj
  exact absurd hj (by simp [nms])
 rw [this]; rfl
theorem aw18_st : stA [] [fS] fNd = (.mk 1 0 [], 0, 0) := by
 have h1 : Qdj fNd = true := by decide +kernel
 have h2 : chkE [] [fS] = 0 := by
  unfold chkE
  rw [formed_nil, show ([fS].all namB) = true by decide +kernel]; rfl
 have h3 : scT [] fNd [fS] = (.mk 1 0 [], none) := by
  unfold fNd
  rw [Qjj]
  unfold Qgl
  rw [show Qap [fS] fS ([fS] : List ByteArray).length = 0 by decide +kernel]
  rfl
 unfold stA
 rw [if_pos h1, if_pos h2, h3]
 simp only
 rw [if_pos (show Qak (.mk 1 0 []) = true by decide +kernel)]
theorem staken_p : PCalls Tryz.prog 101 [.d (.sl []), .d (.sl [[.v (.string fS)]]), .d (.v (.string fS))] [] fun p s => p = .d (.v (.bool true)) ∧ s = [] := by
 have h1 := Lib.hid (sfind_p [] fS)
 rw [show Qdd fS [] 0 = none from rfl] at h1
 have h2 := Lib.hid (nplace_p [fS] fS)
 rw [show Qap [fS] fS ([fS] : List ByteArray).length = 0 by decide +kernel] at h2
 unfold findP at h1
 simp only [List.map_nil, List.map_cons, Jg] at h1 h2
 unfold fS at *
 refine PCalls.enter Tryz.func101 rfl Tryz.ntmps101 (by simp) ?_
 simp only [Qaa]
 refine go_ ?_
 refine Jc (h1.out) ?_
 refine go_ ?_
 refine Jr (h2.out) ?_
 refine go_ ?_
 refine Jm (by simp) (by simp only [Tryz.results101]; rfl) (by simp [resP, St.box?, PF.get, Jn, TyK.agg, *]; rfl) Nl ?_
 exact ⟨by simp [tupP, PV.norm2, PV.norm1, PV.norm0, *], rfl⟩
theorem Qkn : PCalls Tryz.prog 51 [] [] fun p s => p = .d (.v (.bool true)) ∧ s = [] := by
 have h1 := sTerm_p [] [fS] fNd (by simp)
 rw [aw18_st] at h1
 unfold fNd stP at h1
 rw [Qdf] at h1
 simp only [aggD, Jl, List.map_nil, List.map_cons, Jg, Jv, Jw, Jx] at h1
 have h2 := staken_p
 unfold fS at h1 h2
 have H1 := Lib.hid h1
 have H2 := Lib.hid h2
 clear h1 h2
 refine PCalls.enter Tryz.func51 rfl Tryz.ntmps51 (by simp) ?_
 simp only [Qaa]
 refine go_ ?_
 refine Qam ?_
 refine go_ ?_
 refine Jc (H1.out) ?_
 refine go_ ?_
 refine Je ?_
 intro i1 hi1
 refine go_ ?_
 refine Rd ?_
 refine go_ ?_
 refine Qam ?_ (hw := by simp [PF.wants, PF.get, cPV, Qad, *])
 refine go_ ?_
 refine Jr (H2.out) ?_
 refine go_ ?_
 refine Jm (by simp) (by simp only [Tryz.results51]; rfl) (by simp [resP, St.box?, PF.get, Jn, TyK.agg, *]; rfl) Nl ?_
 exact ⟨by simp [tupP, PV.norm2, PV.norm1, PV.norm0, *], rfl⟩
theorem scopeTerms_p (l : List En) (ns : List ByteArray) (t : Nd) (ho : ∀ e ∈ l, EnOk e) : PCalls Tryz.prog 9 [.d (.sl (l.map encD)), .d (.sl (ns.map encD)), aggD t] [] fun p s => p = .d (.v (.bool true)) ∧ s = [] := by
  have hO := of18_p t
  have hL := Lib.hid (slight_p l ns)
  have hA := Lib.hid Qkn
  have h1 := sTerm_p l ns t ho
  have h2 := rsTerm_p l ns t ho
  have hQ := requal_p (stA l ns t).1 (stA l ns t).1
  rw [ceq_refl] at hQ
  have hsame := fun h : okN18 t = true => (ok18_same h).1
  generalize hlt : decide (l.length ≤ 60 ∧ ns.length ≤ 40) = lt at *
  cases hok : okN18 t with
  | false =>
    rw [hok] at hO
    generalize (budT t 600).1 = u at *
    simp only [aggD, Jh, List.map_cons, List.map_nil] at hO ⊢
    have HO := Lib.hid hO
    clear hO h1 h2 hQ hsame hlt hok ho
    cases lt with
    | true =>
      refine PCalls.enter Tryz.func9 rfl Tryz.ntmps9 (by simp) ?_
      simp only [Qaa]
      refine go_ ?_
      refine Jd ?_
      intro i5 hi5
      try simp only [Ja, Rh, Rg, Jb] at hi5
      refine go_ ?_
      refine Jc (HO.out) ?_
      refine go_ ?_
      refine Je ?_
      intro i7 hi7
      try simp only [Ja, Rh, Rg, Jb] at hi7
      refine go_ ?_
      refine Rd ?_
      refine go_ ?_
      refine Jc (hL.out) ?_
      refine go_ ?_
      refine Jc (hA.out) ?_
      refine go_ ?_
      refine Jm (by simp) (by simp only [Tryz.results9]; rfl) (by simp [resP, St.box?, PF.get, Jn, TyK.agg, *]; rfl) Nl ?_
      exact ⟨rfl, rfl⟩
    | false =>
      refine PCalls.enter Tryz.func9 rfl Tryz.ntmps9 (by simp) ?_
      simp only [Qaa]
      refine go_ ?_
      refine Jd ?_
      intro i5 hi5
      try simp only [Ja, Rh, Rg, Jb] at hi5
      refine go_ ?_
      refine Jc (HO.out) ?_
      refine go_ ?_
      refine Je ?_
      intro i7 hi7
      try simp only [Ja, Rh, Rg, Jb] at hi7
      refine go_ ?_
      refine Rd ?_
      refine go_ ?_
      refine Jc (hL.out) ?_
      refine go_ ?_
      refine Jc (hA.out) ?_
      refine go_ ?_
      refine Jm (by simp) (by simp only [Tryz.results9]; rfl) (by simp [resP, St.box?, PF.get, Jn, TyK.agg, *]; rfl) Nl ?_
      exact ⟨rfl, rfl⟩
  | true =>
    rw [hsame hok, hok] at hO
    generalize stA l ns t = X at *
    obtain ⟨T, a, e⟩ := X
    unfold stP at h1
    unfold gotP at h2
    simp only [aggD, Jh, Jl, List.map_cons, List.map_nil] at hO h1 h2 hQ ⊢
    have HO := Lib.hid hO
    have H1 := Lib.hid h1
    have H2 := Lib.hid h2
    have HQ := Lib.hid hQ
    clear hO h1 h2 hQ hsame hlt hok ho
    cases lt with
    | false =>
      refine PCalls.enter Tryz.func9 rfl Tryz.ntmps9 (by simp) ?_
      simp only [Qaa]
      refine go_ ?_
      refine Jd ?_
      intro i5 hi5
      try simp only [Ja, Rh, Rg, Jb] at hi5
      refine go_ ?_
      refine Jc (HO.out) ?_
      refine go_ ?_
      refine Je ?_
      intro i7 hi7
      try simp only [Ja, Rh, Rg, Jb] at hi7
      refine go_ ?_
      refine Rd ?_
      refine go_ ?_
      refine Jc (hL.out) ?_
      refine go_ ?_
      refine Jc (hA.out) ?_
      refine go_ ?_
      refine Jm (by simp) (by simp only [Tryz.results9]; rfl) (by simp [resP, St.box?, PF.get, Jn, TyK.agg, *]; rfl) Nl ?_
      exact ⟨rfl, rfl⟩
    | true =>
      refine PCalls.enter Tryz.func9 rfl Tryz.ntmps9 (by simp) ?_
      simp only [Qaa]
      refine go_ ?_
      refine Jd ?_
      intro i5 hi5
      try simp only [Ja, Rh, Rg, Jb] at hi5
      refine go_ ?_
      refine Jc (HO.out) ?_
      refine go_ ?_
      refine Je ?_
      intro i7 hi7
      try simp only [Ja, Rh, Rg, Jb] at hi7
      refine go_ ?_
      refine Rd ?_
      refine go_ ?_
      refine Jc (hL.out) ?_
      refine go_ ?_
      refine Jc (H1.out) ?_
      refine go_ ?_
      refine Je ?_
      intro i9 hi9
      try simp only [Ja, Rh, Rg, Jb] at hi9
      refine go_ ?_
      refine Rd ?_
      refine go_ ?_
      refine Jc (H2.out) ?_
      refine go_ ?_
      refine Je ?_
      intro i12 hi12
      try simp only [Ja, Rh, Rg, Jb] at hi12
      refine go_ ?_
      refine Rd ?_
      refine go_ ?_
      refine Jr (HQ.out) ?_
      refine go_ ?_
      refine Jr (hA.out) ?_
      refine go_ ?_
      refine Jm (by simp) (by simp only [Tryz.results9]; rfl) (by simp [resP, St.box?, PF.get, Jn, TyK.agg, *]; rfl) Nl ?_
      exact ⟨by simp [tupP, PV.norm2, PV.norm1, PV.norm0], rfl⟩
section
variable {H : Type} {enc : TypeId × Value → H} {w : World} {base : Nat} {spare : Nat → Bool} {held : Bool}
def StS (w : World) (v : Value) (l : List ByteArray) : Prop := RepS (fun _ => True) w v l
theorem open_sts {n : Nat} {cs : List Value} {x : DataW H × List MemPlace} (h : DataW.trod enc Tryz.prog w base spare held n 69 cs = some x) (hw : Wl Tryz.prog 69 x.1) : ∃ (a : Option Addr) (len cap : Nat) (ts : List ByteArray), cs = [.slice a len cap] ∧ StS w (.slice a len cap) ts := by
 obtain ⟨v, l, rfl, hl, hok, _⟩ := Qhx (α := ByteArray) (Ok := fun _ => True) Tryz.underlying69 (by kernel_rfl) (by decide) (fun m' _ => (OpnAt.toB fun cs x h => by
  obtain ⟨s, hs⟩ := opn_str (by kernel_rfl) m' cs x h
  exact ⟨s, hs⟩)) h hw
 obtain ⟨a, c, rfl, _⟩ := hl.shape
 exact ⟨a, _, c, l, rfl, hl⟩
end
theorem scopeTerms_walk (v : Value) (l : List En) (v2 : Value) (ns : List ByteArray) (t : Nd) (cs : List Value) (w : World) (h : EnS w v l) (h2 : StS w v2 ns) (h3 : NdC w t cs) : Calls Tryz.prog 9 #[v, v2, .agg cs.toArray] w fun e w' => e = .returned (.bool true) ∧ Below w.heap.size w w' := by
 refine PCalls.top ((scopeTerms_p l ns t h.2).mono fun p s hp => hp.1) ?_
 refine Qbr (.d (Qib (fun b o v _ hv => ⟨v, hv⟩) (by decide) h.1)) (Qbr (.d (Qib (fun b o v _ hv => ⟨v, hv⟩) (by decide) h2)) (Qbr (Qjh (K := K0 w) (fun b o v _ h => ⟨v, h⟩) (NdC.toR t cs h3)) (Qey _ _)))
end Go.Proofs.YtdklpbefbamchaaGreat
