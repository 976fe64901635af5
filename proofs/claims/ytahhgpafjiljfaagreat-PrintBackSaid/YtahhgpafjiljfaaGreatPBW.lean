import Derived.Test.YtahhgpafjiljfaaGreatPBV
import Derived.Test.YtahhgpafjiljfaaGreatPT7
import Derived.Test.YtahhgpafjiljfaaGreatPBU
import Derived.Test.YtahhgpafjiljfaaGreatPT27
import Derived.Test.YtahhgpafjiljfaaGreatPT35
import Derived.Test.YtahhgpafjiljfaaGreatPBA3
set_option linter.unusedSimpArgs false
set_option linter.unusedVariables false
set_option maxHeartbeats 16000000
set_option maxRecDepth 100000
namespace Go.Proofs.YtahhgpafjiljfaaGreat
open Go.RowKit
section
variable {P : Program} {n : Nat} {ops : Array Oper} {Q : PF → St → Prop} {rest : List Oper} {fr : PF} {st : St} {t rt ty : TypeId} {x y : Operand} {pos : String} {after : Array Edge} {gd : Option (Nat × Bool)} {d j : Nat} {od : List (Nat × Kd)}
theorem POps_callV {fo : Operand} {f : FuncId} {xs : Array Operand} {ts : Array TypeId} {ps qs : List PV} {r : PV} (hc : PCalls P f qs [] fun p s => p = r ∧ s = []) (hd : d < n) (hw : PF.wants fr ops ⟨some d, .call { callee := .value fo, args := xs, argTypes := ts }, ty, pos, after, gd⟩ = some true) (hf : fr.eval fo = some (.fn (.func f) [] [])) (hxs : Jn fr.eval xs.toList = some ps) (hn : ps.map PV.norm1 = qs) (hca : Qap P f = true)
  (h : POps P n ops Q rest ((d, r) :: fr) st) : POps P n ops Q (⟨some d, .call { callee := .value fo, args := xs, argTypes := ts }, ty, pos, after, gd⟩ :: rest) fr st := by
 refine Qdv hd hw (Qfi (st0 := []) (st1 := st) (first := []) (cap := []) rfl hf hxs hca (List.Perm.refl _) (R0 := fun p s => p = r ∧ s = []) ?_ ?_)
 ·simp only [List.nil_append, List.append_nil]
  subst hn
  exact hc.args_norm
 ·rintro p s0 ⟨rfl, rfl⟩
  exact h
end
theorem namew_p (s : ByteArray) : PCalls Tryz.prog 31 [.d (.v (.string s))] [] fun p st => p = aggD (Nd.mk 1 0 s 0 []) ∧ st = [] := by
 refine pG Tryz.func31 Tryz.ntmps31 ?_
 refine Jd ?_
 intro i0 hi0
 refine go_ ?_
 refine Qaa ?_
 refine rT Tryz.results31 ?_
 exact ⟨rfl, rfl⟩
theorem arrow_p (a b : Nd) : PCalls Tryz.prog 30 [aggD a, aggD b] [] fun p st => p = aggD (Nd.mk 3 0 ⟨#[95]⟩ 0 [a, b]) ∧ st = [] := by
 have hE := Qdi 3 0 0 ⟨#[95]⟩ [a, b]
 simp only [List.map_cons, List.map_nil, Jg a, Jg b] at hE
 simp only [aggD, Jg a, Jg b, List.map_cons, List.map_nil]
 refine pG Tryz.func30 Tryz.ntmps30 ?_
 refine Jc ?_
 intro i0 hi0
 refine Jc ?_
 intro i1 hi1
 simp only [Rh, Rg] at hi1
 refine Jd ?_
 intro i2 hi2
 simp only [Rh, Rg] at hi2
 refine go_ ?_
 refine Qkr ?_
 refine Qaa ?_
 refine rT Tryz.results30 ?_
 refine ⟨?_, rfl⟩
 rw [hE]
 rfl
def aw6 : Nd := .mk 3 0 ⟨#[95]⟩ 0 [.mk 3 0 ⟨#[95]⟩ 0 [.mk 1 0 ⟨#[65]⟩ 0 [], .mk 1 0 ⟨#[66]⟩ 0 []], .mk 1 0 ⟨#[67]⟩ 0 []]
theorem aw_text : exprR aw6 = .tup [.d (.v (.string ⟨#[40, 65, 32, 45, 62, 32, 66, 41, 32, 45, 62, 32, 67]⟩)), .d (.v (.int .i64 0))] := by
 have h1 : Qbt aw6 = true := by decide +kernel
 have h2 : exL aw6 0 = [40, 65, 32, 45, 62, 32, 66, 41, 32, 45, 62, 32, 67] := by
  unfold aw6 exL
  rw [Qjy _ _ _ _ _ _ rfl rfl]
  unfold exL
  rw [Qjy _ _ _ _ _ _ rfl rfl]
  unfold exL
  simp only [Qlc _ _ _ _ rfl]
  simp [par, Qgb, Nd.kind]
 unfold exprR
 rw [if_pos h1, h2]
 rfl
theorem num_aw : numS (-10) = ⟨#[45, 49, 48]⟩ := by
 rw [numS, if_pos (by omega)]
 unfold decS
 rw [show (-10 : Int).natAbs = 10 from rfl, Qit 10 (by omega), Qgp (10 / 10) (by omega)]
 rfl
theorem Qcu : PCalls Tryz.prog 12 [] [] fun p st => p = .d (.v (.bool true)) ∧ st = [] := by
 have hN := pexpr_p aw6
 rw [aw_text] at hN
 unfold aw6 at hN
 have hP := pnum_p (-10) (by omega) (by omega)
 rw [num_aw] at hP
 refine pG Tryz.func12 Tryz.ntmps12 ?_
 refine Qah (namew_p ⟨#[65]⟩) ?_
 refine Qah (namew_p ⟨#[66]⟩) ?_
 refine POps_callV (arrow_p (.mk 1 0 ⟨#[65]⟩ 0 []) (.mk 1 0 ⟨#[66]⟩ 0 [])) (by decide) rfl eD eQ (by first | (simp [PV.norm1, PV.norm0, aggD, slD, Jg, Jj, Jh, Ji, Jf]; done) | fail) rfl ?_
 refine go_ ?_
 refine Qah (namew_p ⟨#[67]⟩) ?_
 refine POps_callV (arrow_p (.mk 3 0 ⟨#[95]⟩ 0 [.mk 1 0 ⟨#[65]⟩ 0 [], .mk 1 0 ⟨#[66]⟩ 0 []]) (.mk 1 0 ⟨#[67]⟩ 0 [])) (by decide) rfl eD eQ (by first | (simp [PV.norm1, PV.norm0, aggD, slD, Jg, Jj, Jh, Ji, Jf]; done) | fail) rfl ?_
 refine go_ ?_
 refine Qah (hN) ?_
 refine Qat (hP) ?_
 refine rT Tryz.results12 ?_
 exact ⟨rfl, rfl⟩
def okN6 (t : Nd) : Bool := decide (0 < (budT t 600).2)
theorem ok6_same {t : Nd} (h : okN6 t = true) : (budT t 600).1 = t ∧ ndT t < 600 := by
 have h1 := of_decide_eq_true h
 obtain ⟨_, _, h2⟩ := Qlz t 600
 obtain ⟨h3, h4⟩ := h2 (by omega)
 exact ⟨h3, by omega⟩
theorem budget6_any : ∀ (t : Nd) (cs : List Value) (l : Int) (w : World), -9000 < l → l ≤ 1000 → NdC w t cs →
  Calls Tryz.prog 28 #[.agg cs.toArray, .int .i64 l] w fun e w' => ∃ v, e = .returned (.tuple #[.agg #[.int .i64 t.kind, .int .i64 t.at, .string t.name, .int .i64 t.num, v], .int .i64 (budT t l).2]) ∧ RepS (fun b => w.heap.size ≤ b) w' v (budT t l).1.sub ∧ Below w.heap.size w w' := by
 obtain ⟨i0, hi, hz0, hz1, hz2⟩ := info_parts infoR
 refine Nd.ind ?_
 intro kk aa ss n sub ih cs l w hl0 hl1 ht
 obtain ⟨a, cap, rfl, hsub, hlen, hnsa⟩ := Qcc ht
 have hbk := (bud_kind (.mk kk aa ss n sub) l).2
 generalize (budT (.mk kk aa ss n sub) l).1.sub = R at hbk ⊢
 generalize (budT (.mk kk aa ss n sub) l).2 = X at hbk ⊢
 simp only [Nd.kind, Nd.at, Nd.name, Nd.num, Nd.sub] at hsub hlen hnsa hbk ⊢
 have BK := Lib.hid hbk
 clear hbk
 have IH := Lib.hid ih
 clear ht ih
 go_enter Tryz.func28, Tryz.ntmps28
 go_wp2_with fail
 go_loopw [1, 7] (fun g i wr => ∃ (k : Nat) (v : Value) (rs : List Nd) (x : Int), k ≤ sub.length ∧ i = .int .i64 k ∧ g = .int .i64 x ∧ -9000 ≤ x ∧ x ≤ 1000 ∧ Own (fun b => w.heap.size + 3 ≤ b) 31 (w.heap.size + 3) v rs wr ∧ Hid (budL sub (l - 1) = (rs ++ (budL (sub.drop k) x).1, (budL (sub.drop k) x).2)) ∧ Box5 25 wr w.heap.size (.int .i64 kk) (.int .i64 aa) (.string ss) (.int .i64 n) (.slice a sub.length cap) ∧ Box5 31 wr (w.heap.size + 1) (.int .i64 0) (.int .i64 0) (.string ByteArray.empty) (.int .i64 0) (.slice none 0 0) ∧ Box5 31 wr (w.heap.size + 2) (.int .i64 kk) (.int .i64 aa) (.string ss) (.int .i64 n) v ∧ Below w.heap.size w wr ∧ w.heap.size + 3 ≤ wr.heap.size) (fun _ i _ => sub.length - (intOf i).toNat)
 case atStart =>
  obtain ⟨h1, h2, h3, h4, h5⟩ := boxes3 w #[.int .i64 kk, .int .i64 aa, .string ss, .int .i64 n, .slice a sub.length cap] #[.int .i64 0, .int .i64 0, .string ByteArray.empty, .int .i64 0, .slice none 0 0] #[.int .i64 kk, .int .i64 aa, .string ss, .int .i64 n, .slice none 0 0] 25 31 31
  exact ⟨0, _, [], l - 1, Nat.zero_le _, rfl, by go_num, by omega, by omega, Own.nil, rfl, h1, h2, h3, h4, h5⟩
 case round =>
  obtain ⟨k, v, rs, x, hk, rfl, rfl, hx0, hx1, hown, HG, b1, b2, b3, hbw, hsz⟩ := hrel
  obtain ⟨c0, c1, c2, c3, c4⟩ := b1.cells
  by_cases hlt : k < sub.length ∧ -9000 < x
  ·obtain ⟨hlt, hx⟩ := hlt
   obtain ⟨bb, off, a', cap', rfl, e0, e1, e2, e3, e4, hts⟩ := Qid hsub hbw k hlt
   have hnsk : sub[k].name.size ≤ maxLen := by obtain ⟨_, _, _, _, _, h⟩ := Qcc hts; exact h
   have hnext : Hid (budL sub (l - 1) = ((rs ++ [(budT sub[k] x).1]) ++ (budL (sub.drop (k + 1)) (budT sub[k] x).2).1, (budL (sub.drop (k + 1)) (budT sub[k] x).2).2)) := by
    have h := HG.out
    rw [List.drop_eq_getElem_cons hlt] at h
    simp only [budL] at h
    rw [if_pos hx] at h
    show _ = _
    rw [h, List.append_assoc]; rfl
   have hcnt : Hid (rs.length + 1 ≤ 20000) := by
    have h := congrArg (fun p => p.1.length) hnext.out
    have h2 := budL_count sub (l - 1)
    simp only [List.length_append, List.length_singleton] at h
    show _ ≤ _
    omega
   have hlo := bud_lo sub[k] x hx
   have hhi := (Qlz sub[k] x).1
   have HO := Lib.hid hown
   have HBW := Lib.hid hbw
   have B1r := Lib.hid b1
   have B2r := Lib.hid b2
   have B3r := Lib.hid b3
   have HTS := Lib.hid hts
   clear hown b1 b2 b3 hts HG hbw
   go_wp2_with fail
   refine (IH.out _ (List.getElem_mem hlt) _ x _ hx hx1 HTS.out).mono ?_
   rintro e w1 ⟨v1, rfl, hrep, hb1⟩
   obtain ⟨a1, n1, c1, rfl⟩ := hrep.form
   have hs1 := hb1.size
   have hw2 : Below wr.heap.size wr (w1.alloc (.cells #[.int .i64 sub[k].kind, .int .i64 sub[k].at, .string sub[k].name, .int .i64 sub[k].num, .slice a1 n1 c1] 31)) := hb1.alloc hs1 _
   have hzw : wr.heap.size + 1 ≤ (w1.alloc (.cells #[.int .i64 sub[k].kind, .int .i64 sub[k].at, .string sub[k].name, .int .i64 sub[k].num, .slice a1 n1 c1] 31)).heap.size := by simp; omega
   have b3w := B3r.out.later hw2 (by omega)
   obtain ⟨g0, g1, g2, g3, g4⟩ := b3w.cells
   have fz4 := b3w.free 4
   have hrep2 : Rep (fun b => wr.heap.size ≤ b) (w1.alloc (.cells #[.int .i64 sub[k].kind, .int .i64 sub[k].at, .string sub[k].name, .int .i64 sub[k].num, .slice a1 n1 c1] 31)) (budT sub[k] x).1 [.int .i64 sub[k].kind, .int .i64 sub[k].at, .string sub[k].name, .int .i64 sub[k].num, .slice a1 n1 c1] := by
    have hk := (bud_kind sub[k] x).1
    have h := (rep_nd (t := .mk sub[k].kind sub[k].at sub[k].name sub[k].num (budT sub[k] x).1.sub)).2 ⟨_, rfl, hnsk, hrep⟩
    rw [hk]
    exact h.later ((Below.refl _ _).alloc (Nat.le_refl _) _)
   have hown2 := HO.out.later hw2
   have hlt2 := HO.out.lt
   have E1 := Qhx (w1.alloc (.cells #[.int .i64 sub[k].kind, .int .i64 sub[k].at, .string sub[k].name, .int .i64 sub[k].num, .slice a1 n1 c1] 31)) #[.int .i64 sub[k].kind, .int .i64 sub[k].at, .string sub[k].name, .int .i64 sub[k].num, .slice a1 n1 c1] 31
   have hone := (RepS.one (T := 31) hrep2).sub (S' := fun b => wr.heap.size ≤ b) fun b hb _ => by
    rcases hb with hb | hb
    ·exact hb
    ·omega
   have hown3 := hown2.later E1.2.1
   have hS3 : ∀ d ∈ [(budT sub[k] x).1], ∀ cs, Rep (fun b => wr.heap.size ≤ b) ((w1.alloc (.cells #[.int .i64 sub[k].kind, .int .i64 sub[k].at, .string sub[k].name, .int .i64 sub[k].num, .slice a1 n1 c1] 31)).alloc (.cells #[.int .i64 sub[k].kind, .int .i64 sub[k].at, .string sub[k].name, .int .i64 sub[k].num, .slice a1 n1 c1] 31)) d cs → Rep (fun b => w.heap.size + 3 ≤ b ∧ v.ownBlock ≠ some b) ((w1.alloc (.cells #[.int .i64 sub[k].kind, .int .i64 sub[k].at, .string sub[k].name, .int .i64 sub[k].num, .slice a1 n1 c1] 31)).alloc (.cells #[.int .i64 sub[k].kind, .int .i64 sub[k].at, .string sub[k].name, .int .i64 sub[k].num, .slice a1 n1 c1] 31)) d cs :=
    fun d _ cs h => h.sub fun b hb _ => ⟨by omega, fun e => by have := (hlt2 b e).2; omega⟩
   have HO3 := Lib.hid hown3
   rw [show (w1.alloc (.cells #[.int .i64 sub[k].kind, .int .i64 sub[k].at, .string sub[k].name, .int .i64 sub[k].num, .slice a1 n1 c1] 31)).heap.size = w1.heap.size + 1 from by simp] at hone
   have HONE := Lib.hid hone
   have HS3 := Lib.hid hS3
   have HZ3 := Lib.hid (show w.heap.size + 3 ≤ ((w1.alloc (.cells #[.int .i64 sub[k].kind, .int .i64 sub[k].at, .string sub[k].name, .int .i64 sub[k].num, .slice a1 n1 c1] 31)).alloc (.cells #[.int .i64 sub[k].kind, .int .i64 sub[k].at, .string sub[k].name, .int .i64 sub[k].num, .slice a1 n1 c1] 31)).heap.size by have := E1.2.2; omega)
   have HW3 := Lib.hid (hw2.trans (E1.2.1.mono (by omega)))
   clear hown2 hlt2 hone hown3 hS3 E1 hrep2 hrep hw2 hzw hb1 b3w
   have HLO := Lib.hid hlo
   have HHI := Lib.hid hhi
   clear hlo hhi
   have hz0r := Lib.hid hsz
   go_wp2_with (at_builtin; refine wpList_push rfl _ _ 29 rfl 31 i0 (.agg #[.int .i64 0, .int .i64 0, .string ByteArray.empty, .int .i64 0, .slice none 0 0]) 64 Tryz.underlying29 hi hz0 hz1 hz2 rfl (by decide) HO3.out _ [(budT sub[k] x).1] HONE.out (by rfl) (by rfl) HS3.out (by have := hcnt.out; unfold maxLen; simp; omega) (by have := hcnt.out; simp; omega) HZ3.out ?_; intro v2 w2 hown2 hb2 hg2 hap2; obtain ⟨g2, cp2, rfl, -⟩ := hown2.some (by simp); have q3 := Lib.hid ((B3r.out.later HW3.out (by omega)).later hb2 (by omega)); obtain ⟨y0, y1, y2, y3, y4⟩ := q3.out.cells; have y5 := q3.out.free 4; replace hown2 := Lib.hid hown2; replace hb2 := Lib.hid hb2)
   clear hg2 hap2
   have hbf := HBW.out.trans ((HW3.out.mono HBW.out.size).trans (hb2.out.mono (by omega)))
   have HLT := Lib.hid hlt
   go_roundw
   case rel =>
    have hlo := HLO.out
    have hhi := HHI.out
    have hz4 := hb2.out.size
    have hz3 := HZ3.out
    refine ⟨k + 1, _, rs ++ [(budT sub[k] x).1], (budT sub[k] x).2, by omega, by go_num, rfl, by omega, by omega, hown2.out.move fun b hb _ => Below.heap_setCell _ _ _ _ (by show b ≠ w.heap.size + 2; omega), hnext, ?_, ?_, by rw [List.length_append]; exact q3.out.set4 _, hbf.setCell (by show w.heap.size ≤ w.heap.size + 2; omega) _, by simp; omega⟩
    ·exact Box5.set_ne ((B1r.out.later HW3.out (by omega)).later hb2.out (by omega)) (by show w.heap.size ≠ w.heap.size + 2; omega) _
    ·exact Box5.set_ne ((B2r.out.later HW3.out (by omega)).later hb2.out (by omega)) (by show w.heap.size + 1 ≠ w.heap.size + 2; omega) _
   case measure => have := HLT.out; simp [intOf]; omega
  ·have hend : budL (sub.drop k) x = ([], x) := by
    by_cases h1 : k < sub.length
    ·rw [List.drop_eq_getElem_cons h1]; simp only [budL]; rw [if_neg (by omega)]
    ·rw [List.drop_of_length_le (by omega)]; rfl
   have h := HG.out
   rw [hend] at h
   have hb := BK.out
   rw [h] at hb
   have HRS : Hid (rs = R ∧ x = X) := ⟨by rw [hb.1]; simp, hb.2.symm⟩
   obtain ⟨d0, d1, d2, d3, d4⟩ := b2.cells
   obtain ⟨g0, g1, g2, g3, g4⟩ := b3.cells
   have f0 := b2.free 0
   have f1 := b2.free 1
   have f2 := b2.free 2
   have f3 := b2.free 3
   have f4 := b2.free 4
   obtain ⟨av, cv, rfl⟩ := hown.shape
   have hres : RepS (fun b => w.heap.size ≤ b) (set5 wr (w.heap.size + 1) (.int .i64 kk) (.int .i64 aa) (.string ss) (.int .i64 n) (.slice av rs.length cv)) (.slice av rs.length cv) rs :=
    RepS.move (fun b hb _ => ⟨by omega, by rw [set5_heap _ _ _ _ _ _ _ _ (by omega)]⟩) hown.done
   have HRES := Lib.hid hres
   have hbf : Below w.heap.size w (set5 wr (w.heap.size + 1) (.int .i64 kk) (.int .i64 aa) (.string ss) (.int .i64 n) (.slice av rs.length cv)) := set5_below hbw (by omega) _ _ _ _ _
   have HBF := Lib.hid hbf
   clear h hb hend HG hres hbf b1 b2 b3 hbw hown
   rcases (show (k < sub.length ∧ x ≤ -9000) ∨ sub.length ≤ k by omega) with ⟨h1, h2⟩ | h1
   all_goals
    clear hlt
    go_wp2_with fail
    exact bodyPost_ret (v := .tuple #[.agg #[.int .i64 kk, .int .i64 aa, .string ss, .int .i64 n, .slice av rs.length cv], .int .i64 x]) (by simp [results, Tryz.results28, go_sem, d0, d1, d2, d3, d4]) rfl ⟨_, by rw [HRS.out.2], by rw [← HRS.out.1]; exact HRES.out, HBF.out⟩
theorem of6_any (t : Nd) (cs : List Value) (w : World) (ht : NdC w t cs) :
  Calls Tryz.prog 10 #[.agg cs.toArray] w fun e w' => ∃ v, e = .returned (.tuple #[.agg #[.int .i64 t.kind, .int .i64 t.at, .string t.name, .int .i64 t.num, v], .bool (okN6 t)]) ∧ RepS (fun b => w.heap.size ≤ b) w' v (budT t 600).1.sub ∧ Below w.heap.size w w' := by
 obtain ⟨a, cap, rfl, hsub, hlen, hnsa⟩ := Qcc ht
 have E := boxes2 w #[.int .i64 t.kind, .int .i64 t.at, .string t.name, .int .i64 t.num, .slice a t.sub.length cap] #[.int .i64 0, .int .i64 0, .string ByteArray.empty, .int .i64 0, .slice none 0 0] 25 31
 have BU := Lib.hid (budget6_any t _ 600 _ (by omega) (by omega) (ht.later E.2.2.1))
 have HE := Lib.hid E
 have fin : Hid (decide (0 < (budT t 600).2) = okN6 t) := rfl
 clear hsub hlen ht E
 generalize (budT t 600).1.sub = R at *
 generalize (budT t 600).2 = X at *
 generalize okN6 t = ok at *
 go_enter Tryz.func10, Tryz.ntmps10
 go_wp2_with ((go_at_call 28; refine BU.out.mono ?_; rintro e w1 ⟨v1, rfl, hrep, hb1⟩; obtain ⟨a1, n1, c1, rfl⟩ := hrep.form; have q2 := Lib.hid ((show Box5 _ _ _ _ _ _ _ _ from HE.out.2.1).later (hb1.alloc hb1.size (.cells #[.int .i64 t.kind, .int .i64 t.at, .string t.name, .int .i64 t.num, .slice a1 n1 c1] 31)) (by have := HE.out.2.2.2; omega)); obtain ⟨d0, d1, d2, d3, d4⟩ := q2.out.cells; have f0 := q2.out.free 0; have f1 := q2.out.free 1; have f2 := q2.out.free 2; have f3 := q2.out.free 3; have f4 := q2.out.free 4; replace hrep := Lib.hid hrep; replace hb1 := Lib.hid hb1))
 have hw2 : Below w.heap.size w (w1.alloc (.cells #[.int .i64 t.kind, .int .i64 t.at, .string t.name, .int .i64 t.num, .slice a1 n1 c1] 31)) := HE.out.2.2.1.trans ((hb1.out.mono HE.out.2.2.1.size).alloc (Nat.le_trans HE.out.2.2.1.size hb1.out.size) _)
 have hres : RepS (fun b => w.heap.size ≤ b) (set5 (w1.alloc (.cells #[.int .i64 t.kind, .int .i64 t.at, .string t.name, .int .i64 t.num, .slice a1 n1 c1] 31)) (w.heap.size + 1) (.int .i64 t.kind) (.int .i64 t.at) (.string t.name) (.int .i64 t.num) (.slice a1 n1 c1)) (.slice a1 n1 c1) R := by
  refine RepS.move (fun b hb hl => ⟨?_, ?_⟩) hrep.out
  ·have := HE.out.2.2.2; omega
  ·rw [set5_heap _ _ _ _ _ _ _ _ (by have := HE.out.2.2.2; omega)]; exact Below.heap_alloc _ _ _ hl
 exact bodyPost_ret (v := .tuple #[.agg #[.int .i64 t.kind, .int .i64 t.at, .string t.name, .int .i64 t.num, .slice a1 n1 c1], .bool (decide (0 < X))]) (by simp [results, Tryz.results10, go_sem, d0, d1, d2, d3, d4]) rfl ⟨_, by rw [fin.out], hres, set5_below hw2 (by omega) _ _ _ _ _⟩
theorem of6_p (t : Nd) : PCalls Tryz.prog 10 [aggD t] [] fun p s => p = .tup [aggD (budT t 600).1, .d (.v (.bool (okN6 t)))] ∧ s = [] := by
  refine PCalls.data fun K w vs ha => ?_
  obtain ⟨v, rfl, hv⟩ := ha.one
  obtain ⟨cs, rfl, hc⟩ := agg_nd hv
  have hns : t.name.size ≤ maxLen := by obtain ⟨_, _, _, _, _, h⟩ := Qcc hc; exact h
  refine (of6_any t cs w hc).mono ?_
  rintro e w' ⟨u, rfl, hr, hb⟩
  refine ⟨_, rfl, hb, fun K' hK => ?_⟩
  refine tup2 ?_ (.d (.v trivial))
  have : Rep (fun b => w.heap.size ≤ b) w' (budT t 600).1 [.int .i64 t.kind, .int .i64 t.at, .string t.name, .int .i64 t.num, u] := by
    cases t with
    | mk k a s n sub =>
      rw [show budT (.mk k a s n sub) 600 = (.mk k a s n (budL sub (600 - 1)).1, (budL sub (600 - 1)).2) by simp only [budT]] at hr ⊢
      exact rep_nd.2 ⟨u, rfl, hns, hr⟩
  exact rel_rep (fun b o v h1 h2 => hK b o v h1 h2) this
theorem pats_len : ∀ (l : List Nd), (∀ x ∈ l, (patL x).length + 1 ≤ 60 * ndT x) → (Qea l).length ≤ 60 * ndL l
  | [], _ => by simp [Qea]
  | t :: ts, h => by
    have h1 := h t (by simp)
    have h2 := pats_len ts fun x hx => h x (by simp [hx])
    simp only [Qea, ndL, List.length_append, List.length_cons, List.length_nil]; omega
theorem pat_len : ∀ (m : Nat) (t : Nd), SizeOf.sizeOf t ≤ m → Qaj t true = true → (patL t).length + 1 ≤ 60 * ndT t := by
  intro m
  induction m with
  | zero => intro t h; cases t; simp at h
  | succ m ih =>
    intro t h hg
    obtain ⟨k, a, s, n, sub⟩ := t
    have hn := good_name hg
    rcases Qkd hg with ⟨rfl, rfl⟩ | ⟨rfl, rfl⟩ | ⟨rfl, rfl⟩ | ⟨rfl, x, rfl, hx⟩ | ⟨rfl, hL⟩
    · simp only [patL, ndT, ndL]; simp; omega
    · simp only [patL, ndT, ndL]; simp
    · simp only [patL, ndT, ndL]; simp
    · have := ex_len hx 2
      simp only [patL, ndT, ndL, dotL]; simp; omega
    · have := pats_len sub fun x hx => by
        refine ih x ?_ (Qge hL x hx)
        have := List.sizeOf_lt_of_mem hx
        simp at h; omega
      simp only [patL, ndT]; simp; omega
theorem Qdw {t : Nd} (h : Qbt t = true) : Qaj t false = true := by unfold Qbt at h; simp only [Bool.and_eq_true] at h; exact h.2
theorem Qfg {t : Nd} (h : patB t = true) : Qaj t true = true := by unfold patB at h; simp only [Bool.and_eq_true] at h; exact h.2
theorem exprR_yes {t : Nd} (h : Qbt t = true) (hs : ndT t < 600) : exprR t = .tup [.d (.v (.string (strB (exL t 0)))), .d (.v (.int .i64 0))] := by
 have := ex_len (Qdw h) 0
 rw [exprR, if_pos h, Qfm, if_pos (by omega)]; rfl
theorem exprR_no {t : Nd} (h : Qbt t = false) : exprR t = .tup [.d (.v (.string ⟨#[]⟩)), .d (.v (.int .i64 5))] := by
 rw [exprR, if_neg (by rw [h]; decide)]
theorem patR_yes {t : Nd} (h : patB t = true) (hs : ndT t < 600) : patR t = .tup [.d (.v (.string (strB (patL t)))), .d (.v (.int .i64 0))] := by
 have := pat_len _ t (Nat.le_refl _) (Qfg h)
 rw [patR, if_pos h, Qfm, if_pos (by omega)]; rfl
theorem patR_no {t : Nd} (h : patB t = false) : patR t = .tup [.d (.v (.string ⟨#[]⟩)), .d (.v (.int .i64 5))] := by
 rw [patR, if_neg (by rw [h]; decide)]
def bdL (b : Bd) : List UInt8 := b.name.toList ++ [32, 58, 32] ++ exL b.ty 0
def Qfk : List Nd → List UInt8
 | [] => []
 | t :: ts => patL t ++ [32] ++ Qfk ts
def rowL (r : Rw) : List UInt8 := [32, 32] ++ Qfk r.pats ++ (if r.has then [61, 32] ++ exL r.body 0 else []) ++ [59, 10]
theorem patsW_app (a b : List Nd) : Qfk (a ++ b) = Qfk a ++ Qfk b := by
 induction a with
 | nil => rfl
 | cons x a ih => simp only [List.cons_append, Qfk, ih, List.append_assoc]
theorem patsW_take {l : List Nd} {k : Nat} (h : k < l.length) : Qfk (l.take (k + 1)) = Qfk (l.take k) ++ (patL l[k] ++ [32]) := by
 rw [List.take_succ_eq_append_getElem h, patsW_app]
 simp [Qfk]
theorem typedx_w (b : Bd) (h : Qbt b.ty = true) : WC 110 [aggD b] (bdL b) := by
 intro i g o T hW
 have hx := expr_w _ b.ty (Nat.le_refl _) (Qdw h) 0
 have HE := Hh (show bdL b = b.name.toList ++ [32, 58, 32] ++ exL b.ty 0 from rfl)
 generalize bdL b = txt at *
 simp only [aggD, Jj, List.map_cons, List.map_nil]
 refine pG Tryz.func110 Tryz.ntmps110 ?_
 refine Jc ?_
 intro i0 hi0
 refine go_ ?_
 refine Qai [(0, .a), (1, .a), (2, .a), (3, .a), (4, .b), (5, .a), (6, .e)] (by kernel_rfl) (by rfl) (by kernel_rfl) ?_
 refine go_ ?_
 refine Qel ?_
 refine Qem 1 (⟨hW, Qaw [b.name, ⟨#[32, 58, 32]⟩] (by simp)⟩) ?_
 intro o1 hW1
 refine go_ ?_
 refine Qac 1 (⟨hW1, hx⟩) ?_
 intro o2 hW2
 refine go_ ?_
 refine Qaz (by simp) (by simp only [Tryz.results110]; rfl) (by simp [resP]; rfl) dR ⟨rfl, o2, ?_, rfl⟩
 rw [HE.out]
 simpa [txts] using hW2
theorem patB_w {t : Nd} (h : patB t = true) : PaC t := pattern_w _ t (Nat.le_refl _) (Qfg h) (small_nd (Qlj h))
theorem row_w (r : Rw) (h : rowB r = true) : WC 111 [aggD r] (rowL r) := by
  intro i g o T hW
  unfold rowB at h
  simp only [Bool.and_eq_true, decide_eq_true_eq] at h
  obtain ⟨⟨hlen, hpats⟩, hbody⟩ := h
  have ih' : ∀ (k : Nat) (h : k < r.pats.length), PaC r.pats[k] := fun k h => patB_w (List.all_eq_true.1 hpats _ (List.getElem_mem h))
  have HE := Hh (show rowL r = [32, 32] ++ Qfk r.pats ++ (if r.has then [61, 32] ++ exL r.body 0 else []) ++ [59, 10] from rfl)
  generalize rowL r = txt at *
  clear hpats
  simp only [aggD, Jh, List.map_cons, List.map_nil]
  refine pG Tryz.func111 Tryz.ntmps111 ?_
  refine Jc ?_
  intro i0 hi0
  refine go_ ?_
  refine Qad ?_
  refine Qac 1 (⟨hW, Qaw [⟨#[32, 32]⟩] (by simp)⟩) ?_
  intro o1 hW1
  refine go_ ?_
  refine Qay (ι := Nat × (List UInt8 × Bool)) (fun k => k.1 ≤ r.pats.length ∧ Wr k.2 (T ++ [32, 32] ++ Qfk (r.pats.take k.1))) (fun k => [(0, .ptr i 0), (3, .ptr i0 0), (12, .d (.sl (r.pats.map encD))), (13, .d (.v (.int .i64 r.pats.length))), (14, .d (.v (.int .i64 k.1)))]) (fun k => .box i0 62 [.d (.v (.int .i64 r.at_)), .d (.sl (r.pats.map encD)), .d (.v (.bool r.has)), .d (.v (.int .i64 r.body.kind)), .d (.v (.int .i64 r.body.at)), .d (.v (.string r.body.name)), .d (.v (.int .i64 r.body.num)), .d (.sl (r.body.sub.map encD))] :: wrS i g 94 k.2) (fun k => r.pats.length - k.1) (0, o1) ⟨Nat.zero_le _, by simpa [txts, Qfk] using hW1⟩ ?_ ?_ ?_
  · exact sU
  · simp only [List.cons_append, List.nil_append]
    exact dR
  · rintro ⟨k, o⟩ ⟨hk, hWk⟩
    simp only at hk hWk ⊢
    clear hW hW1
    by_cases hlt : k < r.pats.length
    · have hx := Qbn hlt
      have hc : ((k : Int) < (r.pats.length : Int)) := by omega
      have hn : (0 : Int) ≤ (k : Int) := by omega
      refine go_ ?_
      refine Jd ?_
      intro i2 hi2
      simp only [Rh] at hi2
      refine go_ ?_
      refine Qaa ?_
      refine Qac 2 (⟨hWk, ih' k hlt⟩) ?_
      intro o2 hW2
      refine go_ ?_
      refine Qad ?_
      refine Qac 2 (⟨hW2, Qaw [⟨#[32]⟩] (by simp)⟩) ?_
      intro o3 hW3
      have hin := Qbf hlt (by omega)
      refine go_ ?_
      refine ⟨(k + 1, o3), ⟨by simp only; omega, ?_⟩, by simp only; omega, ?_, ?_⟩
      · simp only [patsW_take hlt]
        simpa [txts] using hW3
      · simp only
        repeat (first | exact Js _ | refine Jr (by simp [PF.get]; rfl) (by first | rfl | (simp [hin]; done) | fail) ?_)
      · simp only [List.cons_append, List.nil_append]
        exact dR
    · have hc : ¬ ((k : Int) < (r.pats.length : Int)) := by omega
      rw [List.take_of_length_le (by omega)] at hWk
      cases hh : r.has with
      | true =>
        have hx := expr_w _ r.body (Nat.le_refl _) (Qdw (by rw [hh, if_pos rfl] at hbody; exact hbody)) 0
        clear hbody
        rw [hh] at HE
        refine go_ ?_
        refine Qad ?_
        refine Qac 1 (⟨hWk, Qaw [⟨#[61, 32]⟩] (by simp)⟩) ?_
        intro o2 hW2
        refine go_ ?_
        refine Qac 1 (⟨hW2, hx⟩) ?_
        intro o3 hW3
        refine go_ ?_
        refine Qad ?_
        refine Qac 1 (⟨hW3, Qaw [⟨#[59, 10]⟩] (by simp)⟩) ?_
        intro o4 hW4
        refine go_ ?_
        refine Qaz (by simp) (by simp only [Tryz.results111]; rfl) (by simp [resP]; rfl) dR ⟨rfl, o4, ?_, rfl⟩
        rw [HE.out]
        simpa [txts] using hW4
      | false =>
        clear hbody
        rw [hh] at HE
        refine go_ ?_
        refine Qad ?_
        refine Qac 1 (⟨hWk, Qaw [⟨#[59, 10]⟩] (by simp)⟩) ?_
        intro o4 hW4
        refine go_ ?_
        refine Qaz (by simp) (by simp only [Tryz.results111]; rfl) (by simp [resP]; rfl) dR ⟨rfl, o4, ?_, rfl⟩
        rw [HE.out]
        simpa [txts] using hW4
def Qca : List Bd → List UInt8
 | [] => []
 | t :: ts => [32, 40] ++ bdL t ++ [41] ++ Qca ts
def Qdk : List Bd → List UInt8
 | [] => []
 | t :: ts => [32, 32] ++ bdL t ++ [59, 10] ++ Qdk ts
def Qet : List Rw → List UInt8
 | [] => []
 | t :: ts => rowL t ++ Qet ts
theorem telesL_app (a b : List Bd) : Qca (a ++ b) = Qca a ++ Qca b := by
 induction a with
 | nil => rfl
 | cons x a ih => simp only [List.cons_append, Qca, ih, List.append_assoc]
theorem consL_app (a b : List Bd) : Qdk (a ++ b) = Qdk a ++ Qdk b := by
 induction a with
 | nil => rfl
 | cons x a ih => simp only [List.cons_append, Qdk, ih, List.append_assoc]
theorem rowsL_app (a b : List Rw) : Qet (a ++ b) = Qet a ++ Qet b := by
 induction a with
 | nil => rfl
 | cons x a ih => simp only [List.cons_append, Qet, ih, List.append_assoc]
theorem Qkk {l : List Bd} {k : Nat} (h : k < l.length) : Qca (l.take (k + 1)) = Qca (l.take k) ++ ([32, 40] ++ bdL l[k] ++ [41]) := by
 rw [List.take_succ_eq_append_getElem h, telesL_app]
 simp [Qca]
theorem Qkv {l : List Bd} {k : Nat} (h : k < l.length) : Qdk (l.take (k + 1)) = Qdk (l.take k) ++ ([32, 32] ++ bdL l[k] ++ [59, 10]) := by
 rw [List.take_succ_eq_append_getElem h, consL_app]
 simp [Qdk]
theorem Qln {l : List Rw} {k : Nat} (h : k < l.length) : Qet (l.take (k + 1)) = Qet (l.take k) ++ rowL l[k] := by
 rw [List.take_succ_eq_append_getElem h, rowsL_app]
 simp [Qet]
def kwL (k : Int) : List UInt8 := if k = 1 then [100, 97, 116, 97] else if k = 2 then [114, 101, 99, 111, 114, 100] else [100, 101, 102]
def declL (d : Dc) : List UInt8 := kwL d.kind ++ [32] ++ d.name.toList ++ Qca d.tele ++ [32, 58, 32] ++ exL d.ty 0 ++ [32, 123, 10] ++ Qdk d.cons ++ Qet d.rows ++ [125, 10]
theorem encD_dcmk (k a : Int) (s : ByteArray) (te : List Bd) (ty : Nd) (co : List Bd) (ro : List Rw) : encD (Dc.mk k a s te ty co ro) = [.v (.int .i64 k), .v (.int .i64 a), .v (.string s), .sl (te.map encD), .v (.int .i64 ty.kind), .v (.int .i64 ty.at), .v (.string ty.name), .v (.int .i64 ty.num), .sl (ty.sub.map encD), .sl (co.map encD), .sl (ro.map encD)] := Ji _
theorem decl_w (d : Dc) (h : Qce d = true) : WC 66 [aggD d] (declL d) := by
 intro i g o T hW
 obtain ⟨kd, a, s, te, ty, co, ro⟩ := d
 unfold Qce at h
 simp only [Bool.and_eq_true, decide_eq_true_eq] at h
 obtain ⟨⟨⟨⟨⟨⟨⟨⟨hk, hn⟩, hty⟩, hte⟩, hco⟩, -⟩, -⟩, hrl⟩, hro⟩ := h
 have hw := expr_w _ ty (Nat.le_refl _) (Qdw hty) 0
 unfold Qcv at hte hco
 simp only [Bool.and_eq_true, decide_eq_true_eq] at hte hco
 obtain ⟨htl, hte⟩ := hte
 obtain ⟨hcl, hco⟩ := hco
 have it : ∀ (k : Nat) (h : k < te.length), WC 110 [aggD te[k]] (bdL te[k]) := fun k h => typedx_w _ (by
  have := List.all_eq_true.1 hte _ (List.getElem_mem h)
  unfold Qds at this; simp only [Bool.and_eq_true] at this; exact this.2)
 have ic : ∀ (k : Nat) (h : k < co.length), WC 110 [aggD co[k]] (bdL co[k]) := fun k h => typedx_w _ (by
  have := List.all_eq_true.1 hco _ (List.getElem_mem h)
  unfold Qds at this; simp only [Bool.and_eq_true] at this; exact this.2)
 have ir : ∀ (k : Nat) (h : k < ro.length), WC 111 [aggD ro[k]] (rowL ro[k]) := fun k h => row_w _ (List.all_eq_true.1 hro _ (List.getElem_mem h))
 clear hte hco hro hn hty
 have HE := Hh (show declL (.mk kd a s te ty co ro) = kwL kd ++ [32] ++ s.toList ++ Qca te ++ [32, 58, 32] ++ exL ty 0 ++ [32, 123, 10] ++ Qdk co ++ Qet ro ++ [125, 10] from rfl)
 generalize declL (.mk kd a s te ty co ro) = txt at *
 simp only [aggD, encD_dcmk, List.map_cons, List.map_nil]
 rcases (show kd = 1 ∨ kd = 2 ∨ kd = 3 by omega) with rfl | rfl | rfl
 ·refine pG Tryz.func66 Tryz.ntmps66 ?_
  refine Jc ?_
  intro i0 hi0
  refine go_ ?_
  refine Qai [(0, .a), (1, .a), (2, .a), (3, .a), (4, .a), (5, .b), (6, .a), (7, .a), (8, .b), (9, .a), (10, .e)] (by kernel_rfl) (by rfl) (by kernel_rfl) ?_
  refine go_ ?_
  refine Qel ?_
  refine Qem 1 (⟨hW, Qaw [⟨#[100, 97, 116, 97]⟩, ⟨#[32]⟩, s] (by simp)⟩) ?_
  intro o1 hW1
  clear hW
  refine go_ ?_
  refine Qay (ι := Nat × (List UInt8 × Bool)) (fun k => k.1 ≤ te.length ∧ Wr k.2 (T ++ ([100, 97, 116, 97] ++ [32] ++ s.toList) ++ Qca (te.take k.1))) (fun k => [(0, .ptr i 0), (3, .ptr i0 0), (22, .d (.sl (te.map encD))), (23, .d (.v (.int .i64 te.length))), (24, .d (.v (.int .i64 k.1)))]) (fun k => .box i0 40 [.d (.v (.int .i64 1)), .d (.v (.int .i64 a)), .d (.v (.string s)), .d (.sl (te.map encD)), .d (.v (.int .i64 ty.kind)), .d (.v (.int .i64 ty.at)), .d (.v (.string ty.name)), .d (.v (.int .i64 ty.num)), .d (.sl (ty.sub.map encD)), .d (.sl (co.map encD)), .d (.sl (ro.map encD))] :: wrS i g 94 k.2) (fun k => te.length - k.1) (0, o1) ⟨Nat.zero_le _, by simpa [txts, Qca] using hW1⟩ ?_ ?_ ?_
  ·exact sU
  ·simp only [List.cons_append, List.nil_append]
   exact dR
  ·rintro ⟨k, o⟩ ⟨hk, hWk⟩
   simp only at hk hWk ⊢
   clear hW1
   by_cases hlt : k < te.length
   ·have hx := Qbn hlt
    have hc : ((k : Int) < (te.length : Int)) := by omega
    have hn : (0 : Int) ≤ (k : Int) := by omega
    refine go_ ?_
    refine Jd ?_
    intro i2 hi2
    simp only [Rh] at hi2
    refine go_ ?_
    refine Qaa ?_
    refine Qad ?_
    refine Qac 2 (⟨hWk, Qaw [⟨#[32, 40]⟩] (by simp)⟩) ?_
    intro o5 hW5
    refine go_ ?_
    refine Qac 2 (⟨hW5, it k hlt⟩) ?_
    intro o6 hW6
    refine go_ ?_
    refine Qad ?_
    refine Qac 2 (⟨hW6, Qaw [⟨#[41]⟩] (by simp)⟩) ?_
    intro oz hWz
    have hin := Qbf hlt (by omega)
    refine go_ ?_
    refine ⟨(k + 1, oz), ⟨by simp only; omega, ?_⟩, by simp only; omega, ?_, ?_⟩
    ·simp only [Qkk hlt]
     simpa [txts] using hWz
    ·simp only
     repeat (first | exact Js _ | refine Jr (by simp [PF.get]; rfl) (by first | rfl | (simp [hin]; done) | fail) ?_)
    ·simp only [List.cons_append, List.nil_append]
     exact dR
   ·have hc : ¬ ((k : Int) < (te.length : Int)) := by omega
    rw [List.take_of_length_le (by omega)] at hWk
    refine go_ ?_
    refine Qad ?_
    refine Qac 1 (⟨hWk, Qaw [⟨#[32, 58, 32]⟩] (by simp)⟩) ?_
    intro o2 hW2
    refine go_ ?_
    refine Qac 1 (⟨hW2, hw⟩) ?_
    intro o3 hW3
    refine go_ ?_
    refine Qad ?_
    refine Qac 1 (⟨hW3, Qaw [⟨#[32, 123, 10]⟩] (by simp)⟩) ?_
    intro o4 hW4
    clear hWk hW2 hW3 hk hlt
    refine go_ ?_
    refine Qay (ι := Nat × (List UInt8 × Bool)) (fun k => k.1 ≤ co.length ∧ Wr k.2 (T ++ ([100, 97, 116, 97] ++ [32] ++ s.toList) ++ Qca te ++ [32, 58, 32] ++ exL ty 0 ++ [32, 123, 10] ++ Qdk (co.take k.1))) (fun k => [(0, .ptr i 0), (3, .ptr i0 0), (57, .d (.sl (co.map encD))), (58, .d (.v (.int .i64 co.length))), (59, .d (.v (.int .i64 k.1)))]) (fun k => .box i0 40 [.d (.v (.int .i64 1)), .d (.v (.int .i64 a)), .d (.v (.string s)), .d (.sl (te.map encD)), .d (.v (.int .i64 ty.kind)), .d (.v (.int .i64 ty.at)), .d (.v (.string ty.name)), .d (.v (.int .i64 ty.num)), .d (.sl (ty.sub.map encD)), .d (.sl (co.map encD)), .d (.sl (ro.map encD))] :: wrS i g 94 k.2) (fun k => co.length - k.1) (0, o4) ⟨Nat.zero_le _, by simpa [txts, Qdk] using hW4⟩ ?_ ?_ ?_
    ·exact sU
    ·simp only [List.cons_append, List.nil_append]
     exact dR
    ·rintro ⟨k, o⟩ ⟨hk, hWk⟩
     simp only at hk hWk ⊢
     clear hW4
     by_cases hlt : k < co.length
     ·have hx := Qbn hlt
      have hc : ((k : Int) < (co.length : Int)) := by omega
      have hn : (0 : Int) ≤ (k : Int) := by omega
      refine go_ ?_
      refine Jd ?_
      intro i2 hi2
      simp only [Rh] at hi2
      refine go_ ?_
      refine Qaa ?_
      refine Qad ?_
      refine Qac 2 (⟨hWk, Qaw [⟨#[32, 32]⟩] (by simp)⟩) ?_
      intro o5 hW5
      refine go_ ?_
      refine Qac 2 (⟨hW5, ic k hlt⟩) ?_
      intro o6 hW6
      refine go_ ?_
      refine Qad ?_
      refine Qac 2 (⟨hW6, Qaw [⟨#[59, 10]⟩] (by simp)⟩) ?_
      intro oz hWz
      have hin := Qbf hlt (by omega)
      refine go_ ?_
      refine ⟨(k + 1, oz), ⟨by simp only; omega, ?_⟩, by simp only; omega, ?_, ?_⟩
      ·simp only [Qkv hlt]
       simpa [txts] using hWz
      ·simp only
       repeat (first | exact Js _ | refine Jr (by simp [PF.get]; rfl) (by first | rfl | (simp [hin]; done) | fail) ?_)
      ·simp only [List.cons_append, List.nil_append]
       exact dR
     ·have hc : ¬ ((k : Int) < (co.length : Int)) := by omega
      rw [List.take_of_length_le (by omega)] at hWk
      have hW7 := hWk
      generalize o = o7 at hW7 ⊢
      clear hWk hk hlt
      refine go_ ?_
      refine Qay (ι := Nat × (List UInt8 × Bool)) (fun k => k.1 ≤ ro.length ∧ Wr k.2 (T ++ ([100, 97, 116, 97] ++ [32] ++ s.toList) ++ Qca te ++ [32, 58, 32] ++ exL ty 0 ++ [32, 123, 10] ++ Qdk co ++ Qet (ro.take k.1))) (fun k => [(0, .ptr i 0), (3, .ptr i0 0), (78, .d (.sl (ro.map encD))), (79, .d (.v (.int .i64 ro.length))), (80, .d (.v (.int .i64 k.1)))]) (fun k => .box i0 40 [.d (.v (.int .i64 1)), .d (.v (.int .i64 a)), .d (.v (.string s)), .d (.sl (te.map encD)), .d (.v (.int .i64 ty.kind)), .d (.v (.int .i64 ty.at)), .d (.v (.string ty.name)), .d (.v (.int .i64 ty.num)), .d (.sl (ty.sub.map encD)), .d (.sl (co.map encD)), .d (.sl (ro.map encD))] :: wrS i g 94 k.2) (fun k => ro.length - k.1) (0, o7) ⟨Nat.zero_le _, by simpa [txts, Qet] using hW7⟩ ?_ ?_ ?_
      ·exact sU
      ·simp only [List.cons_append, List.nil_append]
       exact dR
      ·rintro ⟨k, o⟩ ⟨hk, hWk⟩
       simp only at hk hWk ⊢
       clear hW7
       by_cases hlt : k < ro.length
       ·have hx := Qbn hlt
        have hc : ((k : Int) < (ro.length : Int)) := by omega
        have hn : (0 : Int) ≤ (k : Int) := by omega
        refine go_ ?_
        refine Jd ?_
        intro i2 hi2
        simp only [Rh] at hi2
        refine go_ ?_
        refine Qaa ?_
        refine Qac 2 (⟨hWk, ir k hlt⟩) ?_
        intro oz hWz
        have hin := Qbf hlt (by omega)
        refine go_ ?_
        refine ⟨(k + 1, oz), ⟨by simp only; omega, ?_⟩, by simp only; omega, ?_, ?_⟩
        ·simp only [Qln hlt]
         simpa [txts] using hWz
        ·simp only
         repeat (first | exact Js _ | refine Jr (by simp [PF.get]; rfl) (by first | rfl | (simp [hin]; done) | fail) ?_)
        ·simp only [List.cons_append, List.nil_append]
         exact dR
       ·have hc : ¬ ((k : Int) < (ro.length : Int)) := by omega
        rw [List.take_of_length_le (by omega)] at hWk
        refine go_ ?_
        refine Qad ?_
        refine Qac 1 (⟨hWk, Qaw [⟨#[125, 10]⟩] (by simp)⟩) ?_
        intro o8 hW8
        refine go_ ?_
        refine Qaz (by simp) (by simp only [Tryz.results66]; rfl) (by simp [resP]; rfl) dR ⟨rfl, o8, ?_, rfl⟩
        rw [HE.out]
        simpa [txts, kwL] using hW8
 ·refine pG Tryz.func66 Tryz.ntmps66 ?_
  refine Jc ?_
  intro i0 hi0
  refine go_ ?_
  refine Qai [(0, .a), (1, .a), (2, .a), (3, .a), (4, .a), (5, .b), (6, .a), (7, .a), (8, .b), (9, .a), (10, .e)] (by kernel_rfl) (by rfl) (by kernel_rfl) ?_
  refine go_ ?_
  refine Qel ?_
  refine Qem 1 (⟨hW, Qaw [⟨#[114, 101, 99, 111, 114, 100]⟩, ⟨#[32]⟩, s] (by simp)⟩) ?_
  intro o1 hW1
  clear hW
  refine go_ ?_
  refine Qay (ι := Nat × (List UInt8 × Bool)) (fun k => k.1 ≤ te.length ∧ Wr k.2 (T ++ ([114, 101, 99, 111, 114, 100] ++ [32] ++ s.toList) ++ Qca (te.take k.1))) (fun k => [(0, .ptr i 0), (3, .ptr i0 0), (22, .d (.sl (te.map encD))), (23, .d (.v (.int .i64 te.length))), (24, .d (.v (.int .i64 k.1)))]) (fun k => .box i0 40 [.d (.v (.int .i64 2)), .d (.v (.int .i64 a)), .d (.v (.string s)), .d (.sl (te.map encD)), .d (.v (.int .i64 ty.kind)), .d (.v (.int .i64 ty.at)), .d (.v (.string ty.name)), .d (.v (.int .i64 ty.num)), .d (.sl (ty.sub.map encD)), .d (.sl (co.map encD)), .d (.sl (ro.map encD))] :: wrS i g 94 k.2) (fun k => te.length - k.1) (0, o1) ⟨Nat.zero_le _, by simpa [txts, Qca] using hW1⟩ ?_ ?_ ?_
  ·exact sU
  ·simp only [List.cons_append, List.nil_append]
   exact dR
  ·rintro ⟨k, o⟩ ⟨hk, hWk⟩
   simp only at hk hWk ⊢
   clear hW1
   by_cases hlt : k < te.length
   ·have hx := Qbn hlt
    have hc : ((k : Int) < (te.length : Int)) := by omega
    have hn : (0 : Int) ≤ (k : Int) := by omega
    refine go_ ?_
    refine Jd ?_
    intro i2 hi2
    simp only [Rh] at hi2
    refine go_ ?_
    refine Qaa ?_
    refine Qad ?_
    refine Qac 2 (⟨hWk, Qaw [⟨#[32, 40]⟩] (by simp)⟩) ?_
    intro o5 hW5
    refine go_ ?_
    refine Qac 2 (⟨hW5, it k hlt⟩) ?_
    intro o6 hW6
    refine go_ ?_
    refine Qad ?_
    refine Qac 2 (⟨hW6, Qaw [⟨#[41]⟩] (by simp)⟩) ?_
    intro oz hWz
    have hin := Qbf hlt (by omega)
    refine go_ ?_
    refine ⟨(k + 1, oz), ⟨by simp only; omega, ?_⟩, by simp only; omega, ?_, ?_⟩
    ·simp only [Qkk hlt]
     simpa [txts] using hWz
    ·simp only
     repeat (first | exact Js _ | refine Jr (by simp [PF.get]; rfl) (by first | rfl | (simp [hin]; done) | fail) ?_)
    ·simp only [List.cons_append, List.nil_append]
     exact dR
   ·have hc : ¬ ((k : Int) < (te.length : Int)) := by omega
    rw [List.take_of_length_le (by omega)] at hWk
    refine go_ ?_
    refine Qad ?_
    refine Qac 1 (⟨hWk, Qaw [⟨#[32, 58, 32]⟩] (by simp)⟩) ?_
    intro o2 hW2
    refine go_ ?_
    refine Qac 1 (⟨hW2, hw⟩) ?_
    intro o3 hW3
    refine go_ ?_
    refine Qad ?_
    refine Qac 1 (⟨hW3, Qaw [⟨#[32, 123, 10]⟩] (by simp)⟩) ?_
    intro o4 hW4
    clear hWk hW2 hW3 hk hlt
    refine go_ ?_
    refine Qay (ι := Nat × (List UInt8 × Bool)) (fun k => k.1 ≤ co.length ∧ Wr k.2 (T ++ ([114, 101, 99, 111, 114, 100] ++ [32] ++ s.toList) ++ Qca te ++ [32, 58, 32] ++ exL ty 0 ++ [32, 123, 10] ++ Qdk (co.take k.1))) (fun k => [(0, .ptr i 0), (3, .ptr i0 0), (57, .d (.sl (co.map encD))), (58, .d (.v (.int .i64 co.length))), (59, .d (.v (.int .i64 k.1)))]) (fun k => .box i0 40 [.d (.v (.int .i64 2)), .d (.v (.int .i64 a)), .d (.v (.string s)), .d (.sl (te.map encD)), .d (.v (.int .i64 ty.kind)), .d (.v (.int .i64 ty.at)), .d (.v (.string ty.name)), .d (.v (.int .i64 ty.num)), .d (.sl (ty.sub.map encD)), .d (.sl (co.map encD)), .d (.sl (ro.map encD))] :: wrS i g 94 k.2) (fun k => co.length - k.1) (0, o4) ⟨Nat.zero_le _, by simpa [txts, Qdk] using hW4⟩ ?_ ?_ ?_
    ·exact sU
    ·simp only [List.cons_append, List.nil_append]
     exact dR
    ·rintro ⟨k, o⟩ ⟨hk, hWk⟩
     simp only at hk hWk ⊢
     clear hW4
     by_cases hlt : k < co.length
     ·have hx := Qbn hlt
      have hc : ((k : Int) < (co.length : Int)) := by omega
      have hn : (0 : Int) ≤ (k : Int) := by omega
      refine go_ ?_
      refine Jd ?_
      intro i2 hi2
      simp only [Rh] at hi2
      refine go_ ?_
      refine Qaa ?_
      refine Qad ?_
      refine Qac 2 (⟨hWk, Qaw [⟨#[32, 32]⟩] (by simp)⟩) ?_
      intro o5 hW5
      refine go_ ?_
      refine Qac 2 (⟨hW5, ic k hlt⟩) ?_
      intro o6 hW6
      refine go_ ?_
      refine Qad ?_
      refine Qac 2 (⟨hW6, Qaw [⟨#[59, 10]⟩] (by simp)⟩) ?_
      intro oz hWz
      have hin := Qbf hlt (by omega)
      refine go_ ?_
      refine ⟨(k + 1, oz), ⟨by simp only; omega, ?_⟩, by simp only; omega, ?_, ?_⟩
      ·simp only [Qkv hlt]
       simpa [txts] using hWz
      ·simp only
       repeat (first | exact Js _ | refine Jr (by simp [PF.get]; rfl) (by first | rfl | (simp [hin]; done) | fail) ?_)
      ·simp only [List.cons_append, List.nil_append]
       exact dR
     ·have hc : ¬ ((k : Int) < (co.length : Int)) := by omega
      rw [List.take_of_length_le (by omega)] at hWk
      have hW7 := hWk
      generalize o = o7 at hW7 ⊢
      clear hWk hk hlt
      refine go_ ?_
      refine Qay (ι := Nat × (List UInt8 × Bool)) (fun k => k.1 ≤ ro.length ∧ Wr k.2 (T ++ ([114, 101, 99, 111, 114, 100] ++ [32] ++ s.toList) ++ Qca te ++ [32, 58, 32] ++ exL ty 0 ++ [32, 123, 10] ++ Qdk co ++ Qet (ro.take k.1))) (fun k => [(0, .ptr i 0), (3, .ptr i0 0), (78, .d (.sl (ro.map encD))), (79, .d (.v (.int .i64 ro.length))), (80, .d (.v (.int .i64 k.1)))]) (fun k => .box i0 40 [.d (.v (.int .i64 2)), .d (.v (.int .i64 a)), .d (.v (.string s)), .d (.sl (te.map encD)), .d (.v (.int .i64 ty.kind)), .d (.v (.int .i64 ty.at)), .d (.v (.string ty.name)), .d (.v (.int .i64 ty.num)), .d (.sl (ty.sub.map encD)), .d (.sl (co.map encD)), .d (.sl (ro.map encD))] :: wrS i g 94 k.2) (fun k => ro.length - k.1) (0, o7) ⟨Nat.zero_le _, by simpa [txts, Qet] using hW7⟩ ?_ ?_ ?_
      ·exact sU
      ·simp only [List.cons_append, List.nil_append]
       exact dR
      ·rintro ⟨k, o⟩ ⟨hk, hWk⟩
       simp only at hk hWk ⊢
       clear hW7
       by_cases hlt : k < ro.length
       ·have hx := Qbn hlt
        have hc : ((k : Int) < (ro.length : Int)) := by omega
        have hn : (0 : Int) ≤ (k : Int) := by omega
        refine go_ ?_
        refine Jd ?_
        intro i2 hi2
        simp only [Rh] at hi2
        refine go_ ?_
        refine Qaa ?_
        refine Qac 2 (⟨hWk, ir k hlt⟩) ?_
        intro oz hWz
        have hin := Qbf hlt (by omega)
        refine go_ ?_
        refine ⟨(k + 1, oz), ⟨by simp only; omega, ?_⟩, by simp only; omega, ?_, ?_⟩
        ·simp only [Qln hlt]
         simpa [txts] using hWz
        ·simp only
         repeat (first | exact Js _ | refine Jr (by simp [PF.get]; rfl) (by first | rfl | (simp [hin]; done) | fail) ?_)
        ·simp only [List.cons_append, List.nil_append]
         exact dR
       ·have hc : ¬ ((k : Int) < (ro.length : Int)) := by omega
        rw [List.take_of_length_le (by omega)] at hWk
        refine go_ ?_
        refine Qad ?_
        refine Qac 1 (⟨hWk, Qaw [⟨#[125, 10]⟩] (by simp)⟩) ?_
        intro o8 hW8
        refine go_ ?_
        refine Qaz (by simp) (by simp only [Tryz.results66]; rfl) (by simp [resP]; rfl) dR ⟨rfl, o8, ?_, rfl⟩
        rw [HE.out]
        simpa [txts, kwL] using hW8
 ·refine pG Tryz.func66 Tryz.ntmps66 ?_
  refine Jc ?_
  intro i0 hi0
  refine go_ ?_
  refine Qai [(0, .a), (1, .a), (2, .a), (3, .a), (4, .a), (5, .b), (6, .a), (7, .a), (8, .b), (9, .a), (10, .e)] (by kernel_rfl) (by rfl) (by kernel_rfl) ?_
  refine go_ ?_
  refine Qel ?_
  refine Qem 1 (⟨hW, Qaw [⟨#[100, 101, 102]⟩, ⟨#[32]⟩, s] (by simp)⟩) ?_
  intro o1 hW1
  clear hW
  refine go_ ?_
  refine Qay (ι := Nat × (List UInt8 × Bool)) (fun k => k.1 ≤ te.length ∧ Wr k.2 (T ++ ([100, 101, 102] ++ [32] ++ s.toList) ++ Qca (te.take k.1))) (fun k => [(0, .ptr i 0), (3, .ptr i0 0), (22, .d (.sl (te.map encD))), (23, .d (.v (.int .i64 te.length))), (24, .d (.v (.int .i64 k.1)))]) (fun k => .box i0 40 [.d (.v (.int .i64 3)), .d (.v (.int .i64 a)), .d (.v (.string s)), .d (.sl (te.map encD)), .d (.v (.int .i64 ty.kind)), .d (.v (.int .i64 ty.at)), .d (.v (.string ty.name)), .d (.v (.int .i64 ty.num)), .d (.sl (ty.sub.map encD)), .d (.sl (co.map encD)), .d (.sl (ro.map encD))] :: wrS i g 94 k.2) (fun k => te.length - k.1) (0, o1) ⟨Nat.zero_le _, by simpa [txts, Qca] using hW1⟩ ?_ ?_ ?_
  ·exact sU
  ·simp only [List.cons_append, List.nil_append]
   exact dR
  ·rintro ⟨k, o⟩ ⟨hk, hWk⟩
   simp only at hk hWk ⊢
   clear hW1
   by_cases hlt : k < te.length
   ·have hx := Qbn hlt
    have hc : ((k : Int) < (te.length : Int)) := by omega
    have hn : (0 : Int) ≤ (k : Int) := by omega
    refine go_ ?_
    refine Jd ?_
    intro i2 hi2
    simp only [Rh] at hi2
    refine go_ ?_
    refine Qaa ?_
    refine Qad ?_
    refine Qac 2 (⟨hWk, Qaw [⟨#[32, 40]⟩] (by simp)⟩) ?_
    intro o5 hW5
    refine go_ ?_
    refine Qac 2 (⟨hW5, it k hlt⟩) ?_
    intro o6 hW6
    refine go_ ?_
    refine Qad ?_
    refine Qac 2 (⟨hW6, Qaw [⟨#[41]⟩] (by simp)⟩) ?_
    intro oz hWz
    have hin := Qbf hlt (by omega)
    refine go_ ?_
    refine ⟨(k + 1, oz), ⟨by simp only; omega, ?_⟩, by simp only; omega, ?_, ?_⟩
    ·simp only [Qkk hlt]
     simpa [txts] using hWz
    ·simp only
     repeat (first | exact Js _ | refine Jr (by simp [PF.get]; rfl) (by first | rfl | (simp [hin]; done) | fail) ?_)
    ·simp only [List.cons_append, List.nil_append]
     exact dR
   ·have hc : ¬ ((k : Int) < (te.length : Int)) := by omega
    rw [List.take_of_length_le (by omega)] at hWk
    refine go_ ?_
    refine Qad ?_
    refine Qac 1 (⟨hWk, Qaw [⟨#[32, 58, 32]⟩] (by simp)⟩) ?_
    intro o2 hW2
    refine go_ ?_
    refine Qac 1 (⟨hW2, hw⟩) ?_
    intro o3 hW3
    refine go_ ?_
    refine Qad ?_
    refine Qac 1 (⟨hW3, Qaw [⟨#[32, 123, 10]⟩] (by simp)⟩) ?_
    intro o4 hW4
    clear hWk hW2 hW3 hk hlt
    refine go_ ?_
    refine Qay (ι := Nat × (List UInt8 × Bool)) (fun k => k.1 ≤ co.length ∧ Wr k.2 (T ++ ([100, 101, 102] ++ [32] ++ s.toList) ++ Qca te ++ [32, 58, 32] ++ exL ty 0 ++ [32, 123, 10] ++ Qdk (co.take k.1))) (fun k => [(0, .ptr i 0), (3, .ptr i0 0), (57, .d (.sl (co.map encD))), (58, .d (.v (.int .i64 co.length))), (59, .d (.v (.int .i64 k.1)))]) (fun k => .box i0 40 [.d (.v (.int .i64 3)), .d (.v (.int .i64 a)), .d (.v (.string s)), .d (.sl (te.map encD)), .d (.v (.int .i64 ty.kind)), .d (.v (.int .i64 ty.at)), .d (.v (.string ty.name)), .d (.v (.int .i64 ty.num)), .d (.sl (ty.sub.map encD)), .d (.sl (co.map encD)), .d (.sl (ro.map encD))] :: wrS i g 94 k.2) (fun k => co.length - k.1) (0, o4) ⟨Nat.zero_le _, by simpa [txts, Qdk] using hW4⟩ ?_ ?_ ?_
    ·exact sU
    ·simp only [List.cons_append, List.nil_append]
     exact dR
    ·rintro ⟨k, o⟩ ⟨hk, hWk⟩
     simp only at hk hWk ⊢
     clear hW4
     by_cases hlt : k < co.length
     ·have hx := Qbn hlt
      have hc : ((k : Int) < (co.length : Int)) := by omega
      have hn : (0 : Int) ≤ (k : Int) := by omega
      refine go_ ?_
      refine Jd ?_
      intro i2 hi2
      simp only [Rh] at hi2
      refine go_ ?_
      refine Qaa ?_
      refine Qad ?_
      refine Qac 2 (⟨hWk, Qaw [⟨#[32, 32]⟩] (by simp)⟩) ?_
      intro o5 hW5
      refine go_ ?_
      refine Qac 2 (⟨hW5, ic k hlt⟩) ?_
      intro o6 hW6
      refine go_ ?_
      refine Qad ?_
      refine Qac 2 (⟨hW6, Qaw [⟨#[59, 10]⟩] (by simp)⟩) ?_
      intro oz hWz
      have hin := Qbf hlt (by omega)
      refine go_ ?_
      refine ⟨(k + 1, oz), ⟨by simp only; omega, ?_⟩, by simp only; omega, ?_, ?_⟩
      ·simp only [Qkv hlt]
       simpa [txts] using hWz
      ·simp only
       repeat (first | exact Js _ | refine Jr (by simp [PF.get]; rfl) (by first | rfl | (simp [hin]; done) | fail) ?_)
      ·simp only [List.cons_append, List.nil_append]
       exact dR
     ·have hc : ¬ ((k : Int) < (co.length : Int)) := by omega
      rw [List.take_of_length_le (by omega)] at hWk
      have hW7 := hWk
      generalize o = o7 at hW7 ⊢
      clear hWk hk hlt
      refine go_ ?_
      refine Qay (ι := Nat × (List UInt8 × Bool)) (fun k => k.1 ≤ ro.length ∧ Wr k.2 (T ++ ([100, 101, 102] ++ [32] ++ s.toList) ++ Qca te ++ [32, 58, 32] ++ exL ty 0 ++ [32, 123, 10] ++ Qdk co ++ Qet (ro.take k.1))) (fun k => [(0, .ptr i 0), (3, .ptr i0 0), (78, .d (.sl (ro.map encD))), (79, .d (.v (.int .i64 ro.length))), (80, .d (.v (.int .i64 k.1)))]) (fun k => .box i0 40 [.d (.v (.int .i64 3)), .d (.v (.int .i64 a)), .d (.v (.string s)), .d (.sl (te.map encD)), .d (.v (.int .i64 ty.kind)), .d (.v (.int .i64 ty.at)), .d (.v (.string ty.name)), .d (.v (.int .i64 ty.num)), .d (.sl (ty.sub.map encD)), .d (.sl (co.map encD)), .d (.sl (ro.map encD))] :: wrS i g 94 k.2) (fun k => ro.length - k.1) (0, o7) ⟨Nat.zero_le _, by simpa [txts, Qet] using hW7⟩ ?_ ?_ ?_
      ·exact sU
      ·simp only [List.cons_append, List.nil_append]
       exact dR
      ·rintro ⟨k, o⟩ ⟨hk, hWk⟩
       simp only at hk hWk ⊢
       clear hW7
       by_cases hlt : k < ro.length
       ·have hx := Qbn hlt
        have hc : ((k : Int) < (ro.length : Int)) := by omega
        have hn : (0 : Int) ≤ (k : Int) := by omega
        refine go_ ?_
        refine Jd ?_
        intro i2 hi2
        simp only [Rh] at hi2
        refine go_ ?_
        refine Qaa ?_
        refine Qac 2 (⟨hWk, ir k hlt⟩) ?_
        intro oz hWz
        have hin := Qbf hlt (by omega)
        refine go_ ?_
        refine ⟨(k + 1, oz), ⟨by simp only; omega, ?_⟩, by simp only; omega, ?_, ?_⟩
        ·simp only [Qln hlt]
         simpa [txts] using hWz
        ·simp only
         repeat (first | exact Js _ | refine Jr (by simp [PF.get]; rfl) (by first | rfl | (simp [hin]; done) | fail) ?_)
        ·simp only [List.cons_append, List.nil_append]
         exact dR
       ·have hc : ¬ ((k : Int) < (ro.length : Int)) := by omega
        rw [List.take_of_length_le (by omega)] at hWk
        refine go_ ?_
        refine Qad ?_
        refine Qac 1 (⟨hWk, Qaw [⟨#[125, 10]⟩] (by simp)⟩) ?_
        intro o8 hW8
        refine go_ ?_
        refine Qaz (by simp) (by simp only [Tryz.results66]; rfl) (by simp [resP]; rfl) dR ⟨rfl, o8, ?_, rfl⟩
        rw [HE.out]
        simpa [txts, kwL] using hW8
theorem tright6_p (d : Dc) : PCalls Tryz.prog 65 [aggD d] [] fun p s => p = .d (.v (.bool (Qce d))) ∧ s = [] := PCalls.flat trivial fun K w vs ha => by
 obtain ⟨v, rfl, hv⟩ := ha.one
 obtain ⟨cs, rfl, hc⟩ := Qkn hv
 exact dright_any _ d cs w hc
def Qeh : List Dc → List UInt8
 | [] => []
 | t :: ts => declL t ++ Qeh ts
theorem filesL_app (a b : List Dc) : Qeh (a ++ b) = Qeh a ++ Qeh b := by
 induction a with
 | nil => rfl
 | cons x a ih => simp only [List.cons_append, Qeh, ih, List.append_assoc]
theorem filesL_take {l : List Dc} {k : Nat} (h : k < l.length) : Qeh (l.take (k + 1)) = Qeh (l.take k) ++ declL l[k] := by
 rw [List.take_succ_eq_append_getElem h, filesL_app]
 simp [Qeh]
def fileR (l : List Dc) : PV := if l.all Qce then Qfm (Qeh l) else .tup [.d (.v (.string ⟨#[]⟩)), .d (.v (.int .i64 5))]
theorem filex_p (l : List Dc) (hl : l.length ≤ 1000000) : PCalls Tryz.prog 41 [.d (slD l)] [] fun p s => p = fileR l ∧ s = [] := by
  have HE := Hh (show fileR l = if l.all Qce then Qfm (Qeh l) else .tup [.d (.v (.string ⟨#[]⟩)), .d (.v (.int .i64 5))] from rfl)
  generalize fileR l = q at *
  simp only [slD]
  refine pG Tryz.func41 Tryz.ntmps41 ?_
  refine Qay (ι := Nat) (fun k => k ≤ l.length ∧ (l.take k).all Qce = true) (fun k => [(0, .d (.sl (l.map encD))), (9, .d (.sl (l.map encD))), (10, .d (.v (.int .i64 l.length))), (11, .d (.v (.int .i64 k)))]) (fun _ => []) (fun k => l.length - k) 0 ⟨Nat.zero_le _, by simp⟩ ?_ ?_ ?_
  · exact sU
  · exact dR
  · rintro k ⟨hk, hall⟩
    by_cases hlt : k < l.length
    · have hx := Qbn hlt
      have hc : ((k : Int) < (l.length : Int)) := by omega
      have hn : (0 : Int) ≤ (k : Int) := by omega
      have hin := Qbf hlt (by omega)
      have HA := Hh hall
      clear hall
      refine go_ ?_
      refine Jd ?_
      intro i2 hi2
      refine go_ ?_
      refine Qaa ?_
      refine Jb (tright6_p l[k]) ?_
      cases hr : Qce l[k] with
      | true =>
        have HR := Hh hr
        clear hr
        refine go_ ?_
        refine ⟨k + 1, ⟨by omega, ?_⟩, by omega, ?_, ?_⟩
        · rw [Qhv Qce l k hlt, HA.out, HR.out]; rfl
        · repeat (first | exact Js _ | refine Jr (by simp [PF.get]; rfl) (by first | rfl | (simp [hin]; done) | fail) ?_)
        · exact dR
      | false =>
        have hno : l.all Qce = false := Qgx k hlt hr
        rw [hno] at HE
        clear hno
        have HR := Hh hr
        clear hr
        refine go_ ?_
        refine rT Tryz.results41 ?_
        exact ⟨HE.out.symm, rfl⟩
    · have hc : ¬ ((k : Int) < (l.length : Int)) := by omega
      rw [List.take_of_length_le (by omega)] at hall
      rw [hall] at HE
      have hd : ∀ (k : Nat) (h : k < l.length), WC 66 [aggD l[k]] (declL l[k]) := fun k h => decl_w _ (List.all_eq_true.1 hall _ (List.getElem_mem h))
      clear hall
      refine go_ ?_
      refine Jc ?_
      intro i1 hi1
      (first | refine Qq ?_ | refine Qr ?_)
      refine Qh ?_
      refine Qj ?_
      refine Qjg i1 0 5 1 eQ (by rfl) (by rfl) (by intro g; simp [St.setBox, *]; rfl) (by decide) ?_
      intro g hg
      refine PW_perm (st' := wrS i1 g 94 ([], false)) (List.Perm.swap _ _ _) ?_
      refine go_ ?_
      refine Qay (ι := Nat × (List UInt8 × Bool)) (fun k => k.1 ≤ l.length ∧ Wr k.2 (Qeh (l.take k.1))) (fun k => [(6, .ptr i1 0), (21, .d (.sl (l.map encD))), (22, .d (.v (.int .i64 l.length))), (23, .d (.v (.int .i64 k.1)))]) (fun k => wrS i1 g 94 k.2) (fun k => l.length - k.1) (0, ([], false)) ⟨Nat.zero_le _, wr0⟩ ?_ ?_ ?_
      · exact sU
      · exact dR
      · clear hlt hc hk
        rintro ⟨k, o⟩ ⟨hk, hWk⟩
        simp only at hk hWk ⊢
        by_cases hlt : k < l.length
        · have hx := Qbn hlt
          have hc : ((k : Int) < (l.length : Int)) := by omega
          have hn : (0 : Int) ≤ (k : Int) := by omega
          have hin := Qbf hlt (by omega)
          refine go_ ?_
          refine Jd ?_
          intro i2 hi2
          refine go_ ?_
          refine Qaa ?_
          refine Qac 1 (⟨hWk, hd k hlt⟩) ?_
          intro o3 hW3
          refine go_ ?_
          refine ⟨(k + 1, o3), ⟨by simp only; omega, ?_⟩, by simp only; omega, ?_, ?_⟩
          · simp only [filesL_take hlt]
            exact hW3
          · simp only
            repeat (first | exact Js _ | refine Jr (by simp [PF.get]; rfl) (by first | rfl | (simp [hin]; done) | fail) ?_)
          · simp only [List.cons_append, List.nil_append]
            exact dR
        · have hc : ¬ ((k : Int) < (l.length : Int)) := by omega
          rw [List.take_of_length_le (by omega)] at hWk
          refine go_ ?_
          obtain ⟨s', e', het⟩ := Qkg (Qeh l)
          have he := end_p i1 g o _ hWk
          rw [het] at he HE
          refine Qks 0 (he) (by simp only [List.cons_append, List.nil_append, List.take_succ_cons, List.take_zero]; rfl) (by rfl) (by decide) rfl eQ (by first | (simp [PV.norm1, PV.norm0, aggD, slD, Jg, Jj, Jh, Ji, Jf]; done) | fail) rfl ?_
          refine go_ ?_
          refine rT Tryz.results41 ?_
          exact ⟨HE.out.symm, rfl⟩
theorem pdecl_p (d : Dc) : PCalls Tryz.prog 17 [aggD d] [] fun p s => p = fileR [d] ∧ s = [] := by
 have hf := filex_p [d] (by simp)
 have hs : ∃ s e, fileR [d] = .tup [.d (.v (.string s)), .d (.v (.int .i64 e))] := by
  unfold fileR
  split
  ·exact Qkg _
  ·exact ⟨_, _, rfl⟩
 obtain ⟨s', e', he⟩ := hs
 rw [he] at hf ⊢
 simp only [aggD, Ji, List.map_cons, List.map_nil]
 refine pG Tryz.func17 Tryz.ntmps17 ?_
 refine Jc ?_
 intro i0 hi0
 refine go_ ?_
 refine Qad ?_
 refine Qah (hf) ?_
 refine rT Tryz.results17 ?_
 exact ⟨rfl, rfl⟩
def okB6 (b : Bd) : Bool := okN6 b.ty
theorem lbinds6_any (S0 : Nat → Prop) (l : List Bd) (v : Value) (w : World) (hv : RepS S0 w v l) (hl30 : l.length ≤ 1000) : Calls Tryz.prog 29 #[v] w fun e w' => ∃ u, e = .returned (.tuple #[u, .bool (l.all okB6)]) ∧ RepS (fun b => w.heap.size ≤ b) w' u (if l.all okB6 then l else []) ∧ Below w.heap.size w w' := by
  obtain ⟨i0, hi, hz0, hz1, hz2⟩ := info_parts infoB
  obtain ⟨a, cap, rfl, h1, h2⟩ := hv.shape
  have hll : l.length ≤ 9223372036854775807 := by omega
  have HV := Lib.hid hv
  have L30 := Lib.hid hl30
  have RLF : l.all okB6 = false → (if l.all okB6 then l else []) = [] := fun h => by rw [h]; rfl
  have RLT : l.all okB6 = true → (if l.all okB6 then l else []) = l := fun h => by rw [h]; rfl
  have HF := Lib.hid RLF
  have HTT := Lib.hid RLT
  clear RLF RLT
  generalize (if l.all okB6 then l else []) = rl at *
  obtain ⟨res, HR⟩ : ∃ r, Hid (l.all okB6 = r) := ⟨_, rfl⟩
  rw [HR.out]
  clear hv h1 h2 hl30
  go_enter Tryz.func29, Tryz.ntmps29
  go_wp2_with fail
  go_loopw [4, 5] (fun u i wr => ∃ (k : Nat) (x : Later w), k ≤ l.length ∧ i = .int .i64 k ∧ wr = x.w ∧ Own (fun b => w.heap.size ≤ b) 122 w.heap.size u (l.take k) x.w ∧ Hid ((l.take k).all okB6 = true)) (fun _ i _ => l.length - (intOf i).toNat)
  case atStart => exact ⟨0, ⟨_, (Below.refl _ _).alloc (Nat.le_refl _) _⟩, Nat.zero_le _, rfl, rfl, own_made (Nat.le_refl _), rfl⟩
  case round =>
    obtain ⟨k, x, hk, rfl, rfl, hown, HA⟩ := hrel
    by_cases hlt : k < l.length
    · obtain ⟨bb, off, a', n', c', rfl, e0w, e1w, e2w, e3w, e4w, e5w, e6w, hns, htyw⟩ := bd_at HV.out k hlt
      have hbb : bb < w.heap.size := World.block_lt_of_cell? w _ e0w
      have mvw : ∀ {p : Addr} {v : Value}, w.cell? p = some v → x.w.cell? p = some v := fun c => (x.b.cell (World.block_lt_of_cell? w _ c)).trans c
      have e0 := mvw e0w
      have e1 := mvw e1w
      have e2 := mvw e2w
      have e3 := mvw e3w
      have e4 := mvw e4w
      have e5 := mvw e5w
      have e6 := mvw e6w
      have hty := htyw.later x.b
      clear mvw e0w e1w e2w e3w e4w e5w e6w htyw
      have hts := Rep.toC _ _ hty
      have hnk : l[k].ty.name.size ≤ maxLen := by obtain ⟨_, _, _, _, _, h⟩ := Qcc hts; exact h
      have hb0 : (0 : Int) ≤ k := by omega
      have hb1 : (k : Int) < l.length := by omega
      have hstep := Qhv okB6 l k hlt
      rw [HA.out, Bool.true_and] at hstep
      have HO := Lib.hid hown
      have HOF := Lib.hid (of6_any l[k].ty _ _ hts)
      clear hown hts hty
      cases hk1 : okN6 l[k].ty with
      | false =>
        have fin : Hid (res = false) := by show _ = _; rw [← HR.out, Qgx (p := okB6) k hlt hk1]
        rw [hk1] at HOF
        clear hk1 hstep
        go_wp2_with fail
        refine HOF.out.mono ?_
        rintro e w5 ⟨v5, rfl, hr5, hb5⟩
        obtain ⟨a5, n5, c5, rfl⟩ := hr5.form
        go_wp2_with fail
        go_ret2
        exact ⟨_, ret_vb fin.out.symm, by rw [HF.out (by rw [HR.out]; exact fin.out)]; exact RepS.nil, x.b.trans ((hb5.alloc hb5.size _).mono x.b.size)⟩
      | true =>
        have HK1 := Lib.hid hk1
        rw [hk1] at HOF
        rw [show okB6 l[k] = true from hk1] at hstep
        have HA2 := Lib.hid hstep
        clear hk1 hstep
        go_wp2_with fail
        refine HOF.out.mono ?_
        rintro e w5 ⟨v5, rfl, hr5, hb5⟩
        obtain ⟨a5, n5, c5, rfl⟩ := hr5.form
        rw [(ok6_same HK1.out).1] at hr5
        have hz := x.b.size
        have hz5 := hb5.size
        have hw2 : Below x.w.heap.size x.w (w5.alloc (.cells #[.int .i64 l[k].ty.kind, .int .i64 l[k].ty.at, .string l[k].ty.name, .int .i64 l[k].ty.num, .slice a5 n5 c5] 31)) := hb5.alloc hb5.size _
        have E1 : Below (w5.alloc (.cells #[.int .i64 l[k].ty.kind, .int .i64 l[k].ty.at, .string l[k].ty.name, .int .i64 l[k].ty.num, .slice a5 n5 c5] 31)).heap.size (w5.alloc (.cells #[.int .i64 l[k].ty.kind, .int .i64 l[k].ty.at, .string l[k].ty.name, .int .i64 l[k].ty.num, .slice a5 n5 c5] 31)) ((w5.alloc (.cells #[.int .i64 l[k].ty.kind, .int .i64 l[k].ty.at, .string l[k].ty.name, .int .i64 l[k].ty.num, .slice a5 n5 c5] 31)).alloc (.cells #[.string l[k].name, .int .i64 l[k].at_, .int .i64 l[k].ty.kind, .int .i64 l[k].ty.at, .string l[k].ty.name, .int .i64 l[k].ty.num, .slice a5 n5 c5] 122)).drew := ((Below.refl _ _).alloc (Nat.le_refl _) _).drew
        have hbx : Box5 31 (w5.alloc (.cells #[.int .i64 l[k].ty.kind, .int .i64 l[k].ty.at, .string l[k].ty.name, .int .i64 l[k].ty.num, .slice a5 n5 c5] 31)) w5.heap.size (.int .i64 l[k].ty.kind) (.int .i64 l[k].ty.at) (.string l[k].ty.name) (.int .i64 l[k].ty.num) (.slice a5 n5 c5) := Box5.new _ _ _ _ _ _ _
        obtain ⟨q0, q1, q2, q3, q4⟩ := hbx.cells
        have KEEP : Hid (∀ w', Below (w5.alloc (.cells #[.int .i64 l[k].ty.kind, .int .i64 l[k].ty.at, .string l[k].ty.name, .int .i64 l[k].ty.num, .slice a5 n5 c5] 31)).heap.size (w5.alloc (.cells #[.int .i64 l[k].ty.kind, .int .i64 l[k].ty.at, .string l[k].ty.name, .int .i64 l[k].ty.num, .slice a5 n5 c5] 31)) w' → w'.cell? ⟨bb, off + k * 7, none⟩ = some (.string l[k].name) ∧ w'.cell? ⟨bb, off + k * 7 + 1, none⟩ = some (.int .i64 l[k].at_) ∧ w'.cell? ⟨w5.heap.size, 0, none⟩ = some (.int .i64 l[k].ty.kind) ∧ w'.cell? ⟨w5.heap.size, 1, none⟩ = some (.int .i64 l[k].ty.at) ∧ w'.cell? ⟨w5.heap.size, 2, none⟩ = some (.string l[k].ty.name) ∧ w'.cell? ⟨w5.heap.size, 3, none⟩ = some (.int .i64 l[k].ty.num) ∧ w'.cell? ⟨w5.heap.size, 4, none⟩ = some (.slice a5 n5 c5)) := fun w' h =>
          have mv : ∀ {p : Addr} {v : Value}, (w5.alloc (.cells #[.int .i64 l[k].ty.kind, .int .i64 l[k].ty.at, .string l[k].ty.name, .int .i64 l[k].ty.num, .slice a5 n5 c5] 31)).cell? p = some v → w'.cell? p = some v := fun c => (h.cell (World.block_lt_of_cell? (w5.alloc (.cells #[.int .i64 l[k].ty.kind, .int .i64 l[k].ty.at, .string l[k].ty.name, .int .i64 l[k].ty.num, .slice a5 n5 c5] 31)) _ c)).trans c
          have mx : ∀ {p : Addr} {v : Value}, x.w.cell? p = some v → (w5.alloc (.cells #[.int .i64 l[k].ty.kind, .int .i64 l[k].ty.at, .string l[k].ty.name, .int .i64 l[k].ty.num, .slice a5 n5 c5] 31)).cell? p = some v := fun c => (hw2.cell (World.block_lt_of_cell? x.w _ c)).trans c
          ⟨mv (mx e0), mv (mx e1), mv q0, mv q1, mv q2, mv q3, mv q4⟩
        have hrep : Rep (fun b => x.w.heap.size ≤ b) (w5.alloc (.cells #[.int .i64 l[k].ty.kind, .int .i64 l[k].ty.at, .string l[k].ty.name, .int .i64 l[k].ty.num, .slice a5 n5 c5] 31)) l[k] [.string l[k].name, .int .i64 l[k].at_, .int .i64 l[k].ty.kind, .int .i64 l[k].ty.at, .string l[k].ty.name, .int .i64 l[k].ty.num, .slice a5 n5 c5] := (rep_bd.2 ⟨_, rfl, hns, hnk, hr5⟩ : Rep _ w5 l[k] _).later ((Below.refl _ _).alloc (Nat.le_refl _) _)
        have hone0 := (RepS.one (T := 122) hrep).sub (S' := fun b => x.w.heap.size ≤ b) fun b hb _ => by
          rcases hb with hb | hb
          · exact hb
          · rw [hb]; simp; omega
        rw [show (w5.alloc (.cells #[.int .i64 l[k].ty.kind, .int .i64 l[k].ty.at, .string l[k].ty.name, .int .i64 l[k].ty.num, .slice a5 n5 c5] 31)).heap.size = w5.heap.size + 1 from by simp] at hone0
        have hone := hone0.later (w' := ((w5.alloc (.cells #[.int .i64 l[k].ty.kind, .int .i64 l[k].ty.at, .string l[k].ty.name, .int .i64 l[k].ty.num, .slice a5 n5 c5] 31)).alloc (.cells #[.string l[k].name, .int .i64 l[k].at_, .int .i64 l[k].ty.kind, .int .i64 l[k].ty.at, .string l[k].ty.name, .int .i64 l[k].ty.num, .slice a5 n5 c5] 122)).drew) (Below.refl _ _).drew
        have hlt2 := HO.out.lt
        have hS3 : ∀ d ∈ [l[k]], ∀ cs, Rep (fun b => x.w.heap.size ≤ b) ((w5.alloc (.cells #[.int .i64 l[k].ty.kind, .int .i64 l[k].ty.at, .string l[k].ty.name, .int .i64 l[k].ty.num, .slice a5 n5 c5] 31)).alloc (.cells #[.string l[k].name, .int .i64 l[k].at_, .int .i64 l[k].ty.kind, .int .i64 l[k].ty.at, .string l[k].ty.name, .int .i64 l[k].ty.num, .slice a5 n5 c5] 122)).drew d cs → Rep (fun b => w.heap.size ≤ b ∧ u4.ownBlock ≠ some b) ((w5.alloc (.cells #[.int .i64 l[k].ty.kind, .int .i64 l[k].ty.at, .string l[k].ty.name, .int .i64 l[k].ty.num, .slice a5 n5 c5] 31)).alloc (.cells #[.string l[k].name, .int .i64 l[k].at_, .int .i64 l[k].ty.kind, .int .i64 l[k].ty.at, .string l[k].ty.name, .int .i64 l[k].ty.num, .slice a5 n5 c5] 122)).drew d cs :=
          fun d _ cs h => h.sub fun b hb _ => ⟨by omega, fun e => by have := (hlt2 b e).2; omega⟩
        have HO3 := Lib.hid ((HO.out.later hw2).later E1)
        have HONE := Lib.hid hone
        have HS3 := Lib.hid hS3
        have HW3 := Lib.hid (x.b.trans ((hw2.trans (E1.mono hw2.size)).mono x.b.size))
        have HE1 := Lib.hid E1
        have HL3 : Hid ((l.take k).length + 1 ≤ 2000) := by have := L30.out; show _ ≤ _; rw [List.length_take]; omega
        have KEEP2 : Hid (∀ w', ((w5.alloc (.cells #[.int .i64 l[k].ty.kind, .int .i64 l[k].ty.at, .string l[k].ty.name, .int .i64 l[k].ty.num, .slice a5 n5 c5] 31)).alloc (.cells #[.string l[k].name, .int .i64 l[k].at_, .int .i64 l[k].ty.kind, .int .i64 l[k].ty.at, .string l[k].ty.name, .int .i64 l[k].ty.num, .slice a5 n5 c5] 122)).drew.grownBy w' u4.ownBlock → w'.cell? ⟨bb, off + k * 7, none⟩ = some (.string l[k].name) ∧ w'.cell? ⟨bb, off + k * 7 + 1, none⟩ = some (.int .i64 l[k].at_) ∧ w'.cell? ⟨w5.heap.size, 0, none⟩ = some (.int .i64 l[k].ty.kind) ∧ w'.cell? ⟨w5.heap.size, 1, none⟩ = some (.int .i64 l[k].ty.at) ∧ w'.cell? ⟨w5.heap.size, 2, none⟩ = some (.string l[k].ty.name) ∧ w'.cell? ⟨w5.heap.size, 3, none⟩ = some (.int .i64 l[k].ty.num) ∧ w'.cell? ⟨w5.heap.size, 4, none⟩ = some (.slice a5 n5 c5)) := fun w' h =>
          have mv : ∀ {p : Addr} {v : Value}, ((w5.alloc (.cells #[.int .i64 l[k].ty.kind, .int .i64 l[k].ty.at, .string l[k].ty.name, .int .i64 l[k].ty.num, .slice a5 n5 c5] 31)).alloc (.cells #[.string l[k].name, .int .i64 l[k].at_, .int .i64 l[k].ty.kind, .int .i64 l[k].ty.at, .string l[k].ty.name, .int .i64 l[k].ty.num, .slice a5 n5 c5] 122)).drew.cell? p = some v → u4.ownBlock ≠ some p.block → w'.cell? p = some v := fun c hne => h.cell c (fun e => hne e.symm)
          have hne1 : u4.ownBlock ≠ some bb := fun e => by have := (hlt2 _ e).1; omega
          have hne2 : u4.ownBlock ≠ some w5.heap.size := fun e => by have := (hlt2 _ e).2; omega
          have K := KEEP.out _ E1
          ⟨mv K.1 hne1, mv K.2.1 hne1, mv K.2.2.1 hne2, mv K.2.2.2.1 hne2, mv K.2.2.2.2.1 hne2, mv K.2.2.2.2.2.1 hne2, mv K.2.2.2.2.2.2 hne2⟩
        have hx0 := (KEEP.out (w5.alloc (.cells #[.int .i64 l[k].ty.kind, .int .i64 l[k].ty.at, .string l[k].ty.name, .int .i64 l[k].ty.num, .slice a5 n5 c5] 31)) (Below.refl _ _)).1
        have hx1 := (KEEP.out (w5.alloc (.cells #[.int .i64 l[k].ty.kind, .int .i64 l[k].ty.at, .string l[k].ty.name, .int .i64 l[k].ty.num, .slice a5 n5 c5] 31)) (Below.refl _ _)).2.1
        clear hr5 hb5 hw2 E1 hrep hone hone0 hS3 hlt2 hbx
        go_wp2_with fail
        go_region_held3 (fun w' => w'.cell? ⟨bb, off + k * 7, none⟩ = some (.string l[k].name) ∧ w'.cell? ⟨bb, off + k * 7 + 1, none⟩ = some (.int .i64 l[k].at_) ∧ w'.cell? ⟨w5.heap.size, 0, none⟩ = some (.int .i64 l[k].ty.kind) ∧ w'.cell? ⟨w5.heap.size, 1, none⟩ = some (.int .i64 l[k].ty.at) ∧ w'.cell? ⟨w5.heap.size, 2, none⟩ = some (.string l[k].ty.name) ∧ w'.cell? ⟨w5.heap.size, 3, none⟩ = some (.int .i64 l[k].ty.num) ∧ w'.cell? ⟨w5.heap.size, 4, none⟩ = some (.slice a5 n5 c5)) (first | go_keep | exact KEEP.out _ ((Below.refl _ _).drew) | exact KEEP.out _ HE1.out | exact KEEP2.out _ hg2) ((refine step_push rfl (.tmp 26) (.tmp 39) 43 rfl 122 i0 (.agg #[.string ByteArray.empty, .int .i64 0, .int .i64 0, .int .i64 0, .string ByteArray.empty, .int .i64 0, .slice none 0 0]) 88 Tryz.underlying43 hi hz0 hz1 hz2 rfl (by decide) HO3.out _ [l[k]] HONE.out (by rfl) (by rfl) HS3.out (by have := HL3.out; unfold maxLen; simp at this ⊢; omega) (by have := HL3.out; simp at this ⊢; omega) HW3.out.size ?_; intro v2 w2 hown2 hb2 hg2 hap2))
        go_wp2_with fail
        have hown3 : Own (fun b => w.heap.size ≤ b) 122 w.heap.size v2 (l.take (k + 1)) w2 := by rw [List.take_succ_eq_append_getElem hlt]; exact hown2
        have hbf := HW3.out.trans hb2
        clear hb2 hg2 hap2 hown2
        go_roundw
        case rel => exact ⟨k + 1, ⟨_, hbf⟩, by omega, by go_num, rfl, hown3, HA2⟩
        case measure => simp [intOf]; omega
    · obtain rfl : k = l.length := by omega
      rw [List.take_length] at hown HA
      have fin : Hid (res = true) := by show _ = _; rw [← HR.out, HA.out]
      have hres := hown.done.sub (S' := fun b => w.heap.size ≤ b) (fun b hb _ => hb.elim id id)
      have HX := Lib.hid x.b
      have HRES := Lib.hid hres
      go_wp2_with fail
      go_ret2
      exact ⟨_, ret_vb fin.out.symm, by rw [HTT.out (by rw [HR.out]; exact fin.out)]; exact HRES.out, HX.out⟩
def Qdz (l : List Bd) : Bool := l.all okB6
def Qhz (l : List Bd) : List Bd := if l.all okB6 then l else []
theorem cvBs6_ok {l : List Bd} (h : Qdz l = true) : Qhz l = l := by unfold Qhz; unfold Qdz at h; rw [if_pos h]
def cvN6 (t : Nd) : Nd := (budT t 600).1
theorem cvN6_ok {t : Nd} (h : okN6 t = true) : cvN6 t = t := (ok6_same h).1
theorem lof6_p (t : Nd) : PCalls Tryz.prog 10 [aggD t] [] fun p s => p = .tup [aggD (cvN6 t), .d (.v (.bool (okN6 t)))] ∧ s = [] := of6_p t
theorem lbinds6_p (l : List Bd) (hl : l.length ≤ 1000) : PCalls Tryz.prog 29 [.d (slD l)] [] fun p s => p = .tup [.d (slD (Qhz l)), .d (.v (.bool (Qdz l)))] ∧ s = [] := by
 refine PCalls.data fun K w vs ha => ?_
 obtain ⟨v, rfl, hv⟩ := ha.one
 have hv' : RepS (fun _ => True) w v l := by cases hv with | d h => exact repS_rel (by decide) h
 refine (lbinds6_any _ l v w hv' hl).mono ?_
 rintro e w' ⟨u, rfl, hr, hb⟩
 exact ⟨_, rfl, hb, fun K' hK => tup2 (agg_form hK (by decide) hr) (.d (.v trivial))⟩
def okRw6 (r : Rw) : Bool := okN6 r.body && decide (r.pats.length ≤ 30) && r.pats.all okN6
def Qgu (d : Dc) : Bool := decide (d.tele.length ≤ 30 ∧ d.cons.length ≤ 30 ∧ d.rows.length ≤ 40) && (Qdz d.tele && d.rows.all okRw6) && Qdz d.cons && okN6 d.ty
def convR6 (r : Rw) (ps : List (List D)) : List D := [.v (.int .i64 r.at_), .sl ps, .v (.bool r.has), .v (.int .i64 (cvN6 r.body).kind), .v (.int .i64 (cvN6 r.body).at), .v (.string (cvN6 r.body).name), .v (.int .i64 (cvN6 r.body).num), .sl ((cvN6 r.body).sub.map encD)]
def acc6 (a : Bool) (l : List Rw) : Bool := a && l.all okRw6
def rowsI (d : Dc) (x : Nat × List (List D)) : Prop := x.1 ≤ d.rows.length ∧ x.2.length = x.1 ∧ (∀ row ∈ x.2, row.length = 8) ∧ (acc6 (Qdz d.tele) (d.rows.take x.1) = true → x.2 = (d.rows.take x.1).map encD)
def cvE (q : Nd) : List D := encD (cvN6 q)
theorem cvE_eq (q : Nd) : cvE q = [.v (.int .i64 (cvN6 q).kind), .v (.int .i64 (cvN6 q).at), .v (.string (cvN6 q).name), .v (.int .i64 (cvN6 q).num), .sl ((cvN6 q).sub.map encD)] := Jg _
theorem cvE_len (q : Nd) : (cvE q).length = 5 := by rw [cvE_eq]; rfl
theorem convR6_ok {r : Rw} (h : okRw6 r = true) : convR6 r (r.pats.map cvE) = encD r := by
 unfold okRw6 at h
 simp only [Bool.and_eq_true, List.all_eq_true] at h
 unfold convR6
 rw [Jh, cvN6_ok h.1.1]
 have : r.pats.map cvE = r.pats.map encD := List.map_congr_left fun q hq => by unfold cvE; rw [cvN6_ok (h.2 q hq)]
 rw [this]
theorem decl6_p (d : Dc) : PCalls Tryz.prog 11 [aggD d] [] fun p s => (∃ q, p = .tup [.agg q, .d (.v (.bool (Qgu d)))] ∧ q.length = 11 ∧ q.all PV.one = true ∧ (Qgu d = true → q = (encD d).map .d)) ∧ s = [] := by
  simp only [aggD, Ji, List.map_cons, List.map_nil]
  refine pG Tryz.func11 Tryz.ntmps11 ?_
  refine Jc ?_
  intro i0 hi0
  refine Jd ?_
  intro i1 hi1
  simp only [Rh, Rg] at hi1
  refine go_ ?_
  by_cases hb : d.tele.length ≤ 30 ∧ d.cons.length ≤ 30 ∧ d.rows.length ≤ 40
  rotate_left
  · have hok : Qgu d = false := by simp [Qgu, hb]
    rcases (show 30 < d.tele.length ∨ (d.tele.length ≤ 30 ∧ 30 < d.cons.length) ∨ (d.tele.length ≤ 30 ∧ d.cons.length ≤ 30 ∧ 40 < d.rows.length) by omega) with h1 | ⟨h1, h2⟩ | ⟨h1, h2, h3⟩
    · have h1' : (30 : Int) < d.tele.length := by omega
      refine go_ ?_
      refine Qaa ?_
      refine rT Tryz.results11 ?_
      rw [hok]
      exact ⟨⟨_, rfl, rfl, rfl, fun h => by cases h⟩, rfl⟩
    · have h1' : ¬ (30 : Int) < d.tele.length := by omega
      have h2' : (30 : Int) < d.cons.length := by omega
      refine go_ ?_
      refine Qaa ?_
      refine rT Tryz.results11 ?_
      rw [hok]
      exact ⟨⟨_, rfl, rfl, rfl, fun h => by cases h⟩, rfl⟩
    · have h1' : ¬ (30 : Int) < d.tele.length := by omega
      have h2' : ¬ (30 : Int) < d.cons.length := by omega
      have h3' : (40 : Int) < d.rows.length := by omega
      refine go_ ?_
      refine Qaa ?_
      refine rT Tryz.results11 ?_
      rw [hok]
      exact ⟨⟨_, rfl, rfl, rfl, fun h => by cases h⟩, rfl⟩
  obtain ⟨h1, h2, h3⟩ := hb
  have h1' : ¬ (30 : Int) < d.tele.length := by omega
  have h2' : ¬ (30 : Int) < d.cons.length := by omega
  have h3' : ¬ (40 : Int) < d.rows.length := by omega
  refine go_ ?_
  refine Qah (lbinds6_p d.tele (by omega)) ?_
  refine Qah (lbinds6_p d.cons (by omega)) ?_
  refine Qah (lof6_p d.ty) ?_
  refine Jd ?_
  intro i2 hi2
  simp only [Rh, Rg] at hi2
  refine go_ ?_
  refine Qaa ?_
  refine Jd ?_
  intro i3 hi3
  simp only [Rh, Rg] at hi3
  refine go_ ?_
  refine Qaa ?_
  refine Qjg i3 10 84 8 eQ (by rfl) (by rfl) (by intro g; simp [St.setBox, *]; rfl) (by decide) ?_
  intro g hg
  refine Qay (ι := Nat × List (List D)) (rowsI d) (fun x => [(1, .ptr i0 0), (2, .ptr i1 0), (5, .d (.v (.bool (acc6 (Qdz d.tele) (d.rows.take x.1))))), (7, .d (.v (.bool (Qdz d.cons)))), (9, .d (.v (.bool (okN6 d.ty)))), (10, .ptr i3 0), (11, .d (.v (.int .i64 x.1)))])
    (fun x => [.tok g 84 8 x.1, .box i3 46 [.d (.v (.int .i64 d.kind)), .d (.v (.int .i64 d.at_)), .d (.v (.string d.name)), .d (.sl ((Qhz d.tele).map encD)), .d (.v (.int .i64 (cvN6 d.ty).kind)), .d (.v (.int .i64 (cvN6 d.ty).at)), .d (.v (.string (cvN6 d.ty).name)), .d (.v (.int .i64 (cvN6 d.ty).num)), .d (.sl ((cvN6 d.ty).sub.map encD)), .d (.sl ((Qhz d.cons).map encD)), .own g x.2], .box i1 46 [.d (.v (.int .i64 0)), .d (.v (.int .i64 0)), .d (.v (.string ByteArray.empty)), .nils, .d (.v (.int .i64 0)), .d (.v (.int .i64 0)), .d (.v (.string ByteArray.empty)), .d (.v (.int .i64 0)), .nils, .nils, .nils], .box i0 40 [.d (.v (.int .i64 d.kind)), .d (.v (.int .i64 d.at_)), .d (.v (.string d.name)), .d (.sl (d.tele.map encD)), .d (.v (.int .i64 d.ty.kind)), .d (.v (.int .i64 d.ty.at)), .d (.v (.string d.ty.name)), .d (.v (.int .i64 d.ty.num)), .d (.sl (d.ty.sub.map encD)), .d (.sl (d.cons.map encD)), .d (.sl (d.rows.map encD))]])
    (fun x => d.rows.length - x.1) (0, []) ⟨Nat.zero_le _, rfl, by simp, fun _ => rfl⟩ ?_ ?_ ?_
  · repeat (first | exact Js _ | refine Jr (by simp [PF.get]; rfl) (by first | rfl | (simp [acc6]; done) | fail) ?_)
  · exact dR
  · rintro ⟨k, rs⟩ hI
    have HI := Hh hI
    have hk : k ≤ d.rows.length := hI.1
    have hrl : rs.length = k := hI.2.1
    clear hI
    simp only at *
    by_cases hlt : k < d.rows.length
    · have hx : (d.rows.map encD)[k]? = some (encD d.rows[k]) := Qbn hlt
      have hc : ((k : Int) < (d.rows.length : Int)) := by omega
      have hn : (0 : Int) ≤ (k : Int) := by omega
      have hin := Qbf hlt (by omega)
      have HACC := Hh (show acc6 (Qdz d.tele) (d.rows.take (k + 1)) = (acc6 (Qdz d.tele) (d.rows.take k) && okRw6 d.rows[k]) by
        simp only [acc6]
        rw [List.take_succ_eq_append_getElem hlt, List.all_append]
        simp [Bool.and_assoc])
      have HR := Hh (show okRw6 d.rows[k] = (okN6 d.rows[k].body && decide (d.rows[k].pats.length ≤ 30) && d.rows[k].pats.all okN6) from rfl)
      generalize hA0 : acc6 (Qdz d.tele) (d.rows.take k) = A at *
      have HA0 := Hh hA0
      clear hA0
      refine go_ ?_
      refine Qah (lof6_p d.rows[k].body) ?_
      refine Jd ?_
      intro i4 hi4
      simp only [Rh, Rg, Rf] at hi4
      refine go_ ?_
      refine Qaa ?_
      refine Qjw (J := Qcz [(i0, _), (i4, _)]) [(0, .a), (1, .a), (2, .a), (3, .a), (4, .a), (5, .a), (6, .a), (7, .a), (8, .a), (9, .a), (10, .a), (11, .a), (12, .a), (13, .a), (14, .e), (15, .e)] (by kernel_rfl) (by rfl) (by kernel_rfl) (by (repeat (first | exact Qbr _ | refine Jt (by simp [St.box?, *] <;> rfl) ?_))) ?_
      refine jG ?_
      refine PJ_alloc rfl (by decide) rfl (by simp; rfl) (fun i hi => by simp only [Rh, Rg, Rf] at hi; (repeat (first | exact Qbr _ | refine Jt (by simp [St.box?, *] <;> rfl) ?_))) ?_
      intro i5 hi5
      simp only [Rh, Rg, Rf] at hi5
      refine PJs ?_
      refine jG ?_
      refine go_ ?_
      generalize hF : okN6 d.rows[k].body = Fb at *
      have HF := Hh hF
      clear hF
      by_cases hall : A = true ∧ Fb = true ∧ d.rows[k].pats.length ≤ 30
      · obtain ⟨rfl, rfl, hp⟩ := hall
        have hp' : (d.rows[k].pats.length : Int) ≤ 30 := by omega
        refine go_ ?_
        refine Qjg i5 1 31 5 eQ (by rfl) (by rfl) (by intro g; simp [St.setBox, *]; rfl) (by decide) ?_
        intro g2 hg2
        simp only [St.freshT_tok, St.freshT_box, St.freshT_nil] at hg2
        refine Qay (ι := Nat × Bool) (fun x => x.1 ≤ d.rows[k].pats.length ∧ x.2 = (d.rows[k].pats.take x.1).all okN6) (fun x => [(1, .ptr i0 0), (2, .ptr i1 0), (5, .d (.v (.bool x.2))), (7, .d (.v (.bool (Qdz d.cons)))), (9, .d (.v (.bool (okN6 d.ty)))), (10, .ptr i3 0), (11, .d (.v (.int .i64 k))), (14, .ptr i5 0), (15, .d (.v (.int .i64 x.1)))])
          (fun x => [.tok g2 31 5 x.1, .box i5 84 [.d (.v (.int .i64 d.rows[k].at_)), .own g2 ((d.rows[k].pats.map cvE).take x.1), .d (.v (.bool d.rows[k].has)), .d (.v (.int .i64 (cvN6 d.rows[k].body).kind)), .d (.v (.int .i64 (cvN6 d.rows[k].body).at)), .d (.v (.string (cvN6 d.rows[k].body).name)), .d (.v (.int .i64 (cvN6 d.rows[k].body).num)), .d (.sl ((cvN6 d.rows[k].body).sub.map encD))], .tok g 84 8 k, .box i3 46 [.d (.v (.int .i64 d.kind)), .d (.v (.int .i64 d.at_)), .d (.v (.string d.name)), .d (.sl ((Qhz d.tele).map encD)), .d (.v (.int .i64 (cvN6 d.ty).kind)), .d (.v (.int .i64 (cvN6 d.ty).at)), .d (.v (.string (cvN6 d.ty).name)), .d (.v (.int .i64 (cvN6 d.ty).num)), .d (.sl ((cvN6 d.ty).sub.map encD)), .d (.sl ((Qhz d.cons).map encD)), .own g rs], .box i1 46 [.d (.v (.int .i64 0)), .d (.v (.int .i64 0)), .d (.v (.string ByteArray.empty)), .nils, .d (.v (.int .i64 0)), .d (.v (.int .i64 0)), .d (.v (.string ByteArray.empty)), .d (.v (.int .i64 0)), .nils, .nils, .nils], .box i0 40 [.d (.v (.int .i64 d.kind)), .d (.v (.int .i64 d.at_)), .d (.v (.string d.name)), .d (.sl (d.tele.map encD)), .d (.v (.int .i64 d.ty.kind)), .d (.v (.int .i64 d.ty.at)), .d (.v (.string d.ty.name)), .d (.v (.int .i64 d.ty.num)), .d (.sl (d.ty.sub.map encD)), .d (.sl (d.cons.map encD)), .d (.sl (d.rows.map encD))]])
          (fun x => d.rows[k].pats.length - x.1) (0, true) ⟨Nat.zero_le _, rfl⟩ ?_ ?_ ?_
        · exact sU
        · exact dR
        · rintro ⟨m, a⟩ ⟨hm, hA⟩
          simp only at hm hA ⊢
          by_cases hml : m < d.rows[k].pats.length
          · have hcm : (m : Int) < (d.rows[k].pats.length : Int) := by omega
            have hnm : (0 : Int) ≤ (m : Int) := by omega
            have hxm : (d.rows[k].pats.map encD)[m]? = some (encD d.rows[k].pats[m]) := Qbn hml
            have hinm := Qbf hml (by omega)
            have HAm := Hh (show (d.rows[k].pats.take (m + 1)).all okN6 = (a && okN6 d.rows[k].pats[m]) by
              rw [List.take_succ_eq_append_getElem hml, List.all_append, ← hA]; simp)
            have HPm := Hh (show (d.rows[k].pats.map cvE).take (m + 1) = (d.rows[k].pats.map cvE).take m ++ [cvE d.rows[k].pats[m]] by
              rw [List.take_succ_eq_append_getElem (by simpa using hml)]; simp)
            rw [cvE_eq d.rows[k].pats[m]] at HPm
            have HA := Hh hA
            clear hA
            cases a with
            | true =>
              refine go_ ?_
              refine Qah (lof6_p d.rows[k].pats[m]) ?_
              refine Jd ?_
              intro i6 hi6
              simp only [Rh, Rg, Rf] at hi6
              refine go_ ?_
              refine Qaa ?_
              refine Qad ?_
              refine Qch (m + 1) ?_ ?_ ?_ ?_
              · simp; omega
              · exact rows_take cvE_len
              · exact Qdj rfl
              refine go_ ?_
              refine Qaa ?_
              refine ⟨(m + 1, okN6 d.rows[k].pats[m]), ⟨hml, by rw [HAm.out]; rfl⟩, by simp only; omega, ?_, ?_⟩
              · simp only
                repeat (first | exact Js _ | refine Jr (by simp [PF.get]; rfl) (by first | rfl | (simp [hinm]; done) | fail) ?_)
              · simp only
                rw [HPm.out]
                exact dR
            | false =>
              have HB := Hh (show (true && okRw6 d.rows[k]) = false by
                rw [HR.out]
                have : d.rows[k].pats.all okN6 = false := by
                  rw [← List.take_append_drop m d.rows[k].pats, List.all_append, ← HA.out]; rfl
                rw [this]; simp)
              refine go_ ?_
              refine Qad ?_
              refine Qch (k + 1) ?_ ?_ ?_ ?_
              · simp [hrl]
              · exact HI.out.2.2.1
              · exact Qdj rfl
              refine go_ ?_
              refine Qaa ?_
              refine ⟨(k + 1, rs ++ [convR6 d.rows[k] ((d.rows[k].pats.map cvE).take m)]), ⟨hlt, by simp [hrl], ?_, ?_⟩, by simp only; omega, ?_, ?_⟩
              · intro row hrow
                rcases List.mem_append.1 hrow with hrow | hrow
                · exact HI.out.2.2.1 row hrow
                · rw [List.mem_singleton.1 hrow]; rfl
              · exact fun h => by simp only at h; rw [HACC.out, HB.out] at h; cases h
              · simp only
                repeat (first | exact Js _ | refine Jr (by simp [PF.get]; rfl) (by first | rfl | (simp [HACC.out, HB.out, hin]; done) | fail) ?_)
              · simp only
                exact dR
          · have hml' : m = d.rows[k].pats.length := by omega
            have hcm : ¬ ((m : Int) < (d.rows[k].pats.length : Int)) := by omega
            have HM := Hh (show (d.rows[k].pats.map cvE).take m = d.rows[k].pats.map cvE from List.take_of_length_le (by rw [List.length_map]; omega))
            have HB := Hh (show okRw6 d.rows[k] = a by
              rw [HR.out, hA, List.take_of_length_le (by omega), decide_eq_true hp]; rfl)
            clear hA hml'
            refine go_ ?_
            refine Qad ?_
            refine Qch (k + 1) ?_ ?_ ?_ ?_
            · simp [hrl]
            · exact HI.out.2.2.1
            · exact Qdj rfl
            refine go_ ?_
            refine Qaa ?_
            refine ⟨(k + 1, rs ++ [convR6 d.rows[k] ((d.rows[k].pats.map cvE).take m)]), ⟨hlt, by simp [hrl], ?_, ?_⟩, by simp only; omega, ?_, ?_⟩
            · intro row hrow
              rcases List.mem_append.1 hrow with hrow | hrow
              · exact HI.out.2.2.1 row hrow
              · rw [List.mem_singleton.1 hrow]; rfl
            · intro h
              simp only at h ⊢
              rw [HACC.out] at h
              simp only [Bool.true_and] at h
              have e := HI.out.2.2.2 HA0.out
              simp only at e
              rw [e, HM.out, convR6_ok h, List.take_succ_eq_append_getElem hlt, List.map_append]
              rfl
            · simp only
              repeat (first | exact Js _ | refine Jr (by simp [PF.get]; rfl) (by first | rfl | (simp [HACC.out, HB.out, hin]; done) | fail) ?_)
            · simp only
              exact dR
      · have HB := Hh (show (A && okRw6 d.rows[k]) = false by
          rw [HR.out]
          cases A with
          | false => rfl
          | true =>
            cases Fb with
            | false => rfl
            | true =>
              have : ¬ d.rows[k].pats.length ≤ 30 := fun h => hall ⟨rfl, rfl, h⟩
              rw [decide_eq_false this]; rfl)
        obtain ⟨B, hBB⟩ : ∃ B, B = false := ⟨_, rfl⟩
        rcases (show A = false ∨ (A = true ∧ Fb = false) ∨ (A = true ∧ Fb = true ∧ 30 < d.rows[k].pats.length) by
          cases A with
          | false => exact .inl rfl
          | true =>
            cases Fb with
            | false => exact .inr (.inl ⟨rfl, rfl⟩)
            | true =>
              have : ¬ d.rows[k].pats.length ≤ 30 := fun h => hall ⟨rfl, rfl, h⟩
              exact .inr (.inr ⟨rfl, rfl, by omega⟩)) with rfl | ⟨rfl, rfl⟩ | ⟨rfl, rfl, hp⟩
        all_goals
          try have hp' : ¬ (d.rows[k].pats.length : Int) ≤ 30 := by omega
          refine go_ ?_
          refine Qay (ι := Unit) (fun _ => True) (fun _ => [(1, .ptr i0 0), (2, .ptr i1 0), (5, .d (.v (.bool false))), (7, .d (.v (.bool (Qdz d.cons)))), (9, .d (.v (.bool (okN6 d.ty)))), (10, .ptr i3 0), (11, .d (.v (.int .i64 k))), (14, .ptr i5 0), (15, .d (.v (.int .i64 0)))]) (fun _ => [.box i5 84 [.d (.v (.int .i64 d.rows[k].at_)), .nils, .d (.v (.bool d.rows[k].has)), .d (.v (.int .i64 (cvN6 d.rows[k].body).kind)), .d (.v (.int .i64 (cvN6 d.rows[k].body).at)), .d (.v (.string (cvN6 d.rows[k].body).name)), .d (.v (.int .i64 (cvN6 d.rows[k].body).num)), .d (.sl ((cvN6 d.rows[k].body).sub.map encD))], .tok g 84 8 k, .box i3 46 [.d (.v (.int .i64 d.kind)), .d (.v (.int .i64 d.at_)), .d (.v (.string d.name)), .d (.sl ((Qhz d.tele).map encD)), .d (.v (.int .i64 (cvN6 d.ty).kind)), .d (.v (.int .i64 (cvN6 d.ty).at)), .d (.v (.string (cvN6 d.ty).name)), .d (.v (.int .i64 (cvN6 d.ty).num)), .d (.sl ((cvN6 d.ty).sub.map encD)), .d (.sl ((Qhz d.cons).map encD)), .own g rs], .box i1 46 [.d (.v (.int .i64 0)), .d (.v (.int .i64 0)), .d (.v (.string ByteArray.empty)), .nils, .d (.v (.int .i64 0)), .d (.v (.int .i64 0)), .d (.v (.string ByteArray.empty)), .d (.v (.int .i64 0)), .nils, .nils, .nils], .box i0 40 [.d (.v (.int .i64 d.kind)), .d (.v (.int .i64 d.at_)), .d (.v (.string d.name)), .d (.sl (d.tele.map encD)), .d (.v (.int .i64 d.ty.kind)), .d (.v (.int .i64 d.ty.at)), .d (.v (.string d.ty.name)), .d (.v (.int .i64 d.ty.num)), .d (.sl (d.ty.sub.map encD)), .d (.sl (d.cons.map encD)), .d (.sl (d.rows.map encD))]]) (fun _ => 0) () trivial ?_ ?_ ?_
          · exact sU
          · exact dR
          · intro _ _
            by_cases hz : 0 < d.rows[k].pats.length
            · have hz1 : (0 : Int) < (d.rows[k].pats.length : Int) := by omega
              have hz2 : ¬ d.rows[k].pats = [] := List.ne_nil_of_length_pos hz
              refine go_ ?_
              refine Qad ?_
              refine Qch (k + 1) ?_ ?_ ?_ ?_
              · simp [hrl]
              · exact HI.out.2.2.1
              · exact Qdj rfl
              refine go_ ?_
              refine Qaa ?_
              refine ⟨(k + 1, rs ++ [convR6 d.rows[k] []]), ⟨hlt, by simp [hrl], ?_, ?_⟩, by simp only; omega, ?_, ?_⟩
              · intro row hrow
                rcases List.mem_append.1 hrow with hrow | hrow
                · exact HI.out.2.2.1 row hrow
                · rw [List.mem_singleton.1 hrow]; rfl
              · exact fun h => by simp only at h; rw [HACC.out, HB.out] at h; cases h
              · simp only
                repeat (first | exact Js _ | refine Jr (by simp [PF.get]; rfl) (by first | rfl | (simp [HACC.out, HB.out, hin]; done) | fail) ?_)
              · simp only
                exact dR
            · have hz1 : ¬ (0 : Int) < (d.rows[k].pats.length : Int) := by omega
              have hz2 : decide (0 < d.rows[k].pats.length) = false := decide_eq_false hz
              refine go_ ?_
              refine Qad ?_
              refine Qch (k + 1) ?_ ?_ ?_ ?_
              · simp [hrl]
              · exact HI.out.2.2.1
              · exact Qdj rfl
              refine go_ ?_
              refine Qaa ?_
              refine ⟨(k + 1, rs ++ [convR6 d.rows[k] []]), ⟨hlt, by simp [hrl], ?_, ?_⟩, by simp only; omega, ?_, ?_⟩
              · intro row hrow
                rcases List.mem_append.1 hrow with hrow | hrow
                · exact HI.out.2.2.1 row hrow
                · rw [List.mem_singleton.1 hrow]; rfl
              · exact fun h => by simp only at h; rw [HACC.out, HB.out] at h; cases h
              · simp only
                repeat (first | exact Js _ | refine Jr (by simp [PF.get]; rfl) (by first | rfl | (simp [HACC.out, HB.out, hin]; done) | fail) ?_)
              · simp only
                exact dR
    · have hkl : k = d.rows.length := by omega
      have hc : ¬ ((k : Int) < (d.rows.length : Int)) := by omega
      have hacc : acc6 (Qdz d.tele) (d.rows.take k) = acc6 (Qdz d.tele) d.rows := by rw [List.take_of_length_le (by omega)]
      have hfin : Qgu d = (acc6 (Qdz d.tele) d.rows && Qdz d.cons && okN6 d.ty) := by
        simp only [Qgu, acc6, decide_eq_true (show d.tele.length ≤ 30 ∧ d.cons.length ≤ 30 ∧ d.rows.length ≤ 40 from ⟨h1, h2, h3⟩), Bool.true_and]
      have hall : Qgu d = true → Qhz d.tele = d.tele ∧ Qhz d.cons = d.cons ∧ cvN6 d.ty = d.ty ∧ rs = d.rows.map encD := by
        intro h
        have h' := h
        rw [hfin] at h'
        simp only [Bool.and_eq_true] at h'
        have hr := HI.out.2.2.2 (by rw [← hacc] at h'; exact h'.1.1)
        rw [List.take_of_length_le (by omega)] at hr
        simp only [acc6, Bool.and_eq_true] at h'
        exact ⟨cvBs6_ok h'.1.1.1, cvBs6_ok h'.1.2, cvN6_ok h'.2, hr⟩
      rw [hacc]
      have HALL := Hh hall
      have HFIN := Hh hfin
      clear hall hfin hacc
      generalize hA : acc6 (Qdz d.tele) d.rows = A at *
      generalize hB : Qdz d.cons = B at *
      have HA := Hh hA
      have HB := Hh hB
      clear hA hB hkl
      cases A <;> cases B
      all_goals
        refine go_ ?_
        refine Qaa ?_
        refine rT Tryz.results11 ?_
        refine ⟨⟨_, (by rw [HFIN.out]; rfl), rfl, rfl, fun h => ?_⟩, rfl⟩
        obtain ⟨e1, e2, e3, e4⟩ := HALL.out h
        simp only [e1, e2, e3, e4, List.map_cons, List.map_nil, PV.norm0]
theorem list11' {l : List PV} (h : l.length = 11) : ∃ p0 p1 p2 p3 p4 p5 p6 p7 p8 p9 p10, l = [p0, p1, p2, p3, p4, p5, p6, p7, p8, p9, p10] := by
 match l, h with
 | [p0, p1, p2, p3, p4, p5, p6, p7, p8, p9, p10], _ => exact ⟨p0, p1, p2, p3, p4, p5, p6, p7, p8, p9, p10, rfl⟩
theorem decl6_ok {d : Dc} (h : Qgu d = true) : PCalls Tryz.prog 11 [aggD d] [] fun p s => p = .tup [aggD d, .d (.v (.bool true))] ∧ s = [] :=
 (decl6_p d).mono fun p s ⟨⟨q, h1, _, _, h2⟩, h3⟩ => ⟨by rw [h1, h2 h, h]; rfl, h3⟩
theorem decl6_any (d : Dc) : PCalls Tryz.prog 11 [aggD d] [] fun p s => (∃ q, p = .tup [.agg q, .d (.v (.bool (Qgu d)))] ∧ q.length = 11 ∧ q.all PV.one = true) ∧ s = [] :=
 (decl6_p d).mono fun p s ⟨⟨q, h1, h4, h5, h2⟩, h3⟩ => ⟨⟨q, h1, h4, h5⟩, h3⟩
end Go.Proofs.YtahhgpafjiljfaaGreat
