import Derived.Test.YtdklpbefbamchaaGreatBG
import Derived.Test.YtdklpbefbamchaaGreatBE1
import Derived.Test.YtdklpbefbamchaaGreatBS3
import Derived.Test.YtdklpbefbamchaaGreatBE4
import Derived.Test.YtdklpbefbamchaaGreatBS
import Derived.Test.YtdklpbefbamchaaGreatBA5
import Derived.Test.YtdklpbefbamchaaGreatBN
import Derived.Test.YtdklpbefbamchaaGreatT2
import Derived.Deep.RegionHeld3
import Derived.Test.YtdklpbefbamchaaGreatBA6
import Derived.Test.YtdklpbefbamchaaGreatBS2
import Derived.Test.YtdklpbefbamchaaGreatBE
import Derived.Maps.OwnOps
import Derived.Lib.SliceRun
import Derived.Test.YtdklpbefbamchaaGreatProg
import Derived.Test.YtdklpbefbamchaaGreatBU
import Derived.Test.YtdklpbefbamchaaGreatBE2
import Derived.Test.YtdklpbefbamchaaGreatBV
import Derived.Test.YtdklpbefbamchaaGreatBD
import Derived.Test.YtdklpbefbamchaaGreatBNd
import Derived.Test.YtdklpbefbamchaaGreatRows
import Derived.StillTailTactics
import Derived.BigQuiet
import Derived.Test.YtdklpbefbamchaaGreatBH
import Derived.Test.YtdklpbefbamchaaGreatBG1
set_option linter.unusedSimpArgs false
set_option linter.unusedVariables false
set_option maxHeartbeats 16000000
set_option maxRecDepth 100000
namespace Go.Proofs.YtdklpbefbamchaaGreat
open Go.RowKit
mutual
theorem pv_len : ∀ p : Pt, (pvT p).length ≤ pndT p
  | .mk k n _ sub _ => by
    simp only [pvT, pndT]
    have := Qfn sub
    split
    · simp only [List.length_singleton]; omega
    · omega
theorem Qfn : ∀ l : List Pt, (pvL l).length ≤ pndL l
  | [] => by simp only [pvL, pndL, List.length_nil]; omega
  | p :: ps => by
    have h1 := pv_len p
    have h2 := Qfn ps
    simp only [pvL, pndL, List.length_append]; omega
end
theorem rone_p : ∀ p : Pt, pndT p ≤ 100000 → PCalls Tryz.prog 79 [aggD p] [] fun r s => r = .d (.sl ((pvT p).map encD)) ∧ s = [] := by
 refine Pt.ind ?_
 intro k n a sub d ih hb
 simp only [pndT] at hb
 obtain ⟨R, hR⟩ : ∃ R, R = pvT (.mk k n a sub d) := ⟨_, rfl⟩
 rw [← hR]
 simp only [pvT] at hR
 simp only [aggD, Qap, Jl, List.map_cons, List.map_nil, Pt.kind_mk, Pt.num_mk, Pt.at_mk, Pt.sub_mk, Pt.t_mk]
 by_cases k1 : k = 1
 ·rw [if_pos k1] at hR
  subst hR k1
  clear ih hb
  refine PCalls.enter Tryz.func79 rfl Tryz.ntmps79 (by simp) ?_
  simp only [Qab]
  refine go_ ?_
  refine Jd ?_
  intro i0 hi0
  try simp only [Ja, Rh, Rg, Jb] at hi0
  refine go_ ?_
  refine Qao ?_
  refine go_ ?_
  refine Jm (by simp) (by simp only [Tryz.results79]; rfl) (by simp [resP, St.box?, PF.get, Jn, TyK.agg, *]; rfl) Nl ?_
  exact ⟨rfl, rfl⟩
 rw [if_neg k1] at hR
 have k1b : (k == 1) = false := beq_eq_false_iff_ne.2 k1
 have HR : Hid (R = [] ++ pvL (sub.drop 0)) := hR
 have hlen : ∀ p : Pt, (pvT p).length ≤ pndT p := pv_len
 have hlR : R.length ≤ 100000 := by rw [hR]; have := Qfn sub; omega
 have hsl := Qgm sub
 have IH : Hid (∀ s ∈ sub, PCalls Tryz.prog 79 [aggD s] [] fun r st => r = .d (.sl ((pvT s).map encD)) ∧ st = []) := fun s hs => ih s hs (by have := pnd_mem s hs; omega)
 clear hR ih k1 hlen
 refine PCalls.enter Tryz.func79 rfl Tryz.ntmps79 (by simp) ?_
 simp only [Qab]
 refine go_ ?_
 refine Jd ?_
 intro i0 hi0
 try simp only [Ja, Rh, Rg, Jb] at hi0
 refine go_ ?_
 refine Qdo ?_ (by decide) (by first | (simp [nev, nevA, nevB, Jp, PF.eval, PF.get, PF.wants, cPV, Qae, PV.rows, Qaf, evUn, Jq, Qah, Qag, Jn, TyK.agg, Qad, St.box?, St.tok?, St.setBox, St.setTok, Qac, spl, PV.ps, PV.one, Jo, aggD, slD, Jh, Jk, Ji, Jj, Jg, Jf, *]; done) | fail) (by simp; rfl) (by rfl) (by simp; rfl) (by rfl) (by decide)
 intro g hg
 refine go_ ?_
 refine Qak (ι := Nat × List Int) (fun y => y.1 ≤ sub.length ∧ Hid (R = y.2 ++ pvL (sub.drop y.1))) (fun y => [(1, .ptr i0 0), (3, .own g (y.2.map encD)), (4, .d (.v (.int .i64 (y.1 : Int))))]) (fun y => [.tok g 3 1 y.2.length, .box i0 44 [.d (.v (.int .i64 k)), .d (.v (.int .i64 n)), .d (.v (.int .i64 a)), .d (.sl (sub.map encD)), .d (.v (.int .i64 d.kind)), .d (.v (.int .i64 d.num)), .d (.sl (d.sub.map encD))]]) (fun y => sub.length - y.1) (0, []) ⟨Nat.zero_le _, HR.out⟩ ?_ ?_ ?_
 ·repeat (first | exact Jt _ | refine Js (by simp [PF.get]; rfl) (by first | rfl | (simp [*]; done) | fail) ?_)
 ·repeat (first | exact List.Sublist.refl _ | exact List.nil_sublist _ | refine List.Sublist.cons_cons _ ?_ | refine List.Sublist.cons _ ?_)
 rintro ⟨j, v⟩ ⟨hj, hR⟩
 simp only at hj hR ⊢
 clear HR
 have hvl : v.length ≤ 100000 := by have h := congrArg List.length hR.out; simp only [List.length_append] at h; omega
 by_cases hlt : j < sub.length
 ·have hxs := Qal hlt
  have hc : (j : Int) < sub.length := by omega
  have hn1 : (0 : Int) ≤ j := by omega
  have hin := wr64 (n := (j : Int) + 1) (by omega) (by omega)
  have hc1 := Lib.hid (IH.out _ (List.getElem_mem hlt))
  have hR2 : Hid (R = (v ++ pvT sub[j]) ++ pvL (sub.drop (j + 1))) := by show _ = _; rw [show R = _ from hR.out, List.drop_eq_getElem_cons hlt]; simp only [pvL, List.append_assoc]
  have hvl2 : (pvT sub[j]).length ≤ 100000 := by have h := congrArg List.length hR2.out; simp only [List.length_append] at h; omega
  simp only [aggD, Qap, Jl, List.map_cons, List.map_nil] at hc1
  clear hR
  generalize pvT sub[j] = q at *
  refine go_ ?_
  refine Jc (hc1.out) ?_
  refine go_ ?_
  refine Qbe (v.length + q.length) ?_ ?_ ?_ ?_
  ·simp
  ·exact Qfr (α := Int) rfl
  ·exact Qfr (α := Int) rfl
  refine go_ ?_
  refine ⟨(j + 1, v ++ q), ⟨hlt, hR2⟩, by simp only; omega, ?_, ?_⟩
  ·repeat (first | exact Jt _ | refine Js (by simp [PF.get]; rfl) (by first | rfl | (simp [*]; done) | fail) ?_)
  ·simp only [List.length_append]
   repeat (first | exact List.Sublist.refl _ | exact List.nil_sublist _ | refine List.Sublist.cons_cons _ ?_ | refine List.Sublist.cons _ ?_)
 ·have hc : ¬ (j : Int) < sub.length := by omega
  have hf : Hid (R = v) := by show _ = _; rw [show R = _ from hR.out, List.drop_of_length_le (by omega)]; simp only [pvL, List.append_nil]
  clear hR
  refine go_ ?_
  refine Jm (by simp) (by simp only [Tryz.results79]; rfl) (by simp [resP, St.box?, PF.get, Jn, TyK.agg, *]; rfl) Nl ?_
  exact ⟨by rw [hf.out]; rfl, rfl⟩
theorem Qjj (l : List Pt) (hb : pndL l ≤ 8000) (hs : ∀ p ∈ l, phgT p ≤ 128) : PCalls Tryz.prog 27 [.d (.sl (l.map encD))] [] fun r s => r = .d (.sl ((pvL l).map encD)) ∧ s = [] := by
 have HS : Hid (∀ p ∈ l, PCalls Tryz.prog 66 [aggD p] [] fun r s => r = .d (.v (.bool true)) ∧ s = []) := fun p hp => by
  have h := rpsmall_p p (by have := pnd_mem p hp; omega)
  rw [decide_eq_true (hs p hp)] at h; exact h
 have HO : Hid (∀ p ∈ l, PCalls Tryz.prog 79 [aggD p] [] fun r s => r = .d (.sl ((pvT p).map encD)) ∧ s = []) := fun p hp => rone_p p (by have := pnd_mem p hp; omega)
 obtain ⟨R, hR⟩ : ∃ R, R = pvL l := ⟨_, rfl⟩
 rw [← hR]
 have HR : Hid (R = [] ++ pvL (l.drop 0)) := hR
 have hlR : R.length ≤ 100000 := by rw [hR]; have := Qfn l; omega
 have hsl := Qgm l
 clear hR hs
 refine PCalls.enter Tryz.func27 rfl Tryz.ntmps27 (by simp) ?_
 simp only [Qab]
 refine go_ ?_
 refine Qdo ?_ (by decide) (by first | (simp [nev, nevA, nevB, Jp, PF.eval, PF.get, PF.wants, cPV, Qae, PV.rows, Qaf, evUn, Jq, Qah, Qag, Jn, TyK.agg, Qad, St.box?, St.tok?, St.setBox, St.setTok, Qac, spl, PV.ps, PV.one, Jo, aggD, slD, Jh, Jk, Ji, Jj, Jg, Jf, *]; done) | fail) (by simp; rfl) (by rfl) (by simp; rfl) (by rfl) (by decide)
 intro g hg
 refine go_ ?_
 refine Qak (ι := Nat × List Int) (fun y => y.1 ≤ l.length ∧ Hid (R = y.2 ++ pvL (l.drop y.1))) (fun y => [(0, .d (.sl (l.map encD))), (3, .own g (y.2.map encD)), (4, .d (.v (.int .i64 (y.1 : Int))))]) (fun y => [.tok g 3 1 y.2.length]) (fun y => l.length - y.1) (0, []) ⟨Nat.zero_le _, HR.out⟩ ?_ ?_ ?_
 ·repeat (first | exact Jt _ | refine Js (by simp [PF.get]; rfl) (by first | rfl | (simp [*]; done) | fail) ?_)
 ·repeat (first | exact List.Sublist.refl _ | exact List.nil_sublist _ | refine List.Sublist.cons_cons _ ?_ | refine List.Sublist.cons _ ?_)
 rintro ⟨j, v⟩ ⟨hj, hR⟩
 simp only at hj hR ⊢
 clear HR
 have hvl : v.length ≤ 100000 := by have h := congrArg List.length hR.out; simp only [List.length_append] at h; omega
 by_cases hlt : j < l.length
 ·have hxs := Qal hlt
  have hc : (j : Int) < l.length := by omega
  have hn1 : (0 : Int) ≤ j := by omega
  have hin := wr64 (n := (j : Int) + 1) (by omega) (by omega)
  have hc1 := Lib.hid (HS.out _ (List.getElem_mem hlt))
  have hc2 := Lib.hid (HO.out _ (List.getElem_mem hlt))
  have hR2 : Hid (R = (v ++ pvT l[j]) ++ pvL (l.drop (j + 1))) := by show _ = _; rw [show R = _ from hR.out, List.drop_eq_getElem_cons hlt]; simp only [pvL, List.append_assoc]
  have hvl2 : (pvT l[j]).length ≤ 100000 := by have h := congrArg List.length hR2.out; simp only [List.length_append] at h; omega
  simp only [aggD, Qap, Jl, List.map_cons, List.map_nil] at hc1 hc2
  clear hR
  generalize pvT l[j] = q at *
  refine go_ ?_
  refine Jc (hc1.out) ?_
  refine go_ ?_
  refine Jc (hc2.out) ?_
  refine go_ ?_
  refine Qbe (v.length + q.length) ?_ ?_ ?_ ?_
  ·simp
  ·exact Qfr (α := Int) rfl
  ·exact Qfr (α := Int) rfl
  refine go_ ?_
  refine ⟨(j + 1, v ++ q), ⟨hlt, hR2⟩, by simp only; omega, ?_, ?_⟩
  ·repeat (first | exact Jt _ | refine Js (by simp [PF.get]; rfl) (by first | rfl | (simp [*]; done) | fail) ?_)
  ·simp only [List.length_append]
   repeat (first | exact List.Sublist.refl _ | exact List.nil_sublist _ | refine List.Sublist.cons_cons _ ?_ | refine List.Sublist.cons _ ?_)
 ·have hc : ¬ (j : Int) < l.length := by omega
  have hf : Hid (R = v) := by show _ = _; rw [show R = _ from hR.out, List.drop_of_length_le (by omega)]; simp only [pvL, List.append_nil]
  clear hR
  refine go_ ?_
  refine Jm (by simp) (by simp only [Tryz.results27]; rfl) (by simp [resP, St.box?, PF.get, Jn, TyK.agg, *]; rfl) Nl ?_
  exact ⟨by rw [hf.out]; rfl, rfl⟩
theorem rLinear_p (l : List Pt) (hb : pndL l ≤ 8000) (hs : ∀ p ∈ l, phgT p ≤ 128) (hnd : (pvL l).Nodup) : PCalls Tryz.prog 23 [.d (.sl (l.map encD))] [] fun r s => r = .d (.v (.bool true)) ∧ s = [] := by
 have hV := Lib.hid (Qjj l hb hs)
 have hvl := Qfn l
 obtain ⟨v, hv⟩ : ∃ v, v = pvL l := ⟨_, rfl⟩
 rw [← hv] at hV hnd hvl
 have HN : Hid (∀ i j : Nat, j < i → (hi : i < v.length) → ∀ hj : j < v.length, (v[i] == v[j]) = false) := by
  intro i j hji hi hj
  rw [beq_eq_false_iff_ne]
  intro e
  have := (List.getElem_inj hnd (h₀ := hi) (h₁ := hj)).1 e
  omega
 clear hv hnd hs
 refine PCalls.enter Tryz.func23 rfl Tryz.ntmps23 (by simp) ?_
 simp only [Qab]
 refine go_ ?_
 refine Jc (hV.out) ?_
 refine go_ ?_
 refine Qak (ι := Nat) (fun y => y ≤ v.length) (fun y => [(3, .d (.sl (v.map encD))), (4, .d (.v (.int .i64 (y : Int))))]) (fun _ => []) (fun y => v.length - y) 0 (Nat.zero_le _) ?_ ?_ ?_
 ·repeat (first | exact Jt _ | refine Js (by simp [PF.get]; rfl) (by first | rfl | (simp [*]; done) | fail) ?_)
 ·repeat (first | exact List.Sublist.refl _ | exact List.nil_sublist _ | refine List.Sublist.cons_cons _ ?_ | refine List.Sublist.cons _ ?_)
 rintro i hi
 by_cases hlt : i < v.length
 ·have hx := Qal hlt
  simp only [Jf] at hx
  have hc : (i : Int) < v.length := by omega
  have hn : (0 : Int) ≤ i := by omega
  have hin := wr64 (n := (i : Int) + 1) (by omega) (by omega)
  refine go_ ?_
  refine Qak (ι := Nat) (fun y => y ≤ i) (fun y => [(3, .d (.sl (v.map encD))), (4, .d (.v (.int .i64 (i : Int)))), (5, .d (.v (.int .i64 (y : Int))))]) (fun _ => []) (fun y => i - y) 0 (Nat.zero_le _) ?_ ?_ ?_
  ·repeat (first | exact Jt _ | refine Js (by simp [PF.get]; rfl) (by first | rfl | (simp [*]; done) | fail) ?_)
  ·repeat (first | exact List.Sublist.refl _ | exact List.nil_sublist _ | refine List.Sublist.cons_cons _ ?_ | refine List.Sublist.cons _ ?_)
  rintro j hj
  by_cases hji : j < i
  ·have hjl : j < v.length := by omega
   have hxj := Qal hjl
   simp only [Jf] at hxj
   have hcj : (j : Int) < i := by omega
   have hcj2 : (j : Int) < v.length := by omega
   have hnj : (0 : Int) ≤ j := by omega
   have hinj := wr64 (n := (j : Int) + 1) (by omega) (by omega)
   have hne := HN.out i j hji hlt hjl
   refine go_ ?_
   refine Qan [(0, .a), (1, .a), (2, .a), (3, .a), (4, .a), (5, .a), (6, .a), (7, .a), (8, .a)] (by kernel_rfl) (by rfl) (by kernel_rfl) ?_
   refine go_ ?_
   exact ⟨j + 1, hji, by omega, by repeat (first | exact Jt _ | refine Js (by simp [PF.get]; rfl) (by first | rfl | (simp [*]; done) | fail) ?_), by repeat (first | exact List.Sublist.refl _ | exact List.nil_sublist _ | refine List.Sublist.cons_cons _ ?_ | refine List.Sublist.cons _ ?_)⟩
  ·have hcj : ¬ (j : Int) < i := by omega
   refine go_ ?_
   exact ⟨i + 1, hlt, by omega, by repeat (first | exact Jt _ | refine Js (by simp [PF.get]; rfl) (by first | rfl | (simp [*]; done) | fail) ?_), by repeat (first | exact List.Sublist.refl _ | exact List.nil_sublist _ | refine List.Sublist.cons_cons _ ?_ | refine List.Sublist.cons _ ?_)⟩
 ·have hc : ¬ (i : Int) < v.length := by omega
  refine go_ ?_
  refine Jm (by simp) (by simp only [Tryz.results23]; rfl) (by simp [resP, St.box?, PF.get, Jn, TyK.agg, *]; rfl) Nl ?_
  exact ⟨rfl, rfl⟩
theorem Rel.freeze {F : Fz} {st : St} {K : Kp} {w : World} {i : Nat} {E : TypeId} {ps : List PV} (h : Rel F (.box i E ps :: st) K w) :
  ∃ K', Ext F K w K' w ∧ Rel F st K' w ∧ ∀ (rows : List (List D)) (c es : Nat) (v : Value), RelV K w (.bsl i rows.length c) v → (∀ row ∈ rows, row.length = es) → (∀ (j : Nat) (d : D), rows.flatten[j]? = some d → ps[j]? = some (.d d)) → RelV K' w (.d (.sl rows)) v := by
 obtain ⟨b, arr, hb, hnf, hheap, hsz, hrel, hnk⟩ := h.ents (.box i E ps) (by simp)
 have hx : Ext F K w ⟨fun b' o => K.cell b' o ∨ (b' = b ∧ o < arr.size), K.box, K.own⟩ w := ⟨rfl, rfl, rfl, Nat.le_refl _, fun _ _ => rfl, fun _ _ h => ⟨.inl h, rfl⟩, fun b' o h => by
  rcases h with h | ⟨rfl, _⟩
  ·exact .inl h
  ·exact .inr hnf, fun _ _ h => h, fun g u h => ⟨u, h, .inl rfl⟩, fun _ _ => rfl⟩
 refine ⟨_, hx, ⟨fun b' o hc => ?_, h.ff, h.fin, h.fi, fun e he => ?_, ?_, ?_⟩, ?_⟩
 ·rcases hc with hc | ⟨rfl, ho⟩
  ·exact h.kc b' o hc
  ·rw [Qcq hheap]
   exact ⟨_, Array.getElem?_eq_getElem ho⟩
 ·refine (h.ents e (List.mem_cons_of_mem _ he)).keep hx (fun _ _ => rfl) (fun b' o hb' hc => ?_) fun _ _ => rfl
  rcases hc with hc | ⟨rfl, _⟩
  ·exact hc
  ·exfalso
   have hnb := h.nb
   rw [List.filterMap_cons] at hnb
   simp only [Ent.block, hb] at hnb
   rw [List.nodup_cons] at hnb
   exact hnb.1 (List.mem_filterMap.2 ⟨e, he, hb'⟩)
 ·have hnb := h.nb
  rw [List.filterMap_cons] at hnb
  simp only [Ent.block, hb] at hnb
  rw [List.nodup_cons] at hnb
  exact hnb.2
 ·have hnt := h.nt
  rw [List.filterMap_cons] at hnt
  simpa only [Ent.tid] using hnt
 ·intro rows c es v hv hl hp
  cases hv with
  | bsl hb2 h1 h2 =>
  rw [hb] at hb2
  obtain rfl := Option.some.inj hb2
  refine .d (rows_mk hheap h1 h2 hl fun i' j row d hi hj => ?_)
  have h3 := Qgh rows i' j row d hl hi hj
  have h4 := hp _ d h3
  have h5 : i' * es + j < arr.size := by rw [hsz]; exact (List.getElem?_eq_some_iff.1 h4).1
  refine ⟨.inr ⟨rfl, h5⟩, _, Array.getElem?_eq_getElem h5, ?_⟩
  have h6 := hrel _ _ _ h4 (Array.getElem?_eq_getElem h5)
  cases h6 with
  | d h7 => exact h7.mono fun b o h => ⟨.inl h, rfl⟩
theorem relV_agg4 {K : Kp} {w : World} {a b c d : PV} {v : Value} (h : RelV K w (.agg [a, b, c, d]) v) : ∃ x y z u, v = .agg #[x, y, z, u] ∧ RelV K w a x ∧ RelV K w b y ∧ RelV K w c z ∧ RelV K w d u := by
 cases h with
 | @agg _ vs hs hv =>
 obtain ⟨l⟩ := vs
 match l, hs with
 | [x, y, z, u], _ => exact ⟨x, y, z, u, rfl, hv 0 _ _ rfl rfl, hv 1 _ _ rfl rfl, hv 2 _ _ rfl rfl, hv 3 _ _ rfl rfl⟩
theorem relV_tup2 {K : Kp} {w : World} {a b : PV} {v : Value} (h : RelV K w (.tup [a, b]) v) : ∃ x y, v = .tuple #[x, y] ∧ RelV K w a x ∧ RelV K w b y := by
 cases h with
 | @tup _ vs hs hv =>
 obtain ⟨l⟩ := vs
 match l, hs with
 | [x, y], _ => exact ⟨x, y, rfl, hv 0 _ _ rfl rfl, hv 1 _ _ rfl rfl⟩
theorem PCalls.freeze4 {P : Program} {f : FuncId} {args : List PV} {st : St} {x y z e : PV} {E : TypeId} {rows : List (List D)} {es : Nat} (hl : ∀ row ∈ rows, row.length = es)
  (h : PCalls P f args st fun p s => ∃ i c X, p = .tup [.agg [x, y, z, .bsl i rows.length c], e] ∧ s = [.box i E (rows.flatten.map .d ++ X)]) : PCalls P f args st fun p s => p = .tup [.agg [x, y, z, .d (.sl rows)], e] ∧ s = [] := by
 intro F K w vs hr ha
 refine (h F K w vs hr ha).mono ?_
 rintro en w' ⟨v, K', p, st', rfl, hx, hr', hv, i, c, X, rfl, rfl⟩
 obtain ⟨K2, hx2, hr2, hf⟩ := hr'.freeze
 obtain ⟨v1, v2, rfl, h1, h2⟩ := relV_tup2 hv
 obtain ⟨a, b, cc, d, rfl, ha1, hb1, hc1, hd1⟩ := relV_agg4 h1
 have hd2 := hf rows c es d hd1 hl fun j dd hj => by
  rw [List.getElem?_append_left (by rw [List.length_map]; exact (List.getElem?_eq_some_iff.1 hj).1), List.getElem?_map, hj]; rfl
 refine ⟨_, K2, _, [], rfl, hx.trans hx2, hr2, ?_, rfl, rfl⟩
 refine tup2 ?_ (h2.mono hx2)
 refine .agg rfl fun i p v hp hv => ?_
 match i with
 | 0 => simp at hp hv; subst hp hv; exact ha1.mono hx2
 | 1 => simp at hp hv; subst hp hv; exact hb1.mono hx2
 | 2 => simp at hp hv; subst hp hv; exact hc1.mono hx2
 | 3 => simp at hp hv; subst hp hv; exact hd2
 | n + 4 => simp at hp
section
variable {P : Program} {J : St → Prop} {n : Nat} {ops : Array Oper} {Q : PF → St → Prop} {fr : PF} {st : St} {p : PV} {op : Op} {ty : TypeId} {pos : String} {after : Array Edge} {gd : Option (Nat × Bool)} {od : List (Nat × Kd)} {j d : Nat}
theorem PL_bb (h : Qaz P J n ops Q od ((d, p) :: fr) st) (ho : ops[j]? = some ⟨some d, op, ty, pos, after, gd⟩) (hd : d < n) (hw : PF.wants fr ops ⟨some d, op, ty, pos, after, gd⟩ = some true) (he : nevB P st fr.eval op = some p) : Qaz P J n ops Q ((j, .b) :: od) fr st :=
 ⟨_, ho, fun _ e => (by cases e; exact hd), .inr ⟨hw, p, Qgk (o := ⟨some d, op, ty, pos, after, gd⟩) he, h⟩⟩
end
theorem ask1_p (b : Nat) (B : List En) : PCalls Tryz.prog 83 [.ptr b 0, aggD (Pt.mk 1 0 0 [] zTm), aggD c29] [.box b 130 [.d (.sl (B.map encD)), .d (.v (.bool false)), .d (.v (.bool false)), .nils, .nils, .d (.v (.bool false))]] fun p s => p = .tup [] ∧ ∃ g i c X, s = [.box i 26 ([.d (.v (.int .i64 6)), .d (.v (.int .i64 1)), .d (.sl [])] ++ X), .tok g 3 1 1, .box b 130 [.d (.sl (B.map encD)), .d (.v (.bool false)), .d (.v (.bool false)), .own g [[.v (.int .i64 0)]], .bsl i 1 c, .d (.v (.bool false))]] := by
 have hC := Lib.hid (Qih c29)
 rw [show Qel c29 = c29 from by unfold Qel; rw [c29_sp.1]; rfl] at hC
 simp only [c29, zTm, aggD, Qap, Jl, List.map_cons, List.map_nil, Pt.kind_mk, Pt.num_mk, Pt.at_mk, Pt.sub_mk, Pt.t_mk, Tm.kind_mk, Tm.num_mk, Tm.sub_mk] at hC ⊢
 refine PCalls.enter Tryz.func83 rfl Tryz.ntmps83 (by simp) ?_
 simp only [Qab]
 refine go_ ?_
 refine Jd ?_
 intro i0 hi0
 try simp only [Ja, Rh, Rg, Jb] at hi0
 refine go_ ?_
 refine Jd ?_
 intro i1 hi1
 try simp only [Ja, Rh, Rg, Jb] at hi1
 refine gs_ ?_
 refine Qc ?_
 refine gs_ ?_
 refine Qc ?_
 refine gs_ ?_
 refine Qhf b 3 3 1 (by simp [nev, nevA, nevB, Jp, PF.eval, PF.get, PF.wants, cPV, Qae, PV.rows, Qaf, evUn, Jq, Qah, Qag, Jn, TyK.agg, Qad, St.box?, St.tok?, St.setBox, St.setTok, Qac, spl, PV.ps, PV.one, Jo, aggD, slD, Jh, Jk, Ji, Jj, Jg, Jf, *]; rfl) (by rfl) (by rfl) (by intro g; simp [St.setBox, *]; rfl) (by decide) ?_
 intro g hg
 refine go_ ?_
 refine Qan [(0, .a), (1, .a), (2, .a), (3, .a), (4, .a), (5, .b), (6, .a), (7, .b), (8, .a), (9, .e), (10, .a), (11, .a), (12, .a), (13, .e)] (by kernel_rfl) (by rfl) (by kernel_rfl) ?_
 refine go_ ?_
 refine Qbw ?_
 refine go_ ?_
 refine Qil 1 ?_ ?_ ?_ ?_
 ·simp
 ·simp
 ·exact Qbs rfl
 refine go_ ?_
 refine Qdp ?_
 refine go_ ?_
 refine Qim (J := Qcw [(i1, _)]) [(0, .a), (1, .a), (2, .a), (3, .a), (4, .b), (5, .a), (6, .a), (7, .a), (8, .a), (9, .e), (10, .a), (12, .a), (13, .a), (14, .a)] 11 15 [(15, .e)] [(11, .e)] (by kernel_rfl) (by decide) (by kernel_rfl) (by (repeat (first | exact Qam _ | refine Ju (by simp [St.box?, *] <;> rfl) ?_))) ?_
 repeat (first | with_reducible refine Qar ?_ | refine Qaq ?_ | refine Qax ?_ | refine Qaw ?_)
 refine PL_bb ?_ rfl (by decide) (by first | (simp [nev, nevA, nevB, Jp, PF.eval, PF.get, PF.wants, cPV, Qae, PV.rows, Qaf, evUn, Jq, Qah, Qag, Jn, TyK.agg, Qad, St.box?, St.tok?, St.setBox, St.setTok, Qac, spl, PV.ps, PV.one, Jo, aggD, slD, Jh, Jk, Ji, Jj, Jg, Jf, *]; done) | fail) (by simp [nev, nevA, nevB, Jp, PF.eval, PF.get, PF.wants, cPV, Qae, PV.rows, Qaf, evUn, Jq, Qah, Qag, Jn, TyK.agg, Qad, St.box?, St.tok?, St.setBox, St.setTok, Qac, spl, PV.ps, PV.one, Jo, aggD, slD, Jh, Jk, Ji, Jj, Jg, Jf, *]; rfl)
 repeat (first | with_reducible refine Qar ?_ | refine Qaq ?_ | refine Qax ?_ | refine Qaw ?_)
 refine Qcc (hC.out) ?_
 repeat (first | with_reducible refine Qar ?_ | refine Qaq ?_ | refine Qax ?_ | refine Qaw ?_)
 refine PL_bs ?_ rfl (by decide) rfl (by simp; rfl) (by rfl) (by simp; rfl) (by rfl) (by decide) (by decide) (by simp [nev, nevA, nevB, Jp, PF.eval, PF.get, PF.wants, cPV, Qae, PV.rows, Qaf, evUn, Jq, Qah, Qag, Jn, TyK.agg, Qad, St.box?, St.tok?, St.setBox, St.setTok, Qac, spl, PV.ps, PV.one, Jo, aggD, slD, Jh, Jk, Ji, Jj, Jg, Jf, *]; rfl) (by simp [Qcd, toDs, PV.toD]; rfl)
 repeat (first | with_reducible refine Qar ?_ | refine Qaq ?_ | refine Qax ?_ | refine Qaw ?_)
 refine PL_e rfl (by decide) (by first | (simp [nev, nevA, nevB, Jp, PF.eval, PF.get, PF.wants, cPV, Qae, PV.rows, Qaf, evUn, Jq, Qah, Qag, Jn, TyK.agg, Qad, St.box?, St.tok?, St.setBox, St.setTok, Qac, spl, PV.ps, PV.one, Jo, aggD, slD, Jh, Jk, Ji, Jj, Jg, Jf, *]; done) | fail) (Qjr rfl (by first | (simp [nev, nevA, nevB, Jp, PF.eval, PF.get, PF.wants, cPV, Qae, PV.rows, Qaf, evUn, Jq, Qah, Qag, Jn, TyK.agg, Qad, St.box?, St.tok?, St.setBox, St.setTok, Qac, spl, PV.ps, PV.one, Jo, aggD, slD, Jh, Jk, Ji, Jj, Jg, Jf, *]; done) | (simp [nev, nevA, nevB, Jp, PF.eval, PF.get, PF.wants, cPV, Qae, PV.rows, Qaf, evUn, Jq, Qah, Qag, Jn, TyK.agg, Qad, St.box?, St.tok?, St.setBox, St.setTok, Qac, spl, PV.ps, PV.one, Jo, aggD, slD, Jh, Jk, Ji, Jj, Jg, Jf, *]; rfl)) (by simp [nev, nevA, nevB, Jp, PF.eval, PF.get, PF.wants, cPV, Qae, PV.rows, Qaf, evUn, Jq, Qah, Qag, Jn, TyK.agg, Qad, St.box?, St.tok?, St.setBox, St.setTok, Qac, spl, PV.ps, PV.one, Jo, aggD, slD, Jh, Jk, Ji, Jj, Jg, Jf, *]; rfl) (by simp [PV.src, PV.rows]; rfl) (by simp; rfl) (by rfl) (by simp [Qce]) (by simp; rfl) (by decide) ?_ (by decide) (by decide) (by decide) fun i c hc1 hc2 hi => ⟨.inr ?_, ?_⟩)
 ·exact Qbs rfl
 ·simp only [Ja, Rg, Rh] at hi
  (repeat (first | exact Qam _ | refine Ju (by simp [St.box?, *] <;> rfl) ?_))
 simp only [Ja, Rg, Rh] at hi
 simp only [boxC, List.flatten_cons, List.flatten_nil, List.append_nil, List.map_cons, List.map_nil, List.cons_append, List.nil_append, List.length_singleton]
 generalize List.replicate (c * 3 - 1 * 3) PV.u = X
 have hc0 : (0 : Int) < c := by simp only [List.length_singleton] at hc1; omega
 repeat (first | with_reducible refine Qar ?_ | refine Qaq ?_ | refine Qax ?_ | refine Qaw ?_)
 constructor
 ·refine Qcl rfl rfl (by simp [nev, nevA, nevB, Jp, PF.eval, PF.get, PF.wants, cPV, Qae, PV.rows, Qaf, evUn, Jq, Qah, Qag, Jn, TyK.agg, Qad, St.box?, St.tok?, St.setBox, St.setTok, Qac, spl, PV.ps, PV.one, Jo, aggD, slD, Jh, Jk, Ji, Jj, Jg, Jf, *]; rfl) (by rfl) (by simp [nev, nevA, nevB, Jp, PF.eval, PF.get, PF.wants, cPV, Qae, PV.rows, Qaf, evUn, Jq, Qah, Qag, Jn, TyK.agg, Qad, St.box?, St.tok?, St.setBox, St.setTok, Qac, spl, PV.ps, PV.one, Jo, aggD, slD, Jh, Jk, Ji, Jj, Jg, Jf, *]; rfl) (by simp [PV.ps, aggD, slD, Jh, Jk, Ji, Jj, Jg, Jf]; rfl) (by first | rfl | (simp [*]; done) | (simp [PV.one, *]; done) | fail) (by simp; rfl) (by first | (simp; done) | fail) (by simp [nev, nevA, nevB, Jp, PF.eval, PF.get, PF.wants, cPV, Qae, PV.rows, Qaf, evUn, Jq, Qah, Qag, Jn, TyK.agg, Qad, St.box?, St.tok?, St.setBox, St.setTok, Qac, spl, PV.ps, PV.one, Jo, aggD, slD, Jh, Jk, Ji, Jj, Jg, Jf, *]; rfl) (by rfl) (by first | (simp; done) | fail) (by simp [St.setBox, spl, *]; rfl) (by first | exact .inl (by decide +kernel) | exact .inr (by (repeat (first | exact Qam _ | refine Ju (by simp [St.box?, *] <;> rfl) ?_)))) ?_
  repeat (first | with_reducible refine Qar ?_ | refine Qaq ?_ | refine Qax ?_ | refine Qaw ?_)
  refine Qcl rfl rfl (by simp [nev, nevA, nevB, Jp, PF.eval, PF.get, PF.wants, cPV, Qae, PV.rows, Qaf, evUn, Jq, Qah, Qag, Jn, TyK.agg, Qad, St.box?, St.tok?, St.setBox, St.setTok, Qac, spl, PV.ps, PV.one, Jo, aggD, slD, Jh, Jk, Ji, Jj, Jg, Jf, *]; rfl) (by rfl) (by simp [nev, nevA, nevB, Jp, PF.eval, PF.get, PF.wants, cPV, Qae, PV.rows, Qaf, evUn, Jq, Qah, Qag, Jn, TyK.agg, Qad, St.box?, St.tok?, St.setBox, St.setTok, Qac, spl, PV.ps, PV.one, Jo, aggD, slD, Jh, Jk, Ji, Jj, Jg, Jf, *]; rfl) (by simp [PV.ps, aggD, slD, Jh, Jk, Ji, Jj, Jg, Jf]; rfl) (by first | rfl | (simp [*]; done) | (simp [PV.one, *]; done) | fail) (by simp; rfl) (by first | (simp; done) | fail) (by simp [nev, nevA, nevB, Jp, PF.eval, PF.get, PF.wants, cPV, Qae, PV.rows, Qaf, evUn, Jq, Qah, Qag, Jn, TyK.agg, Qad, St.box?, St.tok?, St.setBox, St.setTok, Qac, spl, PV.ps, PV.one, Jo, aggD, slD, Jh, Jk, Ji, Jj, Jg, Jf, *]; rfl) (by rfl) (by first | (simp; done) | fail) (by simp [St.setBox, spl, *]; rfl) (by first | exact .inl (by decide +kernel) | exact .inr (by (repeat (first | exact Qam _ | refine Ju (by simp [St.box?, *] <;> rfl) ?_)))) ?_
  repeat (first | with_reducible refine Qar ?_ | refine Qaq ?_ | refine Qax ?_ | refine Qaw ?_)
  refine go_ ?_
  refine Jm (st' := [.box i 26 (.d (.v (.int .i64 6)) :: .d (.v (.int .i64 1)) :: .d (.sl []) :: X), .tok g 3 1 1, .box b 130 [.d (.sl (B.map encD)), .d (.v (.bool false)), .d (.v (.bool false)), .own g [[.v (.int .i64 0)]], .bsl i 1 c, .d (.v (.bool false))]]) (by simp) (by simp only [Tryz.results83]; rfl) (by simp [resP, St.box?, PF.get, Jn, TyK.agg, *]; rfl) (by repeat (first | exact List.Sublist.refl _ | exact List.nil_sublist _ | refine List.Sublist.cons_cons _ ?_ | refine List.Sublist.cons _ ?_)) ?_
  exact ⟨rfl, g, i, c, X, rfl⟩
 ·refine Qcl rfl rfl (by simp [nev, nevA, nevB, Jp, PF.eval, PF.get, PF.wants, cPV, Qae, PV.rows, Qaf, evUn, Jq, Qah, Qag, Jn, TyK.agg, Qad, St.box?, St.tok?, St.setBox, St.setTok, Qac, spl, PV.ps, PV.one, Jo, aggD, slD, Jh, Jk, Ji, Jj, Jg, Jf, *]; rfl) (by rfl) (by simp [nev, nevA, nevB, Jp, PF.eval, PF.get, PF.wants, cPV, Qae, PV.rows, Qaf, evUn, Jq, Qah, Qag, Jn, TyK.agg, Qad, St.box?, St.tok?, St.setBox, St.setTok, Qac, spl, PV.ps, PV.one, Jo, aggD, slD, Jh, Jk, Ji, Jj, Jg, Jf, *]; rfl) (by simp [PV.ps, aggD, slD, Jh, Jk, Ji, Jj, Jg, Jf]; rfl) (by first | rfl | (simp [*]; done) | (simp [PV.one, *]; done) | fail) (by simp; rfl) (by first | (simp; done) | fail) (by simp [nev, nevA, nevB, Jp, PF.eval, PF.get, PF.wants, cPV, Qae, PV.rows, Qaf, evUn, Jq, Qah, Qag, Jn, TyK.agg, Qad, St.box?, St.tok?, St.setBox, St.setTok, Qac, spl, PV.ps, PV.one, Jo, aggD, slD, Jh, Jk, Ji, Jj, Jg, Jf, *]; rfl) (by rfl) (by first | (simp; done) | fail) (by simp [St.setBox, spl, *]; rfl) (by first | exact .inl (by decide +kernel) | exact .inr (by (repeat (first | exact Qam _ | refine Ju (by simp [St.box?, *] <;> rfl) ?_)))) ?_
  repeat (first | with_reducible refine Qar ?_ | refine Qaq ?_ | refine Qax ?_ | refine Qaw ?_)
  refine Qcl rfl rfl (by simp [nev, nevA, nevB, Jp, PF.eval, PF.get, PF.wants, cPV, Qae, PV.rows, Qaf, evUn, Jq, Qah, Qag, Jn, TyK.agg, Qad, St.box?, St.tok?, St.setBox, St.setTok, Qac, spl, PV.ps, PV.one, Jo, aggD, slD, Jh, Jk, Ji, Jj, Jg, Jf, *]; rfl) (by rfl) (by simp [nev, nevA, nevB, Jp, PF.eval, PF.get, PF.wants, cPV, Qae, PV.rows, Qaf, evUn, Jq, Qah, Qag, Jn, TyK.agg, Qad, St.box?, St.tok?, St.setBox, St.setTok, Qac, spl, PV.ps, PV.one, Jo, aggD, slD, Jh, Jk, Ji, Jj, Jg, Jf, *]; rfl) (by simp [PV.ps, aggD, slD, Jh, Jk, Ji, Jj, Jg, Jf]; rfl) (by first | rfl | (simp [*]; done) | (simp [PV.one, *]; done) | fail) (by simp; rfl) (by first | (simp; done) | fail) (by simp [nev, nevA, nevB, Jp, PF.eval, PF.get, PF.wants, cPV, Qae, PV.rows, Qaf, evUn, Jq, Qah, Qag, Jn, TyK.agg, Qad, St.box?, St.tok?, St.setBox, St.setTok, Qac, spl, PV.ps, PV.one, Jo, aggD, slD, Jh, Jk, Ji, Jj, Jg, Jf, *]; rfl) (by rfl) (by first | (simp; done) | fail) (by simp [St.setBox, spl, *]; rfl) (by first | exact .inl (by decide +kernel) | exact .inr (by (repeat (first | exact Qam _ | refine Ju (by simp [St.box?, *] <;> rfl) ?_)))) ?_
  repeat (first | with_reducible refine Qar ?_ | refine Qaq ?_ | refine Qax ?_ | refine Qaw ?_)
  refine go_ ?_
  refine Jm (st' := [.box i 26 (.d (.v (.int .i64 6)) :: .d (.v (.int .i64 1)) :: .d (.sl []) :: X), .tok g 3 1 1, .box b 130 [.d (.sl (B.map encD)), .d (.v (.bool false)), .d (.v (.bool false)), .own g [[.v (.int .i64 0)]], .bsl i 1 c, .d (.v (.bool false))]]) (by simp) (by simp only [Tryz.results83]; rfl) (by simp [resP, St.box?, PF.get, Jn, TyK.agg, *]; rfl) (by repeat (first | exact List.Sublist.refl _ | exact List.nil_sublist _ | refine List.Sublist.cons_cons _ ?_ | refine List.Sublist.cons _ ?_)) ?_
  exact ⟨rfl, g, i, c, X, rfl⟩
theorem PCalls.permOut {P : Program} {f : FuncId} {args : List PV} {st : St} {R R' : PV → St → Prop} (h : PCalls P f args st R) (hr : ∀ p s, R p s → ∃ s' : St, s.Perm s' ∧ R' p s') : PCalls P f args st R' :=
 fun F K w vs h1 h2 => (h F K w vs h1 h2).mono fun _ _ ⟨v, K', p, st', a, b, c, d, e⟩ => let ⟨s', hp, h'⟩ := hr _ _ e; ⟨v, K', p, s', a, b, c.perm hp, d, h'⟩
theorem ak_len {l : List En} : ∀ (p : Pt) (t : Tm) (σ : Ak), (akT l p t σ).terms.length ≤ σ.terms.length + pndT p := by
  refine Pt.ind ?_
  intro k n a sub d ih t σ
  have key : ∀ (ss : List Pt) (us : List Tm) (τ : Ak), (∀ s ∈ ss, s ∈ sub) → (akL l ss us τ).terms.length ≤ τ.terms.length + pndL ss := by
    intro ss
    induction ss with
    | nil => intro us τ _; simp only [akL]; omega
    | cons s ss ihs =>
      intro us τ hm
      cases us with
      | nil => simp only [akL]; omega
      | cons u us =>
        simp only [akL, pndL]
        have h1 := ih s (hm s (by simp)) u τ
        have h2 := ihs us (akT l s u τ) (fun q hq => hm q (by simp [hq]))
        omega
  simp only [akT, pndT]
  split
  · omega
  · split
    · simp only [List.length_append, List.length_singleton]; omega
    · split
      · simp only; omega
      · split
        · split
          · have := key sub ((Qbr t).drop (parN l n)) σ (fun s h => h); omega
          · simp only; omega
        · simp only; omega
def akV (σ : Ak) (L : St) (V T : PV) : Prop :=
 (σ.vars = [] ∧ σ.terms = [] ∧ L = [] ∧ V = .nils ∧ T = .nils) ∨
 ∃ (g i c : Nat) (X : List PV), 0 < σ.terms.length ∧ σ.vars.length = σ.terms.length ∧ L = [.box i 26 ((σ.terms.map encD).flatten.map PV.d ++ X), .tok g 3 1 σ.vars.length] ∧ V = .own g (σ.vars.map encD) ∧ T = .bsl i σ.terms.length c ∧ ((σ.terms.map encD).flatten.map PV.d ++ X).length = c * 3
def akB (b : Nat) (B : List En) (σ : Ak) (V T : PV) : Ent := .box b 130 [.d (.sl (B.map encD)), .d (.v (.bool false)), .d (.v (.bool σ.no)), V, T, .d (.v (.bool σ.stuck))]
theorem flat3 (l : List Tm) : ((l.map encD).flatten.map PV.d).length = l.length * 3 := by
 rw [List.length_map, Qgg (l.map encD) (Qdv l), List.length_map]
theorem askV0_p (b : Nat) (B : List En) (n a : Int) (sub : List Pt) (d : Tm) (t : Tm) : PCalls Tryz.prog 83 [.ptr b 0, aggD (Pt.mk 1 n a sub d), aggD t] [.box b 130 [.d (.sl (B.map encD)), .d (.v (.bool false)), .d (.v (.bool false)), .nils, .nils, .d (.v (.bool false))]] fun p s => p = .tup [] ∧ ∃ s', s.Perm s' ∧ ∃ L V T, s' = .box b 130 [.d (.sl (B.map encD)), .d (.v (.bool false)), .d (.v (.bool false)), V, T, .d (.v (.bool false))] :: L ∧ akV ⟨false, false, [n], [Qel t]⟩ L V T := by
 have hC := Lib.hid (Qih t)
 obtain ⟨u, hu⟩ : ∃ u, u = Qel t := ⟨_, rfl⟩
 rw [← hu] at hC ⊢
 clear hu
 simp only [aggD, Qap, Jl, List.map_cons, List.map_nil, Pt.kind_mk, Pt.num_mk, Pt.at_mk, Pt.sub_mk, Pt.t_mk, Tm.kind_mk, Tm.num_mk, Tm.sub_mk] at hC ⊢
 refine PCalls.enter Tryz.func83 rfl Tryz.ntmps83 (by simp) ?_
 simp only [Qab]
 refine go_ ?_
 refine Jd ?_
 intro i0 hi0
 try simp only [Ja, Rh, Rg, Jb] at hi0
 refine go_ ?_
 refine Jd ?_
 intro i1 hi1
 try simp only [Ja, Rh, Rg, Jb] at hi1
 refine gs_ ?_
 refine Qc ?_
 refine gs_ ?_
 refine Qc ?_
 refine gs_ ?_
 refine Qhf b 3 3 1 (by simp [nev, nevA, nevB, Jp, PF.eval, PF.get, PF.wants, cPV, Qae, PV.rows, Qaf, evUn, Jq, Qah, Qag, Jn, TyK.agg, Qad, St.box?, St.tok?, St.setBox, St.setTok, Qac, spl, PV.ps, PV.one, Jo, aggD, slD, Jh, Jk, Ji, Jj, Jg, Jf, *]; rfl) (by rfl) (by rfl) (by intro g; simp [St.setBox, *]; rfl) (by decide) ?_
 intro g hg
 refine go_ ?_
 refine Qan [(0, .a), (1, .a), (2, .a), (3, .a), (4, .a), (5, .b), (6, .a), (7, .b), (8, .a), (9, .e), (10, .a), (11, .a), (12, .a), (13, .e)] (by kernel_rfl) (by rfl) (by kernel_rfl) ?_
 refine go_ ?_
 refine Qbw ?_
 refine go_ ?_
 refine Qil 1 ?_ ?_ ?_ ?_
 ·simp
 ·simp
 ·exact Qbs rfl
 refine go_ ?_
 refine Qdp ?_
 refine go_ ?_
 refine Qim (J := Qcw [(i1, _)]) [(0, .a), (1, .a), (2, .a), (3, .a), (4, .b), (5, .a), (6, .a), (7, .a), (8, .a), (9, .e), (10, .a), (12, .a), (13, .a), (14, .a)] 11 15 [(15, .e)] [(11, .e)] (by kernel_rfl) (by decide) (by kernel_rfl) (by (repeat (first | exact Qam _ | refine Ju (by simp [St.box?, *] <;> rfl) ?_))) ?_
 repeat (first | with_reducible refine Qar ?_ | refine Qaq ?_ | refine Qax ?_ | refine Qaw ?_)
 refine PL_bb ?_ rfl (by decide) (by first | (simp [nev, nevA, nevB, Jp, PF.eval, PF.get, PF.wants, cPV, Qae, PV.rows, Qaf, evUn, Jq, Qah, Qag, Jn, TyK.agg, Qad, St.box?, St.tok?, St.setBox, St.setTok, Qac, spl, PV.ps, PV.one, Jo, aggD, slD, Jh, Jk, Ji, Jj, Jg, Jf, *]; done) | fail) (by simp [nev, nevA, nevB, Jp, PF.eval, PF.get, PF.wants, cPV, Qae, PV.rows, Qaf, evUn, Jq, Qah, Qag, Jn, TyK.agg, Qad, St.box?, St.tok?, St.setBox, St.setTok, Qac, spl, PV.ps, PV.one, Jo, aggD, slD, Jh, Jk, Ji, Jj, Jg, Jf, *]; rfl)
 repeat (first | with_reducible refine Qar ?_ | refine Qaq ?_ | refine Qax ?_ | refine Qaw ?_)
 refine Qcc (hC.out) ?_
 repeat (first | with_reducible refine Qar ?_ | refine Qaq ?_ | refine Qax ?_ | refine Qaw ?_)
 refine PL_bs ?_ rfl (by decide) rfl (by simp; rfl) (by rfl) (by simp; rfl) (by rfl) (by decide) (by decide) (by simp [nev, nevA, nevB, Jp, PF.eval, PF.get, PF.wants, cPV, Qae, PV.rows, Qaf, evUn, Jq, Qah, Qag, Jn, TyK.agg, Qad, St.box?, St.tok?, St.setBox, St.setTok, Qac, spl, PV.ps, PV.one, Jo, aggD, slD, Jh, Jk, Ji, Jj, Jg, Jf, *]; rfl) (by simp [Qcd, toDs, PV.toD]; rfl)
 repeat (first | with_reducible refine Qar ?_ | refine Qaq ?_ | refine Qax ?_ | refine Qaw ?_)
 refine PL_e rfl (by decide) (by first | (simp [nev, nevA, nevB, Jp, PF.eval, PF.get, PF.wants, cPV, Qae, PV.rows, Qaf, evUn, Jq, Qah, Qag, Jn, TyK.agg, Qad, St.box?, St.tok?, St.setBox, St.setTok, Qac, spl, PV.ps, PV.one, Jo, aggD, slD, Jh, Jk, Ji, Jj, Jg, Jf, *]; done) | fail) (Qjr rfl (by first | (simp [nev, nevA, nevB, Jp, PF.eval, PF.get, PF.wants, cPV, Qae, PV.rows, Qaf, evUn, Jq, Qah, Qag, Jn, TyK.agg, Qad, St.box?, St.tok?, St.setBox, St.setTok, Qac, spl, PV.ps, PV.one, Jo, aggD, slD, Jh, Jk, Ji, Jj, Jg, Jf, *]; done) | (simp [nev, nevA, nevB, Jp, PF.eval, PF.get, PF.wants, cPV, Qae, PV.rows, Qaf, evUn, Jq, Qah, Qag, Jn, TyK.agg, Qad, St.box?, St.tok?, St.setBox, St.setTok, Qac, spl, PV.ps, PV.one, Jo, aggD, slD, Jh, Jk, Ji, Jj, Jg, Jf, *]; rfl)) (by simp [nev, nevA, nevB, Jp, PF.eval, PF.get, PF.wants, cPV, Qae, PV.rows, Qaf, evUn, Jq, Qah, Qag, Jn, TyK.agg, Qad, St.box?, St.tok?, St.setBox, St.setTok, Qac, spl, PV.ps, PV.one, Jo, aggD, slD, Jh, Jk, Ji, Jj, Jg, Jf, *]; rfl) (by simp [PV.src, PV.rows]; rfl) (by simp; rfl) (by rfl) (by simp [Qce]) (by simp; rfl) (by decide) ?_ (by decide) (by decide) (by decide) fun i c hc1 hc2 hi => ⟨.inr ?_, ?_⟩)
 ·exact Qbs rfl
 ·simp only [Ja, Rg, Rh] at hi
  (repeat (first | exact Qam _ | refine Ju (by simp [St.box?, *] <;> rfl) ?_))
 simp only [Ja, Rg, Rh] at hi
 simp only [boxC, List.flatten_cons, List.flatten_nil, List.append_nil, List.map_cons, List.map_nil, List.cons_append, List.nil_append, List.length_singleton]
 obtain ⟨X, hX⟩ : ∃ X : List PV, X = List.replicate (c * 3 - 1 * 3) PV.u := ⟨_, rfl⟩
 rw [← hX]
 have hXl : X.length + 3 = c * 3 := by rw [hX, List.length_replicate]; simp only [List.length_singleton] at hc1; omega
 have hc0 : (0 : Int) < c := by simp only [List.length_singleton] at hc1; omega
 clear hX
 have hXh := Lib.hid hXl
 clear hXl
 repeat (first | with_reducible refine Qar ?_ | refine Qaq ?_ | refine Qax ?_ | refine Qaw ?_)
 constructor
 ·refine Qcl rfl rfl (by simp [nev, nevA, nevB, Jp, PF.eval, PF.get, PF.wants, cPV, Qae, PV.rows, Qaf, evUn, Jq, Qah, Qag, Jn, TyK.agg, Qad, St.box?, St.tok?, St.setBox, St.setTok, Qac, spl, PV.ps, PV.one, Jo, aggD, slD, Jh, Jk, Ji, Jj, Jg, Jf, *]; rfl) (by rfl) (by simp [nev, nevA, nevB, Jp, PF.eval, PF.get, PF.wants, cPV, Qae, PV.rows, Qaf, evUn, Jq, Qah, Qag, Jn, TyK.agg, Qad, St.box?, St.tok?, St.setBox, St.setTok, Qac, spl, PV.ps, PV.one, Jo, aggD, slD, Jh, Jk, Ji, Jj, Jg, Jf, *]; rfl) (by simp [PV.ps, aggD, slD, Jh, Jk, Ji, Jj, Jg, Jf]; rfl) (by first | rfl | (simp [*]; done) | (simp [PV.one, *]; done) | fail) (by simp; rfl) (by first | (simp; done) | fail) (by simp [nev, nevA, nevB, Jp, PF.eval, PF.get, PF.wants, cPV, Qae, PV.rows, Qaf, evUn, Jq, Qah, Qag, Jn, TyK.agg, Qad, St.box?, St.tok?, St.setBox, St.setTok, Qac, spl, PV.ps, PV.one, Jo, aggD, slD, Jh, Jk, Ji, Jj, Jg, Jf, *]; rfl) (by rfl) (by first | (simp; done) | fail) (by simp [St.setBox, spl, *]; rfl) (by first | exact .inl (by decide +kernel) | exact .inr (by (repeat (first | exact Qam _ | refine Ju (by simp [St.box?, *] <;> rfl) ?_)))) ?_
  repeat (first | with_reducible refine Qar ?_ | refine Qaq ?_ | refine Qax ?_ | refine Qaw ?_)
  refine Qcl rfl rfl (by simp [nev, nevA, nevB, Jp, PF.eval, PF.get, PF.wants, cPV, Qae, PV.rows, Qaf, evUn, Jq, Qah, Qag, Jn, TyK.agg, Qad, St.box?, St.tok?, St.setBox, St.setTok, Qac, spl, PV.ps, PV.one, Jo, aggD, slD, Jh, Jk, Ji, Jj, Jg, Jf, *]; rfl) (by rfl) (by simp [nev, nevA, nevB, Jp, PF.eval, PF.get, PF.wants, cPV, Qae, PV.rows, Qaf, evUn, Jq, Qah, Qag, Jn, TyK.agg, Qad, St.box?, St.tok?, St.setBox, St.setTok, Qac, spl, PV.ps, PV.one, Jo, aggD, slD, Jh, Jk, Ji, Jj, Jg, Jf, *]; rfl) (by simp [PV.ps, aggD, slD, Jh, Jk, Ji, Jj, Jg, Jf]; rfl) (by first | rfl | (simp [*]; done) | (simp [PV.one, *]; done) | fail) (by simp; rfl) (by first | (simp; done) | fail) (by simp [nev, nevA, nevB, Jp, PF.eval, PF.get, PF.wants, cPV, Qae, PV.rows, Qaf, evUn, Jq, Qah, Qag, Jn, TyK.agg, Qad, St.box?, St.tok?, St.setBox, St.setTok, Qac, spl, PV.ps, PV.one, Jo, aggD, slD, Jh, Jk, Ji, Jj, Jg, Jf, *]; rfl) (by rfl) (by first | (simp; done) | fail) (by simp [St.setBox, spl, *]; rfl) (by first | exact .inl (by decide +kernel) | exact .inr (by (repeat (first | exact Qam _ | refine Ju (by simp [St.box?, *] <;> rfl) ?_)))) ?_
  repeat (first | with_reducible refine Qar ?_ | refine Qaq ?_ | refine Qax ?_ | refine Qaw ?_)
  refine go_ ?_
  refine Jm (st' := [.box i 26 (.d (.v (.int .i64 u.kind)) :: .d (.v (.int .i64 u.num)) :: .d (.sl (u.sub.map encD)) :: X), .tok g 3 1 1, .box b 130 [.d (.sl (B.map encD)), .d (.v (.bool false)), .d (.v (.bool false)), .own g [[.v (.int .i64 n)]], .bsl i 1 c, .d (.v (.bool false))]]) (by simp) (by simp only [Tryz.results83]; rfl) (by simp [resP, St.box?, PF.get, Jn, TyK.agg, *]; rfl) (by repeat (first | exact List.Sublist.refl _ | exact List.nil_sublist _ | refine List.Sublist.cons_cons _ ?_ | refine List.Sublist.cons _ ?_)) ?_
  exact ⟨rfl, _, (List.perm_append_comm (l₁ := [_, _]) (l₂ := [_])), _, _, _, rfl, .inr ⟨g, i, c, X, by simp, rfl, by simp, rfl, rfl, by simp; have := hXh.out; omega⟩⟩
 ·refine Qcl rfl rfl (by simp [nev, nevA, nevB, Jp, PF.eval, PF.get, PF.wants, cPV, Qae, PV.rows, Qaf, evUn, Jq, Qah, Qag, Jn, TyK.agg, Qad, St.box?, St.tok?, St.setBox, St.setTok, Qac, spl, PV.ps, PV.one, Jo, aggD, slD, Jh, Jk, Ji, Jj, Jg, Jf, *]; rfl) (by rfl) (by simp [nev, nevA, nevB, Jp, PF.eval, PF.get, PF.wants, cPV, Qae, PV.rows, Qaf, evUn, Jq, Qah, Qag, Jn, TyK.agg, Qad, St.box?, St.tok?, St.setBox, St.setTok, Qac, spl, PV.ps, PV.one, Jo, aggD, slD, Jh, Jk, Ji, Jj, Jg, Jf, *]; rfl) (by simp [PV.ps, aggD, slD, Jh, Jk, Ji, Jj, Jg, Jf]; rfl) (by first | rfl | (simp [*]; done) | (simp [PV.one, *]; done) | fail) (by simp; rfl) (by first | (simp; done) | fail) (by simp [nev, nevA, nevB, Jp, PF.eval, PF.get, PF.wants, cPV, Qae, PV.rows, Qaf, evUn, Jq, Qah, Qag, Jn, TyK.agg, Qad, St.box?, St.tok?, St.setBox, St.setTok, Qac, spl, PV.ps, PV.one, Jo, aggD, slD, Jh, Jk, Ji, Jj, Jg, Jf, *]; rfl) (by rfl) (by first | (simp; done) | fail) (by simp [St.setBox, spl, *]; rfl) (by first | exact .inl (by decide +kernel) | exact .inr (by (repeat (first | exact Qam _ | refine Ju (by simp [St.box?, *] <;> rfl) ?_)))) ?_
  repeat (first | with_reducible refine Qar ?_ | refine Qaq ?_ | refine Qax ?_ | refine Qaw ?_)
  refine Qcl rfl rfl (by simp [nev, nevA, nevB, Jp, PF.eval, PF.get, PF.wants, cPV, Qae, PV.rows, Qaf, evUn, Jq, Qah, Qag, Jn, TyK.agg, Qad, St.box?, St.tok?, St.setBox, St.setTok, Qac, spl, PV.ps, PV.one, Jo, aggD, slD, Jh, Jk, Ji, Jj, Jg, Jf, *]; rfl) (by rfl) (by simp [nev, nevA, nevB, Jp, PF.eval, PF.get, PF.wants, cPV, Qae, PV.rows, Qaf, evUn, Jq, Qah, Qag, Jn, TyK.agg, Qad, St.box?, St.tok?, St.setBox, St.setTok, Qac, spl, PV.ps, PV.one, Jo, aggD, slD, Jh, Jk, Ji, Jj, Jg, Jf, *]; rfl) (by simp [PV.ps, aggD, slD, Jh, Jk, Ji, Jj, Jg, Jf]; rfl) (by first | rfl | (simp [*]; done) | (simp [PV.one, *]; done) | fail) (by simp; rfl) (by first | (simp; done) | fail) (by simp [nev, nevA, nevB, Jp, PF.eval, PF.get, PF.wants, cPV, Qae, PV.rows, Qaf, evUn, Jq, Qah, Qag, Jn, TyK.agg, Qad, St.box?, St.tok?, St.setBox, St.setTok, Qac, spl, PV.ps, PV.one, Jo, aggD, slD, Jh, Jk, Ji, Jj, Jg, Jf, *]; rfl) (by rfl) (by first | (simp; done) | fail) (by simp [St.setBox, spl, *]; rfl) (by first | exact .inl (by decide +kernel) | exact .inr (by (repeat (first | exact Qam _ | refine Ju (by simp [St.box?, *] <;> rfl) ?_)))) ?_
  repeat (first | with_reducible refine Qar ?_ | refine Qaq ?_ | refine Qax ?_ | refine Qaw ?_)
  refine go_ ?_
  refine Jm (st' := [.box i 26 (.d (.v (.int .i64 u.kind)) :: .d (.v (.int .i64 u.num)) :: .d (.sl (u.sub.map encD)) :: X), .tok g 3 1 1, .box b 130 [.d (.sl (B.map encD)), .d (.v (.bool false)), .d (.v (.bool false)), .own g [[.v (.int .i64 n)]], .bsl i 1 c, .d (.v (.bool false))]]) (by simp) (by simp only [Tryz.results83]; rfl) (by simp [resP, St.box?, PF.get, Jn, TyK.agg, *]; rfl) (by repeat (first | exact List.Sublist.refl _ | exact List.nil_sublist _ | refine List.Sublist.cons_cons _ ?_ | refine List.Sublist.cons _ ?_)) ?_
  exact ⟨rfl, _, (List.perm_append_comm (l₁ := [_, _]) (l₂ := [_])), _, _, _, rfl, .inr ⟨g, i, c, X, by simp, rfl, by simp, rfl, rfl, by simp; have := hXh.out; omega⟩⟩
theorem askV1_p (b : Nat) (B : List En) (n a : Int) (sub : List Pt) (d : Tm) (t : Tm) (vars : List Int) (terms : List Tm) (g i c : Nat) (X : List PV) (h0 : 0 < terms.length) (hvl : vars.length = terms.length) (hb : terms.length ≤ 100000) (hX : ((terms.map encD).flatten.map PV.d ++ X).length = c * 3) :
  PCalls Tryz.prog 83 [.ptr b 0, aggD (Pt.mk 1 n a sub d), aggD t] [.box b 130 [.d (.sl (B.map encD)), .d (.v (.bool false)), .d (.v (.bool false)), .own g (vars.map encD), .bsl i terms.length c, .d (.v (.bool false))], .box i 26 ((terms.map encD).flatten.map PV.d ++ X), .tok g 3 1 vars.length] fun p s => p = .tup [] ∧ ∃ s', s.Perm s' ∧ ∃ L V T, s' = .box b 130 [.d (.sl (B.map encD)), .d (.v (.bool false)), .d (.v (.bool false)), V, T, .d (.v (.bool false))] :: L ∧ akV ⟨false, false, vars ++ [n], terms ++ [Qel t]⟩ L V T := by
 have hC := Lib.hid (Qih t)
 obtain ⟨u, hu⟩ : ∃ u, u = Qel t := ⟨_, rfl⟩
 rw [← hu] at hC ⊢
 have hAl := flat3 terms
 have hA2 := Lib.hid (show ((terms ++ [u]).map encD).flatten.map PV.d = (terms.map encD).flatten.map PV.d ++ [.d (.v (.int .i64 u.kind)), .d (.v (.int .i64 u.num)), .d (.sl (u.sub.map encD))] from by simp)
 obtain ⟨A, hA⟩ : ∃ A, A = (terms.map encD).flatten.map PV.d := ⟨_, rfl⟩
 rw [← hA] at hAl hA2 hX ⊢
 obtain ⟨k, hk⟩ : ∃ k, k = terms.length := ⟨_, rfl⟩
 have hH : Hid (0 < terms.length ∧ vars.length = terms.length ∧ terms.length = k) := ⟨h0, hvl, hk.symm⟩
 have hkv : vars.length = k := by omega
 have hkb : k ≤ 100000 := by omega
 have hk0 : (0 : Int) ≤ k := by omega
 have hk1 : (k : Int) < (k : Int) + 1 := by omega
 rw [← hk] at hAl ⊢
 have hXh : Hid ((A ++ X).length = c * 3) := hX
 have hAh := Lib.hid hAl
 clear hu hA hk h0 hvl hb hX hAl
 simp only [aggD, Qap, Jl, List.map_cons, List.map_nil, Pt.kind_mk, Pt.num_mk, Pt.at_mk, Pt.sub_mk, Pt.t_mk, Tm.kind_mk, Tm.num_mk, Tm.sub_mk] at hC ⊢
 refine PCalls.enter Tryz.func83 rfl Tryz.ntmps83 (by simp) ?_
 simp only [Qab]
 refine Qje fun hnd => ?_
 simp only [bidn_box, bidn_tok, bidn_nil, List.nodup_cons, List.mem_cons, List.not_mem_nil, not_or, or_false, not_false_eq_true, and_true, List.nodup_nil] at hnd
 have n1' : ¬ i = b := fun e => hnd e.symm
 refine go_ ?_
 refine Jd ?_
 intro i0 hi0
 try simp only [Ja, Rh, Rg, Jb] at hi0
 refine go_ ?_
 refine Jd ?_
 intro i1 hi1
 try simp only [Ja, Rh, Rg, Jb] at hi1
 refine go_ ?_
 refine Qan [(0, .a), (1, .a), (2, .a), (3, .a), (4, .a), (5, .b), (6, .a), (7, .b), (8, .a), (9, .e), (10, .a), (11, .a), (12, .a), (13, .e)] (by kernel_rfl) (by rfl) (by kernel_rfl) ?_
 refine go_ ?_
 refine Qbw ?_
 refine go_ ?_
 refine Qil (k + 1) ?_ ?_ ?_ ?_
 ·simp; omega
 ·exact Qfr rfl
 ·exact Qbs rfl
 refine go_ ?_
 refine Qdp ?_
 refine go_ ?_
 refine Qim (J := Qcw [(i1, _)]) [(0, .a), (1, .a), (2, .a), (3, .a), (4, .b), (5, .a), (6, .a), (7, .a), (8, .a), (9, .e), (10, .a), (12, .a), (13, .a), (14, .a)] 11 15 [(15, .e)] [(11, .e)] (by kernel_rfl) (by decide) (by kernel_rfl) (by (repeat (first | exact Qam _ | refine Ju (by simp [St.box?, *] <;> rfl) ?_))) ?_
 repeat (first | with_reducible refine Qar ?_ | refine Qaq ?_ | refine Qax ?_ | refine Qaw ?_)
 refine PL_bb ?_ rfl (by decide) (by first | (simp [nev, nevA, nevB, Jp, PF.eval, PF.get, PF.wants, cPV, Qae, PV.rows, Qaf, evUn, Jq, Qah, Qag, Jn, TyK.agg, Qad, St.box?, St.tok?, St.setBox, St.setTok, Qac, spl, PV.ps, PV.one, Jo, aggD, slD, Jh, Jk, Ji, Jj, Jg, Jf, *]; done) | fail) (by simp [nev, nevA, nevB, Jp, PF.eval, PF.get, PF.wants, cPV, Qae, PV.rows, Qaf, evUn, Jq, Qah, Qag, Jn, TyK.agg, Qad, St.box?, St.tok?, St.setBox, St.setTok, Qac, spl, PV.ps, PV.one, Jo, aggD, slD, Jh, Jk, Ji, Jj, Jg, Jf, *]; rfl)
 repeat (first | with_reducible refine Qar ?_ | refine Qaq ?_ | refine Qax ?_ | refine Qaw ?_)
 refine Qcc (hC.out) ?_
 repeat (first | with_reducible refine Qar ?_ | refine Qaq ?_ | refine Qax ?_ | refine Qaw ?_)
 refine PL_bs ?_ rfl (by decide) rfl (by simp; rfl) (by rfl) (by simp; rfl) (by rfl) (by decide) (by decide) (by simp [nev, nevA, nevB, Jp, PF.eval, PF.get, PF.wants, cPV, Qae, PV.rows, Qaf, evUn, Jq, Qah, Qag, Jn, TyK.agg, Qad, St.box?, St.tok?, St.setBox, St.setTok, Qac, spl, PV.ps, PV.one, Jo, aggD, slD, Jh, Jk, Ji, Jj, Jg, Jf, *]; rfl) (by simp [Qcd, toDs, PV.toD]; rfl)
 repeat (first | with_reducible refine Qar ?_ | refine Qaq ?_ | refine Qax ?_ | refine Qaw ?_)
 refine PL_e rfl (by decide) (by first | (simp [nev, nevA, nevB, Jp, PF.eval, PF.get, PF.wants, cPV, Qae, PV.rows, Qaf, evUn, Jq, Qah, Qag, Jn, TyK.agg, Qad, St.box?, St.tok?, St.setBox, St.setTok, Qac, spl, PV.ps, PV.one, Jo, aggD, slD, Jh, Jk, Ji, Jj, Jg, Jf, *]; done) | fail) (POp_appB (A := A) (X := X) (st0 := [_, _, _, _]) rfl (by first | (simp [nev, nevA, nevB, Jp, PF.eval, PF.get, PF.wants, cPV, Qae, PV.rows, Qaf, evUn, Jq, Qah, Qag, Jn, TyK.agg, Qad, St.box?, St.tok?, St.setBox, St.setTok, Qac, spl, PV.ps, PV.one, Jo, aggD, slD, Jh, Jk, Ji, Jj, Jg, Jf, *]; done) | (simp [nev, nevA, nevB, Jp, PF.eval, PF.get, PF.wants, cPV, Qae, PV.rows, Qaf, evUn, Jq, Qah, Qag, Jn, TyK.agg, Qad, St.box?, St.tok?, St.setBox, St.setTok, Qac, spl, PV.ps, PV.one, Jo, aggD, slD, Jh, Jk, Ji, Jj, Jg, Jf, *]; rfl)) (by simp [nev, nevA, nevB, Jp, PF.eval, PF.get, PF.wants, cPV, Qae, PV.rows, Qaf, evUn, Jq, Qah, Qag, Jn, TyK.agg, Qad, St.box?, St.tok?, St.setBox, St.setTok, Qac, spl, PV.ps, PV.one, Jo, aggD, slD, Jh, Jk, Ji, Jj, Jg, Jf, *]; rfl) (by simp [PV.src, PV.rows]; rfl) (by simp; rfl) (by rfl) (by simp [Qce]) (by simp; rfl) (by decide) ?_ (by decide) (by simp only [List.length_singleton, maxLen]; omega) (by simp only [List.length_singleton]; omega) (List.perm_middle (l₁ := [_, _, _]) (l₂ := [_])) hAh.out hXh.out fun i' c' X' hc1 hc2 hi hl => ⟨.inr ?_, ?_⟩)
 ·exact Qbs rfl
 ·simp only [Ja, Rg, Rh] at hi
  (repeat (first | exact Qam _ | refine Ju (by simp [St.box?, *] <;> rfl) ?_))
 simp only [Ja, Rg, Rh] at hi
 simp only [List.flatten_cons, List.flatten_nil, List.append_nil, List.map_cons, List.map_nil, List.length_singleton, List.nil_append, List.cons_append] at hl ⊢
 simp only [List.append_assoc, List.cons_append, List.nil_append] at hl ⊢
 have hXl := hl
 have hSP : Hid (spl (A ++ PV.d (.v (.int .i64 0)) :: PV.d (.v (.int .i64 0)) :: PV.d (.sl []) :: X') (k * 3) [PV.d (.v (.int .i64 u.kind)), PV.d (.v (.int .i64 u.num)), PV.d (.sl (u.sub.map encD))] = A ++ PV.d (.v (.int .i64 u.kind)) :: PV.d (.v (.int .i64 u.num)) :: PV.d (.sl (u.sub.map encD)) :: X') := by
  have e := spl_mid A [PV.d (.v (.int .i64 0)), PV.d (.v (.int .i64 0)), PV.d (.sl [])] X' [PV.d (.v (.int .i64 u.kind)), PV.d (.v (.int .i64 u.num)), PV.d (.sl (u.sub.map encD))] rfl
  rw [hAh.out] at e
  simp only [List.append_assoc, List.cons_append, List.nil_append] at e
  exact e
 clear hl
 have hXh2 := Lib.hid hXl
 clear hXl
 repeat (first | with_reducible refine Qar ?_ | refine Qaq ?_ | refine Qax ?_ | refine Qaw ?_)
 constructor
 ·refine Qcl rfl rfl (by simp [nev, nevA, nevB, Jp, PF.eval, PF.get, PF.wants, cPV, Qae, PV.rows, Qaf, evUn, Jq, Qah, Qag, Jn, TyK.agg, Qad, St.box?, St.tok?, St.setBox, St.setTok, Qac, spl, PV.ps, PV.one, Jo, aggD, slD, Jh, Jk, Ji, Jj, Jg, Jf, *]; rfl) (by rfl) (by simp [nev, nevA, nevB, Jp, PF.eval, PF.get, PF.wants, cPV, Qae, PV.rows, Qaf, evUn, Jq, Qah, Qag, Jn, TyK.agg, Qad, St.box?, St.tok?, St.setBox, St.setTok, Qac, spl, PV.ps, PV.one, Jo, aggD, slD, Jh, Jk, Ji, Jj, Jg, Jf, *]; rfl) (by simp [PV.ps, aggD, slD, Jh, Jk, Ji, Jj, Jg, Jf]) (by first | rfl | (simp [*]; done) | (simp [PV.one, *]; done) | fail) (by simp; rfl) (by first | (simp; done) | fail) (by simp [nev, nevA, nevB, Jp, PF.eval, PF.get, PF.wants, cPV, Qae, PV.rows, Qaf, evUn, Jq, Qah, Qag, Jn, TyK.agg, Qad, St.box?, St.tok?, St.setBox, St.setTok, Qac, spl, PV.ps, PV.one, Jo, aggD, slD, Jh, Jk, Ji, Jj, Jg, Jf, *]; rfl) (by rfl) (by simp only [List.length_append, List.length_cons, List.length_nil]; have := hAh.out; omega) ((congrArg (fun z => St.setBox _ i' z) hSP.out).trans (by simp only [St.setBox, if_true]; rfl)) (by first | exact .inl (by decide +kernel) | exact .inr (by (repeat (first | exact Qam _ | refine Ju (by simp [St.box?, *] <;> rfl) ?_)))) ?_
  repeat (first | with_reducible refine Qar ?_ | refine Qaq ?_ | refine Qax ?_ | refine Qaw ?_)
  refine Qcl rfl rfl (by simp [nev, nevA, nevB, Jp, PF.eval, PF.get, PF.wants, cPV, Qae, PV.rows, Qaf, evUn, Jq, Qah, Qag, Jn, TyK.agg, Qad, St.box?, St.tok?, St.setBox, St.setTok, Qac, spl, PV.ps, PV.one, Jo, aggD, slD, Jh, Jk, Ji, Jj, Jg, Jf, *]; rfl) (by rfl) (by simp [nev, nevA, nevB, Jp, PF.eval, PF.get, PF.wants, cPV, Qae, PV.rows, Qaf, evUn, Jq, Qah, Qag, Jn, TyK.agg, Qad, St.box?, St.tok?, St.setBox, St.setTok, Qac, spl, PV.ps, PV.one, Jo, aggD, slD, Jh, Jk, Ji, Jj, Jg, Jf, *]; rfl) (by simp [PV.ps, aggD, slD, Jh, Jk, Ji, Jj, Jg, Jf]; rfl) (by first | rfl | (simp [*]; done) | (simp [PV.one, *]; done) | fail) (by simp; rfl) (by first | (simp; done) | fail) (by simp [nev, nevA, nevB, Jp, PF.eval, PF.get, PF.wants, cPV, Qae, PV.rows, Qaf, evUn, Jq, Qah, Qag, Jn, TyK.agg, Qad, St.box?, St.tok?, St.setBox, St.setTok, Qac, spl, PV.ps, PV.one, Jo, aggD, slD, Jh, Jk, Ji, Jj, Jg, Jf, *]; rfl) (by rfl) (by first | (simp; done) | fail) (by simp [St.setBox, spl, *]; rfl) (by first | exact .inl (by decide +kernel) | exact .inr (by (repeat (first | exact Qam _ | refine Ju (by simp [St.box?, *] <;> rfl) ?_)))) ?_
  repeat (first | with_reducible refine Qar ?_ | refine Qaq ?_ | refine Qax ?_ | refine Qaw ?_)
  refine go_ ?_
  refine Jm (st' := [.box i' 26 (A ++ PV.d (.v (.int .i64 u.kind)) :: PV.d (.v (.int .i64 u.num)) :: PV.d (.sl (u.sub.map encD)) :: X'), .box b 130 [.d (.sl (B.map encD)), .d (.v (.bool false)), .d (.v (.bool false)), .own g (vars.map encD ++ [[.v (.int .i64 n)]]), .bsl i' (k + 1) c', .d (.v (.bool false))], .tok g 3 1 (k + 1)]) (by simp) (by simp only [Tryz.results83]; rfl) (by simp [resP, St.box?, PF.get, Jn, TyK.agg, *]; rfl) (by repeat (first | exact List.Sublist.refl _ | exact List.nil_sublist _ | refine List.Sublist.cons_cons _ ?_ | refine List.Sublist.cons _ ?_)) ?_
  refine ⟨rfl, _, List.Perm.swap _ _ _, _, _, _, rfl, .inr ⟨g, i', c', X', by simp, by simp; have := hH.out; omega, ?_, by simp [Jf], by simp; exact hH.out.2.2.symm, by rw [hA2.out]; have h7 := hXh2.out; simp only [List.length_append, List.length_cons, List.length_nil] at h7 ⊢; omega⟩⟩
  rw [hA2.out, List.append_assoc, show (vars ++ [n]).length = k + 1 from by rw [List.length_append, List.length_singleton]; have := hH.out; omega]
  rfl
 ·refine Qcl rfl rfl (by simp [nev, nevA, nevB, Jp, PF.eval, PF.get, PF.wants, cPV, Qae, PV.rows, Qaf, evUn, Jq, Qah, Qag, Jn, TyK.agg, Qad, St.box?, St.tok?, St.setBox, St.setTok, Qac, spl, PV.ps, PV.one, Jo, aggD, slD, Jh, Jk, Ji, Jj, Jg, Jf, *]; rfl) (by rfl) (by simp [nev, nevA, nevB, Jp, PF.eval, PF.get, PF.wants, cPV, Qae, PV.rows, Qaf, evUn, Jq, Qah, Qag, Jn, TyK.agg, Qad, St.box?, St.tok?, St.setBox, St.setTok, Qac, spl, PV.ps, PV.one, Jo, aggD, slD, Jh, Jk, Ji, Jj, Jg, Jf, *]; rfl) (by simp [PV.ps, aggD, slD, Jh, Jk, Ji, Jj, Jg, Jf]; rfl) (by first | rfl | (simp [*]; done) | (simp [PV.one, *]; done) | fail) (by simp; rfl) (by first | (simp; done) | fail) (by simp [nev, nevA, nevB, Jp, PF.eval, PF.get, PF.wants, cPV, Qae, PV.rows, Qaf, evUn, Jq, Qah, Qag, Jn, TyK.agg, Qad, St.box?, St.tok?, St.setBox, St.setTok, Qac, spl, PV.ps, PV.one, Jo, aggD, slD, Jh, Jk, Ji, Jj, Jg, Jf, *]; rfl) (by rfl) (by first | (simp; done) | fail) (by simp [St.setBox, spl, *]; rfl) (by first | exact .inl (by decide +kernel) | exact .inr (by (repeat (first | exact Qam _ | refine Ju (by simp [St.box?, *] <;> rfl) ?_)))) ?_
  repeat (first | with_reducible refine Qar ?_ | refine Qaq ?_ | refine Qax ?_ | refine Qaw ?_)
  refine Qcl rfl rfl (by simp [nev, nevA, nevB, Jp, PF.eval, PF.get, PF.wants, cPV, Qae, PV.rows, Qaf, evUn, Jq, Qah, Qag, Jn, TyK.agg, Qad, St.box?, St.tok?, St.setBox, St.setTok, Qac, spl, PV.ps, PV.one, Jo, aggD, slD, Jh, Jk, Ji, Jj, Jg, Jf, *]; rfl) (by rfl) (by simp [nev, nevA, nevB, Jp, PF.eval, PF.get, PF.wants, cPV, Qae, PV.rows, Qaf, evUn, Jq, Qah, Qag, Jn, TyK.agg, Qad, St.box?, St.tok?, St.setBox, St.setTok, Qac, spl, PV.ps, PV.one, Jo, aggD, slD, Jh, Jk, Ji, Jj, Jg, Jf, *]; rfl) (by simp [PV.ps, aggD, slD, Jh, Jk, Ji, Jj, Jg, Jf]) (by first | rfl | (simp [*]; done) | (simp [PV.one, *]; done) | fail) (by simp; rfl) (by first | (simp; done) | fail) (by simp [nev, nevA, nevB, Jp, PF.eval, PF.get, PF.wants, cPV, Qae, PV.rows, Qaf, evUn, Jq, Qah, Qag, Jn, TyK.agg, Qad, St.box?, St.tok?, St.setBox, St.setTok, Qac, spl, PV.ps, PV.one, Jo, aggD, slD, Jh, Jk, Ji, Jj, Jg, Jf, *]; rfl) (by rfl) (by simp only [List.length_append, List.length_cons, List.length_nil]; have := hAh.out; omega) ((congrArg (fun z => St.setBox _ i' z) hSP.out).trans (by simp only [St.setBox, if_true]; rfl)) (by first | exact .inl (by decide +kernel) | exact .inr (by (repeat (first | exact Qam _ | refine Ju (by simp [St.box?, *] <;> rfl) ?_)))) ?_
  repeat (first | with_reducible refine Qar ?_ | refine Qaq ?_ | refine Qax ?_ | refine Qaw ?_)
  refine go_ ?_
  refine Jm (st' := [.box i' 26 (A ++ PV.d (.v (.int .i64 u.kind)) :: PV.d (.v (.int .i64 u.num)) :: PV.d (.sl (u.sub.map encD)) :: X'), .box b 130 [.d (.sl (B.map encD)), .d (.v (.bool false)), .d (.v (.bool false)), .own g (vars.map encD ++ [[.v (.int .i64 n)]]), .bsl i' (k + 1) c', .d (.v (.bool false))], .tok g 3 1 (k + 1)]) (by simp) (by simp only [Tryz.results83]; rfl) (by simp [resP, St.box?, PF.get, Jn, TyK.agg, *]; rfl) (by repeat (first | exact List.Sublist.refl _ | exact List.nil_sublist _ | refine List.Sublist.cons_cons _ ?_ | refine List.Sublist.cons _ ?_)) ?_
  refine ⟨rfl, _, List.Perm.swap _ _ _, _, _, _, rfl, .inr ⟨g, i', c', X', by simp, by simp; have := hH.out; omega, ?_, by simp [Jf], by simp; exact hH.out.2.2.symm, by rw [hA2.out]; have h7 := hXh2.out; simp only [List.length_append, List.length_cons, List.length_nil] at h7 ⊢; omega⟩⟩
  rw [hA2.out, List.append_assoc, show (vars ++ [n]).length = k + 1 from by rw [List.length_append, List.length_singleton]; have := hH.out; omega]
  rfl
end Go.Proofs.YtdklpbefbamchaaGreat
