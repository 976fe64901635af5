import Derived.Test.YtdklpbefbamchaaGreatBE1
import Derived.Test.YtdklpbefbamchaaGreatBA5
import Derived.Test.YtdklpbefbamchaaGreatBD
import Derived.Test.YtdklpbefbamchaaGreatSh
import Derived.Shelf.Sort.Plain
import Derived.Shelf.Slices.In.SortNone
import Derived.Shelf.Slices.CompactI
import Derived.Ground.NamesProg
import Derived.Ground.Names2Prog
import Derived.Sort.OwnSortedInts
import Derived.Lib.OwnBridge
import Derived.Lib.RowBridge
import Derived.BigQuiet
import Derived.Test.YtdklpbefbamchaaGreatBE
set_option linter.unusedSimpArgs false
set_option linter.unusedVariables false
set_option maxHeartbeats 16000000
set_option maxRecDepth 100000
namespace Go.Proofs.YtdklpbefbamchaaGreat
open Go.RowKit
theorem PCalls.norm {P : Program} {f : FuncId} {args : List PV} {st : St} {R R' : PV → St → Prop} (h : PCalls P f args st R) (hr : ∀ p s, R p s → R' p.norm0 []) : PCalls P f args st R' :=
 fun F K w vs h1 h2 => (h F K w vs h1 h2).mono fun _ _ ⟨v, K', p, _, a, b, c, d, e⟩ => ⟨v, K', p.norm0, [], a, b, c.sub Nl, Qhw _ _ _ _ d, hr _ _ e⟩
theorem Qfk (l : List Int) : ∀ row ∈ l.map encD, row.length = 1 := Qfr rfl
theorem cnd_mem {l : List Tm} : ∀ s ∈ l, cndT s ≤ cndL l := by
  induction l with
  | nil => intro s hs; cases hs
  | cons t ts ih =>
    intro s hs
    simp only [cndL]
    rcases List.mem_cons.1 hs with rfl | hs
    · omega
    · have := ih s hs; omega
theorem rows1a (l m : List Int) : ∀ row ∈ l.map encD ++ m.map encD, row.length = 1 := fun row h => (List.mem_append.1 h).elim (Qfk _ row) (Qfk _ row)
theorem clS_take {a b : Int} {l : List Tm} {j : Nat} (h : j < l.length) : clS a b (l.take (j + 1)) = clS a b (l.take j) ++ clT a b l[j] := by
 rw [List.take_succ_eq_append_getElem h, clS_append]
 simp only [clS, List.append_nil]
theorem clS_len (a b : Int) (l : List Tm) : (clS a b l).length ≤ cndL l := by
  induction l with
  | nil => exact Nat.le_refl _
  | cons t ts ih =>
    have := cl_len a b t
    simp only [clS, cndL, List.length_append]; omega
theorem collect_o : ∀ (t : Tm) (a b : Int), cndT t ≤ 100000 → PCalls Tryz.prog 214 [aggD t, .d (.v (.int .i64 a)), .d (.v (.int .i64 b))] [] fun p s => ∃ g, p = .own g ((clT a b t).map encD) ∧ s = [.tok g 3 1 (clT a b t).length] := by
 refine Tm.ind ?_
 intro k n sub ih a b hnd
 have hc0 : clT a b (.mk k n sub) = (if k = a ∨ k = b then [n] else []) ++ clS a b sub := by simp only [clT]
 have hns : cndL sub ≤ 100000 := by simp only [cndT] at hnd; omega
 have IH : Hid (∀ s ∈ sub, PCalls Tryz.prog 214 [aggD s, .d (.v (.int .i64 a)), .d (.v (.int .i64 b))] [] fun p st => p = .d (.sl ((clT a b s).map encD)) ∧ st = []) := fun s hs =>
  (ih s hs a b (by have := cnd_mem s hs; omega)).norm fun p st ⟨g, e1, e2⟩ => ⟨by rw [e1]; rfl, rfl⟩
 have hl0 : (if k = a ∨ k = b then [n] else []).length ≤ 1 := by split <;> simp
 simp only [aggD, Jl, List.map_cons, List.map_nil, Tm.kind_mk, Tm.num_mk, Tm.sub_mk]
 clear ih hnd
 rw [hc0]
 clear hc0
 obtain ⟨r0, hr0⟩ : ∃ r0, (if k = a ∨ k = b then [n] else []) = r0 := ⟨_, rfl⟩
 rw [hr0] at hl0 ⊢
 refine PCalls.enter Tryz.func214 rfl Tryz.ntmps214 (by simp) ?_
 simp only [Qab]
 refine go_ ?_
 refine Jd ?_
 intro i0 hi0
 refine Qq ?_
 refine Qh ?_
 refine Qj ?_
 refine gs_ ?_
 refine Qc ?_
 refine gs_ ?_
 refine PW_own 7 3 1 (by decide) (by simp [PF.get] <;> rfl) fun g hg => ?_
 by_cases hk : k = a ∨ k = b
 ·rw [if_pos hk] at hr0
  by_cases h1 : k = a
  ·clear hk
   refine go_ ?_
   refine Qao ?_
   refine go_ ?_
   refine Qbe 1 ?_ ?_ ?_ ?_
   ·rfl
   ·simp
   ·simp
   refine gs_ ?_
   clear h1
   refine go_ ?_
   refine Qhh (t := 0) (i := 2) (rows := sub.map encD) (by simp [PF.get] <;> rfl) rfl fun hml => ?_
   rw [List.length_map] at hml
   refine Qak (ι := Nat) (fun y => y ≤ sub.length) (fun y => [(1, .d (.v (.int .i64 a))), (2, .d (.v (.int .i64 b))), (7, .own g ((r0 ++ clS a b (sub.take y)).map encD)), (26, .d (.sl (sub.map encD))), (27, .d (.v (.int .i64 sub.length))), (28, .d (.v (.int .i64 (y : Int))))]) (fun y => [.tok g 3 1 (r0 ++ clS a b (sub.take y)).length]) (fun y => sub.length - y) 0 (Nat.zero_le _) ?_ ?_ ?_
   ·subst hr0
    repeat (first | exact Jt _ | refine Js (by simp [PF.get]; rfl) (by first | rfl | (simp [clS, List.take_zero, List.append_nil]; done) | fail) ?_)
   ·subst hr0
    simp only [clS, List.take_zero, List.append_nil]
    repeat (first | exact List.Sublist.refl _ | exact List.nil_sublist _ | refine List.Sublist.cons_cons _ ?_ | refine List.Sublist.cons _ ?_)
   ·rintro j hj
    clear hr0
    unfold maxLen at hml
    by_cases hlt : j < sub.length
    ·have hx := Qal hlt
     have hc : (j : Int) < sub.length := by omega
     have hn : (0 : Int) ≤ j := by omega
     have hin := wr64 (n := (j : Int) + 1) (by omega) (by omega)
     have hT := clS_take (a := a) (b := b) hlt
     have hlen := Nat.le_trans (clS_len a b (sub.take (j + 1))) (Nat.le_trans (Qen sub (j + 1)) hns)
     rw [hT, List.length_append] at hlen
     have hlA : (r0 ++ clS a b (sub.take j)).length ≤ 100001 := by rw [List.length_append]; omega
     have HT := Lib.hid hT
     clear hT
     have hc1 := Lib.hid (IH.out _ (List.getElem_mem hlt))
     generalize clT a b sub[j] = x at *
     refine go_ ?_
     refine Je ?_
     intro i2 hi2
     try simp only [Ja, Rh, Rg, Jb] at hi2
     refine go_ ?_
     refine Rd ?_
     refine go_ ?_
     refine Jc (hc1.out) ?_
     refine go_ ?_
     refine Qbe ((r0 ++ clS a b (sub.take j)).length + x.length) ?_ ?_ ?_ ?_
     ·simp
     ·exact rows1a _ _
     ·exact Qfk _
     refine go_ ?_
     refine ⟨j + 1, hlt, by omega, ?_, ?_⟩
     ·rw [HT.out, ← List.append_assoc]
      repeat (first | exact Jt _ | refine Js (by simp [PF.get]; rfl) (by first | rfl | (simp [*]; done) | fail) ?_)
     ·rw [HT.out, ← List.append_assoc]
      simp only [List.length_append]
      repeat (first | exact List.Sublist.refl _ | exact List.nil_sublist _ | refine List.Sublist.cons_cons _ ?_ | refine List.Sublist.cons _ ?_)
    ·have hc : ¬ (j : Int) < sub.length := by omega
     have htk : sub.take j = sub := List.take_of_length_le (by omega)
     rw [htk]
     refine go_ ?_
     refine Qgv (st' := [.tok g 3 1 (r0 ++ clS a b sub).length]) (by simp) (by simp only [Tryz.results214]; rfl) (by simp [resP, PF.get]; rfl) (by repeat (first | exact List.Sublist.refl _ | exact List.nil_sublist _ | refine List.Sublist.cons_cons _ ?_ | refine List.Sublist.cons _ ?_)) ⟨g, by simp [tupP], rfl⟩
  ·have h2 : k = b := hk.resolve_left h1
   clear hk
   have h1b : ¬ b = a := fun e => h1 (h2.trans e)
   refine go_ ?_
   refine Qao ?_
   refine go_ ?_
   refine Qbe 1 ?_ ?_ ?_ ?_
   ·rfl
   ·simp
   ·simp
   refine gs_ ?_
   clear h1 h2 h1b
   refine go_ ?_
   refine Qhh (t := 0) (i := 2) (rows := sub.map encD) (by simp [PF.get] <;> rfl) rfl fun hml => ?_
   rw [List.length_map] at hml
   refine Qak (ι := Nat) (fun y => y ≤ sub.length) (fun y => [(1, .d (.v (.int .i64 a))), (2, .d (.v (.int .i64 b))), (7, .own g ((r0 ++ clS a b (sub.take y)).map encD)), (26, .d (.sl (sub.map encD))), (27, .d (.v (.int .i64 sub.length))), (28, .d (.v (.int .i64 (y : Int))))]) (fun y => [.tok g 3 1 (r0 ++ clS a b (sub.take y)).length]) (fun y => sub.length - y) 0 (Nat.zero_le _) ?_ ?_ ?_
   ·subst hr0
    repeat (first | exact Jt _ | refine Js (by simp [PF.get]; rfl) (by first | rfl | (simp [clS, List.take_zero, List.append_nil]; done) | fail) ?_)
   ·subst hr0
    simp only [clS, List.take_zero, List.append_nil]
    repeat (first | exact List.Sublist.refl _ | exact List.nil_sublist _ | refine List.Sublist.cons_cons _ ?_ | refine List.Sublist.cons _ ?_)
   ·rintro j hj
    clear hr0
    unfold maxLen at hml
    by_cases hlt : j < sub.length
    ·have hx := Qal hlt
     have hc : (j : Int) < sub.length := by omega
     have hn : (0 : Int) ≤ j := by omega
     have hin := wr64 (n := (j : Int) + 1) (by omega) (by omega)
     have hT := clS_take (a := a) (b := b) hlt
     have hlen := Nat.le_trans (clS_len a b (sub.take (j + 1))) (Nat.le_trans (Qen sub (j + 1)) hns)
     rw [hT, List.length_append] at hlen
     have hlA : (r0 ++ clS a b (sub.take j)).length ≤ 100001 := by rw [List.length_append]; omega
     have HT := Lib.hid hT
     clear hT
     have hc1 := Lib.hid (IH.out _ (List.getElem_mem hlt))
     generalize clT a b sub[j] = x at *
     refine go_ ?_
     refine Je ?_
     intro i2 hi2
     try simp only [Ja, Rh, Rg, Jb] at hi2
     refine go_ ?_
     refine Rd ?_
     refine go_ ?_
     refine Jc (hc1.out) ?_
     refine go_ ?_
     refine Qbe ((r0 ++ clS a b (sub.take j)).length + x.length) ?_ ?_ ?_ ?_
     ·simp
     ·exact rows1a _ _
     ·exact Qfk _
     refine go_ ?_
     refine ⟨j + 1, hlt, by omega, ?_, ?_⟩
     ·rw [HT.out, ← List.append_assoc]
      repeat (first | exact Jt _ | refine Js (by simp [PF.get]; rfl) (by first | rfl | (simp [*]; done) | fail) ?_)
     ·rw [HT.out, ← List.append_assoc]
      simp only [List.length_append]
      repeat (first | exact List.Sublist.refl _ | exact List.nil_sublist _ | refine List.Sublist.cons_cons _ ?_ | refine List.Sublist.cons _ ?_)
    ·have hc : ¬ (j : Int) < sub.length := by omega
     have htk : sub.take j = sub := List.take_of_length_le (by omega)
     rw [htk]
     refine go_ ?_
     refine Qgv (st' := [.tok g 3 1 (r0 ++ clS a b sub).length]) (by simp) (by simp only [Tryz.results214]; rfl) (by simp [resP, PF.get]; rfl) (by repeat (first | exact List.Sublist.refl _ | exact List.nil_sublist _ | refine List.Sublist.cons_cons _ ?_ | refine List.Sublist.cons _ ?_)) ⟨g, by simp [tupP], rfl⟩
 ·rw [if_neg hk] at hr0
  have h1 : ¬ k = a := fun h => hk (.inl h)
  have h2 : ¬ k = b := fun h => hk (.inr h)
  clear hk
  refine go_ ?_
  refine Qhh (t := 0) (i := 2) (rows := sub.map encD) (by simp [PF.get] <;> rfl) rfl fun hml => ?_
  rw [List.length_map] at hml
  refine Qak (ι := Nat) (fun y => y ≤ sub.length) (fun y => [(1, .d (.v (.int .i64 a))), (2, .d (.v (.int .i64 b))), (7, .own g ((r0 ++ clS a b (sub.take y)).map encD)), (26, .d (.sl (sub.map encD))), (27, .d (.v (.int .i64 sub.length))), (28, .d (.v (.int .i64 (y : Int))))]) (fun y => [.tok g 3 1 (r0 ++ clS a b (sub.take y)).length]) (fun y => sub.length - y) 0 (Nat.zero_le _) ?_ ?_ ?_
  ·subst hr0
   repeat (first | exact Jt _ | refine Js (by simp [PF.get]; rfl) (by first | rfl | (simp [clS, List.take_zero, List.append_nil]; done) | fail) ?_)
  ·subst hr0
   simp only [clS, List.take_zero, List.append_nil]
   repeat (first | exact List.Sublist.refl _ | exact List.nil_sublist _ | refine List.Sublist.cons_cons _ ?_ | refine List.Sublist.cons _ ?_)
  ·rintro j hj
   clear hr0
   unfold maxLen at hml
   by_cases hlt : j < sub.length
   ·have hx := Qal hlt
    have hc : (j : Int) < sub.length := by omega
    have hn : (0 : Int) ≤ j := by omega
    have hin := wr64 (n := (j : Int) + 1) (by omega) (by omega)
    have hT := clS_take (a := a) (b := b) hlt
    have hlen := Nat.le_trans (clS_len a b (sub.take (j + 1))) (Nat.le_trans (Qen sub (j + 1)) hns)
    rw [hT, List.length_append] at hlen
    have hlA : (r0 ++ clS a b (sub.take j)).length ≤ 100001 := by rw [List.length_append]; omega
    have HT := Lib.hid hT
    clear hT
    have hc1 := Lib.hid (IH.out _ (List.getElem_mem hlt))
    generalize clT a b sub[j] = x at *
    refine go_ ?_
    refine Je ?_
    intro i2 hi2
    try simp only [Ja, Rh, Rg, Jb] at hi2
    refine go_ ?_
    refine Rd ?_
    refine go_ ?_
    refine Jc (hc1.out) ?_
    refine go_ ?_
    refine Qbe ((r0 ++ clS a b (sub.take j)).length + x.length) ?_ ?_ ?_ ?_
    ·simp
    ·exact rows1a _ _
    ·exact Qfk _
    refine go_ ?_
    refine ⟨j + 1, hlt, by omega, ?_, ?_⟩
    ·rw [HT.out, ← List.append_assoc]
     repeat (first | exact Jt _ | refine Js (by simp [PF.get]; rfl) (by first | rfl | (simp [*]; done) | fail) ?_)
    ·rw [HT.out, ← List.append_assoc]
     simp only [List.length_append]
     repeat (first | exact List.Sublist.refl _ | exact List.nil_sublist _ | refine List.Sublist.cons_cons _ ?_ | refine List.Sublist.cons _ ?_)
   ·have hc : ¬ (j : Int) < sub.length := by omega
    have htk : sub.take j = sub := List.take_of_length_le (by omega)
    rw [htk]
    refine go_ ?_
    refine Qgv (st' := [.tok g 3 1 (r0 ++ clS a b sub).length]) (by simp) (by simp only [Tryz.results214]; rfl) (by simp [resP, PF.get]; rfl) (by repeat (first | exact List.Sublist.refl _ | exact List.nil_sublist _ | refine List.Sublist.cons_cons _ ?_ | refine List.Sublist.cons _ ?_)) ⟨g, by simp [tupP], rfl⟩
end Go.Proofs.YtdklpbefbamchaaGreat
namespace Go.Proofs.YtdklpbefbamchaaGreat
open Go.RowKit Go.Shelf
theorem rep_tm {S : Nat → Prop} {w : World} {t : Tm} {cs : List Value} : Rep S w t cs ↔ ∃ v, cs = [.int .i64 t.kind, .int .i64 t.num, v] ∧ RepS S w v t.sub := by
 cases t with
 | mk k n sub =>
 unfold Rep RepS
 simp only [Enc.enc, Enc.sz, tmD, Qja, RepF, Tm.kind, Tm.num, Tm.sub]
 constructor
 ·rintro ⟨c, cr, rfl, h1, c, cr, rfl, h2, c, cr, rfl, h5, rfl⟩
  simp only [RepV] at h1 h2
  obtain ⟨rfl, -⟩ := h1
  obtain ⟨rfl, -⟩ := h2
  exact ⟨_, rfl, h5⟩
 ·rintro ⟨v, rfl, h5⟩
  exact ⟨_, _, rfl, by simp [RepV, Value.oneCell'], _, _, rfl, by simp [RepV, Value.oneCell'], _, _, rfl, h5, rfl⟩
theorem PCalls.ownI {P : Program} {f : FuncId} {args : List PV} {E : TypeId} {l : List Int} (h : PCalls P f args [] fun p s => ∃ g, p = .own g (l.map encD) ∧ s = [.tok g E 1 l.length]) {w : World} {vs : Array Value} (ha : RelVs (K0 w) w args vs) :
  Calls P f vs w fun e w' => ∃ u c, e = .returned (.slice u l.length c) ∧ w'.ownsRow w.heap.size E 1 (.slice u l.length c) l.length (l.map (Value.int .i64)) ∧ Below w.heap.size w w' := by
 refine (h (F0 w) (K0 w) w vs (rel0 w) ha).mono ?_
 rintro e w' ⟨v, K', p, st', rfl, hx, hr, hv, g, rfl, rfl⟩
 obtain ⟨u, xs, h1, h2, h3, h4, h5⟩ := hr.ents _ (List.mem_singleton.2 rfl)
 generalize hrows : l.map encD = rows at hv
 cases hv with
 | @own _ _ _ u' hd hg hle heq =>
 rw [h1] at hg
 obtain rfl := Option.some.inj hg
 have hlen : rows.length = l.length := by rw [← hrows, List.length_map]
 have hvu := heq (by rw [h3, hlen])
 subst hvu
 obtain ⟨a, cap, hv, hc1, hc2⟩ := Qgw hd
 subst hv
 rw [hlen] at *
 refine ⟨a, cap, rfl, ?_, hx.os, hx.tape, hx.output, hx.size, fun k hk => hx.hp k hk⟩
 have hxs : xs = l.map (Value.int .i64) := by
  obtain ⟨ys, hy, a', cap', he, hcell⟩ := hd.rv (es := 1) (by decide) (by rw [← hrows]; exact Qfk l)
  have hyl : ys = l.map (Value.int .i64) := by
   refine List.ext_getElem? fun i => ?_
   by_cases hi : i < l.length
   ·have hr1 : rows[i]? = some [D.v (.int .i64 l[i])] := by rw [← hrows, List.getElem?_map, List.getElem?_eq_getElem hi]; rfl
    obtain ⟨x, h6, h7⟩ := hy.2.2 i 0 _ (.v (.int .i64 l[i])) hr1 rfl
    cases h7
    rw [show i * 1 + 0 = i by omega] at h6
    rw [h6, List.getElem?_map, List.getElem?_eq_getElem hi]; rfl
   ·rw [List.getElem?_eq_none (by rw [hy.1, ← hrows, List.length_map]; omega), List.getElem?_eq_none (by rw [List.length_map]; omega)]
  rw [← hyl]
  have hxl : xs.length = l.length := by rw [h4.1]; omega
  have hyll : ys.length = l.length := by rw [hyl, List.length_map]
  rcases h4.2 with ⟨e1, e2⟩ | ⟨g', cap2, cur, e1, e2, e3, e4, e5, e6, e7⟩
  ·rw [List.eq_nil_of_length_eq_zero (hxl.trans e2), List.eq_nil_of_length_eq_zero (hyll.trans e2)]
  ·refine List.ext_getElem? fun i => ?_
   by_cases hi : i < l.length
   ·obtain ⟨y, hyi⟩ : ∃ y, ys[i]? = some y := ⟨_, List.getElem?_eq_getElem (by omega)⟩
    injection e1 with e8 _ _
    injection he with e9 _ _
    have h8 := (hcell ⟨g', 0, none⟩ (by rw [← e9, e8]) i y hyi).1
    rw [hyi, ← e7, List.getElem?_take, if_pos (by omega)]
    rw [Qdr, Nat.zero_add, Qew e3] at h8
    simpa using h8
   ·rw [List.getElem?_eq_none (by omega), List.getElem?_eq_none (by omega)]
 rw [hxs] at h4
 refine ⟨h4.1, ?_⟩
 rcases h4.2 with h | ⟨g', cap', cur, e1, e2, e3, e4⟩
 ·exact .inl h
 ·refine .inr ⟨g', cap', cur, e1, ?_, e3, e4⟩
  have := (h5 g' (by rw [e1]; rfl)).1
  exact Nat.le_of_not_lt this
theorem own_block {w : World} {base e n : Nat} {u : Option Addr} {c : Nat} {N : List Int} (h : w.ownsRow base e 1 (.slice u n c) n (N.map (Value.int .i64))) (hn : N.length = n) (h0 : 0 < n) :
  ∃ g cur, u = some ⟨g, 0, none⟩ ∧ base ≤ g ∧ g < w.heap.size ∧ w.heap[g]? = some (.cells cur e (0, 0)) ∧ n ≤ c ∧ c ≤ maxLen ∧ cur.size = c * 1 ∧ cur.toList.take N.length = N.map (Value.int .i64) := by
 rcases h.2 with ⟨e0, _⟩ | ⟨g', cap', cur, e0, hb, hg, hn', hm, hs, ht⟩
 ·cases e0; omega
 ·injection e0 with e1 _ e3
  subst e1; subst e3
  have hlt : g' < w.heap.size := by
   obtain ⟨h1, _⟩ := Array.getElem?_eq_some_iff.1 hg; exact h1
  exact ⟨g', cur, rfl, hb, hlt, hg, hn', hm, hs, by rw [hn]; simpa using ht⟩
theorem slsort_any (N : List Int) (u : Option Addr) (c base : Nat) (w : World) (hN5 : N.length ≤ 50000) (hbase : base ≤ w.heap.size) (hown : w.ownsRow base 3 1 (.slice u N.length c) N.length (N.map (Value.int .i64))) :
  Calls Tryz.prog 259 #[.slice u N.length c] w fun e w' => e = .returned (.tuple #[]) ∧ w'.ownsRow base 3 1 (.slice u N.length c) N.length ((N.mergeSort fun x y => decide (x ≤ y)).map (Value.int .i64)) ∧ Below base w w' := by
 by_cases h0 : 0 < N.length
 ·obtain ⟨g, cur, rfl, hb, hlt, hg, hnc, hm, hs, ht⟩ := own_block hown rfl h0
  have H := Any.slices_Sort_int Tryz.lays189 g 0 c N w (holds_of_blockI hg ht) hlt (by omega)
  refine H.mono ?_
  rintro e w' ⟨rfl, n, os, rfl⟩
  refine ⟨rfl, ownsRow_sortedI (by simp) hb hg hnc hm hs, ?_⟩
  exact (Below.refl base w).grown (grownBy_sortedI _) hbase (fun k hk => by cases hk; exact hb)
 ·have hN : N = [] := List.length_eq_zero_iff.1 (by omega)
  subst hN
  refine (Any.slices_Sort_int_none Tryz.lays189 u c w).mono ?_
  rintro e w' ⟨rfl, rfl⟩
  exact ⟨rfl, by simpa using hown, Below.refl _ _⟩
theorem slcompact_any (N : List Int) (u : Option Addr) (c base : Nat) (w : World) (hown : w.ownsRow base 3 1 (.slice u N.length c) N.length (N.map (Value.int .i64))) :
  Calls Tryz.prog 260 #[.slice u N.length c] w fun e w' => e = .returned (.slice u (Lib.compact N).length c) ∧ w'.ownsRow base 3 1 (.slice u (Lib.compact N).length c) (Lib.compact N).length ((Lib.compact N).map (Value.int .i64)) ∧ Below base w w' := by
 by_cases h0 : 0 < N.length
 ·obtain ⟨g, cur, rfl, hb, hlt, hg, hnc, hm, hs, ht⟩ := own_block hown rfl h0
  have hle := Lib.compact_length_le N
  have H := Any.slices_Compact_int Tryz.laysNm220 g 0 c N w (holds_of_blockI hg ht) (by unfold maxLen at hm; omega) hnc
  refine H.mono ?_
  rintro e w' ⟨rfl, q, rfl⟩
  have h := Lib.ownsRow_putRow (q := q) (ys := Lib.compact N ++ List.replicate (N.length - (Lib.compact N).length) 0) hown (by simp; omega) hle
  rw [List.take_left'] at h
  ·exact ⟨rfl, h, Lib.below_putRow (Below.refl _ _) hb⟩
  ·rfl
 ·have hN : N = [] := List.length_eq_zero_iff.1 (by omega)
  subst hN
  refine (Any.slices_Compact_int_empty Tryz.laysNm220 u c w).mono ?_
  rintro e w' ⟨rfl, rfl⟩
  exact ⟨rfl, hown, Below.refl _ _⟩
theorem rising_any (a b : Int) (t : Tm) (u : Option Addr) (c base : Nat) (w : World) (hnd : cndT t ≤ 20000) (hbase : base ≤ w.heap.size) (hown : w.ownsRow base 3 1 (.slice u (clT a b t).length c) (clT a b t).length ((clT a b t).map (Value.int .i64))) :
  Calls Tryz.prog 213 #[.slice u (clT a b t).length c] w fun e w' => e = .returned (.slice u (nmT a b t).length c) ∧ w'.ownsRow base 3 1 (.slice u (nmT a b t).length c) (nmT a b t).length ((nmT a b t).map (Value.int .i64)) ∧ Below base w w' := by
 have hR := rise_nm a b t
 have S1 := Lib.hid (slsort_any _ u c base w (by have := cl_len a b t; omega) hbase hown)
 have hml : ((clT a b t).mergeSort fun x y => decide (x ≤ y)).length = (clT a b t).length := List.length_mergeSort _
 rw [← hml] at S1 ⊢
 generalize ((clT a b t).mergeSort fun x y => decide (x ≤ y)) = S at *
 generalize nmT a b t = R at *
 clear hown hml
 have HR := Lib.hid hR
 clear hR
 go_enter Tryz.func213, Tryz.ntmps213
 go_wp2_with fail
 refine S1.out.mono ?_
 rintro e w1 ⟨rfl, ho1, hb1⟩
 have C := Lib.hid (slcompact_any S u c base w1 ho1)
 have HB1 := Lib.hid hb1
 clear ho1 hb1 S1
 go_wp2_with fail
 refine C.out.mono ?_
 rw [HR.out]
 rintro e w2 ⟨rfl, ho2, hb2⟩
 have HO := Lib.hid ho2
 have HB := Lib.hid (HB1.out.trans hb2)
 clear ho2 hb2 C
 go_wp2_with fail
 go_ret
 exact ⟨rfl, HO.out, HB.out⟩
end Go.Proofs.YtdklpbefbamchaaGreat
namespace Go.Proofs.YtdklpbefbamchaaGreat
open Go.RowKit
theorem relK0 {α : Type} [Enc α] [EncOk α] {w : World} {t : α} {cs : List Value} (h : Rep (fun _ => True) w t cs) : RelV (K0 w) w (aggD t) (.agg cs.toArray) := rel_rep (K := K0 w) (fun b o v _ h => ⟨v, h⟩) h
theorem rvI (K : Nat → Nat → Prop) (w : World) (l : List Int) : RV K w 1 (l.map encD) (l.map (Value.int .i64)) := by
 refine ⟨by simp, Qfk l, fun i j row d hi hj => ?_⟩
 rw [List.getElem?_map] at hi
 obtain ⟨n, hn, rfl⟩ := Option.map_eq_some_iff.1 hi
 have hj0 : j = 0 := by
  have := (List.getElem?_eq_some_iff.1 hj).1
  simpa [Jf] using this
 subst hj0
 obtain rfl : D.v (.int .i64 n) = d := Option.some.inj hj
 exact ⟨.int .i64 n, by rw [show i * 1 + 0 = i by omega, List.getElem?_map, hn]; rfl, .v trivial⟩
theorem relI {w w' : World} {base e : Nat} {v : Value} {l : List Int} (h : w'.ownsRow base e 1 v l.length (l.map (Value.int .i64))) (hb : w.heap.size ≤ base) {K' : Kp} (hK : ∀ b o u, w.heap.size ≤ b → w'.cell? ⟨b, o, none⟩ = some u → K'.cell b o) : RelD K'.cell w' (.sl (l.map encD)) v := by
 refine (rvI K'.cell w' l).rel (E := e) (n := l.length) ⟨h.1, ?_⟩ (by rw [List.length_map]) fun b hv o ho => ?_
 ·rcases h.2 with h | ⟨g, cap, cur, e1, e2, e3⟩
  ·exact .inl h
  ·exact .inr ⟨g, cap, cur, e1, Nat.zero_le _, e3⟩
 ·rcases h.2 with ⟨e1, -⟩ | ⟨g, cap, cur, e1, e2, e3, e4, e5, e6, e7⟩
  ·rw [e1] at hv; cases hv
  ·rw [e1] at hv
   obtain rfl : g = b := Option.some.inj hv
   obtain ⟨u, hu⟩ : ∃ u, cur[o]? = some u := ⟨_, Array.getElem?_eq_getElem (by omega)⟩
   exact hK g o u (by omega) (by rw [Qew e3]; exact hu)
theorem tfrees_p (t : Tm) : PCalls Tryz.prog 243 [aggD t] [] fun p s => p = .d (.sl ((enT 8 8 t).map encD)) ∧ s = [] := by
  refine PCalls.data fun K w vs ha => ?_
  obtain ⟨v, rfl, hv⟩ := ha.one
  obtain ⟨cs, rfl, ht⟩ := rep_rel hv
  obtain ⟨sv, rfl, hsub⟩ := rep_tm.1 ht
  obtain ⟨ad, nn, cap, rfl⟩ := hsub.form
  have E := boxes1 w #[.int .i64 t.kind, .int .i64 t.num, .slice ad nn cap] 26
  have HT := Lib.hid ht
  have HE := Lib.hid E
  have SH := Lib.hid (((Qdc t).mono fun _ _ h => h.1).top (Qcz (relK0 (ht.later E.2.1)) (Qfp _ _)))
  clear hv ha hsub ht E
  cases hb : Qai t with
  | true =>
    have hE : enT 8 8 t = nmT 8 8 t := if_pos hb
    have hnd := (Qbd hb).2.2
    rw [hb] at SH
    rw [hE]
    clear hE hb
    go_enter Tryz.func243, Tryz.ntmps243
    go_wp2_with fail
    refine SH.out.mono ?_
    rintro e w1 ⟨rfl, hb1⟩
    have h1 := (hb1.block w.heap.size (by have := HE.out.2.2; omega)).trans HE.out.1
    have c0 := Qew h1 0
    have c1 := Qew h1 1
    have c2 := Qew h1 2
    have HW1 := Lib.hid (HE.out.2.1.trans (hb1.mono HE.out.2.1.size))
    have C := Lib.hid ((collect_o t 8 8 (by omega)).ownI (Qcz (relK0 (HT.out.later HW1.out)) (Qcz (.d (.v trivial)) (Qcz (.d (.v trivial)) (Qfp _ _)))))
    clear hb1 SH h1
    go_wp2_with fail
    refine C.out.mono ?_
    rintro e w2 ⟨u, c, rfl, ho, hb2⟩
    have R := Lib.hid (rising_any 8 8 t u c w1.heap.size w2 (by omega) hb2.size ho)
    have HB2 := Lib.hid hb2
    clear hb2 ho C c0 c1 c2
    go_wp2_with fail
    refine R.out.mono ?_
    rintro e w3 ⟨rfl, ho3, hb3⟩
    have HS := Lib.hid ho3
    have HB := Lib.hid (HW1.out.trans ((HB2.out.trans hb3).mono HW1.out.size))
    have HZ := Lib.hid HW1.out.size
    clear hb3 ho3 R
    go_wp2_with fail
    go_ret
    exact ⟨_, rfl, HB.out, fun K' hK => .d (relI HS.out HZ.out hK)⟩
  | false =>
    have hE : enT 8 8 t = [] := if_neg (by rw [hb]; simp)
    rw [hb] at SH
    rw [hE]
    clear hE hb
    go_enter Tryz.func243, Tryz.ntmps243
    go_wp2_with fail
    refine SH.out.mono ?_
    rintro e w1 ⟨rfl, hb1⟩
    have HW1 := Lib.hid (HE.out.2.1.trans (hb1.mono HE.out.2.1.size))
    clear hb1
    go_wp2_with fail
    go_ret
    exact ⟨_, rfl, HW1.out, fun K' hK => .d (.nil (by decide))⟩
theorem tentries_p (t : Tm) : PCalls Tryz.prog 165 [aggD t] [] fun p s => p = .d (.sl ((enT 6 7 t).map encD)) ∧ s = [] := by
  refine PCalls.data fun K w vs ha => ?_
  obtain ⟨v, rfl, hv⟩ := ha.one
  obtain ⟨cs, rfl, ht⟩ := rep_rel hv
  obtain ⟨sv, rfl, hsub⟩ := rep_tm.1 ht
  obtain ⟨ad, nn, cap, rfl⟩ := hsub.form
  have E := boxes1 w #[.int .i64 t.kind, .int .i64 t.num, .slice ad nn cap] 26
  have HT := Lib.hid ht
  have HE := Lib.hid E
  have SH := Lib.hid (((Qdc t).mono fun _ _ h => h.1).top (Qcz (relK0 (ht.later E.2.1)) (Qfp _ _)))
  clear hv ha hsub ht E
  cases hb : Qai t with
  | true =>
    have hE : enT 6 7 t = nmT 6 7 t := if_pos hb
    have hnd := (Qbd hb).2.2
    rw [hb] at SH
    rw [hE]
    clear hE hb
    go_enter Tryz.func165, Tryz.ntmps165
    go_wp2_with fail
    refine SH.out.mono ?_
    rintro e w1 ⟨rfl, hb1⟩
    have h1 := (hb1.block w.heap.size (by have := HE.out.2.2; omega)).trans HE.out.1
    have c0 := Qew h1 0
    have c1 := Qew h1 1
    have c2 := Qew h1 2
    have HW1 := Lib.hid (HE.out.2.1.trans (hb1.mono HE.out.2.1.size))
    have C := Lib.hid ((collect_o t 6 7 (by omega)).ownI (Qcz (relK0 (HT.out.later HW1.out)) (Qcz (.d (.v trivial)) (Qcz (.d (.v trivial)) (Qfp _ _)))))
    clear hb1 SH h1
    go_wp2_with fail
    refine C.out.mono ?_
    rintro e w2 ⟨u, c, rfl, ho, hb2⟩
    have R := Lib.hid (rising_any 6 7 t u c w1.heap.size w2 (by omega) hb2.size ho)
    have HB2 := Lib.hid hb2
    clear hb2 ho C c0 c1 c2
    go_wp2_with fail
    refine R.out.mono ?_
    rintro e w3 ⟨rfl, ho3, hb3⟩
    have HS := Lib.hid ho3
    have HB := Lib.hid (HW1.out.trans ((HB2.out.trans hb3).mono HW1.out.size))
    have HZ := Lib.hid HW1.out.size
    clear hb3 ho3 R
    go_wp2_with fail
    go_ret
    exact ⟨_, rfl, HB.out, fun K' hK => .d (relI HS.out HZ.out hK)⟩
  | false =>
    have hE : enT 6 7 t = [] := if_neg (by rw [hb]; simp)
    rw [hb] at SH
    rw [hE]
    clear hE hb
    go_enter Tryz.func165, Tryz.ntmps165
    go_wp2_with fail
    refine SH.out.mono ?_
    rintro e w1 ⟨rfl, hb1⟩
    have HW1 := Lib.hid (HE.out.2.1.trans (hb1.mono HE.out.2.1.size))
    clear hb1
    go_wp2_with fail
    go_ret
    exact ⟨_, rfl, HW1.out, fun K' hK => .d (.nil (by decide))⟩
theorem rleaf_p (k n : Int) : PCalls Tryz.prog 68 [.d (.v (.int .i64 k)), .d (.v (.int .i64 n))] [] fun p s => p = aggD (Tm.mk k n []) ∧ s = [] := by
 refine PCalls.enter Tryz.func68 rfl Tryz.ntmps68 (by simp) ?_
 simp only [Qab]
 refine go_ ?_
 refine Je ?_
 intro i0 hi0
 refine go_ ?_
 refine Rd ?_
 refine go_ ?_
 refine Jm (by simp) (by simp only [Tryz.results68]; rfl) (by simp [resP, St.box?, PF.get, Jn, TyK.agg, *]; rfl) Nl ?_
 exact ⟨by simp [aggD, tupP, PV.norm2, PV.norm1, PV.norm0], rfl⟩
theorem rtwo_p (k : Int) (a b : Tm) : PCalls Tryz.prog 124 [.d (.v (.int .i64 k)), aggD a, aggD b] [] fun p s => p = aggD (Tm.mk k 0 [a, b]) ∧ s = [] := by
 simp only [aggD, Jl, List.map_cons, List.map_nil, Tm.kind_mk, Tm.num_mk, Tm.sub_mk]
 refine PCalls.enter Tryz.func124 rfl Tryz.ntmps124 (by simp) ?_
 simp only [Qab]
 refine go_ ?_
 refine Jd ?_
 intro i0 hi0
 refine go_ ?_
 refine Jd ?_
 intro i1 hi1
 try simp only [Ja, Rh, Rg, Jb] at hi1
 refine go_ ?_
 refine Je ?_
 intro i2 hi2
 try simp only [Ja, Rh, Rg, Jb] at hi2
 refine go_ ?_
 refine Qao ?_
 refine go_ ?_
 refine Rd ?_
 refine go_ ?_
 refine Jm (by simp) (by simp only [Tryz.results124]; rfl) (by simp [resP, St.box?, PF.get, Jn, TyK.agg, *]; rfl) Nl ?_
 exact ⟨by simp [tupP, PV.norm2, PV.norm1, PV.norm0], rfl⟩
theorem tnode_p (k n : Int) (l : List Tm) : PCalls Tryz.prog 181 [.d (.v (.int .i64 k)), .d (.v (.int .i64 n)), .d (.sl (l.map encD))] [] fun p s => p = aggD (Tm.mk k n l) ∧ s = [] := by
 refine PCalls.enter Tryz.func181 rfl Tryz.ntmps181 (by simp) ?_
 simp only [Qab]
 refine go_ ?_
 refine Je ?_
 intro i0 hi0
 refine go_ ?_
 refine Rd ?_
 refine go_ ?_
 refine Jm (by simp) (by simp only [Tryz.results181]; rfl) (by simp [resP, St.box?, PF.get, Jn, TyK.agg, *]; rfl) Nl ?_
 exact ⟨by simp [aggD, tupP, PV.norm2, PV.norm1, PV.norm0], rfl⟩
theorem tcloned_p : ∀ (t : Tm), cndT t ≤ 100000 → PCalls Tryz.prog 182 [aggD t] [] fun p s => p = aggD t ∧ s = [] := by
 refine Tm.ind ?_
 intro k n sub ih hnd
 have hns : cndL sub ≤ 100000 := by simp only [cndT] at hnd; omega
 have hsl : sub.length ≤ 100000 := Nat.le_trans (Qgd sub) hns
 have IH : Hid (∀ s ∈ sub, PCalls Tryz.prog 182 [aggD s] [] fun p st => p = aggD s ∧ st = []) := fun s hs => ih s hs (by have := cnd_mem s hs; omega)
 simp only [aggD, Jl, List.map_cons, List.map_nil, Tm.kind_mk, Tm.num_mk, Tm.sub_mk]
 clear ih hnd hns
 refine PCalls.enter Tryz.func182 rfl Tryz.ntmps182 (by simp) ?_
 simp only [Qab]
 refine go_ ?_
 refine Jd ?_
 intro i0 hi0
 refine go_ ?_
 refine Je ?_
 intro i1 hi1
 try simp only [Ja, Rh, Rg, Jb] at hi1
 refine go_ ?_
 refine Je ?_
 intro i2 hi2
 try simp only [Ja, Rh, Rg, Jb] at hi2
 refine go_ ?_
 refine Rd ?_
 refine gs_ ?_
 refine Qhf i2 2 26 3 (by simp [nev, nevA, nevB, Jp, PF.eval, PF.get, PF.wants, cPV, Qae, PV.rows, Qaf, evUn, Jq, Qah, Qag, Jn, TyK.agg, Qad, St.box?, St.tok?, St.setBox, St.setTok, Qac, spl, PV.ps, PV.one, Jo, aggD, slD, Jh, Jk, Ji, Jj, Jg, Jf, *]; rfl) (by rfl) (by rfl) (by intro g; simp [St.setBox, *]; rfl) (by decide) ?_
 intro g hg
 refine go_ ?_
 refine Qak (ι := Nat) (fun y => y ≤ sub.length) (fun y => [(2, .ptr i1 0), (3, .ptr i2 0), (12, .d (.sl (sub.map encD))), (13, .d (.v (.int .i64 sub.length))), (14, .d (.v (.int .i64 (y : Int))))]) (fun y => [.tok g 26 3 y, .box i2 26 [.d (.v (.int .i64 k)), .d (.v (.int .i64 n)), .own g ((sub.map encD).take y)], .box i1 26 [.d (.v (.int .i64 0)), .d (.v (.int .i64 0)), .nils]]) (fun y => sub.length - y) 0 (Nat.zero_le _) ?_ ?_ ?_
 ·repeat (first | exact Jt _ | refine Js (by simp [PF.get]; rfl) (by first | rfl | (simp [*]; done) | fail) ?_)
 ·repeat (first | exact List.Sublist.refl _ | exact List.nil_sublist _ | refine List.Sublist.cons_cons _ ?_ | refine List.Sublist.cons _ ?_)
 ·rintro j hj
  by_cases hlt : j < sub.length
  ·have hx := Qal hlt
   have hc : (j : Int) < sub.length := by omega
   have hn : (0 : Int) ≤ j := by omega
   have hin := wr64 (n := (j : Int) + 1) (by omega) (by omega)
   have hc1 := Lib.hid (IH.out _ (List.getElem_mem hlt))
   have hT : (sub.map encD).take (j + 1) = (sub.map encD).take j ++ [encD sub[j]] := by rw [← List.map_take, List.take_succ_eq_append_getElem hlt, List.map_append, List.map_take]; rfl
   have hlen : (sub.take j).length = j := by rw [List.length_take]; omega
   have HT := Lib.hid hT
   clear hT
   refine go_ ?_
   refine Je ?_
   intro i3 hi3
   try simp only [Ja, Rh, Rg, Jb] at hi3
   refine go_ ?_
   refine Rd ?_
   refine go_ ?_
   refine Qgp (J := Qcw [(i2, _), (i3, _)]) [(0, .a), (1, .a), (2, .a), (3, .a), (4, .a), (5, .e), (6, .a), (7, .e)] (by kernel_rfl) (by rfl) (by kernel_rfl) (by (repeat (first | exact Qam _ | refine Ju (by simp [St.box?, *] <;> rfl) ?_))) ?_
   repeat (first | with_reducible refine Qar ?_ | refine Qaq ?_ | refine Qax ?_ | refine Qaw ?_)
   refine Qcc (hc1.out) ?_
   repeat (first | with_reducible refine Qar ?_ | refine Qaq ?_ | refine Qax ?_ | refine Qaw ?_)
   refine PL_bs ?_ rfl (by decide) rfl (by simp; rfl) (by rfl) (by simp; rfl) (by rfl) (by decide) (by decide) (by simp [nev, nevA, nevB, Jp, PF.eval, PF.get, PF.wants, cPV, Qae, PV.rows, Qaf, evUn, Jq, Qah, Qag, Jn, TyK.agg, Qad, St.box?, St.tok?, St.setBox, St.setTok, Qac, spl, PV.ps, PV.one, Jo, aggD, slD, Jh, Jk, Ji, Jj, Jg, Jf, *]; rfl) (by simp [Qcd, toDs, PV.toD]; rfl)
   refine PL_app (j + 1) ?_ ?_ ?_ ?_ ?_
   rotate_left
   ·exact fun row h => Qdv sub row (List.mem_of_mem_take h)
   ·exact Qbs rfl
   ·simp; omega
   ·exact .inr (by (repeat (first | exact Qam _ | refine Ju (by simp [St.box?, *] <;> rfl) ?_)))
   repeat (first | with_reducible refine Qar ?_ | refine Qaq ?_ | refine Qax ?_ | refine Qaw ?_)
   refine Qcl rfl rfl (by simp [nev, nevA, nevB, Jp, PF.eval, PF.get, PF.wants, cPV, Qae, PV.rows, Qaf, evUn, Jq, Qah, Qag, Jn, TyK.agg, Qad, St.box?, St.tok?, St.setBox, St.setTok, Qac, spl, PV.ps, PV.one, Jo, aggD, slD, Jh, Jk, Ji, Jj, Jg, Jf, *]; rfl) (by rfl) (by simp [nev, nevA, nevB, Jp, PF.eval, PF.get, PF.wants, cPV, Qae, PV.rows, Qaf, evUn, Jq, Qah, Qag, Jn, TyK.agg, Qad, St.box?, St.tok?, St.setBox, St.setTok, Qac, spl, PV.ps, PV.one, Jo, aggD, slD, Jh, Jk, Ji, Jj, Jg, Jf, *]; rfl) (by simp [PV.ps, aggD, slD, Jh, Jk, Ji, Jj, Jg, Jf]; rfl) (by first | rfl | (simp [*]; done) | (simp [PV.one, *]; done) | fail) (by simp; rfl) (by first | (simp; done) | fail) (by simp [nev, nevA, nevB, Jp, PF.eval, PF.get, PF.wants, cPV, Qae, PV.rows, Qaf, evUn, Jq, Qah, Qag, Jn, TyK.agg, Qad, St.box?, St.tok?, St.setBox, St.setTok, Qac, spl, PV.ps, PV.one, Jo, aggD, slD, Jh, Jk, Ji, Jj, Jg, Jf, *]; rfl) (by rfl) (by first | (simp; done) | fail) (by simp [St.setBox, spl, *]; rfl) (by first | exact .inl (by decide +kernel) | exact .inr (by (repeat (first | exact Qam _ | refine Ju (by simp [St.box?, *] <;> rfl) ?_)))) ?_
   repeat (first | with_reducible refine Qar ?_ | refine Qaq ?_ | refine Qax ?_ | refine Qaw ?_)
   refine go_ ?_
   refine ⟨j + 1, hlt, by omega, ?_, ?_⟩
   ·repeat (first | exact Jt _ | refine Js (by simp [PF.get]; rfl) (by first | rfl | (simp [*]; done) | fail) ?_)
   ·rw [HT.out]
    simp only [Jl]
    repeat (first | exact List.Sublist.refl _ | exact List.nil_sublist _ | refine List.Sublist.cons_cons _ ?_ | refine List.Sublist.cons _ ?_)
  ·have hc : ¬ (j : Int) < sub.length := by omega
   have hj2 : j = sub.length := by omega
   subst hj2
   have htk : (sub.map encD).take sub.length = sub.map encD := List.take_of_length_le (by simp)
   rw [htk]
   refine go_ ?_
   refine Rd ?_
   refine go_ ?_
   refine Jm (by simp) (by simp only [Tryz.results182]; rfl) (by simp [resP, St.box?, PF.get, Jn, TyK.agg, *]; rfl) Nl ?_
   exact ⟨by simp [tupP, PV.norm2, PV.norm1, PV.norm0], rfl⟩
def Qel (t : Tm) : Tm := if Qai t = true then t else .mk 0 0 []
theorem Qih (t : Tm) : PCalls Tryz.prog 119 [aggD t] [] fun p s => p = aggD (Qel t) ∧ s = [] := by
  have hS := Lib.hid (Qdc t)
  have HR := Lib.hid (show Qel t = if Qai t = true then t else .mk 0 0 [] from rfl)
  cases hb : Qai t with
  | true =>
    have hL := Lib.hid (tcloned_p t (by have := (Qbd hb).2.2; omega))
    rw [HR.out, if_pos hb]
    rw [hb] at hS
    clear HR hb
    simp only [aggD, Jl, List.map_cons, List.map_nil] at hS hL ⊢
    refine PCalls.enter Tryz.func119 rfl Tryz.ntmps119 (by simp) ?_
    simp only [Qab]
    refine go_ ?_
    refine Jd ?_
    intro i0 hi0
    refine go_ ?_
    refine Je ?_
    intro i1 hi1
    try simp only [Ja, Rh, Rg, Jb] at hi1
    refine go_ ?_
    refine Jc (hS.out) ?_
    refine go_ ?_
    refine Jc (hL.out) ?_
    refine go_ ?_
    refine Rd ?_
    refine go_ ?_
    refine Jm (by simp) (by simp only [Tryz.results119]; rfl) (by simp [resP, St.box?, PF.get, Jn, TyK.agg, *]; rfl) Nl ?_
    exact ⟨by simp [tupP, PV.norm2, PV.norm1, PV.norm0], rfl⟩
  | false =>
    rw [HR.out, if_neg (by rw [hb]; simp)]
    rw [hb] at hS
    clear HR hb
    simp only [aggD, Jl, List.map_cons, List.map_nil, Tm.kind_mk, Tm.num_mk, Tm.sub_mk] at hS ⊢
    refine PCalls.enter Tryz.func119 rfl Tryz.ntmps119 (by simp) ?_
    simp only [Qab]
    refine go_ ?_
    refine Jd ?_
    intro i0 hi0
    refine go_ ?_
    refine Je ?_
    intro i1 hi1
    try simp only [Ja, Rh, Rg, Jb] at hi1
    refine go_ ?_
    refine Jc (hS.out) ?_
    refine go_ ?_
    refine Rd ?_
    refine go_ ?_
    refine Jm (by simp) (by simp only [Tryz.results119]; rfl) (by simp [resP, St.box?, PF.get, Jn, TyK.agg, *]; rfl) Nl ?_
    exact ⟨by simp [tupP, PV.norm2, PV.norm1, PV.norm0], rfl⟩
def putG : List Int → Int → Bool → List Int
 | [], n, d => if d = true then [] else [n]
 | x :: xs, n, d => if d = true then x :: putG xs n true else if n ≤ x then (if n < x then [n, x] else [x]) ++ putG xs n true else x :: putG xs n false
theorem putG_true (l : List Int) (n : Int) : putG l n true = l := by
 induction l with
 | nil => simp [putG]
 | cons x xs ih => simp [putG, ih]
theorem putG_eq (l : List Int) (n : Int) : putG l n false = putL l n := by
  induction l with
  | nil => simp [putG, putL]
  | cons x xs ih =>
    simp only [putG, putL, putG_true, ih]
    simp only [Bool.false_eq_true, if_false]
    by_cases h1 : x < n
    · rw [if_neg (by omega), if_pos h1]
    · rw [if_neg h1, if_pos (by omega)]
      by_cases h2 : n < x
      · rw [if_pos h2, if_pos h2]; rfl
      · rw [if_neg h2, if_neg h2]; rfl
theorem rput_p (l : List Int) (n : Int) (hl : l.length ≤ 100000) : PCalls Tryz.prog 127 [.d (.sl (l.map encD)), .d (.v (.int .i64 n))] [] fun p s => p = .d (.sl ((putL l n).map encD)) ∧ s = [] := by
  obtain ⟨R, hR0⟩ : ∃ R, R = putG l n false := ⟨_, rfl⟩
  rw [← putG_eq, ← hR0]
  have HR0 := Lib.hid hR0
  clear hR0
  refine PCalls.enter Tryz.func127 rfl Tryz.ntmps127 (by simp) ?_
  simp only [Qab]
  refine go_ ?_
  refine Qdo ?_ (by decide) (by first | (simp [nev, nevA, nevB, Jp, PF.eval, PF.get, PF.wants, cPV, Qae, PV.rows, Qaf, evUn, Jq, Qah, Qag, Jn, TyK.agg, Qad, St.box?, St.tok?, St.setBox, St.setTok, Qac, spl, PV.ps, PV.one, Jo, aggD, slD, Jh, Jk, Ji, Jj, Jg, Jf, *]; done) | fail) (by simp; rfl) (by rfl) (by simp; rfl) (by rfl) (by decide)
  intro g hg
  refine go_ ?_
  refine Qak (ι := Nat × List Int × Bool) (fun y => y.1 ≤ l.length ∧ y.2.1.length ≤ 2 * y.1 ∧ Hid (R = y.2.1 ++ putG (l.drop y.1) n y.2.2)) (fun y => [(0, .d (.sl (l.map encD))), (1, .d (.v (.int .i64 n))), (5, .own g (y.2.1.map encD)), (6, .d (.v (.bool y.2.2))), (7, .d (.v (.int .i64 (y.1 : Int))))]) (fun y => [.tok g 3 1 y.2.1.length]) (fun y => l.length - y.1) (0, [], false) ⟨Nat.zero_le _, Nat.le_refl _, HR0.out⟩ ?_ ?_ ?_
  · repeat (first | exact Jt _ | refine Js (by simp [PF.get]; rfl) (by first | rfl | (simp [*]; done) | fail) ?_)
  · repeat (first | exact List.Sublist.refl _ | exact List.nil_sublist _ | refine List.Sublist.cons_cons _ ?_ | refine List.Sublist.cons _ ?_)
  · rintro ⟨j, o, d⟩ ⟨hj, ho, hR⟩
    simp only at hj ho hR ⊢
    clear HR0
    by_cases hlt : j < l.length
    · have hx := Qal hlt
      have hc : (j : Int) < l.length := by omega
      have hn : (0 : Int) ≤ j := by omega
      have hin := wr64 (n := (j : Int) + 1) (by omega) (by omega)
      have hR2 := hR.out
      rw [List.drop_eq_getElem_cons hlt] at hR2
      simp only [putG] at hR2
      cases d with
      | true =>
        simp only [if_true] at hR2
        have HR2 := Lib.hid hR2
        clear hR2 hR
        refine go_ ?_
        refine Qao ?_
        refine go_ ?_
        refine Qbe (o.length + 1) ?_ ?_ ?_ ?_
        · simp
        · exact Qfk _
        · exact Qbs rfl
        refine go_ ?_
        refine ⟨(j + 1, o ++ [l[j]], true), ⟨hlt, by simp; omega, by rw [show R = _ from HR2.out, List.append_assoc]; rfl⟩, by simp only; omega, ?_, ?_⟩
        · repeat (first | exact Jt _ | refine Js (by simp [PF.get]; rfl) (by first | rfl | (simp [Jf, hin]; done) | fail) ?_)
        · simp only [List.length_append, List.length_singleton]
          repeat (first | exact List.Sublist.refl _ | exact List.nil_sublist _ | refine List.Sublist.cons_cons _ ?_ | refine List.Sublist.cons _ ?_)
      | false =>
        simp only [Bool.false_eq_true, if_false] at hR2
        by_cases h1 : n ≤ l[j]
        · rw [if_pos h1] at hR2
          by_cases h2 : n < l[j]
          · rw [if_pos h2] at hR2
            have HR2 := Lib.hid hR2
            clear hR2 hR
            refine go_ ?_
            refine Qao ?_
            refine go_ ?_
            refine Qbe (o.length + 1) ?_ ?_ ?_ ?_
            · simp
            · exact Qfk _
            · exact Qbs rfl
            refine go_ ?_
            refine Qao ?_
            refine go_ ?_
            refine Qbe (o.length + 2) ?_ ?_ ?_ ?_
            · simp
            · simpa [Jf] using rows1a o [n]
            · exact Qbs rfl
            refine go_ ?_
            refine ⟨(j + 1, o ++ [n, l[j]], true), ⟨hlt, by simp; omega, by rw [show R = _ from HR2.out, List.append_assoc]; rfl⟩, by simp only; omega, ?_, ?_⟩
            · repeat (first | exact Jt _ | refine Js (by simp [PF.get]; rfl) (by first | rfl | (simp [Jf, hin]; done) | fail) ?_)
            · simp only [List.length_append, List.length_cons, List.length_nil]
              repeat (first | exact List.Sublist.refl _ | exact List.nil_sublist _ | refine List.Sublist.cons_cons _ ?_ | refine List.Sublist.cons _ ?_)
          · rw [if_neg h2] at hR2
            have HR2 := Lib.hid hR2
            clear hR2 hR
            refine go_ ?_
            refine Qao ?_
            refine go_ ?_
            refine Qbe (o.length + 1) ?_ ?_ ?_ ?_
            · simp
            · exact Qfk _
            · exact Qbs rfl
            refine go_ ?_
            refine ⟨(j + 1, o ++ [l[j]], true), ⟨hlt, by simp; omega, by rw [show R = _ from HR2.out, List.append_assoc]; rfl⟩, by simp only; omega, ?_, ?_⟩
            · repeat (first | exact Jt _ | refine Js (by simp [PF.get]; rfl) (by first | rfl | (simp [Jf, hin]; done) | fail) ?_)
            · simp only [List.length_append, List.length_singleton]
              repeat (first | exact List.Sublist.refl _ | exact List.nil_sublist _ | refine List.Sublist.cons_cons _ ?_ | refine List.Sublist.cons _ ?_)
        · rw [if_neg h1] at hR2
          have HR2 := Lib.hid hR2
          clear hR2 hR
          refine go_ ?_
          refine Qao ?_
          refine go_ ?_
          refine Qbe (o.length + 1) ?_ ?_ ?_ ?_
          · simp
          · exact Qfk _
          · exact Qbs rfl
          refine go_ ?_
          refine ⟨(j + 1, o ++ [l[j]], false), ⟨hlt, by simp; omega, by rw [show R = _ from HR2.out, List.append_assoc]; rfl⟩, by simp only; omega, ?_, ?_⟩
          · repeat (first | exact Jt _ | refine Js (by simp [PF.get]; rfl) (by first | rfl | (simp [Jf, hin]; done) | fail) ?_)
          · simp only [List.length_append, List.length_singleton]
            repeat (first | exact List.Sublist.refl _ | exact List.nil_sublist _ | refine List.Sublist.cons_cons _ ?_ | refine List.Sublist.cons _ ?_)
    · have hc : ¬ (j : Int) < l.length := by omega
      have hR2 := hR.out
      rw [List.drop_of_length_le (by omega)] at hR2
      cases d with
      | true =>
        have hf : Hid (R = o) := by show _ = _; rw [show R = _ from hR2]; simp [putG]
        clear hR2 hR
        refine go_ ?_
        refine Jm (by simp) (by simp only [Tryz.results127]; rfl) (by simp [resP, St.box?, PF.get, Jn, TyK.agg, *]; rfl) Nl ?_
        exact ⟨by rw [hf.out]; rfl, rfl⟩
      | false =>
        have hf : Hid (R = o ++ [n]) := by show _ = _; rw [show R = _ from hR2]; simp [putG]
        clear hR2 hR
        refine go_ ?_
        refine Qao ?_
        refine go_ ?_
        refine Qbe (o.length + 1) ?_ ?_ ?_ ?_
        · simp
        · exact Qfk _
        · exact Qbs rfl
        refine go_ ?_
        refine Jm (by simp) (by simp only [Tryz.results127]; rfl) (by simp [resP, St.box?, PF.get, Jn, TyK.agg, *]; rfl) Nl ?_
        exact ⟨by rw [hf.out]; simp [tupP, PV.norm2, PV.norm1, PV.norm0, Jf], rfl⟩
theorem Qin {l : List Tm} {j : Nat} (h : j < l.length) : cndL (l.take (j + 1)) = cndL (l.take j) + cndT l[j] := by
 rw [List.take_succ_eq_append_getElem h, Qeg]; simp only [cndL]; omega
theorem rnumbers_p : ∀ (t : Tm) (a b : Int), cndT t ≤ 50000 → PCalls Tryz.prog 78 [aggD t, .d (.v (.int .i64 a)), .d (.v (.int .i64 b))] [] fun p s => p = .d (.sl ((nmT a b t).map encD)) ∧ s = [] := by
 refine Tm.ind ?_
 intro k n sub ih a b hnd
 have hc0 : nmT a b (.mk k n sub) = nmS a b sub (if k = a ∨ k = b then [n] else []) := by simp only [nmT]
 have hns : cndL sub + 1 ≤ 50000 := by simp only [cndT] at hnd; omega
 have hsl : sub.length ≤ 50000 := Nat.le_trans (Qgd sub) (by omega)
 have IH : Hid (∀ s ∈ sub, PCalls Tryz.prog 78 [aggD s, .d (.v (.int .i64 a)), .d (.v (.int .i64 b))] [] fun p st => p = .d (.sl ((nmT a b s).map encD)) ∧ st = []) := fun s hs => ih s hs a b (by have := cnd_mem s hs; omega)
 simp only [aggD, Jl, List.map_cons, List.map_nil, Tm.kind_mk, Tm.num_mk, Tm.sub_mk]
 clear ih hnd
 rw [hc0]
 clear hc0
 have hl0 : (if k = a ∨ k = b then [n] else []).length ≤ 1 := by split <;> simp
 obtain ⟨r0, hr0⟩ : ∃ r0, (if k = a ∨ k = b then [n] else []) = r0 := ⟨_, rfl⟩
 rw [hr0] at hl0 ⊢
 obtain ⟨R, hR0⟩ : ∃ R, R = nmS a b sub r0 := ⟨_, rfl⟩
 rw [← hR0]
 have HR0 := Lib.hid hR0
 clear hR0
 refine PCalls.enter Tryz.func78 rfl Tryz.ntmps78 (by simp) ?_
 simp only [Qab]
 refine go_ ?_
 refine Jd ?_
 intro i0 hi0
 refine go_ ?_
 refine Qdo ?_ (by decide) (by first | (simp [nev, nevA, nevB, Jp, PF.eval, PF.get, PF.wants, cPV, Qae, PV.rows, Qaf, evUn, Jq, Qah, Qag, Jn, TyK.agg, Qad, St.box?, St.tok?, St.setBox, St.setTok, Qac, spl, PV.ps, PV.one, Jo, aggD, slD, Jh, Jk, Ji, Jj, Jg, Jf, *]; done) | fail) (by simp; rfl) (by rfl) (by simp; rfl) (by rfl) (by decide)
 intro g hg
 by_cases hk : k = a ∨ k = b
 ·rw [if_pos hk] at hr0
  by_cases h1 : k = a
  ·clear hk
   have h1c : (k == a) = true := beq_iff_eq.2 h1
   clear h1
   refine gs_ ?_
   refine Qc ?_
   refine gs_ ?_
   refine Qc ?_
   refine go_ ?_
   refine Qao ?_
   refine go_ ?_
   refine Qbe 1 ?_ ?_ ?_ ?_
   ·rfl
   ·simp
   ·simp
   refine gs_ ?_
   refine Qgb 7 (by simp [PF.get] <;> rfl) ?_
   refine go_ ?_
   clear h1c
   refine Qak (ι := Nat × List Int) (fun y => y.1 ≤ sub.length ∧ y.2.length ≤ 1 + cndL (sub.take y.1) ∧ Hid (R = nmS a b (sub.drop y.1) y.2)) (fun y => [(1, .d (.v (.int .i64 a))), (2, .d (.v (.int .i64 b))), (3, .ptr i0 0), (7, .d (.sl (y.2.map encD))), (8, .d (.v (.int .i64 (y.1 : Int))))]) (fun _ => [.box i0 26 [.d (.v (.int .i64 k)), .d (.v (.int .i64 n)), .d (.sl (sub.map encD))]]) (fun y => sub.length - y.1) (0, r0) ⟨Nat.zero_le _, by simp only; omega, HR0.out⟩ ?_ ?_ ?_
   ·subst hr0
    repeat (first | exact Jt _ | refine Js (by simp [PF.get]; rfl) (by first | rfl | (simp [Jf]; done) | fail) ?_)
   ·repeat (first | exact List.Sublist.refl _ | exact List.nil_sublist _ | refine List.Sublist.cons_cons _ ?_ | refine List.Sublist.cons _ ?_)
   ·rintro ⟨j, o⟩ ⟨hj, ho, hR⟩
    simp only at hj ho hR ⊢
    clear HR0 hr0
    by_cases hlt : j < sub.length
    ·have hx := Qal hlt
     have hc : (j : Int) < sub.length := by omega
     have hn : (0 : Int) ≤ j := by omega
     have hin := wr64 (n := (j : Int) + 1) (by omega) (by omega)
     have hR2 : Hid (R = nmS a b (sub.drop (j + 1)) ((nmT a b sub[j]).foldl putL o)) := by
      rw [show R = _ from hR.out, List.drop_eq_getElem_cons hlt]
      show _ = _
      simp only [nmS]
     have hc1 := Lib.hid (IH.out _ (List.getElem_mem hlt))
     have hT1 := Qin hlt
     have hT2 := Qen sub (j + 1)
     have hnl := nm_len a b sub[j]
     have hfl := Qis (nmT a b sub[j]) o
     clear hR
     generalize nmT a b sub[j] = l at *
     generalize hF : l.foldl putL o = F at *
     have HF := Lib.hid hF
     clear hF
     refine go_ ?_
     refine Jc (hc1.out) ?_
     refine go_ ?_
     refine Qak (ι := Nat × List Int) (fun y => y.1 ≤ l.length ∧ y.2.length ≤ o.length + y.1 ∧ Hid ((l.drop y.1).foldl putL y.2 = F)) (fun y => [(1, .d (.v (.int .i64 a))), (2, .d (.v (.int .i64 b))), (3, .ptr i0 0), (7, .d (.sl (y.2.map encD))), (8, .d (.v (.int .i64 (j : Int)))), (9, .d (.sl (l.map encD))), (10, .d (.v (.int .i64 (y.1 : Int))))]) (fun _ => [.box i0 26 [.d (.v (.int .i64 k)), .d (.v (.int .i64 n)), .d (.sl (sub.map encD))]]) (fun y => l.length - y.1) (0, o) ⟨Nat.zero_le _, Nat.le_refl _, HF.out⟩ ?_ ?_ ?_
     ·repeat (first | exact Jt _ | refine Js (by simp [PF.get]; rfl) (by first | rfl | (simp [*]; done) | fail) ?_)
     ·repeat (first | exact List.Sublist.refl _ | exact List.nil_sublist _ | refine List.Sublist.cons_cons _ ?_ | refine List.Sublist.cons _ ?_)
     ·rintro ⟨m, q⟩ ⟨hm, hq, hG⟩
      simp only at hm hq hG ⊢
      clear HF
      by_cases hlm : m < l.length
      ·have hxm := Qal hlm
       have hcm : (m : Int) < l.length := by omega
       have hnm : (0 : Int) ≤ m := by omega
       have him := wr64 (n := (m : Int) + 1) (by omega) (by omega)
       have hG2 : Hid ((l.drop (m + 1)).foldl putL (putL q l[m]) = F) := by
        have := hG.out
        rw [List.drop_eq_getElem_cons hlm] at this
        exact this
       have hp := Lib.hid (rput_p q l[m] (by omega))
       have hpl := Qho l[m] q
       clear hG
       generalize putL q l[m] = q' at *
       refine go_ ?_
       refine Jc (hp.out) ?_
       refine go_ ?_
       exact ⟨(m + 1, q'), ⟨hlm, by simp only; omega, hG2⟩, by simp only; omega, by repeat (first | exact Jt _ | refine Js (by simp [PF.get]; rfl) (by first | rfl | (simp [*]; done) | fail) ?_), by repeat (first | exact List.Sublist.refl _ | exact List.nil_sublist _ | refine List.Sublist.cons_cons _ ?_ | refine List.Sublist.cons _ ?_)⟩
      ·have hcm : ¬ (m : Int) < l.length := by omega
       have hf : Hid (q = F) := by have := hG.out; rw [List.drop_of_length_le (by omega)] at this; exact this
       rw [← hf.out] at hR2 hfl
       refine go_ ?_
       exact ⟨(j + 1, q), ⟨hlt, by simp only; omega, hR2⟩, by simp only; omega, by repeat (first | exact Jt _ | refine Js (by simp [PF.get]; rfl) (by first | rfl | (simp [*]; done) | fail) ?_), by repeat (first | exact List.Sublist.refl _ | exact List.nil_sublist _ | refine List.Sublist.cons_cons _ ?_ | refine List.Sublist.cons _ ?_)⟩
    ·have hc : ¬ (j : Int) < sub.length := by omega
     have hf : Hid (R = o) := by show _ = _; rw [show R = _ from hR.out, List.drop_of_length_le (by omega)]; simp only [nmS]
     refine go_ ?_
     refine Jm (by simp) (by simp only [Tryz.results78]; rfl) (by simp [resP, St.box?, PF.get, Jn, TyK.agg, *]; rfl) Nl ?_
     exact ⟨by rw [hf.out]; rfl, rfl⟩
  ·have h2 : k = b := hk.resolve_left h1
   clear hk
   have h1b : (k == a) = false := beq_eq_false_iff_ne.2 h1
   have h2b : (k == b) = true := beq_iff_eq.2 h2
   clear h1 h2
   refine gs_ ?_
   refine Qc ?_
   refine gs_ ?_
   refine Qc ?_
   refine go_ ?_
   refine Qao ?_
   refine go_ ?_
   refine Qbe 1 ?_ ?_ ?_ ?_
   ·rfl
   ·simp
   ·simp
   refine gs_ ?_
   refine Qgb 7 (by simp [PF.get] <;> rfl) ?_
   refine go_ ?_
   clear h1b h2b
   refine Qak (ι := Nat × List Int) (fun y => y.1 ≤ sub.length ∧ y.2.length ≤ 1 + cndL (sub.take y.1) ∧ Hid (R = nmS a b (sub.drop y.1) y.2)) (fun y => [(1, .d (.v (.int .i64 a))), (2, .d (.v (.int .i64 b))), (3, .ptr i0 0), (7, .d (.sl (y.2.map encD))), (8, .d (.v (.int .i64 (y.1 : Int))))]) (fun _ => [.box i0 26 [.d (.v (.int .i64 k)), .d (.v (.int .i64 n)), .d (.sl (sub.map encD))]]) (fun y => sub.length - y.1) (0, r0) ⟨Nat.zero_le _, by simp only; omega, HR0.out⟩ ?_ ?_ ?_
   ·subst hr0
    repeat (first | exact Jt _ | refine Js (by simp [PF.get]; rfl) (by first | rfl | (simp [Jf]; done) | fail) ?_)
   ·repeat (first | exact List.Sublist.refl _ | exact List.nil_sublist _ | refine List.Sublist.cons_cons _ ?_ | refine List.Sublist.cons _ ?_)
   ·rintro ⟨j, o⟩ ⟨hj, ho, hR⟩
    simp only at hj ho hR ⊢
    clear HR0 hr0
    by_cases hlt : j < sub.length
    ·have hx := Qal hlt
     have hc : (j : Int) < sub.length := by omega
     have hn : (0 : Int) ≤ j := by omega
     have hin := wr64 (n := (j : Int) + 1) (by omega) (by omega)
     have hR2 : Hid (R = nmS a b (sub.drop (j + 1)) ((nmT a b sub[j]).foldl putL o)) := by
      rw [show R = _ from hR.out, List.drop_eq_getElem_cons hlt]
      show _ = _
      simp only [nmS]
     have hc1 := Lib.hid (IH.out _ (List.getElem_mem hlt))
     have hT1 := Qin hlt
     have hT2 := Qen sub (j + 1)
     have hnl := nm_len a b sub[j]
     have hfl := Qis (nmT a b sub[j]) o
     clear hR
     generalize nmT a b sub[j] = l at *
     generalize hF : l.foldl putL o = F at *
     have HF := Lib.hid hF
     clear hF
     refine go_ ?_
     refine Jc (hc1.out) ?_
     refine go_ ?_
     refine Qak (ι := Nat × List Int) (fun y => y.1 ≤ l.length ∧ y.2.length ≤ o.length + y.1 ∧ Hid ((l.drop y.1).foldl putL y.2 = F)) (fun y => [(1, .d (.v (.int .i64 a))), (2, .d (.v (.int .i64 b))), (3, .ptr i0 0), (7, .d (.sl (y.2.map encD))), (8, .d (.v (.int .i64 (j : Int)))), (9, .d (.sl (l.map encD))), (10, .d (.v (.int .i64 (y.1 : Int))))]) (fun _ => [.box i0 26 [.d (.v (.int .i64 k)), .d (.v (.int .i64 n)), .d (.sl (sub.map encD))]]) (fun y => l.length - y.1) (0, o) ⟨Nat.zero_le _, Nat.le_refl _, HF.out⟩ ?_ ?_ ?_
     ·repeat (first | exact Jt _ | refine Js (by simp [PF.get]; rfl) (by first | rfl | (simp [*]; done) | fail) ?_)
     ·repeat (first | exact List.Sublist.refl _ | exact List.nil_sublist _ | refine List.Sublist.cons_cons _ ?_ | refine List.Sublist.cons _ ?_)
     ·rintro ⟨m, q⟩ ⟨hm, hq, hG⟩
      simp only at hm hq hG ⊢
      clear HF
      by_cases hlm : m < l.length
      ·have hxm := Qal hlm
       have hcm : (m : Int) < l.length := by omega
       have hnm : (0 : Int) ≤ m := by omega
       have him := wr64 (n := (m : Int) + 1) (by omega) (by omega)
       have hG2 : Hid ((l.drop (m + 1)).foldl putL (putL q l[m]) = F) := by
        have := hG.out
        rw [List.drop_eq_getElem_cons hlm] at this
        exact this
       have hp := Lib.hid (rput_p q l[m] (by omega))
       have hpl := Qho l[m] q
       clear hG
       generalize putL q l[m] = q' at *
       refine go_ ?_
       refine Jc (hp.out) ?_
       refine go_ ?_
       exact ⟨(m + 1, q'), ⟨hlm, by simp only; omega, hG2⟩, by simp only; omega, by repeat (first | exact Jt _ | refine Js (by simp [PF.get]; rfl) (by first | rfl | (simp [*]; done) | fail) ?_), by repeat (first | exact List.Sublist.refl _ | exact List.nil_sublist _ | refine List.Sublist.cons_cons _ ?_ | refine List.Sublist.cons _ ?_)⟩
      ·have hcm : ¬ (m : Int) < l.length := by omega
       have hf : Hid (q = F) := by have := hG.out; rw [List.drop_of_length_le (by omega)] at this; exact this
       rw [← hf.out] at hR2 hfl
       refine go_ ?_
       exact ⟨(j + 1, q), ⟨hlt, by simp only; omega, hR2⟩, by simp only; omega, by repeat (first | exact Jt _ | refine Js (by simp [PF.get]; rfl) (by first | rfl | (simp [*]; done) | fail) ?_), by repeat (first | exact List.Sublist.refl _ | exact List.nil_sublist _ | refine List.Sublist.cons_cons _ ?_ | refine List.Sublist.cons _ ?_)⟩
    ·have hc : ¬ (j : Int) < sub.length := by omega
     have hf : Hid (R = o) := by show _ = _; rw [show R = _ from hR.out, List.drop_of_length_le (by omega)]; simp only [nmS]
     refine go_ ?_
     refine Jm (by simp) (by simp only [Tryz.results78]; rfl) (by simp [resP, St.box?, PF.get, Jn, TyK.agg, *]; rfl) Nl ?_
     exact ⟨by rw [hf.out]; rfl, rfl⟩
 ·rw [if_neg hk] at hr0
  have h1 : ¬ k = a := fun h => hk (.inl h)
  have h2 : ¬ k = b := fun h => hk (.inr h)
  clear hk
  refine gs_ ?_
  refine Qgb 7 (by simp [PF.get] <;> rfl) ?_
  refine go_ ?_
  clear h1 h2
  refine Qak (ι := Nat × List Int) (fun y => y.1 ≤ sub.length ∧ y.2.length ≤ 1 + cndL (sub.take y.1) ∧ Hid (R = nmS a b (sub.drop y.1) y.2)) (fun y => [(1, .d (.v (.int .i64 a))), (2, .d (.v (.int .i64 b))), (3, .ptr i0 0), (7, .d (.sl (y.2.map encD))), (8, .d (.v (.int .i64 (y.1 : Int))))]) (fun _ => [.box i0 26 [.d (.v (.int .i64 k)), .d (.v (.int .i64 n)), .d (.sl (sub.map encD))]]) (fun y => sub.length - y.1) (0, r0) ⟨Nat.zero_le _, by simp only; omega, HR0.out⟩ ?_ ?_ ?_
  ·subst hr0
   repeat (first | exact Jt _ | refine Js (by simp [PF.get]; rfl) (by first | rfl | (simp [Jf]; done) | fail) ?_)
  ·repeat (first | exact List.Sublist.refl _ | exact List.nil_sublist _ | refine List.Sublist.cons_cons _ ?_ | refine List.Sublist.cons _ ?_)
  ·rintro ⟨j, o⟩ ⟨hj, ho, hR⟩
   simp only at hj ho hR ⊢
   clear HR0 hr0
   by_cases hlt : j < sub.length
   ·have hx := Qal hlt
    have hc : (j : Int) < sub.length := by omega
    have hn : (0 : Int) ≤ j := by omega
    have hin := wr64 (n := (j : Int) + 1) (by omega) (by omega)
    have hR2 : Hid (R = nmS a b (sub.drop (j + 1)) ((nmT a b sub[j]).foldl putL o)) := by
     rw [show R = _ from hR.out, List.drop_eq_getElem_cons hlt]
     show _ = _
     simp only [nmS]
    have hc1 := Lib.hid (IH.out _ (List.getElem_mem hlt))
    have hT1 := Qin hlt
    have hT2 := Qen sub (j + 1)
    have hnl := nm_len a b sub[j]
    have hfl := Qis (nmT a b sub[j]) o
    clear hR
    generalize nmT a b sub[j] = l at *
    generalize hF : l.foldl putL o = F at *
    have HF := Lib.hid hF
    clear hF
    refine go_ ?_
    refine Jc (hc1.out) ?_
    refine go_ ?_
    refine Qak (ι := Nat × List Int) (fun y => y.1 ≤ l.length ∧ y.2.length ≤ o.length + y.1 ∧ Hid ((l.drop y.1).foldl putL y.2 = F)) (fun y => [(1, .d (.v (.int .i64 a))), (2, .d (.v (.int .i64 b))), (3, .ptr i0 0), (7, .d (.sl (y.2.map encD))), (8, .d (.v (.int .i64 (j : Int)))), (9, .d (.sl (l.map encD))), (10, .d (.v (.int .i64 (y.1 : Int))))]) (fun _ => [.box i0 26 [.d (.v (.int .i64 k)), .d (.v (.int .i64 n)), .d (.sl (sub.map encD))]]) (fun y => l.length - y.1) (0, o) ⟨Nat.zero_le _, Nat.le_refl _, HF.out⟩ ?_ ?_ ?_
    ·repeat (first | exact Jt _ | refine Js (by simp [PF.get]; rfl) (by first | rfl | (simp [*]; done) | fail) ?_)
    ·repeat (first | exact List.Sublist.refl _ | exact List.nil_sublist _ | refine List.Sublist.cons_cons _ ?_ | refine List.Sublist.cons _ ?_)
    ·rintro ⟨m, q⟩ ⟨hm, hq, hG⟩
     simp only at hm hq hG ⊢
     clear HF
     by_cases hlm : m < l.length
     ·have hxm := Qal hlm
      have hcm : (m : Int) < l.length := by omega
      have hnm : (0 : Int) ≤ m := by omega
      have him := wr64 (n := (m : Int) + 1) (by omega) (by omega)
      have hG2 : Hid ((l.drop (m + 1)).foldl putL (putL q l[m]) = F) := by
       have := hG.out
       rw [List.drop_eq_getElem_cons hlm] at this
       exact this
      have hp := Lib.hid (rput_p q l[m] (by omega))
      have hpl := Qho l[m] q
      clear hG
      generalize putL q l[m] = q' at *
      refine go_ ?_
      refine Jc (hp.out) ?_
      refine go_ ?_
      exact ⟨(m + 1, q'), ⟨hlm, by simp only; omega, hG2⟩, by simp only; omega, by repeat (first | exact Jt _ | refine Js (by simp [PF.get]; rfl) (by first | rfl | (simp [*]; done) | fail) ?_), by repeat (first | exact List.Sublist.refl _ | exact List.nil_sublist _ | refine List.Sublist.cons_cons _ ?_ | refine List.Sublist.cons _ ?_)⟩
     ·have hcm : ¬ (m : Int) < l.length := by omega
      have hf : Hid (q = F) := by have := hG.out; rw [List.drop_of_length_le (by omega)] at this; exact this
      rw [← hf.out] at hR2 hfl
      refine go_ ?_
      exact ⟨(j + 1, q), ⟨hlt, by simp only; omega, hR2⟩, by simp only; omega, by repeat (first | exact Jt _ | refine Js (by simp [PF.get]; rfl) (by first | rfl | (simp [*]; done) | fail) ?_), by repeat (first | exact List.Sublist.refl _ | exact List.nil_sublist _ | refine List.Sublist.cons_cons _ ?_ | refine List.Sublist.cons _ ?_)⟩
   ·have hc : ¬ (j : Int) < sub.length := by omega
    have hf : Hid (R = o) := by show _ = _; rw [show R = _ from hR.out, List.drop_of_length_le (by omega)]; simp only [nmS]
    refine go_ ?_
    refine Jm (by simp) (by simp only [Tryz.results78]; rfl) (by simp [resP, St.box?, PF.get, Jn, TyK.agg, *]; rfl) Nl ?_
    exact ⟨by rw [hf.out]; rfl, rfl⟩
end Go.Proofs.YtdklpbefbamchaaGreat
