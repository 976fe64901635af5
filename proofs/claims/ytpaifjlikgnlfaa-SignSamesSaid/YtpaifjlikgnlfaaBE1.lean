import Derived.Test.YtpaifjlikgnlfaaBE
import Derived.Test.YtpaifjlikgnlfaaBA3
import Derived.Test.YtpaifjlikgnlfaaBD
import Derived.Test.YtpaifjlikgnlfaaSh
import Derived.Shelf.Sort.Plain
import Derived.Shelf.Slices.In.SortNone
import Derived.Shelf.Slices.CompactI
import Derived.Ground.NamesProg
import Derived.Ground.Names2Prog
import Derived.Sort.OwnSortedInts
import Derived.Lib.OwnBridge
import Derived.Lib.RowBridge
import Derived.BigQuiet
import Derived.BigRegion
import Derived.RegionTactic
import Derived.ChangeAlike
import Derived.Deep.LoopGhost
set_option linter.unusedSimpArgs false
set_option linter.unusedVariables false
set_option maxHeartbeats 16000000
set_option maxRecDepth 100000
namespace Go.Proofs.Ytpaifjlikgnlfaa
open Go.RowKit
theorem eqT_mk (k n k' n' : Int) (s s' : List Tm) : ceqT (.mk k n s) (.mk k' n' s') = ((k == k') && (n == n') && ceqL s s') := by simp only [ceqT]
theorem eqL_ne {a b : List Tm} (h : ¬ a.length = b.length) : ceqL a b = false := by
 cases e : ceqL a b with
 | false => rfl
 | true => exact absurd (ceqL_length e) h
theorem eqL_step {a b : List Tm} {j : Nat} (h1 : j < a.length) (h2 : j < b.length) : ceqL (a.drop j) (b.drop j) = (ceqT a[j] b[j] && ceqL (a.drop (j + 1)) (b.drop (j + 1))) := by
 rw [List.drop_eq_getElem_cons h1, List.drop_eq_getElem_cons h2]
 simp only [ceqL]
theorem eqL_end {a b : List Tm} {j : Nat} (h1 : a.length ≤ j) (h2 : b.length ≤ j) : ceqL (a.drop j) (b.drop j) = true := by
 rw [List.drop_of_length_le h1, List.drop_of_length_le h2]; rfl
theorem tequal_p : ∀ (t u : Tm), PCalls Try.prog 41 [aggD t, aggD u] [] fun p s => p = .d (.v (.bool (ceqT t u))) ∧ s = [] := by
  refine Tm.ind ?_
  intro k n a ih u
  obtain ⟨k', n', b⟩ := u
  rw [eqT_mk]
  simp only [aggD, Jl, List.map_cons, List.map_nil, Jv, Jw, Jx]
  have IH := Hh ih
  clear ih
  by_cases hk : k = k'
  rotate_left
  · have hf : ((k == k') && (n == n') && ceqL a b) = false := by rw [beq_eq_false_iff_ne.2 hk]; rfl
    rw [hf]
    clear hf
    refine pG Try.func41 Try.ntmps41 ?_
    refine Jd ?_
    intro i0 hi0
    refine go_ ?_
    refine Jd ?_
    intro i1 hi1
    try simp only [Ja, Rh, Rg, Jb] at hi1
    refine go_ ?_
    refine rT Try.results41 ?_
    exact ⟨rfl, rfl⟩
  by_cases hn : n = n'
  rotate_left
  · have hf : ((k == k') && (n == n') && ceqL a b) = false := by rw [beq_eq_false_iff_ne.2 hn, Bool.and_false]; rfl
    rw [hf]
    clear hf
    subst hk
    refine pG Try.func41 Try.ntmps41 ?_
    refine Jd ?_
    intro i0 hi0
    refine go_ ?_
    refine Jd ?_
    intro i1 hi1
    try simp only [Ja, Rh, Rg, Jb] at hi1
    refine go_ ?_
    refine rT Try.results41 ?_
    exact ⟨rfl, rfl⟩
  subst hk hn
  by_cases hl : a.length = b.length
  rotate_left
  · rw [eqL_ne hl, Bool.and_false]
    have hl2 : ((a.length : Int) != b.length) = true := bne_iff_ne.2 (by omega)
    refine pG Try.func41 Try.ntmps41 ?_
    refine Jd ?_
    intro i0 hi0
    refine go_ ?_
    refine Jd ?_
    intro i1 hi1
    try simp only [Ja, Rh, Rg, Jb] at hi1
    refine go_ ?_
    refine rT Try.results41 ?_
    exact ⟨rfl, rfl⟩
  obtain ⟨m, ha, hb⟩ : ∃ m, a.length = m ∧ b.length = m := ⟨_, hl, rfl⟩
  clear hl
  obtain ⟨R, hR0⟩ : ∃ R, R = ceqL a b := ⟨_, rfl⟩
  rw [← hR0, beq_self_eq_true, beq_self_eq_true, Bool.true_and, Bool.true_and]
  have HR0 := Hh hR0
  clear hR0
  refine pG Try.func41 Try.ntmps41 ?_
  refine Jd ?_
  intro i0 hi0
  refine go_ ?_
  refine Jd ?_
  intro i1 hi1
  try simp only [Ja, Rh, Rg, Jb] at hi1
  refine go_ ?_
  refine Qcu (t := 28) (rows := a.map encD) (by simp [PF.get] <;> rfl) rfl fun hml => ?_
  rw [List.length_map, ha] at hml
  refine Qaf (ι := Nat) (fun y => y ≤ m ∧ Hid (R = ceqL (a.drop y) (b.drop y))) (fun y => [(2, .ptr i0 0), (3, .ptr i1 0), (29, .d (.v (.int .i64 m))), (30, .d (.v (.int .i64 (y : Int))))]) (fun _ => [.box i1 30 [.d (.v (.int .i64 k)), .d (.v (.int .i64 n)), .d (.sl (b.map encD))], .box i0 30 [.d (.v (.int .i64 k)), .d (.v (.int .i64 n)), .d (.sl (a.map encD))]]) (fun y => m - y) 0 ⟨Nat.zero_le _, HR0.out⟩ ?_ ?_ ?_
  · exact sU
  · exact dR
  · rintro j ⟨hj, hR⟩
    clear HR0
    unfold maxLen at hml
    by_cases hlt : j < m
    · have h1 : j < a.length := by omega
      have h2 : j < b.length := by omega
      have hx := Qam h1
      have hy := Qam h2
      have hc : (j : Int) < m := by omega
      have hn : (0 : Int) ≤ j := by omega
      have hin := wr64 (n := (j : Int) + 1) (by omega) (by omega)
      have hR2 : Hid (R = (ceqT a[j] b[j] && ceqL (a.drop (j + 1)) (b.drop (j + 1)))) := by rw [show R = _ from hR.out, eqL_step h1 h2]; rfl
      have hc1 := Hh (IH.out _ (List.getElem_mem h1) b[j])
      clear hR
      generalize ceqT a[j] b[j] = e at *
      cases e with
      | false =>
        have hf : Hid (R = false) := by rw [show R = _ from hR2.out]; rfl
        refine go_ ?_
        refine Qas [(0, .a), (1, .b), (2, .a), (3, .a), (4, .a), (5, .a), (6, .b), (7, .a), (8, .a), (9, .a), (10, .a), (11, .a)] (by kernel_rfl) (by rfl) (by kernel_rfl) ?_
        refine go_ ?_
        refine Qaw (hc1.out) ?_
        refine go_ ?_
        refine rT Try.results41 ?_
        exact ⟨by rw [hf.out]; rfl, rfl⟩
      | true =>
        have hR3 : Hid (R = ceqL (a.drop (j + 1)) (b.drop (j + 1))) := by rw [show R = _ from hR2.out]; rfl
        refine go_ ?_
        refine Qas [(0, .a), (1, .b), (2, .a), (3, .a), (4, .a), (5, .a), (6, .b), (7, .a), (8, .a), (9, .a), (10, .a), (11, .a)] (by kernel_rfl) (by rfl) (by kernel_rfl) ?_
        refine go_ ?_
        refine Qaw (hc1.out) ?_
        refine go_ ?_
        exact ⟨j + 1, ⟨hlt, hR3⟩, by omega, sU, dR⟩
    · have hc : ¬ (j : Int) < m := by omega
      have hf : Hid (R = true) := by rw [show R = _ from hR.out, eqL_end (by omega) (by omega)]; rfl
      refine go_ ?_
      refine rT Try.results41 ?_
      exact ⟨by rw [hf.out]; rfl, rfl⟩
theorem requal_p : ∀ (t u : Tm), PCalls Try.prog 29 [aggD t, aggD u] [] fun p s => p = .d (.v (.bool (ceqT t u))) ∧ s = [] := by
  refine Tm.ind ?_
  intro k n a ih u
  obtain ⟨k', n', b⟩ := u
  rw [eqT_mk]
  simp only [aggD, Jl, List.map_cons, List.map_nil, Jv, Jw, Jx]
  have IH := Hh ih
  clear ih
  by_cases hk : k = k'
  rotate_left
  · have hf : ((k == k') && (n == n') && ceqL a b) = false := by rw [beq_eq_false_iff_ne.2 hk]; rfl
    rw [hf]
    clear hf
    refine pG Try.func29 Try.ntmps29 ?_
    refine Jd ?_
    intro i0 hi0
    refine go_ ?_
    refine Jd ?_
    intro i1 hi1
    try simp only [Ja, Rh, Rg, Jb] at hi1
    refine go_ ?_
    refine rT Try.results29 ?_
    exact ⟨rfl, rfl⟩
  by_cases hn : n = n'
  rotate_left
  · have hf : ((k == k') && (n == n') && ceqL a b) = false := by rw [beq_eq_false_iff_ne.2 hn, Bool.and_false]; rfl
    rw [hf]
    clear hf
    subst hk
    refine pG Try.func29 Try.ntmps29 ?_
    refine Jd ?_
    intro i0 hi0
    refine go_ ?_
    refine Jd ?_
    intro i1 hi1
    try simp only [Ja, Rh, Rg, Jb] at hi1
    refine go_ ?_
    refine rT Try.results29 ?_
    exact ⟨rfl, rfl⟩
  subst hk hn
  by_cases hl : a.length = b.length
  rotate_left
  · rw [eqL_ne hl, Bool.and_false]
    have hl2 : ((a.length : Int) != b.length) = true := bne_iff_ne.2 (by omega)
    refine pG Try.func29 Try.ntmps29 ?_
    refine Jd ?_
    intro i0 hi0
    refine go_ ?_
    refine Jd ?_
    intro i1 hi1
    try simp only [Ja, Rh, Rg, Jb] at hi1
    refine go_ ?_
    refine rT Try.results29 ?_
    exact ⟨rfl, rfl⟩
  obtain ⟨m, ha, hb⟩ : ∃ m, a.length = m ∧ b.length = m := ⟨_, hl, rfl⟩
  clear hl
  obtain ⟨R, hR0⟩ : ∃ R, R = ceqL a b := ⟨_, rfl⟩
  rw [← hR0, beq_self_eq_true, beq_self_eq_true, Bool.true_and, Bool.true_and]
  have HR0 := Hh hR0
  clear hR0
  refine pE Try.func29 Try.ntmps29 ?_
  refine Qfi (t := 0) (i := 2) (rows := a.map encD) (by simp [PF.get] <;> rfl) rfl fun hml => ?_
  rw [List.length_map, ha] at hml
  refine go_ ?_
  refine Jd ?_
  intro i0 hi0
  refine go_ ?_
  refine Jd ?_
  intro i1 hi1
  try simp only [Ja, Rh, Rg, Jb] at hi1
  refine go_ ?_
  refine Qaf (ι := Nat) (fun y => y ≤ m ∧ Hid (R = ceqL (a.drop y) (b.drop y))) (fun y => [(2, .ptr i0 0), (3, .ptr i1 0), (5, .d (.v (.int .i64 (y : Int))))]) (fun _ => [.box i1 30 [.d (.v (.int .i64 k)), .d (.v (.int .i64 n)), .d (.sl (b.map encD))], .box i0 30 [.d (.v (.int .i64 k)), .d (.v (.int .i64 n)), .d (.sl (a.map encD))]]) (fun y => m - y) 0 ⟨Nat.zero_le _, HR0.out⟩ ?_ ?_ ?_
  · exact sU
  · exact dR
  · rintro j ⟨hj, hR⟩
    clear HR0
    unfold maxLen at hml
    by_cases hlt : j < m
    · have h1 : j < a.length := by omega
      have h2 : j < b.length := by omega
      have hx := Qam h1
      have hy := Qam h2
      have hc : (j : Int) < m := by omega
      have hn : (0 : Int) ≤ j := by omega
      have hin := wr64 (n := (j : Int) + 1) (by omega) (by omega)
      have hR2 : Hid (R = (ceqT a[j] b[j] && ceqL (a.drop (j + 1)) (b.drop (j + 1)))) := by rw [show R = _ from hR.out, eqL_step h1 h2]; rfl
      have hc1 := Hh (IH.out _ (List.getElem_mem h1) b[j])
      clear hR
      generalize ceqT a[j] b[j] = e at *
      cases e with
      | false =>
        have hf : Hid (R = false) := by rw [show R = _ from hR2.out]; rfl
        refine go_ ?_
        refine Qas [(0, .a), (1, .b), (2, .a), (3, .a), (4, .a), (5, .a), (6, .b), (7, .a), (8, .a), (9, .a), (10, .a), (11, .a)] (by kernel_rfl) (by rfl) (by kernel_rfl) ?_
        refine go_ ?_
        refine Qaw (hc1.out) ?_
        refine go_ ?_
        refine rT Try.results29 ?_
        exact ⟨by rw [hf.out]; rfl, rfl⟩
      | true =>
        have hR3 : Hid (R = ceqL (a.drop (j + 1)) (b.drop (j + 1))) := by rw [show R = _ from hR2.out]; rfl
        refine go_ ?_
        refine Qas [(0, .a), (1, .b), (2, .a), (3, .a), (4, .a), (5, .a), (6, .b), (7, .a), (8, .a), (9, .a), (10, .a), (11, .a)] (by kernel_rfl) (by rfl) (by kernel_rfl) ?_
        refine go_ ?_
        refine Qaw (hc1.out) ?_
        refine go_ ?_
        exact ⟨j + 1, ⟨hlt, hR3⟩, by omega, sU, dR⟩
    · have hc : ¬ (j : Int) < m := by omega
      have hf : Hid (R = true) := by rw [show R = _ from hR.out, eqL_end (by omega) (by omega)]; rfl
      refine go_ ?_
      refine rT Try.results29 ?_
      exact ⟨by rw [hf.out]; rfl, rfl⟩
theorem PCalls.norm {P : Program} {f : FuncId} {args : List PV} {st : St} {R R' : PV → St → Prop} (h : PCalls P f args st R) (hr : ∀ p s, R p s → R' p.norm0 []) : PCalls P f args st R' :=
 fun F K w vs h1 h2 => (h F K w vs h1 h2).mono fun _ _ ⟨v, K', p, _, a, b, c, d, e⟩ => ⟨v, K', p.norm0, [], a, b, c.sub Nl, Qev _ _ _ _ d, hr _ _ e⟩
theorem rows1 (l : List Int) : ∀ row ∈ l.map encD, row.length = 1 := rows_of rfl
theorem cnd_mem {l : List Tm} : ∀ s ∈ l, cndT s ≤ cndL l := by
  induction l with
  | nil => intro s hs; cases hs
  | cons t ts ih =>
    intro s hs
    simp only [cndL]
    rcases List.mem_cons.1 hs with rfl | hs
    · omega
    · have := ih s hs; omega
theorem rows1a (l m : List Int) : ∀ row ∈ l.map encD ++ m.map encD, row.length = 1 := fun row h => (List.mem_append.1 h).elim (rows1 _ row) (rows1 _ row)
theorem clS_take {a b : Int} {l : List Tm} {j : Nat} (h : j < l.length) : clS a b (l.take (j + 1)) = clS a b (l.take j) ++ clT a b l[j] := by
 rw [List.take_succ_eq_append_getElem h, clS_append]
 simp only [clS, List.append_nil]
theorem clS_len (a b : Int) (l : List Tm) : (clS a b l).length ≤ cndL l := by
  induction l with
  | nil => exact Nat.le_refl _
  | cons t ts ih =>
    have := cl_len a b t
    simp only [clS, cndL, List.length_append]; omega
theorem collect_o : ∀ (t : Tm) (a b : Int), cndT t ≤ 100000 → PCalls Try.prog 70 [aggD t, .d (.v (.int .i64 a)), .d (.v (.int .i64 b))] [] fun p s => ∃ g, p = .own g ((clT a b t).map encD) ∧ s = [.tok g 3 1 (clT a b t).length] := by
 refine Tm.ind ?_
 intro k n sub ih a b hnd
 have hc0 : clT a b (.mk k n sub) = (if k = a ∨ k = b then [n] else []) ++ clS a b sub := by simp only [clT]
 have hns : cndL sub ≤ 100000 := by simp only [cndT] at hnd; omega
 have IH : Hid (∀ s ∈ sub, PCalls Try.prog 70 [aggD s, .d (.v (.int .i64 a)), .d (.v (.int .i64 b))] [] fun p st => p = .d (.sl ((clT a b s).map encD)) ∧ st = []) := fun s hs =>
  (ih s hs a b (by have := cnd_mem s hs; omega)).norm fun p st ⟨g, e1, e2⟩ => ⟨by rw [e1]; rfl, rfl⟩
 have hl0 : (if k = a ∨ k = b then [n] else []).length ≤ 1 := by split <;> simp
 simp only [aggD, Jl, List.map_cons, List.map_nil, Jv, Jw, Jx]
 clear ih hnd
 rw [hc0]
 clear hc0
 obtain ⟨r0, hr0⟩ : ∃ r0, (if k = a ∨ k = b then [n] else []) = r0 := ⟨_, rfl⟩
 rw [hr0] at hl0 ⊢
 refine pG Try.func70 Try.ntmps70 ?_
 refine Jd ?_
 intro i0 hi0
 refine Qq ?_
 refine Qh ?_
 refine Qj ?_
 refine gs_ ?_
 refine Qc ?_
 refine gs_ ?_
 refine PW_own 7 3 1 (by decide) (by simp [PF.get] <;> rfl) fun g hg => ?_
 by_cases hk : k = a ∨ k = b
 ·rw [if_pos hk] at hr0
  by_cases h1 : k = a
  ·clear hk
   refine go_ ?_
   refine Qbx ?_
   refine Qbq 1 ?_ ?_ ?_ ?_
   ·rfl
   ·simp
   ·simp
   refine gs_ ?_
   clear h1
   refine go_ ?_
   refine Qfi (t := 0) (i := 2) (rows := sub.map encD) (by simp [PF.get] <;> rfl) rfl fun hml => ?_
   rw [List.length_map] at hml
   refine Qaf (ι := Nat) (fun y => y ≤ sub.length) (fun y => [(1, .d (.v (.int .i64 a))), (2, .d (.v (.int .i64 b))), (7, .own g ((r0 ++ clS a b (sub.take y)).map encD)), (26, .d (.sl (sub.map encD))), (27, .d (.v (.int .i64 sub.length))), (28, .d (.v (.int .i64 (y : Int))))]) (fun y => [.tok g 3 1 (r0 ++ clS a b (sub.take y)).length]) (fun y => sub.length - y) 0 (Nat.zero_le _) ?_ ?_ ?_
   ·subst hr0
    repeat (first | exact Jt _ | refine Js (by simp [PF.get]; rfl) (by first | rfl | (simp [clS, List.take_zero, List.append_nil]; done) | fail) ?_)
   ·subst hr0
    simp only [clS, List.take_zero, List.append_nil]
    exact dR
   ·rintro j hj
    clear hr0
    unfold maxLen at hml
    by_cases hlt : j < sub.length
    ·have hx := Qam hlt
     have hc : (j : Int) < sub.length := by omega
     have hn : (0 : Int) ≤ j := by omega
     have hin := wr64 (n := (j : Int) + 1) (by omega) (by omega)
     have hT := clS_take (a := a) (b := b) hlt
     have hlen := Nat.le_trans (clS_len a b (sub.take (j + 1))) (Nat.le_trans (Qeu sub (j + 1)) hns)
     rw [hT, List.length_append] at hlen
     have hlA : (r0 ++ clS a b (sub.take j)).length ≤ 100001 := by rw [List.length_append]; omega
     have HT := Hh hT
     clear hT
     have hc1 := Hh (IH.out _ (List.getElem_mem hlt))
     generalize clT a b sub[j] = x at *
     refine go_ ?_
     refine Je ?_
     intro i2 hi2
     try simp only [Ja, Rh, Rg, Jb] at hi2
     refine go_ ?_
     refine Qab ?_
     refine Qaa (hc1.out) ?_
     refine Qbq ((r0 ++ clS a b (sub.take j)).length + x.length) ?_ ?_ ?_ ?_
     ·simp
     ·exact rows1a _ _
     ·exact rows1 _
     refine go_ ?_
     refine ⟨j + 1, hlt, by omega, ?_, ?_⟩
     ·rw [HT.out, ← List.append_assoc]
      exact sU
     ·rw [HT.out, ← List.append_assoc]
      simp only [List.length_append]
      exact dR
    ·have hc : ¬ (j : Int) < sub.length := by omega
     have htk : sub.take j = sub := List.take_of_length_le (by omega)
     rw [htk]
     refine go_ ?_
     refine Qew (st' := [.tok g 3 1 (r0 ++ clS a b sub).length]) (by simp) (by simp only [Try.results70]; rfl) (by simp [resP, PF.get]; rfl) dR ⟨g, by simp [tupP], rfl⟩
  ·have h2 : k = b := hk.resolve_left h1
   clear hk
   have h1b : ¬ b = a := fun e => h1 (h2.trans e)
   refine go_ ?_
   refine Qbx ?_
   refine Qbq 1 ?_ ?_ ?_ ?_
   ·rfl
   ·simp
   ·simp
   refine gs_ ?_
   clear h1 h2 h1b
   refine go_ ?_
   refine Qfi (t := 0) (i := 2) (rows := sub.map encD) (by simp [PF.get] <;> rfl) rfl fun hml => ?_
   rw [List.length_map] at hml
   refine Qaf (ι := Nat) (fun y => y ≤ sub.length) (fun y => [(1, .d (.v (.int .i64 a))), (2, .d (.v (.int .i64 b))), (7, .own g ((r0 ++ clS a b (sub.take y)).map encD)), (26, .d (.sl (sub.map encD))), (27, .d (.v (.int .i64 sub.length))), (28, .d (.v (.int .i64 (y : Int))))]) (fun y => [.tok g 3 1 (r0 ++ clS a b (sub.take y)).length]) (fun y => sub.length - y) 0 (Nat.zero_le _) ?_ ?_ ?_
   ·subst hr0
    repeat (first | exact Jt _ | refine Js (by simp [PF.get]; rfl) (by first | rfl | (simp [clS, List.take_zero, List.append_nil]; done) | fail) ?_)
   ·subst hr0
    simp only [clS, List.take_zero, List.append_nil]
    exact dR
   ·rintro j hj
    clear hr0
    unfold maxLen at hml
    by_cases hlt : j < sub.length
    ·have hx := Qam hlt
     have hc : (j : Int) < sub.length := by omega
     have hn : (0 : Int) ≤ j := by omega
     have hin := wr64 (n := (j : Int) + 1) (by omega) (by omega)
     have hT := clS_take (a := a) (b := b) hlt
     have hlen := Nat.le_trans (clS_len a b (sub.take (j + 1))) (Nat.le_trans (Qeu sub (j + 1)) hns)
     rw [hT, List.length_append] at hlen
     have hlA : (r0 ++ clS a b (sub.take j)).length ≤ 100001 := by rw [List.length_append]; omega
     have HT := Hh hT
     clear hT
     have hc1 := Hh (IH.out _ (List.getElem_mem hlt))
     generalize clT a b sub[j] = x at *
     refine go_ ?_
     refine Je ?_
     intro i2 hi2
     try simp only [Ja, Rh, Rg, Jb] at hi2
     refine go_ ?_
     refine Qab ?_
     refine Qaa (hc1.out) ?_
     refine Qbq ((r0 ++ clS a b (sub.take j)).length + x.length) ?_ ?_ ?_ ?_
     ·simp
     ·exact rows1a _ _
     ·exact rows1 _
     refine go_ ?_
     refine ⟨j + 1, hlt, by omega, ?_, ?_⟩
     ·rw [HT.out, ← List.append_assoc]
      exact sU
     ·rw [HT.out, ← List.append_assoc]
      simp only [List.length_append]
      exact dR
    ·have hc : ¬ (j : Int) < sub.length := by omega
     have htk : sub.take j = sub := List.take_of_length_le (by omega)
     rw [htk]
     refine go_ ?_
     refine Qew (st' := [.tok g 3 1 (r0 ++ clS a b sub).length]) (by simp) (by simp only [Try.results70]; rfl) (by simp [resP, PF.get]; rfl) dR ⟨g, by simp [tupP], rfl⟩
 ·rw [if_neg hk] at hr0
  have h1 : ¬ k = a := fun h => hk (.inl h)
  have h2 : ¬ k = b := fun h => hk (.inr h)
  clear hk
  refine go_ ?_
  refine Qfi (t := 0) (i := 2) (rows := sub.map encD) (by simp [PF.get] <;> rfl) rfl fun hml => ?_
  rw [List.length_map] at hml
  refine Qaf (ι := Nat) (fun y => y ≤ sub.length) (fun y => [(1, .d (.v (.int .i64 a))), (2, .d (.v (.int .i64 b))), (7, .own g ((r0 ++ clS a b (sub.take y)).map encD)), (26, .d (.sl (sub.map encD))), (27, .d (.v (.int .i64 sub.length))), (28, .d (.v (.int .i64 (y : Int))))]) (fun y => [.tok g 3 1 (r0 ++ clS a b (sub.take y)).length]) (fun y => sub.length - y) 0 (Nat.zero_le _) ?_ ?_ ?_
  ·subst hr0
   repeat (first | exact Jt _ | refine Js (by simp [PF.get]; rfl) (by first | rfl | (simp [clS, List.take_zero, List.append_nil]; done) | fail) ?_)
  ·subst hr0
   simp only [clS, List.take_zero, List.append_nil]
   exact dR
  ·rintro j hj
   clear hr0
   unfold maxLen at hml
   by_cases hlt : j < sub.length
   ·have hx := Qam hlt
    have hc : (j : Int) < sub.length := by omega
    have hn : (0 : Int) ≤ j := by omega
    have hin := wr64 (n := (j : Int) + 1) (by omega) (by omega)
    have hT := clS_take (a := a) (b := b) hlt
    have hlen := Nat.le_trans (clS_len a b (sub.take (j + 1))) (Nat.le_trans (Qeu sub (j + 1)) hns)
    rw [hT, List.length_append] at hlen
    have hlA : (r0 ++ clS a b (sub.take j)).length ≤ 100001 := by rw [List.length_append]; omega
    have HT := Hh hT
    clear hT
    have hc1 := Hh (IH.out _ (List.getElem_mem hlt))
    generalize clT a b sub[j] = x at *
    refine go_ ?_
    refine Je ?_
    intro i2 hi2
    try simp only [Ja, Rh, Rg, Jb] at hi2
    refine go_ ?_
    refine Qab ?_
    refine Qaa (hc1.out) ?_
    refine Qbq ((r0 ++ clS a b (sub.take j)).length + x.length) ?_ ?_ ?_ ?_
    ·simp
    ·exact rows1a _ _
    ·exact rows1 _
    refine go_ ?_
    refine ⟨j + 1, hlt, by omega, ?_, ?_⟩
    ·rw [HT.out, ← List.append_assoc]
     exact sU
    ·rw [HT.out, ← List.append_assoc]
     simp only [List.length_append]
     exact dR
   ·have hc : ¬ (j : Int) < sub.length := by omega
    have htk : sub.take j = sub := List.take_of_length_le (by omega)
    rw [htk]
    refine go_ ?_
    refine Qew (st' := [.tok g 3 1 (r0 ++ clS a b sub).length]) (by simp) (by simp only [Try.results70]; rfl) (by simp [resP, PF.get]; rfl) dR ⟨g, by simp [tupP], rfl⟩
end Go.Proofs.Ytpaifjlikgnlfaa
namespace Go.Proofs.Ytpaifjlikgnlfaa
open Go.RowKit Go.Shelf
theorem rep_tm {S : Nat → Prop} {w : World} {t : Tm} {cs : List Value} : Rep S w t cs ↔ ∃ v, cs = [.int .i64 t.kind, .int .i64 t.num, v] ∧ RepS S w v t.sub := by
 cases t with
 | mk k n sub =>
 unfold Rep RepS
 simp only [Enc.enc, Enc.sz, tmD, Qfv, RepF, Tm.kind, Tm.num, Tm.sub]
 constructor
 ·rintro ⟨c, cr, rfl, h1, c, cr, rfl, h2, c, cr, rfl, h5, rfl⟩
  simp only [RepV] at h1 h2
  obtain ⟨rfl, -⟩ := h1
  obtain ⟨rfl, -⟩ := h2
  exact ⟨_, rfl, h5⟩
 ·rintro ⟨v, rfl, h5⟩
  exact ⟨_, _, rfl, by simp [RepV, Value.oneCell'], _, _, rfl, by simp [RepV, Value.oneCell'], _, _, rfl, h5, rfl⟩
theorem PCalls.ownI {P : Program} {f : FuncId} {args : List PV} {E : TypeId} {l : List Int} (h : PCalls P f args [] fun p s => ∃ g, p = .own g (l.map encD) ∧ s = [.tok g E 1 l.length]) {w : World} {vs : Array Value} (ha : RelVs (K0 w) w args vs) :
  Calls P f vs w fun e w' => ∃ u c, e = .returned (.slice u l.length c) ∧ w'.ownsRow w.heap.size E 1 (.slice u l.length c) l.length (l.map (Value.int .i64)) ∧ Below w.heap.size w w' := by
 refine (h (F0 w) (K0 w) w vs (rel0 w) ha).mono ?_
 rintro e w' ⟨v, K', p, st', rfl, hx, hr, hv, g, rfl, rfl⟩
 obtain ⟨u, xs, h1, h2, h3, h4, h5⟩ := hr.ents _ (List.mem_singleton.2 rfl)
 generalize hrows : l.map encD = rows at hv
 cases hv with
 | @own _ _ _ u' hd hg hle heq =>
 rw [h1] at hg
 obtain rfl := Option.some.inj hg
 have hlen : rows.length = l.length := by rw [← hrows, List.length_map]
 have hvu := heq (by rw [h3, hlen])
 subst hvu
 obtain ⟨a, cap, hv, hc1, hc2⟩ := Qei hd
 subst hv
 rw [hlen] at *
 refine ⟨a, cap, rfl, ?_, hx.os, hx.tape, hx.output, hx.size, fun k hk => hx.hp k hk⟩
 have hxs : xs = l.map (Value.int .i64) := by
  obtain ⟨ys, hy, a', cap', he, hcell⟩ := hd.rv (es := 1) (by decide) (by rw [← hrows]; exact rows1 l)
  have hyl : ys = l.map (Value.int .i64) := by
   refine List.ext_getElem? fun i => ?_
   by_cases hi : i < l.length
   ·have hr1 : rows[i]? = some [D.v (.int .i64 l[i])] := by rw [← hrows, List.getElem?_map, List.getElem?_eq_getElem hi]; rfl
    obtain ⟨x, h6, h7⟩ := hy.2.2 i 0 _ (.v (.int .i64 l[i])) hr1 rfl
    cases h7
    rw [show i * 1 + 0 = i by omega] at h6
    rw [h6, List.getElem?_map, List.getElem?_eq_getElem hi]; rfl
   ·rw [List.getElem?_eq_none (by rw [hy.1, ← hrows, List.length_map]; omega), List.getElem?_eq_none (by rw [List.length_map]; omega)]
  rw [← hyl]
  have hxl : xs.length = l.length := by rw [h4.1]; omega
  have hyll : ys.length = l.length := by rw [hyl, List.length_map]
  rcases h4.2 with ⟨e1, e2⟩ | ⟨g', cap2, cur, e1, e2, e3, e4, e5, e6, e7⟩
  ·rw [List.eq_nil_of_length_eq_zero (hxl.trans e2), List.eq_nil_of_length_eq_zero (hyll.trans e2)]
  ·refine List.ext_getElem? fun i => ?_
   by_cases hi : i < l.length
   ·obtain ⟨y, hyi⟩ : ∃ y, ys[i]? = some y := ⟨_, List.getElem?_eq_getElem (by omega)⟩
    injection e1 with e8 _ _
    injection he with e9 _ _
    have h8 := (hcell ⟨g', 0, none⟩ (by rw [← e9, e8]) i y hyi).1
    rw [hyi, ← e7, List.getElem?_take, if_pos (by omega)]
    rw [Qcf, Nat.zero_add, Qdq e3] at h8
    simpa using h8
   ·rw [List.getElem?_eq_none (by omega), List.getElem?_eq_none (by omega)]
 rw [hxs] at h4
 refine ⟨h4.1, ?_⟩
 rcases h4.2 with h | ⟨g', cap', cur, e1, e2, e3, e4⟩
 ·exact .inl h
 ·refine .inr ⟨g', cap', cur, e1, ?_, e3, e4⟩
  have := (h5 g' (by rw [e1]; rfl)).1
  exact Nat.le_of_not_lt this
theorem own_block {w : World} {base e n : Nat} {u : Option Addr} {c : Nat} {N : List Int} (h : w.ownsRow base e 1 (.slice u n c) n (N.map (Value.int .i64))) (hn : N.length = n) (h0 : 0 < n) :
  ∃ g cur, u = some ⟨g, 0, none⟩ ∧ base ≤ g ∧ g < w.heap.size ∧ w.heap[g]? = some (.cells cur e (0, 0)) ∧ n ≤ c ∧ c ≤ maxLen ∧ cur.size = c * 1 ∧ cur.toList.take N.length = N.map (Value.int .i64) := by
 rcases h.2 with ⟨e0, _⟩ | ⟨g', cap', cur, e0, hb, hg, hn', hm, hs, ht⟩
 ·cases e0; omega
 ·injection e0 with e1 _ e3
  subst e1; subst e3
  have hlt : g' < w.heap.size := by
   obtain ⟨h1, _⟩ := Array.getElem?_eq_some_iff.1 hg; exact h1
  exact ⟨g', cur, rfl, hb, hlt, hg, hn', hm, hs, by rw [hn]; simpa using ht⟩
theorem slsort_any (N : List Int) (u : Option Addr) (c base : Nat) (w : World) (hN5 : N.length ≤ 50000) (hbase : base ≤ w.heap.size) (hown : w.ownsRow base 3 1 (.slice u N.length c) N.length (N.map (Value.int .i64))) :
  Calls Try.prog 75 #[.slice u N.length c] w fun e w' => e = .returned (.tuple #[]) ∧ w'.ownsRow base 3 1 (.slice u N.length c) N.length ((N.mergeSort fun x y => decide (x ≤ y)).map (Value.int .i64)) ∧ Below base w w' := by
 by_cases h0 : 0 < N.length
 ·obtain ⟨g, cur, rfl, hb, hlt, hg, hnc, hm, hs, ht⟩ := own_block hown rfl h0
  have H := Any.slices_Sort_int Try.lays189 g 0 c N w (holds_of_blockI hg ht) hlt (by omega)
  refine H.mono ?_
  rintro e w' ⟨rfl, n, os, rfl⟩
  refine ⟨rfl, ownsRow_sortedI (by simp) hb hg hnc hm hs, ?_⟩
  exact (Below.refl base w).grown (grownBy_sortedI _) hbase (fun k hk => by cases hk; exact hb)
 ·have hN : N = [] := List.length_eq_zero_iff.1 (by omega)
  subst hN
  refine (Any.slices_Sort_int_none Try.lays189 u c w).mono ?_
  rintro e w' ⟨rfl, rfl⟩
  exact ⟨rfl, by simpa using hown, Below.refl _ _⟩
theorem slcompact_any (N : List Int) (u : Option Addr) (c base : Nat) (w : World) (hown : w.ownsRow base 3 1 (.slice u N.length c) N.length (N.map (Value.int .i64))) :
  Calls Try.prog 76 #[.slice u N.length c] w fun e w' => e = .returned (.slice u (Lib.compact N).length c) ∧ w'.ownsRow base 3 1 (.slice u (Lib.compact N).length c) (Lib.compact N).length ((Lib.compact N).map (Value.int .i64)) ∧ Below base w w' := by
 by_cases h0 : 0 < N.length
 ·obtain ⟨g, cur, rfl, hb, hlt, hg, hnc, hm, hs, ht⟩ := own_block hown rfl h0
  have hle := Lib.compact_length_le N
  have H := Any.slices_Compact_int Try.laysNm220 g 0 c N w (holds_of_blockI hg ht) (by unfold maxLen at hm; omega) hnc
  refine H.mono ?_
  rintro e w' ⟨rfl, q, rfl⟩
  have h := Lib.ownsRow_putRow (q := q) (ys := Lib.compact N ++ List.replicate (N.length - (Lib.compact N).length) 0) hown (by simp; omega) hle
  rw [List.take_left'] at h
  ·exact ⟨rfl, h, Lib.below_putRow (Below.refl _ _) hb⟩
  ·rfl
 ·have hN : N = [] := List.length_eq_zero_iff.1 (by omega)
  subst hN
  refine (Any.slices_Compact_int_empty Try.laysNm220 u c w).mono ?_
  rintro e w' ⟨rfl, rfl⟩
  exact ⟨rfl, hown, Below.refl _ _⟩
theorem rising_any (a b : Int) (t : Tm) (u : Option Addr) (c base : Nat) (w : World) (hnd : cndT t ≤ 20000) (hbase : base ≤ w.heap.size) (hown : w.ownsRow base 3 1 (.slice u (clT a b t).length c) (clT a b t).length ((clT a b t).map (Value.int .i64))) :
  Calls Try.prog 69 #[.slice u (clT a b t).length c] w fun e w' => e = .returned (.slice u (nmT a b t).length c) ∧ w'.ownsRow base 3 1 (.slice u (nmT a b t).length c) (nmT a b t).length ((nmT a b t).map (Value.int .i64)) ∧ Below base w w' := by
 have hR := rise_nm a b t
 have S1 := Hh (slsort_any _ u c base w (by have := cl_len a b t; omega) hbase hown)
 have hml : ((clT a b t).mergeSort fun x y => decide (x ≤ y)).length = (clT a b t).length := List.length_mergeSort _
 rw [← hml] at S1 ⊢
 generalize ((clT a b t).mergeSort fun x y => decide (x ≤ y)) = S at *
 generalize nmT a b t = R at *
 clear hown hml
 have HR := Hh hR
 clear hR
 go_enter Try.func69, Try.ntmps69
 go_wp2_with fail
 refine S1.out.mono ?_
 rintro e w1 ⟨rfl, ho1, hb1⟩
 have C := Hh (slcompact_any S u c base w1 ho1)
 have HB1 := Hh hb1
 clear ho1 hb1 S1
 go_wp2_with fail
 refine C.out.mono ?_
 rw [HR.out]
 rintro e w2 ⟨rfl, ho2, hb2⟩
 have HO := Hh ho2
 have HB := Hh (HB1.out.trans hb2)
 clear ho2 hb2 C
 go_wp2_with fail
 go_ret
 exact ⟨rfl, HO.out, HB.out⟩
end Go.Proofs.Ytpaifjlikgnlfaa
namespace Go.Proofs.Ytpaifjlikgnlfaa
open Go.RowKit
theorem relK0 {α : Type} [Enc α] [EncOk α] {w : World} {t : α} {cs : List Value} (h : Rep (fun _ => True) w t cs) : RelV (K0 w) w (aggD t) (.agg cs.toArray) := rel_rep (K := K0 w) (fun b o v _ h => ⟨v, h⟩) h
theorem rvI (K : Nat → Nat → Prop) (w : World) (l : List Int) : RV K w 1 (l.map encD) (l.map (Value.int .i64)) := by
 refine ⟨by simp, rows1 l, fun i j row d hi hj => ?_⟩
 rw [List.getElem?_map] at hi
 obtain ⟨n, hn, rfl⟩ := Option.map_eq_some_iff.1 hi
 have hj0 : j = 0 := by
  have := (List.getElem?_eq_some_iff.1 hj).1
  simpa [Jf] using this
 subst hj0
 obtain rfl : D.v (.int .i64 n) = d := Option.some.inj hj
 exact ⟨.int .i64 n, by rw [show i * 1 + 0 = i by omega, List.getElem?_map, hn]; rfl, .v trivial⟩
theorem relI {w w' : World} {base e : Nat} {v : Value} {l : List Int} (h : w'.ownsRow base e 1 v l.length (l.map (Value.int .i64))) (hb : w.heap.size ≤ base) {K' : Kp} (hK : ∀ b o u, w.heap.size ≤ b → w'.cell? ⟨b, o, none⟩ = some u → K'.cell b o) : RelD K'.cell w' (.sl (l.map encD)) v := by
 refine (rvI K'.cell w' l).rel (E := e) (n := l.length) ⟨h.1, ?_⟩ (by rw [List.length_map]) fun b hv o ho => ?_
 ·rcases h.2 with h | ⟨g, cap, cur, e1, e2, e3⟩
  ·exact .inl h
  ·exact .inr ⟨g, cap, cur, e1, Nat.zero_le _, e3⟩
 ·rcases h.2 with ⟨e1, -⟩ | ⟨g, cap, cur, e1, e2, e3, e4, e5, e6, e7⟩
  ·rw [e1] at hv; cases hv
  ·rw [e1] at hv
   obtain rfl : g = b := Option.some.inj hv
   obtain ⟨u, hu⟩ : ∃ u, cur[o]? = some u := ⟨_, Array.getElem?_eq_getElem (by omega)⟩
   exact hK g o u (by omega) (by rw [Qdq e3]; exact hu)
theorem tfrees_p (t : Tm) : PCalls Try.prog 54 [aggD t] [] fun p s => p = .d (.sl ((enT 8 8 t).map encD)) ∧ s = [] := by
  refine PCalls.data fun K w vs ha => ?_
  obtain ⟨v, rfl, hv⟩ := ha.one
  obtain ⟨cs, rfl, ht⟩ := rep_rel hv
  obtain ⟨sv, rfl, hsub⟩ := rep_tm.1 ht
  obtain ⟨ad, nn, cap, rfl⟩ := hsub.form
  have E := boxes1 w #[.int .i64 t.kind, .int .i64 t.num, .slice ad nn cap] 30
  have HT := Hh ht
  have HE := Hh E
  have SH := Hh (((Qca t).mono fun _ _ h => h.1).top (Qav (relK0 (ht.later E.2.1)) (Qbz _ _)))
  clear hv ha hsub ht E
  cases hb : Qad t with
  | true =>
    have hE : enT 8 8 t = nmT 8 8 t := if_pos hb
    have hnd := (Qbu hb).2.2
    rw [hb] at SH
    rw [hE]
    clear hE hb
    go_enter Try.func54, Try.ntmps54
    go_wp2_with fail
    refine SH.out.mono ?_
    rintro e w1 ⟨rfl, hb1⟩
    have h1 := (hb1.block w.heap.size (by have := HE.out.2.2; omega)).trans HE.out.1
    have c0 := Qdq h1 0
    have c1 := Qdq h1 1
    have c2 := Qdq h1 2
    have HW1 := Hh (HE.out.2.1.trans (hb1.mono HE.out.2.1.size))
    have C := Hh ((collect_o t 8 8 (by omega)).ownI (Qav (relK0 (HT.out.later HW1.out)) (Qav (.d (.v trivial)) (Qav (.d (.v trivial)) (Qbz _ _)))))
    clear hb1 SH h1
    go_wp2_with fail
    refine C.out.mono ?_
    rintro e w2 ⟨u, c, rfl, ho, hb2⟩
    have R := Hh (rising_any 8 8 t u c w1.heap.size w2 (by omega) hb2.size ho)
    have HB2 := Hh hb2
    clear hb2 ho C c0 c1 c2
    go_wp2_with fail
    refine R.out.mono ?_
    rintro e w3 ⟨rfl, ho3, hb3⟩
    have HS := Hh ho3
    have HB := Hh (HW1.out.trans ((HB2.out.trans hb3).mono HW1.out.size))
    have HZ := Hh HW1.out.size
    clear hb3 ho3 R
    go_wp2_with fail
    go_ret
    exact ⟨_, rfl, HB.out, fun K' hK => .d (relI HS.out HZ.out hK)⟩
  | false =>
    have hE : enT 8 8 t = [] := if_neg (by rw [hb]; simp)
    rw [hb] at SH
    rw [hE]
    clear hE hb
    go_enter Try.func54, Try.ntmps54
    go_wp2_with fail
    refine SH.out.mono ?_
    rintro e w1 ⟨rfl, hb1⟩
    have HW1 := Hh (HE.out.2.1.trans (hb1.mono HE.out.2.1.size))
    clear hb1
    go_wp2_with fail
    go_ret
    exact ⟨_, rfl, HW1.out, fun K' hK => .d (.nil (by decide))⟩
theorem tentries_p (t : Tm) : PCalls Try.prog 68 [aggD t] [] fun p s => p = .d (.sl ((enT 6 7 t).map encD)) ∧ s = [] := by
  refine PCalls.data fun K w vs ha => ?_
  obtain ⟨v, rfl, hv⟩ := ha.one
  obtain ⟨cs, rfl, ht⟩ := rep_rel hv
  obtain ⟨sv, rfl, hsub⟩ := rep_tm.1 ht
  obtain ⟨ad, nn, cap, rfl⟩ := hsub.form
  have E := boxes1 w #[.int .i64 t.kind, .int .i64 t.num, .slice ad nn cap] 30
  have HT := Hh ht
  have HE := Hh E
  have SH := Hh (((Qca t).mono fun _ _ h => h.1).top (Qav (relK0 (ht.later E.2.1)) (Qbz _ _)))
  clear hv ha hsub ht E
  cases hb : Qad t with
  | true =>
    have hE : enT 6 7 t = nmT 6 7 t := if_pos hb
    have hnd := (Qbu hb).2.2
    rw [hb] at SH
    rw [hE]
    clear hE hb
    go_enter Try.func68, Try.ntmps68
    go_wp2_with fail
    refine SH.out.mono ?_
    rintro e w1 ⟨rfl, hb1⟩
    have h1 := (hb1.block w.heap.size (by have := HE.out.2.2; omega)).trans HE.out.1
    have c0 := Qdq h1 0
    have c1 := Qdq h1 1
    have c2 := Qdq h1 2
    have HW1 := Hh (HE.out.2.1.trans (hb1.mono HE.out.2.1.size))
    have C := Hh ((collect_o t 6 7 (by omega)).ownI (Qav (relK0 (HT.out.later HW1.out)) (Qav (.d (.v trivial)) (Qav (.d (.v trivial)) (Qbz _ _)))))
    clear hb1 SH h1
    go_wp2_with fail
    refine C.out.mono ?_
    rintro e w2 ⟨u, c, rfl, ho, hb2⟩
    have R := Hh (rising_any 6 7 t u c w1.heap.size w2 (by omega) hb2.size ho)
    have HB2 := Hh hb2
    clear hb2 ho C c0 c1 c2
    go_wp2_with fail
    refine R.out.mono ?_
    rintro e w3 ⟨rfl, ho3, hb3⟩
    have HS := Hh ho3
    have HB := Hh (HW1.out.trans ((HB2.out.trans hb3).mono HW1.out.size))
    have HZ := Hh HW1.out.size
    clear hb3 ho3 R
    go_wp2_with fail
    go_ret
    exact ⟨_, rfl, HB.out, fun K' hK => .d (relI HS.out HZ.out hK)⟩
  | false =>
    have hE : enT 6 7 t = [] := if_neg (by rw [hb]; simp)
    rw [hb] at SH
    rw [hE]
    clear hE hb
    go_enter Try.func68, Try.ntmps68
    go_wp2_with fail
    refine SH.out.mono ?_
    rintro e w1 ⟨rfl, hb1⟩
    have HW1 := Hh (HE.out.2.1.trans (hb1.mono HE.out.2.1.size))
    clear hb1
    go_wp2_with fail
    go_ret
    exact ⟨_, rfl, HW1.out, fun K' hK => .d (.nil (by decide))⟩
theorem tSame_p (t u : Tm) : PCalls Try.prog 26 [aggD t, aggD u] [] fun p s => p = .d (.v (.bool (csameB t u))) ∧ s = [] := by
  have hT := Hh (Qca t)
  have hU := Hh (Qca u)
  have hE := Hh (tequal_p t u)
  have HR := Hh (show csameB t u = (Qad t && Qad u && ceqT t u) from rfl)
  generalize csameB t u = R at *
  generalize Qad t = a at *
  generalize Qad u = b at *
  generalize ceqT t u = c at *
  simp only [aggD, Jl, List.map_cons, List.map_nil] at hT hU hE ⊢
  cases a with
  | false =>
    refine pG Try.func26 Try.ntmps26 ?_
    refine Jd ?_
    intro i0 hi0
    refine go_ ?_
    refine Jd ?_
    intro i1 hi1
    try simp only [Ja, Rh, Rg, Jb] at hi1
    refine go_ ?_
    refine Qaa (hT.out) ?_
    refine rT Try.results26 ?_
    exact ⟨by rw [HR.out]; rfl, rfl⟩
  | true =>
    cases b with
    | false =>
      refine pG Try.func26 Try.ntmps26 ?_
      refine Jd ?_
      intro i0 hi0
      refine go_ ?_
      refine Jd ?_
      intro i1 hi1
      try simp only [Ja, Rh, Rg, Jb] at hi1
      refine go_ ?_
      refine Qaa (hT.out) ?_
      refine Qaa (hU.out) ?_
      refine rT Try.results26 ?_
      exact ⟨by rw [HR.out]; rfl, rfl⟩
    | true =>
      refine pG Try.func26 Try.ntmps26 ?_
      refine Jd ?_
      intro i0 hi0
      refine go_ ?_
      refine Jd ?_
      intro i1 hi1
      try simp only [Ja, Rh, Rg, Jb] at hi1
      refine go_ ?_
      refine Qaa (hT.out) ?_
      refine Qaa (hU.out) ?_
      refine Qaa (hE.out) ?_
      refine rT Try.results26 ?_
      exact ⟨by rw [HR.out]; rfl, rfl⟩
theorem tcloned_p : ∀ (t : Tm), cndT t ≤ 100000 → PCalls Try.prog 30 [aggD t] [] fun p s => p = aggD t ∧ s = [] := by
 refine Tm.ind ?_
 intro k n sub ih hnd
 have hns : cndL sub ≤ 100000 := by simp only [cndT] at hnd; omega
 have hsl : sub.length ≤ 100000 := Nat.le_trans (Qfj sub) hns
 have IH : Hid (∀ s ∈ sub, PCalls Try.prog 30 [aggD s] [] fun p st => p = aggD s ∧ st = []) := fun s hs => ih s hs (by have := cnd_mem s hs; omega)
 simp only [aggD, Jl, List.map_cons, List.map_nil, Jv, Jw, Jx]
 clear ih hnd hns
 refine pG Try.func30 Try.ntmps30 ?_
 refine Jd ?_
 intro i0 hi0
 refine go_ ?_
 refine Je ?_
 intro i1 hi1
 try simp only [Ja, Rh, Rg, Jb] at hi1
 refine go_ ?_
 refine Je ?_
 intro i2 hi2
 try simp only [Ja, Rh, Rg, Jb] at hi2
 refine go_ ?_
 refine Rd ?_
 refine gs_ ?_
 refine PW_ownB i2 2 30 3 eQ (by rfl) (by rfl) (by intro g; simp [St.setBox, *]; rfl) (by decide) ?_
 intro g hg
 refine go_ ?_
 refine Qaf (ι := Nat) (fun y => y ≤ sub.length) (fun y => [(2, .ptr i1 0), (3, .ptr i2 0), (12, .d (.sl (sub.map encD))), (13, .d (.v (.int .i64 sub.length))), (14, .d (.v (.int .i64 (y : Int))))]) (fun y => [.tok g 30 3 y, .box i2 30 [.d (.v (.int .i64 k)), .d (.v (.int .i64 n)), .own g ((sub.map encD).take y)], .box i1 30 [.d (.v (.int .i64 0)), .d (.v (.int .i64 0)), .nils]]) (fun y => sub.length - y) 0 (Nat.zero_le _) ?_ ?_ ?_
 ·exact sU
 ·exact dR
 ·rintro j hj
  by_cases hlt : j < sub.length
  ·have hx := Qam hlt
   have hc : (j : Int) < sub.length := by omega
   have hn : (0 : Int) ≤ j := by omega
   have hin := wr64 (n := (j : Int) + 1) (by omega) (by omega)
   have hc1 := Hh (IH.out _ (List.getElem_mem hlt))
   have hT : (sub.map encD).take (j + 1) = (sub.map encD).take j ++ [encD sub[j]] := by rw [← List.map_take, List.take_succ_eq_append_getElem hlt, List.map_append, List.map_take]; rfl
   have hlen : (sub.take j).length = j := by rw [List.length_take]; omega
   have HT := Hh hT
   clear hT
   refine go_ ?_
   refine Je ?_
   intro i3 hi3
   try simp only [Ja, Rh, Rg, Jb] at hi3
   refine go_ ?_
   refine Qab ?_
   refine PW_drawnL (J := Qct [(i2, _), (i3, _)]) [(0, .a), (1, .a), (2, .a), (3, .a), (4, .a), (5, .e), (6, .a), (7, .e)] (by kernel_rfl) (by rfl) (by kernel_rfl) (by (repeat (first | exact Qbn _ | refine Ju (by simp [St.box?, *] <;> rfl) ?_))) ?_
   refine lG ?_
   refine PL_call2 (hc1.out) ?_
   refine lG ?_
   refine PL_bs ?_ rfl (by decide) rfl (by simp; rfl) (by rfl) (by simp; rfl) (by rfl) (by decide) (by decide) eQ (by simp [Qcc, toDs, PV.toD]; rfl)
   refine PL_app (j + 1) ?_ ?_ ?_ ?_ ?_
   rotate_left
   ·exact fun row h => Qdj sub row (List.mem_of_mem_take h)
   ·exact Qfp rfl
   ·simp; omega
   ·exact .inr (by (repeat (first | exact Qbn _ | refine Ju (by simp [St.box?, *] <;> rfl) ?_)))
   refine lG ?_
   refine PLs ?_
   refine lG ?_
   refine go_ ?_
   refine ⟨j + 1, hlt, by omega, ?_, ?_⟩
   ·exact sU
   ·rw [HT.out]
    simp only [Jl]
    exact dR
  ·have hc : ¬ (j : Int) < sub.length := by omega
   have hj2 : j = sub.length := by omega
   subst hj2
   have htk : (sub.map encD).take sub.length = sub.map encD := List.take_of_length_le (by simp)
   rw [htk]
   refine go_ ?_
   refine Qab ?_
   refine rT Try.results30 ?_
   exact ⟨by simp [tupP, PV.norm2, PV.norm1, PV.norm0], rfl⟩
def Qbc (t : Tm) : Tm := if Qad t = true then t else .mk 0 0 []
theorem tCopy_p (t : Tm) : PCalls Try.prog 19 [aggD t] [] fun p s => p = aggD (Qbc t) ∧ s = [] := by
  have hS := Hh (Qca t)
  have HR := Hh (show Qbc t = if Qad t = true then t else .mk 0 0 [] from rfl)
  cases hb : Qad t with
  | true =>
    have hL := Hh (tcloned_p t (by have := (Qbu hb).2.2; omega))
    rw [HR.out, if_pos hb]
    rw [hb] at hS
    clear HR hb
    simp only [aggD, Jl, List.map_cons, List.map_nil] at hS hL ⊢
    refine pG Try.func19 Try.ntmps19 ?_
    refine Jd ?_
    intro i0 hi0
    refine go_ ?_
    refine Je ?_
    intro i1 hi1
    try simp only [Ja, Rh, Rg, Jb] at hi1
    refine go_ ?_
    refine Qaa (hS.out) ?_
    refine Qaa (hL.out) ?_
    refine Qab ?_
    refine rT Try.results19 ?_
    exact ⟨by simp [tupP, PV.norm2, PV.norm1, PV.norm0], rfl⟩
  | false =>
    rw [HR.out, if_neg (by rw [hb]; simp)]
    rw [hb] at hS
    clear HR hb
    simp only [aggD, Jl, List.map_cons, List.map_nil, Jv, Jw, Jx] at hS ⊢
    refine pG Try.func19 Try.ntmps19 ?_
    refine Jd ?_
    intro i0 hi0
    refine go_ ?_
    refine Je ?_
    intro i1 hi1
    try simp only [Ja, Rh, Rg, Jb] at hi1
    refine go_ ?_
    refine Qaa (hS.out) ?_
    refine Qab ?_
    refine rT Try.results19 ?_
    exact ⟨by simp [tupP, PV.norm2, PV.norm1, PV.norm0], rfl⟩
def Qeg (t : Tm) (f e : Int) : Bool := Qad t && decide (lsT t 0 ≤ f) && (nmT 6 7 t).all fun n => decide (n < e)
theorem asc_last {l : List Int} (h : l.Pairwise (· < ·)) (e : Int) (hl : 0 < l.length) : (l.all fun n => decide (n < e)) = decide (l[l.length - 1] < e) := by
 rcases List.eq_nil_or_concat l with rfl | ⟨a, x, hx⟩
 ·simp at hl
 ·rw [List.concat_eq_append] at hx
  subst hx
  have h1 := (List.pairwise_append.1 h).2.2
  rw [List.all_append]
  simp only [List.all_cons, List.all_nil, Bool.and_true, List.length_append, List.length_singleton, Nat.add_sub_cancel]
  rw [List.getElem_append_right (Nat.le_refl _)]
  simp only [Nat.sub_self, List.getElem_cons_zero]
  by_cases hx : x < e
  ·have : (a.all fun n => decide (n < e)) = true := List.all_eq_true.2 fun y hy => decide_eq_true (by have := h1 y hy x (by simp); omega)
   rw [this, decide_eq_true hx]; rfl
  ·rw [decide_eq_false hx, Bool.and_false]
theorem tRight_p (t : Tm) (f e : Int) : PCalls Try.prog 53 [aggD t, .d (.v (.int .i64 f)), .d (.v (.int .i64 e))] [] fun p s => p = .d (.v (.bool (Qeg t f e))) ∧ s = [] := by
  have hS := Hh (Qca t)
  have HR := Hh (show Qeg t f e = (Qad t && decide (lsT t 0 ≤ f) && (nmT 6 7 t).all fun n => decide (n < e)) from rfl)
  have HE := Hh (tentries_p t)
  generalize Qeg t f e = R at *
  cases hb : Qad t with
  | true =>
    obtain ⟨h1, h2, h3⟩ := Qbu hb
    have hL := Hh (tloose_p t 0 h1 (by decide) (by omega))
    have hlen := Nat.le_trans (nm_len 6 7 t) h3
    have hasc := asc_last (nm_asc 6 7 t) e
    rw [hb] at hS HR
    have hen : enT 6 7 t = nmT 6 7 t := if_pos hb
    rw [hen] at HE
    clear hb h1 h2 h3 hen
    generalize lsT t 0 = z at *
    generalize nmT 6 7 t = l at *
    simp only [aggD, Jl, List.map_cons, List.map_nil] at hS hL HE ⊢
    by_cases hz : z ≤ f
    · have hz2 : ¬ f < z := by omega
      by_cases hl : l = []
      · subst hl
        have hf : Hid (R = true) := by show _ = _; rw [HR.out]; simp [hz]
        clear hasc hlen HR
        refine pG Try.func53 Try.ntmps53 ?_
        refine Jd ?_
        intro i0 hi0
        refine go_ ?_
        refine Qaa (hS.out) ?_
        refine Qaa (hL.out) ?_
        refine Qaa (HE.out) ?_
        refine rT Try.results53 ?_
        exact ⟨by rw [hf.out]; rfl, rfl⟩
      · have hpos : 0 < l.length := List.length_pos_iff.2 hl
        have hlt : l.length - 1 < l.length := by omega
        have hf : Hid (R = decide (l[l.length - 1] < e)) := by show _ = _; rw [HR.out, hasc hpos]; simp [hz]
        have hx := Qam hlt
        have hq : ¬ (l.length : Int) = 0 := by omega
        have hw : IntKind.i64.wrap ((l.length : Int) - 1) = ((l.length - 1 : Nat) : Int) := by rw [wr64 (by omega) (by omega)]; omega
        have hn : (0 : Int) ≤ ((l.length - 1 : Nat) : Int) := by omega
        clear hasc HR
        generalize hk : l.length - 1 = k at *
        refine pG Try.func53 Try.ntmps53 ?_
        refine Jd ?_
        intro i0 hi0
        refine go_ ?_
        refine Qaa (hS.out) ?_
        refine Qaa (hL.out) ?_
        refine Qaa (HE.out) ?_
        refine rT Try.results53 ?_
        exact ⟨by rw [hf.out]; rfl, rfl⟩
    · have hz2 : f < z := by omega
      have hf : Hid (R = false) := by show _ = _; rw [HR.out]; simp [hz]
      clear hasc hlen HR
      refine pG Try.func53 Try.ntmps53 ?_
      refine Jd ?_
      intro i0 hi0
      refine go_ ?_
      refine Qaa (hS.out) ?_
      refine Qaa (hL.out) ?_
      refine rT Try.results53 ?_
      exact ⟨by rw [hf.out]; rfl, rfl⟩
  | false =>
    have hf : Hid (R = false) := by show _ = _; rw [HR.out, hb]; rfl
    rw [hb] at hS
    clear HR hb
    simp only [aggD, Jl, List.map_cons, List.map_nil] at hS ⊢
    refine pG Try.func53 Try.ntmps53 ?_
    refine Jd ?_
    intro i0 hi0
    refine go_ ?_
    refine Qaa (hS.out) ?_
    refine rT Try.results53 ?_
    exact ⟨by rw [hf.out]; rfl, rfl⟩
def SlK (K : Nat → Nat → Prop) (w : World) (sz : Nat) (v : Value) (css : List (List Value)) : Prop := SlN w sz v css ∧ ∀ b off n cap, v = .slice (some ⟨b, off, none⟩) n cap → ∀ o, off ≤ o → o < off + css.length * sz → K b o
theorem SlK.later {K : Nat → Nat → Prop} {w w' : World} {sz : Nat} {v : Value} {css : List (List Value)} (h : SlK K w sz v css) (hb : Below w.heap.size w w') : SlK K w' sz v css := ⟨h.1.later hb, h.2⟩
variable {K : Nat → Nat → Prop}
mutual
def TmC (K : Nat → Nat → Prop) (w : World) : Tm → List Value → Prop
 | .mk k n sub, cs => ∃ s css, cs = [.int .i64 k, .int .i64 n, s] ∧ SlK K w 3 s css ∧ TmCs K w sub css
def TmCs (K : Nat → Nat → Prop) (w : World) : List Tm → List (List Value) → Prop
 | [], css => css = []
 | t :: ts, css => ∃ c cr, css = c :: cr ∧ TmC K w t c ∧ TmCs K w ts cr
end
theorem TmCs.length {w : World} : ∀ {ts : List Tm} {css : List (List Value)}, TmCs K w ts css → css.length = ts.length := by
 intro ts
 induction ts with
 | nil => intro css h; simp only [TmCs] at h; subst h; rfl
 | cons t ts ih => intro css h; simp only [TmCs] at h; obtain ⟨c, cr, rfl, _, h2⟩ := h; simp [ih h2]
theorem TmCs.get {w : World} : ∀ {ts : List Tm} {css : List (List Value)}, TmCs K w ts css → ∀ (i : Nat) (h : i < ts.length), ∃ c, css[i]? = some c ∧ TmC K w ts[i] c := by
  intro ts
  induction ts with
  | nil => intro css _ i h; simp at h
  | cons t ts ih =>
    intro css h i hi
    simp only [TmCs] at h
    obtain ⟨c, cr, rfl, h1, h2⟩ := h
    cases i with
    | zero => exact ⟨c, rfl, h1⟩
    | succ i =>
      obtain ⟨c', hc', h'⟩ := ih h2 i (by simpa using hi)
      exact ⟨c', by simpa using hc', by simpa using h'⟩
theorem TmCs.mk {w : World} : ∀ {ts : List Tm} {css : List (List Value)}, css.length = ts.length → (∀ (i : Nat) (h : i < ts.length), ∃ c, css[i]? = some c ∧ TmC K w ts[i] c) → TmCs K w ts css := by
  intro ts
  induction ts with
  | nil => intro css hl _; simp only [TmCs]; exact List.eq_nil_of_length_eq_zero hl
  | cons t ts ih =>
    intro css hl h
    match css, hl with
    | c :: cr, hl =>
      simp only [TmCs]
      obtain ⟨c0, e0, h0⟩ := h 0 (by simp)
      simp at e0; subst e0
      refine ⟨c, cr, rfl, h0, ih (by simpa using hl) fun i hi => ?_⟩
      obtain ⟨c', hc', h'⟩ := h (i + 1) (by simpa using hi)
      exact ⟨c', by simpa using hc', by simpa using h'⟩
theorem TmC.later {w w' : World} (hb : Below w.heap.size w w') : ∀ (t : Tm) (cs : List Value), TmC K w t cs → TmC K w' t cs := by
 refine Tm.ind ?_
 intro k n sub ih cs h
 simp only [TmC] at h ⊢
 obtain ⟨s, css, rfl, h1, h2⟩ := h
 refine ⟨s, css, rfl, h1.later hb, TmCs.mk h2.length fun i hi => ?_⟩
 obtain ⟨c, hc, h3⟩ := h2.get i hi
 exact ⟨c, hc, ih _ (List.getElem_mem hi) c h3⟩
theorem TmCs.later {w w' : World} (hb : Below w.heap.size w w') {ts : List Tm} {css : List (List Value)} (h : TmCs K w ts css) : TmCs K w' ts css :=
 TmCs.mk h.length fun i hi => by
  obtain ⟨c, hc, h3⟩ := h.get i hi
  exact ⟨c, hc, h3.later hb⟩
def TmS (K : Nat → Nat → Prop) (w : World) (v : Value) (ts : List Tm) : Prop := ∃ css, SlK K w 3 v css ∧ TmCs K w ts css
theorem TmS.later {w w' : World} {v : Value} {ts : List Tm} (h : TmS K w v ts) (hb : Below w.heap.size w w') : TmS K w' v ts := by
 obtain ⟨css, h1, h2⟩ := h
 exact ⟨css, h1.later hb, h2.later hb⟩
theorem TmC.iff {w : World} {k n : Int} {sub : List Tm} {cs : List Value} : TmC K w (.mk k n sub) cs ↔ ∃ s, cs = [.int .i64 k, .int .i64 n, s] ∧ TmS K w s sub := by
 simp only [TmC]
 constructor
 ·rintro ⟨s, css, rfl, h1, h2⟩; exact ⟨s, rfl, css, h1, h2⟩
 ·rintro ⟨s, rfl, css, h1, h2⟩; exact ⟨s, css, rfl, h1, h2⟩
theorem TmC.open {w : World} {t : Tm} {cs : List Value} (h : TmC K w t cs) : ∃ s, cs = [.int .i64 t.kind, .int .i64 t.num, s] ∧ TmS K w s t.sub := by
 cases t; exact TmC.iff.1 h
theorem TmS.open {w : World} {v : Value} {ts : List Tm} (h : TmS K w v ts) : ∃ a cap, v = .slice a ts.length cap ∧ ts.length ≤ cap ∧ cap ≤ maxLen ∧
  (ts ≠ [] → ∃ b off, a = some ⟨b, off, none⟩ ∧ ∀ (i : Nat) (hi : i < ts.length), ∃ s, w.cell? ⟨b, off + i * 3, none⟩ = some (.int .i64 ts[i].kind) ∧ w.cell? ⟨b, off + i * 3 + 1, none⟩ = some (.int .i64 ts[i].num) ∧ w.cell? ⟨b, off + i * 3 + 2, none⟩ = some s ∧ TmS K w s ts[i].sub) := by
 obtain ⟨css, ⟨⟨a, cap, hv, hl, hm, hc⟩, -⟩, h2⟩ := h
 have hlen := h2.length
 rw [hlen] at hv hl
 refine ⟨a, cap, hv, hl, hm, fun hne => ?_⟩
 obtain ⟨b, off, ha, hcell⟩ := hc (by intro e; rw [e] at hlen; simp at hlen; exact hne (List.eq_nil_of_length_eq_zero hlen.symm))
 refine ⟨b, off, ha, fun i hi => ?_⟩
 obtain ⟨c, hci, htm⟩ := h2.get i hi
 obtain ⟨s, hs, hsub⟩ := htm.open
 have hx := (hcell i c hci).2
 subst hs
 exact ⟨s, by simpa using hx 0 _ rfl, hx 1 _ rfl, hx 2 _ rfl, hsub⟩
theorem TmC.shut {w : World} {t : Tm} {s : Value} (h : TmS K w s t.sub) : TmC K w t [.int .i64 t.kind, .int .i64 t.num, s] := by
 cases t; exact TmC.iff.2 ⟨s, rfl, h⟩
theorem csub_at {w wr : World} {a : Option Addr} {cap : Nat} {ts : List Tm} (h : TmS K w (.slice a ts.length cap) ts) (hb : Below w.heap.size w wr) (k : Nat) (hlt : k < ts.length) :
  ∃ b off a' cap', a = some ⟨b, off, none⟩ ∧ wr.cell? ⟨b, off + k * 3, none⟩ = some (.int .i64 ts[k].kind) ∧ wr.cell? ⟨b, off + k * 3 + 1, none⟩ = some (.int .i64 ts[k].num) ∧
   wr.cell? ⟨b, off + k * 3 + 2, none⟩ = some (.slice a' ts[k].sub.length cap') ∧ TmC K wr ts[k] [.int .i64 ts[k].kind, .int .i64 ts[k].num, .slice a' ts[k].sub.length cap'] := by
 obtain ⟨a0, c0, hv, _, _, hget⟩ := h.open
 simp only [Value.slice.injEq] at hv
 obtain ⟨rfl, _, rfl⟩ := hv
 obtain ⟨b, off, rfl, hgg⟩ := hget (by intro e; rw [e] at hlt; simp at hlt)
 obtain ⟨sv, c0, c1, c2, hsv⟩ := hgg k hlt
 obtain ⟨a', cap', rfl, -⟩ := hsv.open
 refine ⟨b, off, a', cap', rfl, ?_, ?_, ?_, (TmC.shut hsv).later hb⟩
 ·exact (hb.cell (World.block_lt_of_cell? w _ c0)).trans c0
 ·exact (hb.cell (World.block_lt_of_cell? w _ c1)).trans c1
 ·exact (hb.cell (World.block_lt_of_cell? w _ c2)).trans c2
theorem Qff {w : World} {t : Tm} {cs : List Value} (h : TmC K w t cs) : ∃ a cap, cs = [.int .i64 t.kind, .int .i64 t.num, .slice a t.sub.length cap] ∧ TmS K w (.slice a t.sub.length cap) t.sub ∧ t.sub.length ≤ 9223372036854775807 := by
 obtain ⟨s, rfl, hs⟩ := h.open
 obtain ⟨a, cap, rfl, h1, h2, _⟩ := hs.open
 exact ⟨a, cap, rfl, hs, by unfold maxLen at h2; omega⟩
theorem own_litN {w : World} {xs : List Value} {n size : Nat} (e : TypeId) (hn : xs.length = n * size) (hm : n ≤ maxLen) :
  (w.alloc (.cells xs.toArray e)).ownsRow w.heap.size e size (.slice (some ⟨w.heap.size, 0, none⟩) n n) n xs :=
 ⟨hn, .inr ⟨w.heap.size, n, xs.toArray, rfl, Nat.le_refl _, heap_alloc_new w _, Nat.le_refl _, hm, by simp; omega, by rw [← hn]; simp⟩⟩
theorem info24 : (Try.prog.info? 30).map (fun i => (i.zero, i.size, i.bytes)) = some (some (.agg #[.int .i64 0, .int .i64 0, .slice none 0 0]), 3, 40) := by kernel_rfl
theorem Qej (w : World) (B k : Nat) (u v x : Value) (h : k ≠ B) : (((w.setCell ⟨B, 0, none⟩ u).setCell ⟨B, 1, none⟩ v).setCell ⟨B, 2, none⟩ x).heap[k]? = w.heap[k]? := by
 rw [Below.heap_setCell _ _ _ _ h, Below.heap_setCell _ _ _ _ h, Below.heap_setCell _ _ _ _ h]
theorem Qdy {B0 B : Nat} {w0 w : World} (h : Below B0 w0 w) (hB : B0 ≤ B) (u v x : Value) : Below B0 w0 (((w.setCell ⟨B, 0, none⟩ u).setCell ⟨B, 1, none⟩ v).setCell ⟨B, 2, none⟩ x) :=
 ((h.setCell hB _).setCell hB _).setCell hB _
def SlF (S : Nat → Prop) (w : World) (sz : Nat) (v : Value) (css : List (List Value)) : Prop :=
 ∃ a cap, v = .slice a css.length cap ∧ css.length ≤ cap ∧ cap ≤ maxLen ∧ (css ≠ [] → ∃ b off, a = some ⟨b, off, none⟩ ∧ S b ∧ ∀ i c, css[i]? = some c → c.length = sz ∧ ∀ j x, c[j]? = some x → w.cell? ⟨b, off + i * sz + j, none⟩ = some x)
mutual
def TmF (S : Nat → Prop) (w : World) : Tm → List Value → Prop
 | .mk k n sub, cs => ∃ s css, cs = [.int .i64 k, .int .i64 n, s] ∧ SlF S w 3 s css ∧ TmFs S w sub css
def TmFs (S : Nat → Prop) (w : World) : List Tm → List (List Value) → Prop
 | [], css => css = []
 | t :: ts, css => ∃ c cr, css = c :: cr ∧ TmF S w t c ∧ TmFs S w ts cr
end
theorem TmFs.length {S : Nat → Prop} {w : World} : ∀ {ts : List Tm} {css : List (List Value)}, TmFs S w ts css → css.length = ts.length := by
 intro ts
 induction ts with
 | nil => intro css h; simp only [TmFs] at h; subst h; rfl
 | cons t ts ih => intro css h; simp only [TmFs] at h; obtain ⟨c, cr, rfl, _, h2⟩ := h; simp [ih h2]
theorem TmF.three {S : Nat → Prop} {w : World} {t : Tm} {cs : List Value} (h : TmF S w t cs) : cs.length = 3 := by
 cases t; simp only [TmF] at h; obtain ⟨s, css, rfl, _⟩ := h; rfl
theorem TmFs.three {S : Nat → Prop} {w : World} : ∀ {ts : List Tm} {css : List (List Value)}, TmFs S w ts css → ∀ c ∈ css, c.length = 3 := by
  intro ts
  induction ts with
  | nil => intro css h c hc; simp only [TmFs] at h; subst h; cases hc
  | cons t ts ih =>
    intro css h c hc
    simp only [TmFs] at h
    obtain ⟨c0, cr, rfl, h1, h2⟩ := h
    cases hc with
    | head => exact h1.three
    | tail _ hm => exact ih h2 c hm
def Box3 (w : World) (B : Nat) (x y z : Value) : Prop := w.heap[B]? = some (.cells #[x, y, z] 30)
theorem Box3.new (w : World) (x y z : Value) : Box3 (w.alloc (.cells #[x, y, z] 30)) w.heap.size x y z := heap_alloc_new w _
theorem Box3.later {w w' : World} {B n : Nat} {x y z : Value} (h : Box3 w B x y z) (hb : Below n w w') (hB : B < n) : Box3 w' B x y z := (hb.block _ hB).trans h
theorem Box3.cells {w : World} {B : Nat} {x y z : Value} (h : Box3 w B x y z) : w.cell? ⟨B, 0, none⟩ = some x ∧ w.cell? ⟨B, 1, none⟩ = some y ∧ w.cell? ⟨B, 2, none⟩ = some z := by
 unfold Box3 at h
 refine ⟨?_, ?_, ?_⟩ <;> · rw [cell_of_row w B _ _ _ _ h]; rfl
theorem Box3.free {w : World} {B : Nat} {x y z : Value} (h : Box3 w B x y z) (i : Nat) : w.frozen? ⟨B, i, none⟩ = false := by
 unfold Box3 at h
 unfold World.frozen?; rw [h]; simp
theorem Box3.set {w : World} {B : Nat} {x y z : Value} (h : Box3 w B x y z) (u v t : Value) : Box3 (((w.setCell ⟨B, 0, none⟩ u).setCell ⟨B, 1, none⟩ v).setCell ⟨B, 2, none⟩ t) B u v t := by
 exact set_block (set_block (set_block h 0 u) 1 v) 2 t
theorem flat_set (y0 y1 y2 : Value) : ∀ (ds : List (List Value)) (k : Nat), (∀ c ∈ ds, c.length = 3) → k < ds.length → (ds.set k [y0, y1, y2]).flatten = ((ds.flatten.set (k * 3) y0).set (k * 3 + 1) y1).set (k * 3 + 2) y2 := by
  intro ds
  induction ds with
  | nil => intro k _ hk; simp at hk
  | cons c cr ih =>
    intro k h3 hk
    have hc := h3 c (by simp)
    match c, hc with
    | [a, b, d], _ =>
      cases k with
      | zero => simp
      | succ k =>
        have := ih k (fun c hc => h3 c (by simp [hc])) (by simpa using hk)
        simp only [List.set_cons_succ, List.flatten_cons, List.cons_append, List.nil_append]
        rw [this, show (k + 1) * 3 = k * 3 + 1 + 1 + 1 by omega]
        simp only [List.set_cons_succ, show k * 3 + 1 + 1 + 1 + 1 = (k * 3 + 1) + 1 + 1 + 1 from rfl, show k * 3 + 1 + 1 + 1 + 2 = (k * 3 + 2) + 1 + 1 + 1 from rfl]
theorem Qfs {w : World} {B : Nat} {c : Array Value} {e : TypeId} {fr : Nat × Nat} (h : w.heap[B]? = some (.cells c e fr)) (i : Nat) (u : Value) : (w.setCell ⟨B, i, none⟩ u).heap[B]? = some (.cells (c.setIfInBounds i u) e fr) := by
 unfold World.setCell
 simp [Array.getElem?_modify, h]
theorem row_set {w : World} {base : Nat} {g n cap : Nat} {ds : List (List Value)} (h : w.ownsRow base 30 3 (.slice (some ⟨g, 0, none⟩) n cap) n ds.flatten) (hn : ds.length = n) (h3 : ∀ c ∈ ds, c.length = 3) (k : Nat) (hk : k < n) (y0 y1 y2 : Value) :
  (((w.setCell ⟨g, k * 3, none⟩ y0).setCell ⟨g, k * 3 + 1, none⟩ y1).setCell ⟨g, k * 3 + 2, none⟩ y2).ownsRow base 30 3 (.slice (some ⟨g, 0, none⟩) n cap) n (ds.set k [y0, y1, y2]).flatten := by
 obtain ⟨h0, h1⟩ := h
 have hfl := flat_set y0 y1 y2 ds k h3 (by omega)
 refine ⟨by rw [hfl]; simpa using h0, .inr ?_⟩
 rcases h1 with ⟨h1, _⟩ | ⟨g', cap', cur, hv, hg, hh, hnc, hc, hsz, htk⟩
 ·cases h1
 ·simp only [Value.slice.injEq, Option.some.injEq, Addr.mk.injEq, and_true, true_and] at hv
  obtain ⟨rfl, rfl⟩ := hv
  refine ⟨g, cap, _, rfl, hg, Qfs (Qfs (Qfs hh (k * 3) y0) (k * 3 + 1) y1) (k * 3 + 2) y2, hnc, hc, by simpa using hsz, ?_⟩
  rw [hfl, ← htk]
  simp [List.take_set]
theorem row_drew {w : World} {base e sz n : Nat} {v : Value} {xs : List Value} (h : w.ownsRow base e sz v n xs) : w.drew.ownsRow base e sz v n xs := h
def Cs3 (c : List Value) : Prop := ∃ (k n : Int) (a : Option Addr) (len cap : Nat), c = [.int .i64 k, .int .i64 n, .slice a len cap]
theorem Cs3.three {c : List Value} (h : Cs3 c) : c.length = 3 := by obtain ⟨_, _, _, _, _, rfl⟩ := h; rfl
theorem reverse_any (base : Nat) (v : Value) (css : List (List Value)) (w : World) (hown : w.ownsRow base 30 3 v css.length css.flatten) (h3 : ∀ c ∈ css, Cs3 c) :
  Calls Try.prog 47 #[v] w fun e w' => e = .returned (.tuple #[]) ∧ w'.ownsRow base 30 3 v css.length css.reverse.flatten ∧ Below base w w' := by
 obtain ⟨a, cap, rfl, hll⟩ : ∃ a cap, v = .slice a css.length cap ∧ css.length ≤ 9223372036854775807 := by
  rcases hown.2 with ⟨h1, h2⟩ | ⟨g, cap, cur, hv, _, _, h1, h2, _⟩
  ·exact ⟨none, 0, by rw [h1, h2], by omega⟩
  ·exact ⟨_, cap, hv, by unfold maxLen at h2; omega⟩
 have HO := Hh hown
 have H3 := Hh h3
 clear hown h3
 go_enter Try.func47, Try.ntmps47
 go_wp2_with fail
 go_loopw [2, 3] (fun i j wr => ∃ (k : Nat) (ds : List (List Value)), i = .int .i64 k ∧ j = .int .i64 ((css.length : Int) - 1 - k) ∧ 2 * k ≤ css.length ∧ Hid (ds.length = css.length) ∧ Hid (∀ c ∈ ds, Cs3 c) ∧ Hid (wr.ownsRow base 30 3 (.slice a css.length cap) css.length ds.flatten) ∧ Hid (∀ m, m < css.length → ds[m]? = if m < k ∨ css.length - k ≤ m then css[css.length - 1 - m]? else css[m]?) ∧ Hid (Below base w wr)) (fun i _ _ => css.length - (intOf i).toNat)
 case atStart =>
  exact ⟨0, css, rfl, by simp, by omega, rfl, H3.out, HO.out, (fun m hm => by rw [if_neg (by omega)]), Below.refl _ _⟩
 case round =>
  obtain ⟨k, ds, rfl, rfl, hk, hdl, hd3, hown, hds, hbel⟩ := hrel
  by_cases hlt : (k : Int) < (css.length : Int) - 1 - k
  ·obtain ⟨m, hm⟩ : ∃ m : Nat, (css.length : Int) - 1 - k = m := ⟨css.length - 1 - k, by omega⟩
   have hmn : k + m + 1 = css.length := by omega
   obtain ⟨g, rfl, hgb⟩ : ∃ g, a = some ⟨g, 0, none⟩ ∧ base ≤ g := by
    rcases hown.out.2 with ⟨h1, h2⟩ | ⟨g, cap', cur, hv, h1, _⟩
    ·omega
    ·simp only [Value.slice.injEq] at hv
     exact ⟨g, hv.1, h1⟩
   obtain ⟨x0, x1, x2, xl, xc, hx⟩ := (hd3.out _ (List.getElem_mem (l := ds) (n := k) (by have := hdl.out; omega)))
   obtain ⟨y0, y1, y2, yl, yc, hy⟩ := (hd3.out _ (List.getElem_mem (l := ds) (n := m) (by have := hdl.out; omega)))
   have hsl := SlN.own hown.out hdl.out (fun c hc => (hd3.out c hc).three)
   have hcellk : ∀ (i : Nat) (hi : i < ds.length) (x0 x1 x2 : Value), ds[i] = [x0, x1, x2] → wr.cell? ⟨g, i * 3, none⟩ = some x0 ∧ wr.cell? ⟨g, i * 3 + 1, none⟩ = some x1 ∧ wr.cell? ⟨g, i * 3 + 2, none⟩ = some x2 := by
    intro i hi x0 x1 x2 he
    obtain ⟨a', cap', hv, _, _, hc⟩ := hsl
    simp only [Value.slice.injEq] at hv
    obtain ⟨b, off, hb, hcc⟩ := hc (by intro e; rw [e] at hi; simp at hi)
    rw [← hv.1] at hb
    simp only [Option.some.injEq, Addr.mk.injEq, and_true] at hb
    obtain ⟨rfl, rfl⟩ := hb
    have := (hcc i _ (by rw [List.getElem?_eq_getElem hi, he])).2
    have h0 := this 0 x0 rfl
    have h1 := this 1 x1 rfl
    have h2 := this 2 x2 rfl
    simp at h0 h1 h2
    exact ⟨h0, h1, h2⟩
   obtain ⟨c0, c1, c2⟩ := hcellk k (by have := hdl.out; omega) _ _ _ hx
   obtain ⟨d0, d1, d2⟩ := hcellk m (by have := hdl.out; omega) _ _ _ hy
   have hfr : ∀ i, wr.frozen? ⟨g, i, none⟩ = false := by
    intro i
    rcases hown.out.2 with ⟨h1, h2⟩ | ⟨g', cap', cur, hv, h1, hh, _⟩
    ·cases h1
    ·simp only [Value.slice.injEq, Option.some.injEq, Addr.mk.injEq, and_true] at hv
     obtain ⟨rfl, _⟩ := hv
     unfold World.frozen?; rw [hh]; simp
   have f0 := hfr (k * 3)
   have f1 := hfr (k * 3 + 1)
   have f2 := hfr (k * 3 + 2)
   have g0 := hfr (m * 3)
   have g1 := hfr (m * 3 + 1)
   have g2 := hfr (m * 3 + 2)
   have b0 : (0:Int) ≤ k := by omega
   have b1 : (0:Int) ≤ m := by omega
   have b2 : (k:Int) < css.length := by omega
   have b3 : (m:Int) < css.length := by omega
   have hkm : (k : Int) < m := by omega
   rw [hm]
   have F0 : wr.drew.frozen? ⟨g, k * 3, none⟩ = false := f0
   have F1 : wr.drew.frozen? ⟨g, k * 3 + 1, none⟩ = false := f1
   have F2 : wr.drew.frozen? ⟨g, k * 3 + 2, none⟩ = false := f2
   have G0 : wr.drew.frozen? ⟨g, m * 3, none⟩ = false := g0
   have G1 : wr.drew.frozen? ⟨g, m * 3 + 1, none⟩ = false := g1
   have G2 : wr.drew.frozen? ⟨g, m * 3 + 2, none⟩ = false := g2
   have C0 : wr.drew.cell? ⟨g, k * 3, none⟩ = some (.int .i64 x0) := c0
   have C1 : wr.drew.cell? ⟨g, k * 3 + 1, none⟩ = some (.int .i64 x1) := c1
   have C2 : wr.drew.cell? ⟨g, k * 3 + 2, none⟩ = some (.slice x2 xl xc) := c2
   clear hlt hcellk hfr hsl
   go_wp2_with fail
   go_region
   have hdl' := hdl.out
   have r1 := row_set hown.out hdl' (fun c hc => (hd3.out c hc).three) k (by omega) (.int .i64 y0) (.int .i64 y1) (.slice y2 yl yc)
   have r2 := row_set r1 (by simpa using hdl') (fun c hc => by
    rcases List.mem_or_eq_of_mem_set hc with h | h
    ·exact (hd3.out c h).three
    ·rw [h]; rfl) m (by omega) (.int .i64 x0) (.int .i64 x1) (.slice x2 xl xc)
   have hF : Hid (Below base w (((((((wr.setCell ⟨g, k * 3, none⟩ (.int .i64 y0)).setCell ⟨g, k * 3 + 1, none⟩ (.int .i64 y1)).setCell ⟨g, k * 3 + 2, none⟩ (.slice y2 yl yc)).setCell ⟨g, m * 3, none⟩ (.int .i64 x0)).setCell ⟨g, m * 3 + 1, none⟩ (.int .i64 x1)).setCell ⟨g, m * 3 + 2, none⟩ (.slice x2 xl xc)).drew)) :=
    ((((((hbel.out.setCell (p := ⟨g, k * 3, none⟩) hgb _).setCell (p := ⟨g, k * 3 + 1, none⟩) hgb _).setCell (p := ⟨g, k * 3 + 2, none⟩) hgb _).setCell (p := ⟨g, m * 3, none⟩) hgb _).setCell (p := ⟨g, m * 3 + 1, none⟩) hgb _).setCell (p := ⟨g, m * 3 + 2, none⟩) hgb _).drew
   have hR : Hid (((((((wr.setCell ⟨g, k * 3, none⟩ (.int .i64 y0)).setCell ⟨g, k * 3 + 1, none⟩ (.int .i64 y1)).setCell ⟨g, k * 3 + 2, none⟩ (.slice y2 yl yc)).setCell ⟨g, m * 3, none⟩ (.int .i64 x0)).setCell ⟨g, m * 3 + 1, none⟩ (.int .i64 x1)).setCell ⟨g, m * 3 + 2, none⟩ (.slice x2 xl xc)).drew.ownsRow base 30 3 (.slice (some ⟨g, 0, none⟩) css.length cap) css.length ((ds.set k [.int .i64 y0, .int .i64 y1, .slice y2 yl yc]).set m [.int .i64 x0, .int .i64 x1, .slice x2 xl xc]).flatten) := row_drew r2
   have hnew : Hid (∀ i, i < css.length → ((ds.set k [.int .i64 y0, .int .i64 y1, .slice y2 yl yc]).set m [.int .i64 x0, .int .i64 x1, .slice x2 xl xc])[i]? = if i < k + 1 ∨ css.length - (k + 1) ≤ i then css[css.length - 1 - i]? else css[i]?) := by
    intro i hi
    have ek := hds.out k (by omega)
    have em := hds.out m (by omega)
    rw [if_neg (by omega), List.getElem?_eq_getElem (by omega), hx] at ek
    rw [if_neg (by omega), List.getElem?_eq_getElem (by omega), hy] at em
    by_cases h1 : i = m
    ·subst h1
     rw [List.getElem?_set_self (by simp; omega), if_pos (by omega), show css.length - 1 - i = k by omega]; exact ek
    ·rw [List.getElem?_set_ne (by omega)]
     by_cases h2 : i = k
     ·subst h2
      rw [List.getElem?_set_self (by omega), if_pos (by omega), show css.length - 1 - i = m by omega]; exact em
     ·rw [List.getElem?_set_ne (by omega), hds.out i hi]
      by_cases h3 : i < k ∨ css.length - k ≤ i
      ·rw [if_pos h3, if_pos (by omega)]
      ·rw [if_neg h3, if_neg (by omega)]
   have hl2 : Hid (((ds.set k [.int .i64 y0, .int .i64 y1, .slice y2 yl yc]).set m [.int .i64 x0, .int .i64 x1, .slice x2 xl xc]).length = css.length) := by show _ = _; simpa using hdl'
   have h32 : Hid (∀ c ∈ ((ds.set k [.int .i64 y0, .int .i64 y1, .slice y2 yl yc]).set m [.int .i64 x0, .int .i64 x1, .slice x2 xl xc]), Cs3 c) := by
    intro c hc
    rcases List.mem_or_eq_of_mem_set hc with h | h
    ·rcases List.mem_or_eq_of_mem_set h with h | h
     ·exact hd3.out c h
     ·exact ⟨_, _, _, _, _, h⟩
    ·exact ⟨_, _, _, _, _, h⟩
   clear r1 r2 c0 c1 c2 d0 d1 d2 f0 f1 f2 g0 g1 g2 F0 F1 F2 G0 G1 G2 C0 C1 C2 hx hy hown hds hbel hd3 hdl
   go_wp2_with fail
   go_roundw
   case rel => exact ⟨k + 1, _, by simp, by simp; omega, by omega, hl2, h32, hR, hnew, hF⟩
   case measure => simp [intOf]; omega
  ·go_wp2_with fail
   exact bodyPost_end (v := .tuple #[]) (by simp [results, Try.results47, go_sem]) rfl ⟨rfl, by
    have e : ds = css.reverse := by
     apply List.ext_getElem?
     intro i
     by_cases hi : i < css.length
     ·rw [hds.out i hi, List.getElem?_reverse hi]
      by_cases hc : i < k ∨ css.length - k ≤ i
      ·rw [if_pos hc]
      ·rw [if_neg hc, show css.length - 1 - i = i by omega]
     ·rw [List.getElem?_eq_none (by have := hdl.out; omega), List.getElem?_eq_none (by simp; omega)]
    rw [← e]; exact hown.out, hbel.out⟩
theorem tmc_cs3 {w : World} {t : Tm} {c : List Value} (h : TmC K w t c) : Cs3 c := by
 obtain ⟨a, cap, rfl, _⟩ := Qff h
 exact ⟨_, _, _, _, _, rfl⟩
theorem tmcs_cs3 {w : World} : ∀ {ts : List Tm} {css : List (List Value)}, TmCs K w ts css → ∀ c ∈ css, Cs3 c := by
  intro ts
  induction ts with
  | nil => intro css h c hc; simp only [TmCs] at h; subst h; cases hc
  | cons t ts ih =>
    intro css h c hc
    simp only [TmCs] at h
    obtain ⟨c0, cr, rfl, h1, h2⟩ := h
    cases hc with
    | head => exact tmc_cs3 h1
    | tail _ hm => exact ih h2 c hm
theorem TmCs.snoc {w : World} {t : Tm} {c : List Value} (hc : TmC K w t c) : ∀ {ts : List Tm} {css : List (List Value)}, TmCs K w ts css → TmCs K w (ts ++ [t]) (css ++ [c]) := by
 intro ts
 induction ts with
 | nil => intro css h; simp only [TmCs] at h; subst h; simp only [List.nil_append, TmCs]; exact ⟨_, _, rfl, hc, rfl⟩
 | cons t' ts ih => intro css h; simp only [TmCs] at h; obtain ⟨c', cr, rfl, h1, h2⟩ := h; simp only [List.cons_append, TmCs]; exact ⟨_, _, rfl, h1, ih h2⟩
theorem own_sh3 {w : World} {base e : Nat} {v : Value} {n : Nat} {xs : List Value} (h : w.ownsRow base e 3 v n xs) (hn : 0 < n) : ∃ g cap, v = .slice (some ⟨g, 0, none⟩) n cap := by
 rcases h.2 with ⟨_, h0⟩ | ⟨g, cap, cur, hv, _⟩
 ·omega
 ·exact ⟨g, cap, hv⟩
theorem cown_move {w w' : World} {base e sz n : Nat} {v : Value} {xs : List Value} (h : w.ownsRow base e sz v n xs) (hm : ∀ b, base ≤ b → w'.heap[b]? = w.heap[b]?) : w'.ownsRow base e sz v n xs := by
 refine ⟨h.1, ?_⟩
 rcases h.2 with h2 | ⟨g, cap, cur, hv, hg, hh, r⟩
 ·exact .inl h2
 ·exact .inr ⟨g, cap, cur, hv, hg, (hm g hg).trans hh, r⟩
theorem TmCs.rev {w : World} : ∀ {ts : List Tm} {css : List (List Value)}, TmCs K w ts css → TmCs K w ts.reverse css.reverse := by
 intro ts
 induction ts with
 | nil => intro css h; simp only [TmCs] at h; subst h; simp only [List.reverse_nil, TmCs]
 | cons t' ts ih => intro css h; simp only [TmCs] at h; obtain ⟨c', cr, rfl, h1, h2⟩ := h; rw [List.reverse_cons, List.reverse_cons]; exact TmCs.snoc h1 (ih h2)
theorem spine_any (t : Tm) (cs : List Value) (w : World) (hKn : ∀ b o, w.heap.size ≤ b → K b o) (hs : Qad t = true) (ht : TmC K w t cs) :
  Calls Try.prog 32 #[.agg cs.toArray] w fun e w' => ∃ (h : Tm) (l : List Tm) (k n : Int) (a : Option Addr) (len cap : Nat) (al : Option Addr) (cl : Nat), e = .returned (.tuple #[.agg #[.int .i64 k, .int .i64 n, .slice a len cap], .slice al l.length cl]) ∧
   h.kind ≠ 5 ∧ Qbe h l = t ∧ TmC K w' h [.int .i64 k, .int .i64 n, .slice a len cap] ∧ TmS K w' (.slice al l.length cl) l ∧ Below w.heap.size w w' := by
 obtain ⟨i0, hi, hz0, hz1, hz2⟩ := info_parts info24
 have HKN := Hh hKn
 clear hKn
 have ht0 := ht
 obtain ⟨a, cap, rfl, hsub, hlen⟩ := Qff ht
 have HS := Hh hs
 have HG : Hid (Qac t = true) := by
  simp only [Qad, Bool.and_eq_true] at hs
  exact hs.2
 clear hs ht hsub
 let W3 := ((w.alloc (.cells #[.int .i64 t.kind, .int .i64 t.num, .slice a t.sub.length cap] 30)).alloc (.cells #[.int .i64 0, .int .i64 0, .slice none 0 0] 30)).alloc (.cells #[.int .i64 t.kind, .int .i64 t.num, .slice a t.sub.length cap] 30)
 have BX0 : Hid (Box3 W3 (w.heap.size + 1 + 1) (.int .i64 t.kind) (.int .i64 t.num) (.slice a t.sub.length cap)) := by
  have h := Box3.new ((w.alloc (.cells #[.int .i64 t.kind, .int .i64 t.num, .slice a t.sub.length cap] 30)).alloc (.cells #[.int .i64 0, .int .i64 0, .slice none 0 0] 30)) (.int .i64 t.kind) (.int .i64 t.num) (.slice a t.sub.length cap)
  simp at h
  exact h
 have BX1 : Hid (Box3 W3 (w.heap.size + 1) (.int .i64 0) (.int .i64 0) (.slice none 0 0)) := by
  have h := Box3.new (w.alloc (.cells #[.int .i64 t.kind, .int .i64 t.num, .slice a t.sub.length cap] 30)) (.int .i64 0) (.int .i64 0) (.slice none 0 0)
  have h2 := h.later ((Below.refl _ _).alloc (Nat.le_refl _) (.cells #[.int .i64 t.kind, .int .i64 t.num, .slice a t.sub.length cap] 30)) (by simp)
  simp at h2
  exact h2
 have hd : Hid (Below w.heap.size w W3) := (((Below.refl _ _).alloc (Nat.le_refl _) _).alloc (by simp) _).alloc (by simp; omega) _
 have HT := Hh ht0
 clear ht0
 go_enter Try.func32, Try.ntmps32
 go_wp2_with fail
 go_loopg [4] 129 (fun g v wr => ∃ (x : Tm) (xs : List Tm) (css : List (List Value)) (k n : Int) (a : Option Addr) (len cap : Nat) (av : Option Addr) (cv : Nat), v = .slice av xs.length cv ∧ g + xs.length = 129 ∧ Hid (Qbe x xs.reverse = t) ∧ Hid (Qac x = true) ∧ Hid (TmC K w x [.int .i64 k, .int .i64 n, .slice a len cap]) ∧ Hid (TmCs K w xs css) ∧
   Hid (wr.ownsRow (w.heap.size + 3) 30 3 (.slice av xs.length cv) xs.length css.flatten) ∧ Box3 wr (w.heap.size + 1 + 1) (.int .i64 k) (.int .i64 n) (.slice a len cap) ∧ Hid (Box3 wr (w.heap.size + 1) (.int .i64 0) (.int .i64 0) (.slice none 0 0)) ∧ Hid (Below w.heap.size w wr) ∧ w.heap.size + 3 ≤ wr.heap.size)
 case atStart =>
  refine ⟨t, [], [], _, _, _, _, _, none, 0, rfl, rfl, rfl, HG.out, HT.out, ?_, ?_, BX0.out, BX1.out, hd.out, by simp⟩
  ·show TmCs K w [] []
   simp only [TmCs]
  ·exact ⟨rfl, .inl ⟨rfl, rfl⟩⟩
 case round =>
  obtain ⟨x, xs, css, k, n, a1, len, cap1, av, cv, rfl, hg, HA, HGX, HX, HXS, hown, BX, BR, hbel, hlo⟩ := hrel
  obtain ⟨c0, c1, c2⟩ := BX.cells
  obtain ⟨ax, capx, hex, hsubx, hlx⟩ := Qff HX.out
  simp only [List.cons.injEq, Value.int.injEq, true_and, and_true, Value.slice.injEq] at hex
  obtain ⟨rfl, rfl, rfl, rfl, rfl⟩ := hex
  by_cases h5 : x.kind = 5
  ·obtain ⟨y, b, rfl, hgy, hgb⟩ := good_app HGX.out h5
   clear h5
   simp only [Tm.kind, Tm.num, Tm.sub, List.length_cons, List.length_nil, Nat.zero_add, Nat.reduceAdd] at c0 c1 c2 HX BX hsubx hlx
   obtain ⟨bb, off, a', cap', rfl, e0, e1, e2, hty⟩ := csub_at (ts := [y, b]) hsubx (Below.refl _ _) 0 (by simp)
   obtain ⟨bb', off', a'', cap'', hbb, j0, j1, j2, htb⟩ := csub_at (ts := [y, b]) hsubx (Below.refl _ _) 1 (by simp)
   simp only [Option.some.injEq, Addr.mk.injEq, and_true] at hbb
   obtain ⟨rfl, rfl⟩ := hbb
   have hbl : bb < w.heap.size := World.block_lt_of_cell? w _ e0
   simp only [List.getElem_cons_zero, List.getElem_cons_succ] at hty htb e0 e1 e2 j0 j1 j2
   have mvc : Hid (∀ wz, Below w.heap.size w wz → wz.cell? ⟨bb, off, none⟩ = some (.int .i64 y.kind) ∧ wz.cell? ⟨bb, off + 1, none⟩ = some (.int .i64 y.num) ∧ wz.cell? ⟨bb, off + 2, none⟩ = some (.slice a' y.sub.length cap') ∧ wz.cell? ⟨bb, off + 3, none⟩ = some (.int .i64 b.kind) ∧ wz.cell? ⟨bb, off + 3 + 1, none⟩ = some (.int .i64 b.num) ∧ wz.cell? ⟨bb, off + 3 + 2, none⟩ = some (.slice a'' b.sub.length cap'')) := by
    intro wz hz
    simp only [Nat.zero_mul, Nat.one_mul, Nat.add_zero] at e0 e1 e2 j0 j1 j2
    exact ⟨(hz.cell hbl).trans e0, (hz.cell hbl).trans e1, (hz.cell hbl).trans e2, (hz.cell hbl).trans j0, (hz.cell hbl).trans j1, (hz.cell hbl).trans j2⟩
   clear e0 e1 e2 j0 j1 j2
   obtain ⟨-, -, -, j0, j1, j2⟩ := mvc.out wr hbel.out
   have HTY := Hh hty
   have HTB := Hh htb
   clear hty htb hsubx HX
   have hd8 : decide ((8192 : Int) ≤ xs.length) = false := by simp; omega
   have hlen1 : xs.length + 1 ≤ 127 := by
    have h1 := HA.out
    have h2 : Qbe y (b :: xs.reverse) = t := h1
    have h3 := spine_len (x := y) (l := b :: xs.reverse) (by rw [h2]; exact HS.out)
    simpa using h3
   have hsl : Hid (SlN (wr.alloc (.cells #[.int .i64 b.kind, .int .i64 b.num, .slice a'' b.sub.length cap''] 30)) 3 (.slice (some ⟨wr.heap.size, 0, none⟩) 1 1) [[.int .i64 b.kind, .int .i64 b.num, .slice a'' b.sub.length cap'']]) :=
    SlN.own (own_litN (w := wr) (xs := [.int .i64 b.kind, .int .i64 b.num, .slice a'' b.sub.length cap'']) (n := 1) (size := 3) 30 rfl (by decide)) rfl (by intro c hc; simp at hc; subst hc; rfl)
   have BXA := Hh BX
   clear BX
   go_wp2_with (at_builtin; refine Qfz rfl _ _ 28 rfl (w.heap.size + 3) 30 i0 (.agg #[.int .i64 0, .int .i64 0, .slice none 0 0]) 3 40 Try.underlying28 hi hz0 hz1 hz2 rfl (by decide) _ _ _ (hown.out.alloc _) _ _ hsl.out rfl rfl (by intro c hc u hu; simp at hc; subst hc; simp at hu; rcases hu with rfl | rfl | rfl <;> rfl) (by intro c hc; simp at hc; subst hc; rfl) (by unfold maxLen; simp; omega) (by simp; omega) (by simp; omega) ?_)
   intro v2 w2 hown2 hb2 hg2
   obtain ⟨g2, cap2, rfl⟩ := own_sh3 hown2 (by omega)
   have hbe2 : Below w.heap.size w w2 := (hbel.out.alloc (by omega) _).trans (hb2.mono (by omega))
   have hs2 := hb2.size
   have BX2 := (BXA.out.later ((Below.refl _ _).alloc (Nat.le_refl _) (.cells #[.int .i64 b.kind, .int .i64 b.num, .slice a'' b.sub.length cap''] 30)) (by omega)).later hb2 (by omega)
   have BR2 := Hh ((BR.out.later ((Below.refl _ _).alloc (Nat.le_refl _) (.cells #[.int .i64 b.kind, .int .i64 b.num, .slice a'' b.sub.length cap''] 30)) (by omega)).later hb2 (by omega))
   obtain ⟨e0, e1, e2, -, -, -⟩ := mvc.out w2 hbe2
   obtain ⟨d0, d1, d2⟩ := BX2.cells
   have g0 := BX2.free 0
   have g1 := BX2.free 1
   have g2f := BX2.free 2
   have HBX2 := Hh BX2
   have HO2 := Hh hown2
   have HBE2 := Hh hbe2
   simp at hs2
   clear BX2 hown2 hbe2 hb2 hg2 c0 c1 c2 j0 j1 j2 hown BXA hsl
   go_wp2_with fail
   go_roundg (gk - 1)
   case measure => omega
   case rel =>
    refine ⟨y, xs ++ [b], css ++ [[Value.int .i64 b.kind, Value.int .i64 b.num, Value.slice a'' b.sub.length cap'']], y.kind, y.num, a', y.sub.length, cap', some ⟨g2, 0, none⟩, cap2, by simp, by simp; omega, ?_, hgy, HTY.out, Hh (TmCs.snoc HTB.out HXS.out), ?_, HBX2.out.set _ _ _, ?_, Qdy HBE2.out (by omega) _ _ _, by simp; omega⟩
    ·have h := HA.out
     show _ = _
     rw [List.reverse_append]; exact h
    ·have h := cown_move (w' := ((w2.setCell ⟨w.heap.size + 1 + 1, 0, none⟩ (.int .i64 y.kind)).setCell ⟨w.heap.size + 1 + 1, 1, none⟩ (.int .i64 y.num)).setCell ⟨w.heap.size + 1 + 1, 2, none⟩ (.slice a' y.sub.length cap')) HO2.out (fun b hb => Qej _ _ _ _ _ _ (by omega))
     show World.ownsRow _ _ _ _ _ _ _
     rw [List.length_append, List.flatten_append]
     simpa using h
    ·show Box3 _ _ _ _ _
     unfold Box3
     rw [Qej _ _ _ _ _ _ (by omega)]
     exact BR2.out
  ·have hd5 : decide (x.kind = 5) = false := by simp [h5]
   go_wp2_with fail
   refine (reverse_any (w.heap.size + 3) _ css wr (by rw [HXS.out.length]; exact hown.out) (tmcs_cs3 HXS.out)).mono ?_
   rintro e w4 ⟨rfl, hown4, hb4⟩
   have HO4 := Hh hown4
   have BX4 := BX.later hb4 (by omega)
   have BR4 := BR.out.later hb4 (by omega)
   obtain ⟨d0, d1, d2⟩ := BX4.cells
   obtain ⟨q0, q1, q2⟩ := BR4.cells
   have f0 := BR4.free 0
   have f1 := BR4.free 1
   have f2 := BR4.free 2
   have HB4 := Hh (hbel.out.trans (hb4.mono (by omega)))
   clear BX4 BR4 c0 c1 c2 BX hown4 hb4
   go_wp2_with fail
   have HLC := HXS.out.length
   have hF := Qdy (B := w.heap.size + 1) HB4.out (by omega) (.int .i64 x.kind) (.int .i64 x.num) (.slice a1 x.sub.length cap1)
   have hO := cown_move (w' := ((w4.setCell ⟨w.heap.size + 1, 0, none⟩ (.int .i64 x.kind)).setCell ⟨w.heap.size + 1, 1, none⟩ (.int .i64 x.num)).setCell ⟨w.heap.size + 1, 2, none⟩ (.slice a1 x.sub.length cap1)) HO4.out (fun b hb => Qej _ _ _ _ _ _ (by omega))
   have hS := SlN.own hO (by simp) (fun c hc => (tmcs_cs3 HXS.out c (by simpa using hc)).three)
   refine bodyPost_ret (v := .tuple #[.agg #[.int .i64 x.kind, .int .i64 x.num, .slice a1 x.sub.length cap1], .slice av xs.length cv]) (by simp [results, Try.results32, go_sem, q0, q1, q2]) rfl ⟨x, xs.reverse, x.kind, x.num, a1, x.sub.length, cap1, av, cv, by simp, h5, HA.out, HX.out.later hF, ?_, hF⟩
   rw [List.length_reverse]
   exact ⟨css.reverse, ⟨hS, fun b off n' cap' e o _ _ => HKN.out b o (by injection e with e1 _ _; have := (hO.lt b (by rw [e1]; rfl)).1; omega)⟩, (TmCs.rev HXS.out).later hF⟩
variable {K : Nat → Nat → Prop} {w : World}
theorem Qfo {n : Int} {v : Value} (h : RelD K w (.v (.int .i64 n)) v) : v = .int .i64 n := by cases h; rfl
theorem tms_of (l : List Tm) (ih : ∀ s ∈ l, ∀ v, RelD K w (.sl (s.sub.map encD)) v → TmS K w v s.sub) (v : Value) (h : RelD K w (.sl (l.map encD)) v) : TmS K w v l := by
  generalize hr : l.map encD = rows at h
  cases h with
  | nil hc =>
    have hl : l = [] := List.map_eq_nil_iff.1 hr
    subst hl
    exact ⟨[], ⟨⟨_, _, rfl, Nat.zero_le _, hc, fun h => absurd rfl h⟩, fun b off n cap _ o h1 h2 => by simp at h2; omega⟩, by simp only [TmCs]⟩
  | @sl sz _ b off cap vals q1 q2 q3 q4 q5 =>
    have hlen : rows.length = l.length := by rw [← hr, List.length_map]
    have hrow : ∀ (i : Nat) (hi : i < l.length), rows[i]? = some (encD l[i]) := fun i hi => by rw [← hr, List.getElem?_map, List.getElem?_eq_getElem hi]; rfl
    refine ⟨(List.range l.length).map fun i => [vals i 0, vals i 1, vals i 2], ⟨⟨some ⟨b, off, none⟩, cap, by simp [hlen], by simp; omega, q2, fun hne => ⟨b, off, rfl, fun i c hic => ?_⟩⟩, fun b' off' n' cap' e o h1 h2 => ?_⟩, TmCs.mk (by simp) fun i hi => ?_⟩
    · have hil : i < l.length := by
        have := (List.getElem?_eq_some_iff.1 hic).1
        simpa using this
      rw [List.getElem?_map, List.getElem?_range hil, Option.map_some, Option.some.injEq] at hic
      subst hic
      have hsz : sz = 3 := by rw [← q3 _ (List.mem_of_getElem? (hrow i hil)), Jl]; rfl
      subst hsz
      refine ⟨rfl, fun j x hx => ?_⟩
      have h3 : ∀ d, (encD l[i])[j]? = some d → w.cell? ⟨b, off + i * 3 + j, none⟩ = some (vals i j) := fun d hd => (q4 i j _ d (hrow i hil) hd).2
      rw [Jl] at h3
      match j with
      | 0 => rw [h3 _ rfl]; exact hx
      | 1 => rw [h3 _ rfl]; exact hx
      | 2 => rw [h3 _ rfl]; exact hx
      | j + 3 => simp at hx
    · injection e with e1 _ _
      injection e1 with e1
      injection e1 with e2 e3 _
      subst e2; subst e3
      simp only [List.length_map, List.length_range] at h2
      have hil : (o - off) / 3 < l.length := by omega
      have hsz : sz = 3 := by rw [← q3 _ (List.mem_of_getElem? (hrow _ hil)), Jl]; rfl
      subst hsz
      have hk : ∀ j d, (encD l[(o - off) / 3])[j]? = some d → K b (off + (o - off) / 3 * 3 + j) := fun j d hd => (q4 _ j _ d (hrow _ hil) hd).1
      rw [Jl] at hk
      have hm : (o - off) % 3 = 0 ∨ (o - off) % 3 = 1 ∨ (o - off) % 3 = 2 := by omega
      rcases hm with hm | hm | hm
      · have := hk 0 _ rfl; rwa [show off + (o - off) / 3 * 3 + 0 = o by omega] at this
      · have := hk 1 _ rfl; rwa [show off + (o - off) / 3 * 3 + 1 = o by omega] at this
      · have := hk 2 _ rfl; rwa [show off + (o - off) / 3 * 3 + 2 = o by omega] at this
    · have h5 : ∀ j d, (encD l[i])[j]? = some d → RelD K w d (vals i j) := fun j d hd => q5 i j _ d (hrow i hi) hd
      rw [Jl] at h5
      refine ⟨[vals i 0, vals i 1, vals i 2], by rw [List.getElem?_map, List.getElem?_range hi]; rfl, ?_⟩
      rw [Qfo (h5 0 _ rfl), Qfo (h5 1 _ rfl)]
      exact TmC.shut (ih _ (List.getElem_mem hi) _ (h5 2 _ rfl))
theorem tms_rel : ∀ (t : Tm) (v : Value), RelD K w (.sl (t.sub.map encD)) v → TmS K w v t.sub := by
 refine Tm.ind ?_
 intro k n sub ih v h
 exact tms_of sub ih v h
theorem tmc_rel {J : Kp} (hK : ∀ b o, J.cell b o → K b o) {t : Tm} {v : Value} (h : RelV J w (aggD t) v) : ∃ cs : List Value, v = .agg cs.toArray ∧ TmC K w t cs := by
  unfold aggD at h
  rw [Jl] at h
  cases h with
  | @agg _ vs h1 h2 =>
    obtain ⟨vs⟩ := vs
    match vs, h1 with
    | [x, y, z], _ =>
      have e0 := h2 0 _ x rfl rfl
      have e1 := h2 1 _ y rfl rfl
      have e2 := h2 2 _ z rfl rfl
      cases e0 with
      | d e0 =>
      cases e1 with
      | d e1 =>
      cases e2 with
      | d e2 =>
      rw [Qfo e0, Qfo e1]
      exact ⟨_, rfl, TmC.shut (tms_rel t z (e2.mono fun b o h => ⟨hK b o h, rfl⟩))⟩
theorem rel_tms_of {J : Nat → Nat → Prop} (hJ : ∀ b o u, K b o → w.cell? ⟨b, o, none⟩ = some u → J b o) (l : List Tm) (ih : ∀ s ∈ l, ∀ v, TmS K w v s.sub → RelD J w (.sl (s.sub.map encD)) v) (v : Value) (h : TmS K w v l) : RelD J w (.sl (l.map encD)) v := by
 obtain ⟨css, ⟨⟨a, cap, hv, hl, hm, hc⟩, hk⟩, h2⟩ := h
 have hlen := h2.length
 by_cases hne : l = []
 ·subst hne
  have hcs : css = [] := List.eq_nil_of_length_eq_zero hlen
  subst hcs
  rw [hv]
  exact .nil hm
 ·obtain ⟨b, off, ha, hcell⟩ := hc (by intro e; rw [e] at hlen; exact hne (List.eq_nil_of_length_eq_zero hlen.symm))
  subst ha
  have key : ∀ (i : Nat) (hi : i < l.length), ∃ s, w.cell? ⟨b, off + i * 3 + 0, none⟩ = some (.int .i64 l[i].kind) ∧ w.cell? ⟨b, off + i * 3 + 1, none⟩ = some (.int .i64 l[i].num) ∧ w.cell? ⟨b, off + i * 3 + 2, none⟩ = some s ∧ TmS K w s l[i].sub := fun i hi => by
   obtain ⟨c, hci, htm⟩ := h2.get i hi
   obtain ⟨s, hs, hsub⟩ := htm.open
   have hx := (hcell i c hci).2
   subst hs
   exact ⟨s, hx 0 _ rfl, hx 1 _ rfl, hx 2 _ rfl, hsub⟩
  have hkk : ∀ (i j : Nat), i < l.length → j < 3 → K b (off + i * 3 + j) := fun i j hi hj => hk b off _ _ hv _ (by omega) (by rw [hlen]; omega)
  have hget : ∀ (i : Nat) (row : List D), (l.map encD)[i]? = some row → ∃ hi : i < l.length, row = encD l[i] := fun i row hi => by
   rw [List.getElem?_map] at hi
   obtain ⟨x, hx, rfl⟩ := Option.map_eq_some_iff.1 hi
   obtain ⟨hil, rfl⟩ := List.getElem?_eq_some_iff.1 hx
   exact ⟨hil, rfl⟩
  have hfin := RelD.sl (K := J) (w := w) (sz := 3) (rows := l.map encD) (b := b) (off := off) (cap := cap) (fun i j => (w.cell? ⟨b, off + i * 3 + j, none⟩).getD undef) (by rw [List.length_map]; omega) hm (Qdj l) (fun i j row d hi hj => by
    obtain ⟨hil, rfl⟩ := hget i row hi
    have hj3 : j < 3 := by have := (List.getElem?_eq_some_iff.1 hj).1; rw [Jl] at this; exact this
    obtain ⟨s, k0, k1, k2, _⟩ := key i hil
    match j, hj3 with
    | 0, _ => exact ⟨hJ _ _ _ (hkk i 0 hil (by decide)) k0, by rw [k0]; rfl⟩
    | 1, _ => exact ⟨hJ _ _ _ (hkk i 1 hil (by decide)) k1, by rw [k1]; rfl⟩
    | 2, _ => exact ⟨hJ _ _ _ (hkk i 2 hil (by decide)) k2, by rw [k2]; rfl⟩) fun i j row d hi hj => by
    obtain ⟨hil, rfl⟩ := hget i row hi
    have hj3 : j < 3 := by have := (List.getElem?_eq_some_iff.1 hj).1; rw [Jl] at this; exact this
    obtain ⟨s, k0, k1, k2, hs⟩ := key i hil
    rw [Jl] at hj
    match j, hj3 with
    | 0, _ => cases hj; rw [k0]; exact .v trivial
    | 1, _ => cases hj; rw [k1]; exact .v trivial
    | 2, _ => cases hj; rw [k2]; exact ih _ (List.getElem_mem hil) s hs
  rw [List.length_map] at hfin
  rw [hv, hlen]
  exact hfin
theorem rel_tms {J : Nat → Nat → Prop} (hJ : ∀ b o u, K b o → w.cell? ⟨b, o, none⟩ = some u → J b o) : ∀ (t : Tm) (v : Value), TmS K w v t.sub → RelD J w (.sl (t.sub.map encD)) v := by
 refine Tm.ind ?_
 intro k n sub ih v h
 exact rel_tms_of hJ sub ih v h
theorem rel_tmsL {J : Nat → Nat → Prop} (hJ : ∀ b o u, K b o → w.cell? ⟨b, o, none⟩ = some u → J b o) (l : List Tm) (v : Value) (h : TmS K w v l) : RelD J w (.sl (l.map encD)) v := rel_tms_of hJ l (fun s _ v h => rel_tms hJ s v h) v h
theorem rel_tmc {J : Kp} (hJ : ∀ b o u, K b o → w.cell? ⟨b, o, none⟩ = some u → J.cell b o) {t : Tm} {cs : List Value} (h : TmC K w t cs) : RelV J w (aggD t) (.agg cs.toArray) := by
 obtain ⟨s, rfl, hs⟩ := h.open
 unfold aggD
 rw [Jl]
 refine .agg rfl fun i p v hp hv => ?_
 match i with
 | 0 => cases hp; cases hv; exact .d (.v trivial)
 | 1 => cases hp; cases hv; exact .d (.v trivial)
 | 2 => cases hp; cases hv; exact .d (rel_tms hJ t s hs)
 | i + 3 => simp at hp
def Qbw : Tm → Tm × List Tm
  | .mk k n sub => match k, sub with
    | 5, [f, a] => ((Qbw f).1, (Qbw f).2 ++ [a])
    | k, sub => (.mk k n sub, [])
theorem spineT_app (n : Int) (f a : Tm) : Qbw (.mk 5 n [f, a]) = ((Qbw f).1, (Qbw f).2 ++ [a]) := by simp only [Qbw]
theorem spineT_not {t : Tm} (h : t.kind ≠ 5) : Qbw t = (t, []) := by
 obtain ⟨k, n, sub⟩ := t
 have hk : k ≠ 5 := h
 unfold Qbw
 split
 ·exact absurd rfl hk
 ·rfl
theorem spine_ok : ∀ (t : Tm), Qac t = true → Qbe (Qbw t).1 (Qbw t).2 = t ∧ (Qbw t).1.kind ≠ 5 := by
 refine Tm.ind ?_
 intro k n sub ih hg
 by_cases hk : k = 5
 ·obtain ⟨y, b, hy, h1, h2⟩ := good_app hg hk
  injection hy with e1 e2 e3
  subst e1; subst e2; subst e3
  obtain ⟨h3, h4⟩ := ih y (by simp) h1
  rw [spineT_app]
  exact ⟨by rw [Qdk, h3], h4⟩
 ·rw [spineT_not (t := .mk k n sub) hk]
  exact ⟨rfl, hk⟩
def headT (t : Tm) : Tm := (Qbw t).1
def Qby (t : Tm) : List Tm := (Qbw t).2
theorem PCalls.dataK {P : Program} {f : FuncId} {args : List PV} {r : PV} (h : ∀ (K : Kp) (w : World) (vs : Array Value), RelVs K w args vs → Calls P f vs w fun e w' => ∃ v, e = .returned v ∧ Below w.heap.size w w' ∧ ∀ K' : Kp, (∀ b o, K.cell b o → K'.cell b o) → (∀ b o u, w.heap.size ≤ b → w'.cell? ⟨b, o, none⟩ = some u → K'.cell b o) → RelV K' w' r v) : PCalls P f args [] fun p s => p = r ∧ s = [] := by
 intro F K w vs hr ha
 refine (h K w vs ha).mono ?_
 rintro e w' ⟨v, rfl, hb, hv⟩
 have hxt : Ext F K w ⟨fun b o => K.cell b o ∨ (w.heap.size ≤ b ∧ ∃ u, w'.cell? ⟨b, o, none⟩ = some u), K.box, K.own⟩ w' := Qgf hb hr.ff (fun b o h => hr.klt h) (fun _ _ h => .inl h) (fun _ _ h => h.imp id fun h => h.1) rfl rfl
 refine ⟨v, _, r, [], rfl, hxt, ⟨fun b o hc => ?_, fun b hf => by have := hr.ff b hf; have := hb.size; omega, hr.fin, hr.fi, fun e he => (by cases he), by simp, by simp⟩, hv _ (fun _ _ h => .inl h) fun b o u h1 h2 => .inr ⟨h1, u, h2⟩, rfl, rfl⟩
 rcases hc with hc | ⟨_, hc⟩
 ·obtain ⟨v, hv⟩ := hr.kc b o hc
  exact ⟨v, (hxt.kp b o (hc)).2.trans hv⟩
 ·exact hc
theorem tup2e {K : Kp} {w : World} {p q : PV} {v u : Value} (h1 : RelV K w p v) (h2 : RelV K w q u) : RelV K w (.tup [p, q]) (.tuple #[v, u]) := by
  refine .tup rfl fun i p v hp hv => ?_
  match i with
  | 0 =>
    have e1 := Option.some.inj hp
    have e2 := Option.some.inj hv
    subst e1; subst e2; exact h1
  | 1 =>
    have e1 := Option.some.inj hp
    have e2 := Option.some.inj hv
    subst e1; subst e2; exact h2
  | n + 2 => simp at hp
theorem tSpine_p (t : Tm) (hs : Qad t = true) : PCalls Try.prog 32 [aggD t] [] fun p s => p = .tup [aggD (headT t), .d (.sl ((Qby t).map encD))] ∧ s = [] := by
 refine PCalls.dataK fun J w vs ha => ?_
 obtain ⟨v, rfl, hv⟩ := ha.one
 obtain ⟨cs, rfl, ht⟩ := tmc_rel (K := fun b o => J.cell b o ∨ w.heap.size ≤ b) (fun b o h => .inl h) hv
 refine (spine_any t cs w (fun b o h => .inr h) hs ht).mono ?_
 rintro e w' ⟨h, l, k, n, a, len, cap, al, cl, rfl, h5, happ, hh, hl, hb⟩
 obtain ⟨o1, o2⟩ := spine_ok t (Qbu hs).1
 have hu := spine_uniq _ l (Qbw t).2 h (Qbw t).1 rfl h5 o2 (happ.trans o1.symm)
 refine ⟨_, rfl, hb, fun K' hK1 hK2 => ?_⟩
 have hJ : ∀ b o u, (J.cell b o ∨ w.heap.size ≤ b) → w'.cell? ⟨b, o, none⟩ = some u → K'.cell b o := fun b o u h1 h2 => h1.elim (hK1 b o) fun h3 => hK2 b o u h3 h2
 unfold headT Qby
 rw [← hu.1, ← hu.2]
 exact tup2e (rel_tmc hJ hh) (.d (rel_tmsL hJ l _ hl))
end Go.Proofs.Ytpaifjlikgnlfaa
