import Derived.Test.YtdklpbefbamchaaGreatPBG
set_option linter.unusedSimpArgs false
set_option linter.unusedVariables false
set_option maxHeartbeats 16000000
set_option maxRecDepth 100000
namespace Go.Proofs.YtdklpbefbamchaaGreat
open Go.RowKit
def plS : Option Nat → Int
 | some i => i
 | none => -1
def ixS (x : ByteArray) : List ByteArray → Nat → Option Nat
 | [], _ => none
 | y :: r, i => if (x.toList == y.toList) = true then some i else ixS x r (i + 1)
theorem ixS_some (x : ByteArray) : ∀ (l : List ByteArray) (i : Nat), (ixS x l i).isSome = l.any (fun y => x.toList == y.toList) := by
  intro l
  induction l with
  | nil => intro i; rfl
  | cons y r ih =>
    intro i
    rw [ixS, List.any_cons]
    by_cases h : (x.toList == y.toList) = true
    · rw [if_pos h, h]; rfl
    · rw [if_neg h, ih, show (x.toList == y.toList) = false by simpa using h]; rfl
theorem placeN_iff (l : List ByteArray) (s : ByteArray) : ∀ k, k ≤ l.length → (0 ≤ Qbx l s k ↔ (l.take k).any (fun y => s.toList == y.toList) = true)
  | 0, _ => by simp [Qbx]
  | k + 1, h => by
    have ih := placeN_iff l s k (by omega)
    rw [List.take_succ_eq_append_getElem (by omega), List.any_append, Bool.or_eq_true, ← ih, List.any_cons, List.any_nil, Bool.or_false]
    have hp : Qbx l s (k + 1) = if ((l.getD k s).toList == s.toList) = true then (k : Int) else Qbx l s k := rfl
    have e : l.getD k s = l[k] := by simp [List.getD_eq_getElem?_getD, List.getElem?_eq_getElem (show k < l.length by omega)]
    rw [hp, e]
    by_cases hq : (l[k].toList == s.toList) = true
    · rw [if_pos hq]
      have h2 : (s.toList == l[k].toList) = true := by rw [beq_iff_eq] at hq ⊢; exact hq.symm
      exact ⟨fun _ => .inr h2, fun _ => by omega⟩
    · rw [if_neg hq]
      have h2 : ¬ (s.toList == l[k].toList) = true := fun e2 => hq (by rw [beq_iff_eq] at e2 ⊢; exact e2.symm)
      exact ⟨.inl, fun h => h.resolve_right h2⟩
theorem hasN_any (ns : List ByteArray) (s : ByteArray) : hasN ns s = ns.any (fun y => s.toList == y.toList) := by
 unfold hasN
 rw [Bool.eq_iff_iff, decide_eq_true_iff, placeN_iff ns s ns.length (Nat.le_refl _), List.take_length]
theorem sindexS_p (l : List ByteArray) (x : ByteArray) : PCalls Tryz.prog 255 [.d (.sl (l.map encD)), .d (.v (.string x))] [] fun p s => p = .d (.v (.int .i64 (plS (ixS x l 0)))) ∧ s = [] := by
  obtain ⟨R, hR⟩ : ∃ R, R = ixS x l 0 := ⟨_, rfl⟩
  rw [← hR]
  have HR : Hid (R = ixS x (l.drop 0) 0) := hR
  clear hR
  refine PCalls.enter Tryz.func255 rfl Tryz.ntmps255 (by simp) ?_
  simp only [Qab]
  refine Qdt (t := 0) (rows := l.map encD) (by simp [PF.get] <;> rfl) rfl fun hml => ?_
  rw [List.length_map] at hml
  unfold maxLen at hml
  refine go_ ?_
  refine Qak (ι := Nat) (fun y => y ≤ l.length ∧ Hid (R = ixS x (l.drop y) y)) (fun y => [(0, .d (.sl (l.map encD))), (1, .d (.v (.string x))), (7, .d (.v (.int .i64 l.length))), (8, .d (.v (.int .i64 (y : Int))))]) (fun _ => []) (fun y => l.length - y) 0 ⟨Nat.zero_le _, HR.out⟩ ?_ ?_ ?_
  · repeat (first | exact Jt _ | refine Js (by simp [PF.get]; rfl) (by first | rfl | (simp [*]; done) | fail) ?_)
  · repeat (first | exact List.Sublist.refl _ | exact List.nil_sublist _ | refine List.Sublist.cons_cons _ ?_ | refine List.Sublist.cons _ ?_)
  · rintro j ⟨hj, hR⟩
    clear HR
    by_cases hlt : j < l.length
    · have hx := Qal hlt
      simp only [Jg] at hx
      have hc : (j : Int) < l.length := by omega
      have hn : (0 : Int) ≤ j := by omega
      have hin := wr64 (n := (j : Int) + 1) (by omega) (by omega)
      have hR2 : Hid (R = if (x.toList == l[j].toList) = true then some j else ixS x (l.drop (j + 1)) (j + 1)) := by
        rw [show R = _ from hR.out, List.drop_eq_getElem_cons hlt]; rfl
      clear hR
      cases hq : (x.toList == l[j].toList) with
      | true =>
        have hf : Hid (R = some j) := by show _ = _; rw [show R = _ from hR2.out, hq]; rfl
        clear hR2
        refine go_ ?_
        refine Jm (by simp) (by simp only [Tryz.results255]; rfl) (by simp [resP, St.box?, PF.get, Jn, TyK.agg, *]; rfl) Nl ?_
        exact ⟨by rw [hf.out]; rfl, rfl⟩
      | false =>
        have hR3 : Hid (R = ixS x (l.drop (j + 1)) (j + 1)) := by show _ = _; rw [show R = _ from hR2.out, hq]; rfl
        clear hR2
        refine go_ ?_
        exact ⟨j + 1, ⟨hlt, hR3⟩, by omega, by repeat (first | exact Jt _ | refine Js (by simp [PF.get]; rfl) (by first | rfl | (simp [*]; done) | fail) ?_), by repeat (first | exact List.Sublist.refl _ | exact List.nil_sublist _ | refine List.Sublist.cons_cons _ ?_ | refine List.Sublist.cons _ ?_)⟩
    · have hc : ¬ (j : Int) < l.length := by omega
      have hf : Hid (R = none) := by rw [show R = _ from hR.out, List.drop_of_length_le (by omega)]; rfl
      refine go_ ?_
      refine Jm (by simp) (by simp only [Tryz.results255]; rfl) (by simp [resP, St.box?, PF.get, Jn, TyK.agg, *]; rfl) Nl ?_
      exact ⟨by rw [hf.out]; rfl, rfl⟩
theorem scontainsS_p (l : List ByteArray) (x : ByteArray) : PCalls Tryz.prog 198 [.d (.sl (l.map encD)), .d (.v (.string x))] [] fun p s => p = .d (.v (.bool (hasN l x))) ∧ s = [] := by
  have hc := Lib.hid (sindexS_p l x)
  rw [hasN_any, ← ixS_some x l 0]
  generalize ixS x l 0 = o at *
  cases o with
  | some i =>
    have hi : (0 : Int) ≤ (i : Int) := by omega
    simp only [plS] at hc
    refine PCalls.enter Tryz.func198 rfl Tryz.ntmps198 (by simp) ?_
    simp only [Qab]
    refine go_ ?_
    refine Jc (hc.out) ?_
    refine go_ ?_
    refine Jm (by simp) (by simp only [Tryz.results198]; rfl) (by simp [resP, St.box?, PF.get, Jn, TyK.agg, *]; rfl) Nl ?_
    exact ⟨by simp [tupP, PV.norm2, PV.norm1, PV.norm0, *], rfl⟩
  | none =>
    simp only [plS] at hc
    refine PCalls.enter Tryz.func198 rfl Tryz.ntmps198 (by simp) ?_
    simp only [Qab]
    refine go_ ?_
    refine Jc (hc.out) ?_
    refine go_ ?_
    refine Jm (by simp) (by simp only [Tryz.results198]; rfl) (by simp [resP, St.box?, PF.get, Jn, TyK.agg, *]; rfl) Nl ?_
    exact ⟨rfl, rfl⟩
def prR (b g : Nat) (l : List En) (σ : Rs) : St := [.tok g 9 1 σ.names.length, .box b 135 [.d (.sl (l.map encD)), .own g (σ.names.map encD), .d (.v (.int .i64 σ.e)), .d (.v (.int .i64 σ.at_))]]
theorem pfail_p (b g : Nat) (l : List En) (σ : Rs) (e a : Int) : PCalls Tryz.prog 144 [.ptr b 0, .d (.v (.int .i64 e)), .d (.v (.int .i64 a))] (prR b g l σ) fun p s => p = aggD zPt ∧ s = prR b g l (σ.fail e a) := by
 unfold prR
 obtain ⟨ns, e0, a0⟩ := σ
 simp only [zPt, zTm, aggD, Qao, Jl, List.map_cons, List.map_nil, Pt.kind_mk, Pt.num_mk, Pt.at_mk, Pt.sub_mk, Pt.t_mk, Tm.kind_mk, Tm.num_mk, Tm.sub_mk]
 by_cases h : e0 = 0
 ·subst h
  have HF : Hid (Rs.fail ⟨ns, 0, a0⟩ e a = ⟨ns, e, a⟩) := by show _ = _; unfold Rs.fail; rw [if_pos rfl]
  rw [HF.out]
  clear HF
  refine PCalls.enter Tryz.func144 rfl Tryz.ntmps144 (by simp) ?_
  simp only [Qab]
  refine go_ ?_
  refine Je ?_
  intro i0 hi0
  try simp only [Ja, Rh, Rg, Jb] at hi0
  refine go_ ?_
  refine Rd ?_
  refine go_ ?_
  refine Rd ?_
  refine go_ ?_
  refine Rd ?_
  refine go_ ?_
  refine Jm (st' := (prR b g l ⟨ns, e, a⟩)) (by simp) (by simp only [Tryz.results144]; rfl) (by simp [resP, St.box?, PF.get, Jn, TyK.agg, *]; rfl) (by repeat (first | exact List.Sublist.refl _ | exact List.nil_sublist _ | refine List.Sublist.cons_cons _ ?_ | refine List.Sublist.cons _ ?_)) ?_
  exact ⟨rfl, rfl⟩
 ·have HF : Hid (Rs.fail ⟨ns, e0, a0⟩ e a = ⟨ns, e0, a0⟩) := by show _ = _; unfold Rs.fail; rw [if_neg h]
  rw [HF.out]
  have hb : (e0 == 0) = false := beq_eq_false_iff_ne.2 h
  clear HF
  refine PCalls.enter Tryz.func144 rfl Tryz.ntmps144 (by simp) ?_
  simp only [Qab]
  refine go_ ?_
  refine Je ?_
  intro i0 hi0
  try simp only [Ja, Rh, Rg, Jb] at hi0
  refine go_ ?_
  refine Rd ?_
  refine go_ ?_
  refine Jm (st' := (prR b g l ⟨ns, e0, a0⟩)) (by simp) (by simp only [Tryz.results144]; rfl) (by simp [resP, St.box?, PF.get, Jn, TyK.agg, *]; rfl) (by repeat (first | exact List.Sublist.refl _ | exact List.nil_sublist _ | refine List.Sublist.cons_cons _ ?_ | refine List.Sublist.cons _ ?_)) ?_
  exact ⟨rfl, rfl⟩
theorem var_names (s : ByteArray) (a : Int) (σ : Rs) : (varR s a σ).2.names.length ≤ σ.names.length + 1 := by
 unfold varR
 split
 ·unfold Rs.fail
  split <;> simp only <;> omega
 ·simp only [List.length_append, List.length_singleton]; omega
theorem fail_names (e a : Int) (σ : Rs) : (σ.fail e a).names = σ.names := by
 unfold Rs.fail; split <;> rfl
theorem rd_names (l : List En) : ∀ (n : Nd) (σ : Rs), (rdT l n σ).2.names.length ≤ σ.names.length + ndT n := by
  refine Nd.ind ?_
  intro k a s m sub ih σ
  have key : ∀ (r : List Nd), (∀ x ∈ r, x ∈ sub) → ∀ τ : Rs, (rdL l r τ).2.names.length ≤ τ.names.length + ndL r := by
    intro r
    induction r with
    | nil => intro _ τ; simp only [rdL, ndL]; omega
    | cons x r ihr =>
      intro hm τ
      simp only [rdL, ndL]
      have h1 := ih x (hm x (by simp)) τ
      have h2 := ihr (fun y hy => hm y (by simp [hy])) (rdT l x τ).2
      omega
  have hv := var_names
  simp only [rdT, ndT]
  split
  · have := hv lowS a σ; omega
  · split
    · simp only; omega
    · split
      · simp only; omega
      · split
        · split
          · have := key sub (fun x h => h) σ; simp only; omega
          · simp only [fail_names]; omega
        · split
          · simp only [fail_names]; omega
          · have := hv s a σ; omega
theorem rdL_names (l : List En) : ∀ (r : List Nd) (τ : Rs), (rdL l r τ).2.names.length ≤ τ.names.length + ndL r
  | [], τ => by simp only [rdL, ndL]; omega
  | x :: r, τ => by
    simp only [rdL, ndL]
    have h1 := rd_names l x τ
    have h2 := rdL_names l r (rdT l x τ).2
    omega
theorem pvar_p (b g : Nat) (l : List En) (σ : Rs) (s : ByteArray) (a : Int) (hn : σ.names.length ≤ 2000000) : PCalls Tryz.prog 140 [.ptr b 0, .d (.v (.string s)), .d (.v (.int .i64 a))] (prR b g l σ) fun p st => p = aggD (varR s a σ).1 ∧ st = prR b g l (varR s a σ).2 := by
  have hc1 := Lib.hid (scontainsS_p σ.names s)
  have hc2 := Lib.hid (pfail_p b g l σ 4 a)
  obtain ⟨P, hP⟩ : ∃ P, P = (varR s a σ).1 := ⟨_, rfl⟩
  obtain ⟨T, hT⟩ : ∃ T, T = (varR s a σ).2 := ⟨_, rfl⟩
  rw [← hP, ← hT]
  unfold varR at hP hT
  generalize hq : hasN σ.names s = q at *
  have hw1 := wr64 (n := (σ.names.length : Int)) (by omega) (by omega)
  have hw2 := wr64 (n := (σ.names.length : Int) + 1 - 1) (by omega) (by omega)
  by_cases hf : (!(s.toList == [95]) && q) = true
  · rw [if_pos hf] at hP hT
    subst hP hT
    simp only [Bool.and_eq_true, Bool.not_eq_true'] at hf
    obtain ⟨hf1, rfl⟩ := hf
    have hf2 : (s.toList != [95]) = true := by simpa using hf1
    clear hq hw1 hw2
    simp only [zPt, zTm, aggD, Qao, Jl, List.map_cons, List.map_nil, Pt.kind_mk, Pt.num_mk, Pt.at_mk, Pt.sub_mk, Pt.t_mk, Tm.kind_mk, Tm.num_mk, Tm.sub_mk, prR] at hc2 ⊢
    refine PCalls.enter Tryz.func140 rfl Tryz.ntmps140 (by simp) ?_
    simp only [Qab]
    refine go_ ?_
    refine Je ?_
    intro i0 hi0
    try simp only [Ja, Rh, Rg, Jb] at hi0
    refine go_ ?_
    refine Jr (hc1.out) ?_
    refine go_ ?_
    refine Re 1 2 (hc2.out) ?_
    rintro p st ⟨rfl, rfl⟩
    simp only [List.cons_append, List.nil_append, List.append_nil, Ja, Rh, Rg]
    refine go_ ?_
    refine Rd ?_
    refine go_ ?_
    refine Jm (st' := (prR b g l (σ.fail 4 a))) (by simp) (by simp only [Tryz.results140]; rfl) (by simp [resP, St.box?, PF.get, Jn, TyK.agg, *]; rfl) (by repeat (first | exact List.Sublist.refl _ | exact List.nil_sublist _ | refine List.Sublist.cons_cons _ ?_ | refine List.Sublist.cons _ ?_)) ?_
    exact ⟨rfl, rfl⟩
  · rw [if_neg hf] at hP hT
    subst hP hT
    simp only [zTm, aggD, Qao, Jl, List.map_cons, List.map_nil, Pt.kind_mk, Pt.num_mk, Pt.at_mk, Pt.sub_mk, Pt.t_mk, Tm.kind_mk, Tm.num_mk, Tm.sub_mk, prR]
    clear hc2 hq
    obtain ⟨ns, e0, a0⟩ := σ
    simp only at hc1 hn hw1 hw2 ⊢
    cases hu : (s.toList == [95]) with
    | true =>
      have hu2 : (s.toList != [95]) = false := by simpa using hu
      clear hf hc1
      refine PCalls.enter Tryz.func140 rfl Tryz.ntmps140 (by simp) ?_
      simp only [Qab]
      refine go_ ?_
      refine Je ?_
      intro i0 hi0
      try simp only [Ja, Rh, Rg, Jb] at hi0
      refine go_ ?_
      refine Qam ?_
      refine go_ ?_
      refine Qba (ns.length + 1) ?_ ?_ ?_ ?_
      · simp
      · exact Qil (α := ByteArray) rfl
      · exact Qbw rfl
      refine go_ ?_
      refine Rd ?_
      refine go_ ?_
      refine Rd ?_
      refine go_ ?_
      refine Jm (st' := [.tok g 9 1 (ns.length + 1), .box b 135 [.d (.sl (l.map encD)), .own g (ns.map encD ++ [[.v (.string s)]]), .d (.v (.int .i64 e0)), .d (.v (.int .i64 a0))]]) (by simp) (by simp only [Tryz.results140]; rfl) (by simp [resP, St.box?, PF.get, Jn, TyK.agg, *]; rfl) (by repeat (first | exact List.Sublist.refl _ | exact List.nil_sublist _ | refine List.Sublist.cons_cons _ ?_ | refine List.Sublist.cons _ ?_)) ?_
      exact ⟨rfl, by simp only [prR, List.map_append, List.map_cons, List.map_nil, Jg, List.length_append, List.length_singleton]⟩
    | false =>
      have hu2 : (s.toList != [95]) = true := by simpa using hu
      have hq2 : q = false := by rw [hu] at hf; simpa using hf
      subst hq2
      clear hf
      refine PCalls.enter Tryz.func140 rfl Tryz.ntmps140 (by simp) ?_
      simp only [Qab]
      refine go_ ?_
      refine Je ?_
      intro i0 hi0
      try simp only [Ja, Rh, Rg, Jb] at hi0
      refine go_ ?_
      refine Jr (hc1.out) ?_
      refine go_ ?_
      refine Qam ?_
      refine go_ ?_
      refine Qba (ns.length + 1) ?_ ?_ ?_ ?_
      · simp
      · exact Qil (α := ByteArray) rfl
      · exact Qbw rfl
      refine go_ ?_
      refine Rd ?_
      refine go_ ?_
      refine Rd ?_
      refine go_ ?_
      refine Jm (st' := [.tok g 9 1 (ns.length + 1), .box b 135 [.d (.sl (l.map encD)), .own g (ns.map encD ++ [[.v (.string s)]]), .d (.v (.int .i64 e0)), .d (.v (.int .i64 a0))]]) (by simp) (by simp only [Tryz.results140]; rfl) (by simp [resP, St.box?, PF.get, Jn, TyK.agg, *]; rfl) (by repeat (first | exact List.Sublist.refl _ | exact List.nil_sublist _ | refine List.Sublist.cons_cons _ ?_ | refine List.Sublist.cons _ ?_)) ?_
      exact ⟨rfl, by simp only [prR, List.map_append, List.map_cons, List.map_nil, Jg, List.length_append, List.length_singleton]⟩
theorem pcon_p (b g : Nat) (l : List En) (hF : formedB l = true) (c k a m : Int) (s : ByteArray) (sub : List Nd) (σ : Rs) (hb : σ.names.length + ndL sub ≤ 1000000)
  (ih : ∀ x ∈ sub, ∀ τ : Rs, τ.names.length + ndT x ≤ 1000000 → PCalls Tryz.prog 85 [.ptr b 0, aggD x] (prR b g l τ) fun p st => p = aggD (rdT l x τ).1 ∧ st = prR b g l (rdT l x τ).2) :
  PCalls Tryz.prog 143 [.ptr b 0, .d (.v (.int .i64 c)), aggD (Nd.mk k a s m sub)] (prR b g l σ) fun p st => p = aggD (if arN l c = (sub.length : Int) then Pt.mk 2 c a (rdL l sub σ).1 zTm else zPt) ∧ st = prR b g l (if arN l c = (sub.length : Int) then (rdL l sub σ).2 else σ.fail 17 a) := by
 have hA := Lib.hid (parity_p l c hF)
 have hf := Lib.hid (pfail_p b g l σ 17 a)
 have IH := Lib.hid ih
 clear ih hF
 generalize arN l c = ar at *
 by_cases h1 : ar = (sub.length : Int)
 rotate_left
 ·rw [if_neg h1, if_neg h1]
  have h1c : (ar != (sub.length : Int)) = true := bne_iff_ne.2 h1
  clear IH h1
  simp only [zPt, zTm, aggD, Qao, Jl, Jh, List.map_cons, List.map_nil, Pt.kind_mk, Pt.num_mk, Pt.at_mk, Pt.sub_mk, Pt.t_mk, Tm.kind_mk, Tm.num_mk, Tm.sub_mk, Nd.kind, Nd.at, Nd.name, Nd.num, Nd.sub, prR] at hf ⊢
  refine PCalls.enter Tryz.func143 rfl Tryz.ntmps143 (by simp) ?_
  simp only [Qab]
  refine go_ ?_
  refine Jd ?_
  intro i0 hi0
  try simp only [Ja, Rh, Rg, Jb] at hi0
  refine go_ ?_
  refine Je ?_
  intro i1 hi1
  try simp only [Ja, Rh, Rg, Jb] at hi1
  refine go_ ?_
  refine Qax [(0, .a), (1, .a), (2, .a), (3, .b), (4, .a), (5, .a), (6, .a), (7, .b), (8, .a), (9, .a)] (by kernel_rfl) (by rfl) (by kernel_rfl) ?_
  refine go_ ?_
  refine Qaa (hA.out) ?_
  refine go_ ?_
  refine Re 2 2 (hf.out) ?_
  rintro p st ⟨rfl, rfl⟩
  simp only [List.cons_append, List.nil_append, List.append_nil, Ja, Rh, Rg]
  refine go_ ?_
  refine Rd ?_
  refine go_ ?_
  refine Jm (st' := (prR b g l (σ.fail 17 a))) (by simp) (by simp only [Tryz.results143]; rfl) (by simp [resP, St.box?, PF.get, Jn, TyK.agg, *]; rfl) (by repeat (first | exact List.Sublist.refl _ | exact List.nil_sublist _ | refine List.Sublist.cons_cons _ ?_ | refine List.Sublist.cons _ ?_)) ?_
  exact ⟨rfl, rfl⟩
 rw [if_pos h1, if_pos h1]
 have h1c : (ar != (sub.length : Int)) = false := by rw [h1]; simp
 have hsl := ndL_len sub
 obtain ⟨R, hR⟩ : ∃ R, R = rdL l sub σ := ⟨_, rfl⟩
 rw [← hR]
 have HR : Hid (R = ([] ++ (rdL l (sub.drop 0) σ).1, (rdL l (sub.drop 0) σ).2)) := by show _ = _; rw [hR]; rfl
 clear hR hf h1
 simp only [zTm, aggD, Qao, Jl, Jh, List.map_cons, List.map_nil, Pt.kind_mk, Pt.num_mk, Pt.at_mk, Pt.sub_mk, Pt.t_mk, Tm.kind_mk, Tm.num_mk, Tm.sub_mk, Nd.kind, Nd.at, Nd.name, Nd.num, Nd.sub, prR]
 refine PCalls.enter Tryz.func143 rfl Tryz.ntmps143 (by simp) ?_
 simp only [Qab]
 refine go_ ?_
 refine Jd ?_
 intro i0 hi0
 try simp only [Ja, Rh, Rg, Jb] at hi0
 refine go_ ?_
 refine Je ?_
 intro i1 hi1
 try simp only [Ja, Rh, Rg, Jb] at hi1
 refine go_ ?_
 refine Qax [(0, .a), (1, .a), (2, .a), (3, .b), (4, .a), (5, .a), (6, .a), (7, .b), (8, .a), (9, .a)] (by kernel_rfl) (by rfl) (by kernel_rfl) ?_
 refine go_ ?_
 refine Qaa (hA.out) ?_
 refine go_ ?_
 refine Je ?_
 intro i2 hi2
 try simp only [Ja, Rh, Rg, Jb] at hi2
 refine go_ ?_
 refine Rd ?_
 refine go_ ?_
 refine PW_ownB i2 3 28 7 (by simp [nev, nevA, nevB, Jp, PF.eval, PF.get, PF.wants, cPV, Qag, PV.rows, Qah, evUn, Jq, Qaj, Qai, Jn, TyK.agg, Qaf, St.box?, St.tok?, St.setBox, St.setTok, Qae, spl, PV.ps, PV.one, Jo, aggD, slD, Jh, Jk, Ji, Jj, Jg, Jf, *]; rfl) (by rfl) (by rfl) (by intro g; simp [St.setBox, *]; rfl) (by decide) ?_
 intro g2 hg2
 simp only [St.freshT_tok, St.freshT_box, St.freshT_nil] at hg2
 refine Qak (ι := List Pt × Rs) (fun y => y.1.length ≤ sub.length ∧ y.2.names.length + ndL (sub.drop y.1.length) ≤ 1000000 ∧ Hid (R = (y.1 ++ (rdL l (sub.drop y.1.length) y.2).1, (rdL l (sub.drop y.1.length) y.2).2))) (fun y => [(0, .ptr b 0), (6, .ptr i1 0), (7, .ptr i2 0), (29, .d (.sl (sub.map encD))), (30, .d (.v (.int .i64 sub.length))), (31, .d (.v (.int .i64 (y.1.length : Int))))]) (fun y => [.tok g2 28 7 y.1.length, .box i2 28 [.d (.v (.int .i64 2)), .d (.v (.int .i64 c)), .d (.v (.int .i64 a)), .own g2 (y.1.map encD), .d (.v (.int .i64 0)), .d (.v (.int .i64 0)), .nils], .box i1 28 [.d (.v (.int .i64 0)), .d (.v (.int .i64 0)), .d (.v (.int .i64 0)), .nils, .d (.v (.int .i64 0)), .d (.v (.int .i64 0)), .nils], .tok g 9 1 y.2.names.length, .box b 135 [.d (.sl (l.map encD)), .own g (y.2.names.map encD), .d (.v (.int .i64 y.2.e)), .d (.v (.int .i64 y.2.at_))]]) (fun y => sub.length - y.1.length) ([], σ) ⟨Nat.zero_le _, hb, HR.out⟩ ?_ ?_ ?_
 ·repeat (first | exact Jt _ | refine Js (by simp [PF.get]; rfl) (by first | rfl | (simp [*]; done) | fail) ?_)
 ·repeat (first | exact List.Sublist.refl _ | exact List.nil_sublist _ | refine List.Sublist.cons_cons _ ?_ | refine List.Sublist.cons _ ?_)
 rintro ⟨rs, τ⟩ ⟨hk, hbt, hR⟩
 simp only at hk hbt hR ⊢
 clear HR
 by_cases hlt : rs.length < sub.length
 ·have hxs := Qal hlt
  have hc : (rs.length : Int) < sub.length := by omega
  have hn : (0 : Int) ≤ rs.length := by omega
  have hin := wr64 (n := (rs.length : Int) + 1) (by omega) (by omega)
  have hdn : ndL (sub.drop rs.length) = ndT sub[rs.length] + ndL (sub.drop (rs.length + 1)) := by rw [List.drop_eq_getElem_cons hlt]; simp only [ndL]
  have hc1 := Lib.hid (IH.out _ (List.getElem_mem hlt) τ (by omega))
  have hnm := rd_names l sub[rs.length] τ
  have hR2 : Hid (R = ((rs ++ [(rdT l sub[rs.length] τ).1]) ++ (rdL l (sub.drop (rs ++ [(rdT l sub[rs.length] τ).1]).length) (rdT l sub[rs.length] τ).2).1, (rdL l (sub.drop (rs ++ [(rdT l sub[rs.length] τ).1]).length) (rdT l sub[rs.length] τ).2).2)) := by
   show _ = _
   rw [show R = _ from hR.out, List.drop_eq_getElem_cons hlt]
   simp only [rdL]
   rw [List.append_assoc, List.length_append, List.length_singleton]; rfl
  obtain ⟨q, hq⟩ : ∃ q, q = (rdT l sub[rs.length] τ).1 := ⟨_, rfl⟩
  obtain ⟨τ2, hz⟩ : ∃ τ2, τ2 = (rdT l sub[rs.length] τ).2 := ⟨_, rfl⟩
  rw [← hq, ← hz] at hc1 hR2
  rw [← hz] at hnm
  clear hR hq hz
  simp only [aggD, Qao, Jl, Jh, List.map_cons, List.map_nil, prR] at hc1
  refine go_ ?_
  refine Je ?_
  intro i3 hi3
  try simp only [Ja, Rh, Rg, Jb] at hi3
  refine go_ ?_
  refine Rd ?_
  refine go_ ?_
  refine Qjm (J := Qcy [(i2, _), (i3, _)]) [(0, .a), (1, .a), (2, .a), (3, .a), (4, .e), (5, .a), (6, .e), (7, .a), (8, .e)] (by kernel_rfl) (by rfl) (by kernel_rfl) (by (repeat (first | exact Qap _ | refine Ju (by simp [St.box?, *] <;> rfl) ?_))) ?_
  repeat (first | with_reducible refine Qce ?_ | refine Qcd ?_ | refine Qct ?_ | refine Qcs ?_)
  refine PL_callX 4 2 (hc1.out) ?_
  rintro _ _ ⟨rfl, rfl⟩
  refine ⟨.inr (by (repeat (first | exact Qap _ | refine Ju (by simp [St.box?, *] <;> rfl) ?_))), ?_⟩
  simp only [List.cons_append, List.nil_append, List.append_nil, Ja, Rh, Rg]
  repeat (first | with_reducible refine Qce ?_ | refine Qcd ?_ | refine Qct ?_ | refine Qcs ?_)
  refine PL_bs ?_ rfl (by decide) rfl (by simp; rfl) (by rfl) (by simp; rfl) (by rfl) (by decide) (by decide) (by simp [nev, nevA, nevB, Jp, PF.eval, PF.get, PF.wants, cPV, Qag, PV.rows, Qah, evUn, Jq, Qaj, Qai, Jn, TyK.agg, Qaf, St.box?, St.tok?, St.setBox, St.setTok, Qae, spl, PV.ps, PV.one, Jo, aggD, slD, Jh, Jk, Ji, Jj, Jg, Jf, *]; rfl) (by simp [Qco, toDs, PV.toD]; rfl)
  repeat (first | with_reducible refine Qce ?_ | refine Qcd ?_ | refine Qct ?_ | refine Qcs ?_)
  refine PL_app (rs.length + 1) ?_ ?_ ?_ ?_ ?_
  rotate_left
  ·exact rows7 _
  ·exact Qbw rfl
  ·simp
  ·exact .inr (by (repeat (first | exact Qap _ | refine Ju (by simp [St.box?, *] <;> rfl) ?_)))
  repeat (first | with_reducible refine Qce ?_ | refine Qcd ?_ | refine Qct ?_ | refine Qcs ?_)
  refine PL_store rfl rfl (by simp [nev, nevA, nevB, Jp, PF.eval, PF.get, PF.wants, cPV, Qag, PV.rows, Qah, evUn, Jq, Qaj, Qai, Jn, TyK.agg, Qaf, St.box?, St.tok?, St.setBox, St.setTok, Qae, spl, PV.ps, PV.one, Jo, aggD, slD, Jh, Jk, Ji, Jj, Jg, Jf, *]; rfl) (by rfl) (by simp [nev, nevA, nevB, Jp, PF.eval, PF.get, PF.wants, cPV, Qag, PV.rows, Qah, evUn, Jq, Qaj, Qai, Jn, TyK.agg, Qaf, St.box?, St.tok?, St.setBox, St.setTok, Qae, spl, PV.ps, PV.one, Jo, aggD, slD, Jh, Jk, Ji, Jj, Jg, Jf, *]; rfl) (by simp [PV.ps, aggD, slD, Jh, Jk, Ji, Jj, Jg, Jf]; rfl) (by first | rfl | (simp [*]; done) | (simp [PV.one, *]; done) | fail) (by simp; rfl) (by first | (simp; done) | fail) (by simp [nev, nevA, nevB, Jp, PF.eval, PF.get, PF.wants, cPV, Qag, PV.rows, Qah, evUn, Jq, Qaj, Qai, Jn, TyK.agg, Qaf, St.box?, St.tok?, St.setBox, St.setTok, Qae, spl, PV.ps, PV.one, Jo, aggD, slD, Jh, Jk, Ji, Jj, Jg, Jf, *]; rfl) (by rfl) (by first | (simp; done) | fail) (by simp [St.setBox, spl, *]; rfl) (by first | exact .inl (by decide +kernel) | exact .inr (by (repeat (first | exact Qap _ | refine Ju (by simp [St.box?, *] <;> rfl) ?_)))) ?_
  repeat (first | with_reducible refine Qce ?_ | refine Qcd ?_ | refine Qct ?_ | refine Qcs ?_)
  refine go_ ?_
  refine ⟨(rs ++ [q], τ2), ⟨by simp only [List.length_append, List.length_singleton]; omega, by simp only [List.length_append, List.length_singleton]; omega, hR2⟩, by simp only [List.length_append, List.length_singleton]; omega, ?_, ?_⟩
  ·simp only [List.length_append, List.length_singleton]
   repeat (first | exact Jt _ | refine Js (by simp [PF.get]; rfl) (by first | rfl | (simp [hin]; done) | fail) ?_)
  ·simp only [List.length_append, List.length_singleton, List.map_append, List.map_cons, List.map_nil, Qao]
   repeat (first | exact List.Sublist.refl _ | exact List.nil_sublist _ | refine List.Sublist.cons_cons _ ?_ | refine List.Sublist.cons _ ?_)
 ·have hc : ¬ (rs.length : Int) < sub.length := by omega
  have hf : Hid (R = (rs, τ)) := by show _ = _; rw [show R = _ from hR.out, List.drop_of_length_le (by omega)]; simp only [rdL, List.append_nil]
  clear hR
  refine go_ ?_
  refine Rd ?_
  refine go_ ?_
  refine Jm (st' := (prR b g l τ)) (by simp) (by simp only [Tryz.results143]; rfl) (by simp [resP, St.box?, PF.get, Jn, TyK.agg, *]; rfl) (by repeat (first | exact List.Sublist.refl _ | exact List.nil_sublist _ | refine List.Sublist.cons_cons _ ?_ | refine List.Sublist.cons _ ?_)) ?_
  exact ⟨by rw [hf.out]; rfl, by rw [hf.out]; rfl⟩
theorem findN_at (s : ByteArray) : ∀ (r : List En) (i c : Nat), findN s r i = some c → i ≤ c ∧ c < i + r.length
  | [], i, c, h => by simp only [findN] at h; cases h
  | x :: r, i, c, h => by
    simp only [findN] at h
    split at h
    · obtain rfl := Option.some.inj h
      simp only [List.length_cons]; omega
    · have := findN_at s r (i + 1) c h
      simp only [List.length_cons]; omega
theorem ppat_p (b g : Nat) (l : List En) (hF : formedB l = true) : ∀ (n : Nd) (σ : Rs), σ.names.length + ndT n ≤ 1000000 → PCalls Tryz.prog 85 [.ptr b 0, aggD n] (prR b g l σ) fun p st => p = aggD (rdT l n σ).1 ∧ st = prR b g l (rdT l n σ).2 := by
  refine Nd.ind ?_
  intro k a s m sub ih σ hb
  simp only [ndT] at hb
  obtain ⟨P, hP⟩ : ∃ P, P = (rdT l (.mk k a s m sub) σ).1 := ⟨_, rfl⟩
  obtain ⟨T, hT⟩ : ∃ T, T = (rdT l (.mk k a s m sub) σ).2 := ⟨_, rfl⟩
  rw [← hP, ← hT]
  simp only [rdT] at hP hT
  by_cases k7 : k = 7
  · rw [if_pos k7] at hP hT
    have hv := Lib.hid (pvar_p b g l σ lowS a (by omega))
    rw [← hP, ← hT] at hv
    subst k7
    clear hP hT ih hb
    simp only [lowS, aggD, Qao, Jl, Jh, List.map_cons, List.map_nil, Nd.kind, Nd.at, Nd.name, Nd.num, Nd.sub, prR] at hv ⊢
    refine PCalls.enter Tryz.func85 rfl Tryz.ntmps85 (by simp) ?_
    simp only [Qab]
    refine go_ ?_
    refine Jd ?_
    intro i0 hi0
    try simp only [Ja, Rh, Rg, Jb] at hi0
    refine go_ ?_
    refine Je ?_
    intro i1 hi1
    try simp only [Ja, Rh, Rg, Jb] at hi1
    refine go_ ?_
    refine Re 2 2 (hv.out) ?_
    rintro p st ⟨rfl, rfl⟩
    simp only [List.cons_append, List.nil_append, List.append_nil, Ja, Rh, Rg]
    refine go_ ?_
    refine Rd ?_
    refine go_ ?_
    refine Jm (st' := (prR b g l T)) (by simp) (by simp only [Tryz.results85]; rfl) (by simp [resP, St.box?, PF.get, Jn, TyK.agg, *]; rfl) (by repeat (first | exact List.Sublist.refl _ | exact List.nil_sublist _ | refine List.Sublist.cons_cons _ ?_ | refine List.Sublist.cons _ ?_)) ?_
    exact ⟨rfl, rfl⟩
  rw [if_neg k7] at hP hT
  have k7b : (k == 7) = false := beq_eq_false_iff_ne.2 k7
  by_cases k9 : k = 9
  · rw [if_pos k9] at hP hT
    subst hP hT k9
    clear ih hb k7 k7b
    simp only [zTm, aggD, Qao, Jl, Jh, List.map_cons, List.map_nil, Nd.kind, Nd.at, Nd.name, Nd.num, Nd.sub, Pt.kind_mk, Pt.num_mk, Pt.at_mk, Pt.sub_mk, Pt.t_mk, Tm.kind_mk, Tm.num_mk, Tm.sub_mk, prR]
    refine PCalls.enter Tryz.func85 rfl Tryz.ntmps85 (by simp) ?_
    simp only [Qab]
    refine go_ ?_
    refine Jd ?_
    intro i0 hi0
    try simp only [Ja, Rh, Rg, Jb] at hi0
    refine go_ ?_
    refine Je ?_
    intro i1 hi1
    try simp only [Ja, Rh, Rg, Jb] at hi1
    refine go_ ?_
    refine Rd ?_
    refine go_ ?_
    refine Jm (st' := (prR b g l T)) (by simp) (by simp only [Tryz.results85]; rfl) (by simp [resP, St.box?, PF.get, Jn, TyK.agg, *]; rfl) (by repeat (first | exact List.Sublist.refl _ | exact List.nil_sublist _ | refine List.Sublist.cons_cons _ ?_ | refine List.Sublist.cons _ ?_)) ?_
    exact ⟨rfl, rfl⟩
  rw [if_neg k9] at hP hT
  have k9b : (k == 9) = false := beq_eq_false_iff_ne.2 k9
  by_cases k10 : k = 10
  · rw [if_pos k10] at hP hT
    have hS := Lib.hid (tsort_p 0)
    subst hP hT k10
    clear ih hb k7 k7b k9 k9b
    simp only [zTm, aggD, Qao, Jl, Jh, List.map_cons, List.map_nil, Nd.kind, Nd.at, Nd.name, Nd.num, Nd.sub, Pt.kind_mk, Pt.num_mk, Pt.at_mk, Pt.sub_mk, Pt.t_mk, Tm.kind_mk, Tm.num_mk, Tm.sub_mk, prR] at hS ⊢
    refine PCalls.enter Tryz.func85 rfl Tryz.ntmps85 (by simp) ?_
    simp only [Qab]
    refine go_ ?_
    refine Jd ?_
    intro i0 hi0
    try simp only [Ja, Rh, Rg, Jb] at hi0
    refine go_ ?_
    refine Je ?_
    intro i1 hi1
    try simp only [Ja, Rh, Rg, Jb] at hi1
    refine go_ ?_
    refine Qax [(0, .a), (1, .b), (2, .a), (3, .a), (4, .e)] (by kernel_rfl) (by rfl) (by kernel_rfl) ?_
    refine go_ ?_
    refine Qaa (hS.out) ?_
    refine go_ ?_
    refine Qfx ?_
    refine go_ ?_
    refine Jm (st' := (prR b g l T)) (by simp) (by simp only [Tryz.results85]; rfl) (by simp [resP, St.box?, PF.get, Jn, TyK.agg, *]; rfl) (by repeat (first | exact List.Sublist.refl _ | exact List.nil_sublist _ | refine List.Sublist.cons_cons _ ?_ | refine List.Sublist.cons _ ?_)) ?_
    exact ⟨rfl, rfl⟩
  rw [if_neg k10] at hP hT
  have k10b : (k == 10) = false := beq_eq_false_iff_ne.2 k10
  have hFd := Lib.hid (sfind_p l s)
  have hf := Lib.hid (pfail_p b g l σ 17 a)
  have hv := Lib.hid (pvar_p b g l σ s a (by omega))
  have hcn := fun c : Int => pcon_p b g l hF c k a m s sub σ (by omega) fun x hx τ h => ih x hx τ h
  have hat := fun c h => findN_at s l 0 c h
  clear ih hb k7 k9 k10 hF
  unfold conN at hP hT
  cases hfn : findN s l 0 with
  | none =>
    rw [hfn] at hP hT hFd
    simp only [findP] at hP hT hFd
    clear hfn hat hcn
    by_cases k8 : k = 8
    · rw [if_pos k8] at hP hT
      simp only at hP hT
      rw [← hT] at hf
      subst hP k8
      clear hT hv
      simp only [zPt, zTm, aggD, Qao, Jl, Jh, List.map_cons, List.map_nil, Nd.kind, Nd.at, Nd.name, Nd.num, Nd.sub, Pt.kind_mk, Pt.num_mk, Pt.at_mk, Pt.sub_mk, Pt.t_mk, Tm.kind_mk, Tm.num_mk, Tm.sub_mk, prR] at hf ⊢
      refine PCalls.enter Tryz.func85 rfl Tryz.ntmps85 (by simp) ?_
      simp only [Qab]
      refine go_ ?_
      refine Jd ?_
      intro i0 hi0
      try simp only [Ja, Rh, Rg, Jb] at hi0
      refine go_ ?_
      refine Je ?_
      intro i1 hi1
      try simp only [Ja, Rh, Rg, Jb] at hi1
      refine go_ ?_
      refine Qax [(0, .a), (1, .a), (2, .a), (3, .b), (4, .a), (5, .b), (6, .a), (7, .a), (8, .a), (9, .a), (10, .a), (11, .a)] (by kernel_rfl) (by rfl) (by kernel_rfl) ?_
      refine go_ ?_
      refine Qaa (hFd.out) ?_
      refine go_ ?_
      refine Re 2 2 (hf.out) ?_
      rintro p st ⟨rfl, rfl⟩
      simp only [List.cons_append, List.nil_append, List.append_nil, Ja, Rh, Rg]
      refine go_ ?_
      refine Rd ?_
      refine go_ ?_
      refine Jm (st' := (prR b g l T)) (by simp) (by simp only [Tryz.results85]; rfl) (by simp [resP, St.box?, PF.get, Jn, TyK.agg, *]; rfl) (by repeat (first | exact List.Sublist.refl _ | exact List.nil_sublist _ | refine List.Sublist.cons_cons _ ?_ | refine List.Sublist.cons _ ?_)) ?_
      exact ⟨rfl, rfl⟩
    · rw [if_neg k8] at hP hT
      have k8b : (k == 8) = false := beq_eq_false_iff_ne.2 k8
      rw [← hP, ← hT] at hv
      clear hP hT hf k8
      simp only [aggD, Qao, Jl, Jh, List.map_cons, List.map_nil, Nd.kind, Nd.at, Nd.name, Nd.num, Nd.sub, prR] at hv ⊢
      refine PCalls.enter Tryz.func85 rfl Tryz.ntmps85 (by simp) ?_
      simp only [Qab]
      refine go_ ?_
      refine Jd ?_
      intro i0 hi0
      try simp only [Ja, Rh, Rg, Jb] at hi0
      refine go_ ?_
      refine Je ?_
      intro i1 hi1
      try simp only [Ja, Rh, Rg, Jb] at hi1
      refine go_ ?_
      refine Qax [(0, .a), (1, .a), (2, .a), (3, .b), (4, .a), (5, .b), (6, .a), (7, .a), (8, .a), (9, .a), (10, .a), (11, .a)] (by kernel_rfl) (by rfl) (by kernel_rfl) ?_
      refine go_ ?_
      refine Qaa (hFd.out) ?_
      refine go_ ?_
      refine Re 2 2 (hv.out) ?_
      rintro p st ⟨rfl, rfl⟩
      simp only [List.cons_append, List.nil_append, List.append_nil, Ja, Rh, Rg]
      refine go_ ?_
      refine Rd ?_
      refine go_ ?_
      refine Jm (st' := (prR b g l T)) (by simp) (by simp only [Tryz.results85]; rfl) (by simp [resP, St.box?, PF.get, Jn, TyK.agg, *]; rfl) (by repeat (first | exact List.Sublist.refl _ | exact List.nil_sublist _ | refine List.Sublist.cons_cons _ ?_ | refine List.Sublist.cons _ ?_)) ?_
      exact ⟨rfl, rfl⟩
  | some c =>
    obtain ⟨-, hlt⟩ := hat c hfn
    rw [Nat.zero_add] at hlt
    rw [hfn] at hP hT hFd
    simp only [findP] at hP hT hFd
    have hx := Qal hlt
    have hcl : (c : Int) < l.length := by omega
    have hc0 : (0 : Int) ≤ c := by omega
    have hie : isE l c 2 = (l[c].kind == 2) := is_at (List.getElem?_eq_getElem hlt)
    rw [hie] at hP hT
    clear hfn hat hie
    cases hk2 : (l[c].kind == 2) with
    | true =>
      rw [hk2] at hP hT
      have hcc := hcn c
      have hP2 : P = if arN l c = (sub.length : Int) then Pt.mk 2 c a (rdL l sub σ).1 zTm else zPt := by
        rw [hP]; simp only [if_pos]; split <;> rfl
      have hT2 : T = if arN l c = (sub.length : Int) then (rdL l sub σ).2 else σ.fail 17 a := by
        rw [hT]; simp only [if_pos]; split <;> rfl
      rw [← hP2, ← hT2] at hcc
      have HCC := Lib.hid hcc
      clear hP hT hP2 hT2 hcc hcn hf hv
      simp only [aggD, Qao, Jl, Jh, List.map_cons, List.map_nil, Nd.kind, Nd.at, Nd.name, Nd.num, Nd.sub, prR] at HCC ⊢
      refine PCalls.enter Tryz.func85 rfl Tryz.ntmps85 (by simp) ?_
      simp only [Qab]
      refine go_ ?_
      refine Jd ?_
      intro i0 hi0
      try simp only [Ja, Rh, Rg, Jb] at hi0
      refine go_ ?_
      refine Je ?_
      intro i1 hi1
      try simp only [Ja, Rh, Rg, Jb] at hi1
      refine go_ ?_
      refine Qax [(0, .a), (1, .a), (2, .a), (3, .b), (4, .a), (5, .b), (6, .a), (7, .a), (8, .a), (9, .a), (10, .a), (11, .a)] (by kernel_rfl) (by rfl) (by kernel_rfl) ?_
      refine go_ ?_
      refine Qaa (hFd.out) ?_
      refine go_ ?_
      refine Re 2 2 (HCC.out) ?_
      rintro p st ⟨rfl, rfl⟩
      simp only [List.cons_append, List.nil_append, List.append_nil, Ja, Rh, Rg]
      refine go_ ?_
      refine Rd ?_
      refine go_ ?_
      refine Jm (st' := (prR b g l T)) (by simp) (by simp only [Tryz.results85]; rfl) (by simp [resP, St.box?, PF.get, Jn, TyK.agg, *]; rfl) (by repeat (first | exact List.Sublist.refl _ | exact List.nil_sublist _ | refine List.Sublist.cons_cons _ ?_ | refine List.Sublist.cons _ ?_)) ?_
      exact ⟨rfl, rfl⟩
    | false =>
      rw [hk2] at hP hT
      simp only [Bool.false_eq_true, if_false] at hP hT
      clear hcn
      by_cases k8 : k = 8
      · rw [if_pos k8] at hP hT
        simp only at hP hT
        rw [← hT] at hf
        subst hP k8
        clear hT hv
        simp only [zPt, zTm, aggD, Qao, Jl, Jh, List.map_cons, List.map_nil, Nd.kind, Nd.at, Nd.name, Nd.num, Nd.sub, Pt.kind_mk, Pt.num_mk, Pt.at_mk, Pt.sub_mk, Pt.t_mk, Tm.kind_mk, Tm.num_mk, Tm.sub_mk, prR] at hf ⊢
        refine PCalls.enter Tryz.func85 rfl Tryz.ntmps85 (by simp) ?_
        simp only [Qab]
        refine go_ ?_
        refine Jd ?_
        intro i0 hi0
        try simp only [Ja, Rh, Rg, Jb] at hi0
        refine go_ ?_
        refine Je ?_
        intro i1 hi1
        try simp only [Ja, Rh, Rg, Jb] at hi1
        refine go_ ?_
        refine Qax [(0, .a), (1, .a), (2, .a), (3, .b), (4, .a), (5, .b), (6, .a), (7, .a), (8, .a), (9, .a), (10, .a), (11, .a)] (by kernel_rfl) (by rfl) (by kernel_rfl) ?_
        refine go_ ?_
        refine Qaa (hFd.out) ?_
        refine go_ ?_
        refine Re 2 2 (hf.out) ?_
        rintro p st ⟨rfl, rfl⟩
        simp only [List.cons_append, List.nil_append, List.append_nil, Ja, Rh, Rg]
        refine go_ ?_
        refine Rd ?_
        refine go_ ?_
        refine Jm (st' := (prR b g l T)) (by simp) (by simp only [Tryz.results85]; rfl) (by simp [resP, St.box?, PF.get, Jn, TyK.agg, *]; rfl) (by repeat (first | exact List.Sublist.refl _ | exact List.nil_sublist _ | refine List.Sublist.cons_cons _ ?_ | refine List.Sublist.cons _ ?_)) ?_
        exact ⟨rfl, rfl⟩
      · rw [if_neg k8] at hP hT
        have k8b : (k == 8) = false := beq_eq_false_iff_ne.2 k8
        rw [← hP, ← hT] at hv
        clear hP hT hf k8
        simp only [aggD, Qao, Jl, Jh, List.map_cons, List.map_nil, Nd.kind, Nd.at, Nd.name, Nd.num, Nd.sub, prR] at hv ⊢
        refine PCalls.enter Tryz.func85 rfl Tryz.ntmps85 (by simp) ?_
        simp only [Qab]
        refine go_ ?_
        refine Jd ?_
        intro i0 hi0
        try simp only [Ja, Rh, Rg, Jb] at hi0
        refine go_ ?_
        refine Je ?_
        intro i1 hi1
        try simp only [Ja, Rh, Rg, Jb] at hi1
        refine go_ ?_
        refine Qax [(0, .a), (1, .a), (2, .a), (3, .b), (4, .a), (5, .b), (6, .a), (7, .a), (8, .a), (9, .a), (10, .a), (11, .a)] (by kernel_rfl) (by rfl) (by kernel_rfl) ?_
        refine go_ ?_
        refine Qaa (hFd.out) ?_
        refine go_ ?_
        refine Re 2 2 (hv.out) ?_
        rintro p st ⟨rfl, rfl⟩
        simp only [List.cons_append, List.nil_append, List.append_nil, Ja, Rh, Rg]
        refine go_ ?_
        refine Rd ?_
        refine go_ ?_
        refine Jm (st' := (prR b g l T)) (by simp) (by simp only [Tryz.results85]; rfl) (by simp [resP, St.box?, PF.get, Jn, TyK.agg, *]; rfl) (by repeat (first | exact List.Sublist.refl _ | exact List.nil_sublist _ | refine List.Sublist.cons_cons _ ?_ | refine List.Sublist.cons _ ?_)) ?_
        exact ⟨rfl, rfl⟩
noncomputable def rdAll (l : List En) (from_ : List Nd) : List Pt × List ByteArray × Int × Int :=
 if (formedB l && from_.all patB) = true then
  (if (rdL l from_ ⟨[], 0, 0⟩).2.e = 0 then ((rdL l from_ ⟨[], 0, 0⟩).1, (rdL l from_ ⟨[], 0, 0⟩).2.names, 0, 0) else ([], [], (rdL l from_ ⟨[], 0, 0⟩).2.at_, (rdL l from_ ⟨[], 0, 0⟩).2.e))
 else ([], [], 0, 5)
def rdP (r : List Pt × List ByteArray × Int × Int) : PV := .tup [.d (.sl (r.1.map encD)), .d (.sl (r.2.1.map encD)), .d (.v (.int .i64 r.2.2.1)), .d (.v (.int .i64 r.2.2.2))]
theorem pRead_p (l : List En) (fr : List Nd) (ho : ∀ e ∈ l, EnOk e) (hnd : ndL fr ≤ 100000) : PCalls Tryz.prog 32 [.d (.sl (l.map encD)), .d (.sl (fr.map encD))] [] fun p s => p = rdP (rdAll l fr) ∧ s = [] := by
  have hFm := Lib.hid (sformed_p l ho)
  have HPt : Hid (∀ t : Nd, PCalls Tryz.prog 84 [aggD t] [] fun p s => p = .d (.v (.bool (patB t))) ∧ s = []) := fun t => tpat_p t
  have hfl := ndL_len fr
  obtain ⟨R, hR⟩ : ∃ R, R = rdAll l fr := ⟨_, rfl⟩
  rw [← hR]
  unfold rdAll at hR
  have HPP : formedB l = true → ∀ (b g : Nat) (n : Nd) (σ : Rs), σ.names.length + ndT n ≤ 1000000 → PCalls Tryz.prog 85 [.ptr b 0, aggD n] (prR b g l σ) fun p st => p = aggD (rdT l n σ).1 ∧ st = prR b g l (rdT l n σ).2 := fun h b g => ppat_p b g l h
  cases hf : formedB l with
  | false =>
    rw [hf] at hFm hR
    simp only [Bool.false_and, Bool.false_eq_true, if_false] at hR
    subst hR
    clear HPP
    refine PCalls.enter Tryz.func32 rfl Tryz.ntmps32 (by simp) ?_
    simp only [Qab]
    refine go_ ?_
    refine Jc (hFm.out) ?_
    refine go_ ?_
    refine Jm (by simp) (by simp only [Tryz.results32]; rfl) (by simp [resP, St.box?, PF.get, Jn, TyK.agg, *]; rfl) Nl ?_
    exact ⟨rfl, rfl⟩
  | true =>
  rw [hf] at hFm hR
  have HP := Lib.hid (HPP hf)
  simp only [Bool.true_and] at hR
  clear HPP hf ho
  obtain ⟨Z, hZ⟩ : ∃ Z, Z = fr.all patB := ⟨_, rfl⟩
  rw [← hZ] at hR
  have HZ : Hid (Z = (fr.drop 0).all patB) := hZ
  have HR := Lib.hid hR
  clear hR hZ
  refine PCalls.enter Tryz.func32 rfl Tryz.ntmps32 (by simp) ?_
  simp only [Qab]
  refine go_ ?_
  refine Jc (hFm.out) ?_
  refine go_ ?_
  refine Qak (ι := Nat) (fun y => y ≤ fr.length ∧ Hid (Z = (fr.drop y).all patB)) (fun y => [(0, .d (.sl (l.map encD))), (1, .d (.sl (fr.map encD))), (17, .d (.sl (fr.map encD))), (18, .d (.v (.int .i64 fr.length))), (19, .d (.v (.int .i64 (y : Int))))]) (fun _ => []) (fun y => fr.length - y) 0 ⟨Nat.zero_le _, HZ.out⟩ ?_ ?_ ?_
  · repeat (first | exact Jt _ | refine Js (by simp [PF.get]; rfl) (by first | rfl | (simp [*]; done) | fail) ?_)
  · repeat (first | exact List.Sublist.refl _ | exact List.nil_sublist _ | refine List.Sublist.cons_cons _ ?_ | refine List.Sublist.cons _ ?_)
  rintro j ⟨hj, hz⟩
  clear HZ
  by_cases hlt : j < fr.length
  · have hx := Qal hlt
    have hc : (j : Int) < fr.length := by omega
    have hn : (0 : Int) ≤ j := by omega
    have hin := wr64 (n := (j : Int) + 1) (by omega) (by omega)
    have hc1 := Lib.hid (HPt.out fr[j])
    have hz2 : Hid (Z = (patB fr[j] && (fr.drop (j + 1)).all patB)) := by show _ = _; rw [show Z = _ from hz.out, List.drop_eq_getElem_cons hlt]; rfl
    simp only [aggD, Jh, List.map_cons, List.map_nil] at hc1
    clear hz
    generalize patB fr[j] = q at *
    refine go_ ?_
    refine Je ?_
    intro i3 hi3
    try simp only [Ja, Rh, Rg, Jb] at hi3
    refine go_ ?_
    refine Rd ?_
    refine go_ ?_
    refine Jc (hc1.out) ?_
    cases q with
    | false =>
      have hf : Hid (R = ([], [], 0, 5)) := by show _ = _; rw [HR.out, if_neg (by rw [hz2.out]; simp)]
      refine go_ ?_
      refine Jm (by simp) (by simp only [Tryz.results32]; rfl) (by simp [resP, St.box?, PF.get, Jn, TyK.agg, *]; rfl) Nl ?_
      exact ⟨by rw [hf.out]; rfl, rfl⟩
    | true =>
      refine go_ ?_
      exact ⟨j + 1, ⟨hlt, hz2.out⟩, by omega, by repeat (first | exact Jt _ | refine Js (by simp [PF.get]; rfl) (by first | rfl | (simp [*]; done) | fail) ?_), by repeat (first | exact List.Sublist.refl _ | exact List.nil_sublist _ | refine List.Sublist.cons_cons _ ?_ | refine List.Sublist.cons _ ?_)⟩
  have hc : ¬ (j : Int) < fr.length := by omega
  have hzt : Z = true := by rw [show Z = _ from hz.out, List.drop_of_length_le (by omega)]; rfl
  obtain ⟨V, hV⟩ : ∃ V, V = rdL l fr ⟨[], 0, 0⟩ := ⟨_, rfl⟩
  have HR2 : Hid (R = if V.2.e = 0 then (V.1, V.2.names, 0, 0) else ([], [], V.2.at_, V.2.e)) := by show _ = _; rw [HR.out, if_pos hzt, hV]
  have HV : Hid (V = ([] ++ (rdL l (fr.drop 0) ⟨[], 0, 0⟩).1, (rdL l (fr.drop 0) ⟨[], 0, 0⟩).2)) := by show _ = _; rw [hV]; rfl
  clear hz hzt hV HR HPt
  refine go_ ?_
  refine Jd ?_
  intro b hb
  try simp only [Ja, Rh, Rg, Jb] at hb
  refine go_ ?_
  refine PW_ownB b 1 9 1 (by simp [nev, nevA, nevB, Jp, PF.eval, PF.get, PF.wants, cPV, Qag, PV.rows, Qah, evUn, Jq, Qaj, Qai, Jn, TyK.agg, Qaf, St.box?, St.tok?, St.setBox, St.setTok, Qae, spl, PV.ps, PV.one, Jo, aggD, slD, Jh, Jk, Ji, Jj, Jg, Jf, *]; rfl) (by rfl) (by rfl) (by intro g; simp [St.setBox, *]; rfl) (by decide) ?_
  intro g hg
  simp only [St.freshT_tok, St.freshT_box, St.freshT_nil] at hg
  refine go_ ?_
  refine PW_own 11 28 7 (by decide) (by simp [PF.get] <;> rfl) fun g2 hg2 => ?_
  simp only [St.freshT_tok, St.freshT_box, St.freshT_nil] at hg2
  refine Qak (ι := List Pt × Rs) (fun y => y.1.length ≤ fr.length ∧ y.2.names.length + ndL (fr.drop y.1.length) ≤ 1000000 ∧ Hid (V = (y.1 ++ (rdL l (fr.drop y.1.length) y.2).1, (rdL l (fr.drop y.1.length) y.2).2))) (fun y => [(10, .ptr b 0), (11, .own g2 (y.1.map encD)), (30, .d (.sl (fr.map encD))), (31, .d (.v (.int .i64 fr.length))), (32, .d (.v (.int .i64 (y.1.length : Int))))]) (fun y => [.tok g2 28 7 y.1.length, .tok g 9 1 y.2.names.length, .box b 135 [.d (.sl (l.map encD)), .own g (y.2.names.map encD), .d (.v (.int .i64 y.2.e)), .d (.v (.int .i64 y.2.at_))]]) (fun y => fr.length - y.1.length) ([], ⟨[], 0, 0⟩) ⟨Nat.zero_le _, by simp only [List.length_nil, List.drop_zero]; omega, HV.out⟩ ?_ ?_ ?_
  · repeat (first | exact Jt _ | refine Js (by simp [PF.get]; rfl) (by first | rfl | (simp [*]; done) | fail) ?_)
  · repeat (first | exact List.Sublist.refl _ | exact List.nil_sublist _ | refine List.Sublist.cons_cons _ ?_ | refine List.Sublist.cons _ ?_)
  rintro ⟨rs, τ⟩ ⟨hk, hbt, hR⟩
  simp only at hk hbt hR ⊢
  clear HV
  by_cases hkl : rs.length < fr.length
  · have hxs := Qal hkl
    have hck : (rs.length : Int) < fr.length := by omega
    have hnk : (0 : Int) ≤ rs.length := by omega
    have hink := wr64 (n := (rs.length : Int) + 1) (by omega) (by omega)
    have hdn : ndL (fr.drop rs.length) = ndT fr[rs.length] + ndL (fr.drop (rs.length + 1)) := by rw [List.drop_eq_getElem_cons hkl]; simp only [ndL]
    have hc1 := Lib.hid (HP.out b g fr[rs.length] τ (by omega))
    have hnm := rd_names l fr[rs.length] τ
    have hR2 : Hid (V = ((rs ++ [(rdT l fr[rs.length] τ).1]) ++ (rdL l (fr.drop (rs ++ [(rdT l fr[rs.length] τ).1]).length) (rdT l fr[rs.length] τ).2).1, (rdL l (fr.drop (rs ++ [(rdT l fr[rs.length] τ).1]).length) (rdT l fr[rs.length] τ).2).2)) := by
      show _ = _
      rw [show V = _ from hR.out, List.drop_eq_getElem_cons hkl]
      simp only [rdL]
      rw [List.append_assoc, List.length_append, List.length_singleton]; rfl
    obtain ⟨q, hq⟩ : ∃ q, q = (rdT l fr[rs.length] τ).1 := ⟨_, rfl⟩
    obtain ⟨τ2, hz⟩ : ∃ τ2, τ2 = (rdT l fr[rs.length] τ).2 := ⟨_, rfl⟩
    rw [← hq, ← hz] at hc1 hR2
    rw [← hz] at hnm
    clear hR hq hz
    simp only [aggD, Qao, Jl, Jh, List.map_cons, List.map_nil, prR] at hc1
    refine go_ ?_
    refine Je ?_
    intro i3 hi3
    try simp only [Ja, Rh, Rg, Jb] at hi3
    refine go_ ?_
    refine Rd ?_
    refine go_ ?_
    refine Re 2 2 (hc1.out) ?_
    rintro _ _ ⟨rfl, rfl⟩
    simp only [List.cons_append, List.nil_append, List.append_nil, Ja, Rh, Rg]
    refine go_ ?_
    refine Qam ?_
    refine go_ ?_
    refine Qba (rs.length + 1) ?_ ?_ ?_ ?_
    · simp
    · exact rows7 _
    · exact Qbw rfl
    refine go_ ?_
    refine ⟨(rs ++ [q], τ2), ⟨by simp only [List.length_append, List.length_singleton]; omega, by simp only [List.length_append, List.length_singleton]; omega, hR2⟩, by simp only [List.length_append, List.length_singleton]; omega, ?_, ?_⟩
    · simp only [List.length_append, List.length_singleton]
      repeat (first | exact Jt _ | refine Js (by simp [PF.get]; rfl) (by first | rfl | (simp [Qao]; done) | fail) ?_)
    · simp only [List.length_append, List.length_singleton]
      repeat (first | exact List.Sublist.refl _ | exact List.nil_sublist _ | refine List.Sublist.cons_cons _ ?_ | refine List.Sublist.cons _ ?_)
  · have hck : ¬ (rs.length : Int) < fr.length := by omega
    have hf : Hid (V = (rs, τ)) := by show _ = _; rw [show V = _ from hR.out, List.drop_of_length_le (by omega)]; simp only [rdL, List.append_nil]
    have HR3 : Hid (R = if τ.e = 0 then (rs, τ.names, 0, 0) else ([], [], τ.at_, τ.e)) := by show _ = _; rw [HR2.out, hf.out]
    clear hR HR2 hf
    by_cases he : τ.e = 0
    · have hf : Hid (R = (rs, τ.names, 0, 0)) := by show _ = _; rw [HR3.out, if_pos he]
      have heb : (τ.e != 0) = false := by rw [he]; rfl
      clear HR3
      refine go_ ?_
      refine Qax [(0, .a), (1, .a), (2, .a), (3, .a), (4, .b), (5, .a), (6, .a), (7, .a), (8, .a)] (by kernel_rfl) (by rfl) (by kernel_rfl) ?_
      refine go_ ?_
      refine Jm (by simp) (by simp only [Tryz.results32]; rfl) (by simp [resP, St.box?, PF.get, Jn, TyK.agg, *]; rfl) Nl ?_
      exact ⟨by rw [hf.out]; rfl, rfl⟩
    · have hf : Hid (R = ([], [], τ.at_, τ.e)) := by show _ = _; rw [HR3.out, if_neg he]
      have heb : (τ.e != 0) = true := bne_iff_ne.2 he
      clear HR3 he
      refine go_ ?_
      refine Qax [(0, .a), (1, .a), (2, .a), (3, .b), (4, .a), (5, .a), (6, .a), (7, .b), (8, .a), (9, .a), (10, .a), (11, .a)] (by kernel_rfl) (by rfl) (by kernel_rfl) ?_
      refine go_ ?_
      refine Jm (by simp) (by simp only [Tryz.results32]; rfl) (by simp [resP, St.box?, PF.get, Jn, TyK.agg, *]; rfl) Nl ?_
      exact ⟨by rw [hf.out]; rfl, rfl⟩
end Go.Proofs.YtdklpbefbamchaaGreat
