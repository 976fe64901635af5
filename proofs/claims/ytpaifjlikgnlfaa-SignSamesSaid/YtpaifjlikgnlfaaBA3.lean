import Derived.Test.YtpaifjlikgnlfaaBA2
import Derived.Laws.RangeAny
import Derived.Laws.IdiomStrings
import Derived.Laws.Small
import Derived.Maps.OwnSet
import Derived.Maps.Views
import Derived.Carry
import Derived.Maps.OwnOps
import Derived.Lib.SliceRun
import Derived.Test.YtpaifjlikgnlfaaBD
set_option linter.unusedSimpArgs false
set_option linter.unusedVariables false
set_option maxHeartbeats 16000000
set_option maxRecDepth 100000
namespace Go.Proofs.Ytpaifjlikgnlfaa
open Go.RowKit
section
variable {P : Program} {J : St → Prop} {n : Nat} {ops : Array Oper} {Q : PF → St → Prop} {fr : PF} {st : St} {p : PV} {op : Op} {ty : TypeId} {pos : String} {after : Array Edge} {gd : Option (Nat × Bool)} {od : List (Nat × Kd)} {j d : Nat}
theorem PJ_b2 {l : List (Nat × TypeId × List PV)} {t : TypeId} {a : Operand} {q : PV} {i off : Nat} {T : Ty} {x : TypeId × List PV} {U : TypeId} {cs : List PV} (h : Qak P (Qct l) n ops Q od ((d, p) :: fr) st)
  (ho : ops[j]? = some ⟨some d, .load t a, ty, pos, after, gd⟩ := by rfl) (hd : d < n := by decide)
  (hw : PF.wants fr ops ⟨some d, .load t a, ty, pos, after, gd⟩ = some true := by exact eD)
  (ha : fr.eval a = some q := by exact eQ) (hq : q = .ptr i off := by rfl) (hT : tyOf P t = some T := by simp; rfl)
  (hl : (i, x) ∈ l := by first | exact List.mem_cons_self | exact List.mem_cons_of_mem _ List.mem_cons_self | exact List.mem_cons_of_mem _ (List.mem_cons_of_mem _ List.mem_cons_self)) (hx : x = (U, cs) := by rfl)
  (he : Jn T (cs.drop off) = some p := by exact eQ) : Qak P (Qct l) n ops Q ((j, .a) :: od) fr st := by
 subst hq; subst hx
 exact PJ_b h ho hd hw ha hT hl he
theorem PJ_gn2 {k : Kd} (h : Qak P J n ops Q od ((d, .tup []) :: fr) st) (ho : ops[j]? = some ⟨some d, op, ty, pos, after, gd⟩ := by rfl) (hd : d < n := by decide) (hw : PF.wants fr ops ⟨some d, op, ty, pos, after, gd⟩ = some false := by exact eD) : Qak P J n ops Q ((j, k) :: od) fr st := PJ_gn h ho hd hw
theorem PJ_s2 (h : Qak P J n ops Q od ((d, p) :: fr) st) (ho : ops[j]? = some ⟨some d, op, ty, pos, after, gd⟩ := by rfl) (hd : d < n := by decide) (hw : PF.wants fr ops ⟨some d, op, ty, pos, after, gd⟩ = some true := by exact eD) (he : nev P fr.eval op = some p := by exact eQ) : Qak P J n ops Q ((j, .a) :: od) fr st := PJ_s h ho hd hw he
theorem PJ_call2 {f : Nat} {xs : Array Operand} {ts : Array TypeId} {ps qs : List PV} {r : PV} (hc : PCalls P f qs [] fun p s => p = r ∧ s = []) (h : Qak P J n ops Q od ((d, r) :: fr) st) (ho : ops[j]? = some ⟨some d, .call { callee := .value (.func f), args := xs, argTypes := ts }, ty, pos, after, gd⟩ := by rfl) (hd : d < n := by decide)
  (hw : PF.wants fr ops ⟨some d, .call { callee := .value (.func f), args := xs, argTypes := ts }, ty, pos, after, gd⟩ = some true := by exact eD)
  (hxs : Jo fr.eval xs.toList = some ps := by exact eQ)
  (hn : ps.map PV.norm1 = qs := by first | (simp [PV.norm1, PV.norm0, aggD, slD, Jh, Jk, Ji, Jj, Jg]; done) | fail) (hca : Qau P f = true := by rfl) : Qak P J n ops Q ((j, .a) :: od) fr st := PJ_call hc h ho hd hw hxs hn hca
end
theorem jG {a b : Prop} (hb : b) (h : Hd2 b → a := by
 intro k
 repeat (first | with_reducible refine PJ_nil ?_ | refine PJ_gn2 ?_ | refine PJ_s2 ?_ | refine PJ_b2 ?_)
 exact Hd2.out k) : a := h hb
section
variable {P : Program} {n : Nat} {ops : Array Oper} {Q : PF → St → Prop} {rest : List Oper} {fr : PF} {st : St} {p : PV} {ty : TypeId} {pos : String} {after : Array Edge} {gd : Option (Nat × Bool)} {d : Nat}
end
theorem int_of {K : Kp} {w : World} {v : Value} {k : IntKind} {n : Int} (h : RelV K w (.d (.v (.int k n))) v) : v = .int k n := by
  cases h with
  | d h => cases h with
    | v h => rfl
section
variable {P : Program} {n : Nat} {ops : Array Oper} {Q : PF → St → Prop} {rest : List Oper} {fr : PF} {st : St} {ty : TypeId} {pos : String} {after : Array Edge} {gd : Option (Nat × Bool)} {d : Nat}
theorem POps_max {x y : Operand} {ts : Array TypeId} {p q : PV} {k : IntKind} {a b : Int} (z : Int) (hz : (if a < b then b else a) = z) (h : POps P n ops Q rest ((d, .d (.v (.int k z))) :: fr) st) (hd : d < n := by decide)
  (hw : PF.wants fr ops ⟨some d, .call { callee := .builtin .max, args := #[x, y], argTypes := ts }, ty, pos, after, gd⟩ = some true := by rfl) (hx : fr.eval x = some p := by exact eQ) (hp : p = .d (.v (.int k a)) := by rfl) (hy : fr.eval y = some q := by exact eQ) (hq : q = .d (.v (.int k b)) := by rfl) : POps P n ops Q (⟨some d, .call { callee := .builtin .max, args := #[x, y], argTypes := ts }, ty, pos, after, gd⟩ :: rest) fr st := by
 subst hp; subst hq; subst hz
 refine Qde hd hw (POp.of_run fun F K w ac h1 h2 => ?_)
 have e1 := int_of (h2 x (by simp [Op.operands, Call.operands]) _ hx)
 have e2 := int_of (h2 y (by simp [Op.operands, Call.operands]) _ hy)
 refine ⟨.int k (if a < b then b else a), w, K, _, st, ?_, Ext.refl _ _ _, h1, .d (.v trivial), h⟩
 have hr := run_max_int2 (P := P) (w := w) ts ty k k a b
 simp only [execOp, resolve, invoke, builtin, Sem.run_bind, Sem.run_pure, Result.andThen_ok, List.map_toArray, List.map_cons, List.map_nil, e1, e2]
 rw [hr]; rfl
end
section
variable {P : Program} {J : St → Prop} {ops : Array Oper} {n : Nat} {kd : Nat → Kd} {md : Region.Mode}
def lastB (ops : Array Oper) (i : Nat) : Bool :=
 match ops[i]? with
 | none => false
 | some o => (List.range ops.size).all fun k => k == i || o.after.any fun e => Region.binds .any e && e.on == k
theorem last_ready {listed : Array Bool} {i : Nat} (hs : listed.size = ops.size) (hl : lastB ops i = true) (hi : i ∈ Region.ready .any ops listed) : Region.ready .any ops (listed.setIfInBounds i true) = [] := by
 refine List.eq_nil_iff_forall_not_mem.2 fun j hj => ?_
 obtain ⟨h0, o, ho, hall⟩ := mem_ready.1 hi
 obtain ⟨h1, oj, hoj, -⟩ := mem_ready.1 hj
 have hlt : j < ops.size := (Array.getElem?_eq_some_iff.1 hoj).1
 unfold lastB at hl
 rw [ho] at hl
 have h2 := List.all_eq_true.1 hl j (List.mem_range.2 hlt)
 simp only [Bool.or_eq_true, beq_iff_eq] at h2
 rcases h2 with rfl | h2
 ·simp [hs, hlt] at h1
 ·obtain ⟨e, he, h3⟩ := Array.any_eq_true'.1 h2
  simp only [Bool.and_eq_true, beq_iff_eq] at h3
  have h4 := hall e he h3.1
  rw [h3.2] at h4
  by_cases hji : i = j
  ·subst hji; simp [hs, hlt] at h1
  ·rw [getD_set_ne true hji] at h1
   have h5 := Qdf h1
   rw [h4] at h5; cases h5
def lOp (P : Program) (J : St → Prop) (ops : Array Oper) (n : Nat) (kd : Nat → Kd) (i : Nat) (K : G → St → Prop) (g : G) (st : St) : Prop :=
  match ops[i]? with
  | none => K g st
  | some o => (∀ d, o.dst = some d → d < n) ∧
    ((Qbo g ops o = some false ∧ K (gput g o.dst (.tup [])) st) ∨
     (Qbo g ops o = some true ∧
      match kd i with
      | .a => ∃ p, (∀ s, J s → POp P o (Qbd g) s fun q s' => q = p ∧ s' = s) ∧ K (gput g o.dst p) st
      | .b => ∃ p, (POp P o (Qbd g) st fun q s' => q = p ∧ s' = st) ∧ K (gput g o.dst p) st
      | .e => POp P o (Qbd g) st fun p s' => (lastB ops i = true ∨ J s') ∧ K (gput g o.dst p) s'))
theorem lOp_mono {i : Nat} {K K' : G → St → Prop} {g : G} {st : St} (h : ∀ g s, K g s → K' g s) (hh : lOp P J ops n kd i K g st) : lOp P J ops n kd i K' g st := by
 unfold lOp at *
 split
 ·rename_i ho; rw [ho] at hh; exact h _ _ hh
 ·rename_i o ho
  rw [ho] at hh
  obtain ⟨hd, hh⟩ := hh
  refine ⟨hd, ?_⟩
  rcases hh with ⟨h1, h2⟩ | ⟨h1, h2⟩
  ·exact .inl ⟨h1, h _ _ h2⟩
  ·refine .inr ⟨h1, ?_⟩
   cases hk : kd i with
   | a => rw [hk] at h2; obtain ⟨p, h3, h4⟩ := h2; exact ⟨p, h3, h _ _ h4⟩
   | b => rw [hk] at h2; obtain ⟨p, h3, h4⟩ := h2; exact ⟨p, h3, h _ _ h4⟩
   | e => rw [hk] at h2; exact h2.mono fun p s hs => ⟨hs.1, h _ _ hs.2⟩
def lAny (P : Program) (J : St → Prop) (md : Region.Mode) (ops : Array Oper) (n : Nat) (kd : Nat → Kd) (Q : G → St → Prop) : Nat → Array Bool → G → St → Prop
  | 0, listed, g, st => Region.ready md ops listed = [] ∧ Q g st
  | fuel + 1, listed, g, st =>
    (Region.ready md ops listed = [] → Q g st) ∧ ∀ i ∈ Region.ready md ops listed, lOp P J ops n kd i (lAny P J md ops n kd Q fuel (listed.setIfInBounds i true)) g st
theorem wpAny_lAny {Q : G → St → Prop} {Q' : Exit → Act → World → Prop} {F : Fz} {K0 : Kp} {w0 : World} (hQ : ∀ K w a g st, Ext F K0 w0 K w → Rel F st K w → FG n g K w a → Q g st → Q' .normal a w) :
    ∀ (fuel : Nat) (listed : Array Bool) (g : G) (st : St) (K : Kp) (w : World) (a : Act), listed.size = ops.size → Ext F K0 w0 K w → Rel F st K w → FG n g K w a → (Region.ready .any ops listed = [] ∨ J st) → lAny P J .any ops n kd Q fuel listed g st → wpAny P .any ops Q' fuel listed a w := by
  intro fuel
  induction fuel with
  | zero => intro listed g st K w a hls hx hr hf hJ h; exact ⟨h.1, hQ K w a g st hx hr hf h.2⟩
  | succ fuel ih =>
    intro listed g st K w a hls hx hr hf hJ h
    refine ⟨fun h0 => hQ K w a g st hx hr hf (h.1 h0), fun i hi => ?_⟩
    have hJ : J st := by
      rcases hJ with hJ | hJ
      · rw [hJ] at hi; cases hi
      · exact hJ
    have hls' : (listed.setIfInBounds i true).size = ops.size := by simp [hls]
    have hop := h.2 i hi
    unfold lOp at hop
    unfold wpOp
    split
    · rename_i ho
      rw [ho] at hop
      exact ih _ g st K w a hls' hx hr hf (.inr hJ) hop
    · rename_i o ho
      rw [ho] at hop
      obtain ⟨hd, hop⟩ := hop
      rcases hop with ⟨h1, h2⟩ | ⟨h1, h2⟩
      · rw [Qdt hf h1]
        exact ih _ _ st K w _ hls' hx hr (hf.put hd (.tup rfl fun i p v hp _ => by simp at hp)) (.inr hJ) h2
      · rw [Qdt hf h1]
        simp only [if_true]
        refine .inl ?_
        have hgen : POp P o (Qbd g) st fun p s' => (lastB ops i = true ∨ J s') ∧ lAny P J .any ops n kd Q fuel (listed.setIfInBounds i true) (gput g o.dst p) s' := by
          cases hk : kd i with
          | a =>
            rw [hk] at h2; obtain ⟨p, h3, h4⟩ := h2
            exact (h3 st hJ).mono fun q s ⟨e1, e2⟩ => by subst e1; subst e2; exact ⟨.inr hJ, h4⟩
          | b =>
            rw [hk] at h2; obtain ⟨p, h3, h4⟩ := h2
            exact h3.mono fun q s ⟨e1, e2⟩ => by subst e1; subst e2; exact ⟨.inr hJ, h4⟩
          | e => rw [hk] at h2; exact h2
        exact hgen F K w a _ _ hr (fun x _ p hp => hf.eval x p hp) fun K' w' p st' v b1 b2 b3 b4 => ih _ _ st' K' w' _ hls' (hx.trans b1) b2 ((hf.mono b1).put hd b3) (b4.1.imp (fun hl => last_ready hls hl hi) id) b4.2
def lYields (P : Program) (J : St → Prop) (ops : Array Oper) (n : Nat) (k : Kd) (o : Oper) (p : PV) (g : G) (st : St) : Prop :=
  (∀ d, o.dst = some d → d < n) ∧
  ((Qbo g ops o = some false ∧ p = .tup []) ∨
   (Qbo g ops o = some true ∧
    match k with
    | .a => ∀ s, J s → POp P o (Qbd g) s fun q s' => q = p ∧ s' = s
    | .b => POp P o (Qbd g) st fun q s' => q = p ∧ s' = st
    | .e => False))
theorem lYields.op {i : Nat} {o : Oper} {p : PV} {g : G} {st : St} (hi : ops[i]? = some o) (hy : lYields P J ops n (kd i) o p g st) {K : G → St → Prop} (h : K (gput g o.dst p) st) : lOp P J ops n kd i K g st := by
 unfold lOp
 rw [hi]
 obtain ⟨hd, hy⟩ := hy
 refine ⟨hd, ?_⟩
 rcases hy with ⟨h1, rfl⟩ | ⟨h1, h2⟩
 ·exact .inl ⟨h1, h⟩
 ·refine .inr ⟨h1, ?_⟩
  cases hk : kd i with
  | a => rw [hk] at h2; exact ⟨p, h2, h⟩
  | b => rw [hk] at h2; exact ⟨p, h2, h⟩
  | e => rw [hk] at h2; exact h2.elim
theorem lYields.put {k : Kd} {o : Oper} {p : PV} {g : G} {st : St} (hy : lYields P J ops n k o p g st) {dst : Option Tmp} {q : PV} (h : ∀ d, dst = some d → d ∉ o.looksAt ops) : lYields P J ops n k o p (gput g dst q) st := by
 obtain ⟨hd, hy⟩ := hy
 refine ⟨hd, ?_⟩
 rw [Qdi h]
 rcases hy with ⟨h1, h2⟩ | ⟨h1, h2⟩
 ·exact .inl ⟨h1, h2⟩
 ·refine .inr ⟨h1, ?_⟩
  cases k with
  | a => exact fun s hs => (h2 s hs).congr fun x hx => (Qba h x hx).symm
  | b => exact POp.congr h2 fun x hx => (Qba h x hx).symm
  | e => exact h2
theorem lOp_put {i j : Nat} {oi oj : Oper} {p : PV} (hj : ops[j]? = some oj) (hap : oi.apart ops oj = true) {K : G → St → Prop} {g : G} {st : St} (hy : lYields P J ops n (kd i) oi p g st) (hb : kd i = .b → kd j ≠ .e) (h : lOp P J ops n kd j K (gput g oi.dst p) st) :
    lOp P J ops n kd j (fun g' s' => lYields P J ops n (kd i) oi p g' s' ∧ K (gput g' oi.dst p) s') g st := by
  obtain ⟨h1, h2, h3⟩ := Oper.apart_spec hap
  unfold lOp at *
  rw [hj] at h ⊢
  simp only at h ⊢
  obtain ⟨hd, h⟩ := h
  rw [Qdi h1] at h
  refine ⟨hd, ?_⟩
  rcases h with ⟨e1, e2⟩ | ⟨e1, e2⟩
  · exact .inl ⟨e1, hy.put h3, by rw [← Qbm g p _ h2]; exact e2⟩
  · refine .inr ⟨e1, ?_⟩
    cases hk : kd j with
    | a =>
      rw [hk] at e2
      obtain ⟨q, e3, e4⟩ := e2
      exact ⟨q, fun s hs => (e3 s hs).congr fun x hx => Qba h1 x hx, hy.put h3, by rw [← Qbm g p _ h2]; exact e4⟩
    | b =>
      rw [hk] at e2
      obtain ⟨q, e3, e4⟩ := e2
      exact ⟨q, e3.congr fun x hx => Qba h1 x hx, hy.put h3, by rw [← Qbm g p _ h2]; exact e4⟩
    | e =>
      rw [hk] at e2
      refine (POp.congr e2 fun x hx => Qba h1 x hx).mono fun q s hs => ⟨hs.1, ?_, by rw [← Qbm g p _ h2]; exact hs.2⟩
      have hy2 := hy.put (dst := oj.dst) (q := q) h3
      obtain ⟨d1, d2⟩ := hy2
      refine ⟨d1, ?_⟩
      rcases d2 with d2 | ⟨d2, d3⟩
      · exact .inl d2
      · refine .inr ⟨d2, ?_⟩
        cases hki : kd i with
        | a => rw [hki] at d3; exact d3
        | b => exact absurd hk (hb hki)
        | e => rw [hki] at d3; exact d3.elim
theorem lAny_first {Q : G → St → Prop} {i : Nat} {oi : Oper} {p : PV} (hi : ops[i]? = some oi) : ∀ (fuel : Nat) (listed : Array Bool) (g : G) (st : St), DC md ops listed →
    (∀ j oj, ops[j]? = some oj → j ≠ i → listed.getD j true = false → (∀ e ∈ oj.after, Region.binds md e = true → e.on ≠ i) → oi.apart ops oj = true) →
    (kd i = .b → ∀ j, kd j = .e → listed.getD j true = false → j < ops.size → ∃ f, Qdz md ops i f j = true) →
    i ∈ Region.ready md ops listed → lYields P J ops n (kd i) oi p g st → lAny P J md ops n kd Q fuel (listed.setIfInBounds i true) (gput g oi.dst p) st → lAny P J md ops n kd Q (fuel + 1) listed g st := by
  intro fuel
  induction fuel with
  | zero =>
    intro listed g st hdc _ _ hr hy H
    refine ⟨fun h => (by rw [h] at hr; cases hr), fun j hj => ?_⟩
    by_cases hji : j = i
    · subst hji; exact hy.op hi H
    · have := ready_mono hj hji
      rw [H.1] at this
      cases this
  | succ fuel ih =>
    intro listed g st hdc hfree hB hr hy H
    refine ⟨fun h => (by rw [h] at hr; cases hr), fun j hj => ?_⟩
    by_cases hji : j = i
    · subst hji; exact hy.op hi H
    · have h1 := H.2 j (ready_mono hj hji)
      obtain ⟨hjun, oj, hoj, hall⟩ := mem_ready.1 hj
      have hiun := (mem_ready.1 hr).1
      have hnot : ∀ e ∈ oj.after, Region.binds md e = true → e.on ≠ i := fun e he hb heq => by
        have h1 := hall e he hb
        rw [heq] at h1
        have h2 := Qdf hiun
        rw [h1] at h2; cases h2
      have hlt : j < ops.size := (Array.getElem?_eq_some_iff.1 hoj).1
      have hbj : kd i = .b → kd j ≠ .e := fun hb he => by
        obtain ⟨f, hw⟩ := hB hb j he hjun hlt
        exact Qfd hdc hw hiun hj
      have h2 := lOp_put hoj (hfree j oj hoj hji hjun hnot) hy hbj h1
      refine lOp_mono (fun g' s' h3 => ih (listed.setIfInBounds j true) g' s' (hdc.set hj) (fun k ok hk hki hun hno => ?_) (fun hb k hk hun hkl => ?_) (ready_mono hr (Ne.symm hji)) h3.1 ?_) h2
      · refine hfree k ok hk hki ?_ hno
        by_cases hjk : j = k
        · subst hjk; exact hjun
        · rw [getD_set_ne true hjk] at hun; exact hun
      · refine hB hb k hk ?_ hkl
        by_cases hjk : j = k
        · subst hjk; exact hjun
        · rw [getD_set_ne true hjk] at hun; exact hun
      · rw [Array.setIfInBounds_comm _ _ hji]
        exact h3.2
def Qan (P : Program) (J : St → Prop) (n : Nat) (ops : Array Oper) (Q : PF → St → Prop) : List (Nat × Kd) → PF → St → Prop
  | [], fr, st => Q fr st
  | (i, k) :: rest, fr, st => ∃ o, ops[i]? = some o ∧ (∀ d, o.dst = some d → d < n) ∧
    ((fr.wants ops o = some false ∧ Qan P J n ops Q rest (fr.put o.dst (.tup [])) st) ∨
     (fr.wants ops o = some true ∧
      match k with
      | .a => ∃ p, (∀ s, J s → POp P o fr.eval s fun q s' => q = p ∧ s' = s) ∧ Qan P J n ops Q rest (fr.put o.dst p) st
      | .b => ∃ p, (POp P o fr.eval st fun q s' => q = p ∧ s' = st) ∧ Qan P J n ops Q rest (fr.put o.dst p) st
      | .e => POp P o fr.eval st fun p s' => (lastB ops i = true ∨ J s') ∧ Qan P J n ops Q rest (fr.put o.dst p) s'))
theorem lAny_ord {Q : PF → St → Prop} {all : List (Nat × Kd)} : ∀ (l : List (Nat × Kd)) (listed : Array Bool) (fr : PF) (st : St), DC md ops listed → Qco md ops all l listed = true → Qan P J n ops Q l fr st → lAny P J md ops n (kdOf all) (fun g s => ∃ fr : PF, fr.get = g ∧ Q fr s) l.length listed fr.get st := by
  intro l
  induction l with
  | nil => intro listed fr st _ hB h; exact ⟨by simpa [Qco] using hB, fr, rfl, h⟩
  | cons x rest ih =>
    intro listed fr st hdc hB h
    obtain ⟨i, k⟩ := x
    simp only [Qco, Bool.and_eq_true] at hB
    obtain ⟨⟨⟨hr, hk⟩, hB1⟩, hB2⟩ := hB
    have hr' : i ∈ Region.ready md ops listed := by simpa using hr
    have hk' : kdOf all i = k := by simpa using hk
    obtain ⟨o, ho, hd, h⟩ := h
    have free : freeB md ops i listed = true → ∀ j oj, ops[j]? = some oj → j ≠ i → listed.getD j true = false → (∀ e ∈ oj.after, Region.binds md e = true → e.on ≠ i) → o.apart ops oj = true := by
      intro hf j oj hj hji hun hno
      unfold freeB at hf
      rw [ho] at hf
      simp only [List.all_eq_true, List.mem_range] at hf
      have hlt : j < ops.size := (Array.getElem?_eq_some_iff.1 hj).1
      have := hf j hlt
      rw [hj] at this
      simp only [hun, Bool.or_false, Bool.or_eq_true, beq_iff_eq] at this
      rcases this with h | h | h
      · exact absurd h hji
      · obtain ⟨e, he, h⟩ := Array.any_eq_true'.1 h
        simp only [Bool.and_eq_true, beq_iff_eq] at h
        exact absurd h.2 (hno e he h.1)
      · exact h
    have nxt : ∀ p s, Qan P J n ops Q rest (fr.put o.dst p) s → lAny P J md ops n (kdOf all) (fun g s => ∃ fr : PF, fr.get = g ∧ Q fr s) rest.length (listed.setIfInBounds i true) (gput fr.get o.dst p) s := fun p s hp => by
      rw [← gput_get]; exact ih _ _ s (hdc.set hr') hB2 hp
    cases k with
    | a =>
      have hy : ∃ p, lYields P J ops n (kdOf all i) o p fr.get st ∧ Qan P J n ops Q rest (fr.put o.dst p) st := by
        rw [hk']
        rcases h with ⟨h1, h2⟩ | ⟨h1, p, h2, h3⟩
        · exact ⟨_, ⟨hd, .inl ⟨by rw [Qap]; exact h1, rfl⟩⟩, h2⟩
        · exact ⟨p, ⟨hd, .inr ⟨by rw [Qap]; exact h1, by rw [Qcg]; exact h2⟩⟩, h3⟩
      obtain ⟨p, hy, hp⟩ := hy
      exact lAny_first ho _ listed _ st hdc (free hB1) (fun hb => by rw [hk'] at hb; cases hb) hr' hy (nxt p st hp)
    | b =>
      have hy : ∃ p, lYields P J ops n (kdOf all i) o p fr.get st ∧ Qan P J n ops Q rest (fr.put o.dst p) st := by
        rw [hk']
        rcases h with ⟨h1, h2⟩ | ⟨h1, p, h2, h3⟩
        · exact ⟨_, ⟨hd, .inl ⟨by rw [Qap]; exact h1, rfl⟩⟩, h2⟩
        · exact ⟨p, ⟨hd, .inr ⟨by rw [Qap]; exact h1, by rw [Qcg]; exact h2⟩⟩, h3⟩
      obtain ⟨p, hy, hp⟩ := hy
      simp only [Bool.and_eq_true] at hB1
      refine lAny_first ho _ listed _ st hdc (free hB1.1) (fun _ j hj hun hlt => ?_) hr' hy (nxt p st hp)
      have := List.all_eq_true.1 hB1.2 j (List.mem_range.2 hlt)
      simp only [hj, hun, Bool.or_false] at this
      exact ⟨_, by simpa using this⟩
    | e =>
      have hsole : Region.ready md ops listed = [i] := by simpa using hB1
      refine ⟨fun h0 => (by rw [h0] at hr'; cases hr'), fun j hj => ?_⟩
      rw [hsole] at hj
      obtain rfl := List.mem_singleton.1 hj
      unfold lOp
      rw [ho]
      refine ⟨hd, ?_⟩
      rcases h with ⟨h1, h2⟩ | ⟨h1, h2⟩
      · exact .inl ⟨by rw [Qap]; exact h1, nxt _ st h2⟩
      · refine .inr ⟨by rw [Qap]; exact h1, ?_⟩
        rw [hk']
        simp only
        rw [Qcg]
        exact h2.mono fun p s hs => ⟨hs.1, nxt p s hs.2⟩
theorem PW_drawnL {id : Nat} {Q : Exit → PF → St → Prop} {fr : PF} {st : St} (order : List (Nat × Kd)) (hm : P.follows .mixedOrders = true) (hlen : order.length = ops.size) (hB : Qco .any ops order order (Array.replicate ops.size false) = true) (hJ : J st) (h : Qan P J n ops (Q .normal) order fr st) : PW P n (.region id ops true) Q fr st := by
 intro F K w a hr hf
 have hdc : DC .any ops (Array.replicate ops.size false) := fun j o ho hj => by
  exfalso
  have hlt : j < ops.size := (Array.getElem?_eq_some_iff.1 ho).1
  simp [hlt] at hj
 have hx : Ext F K w K { w with drawn := w.drawn + 1 } := ⟨rfl, rfl, rfl, Nat.le_refl _, fun _ _ => rfl, fun _ _ h => ⟨h, rfl⟩, fun _ _ h => .inl h, fun _ _ h => h, fun g u h => ⟨u, h, .inl rfl⟩, fun _ _ => rfl⟩
 have hr2 : Rel F st K { w with drawn := w.drawn + 1 } := ⟨hr.kc, hr.ff, hr.fin, hr.fi, fun e he => (hr.ents e he).keep hx (fun _ _ => rfl) (fun _ _ _ h => h) fun _ _ => rfl, hr.nb, hr.nt⟩
 have hany := lAny_ord (md := .any) order _ fr st hdc hB h
 rw [hlen] at hany
 exact wp_region_any hm (wpAny_lAny (K0 := K) (w0 := w) (F := F) (Q := fun g s => ∃ fr : PF, fr.get = g ∧ Q .normal fr s) (fun K' w' a' g' st' h1 h2 h3 ⟨fr', e, h4⟩ => ⟨K', fr', st', h1, h2, by subst e; exact h3.fr, h4⟩) _ _ _ st K _ a (by simp) hx hr2 (hf.mono hx).fg (.inr hJ) hany)
end
section
variable {P : Program} {J : St → Prop} {n : Nat} {ops : Array Oper} {Q : PF → St → Prop} {fr : PF} {st : St} {p : PV} {op : Op} {ty : TypeId} {pos : String} {after : Array Edge} {gd : Option (Nat × Bool)} {od : List (Nat × Kd)} {j d : Nat}
theorem PL_nil (h : Q fr st) : Qan P J n ops Q [] fr st := h
theorem PL_s (h : Qan P J n ops Q od ((d, p) :: fr) st) (ho : ops[j]? = some ⟨some d, op, ty, pos, after, gd⟩) (hd : d < n) (hw : PF.wants fr ops ⟨some d, op, ty, pos, after, gd⟩ = some true) (he : nev P fr.eval op = some p) : Qan P J n ops Q ((j, .a) :: od) fr st :=
 ⟨_, ho, fun _ e => by cases e; exact hd, .inr ⟨hw, p, fun s _ => nev_ok (o := ⟨some d, op, ty, pos, after, gd⟩) he s, h⟩⟩
theorem PL_gn {k : Kd} (h : Qan P J n ops Q od ((d, .tup []) :: fr) st) (ho : ops[j]? = some ⟨some d, op, ty, pos, after, gd⟩) (hd : d < n) (hw : PF.wants fr ops ⟨some d, op, ty, pos, after, gd⟩ = some false) : Qan P J n ops Q ((j, k) :: od) fr st :=
 ⟨_, ho, fun _ e => by cases e; exact hd, .inl ⟨hw, h⟩⟩
theorem PL_b {l : List (Nat × TypeId × List PV)} {t : TypeId} {a : Operand} {i off : Nat} {T : Ty} {U : TypeId} {cs : List PV} (h : Qan P (Qct l) n ops Q od ((d, p) :: fr) st) (ho : ops[j]? = some ⟨some d, .load t a, ty, pos, after, gd⟩) (hd : d < n) (hw : PF.wants fr ops ⟨some d, .load t a, ty, pos, after, gd⟩ = some true) (ha : fr.eval a = some (.ptr i off)) (hT : tyOf P t = some T) (hl : (i, U, cs) ∈ l) (he : Jn T (cs.drop off) = some p) : Qan P (Qct l) n ops Q ((j, .a) :: od) fr st :=
 ⟨_, ho, fun _ e => by cases e; exact hd, .inr ⟨hw, p, fun s hs => Qen (o := ⟨some d, .load t a, ty, pos, after, gd⟩) (by simp only [nevB, ha, hT, hs _ hl]; exact he), h⟩⟩
theorem PL_e (ho : ops[j]? = some ⟨some d, op, ty, pos, after, gd⟩) (hd : d < n) (hw : PF.wants fr ops ⟨some d, op, ty, pos, after, gd⟩ = some true) (h : POp P ⟨some d, op, ty, pos, after, gd⟩ fr.eval st fun p st' => (lastB ops j = true ∨ J st') ∧ Qan P J n ops Q od ((d, p) :: fr) st') : Qan P J n ops Q ((j, .e) :: od) fr st :=
 ⟨_, ho, fun _ e => by cases e; exact hd, .inr ⟨hw, h⟩⟩
theorem PL_e0 (ho : ops[j]? = some ⟨none, op, ty, pos, after, gd⟩) (hw : PF.wants fr ops ⟨none, op, ty, pos, after, gd⟩ = some true) (h : POp P ⟨none, op, ty, pos, after, gd⟩ fr.eval st fun _ st' => (lastB ops j = true ∨ J st') ∧ Qan P J n ops Q od fr st') : Qan P J n ops Q ((j, .e) :: od) fr st :=
 ⟨_, ho, fun _ e => (by cases e), .inr ⟨hw, h⟩⟩
theorem PL_call {f : Nat} {xs : Array Operand} {ts : Array TypeId} {ps qs : List PV} {r : PV} (hc : PCalls P f qs [] fun p s => p = r ∧ s = []) (h : Qan P J n ops Q od ((d, r) :: fr) st) (ho : ops[j]? = some ⟨some d, .call { callee := .value (.func f), args := xs, argTypes := ts }, ty, pos, after, gd⟩) (hd : d < n) (hw : PF.wants fr ops ⟨some d, .call { callee := .value (.func f), args := xs, argTypes := ts }, ty, pos, after, gd⟩ = some true) (hxs : Jo fr.eval xs.toList = some ps) (hn : ps.map PV.norm1 = qs) (hca : Qau P f = true) : Qan P J n ops Q ((j, .a) :: od) fr st := by
 exact ⟨_, ho, fun _ e => (by cases e; exact hd), .inr ⟨hw, r, fun s _ => Qet (o := ⟨some d, .call { callee := .value (.func f), args := xs, argTypes := ts }, ty, pos, after, gd⟩) rfl rfl rfl hxs hca hn hc s, h⟩⟩
theorem PL_store {t : TypeId} {x y : Operand} {q : PV} {i off : Nat} {T : Ty} {c : TypeId × List PV} {U : TypeId} {cs ps : List PV} {st' : St} (ho : ops[j]? = some ⟨none, .store t x y, ty, pos, after, gd⟩) (hw : PF.wants fr ops ⟨none, .store t x y, ty, pos, after, gd⟩ = some true) (hx : fr.eval x = some q) (hq : q = .ptr i off) (hy : fr.eval y = some p) (hps : p.ps = ps) (hone : ps.all PV.one = true) (hT : tyOf P t = some T) (hsz : ps.length = T.size) (hb : st.box? i = some c) (hc : c = (U, cs)) (hfit : off + ps.length ≤ cs.length) (hs : st.setBox i (spl cs off ps) = st') (hJ : lastB ops j = true ∨ J st')
  (h : Qan P J n ops Q od fr st') : Qan P J n ops Q ((j, .e) :: od) fr st :=
 PL_e0 ho hw (Qfm rfl hx hq hy hps hone hT hsz hb hc hfit hs ⟨hJ, h⟩)
theorem PLs {t : TypeId} {x y : Operand} {q : PV} {i off : Nat} {T : Ty} {c : TypeId × List PV} {U : TypeId} {cs ps : List PV} {st' : St} (h : Qan P J n ops Q od fr st') (ho : ops[j]? = some ⟨none, .store t x y, ty, pos, after, gd⟩ := by rfl) (hw : PF.wants fr ops ⟨none, .store t x y, ty, pos, after, gd⟩ = some true := by rfl) (hx : fr.eval x = some q := by exact eQ) (hq : q = .ptr i off := by rfl) (hy : fr.eval y = some p := by exact eQ) (hps : p.ps = ps := by simp [PV.ps, aggD, slD, Jh, Jk, Ji, Jj, Jg, Jf]; rfl) (hone : ps.all PV.one = true := by first | rfl | (simp [*]; done) | (simp [PV.one, *]; done) | fail) (hT : tyOf P t = some T := by simp; rfl) (hsz : ps.length = T.size := by first | (simp; done) | fail) (hb : st.box? i = some c := by exact eQ) (hc : c = (U, cs) := by rfl) (hfit : off + ps.length ≤ cs.length := by first | (simp; done) | fail) (hs : st.setBox i (spl cs off ps) = st' := by simp [St.setBox, spl, *]; rfl) (hJ : lastB ops j = true ∨ J st' := by first | exact .inl (by decide +kernel) | exact .inr (by (repeat (first | exact Qbn _ | refine Ju (by simp [St.box?, *] <;> rfl) ?_)))) : Qan P J n ops Q ((j, .e) :: od) fr st :=
 PL_store ho hw hx hq hy hps hone hT hsz hb hc hfit hs hJ h
theorem PL_bs {len : Nat} {t : TypeId} {parts : Array (Nat × Operand)} {E es bytes ts : Nat} {ea : Option Bool} {T0 : Ty} {e0 : Nat × Nat} {cells : List PV} {rows : List (List D)} (h : Qan P J n ops Q od ((d, .d (.sl rows)) :: fr) st) (ho : ops[j]? = some ⟨some d, .buildSlice t len parts, ty, pos, after, gd⟩) (hd : d < n) (hw : PF.wants fr ops ⟨some d, .buildSlice t len parts, ty, pos, after, gd⟩ = some true) (hT : tyOf P t = some T0) (hT2 : T0 = ⟨ts, .slice E es ea⟩) (hE : elOf P E = some e0) (hE2 : e0 = (es, bytes)) (h0 : 0 < len * es) (h24 : len * es ≤ 16777216) (hf : Qcd (fun i => some (i * es, es)) fr.eval (List.replicate (len * es) .u) parts.toList = some cells) (hr : Qcc es len cells = some rows) : Qan P J n ops Q ((j, .a) :: od) fr st :=
 ⟨_, ho, fun _ e => (by cases e; exact hd), .inr ⟨hw, _, fun s _ => Qea (o := ⟨some d, .buildSlice t len parts, ty, pos, after, gd⟩) rfl (hT2 ▸ hT) rfl (hE2 ▸ hE) h0 h24 hf hr s, h⟩⟩
end
section
variable {P : Program} {n : Nat} {ops : Array Oper} {Q : PF → St → Prop} {fr : PF} {st : St} {ty : TypeId} {pos : String} {after : Array Edge} {gd : Option (Nat × Bool)} {od : List (Nat × Kd)} {d j : Nat}
end
section
variable {P : Program} {J : St → Prop} {n : Nat} {ops : Array Oper} {Q : PF → St → Prop} {fr : PF} {st : St} {p : PV} {op : Op} {ty : TypeId} {pos : String} {after : Array Edge} {gd : Option (Nat × Bool)} {od : List (Nat × Kd)} {j d : Nat}
theorem PL_b2 {l : List (Nat × TypeId × List PV)} {t : TypeId} {a : Operand} {q : PV} {i off : Nat} {T : Ty} {x : TypeId × List PV} {U : TypeId} {cs : List PV} (h : Qan P (Qct l) n ops Q od ((d, p) :: fr) st)
  (ho : ops[j]? = some ⟨some d, .load t a, ty, pos, after, gd⟩ := by rfl) (hd : d < n := by decide)
  (hw : PF.wants fr ops ⟨some d, .load t a, ty, pos, after, gd⟩ = some true := by exact eD)
  (ha : fr.eval a = some q := by exact eQ) (hq : q = .ptr i off := by rfl) (hT : tyOf P t = some T := by simp; rfl)
  (hl : (i, x) ∈ l := by first | exact List.mem_cons_self | exact List.mem_cons_of_mem _ List.mem_cons_self | exact List.mem_cons_of_mem _ (List.mem_cons_of_mem _ List.mem_cons_self)) (hx : x = (U, cs) := by rfl)
  (he : Jn T (cs.drop off) = some p := by exact eQ) : Qan P (Qct l) n ops Q ((j, .a) :: od) fr st := by
 subst hq; subst hx
 exact PL_b h ho hd hw ha hT hl he
theorem PL_gn2 {k : Kd} (h : Qan P J n ops Q od ((d, .tup []) :: fr) st) (ho : ops[j]? = some ⟨some d, op, ty, pos, after, gd⟩ := by rfl) (hd : d < n := by decide) (hw : PF.wants fr ops ⟨some d, op, ty, pos, after, gd⟩ = some false := by exact eD) : Qan P J n ops Q ((j, k) :: od) fr st := PL_gn h ho hd hw
theorem PL_s2 (h : Qan P J n ops Q od ((d, p) :: fr) st) (ho : ops[j]? = some ⟨some d, op, ty, pos, after, gd⟩ := by rfl) (hd : d < n := by decide) (hw : PF.wants fr ops ⟨some d, op, ty, pos, after, gd⟩ = some true := by exact eD) (he : nev P fr.eval op = some p := by exact eQ) : Qan P J n ops Q ((j, .a) :: od) fr st := PL_s h ho hd hw he
theorem PL_call2 {f : Nat} {xs : Array Operand} {ts : Array TypeId} {ps qs : List PV} {r : PV} (hc : PCalls P f qs [] fun p s => p = r ∧ s = []) (h : Qan P J n ops Q od ((d, r) :: fr) st) (ho : ops[j]? = some ⟨some d, .call { callee := .value (.func f), args := xs, argTypes := ts }, ty, pos, after, gd⟩ := by rfl) (hd : d < n := by decide)
  (hw : PF.wants fr ops ⟨some d, .call { callee := .value (.func f), args := xs, argTypes := ts }, ty, pos, after, gd⟩ = some true := by exact eD)
  (hxs : Jo fr.eval xs.toList = some ps := by exact eQ)
  (hn : ps.map PV.norm1 = qs := by first | (simp [PV.norm1, PV.norm0, aggD, slD, Jh, Jk, Ji, Jj, Jg]; done) | fail) (hca : Qau P f = true := by rfl) : Qan P J n ops Q ((j, .a) :: od) fr st := PL_call hc h ho hd hw hxs hn hca
end
section
variable {P : Program} {J : St → Prop} {n : Nat} {ops : Array Oper} {Q : PF → St → Prop} {fr : PF} {st L M st0 : St} {ty : TypeId} {pos : String} {after : Array Edge} {gd : Option (Nat × Bool)} {d f j : Nat} {xs : Array Operand} {ts : Array TypeId} {ps qs : List PV} {R : PV → St → Prop} {od : List (Nat × Kd)}
end
theorem lG {a b : Prop} (hb : b) (h : Hd2 b → a := by
 intro k
 repeat (first | with_reducible refine PL_nil ?_ | refine PL_gn2 ?_ | refine PL_s2 ?_ | refine PL_b2 ?_)
 exact Hd2.out k) : a := h hb
section
variable {P : Program} {J : St → Prop} {n : Nat} {ops : Array Oper} {Q : PF → St → Prop} {rest : List Oper} {fr : PF} {st L M st0 : St} {p : PV} {ty : TypeId} {pos : String} {after : Array Edge} {gd : Option (Nat × Bool)} {d f j : Nat} {xs : Array Operand} {ts : Array TypeId} {ps qs first : List PV} {R : PV → St → Prop} {od : List (Nat × Kd)}
theorem PL_app {s x : Operand} {t xt : TypeId} {q : PV} {g : Nat} {rows rows' : List (List D)} {ts E es bytes : Nat} {ea : Option Bool} {T0 : Ty} {e0 : Nat × Nat} {c : TypeId × Nat × Nat} {st' : St} (n' : Nat)
  (h : Qan P J n ops Q od ((d, .own g (rows ++ rows')) :: fr) st') (hl0 : ∀ row ∈ rows, row.length = es) (hl : ∀ row ∈ rows', row.length = es) (hn' : rows.length + rows'.length = n') (hJ : lastB ops j = true ∨ J st')
  (ho : ops[j]? = some ⟨some d, .call { callee := .builtin .append, args := #[s, x], argTypes := #[t, xt] }, ty, pos, after, gd⟩ := by rfl) (hd : d < n := by decide)
  (hw : PF.wants fr ops ⟨some d, .call { callee := .builtin .append, args := #[s, x], argTypes := #[t, xt] }, ty, pos, after, gd⟩ = some true := by exact eD)
  (hs : fr.eval s = some q := by exact eQ) (hq : q = .own g rows := by rfl) (hx : fr.eval x = some p := by exact eQ) (hp : p.src = some rows' := by simp [PV.src, PV.rows]; rfl)
  (hT : tyOf P t = some T0 := by simp; rfl) (hT2 : T0 = ⟨ts, .slice E es ea⟩ := by rfl) (hX : Qbp ((tyOf P xt).map (·.k)) = true := by simp [Qbp]) (hE : elOf P E = some e0 := by simp; rfl) (hE2 : e0 = (es, bytes) := by rfl) (hes : 0 < es := by decide) (htok : st.tok? g = some c := by exact eQ) (hc : c = (E, es, rows.length) := by first | rfl | (simp; done) | (simp; omega) | fail) (hs' : st.setTok g n' = st' := by simp [St.setTok, *]; rfl) (hm : n' ≤ 4294967296 := by omega) (hb : bytes ≤ 32768 := by decide) : Qan P J n ops Q ((j, .e) :: od) fr st :=
 PL_e ho hd hw (op_app rfl hs hq hx hp hT hT2 hX hE hE2 hes htok hc hn' hs' hl0 hl hm hb ⟨hJ, h⟩)
end
section
variable {P : Program} {n : Nat} {ops : Array Oper} {Q : PF → St → Prop} {od : List (Nat × Kd)} {fr : PF} {st : St} {d j : Nat} {ty : TypeId} {pos : String} {after : Array Edge} {gd : Option (Nat × Bool)}
theorem POrd_max {x y : Operand} {ts : Array TypeId} {p q : PV} {k : IntKind} {a b : Int} (z : Int) (hz : (if a < b then b else a) = z) (h : POrd P n ops Q od ((d, .d (.v (.int k z))) :: fr) st) (ho : ops[j]? = some ⟨some d, .call { callee := .builtin .max, args := #[x, y], argTypes := ts }, ty, pos, after, gd⟩ := by rfl) (hd : d < n := by decide)
  (hw : PF.wants fr ops ⟨some d, .call { callee := .builtin .max, args := #[x, y], argTypes := ts }, ty, pos, after, gd⟩ = some true := by rfl) (hx : fr.eval x = some p := by exact eQ) (hp : p = .d (.v (.int k a)) := by rfl) (hy : fr.eval y = some q := by exact eQ) (hq : q = .d (.v (.int k b)) := by rfl) : POrd P n ops Q ((j, .a) :: od) fr st := by
 subst hp; subst hq; subst hz
 have key : ∀ s, POp P ⟨some d, .call { callee := .builtin .max, args := #[x, y], argTypes := ts }, ty, pos, after, gd⟩ fr.eval s fun q s' => q = .d (.v (.int k (if a < b then b else a))) ∧ s' = s := fun s => by
  refine POp.of_run fun F K w ac h1 h2 => ?_
  have e1 := int_of (h2 x (by simp [Op.operands, Call.operands]) _ hx)
  have e2 := int_of (h2 y (by simp [Op.operands, Call.operands]) _ hy)
  refine ⟨.int k (if a < b then b else a), w, K, _, s, ?_, Ext.refl _ _ _, h1, .d (.v trivial), rfl, rfl⟩
  have hr := run_max_int2 (P := P) (w := w) ts ty k k a b
  simp only [execOp, resolve, invoke, builtin, Sem.run_bind, Sem.run_pure, Result.andThen_ok, List.map_toArray, List.map_cons, List.map_nil, e1, e2]
  rw [hr]; rfl
 exact ⟨_, ho, fun _ e => (by cases e; exact hd), .inr ⟨hw, _, key, h⟩⟩
end
section
variable {P : Program} {J : St → Prop} {n : Nat} {ops : Array Oper} {Q : PF → St → Prop} {od : List (Nat × Kd)} {fr : PF} {st : St} {p : PV} {d j : Nat} {ty : TypeId} {pos : String} {after : Array Edge} {gd : Option (Nat × Bool)}
theorem PJ_bs0 {t : TypeId} {ts E es bytes : Nat} {ea : Option Bool} {T0 : Ty} {e0 : Nat × Nat} (hJ : ∀ g, st.freshT g → J (.tok g E es 0 :: st)) (h : ∀ g, st.freshT g → Qak P J n ops Q od ((d, .own g []) :: fr) (.tok g E es 0 :: st)) (ho : ops[j]? = some ⟨some d, .buildSlice t 0 #[], ty, pos, after, gd⟩ := by rfl) (hd : d < n := by decide) (hw : PF.wants fr ops ⟨some d, .buildSlice t 0 #[], ty, pos, after, gd⟩ = some true := by exact eD) (hT : tyOf P t = some T0 := by simp; rfl) (hT2 : T0 = ⟨ts, .slice E es ea⟩ := by rfl) (hE : elOf P E = some e0 := by simp; rfl) (hE2 : e0 = (es, bytes) := by rfl) (h0 : 0 < es := by decide) : Qak P J n ops Q ((j, .e) :: od) fr st :=
 PJ_e ho hd hw (Qes rfl (hT2 ▸ hT) rfl (hE2 ▸ hE) h0 fun g hg => ⟨hJ g hg, h g hg⟩)
theorem Qfg {t : TypeId} {x : Operand} {lo hi : Option Operand} {ts E es : Nat} {ea : Option Bool} {T0 : Ty} {rows rows' : List (List D)} (l h : Nat) (hk : Qak P J n ops Q od ((d, .d (.sl rows')) :: fr) st) (hl : ∀ row ∈ rows, row.length = es) (he : (rows.take h).drop l = rows') (ho : ops[j]? = some ⟨some d, .slice t x lo hi none, ty, pos, after, gd⟩ := by rfl) (hd : d < n := by decide) (hw : PF.wants fr ops ⟨some d, .slice t x lo hi none, ty, pos, after, gd⟩ = some true := by exact eD) (hT : tyOf P t = some T0 := by simp; rfl) (hT2 : T0 = ⟨ts, .slice E es ea⟩ := by rfl) (hes : es ≠ 0 := by decide) (hx : fr.eval x = some p := by exact eQ) (hp : p.rows = some rows := by first | rfl | (simp [PV.rows]; done) | (simp [PV.rows]; rfl)) (hlo : lowOf fr.eval lo = some (l : Int) := by first | rfl | (simp [lowOf, PF.eval, PF.get, cPV, Qdh, *]; done) | fail) (hhi : Qeq fr.eval rows.length hi = some (h : Int) := by first | rfl | (simp [Qeq, PF.eval, PF.get, cPV, Qdh, *]; done) | fail) (h1 : l ≤ h := by first | omega | (simp; done) | (simp; omega)) (h2 : h ≤ rows.length := by first | omega | (simp; done) | (simp; omega)) : Qak P J n ops Q ((j, .a) :: od) fr st := by
 subst he
 exact ⟨_, ho, fun _ e => (by cases e; exact hd), .inr ⟨hw, _, fun s _ => POp_slice (o := ⟨some d, .slice t x lo hi none, ty, pos, after, gd⟩) rfl (hT2 ▸ hT) rfl hes hx hp hl hlo hhi h1 h2 s, hk⟩⟩
theorem PJ_app {s x : Operand} {t xt : TypeId} {q : PV} {g : Nat} {rows rows' : List (List D)} {ts E es bytes : Nat} {ea : Option Bool} {T0 : Ty} {e0 : Nat × Nat} {c : TypeId × Nat × Nat} {st' : St} (n' : Nat) (hn' : rows.length + rows'.length = n') (hl0 : ∀ row ∈ rows, row.length = es) (hl : ∀ row ∈ rows', row.length = es) (hJ : J st') (h : Qak P J n ops Q od ((d, .own g (rows ++ rows')) :: fr) st') (ho : ops[j]? = some ⟨some d, .call { callee := .builtin .append, args := #[s, x], argTypes := #[t, xt] }, ty, pos, after, gd⟩ := by rfl) (hd : d < n := by decide) (hw : PF.wants fr ops ⟨some d, .call { callee := .builtin .append, args := #[s, x], argTypes := #[t, xt] }, ty, pos, after, gd⟩ = some true := by rfl) (hs : fr.eval s = some q := by exact eQ) (hq : q = .own g rows := by rfl) (hx : fr.eval x = some p := by exact eQ) (hp : p.src = some rows' := by simp [PV.src, PV.rows]; rfl) (hT : tyOf P t = some T0 := by simp; rfl) (hT2 : T0 = ⟨ts, .slice E es ea⟩ := by rfl) (hX : Qbp ((tyOf P xt).map (·.k)) = true := by simp [Qbp]) (hE : elOf P E = some e0 := by simp; rfl) (hE2 : e0 = (es, bytes) := by rfl) (hes : 0 < es := by decide) (htok : st.tok? g = some c := by exact eQ) (hc : c = (E, es, rows.length) := by first | rfl | (simp; done) | (simp; omega) | fail) (hs' : st.setTok g n' = st' := by simp [St.setTok, *]; rfl) (hm : n' ≤ 4294967296 := by omega) (hb : bytes ≤ 32768 := by decide) : Qak P J n ops Q ((j, .e) :: od) fr st :=
 PJ_e ho hd hw (op_app rfl hs hq hx hp hT hT2 hX hE hE2 hes htok hc hn' hs' hl0 hl hm hb ⟨hJ, h⟩)
theorem PJ_min {x y : Operand} {ts : Array TypeId} {p q : PV} {k : IntKind} {a b : Int} (z : Int) (hz : (if b < a then b else a) = z) (h : Qak P J n ops Q od ((d, .d (.v (.int k z))) :: fr) st) (ho : ops[j]? = some ⟨some d, .call { callee := .builtin .min, args := #[x, y], argTypes := ts }, ty, pos, after, gd⟩ := by rfl) (hd : d < n := by decide)
  (hw : PF.wants fr ops ⟨some d, .call { callee := .builtin .min, args := #[x, y], argTypes := ts }, ty, pos, after, gd⟩ = some true := by rfl) (hx : fr.eval x = some p := by exact eQ) (hp : p = .d (.v (.int k a)) := by rfl) (hy : fr.eval y = some q := by exact eQ) (hq : q = .d (.v (.int k b)) := by rfl) : Qak P J n ops Q ((j, .a) :: od) fr st := by
 subst hp; subst hq; subst hz
 have key : ∀ s, J s → POp P ⟨some d, .call { callee := .builtin .min, args := #[x, y], argTypes := ts }, ty, pos, after, gd⟩ fr.eval s fun q s' => q = .d (.v (.int k (if b < a then b else a))) ∧ s' = s := fun s _ => by
  refine POp.of_run fun F K w ac h1 h2 => ?_
  have e1 := int_of (h2 x (by simp [Op.operands, Call.operands]) _ hx)
  have e2 := int_of (h2 y (by simp [Op.operands, Call.operands]) _ hy)
  refine ⟨.int k (if b < a then b else a), w, K, _, s, ?_, Ext.refl _ _ _, h1, .d (.v trivial), rfl, rfl⟩
  have hr := run_min_int2 (P := P) (w := w) ts ty k k a b
  simp only [execOp, resolve, invoke, builtin, Sem.run_bind, Sem.run_pure, Result.andThen_ok, List.map_toArray, List.map_cons, List.map_nil, e1, e2]
  rw [hr]; rfl
 exact ⟨_, ho, fun _ e => (by cases e; exact hd), .inr ⟨hw, _, key, h⟩⟩
end
theorem Qfi {P : Program} {n : Nat} {Q : Exit → PF → St → Prop} {fr : PF} {st : St} {c : Code} {t i : Nat} {cs : List PV} {rows : List (List D)} (ht : fr.get t = some (.agg cs)) (hi : cs[i]? = some (.d (.sl rows))) (h : rows.length ≤ maxLen → PW P n c Q fr st) : PW P n c Q fr st := by
  intro F K w a hr hf
  have h0 := hf.at_ t _ ht
  generalize a.tmps.getD t undef = v at h0
  cases h0 with
  | @agg _ vs h1 h2 =>
    have hlt : i < vs.size := by have := (List.getElem?_eq_some_iff.1 hi).1; omega
    have h3 := h2 i _ vs[i] hi (Array.getElem?_eq_getElem hlt)
    obtain ⟨a', cap, hv, h4, h5⟩ := Qei (Qcl (rows := rows) rfl h3)
    exact h (by omega) F K w a hr hf
theorem gs_ {a b : Prop} (hb : b) (h : Hd2 b → a := by
  intro k
  repeat (first | (with_reducible first | refine Qa ?_ | refine Qb ?_ | refine Qd ?_ | refine Qe ?_ | refine Qf ?_ | refine Qg ?_ | refine Qh ?_ | refine Qi ?_ | refine Qj ?_ | refine Qk ?_ | refine Ql ?_ | refine Qm ?_ | refine Qn ?_ | refine Qo ?_ | refine Qp rfl ?_) | (first | refine Qq ?_ | refine Qr ?_) | (first | refine Qs ?_ | refine Qt ?_ | refine Qu ?_) | (first | refine Qv ?_ | refine Qw ?_) | (first | refine Qx ?_ | refine Qy ?_) | (first | refine Qz ?_ | refine Ra ?_ | refine Rb ?_))
  exact Hd2.out k) : a := h hb
theorem PW_norm {P : Program} {n : Nat} {Q : Exit → PF → St → Prop} {fr : PF} {st : St} {c : Code} (t : Nat) {p : PV} (ht : fr.get t = some p) (h : PW P n c Q ((t, p.norm0) :: fr) st) : PW P n c Q fr st := by
 intro F K w a hr hf
 refine h F K w a hr ⟨hf.size, hf.defers, fun t' p' hp => ?_⟩
 simp only [PF.get] at hp
 split at hp
 ·rename_i e
  subst e
  obtain rfl := Option.some.inj hp
  exact Qev _ _ _ _ (hf.at_ t p ht)
 ·exact hf.at_ t' p' hp
def K0 (w : World) : Kp := ⟨fun b o => ∃ v, w.cell? ⟨b, o, none⟩ = some v, fun _ => none, fun _ => none⟩
def F0 (w : World) : Fz := ⟨fun b => b < w.heap.size, fun _ => False⟩
theorem rel0 (w : World) : Rel (F0 w) [] (K0 w) w := ⟨fun _ _ h => h, fun _ h => h, ⟨0, fun _ _ => ⟨rfl, rfl⟩⟩, fun _ h => h.elim, fun e he => (by cases he), by simp, by simp⟩
theorem PCalls.top {P : Program} {f : FuncId} {args : List PV} {x : Value} (h : PCalls P f args [] fun p _ => p = .d (.v x)) {w : World} {vs : Array Value} (ha : RelVs (K0 w) w args vs) : Calls P f vs w fun e w' => e = .returned x ∧ Below w.heap.size w w' := by
 refine (h (F0 w) (K0 w) w vs (rel0 w) ha).mono ?_
 rintro e w' ⟨v, K', p, st', rfl, hx, hr, hv, rfl⟩
 obtain ⟨rfl, -⟩ := hv.flat
 exact ⟨rfl, hx.os, hx.tape, hx.output, hx.size, fun k hk => hx.hp k hk⟩
theorem Qgf {F : Fz} {K : Kp} {w w' : World} (hb : Below w.heap.size w w') (hF : ∀ b, F.blk b → b < w.heap.size) (hk : ∀ b o, K.cell b o → b < w.heap.size) {K' : Kp} (h1 : ∀ b o, K.cell b o → K'.cell b o) (h2 : ∀ b o, K'.cell b o → K.cell b o ∨ w.heap.size ≤ b) (h3 : K'.box = K.box) (h4 : K'.own = K.own) : Ext F K w K' w' :=
 ⟨hb.os, hb.tape, hb.output, hb.size, fun b h => hb.block b (hF b h), fun b o h => ⟨h1 b o h, hb.cell (p := ⟨b, o, none⟩) (hk b o h)⟩, fun b o h => (h2 b o h).imp id fun h' hf => by have := hF b hf; omega, fun i b h => by rw [h3]; exact h, fun g u h => ⟨u, by rw [h4]; exact h, .inl rfl⟩, fun g _ => by rw [h4]⟩
theorem PCalls.flat {P : Program} {f : FuncId} {args : List PV} {x : Value} (hx : okv x) (h : ∀ (K : Kp) (w : World) (vs : Array Value), RelVs K w args vs → Calls P f vs w fun e w' => e = .returned x ∧ Below w.heap.size w w') : PCalls P f args [] fun p s => p = .d (.v x) ∧ s = [] := by
 intro F K w vs hr ha
 refine (h K w vs ha).mono ?_
 rintro e w' ⟨rfl, hb⟩
 have hxt : Ext F K w K w' := Qgf hb hr.ff (fun b o h => hr.klt h) (fun _ _ h => h) (fun _ _ h => .inl h) rfl rfl
 refine ⟨x, K, _, [], rfl, hxt, ⟨fun b o hc => ?_, fun b hf => by have := hr.ff b hf; have := hb.size; omega, hr.fin, hr.fi, fun e he => (by cases he), by simp, by simp⟩, .d (.v hx), rfl, rfl⟩
 obtain ⟨v, hv⟩ := hr.kc b o hc
 exact ⟨v, (hxt.kp b o hc).2.trans hv⟩
theorem PCalls.data {P : Program} {f : FuncId} {args : List PV} {r : PV} (h : ∀ (K : Kp) (w : World) (vs : Array Value), RelVs K w args vs → Calls P f vs w fun e w' => ∃ v, e = .returned v ∧ Below w.heap.size w w' ∧ ∀ K' : Kp, (∀ b o u, w.heap.size ≤ b → w'.cell? ⟨b, o, none⟩ = some u → K'.cell b o) → RelV K' w' r v) : PCalls P f args [] fun p s => p = r ∧ s = [] := by
 intro F K w vs hr ha
 refine (h K w vs ha).mono ?_
 rintro e w' ⟨v, rfl, hb, hv⟩
 have hxt : Ext F K w ⟨fun b o => K.cell b o ∨ (w.heap.size ≤ b ∧ ∃ u, w'.cell? ⟨b, o, none⟩ = some u), K.box, K.own⟩ w' := Qgf hb hr.ff (fun b o h => hr.klt h) (fun _ _ h => .inl h) (fun _ _ h => h.imp id fun h => h.1) rfl rfl
 refine ⟨v, _, r, [], rfl, hxt, ⟨fun b o hc => ?_, fun b hf => by have := hr.ff b hf; have := hb.size; omega, hr.fin, hr.fi, fun e he => (by cases he), by simp, by simp⟩, hv _ fun b o u h1 h2 => .inr ⟨h1, u, h2⟩, rfl, rfl⟩
 rcases hc with hc | ⟨_, hc⟩
 ·obtain ⟨v, hv⟩ := hr.kc b o hc
  exact ⟨v, (hxt.kp b o (hc)).2.trans hv⟩
 ·exact hc
theorem RelVs.one {K : Kp} {w : World} {p : PV} {vs : Array Value} (h : RelVs K w [p] vs) : ∃ v, vs = #[v] ∧ RelV K w p v := by
 obtain ⟨h1, h2⟩ := h
 obtain ⟨vs⟩ := vs
 match vs, h1 with
 | [v], _ => exact ⟨v, rfl, h2 0 p v rfl rfl⟩
theorem RelVs.two {K : Kp} {w : World} {p q : PV} {vs : Array Value} (h : RelVs K w [p, q] vs) : ∃ v u, vs = #[v, u] ∧ RelV K w p v ∧ RelV K w q u := by
 obtain ⟨h1, h2⟩ := h
 obtain ⟨vs⟩ := vs
 match vs, h1 with
 | [v, u], _ => exact ⟨v, u, rfl, h2 0 p v rfl rfl, h2 1 q u rfl rfl⟩
theorem RelVs.three {K : Kp} {w : World} {p q r : PV} {vs : Array Value} (h : RelVs K w [p, q, r] vs) : ∃ v u x, vs = #[v, u, x] ∧ RelV K w p v ∧ RelV K w q u ∧ RelV K w r x := by
 obtain ⟨h1, h2⟩ := h
 obtain ⟨vs⟩ := vs
 match vs, h1 with
 | [v, u, x], _ => exact ⟨v, u, x, rfl, h2 0 p v rfl rfl, h2 1 q u rfl rfl, h2 2 r x rfl rfl⟩
theorem Qbz (K : Kp) (w : World) : RelVs K w [] #[] := ⟨rfl, fun i p v hp _ => by simp at hp⟩
theorem Qav {K : Kp} {w : World} {p : PV} {v : Value} {ps : List PV} {vs : List Value} (h : RelV K w p v) (hs : RelVs K w ps vs.toArray) : RelVs K w (p :: ps) (v :: vs).toArray := by
  refine ⟨by have := hs.1; simp at this ⊢; omega, fun i q u hq hu => ?_⟩
  cases i with
  | zero =>
    have e1 := Option.some.inj hq
    have e2 : v = u := by simpa using hu
    subst e1; subst e2; exact h
  | succ i => exact hs.2 i q u (by simpa using hq) (by simpa using hu)
end Go.Proofs.Ytpaifjlikgnlfaa
namespace Go.Proofs.Ytpaifjlikgnlfaa
open Go.RowKit Go.ChangeMaps Go.MapKept
open Go.WideElems (Fit rd rg pl rd_val elemAt)
def MapO (P : Program) (k e : TypeId) (n : Nat) (D : DataW Unit) : Obj → Prop := fun o => ∀ (w : World) (b : Nat), w.heap[b]? = some o → w.ownsMap P k (plainElem P e) b n D
theorem MapO.of {P : Program} {k e : TypeId} {n : Nat} {D : DataW Unit} {w : World} {b : Nat} (h : w.ownsMap P k (plainElem P e) b n D) : ∃ o, w.heap[b]? = some o ∧ MapO P k e n D o := by
 obtain ⟨es, clock, hb, F, hs, hD⟩ := h
 exact ⟨_, hb, fun w2 b2 h2 => ⟨es, clock, h2, F, hs, hD⟩⟩
theorem MapO.made (P : Program) (k e : TypeId) : MapO P k e 0 (.map []) (.map #[] 0) := fun w b hb => ⟨#[], 0, hb, ⟨by simp, stamped_empty 0, by simp⟩, Nat.le_refl _, rfl⟩
section
variable {P : Program} {n : Nat} {ops : Array Oper} {Q : PF → St → Prop} {rest : List Oper} {fr : PF} {st : St} {ty : TypeId} {pos : String} {after : Array Edge} {gd : Option (Nat × Bool)} {d : Nat}
end
end Go.Proofs.Ytpaifjlikgnlfaa
namespace Go.Proofs.Ytpaifjlikgnlfaa
open Go.RowKit
theorem POp_eqlNil {P : Program} {o : Oper} {ρ : Operand → Option PV} {st : St} {R : PV → St → Prop} {t t2 : TypeId} {x : Operand} (ho : o.op = .binOp .eql t x (.const (.slice none 0 0)) t2) {rows : List (List D)} (hx : ρ x = some (.d (.sl rows))) {e : TypeId} (ht : P.underlying t = some (.slice e)) (h1 : rows = [] → R (.d (.v (.bool true))) st) (h2 : R (.d (.v (.bool false))) st) : POp P o ρ st R := by
  refine POp.of_run fun F K w a h1' h2' => ?_
  obtain ⟨dst, op, ty, pos, after, guard⟩ := o
  simp only at ho h2'
  subst ho
  have hr := h2' x (by simp [Op.operands]) _ hx
  generalize hvm : a.eval x = vm at hr
  obtain ⟨ad, n, c, rfl, hR⟩ : ∃ (ad : Option Addr) (n c : Nat), vm = .slice ad n c ∧ R (.d (.v (.bool ad.isNone))) st := by
    cases hr with
    | d hd => cases hd with
      | @nil ad cap hm =>
        refine ⟨ad, 0, cap, rfl, ?_⟩
        cases ad with
        | none => exact h1 rfl
        | some q => exact h2
      | sl vals h3 h4 h5 h6 h7 => exact ⟨_, _, _, rfl, h2⟩
  have hq := Lib.run_eql_slice_nil (P := P) w t e ad n c 0 0 ht
  refine ⟨.bool ad.isNone, w, K, _, st, ?_, Ext.refl _ _ _, h1', .d (.v trivial), hR⟩
  have hg : (eqGuard BinOp.eql t x (.const (.slice none 0 0)) (.slice ad n c) (.slice none 0 0)).run P w = .ok () w := by rfl
  have he : a.eval (.const (.slice none 0 0)) = .slice none 0 0 := rfl
  simp only [execOp, hvm, he, Sem.run_bind, Sem.run_pure, hg, Result.andThen_ok, hq]
section
variable {P : Program} {n : Nat} {ops : Array Oper} {Q : PF → St → Prop} {rest : List Oper} {fr : PF} {st : St} {ty : TypeId} {pos : String} {after : Array Edge} {gd : Option (Nat × Bool)} {d : Nat}
theorem Qfa {t t2 e : TypeId} {x : Operand} {rows : List (List D)} {p : PV} (h1 : rows = [] → POps P n ops Q rest ((d, .d (.v (.bool true))) :: fr) st) (h2 : POps P n ops Q rest ((d, .d (.v (.bool false))) :: fr) st) (ht : P.underlying t = some (.slice e) := by rfl) (hd : d < n := by decide)
  (hw : PF.wants fr ops ⟨some d, .binOp .eql t x (.const (.slice none 0 0)) t2, ty, pos, after, gd⟩ = some true := by rfl) (hx : fr.eval x = some p := by exact eQ) (hp : p = .d (.sl rows) := by rfl) : POps P n ops Q (⟨some d, .binOp .eql t x (.const (.slice none 0 0)) t2, ty, pos, after, gd⟩ :: rest) fr st :=
 Qde hd hw (POp_eqlNil (o := ⟨some d, .binOp .eql t x (.const (.slice none 0 0)) t2, ty, pos, after, gd⟩) rfl (hp ▸ hx) ht h1 h2)
end
section
variable {P : Program} {n : Nat} {ops : Array Oper} {Q : PF → St → Prop} {rest : List Oper} {fr : PF} {st : St} {ty : TypeId} {pos : String} {after : Array Edge} {gd : Option (Nat × Bool)} {d f : Nat} {xs : Array Operand} {ts : Array TypeId} {ps : List PV} {R : PV → St → Prop}
end
section
variable {P : Program} {n : Nat} {fr fi : PF} {st si : St}
theorem PW.weak {c : Code} {Q : Exit → PF → St → Prop} (h : PW P n c Q fi si) (hf : ∀ t p, fi.get t = some p → fr.get t = some p) (hs : si.Sublist st) : PW P n c Q fr st :=
 fun F K w a h1 h2 => h F K w a (h1.sub hs) (h2.weak hf)
end
structure InBox (cs : List PV) (rows : List (List D)) (sz : Nat) : Prop where
 pos : 0 < sz
 len : ∀ row ∈ rows, row.length = sz
 at_ : ∀ (r j : Nat) (row : List D) (d : D), rows[r]? = some row → row[j]? = some d → cs[r * sz + j]? = some (.d d)
theorem InBox.le {cs : List PV} {rows : List (List D)} {sz : Nat} (h : InBox cs rows sz) : rows.length * sz ≤ cs.length := by
 by_cases h0 : rows.length = 0
 ·rw [h0]; omega
 ·have hl : rows.length - 1 < rows.length := by omega
  have hr := List.getElem?_eq_getElem hl
  have hz := h.len _ (List.getElem_mem hl)
  have hp := h.pos
  have hj : sz - 1 < (rows[rows.length - 1]).length := by omega
  have := h.at_ _ (sz - 1) _ _ hr (List.getElem?_eq_getElem hj)
  have h2 := (List.getElem?_eq_some_iff.1 this).1
  have h3 : (rows.length - 1) * sz + sz = rows.length * sz := by
   rw [← Nat.succ_mul, Nat.succ_eq_add_one, Nat.sub_add_cancel (by omega)]
  omega
section
variable {P : Program} {J : St → Prop} {n : Nat} {ops : Array Oper} {Q : PF → St → Prop} {rest : List Oper} {fr : PF} {st L M st0 : St} {p : PV} {ty : TypeId} {pos : String} {after : Array Edge} {gd : Option (Nat × Bool)} {d f j : Nat} {xs : Array Operand} {ts : Array TypeId} {ps qs first cap : List PV} {R : PV → St → Prop}
theorem op_callC {o : Oper} {ρ : Operand → Option PV} {R' : PV → St → Prop} {fo : Operand} {q : PV} (k m : Nat) (ho : o.op = .call { callee := .value fo, args := xs, argTypes := ts }) (hq : ρ fo = some q) (hqf : q = .fn (.func f) first cap) (hc : PCalls P f qs st0 R) (hL : st.take k = L) (h0 : (st.drop k).take m = st0) (hM : (st.drop k).drop m = M) (hxs : Jo ρ xs.toList = some ps) (hn : (first ++ ps ++ cap).map PV.norm1 = qs) (hca : Qau P f = true)
  (h : ∀ p s, R p s → R' p (L ++ (s ++ M))) : POp P o ρ st R' := by
 subst hqf
 have hst : st = L ++ (st0 ++ M) := by rw [← hL, ← h0, ← hM, List.take_append_drop, List.take_append_drop]
 subst hst
 have hperm : (L ++ (st0 ++ M)).Perm (st0 ++ (L ++ M)) := by
  rw [← List.append_assoc, ← List.append_assoc]
  exact List.Perm.append_right _ List.perm_append_comm
 refine POp.permOut' (R := fun p s => ∃ s', R p s' ∧ s = s' ++ (L ++ M)) (POp_call (st0 := st0) (st1 := L ++ M) (first := first) (cap := cap) ho hq hxs hca hperm (R0 := R) ?_ ?_) ?_
 ·rw [← hn] at hc
  exact hc.args_norm
 ·intro p s0 hr
  exact ⟨s0, hr, rfl⟩
 ·rintro p s ⟨s', hr, rfl⟩
  refine ⟨_, ?_, h p s' hr⟩
  rw [← List.append_assoc, ← List.append_assoc]
  exact List.Perm.append_right _ List.perm_append_comm
theorem POps_callC {fo : Operand} {q : PV} (k m : Nat) (hc : PCalls P f qs st0 R) (h : ∀ p s, R p s → POps P n ops Q rest ((d, p) :: fr) (L ++ (s ++ M))) (hca : Qau P f = true)
  (hL : st.take k = L := by simp only [List.cons_append, List.nil_append, List.take_succ_cons, List.take_zero]; rfl)
  (h0 : (st.drop k).take m = st0 := by rfl)
  (hM : (st.drop k).drop m = M := by simp only [List.cons_append, List.nil_append, List.drop_succ_cons, List.drop_zero, List.drop_nil]; rfl)
  (hd : d < n := by decide)
  (hw : PF.wants fr ops ⟨some d, .call { callee := .value fo, args := xs, argTypes := ts }, ty, pos, after, gd⟩ = some true := by exact eD)
  (hq : fr.eval fo = some q := by exact eQ) (hqf : q = .fn (.func f) first cap := by rfl)
  (hxs : Jo fr.eval xs.toList = some ps := by exact eQ)
  (hn : (first ++ ps ++ cap).map PV.norm1 = qs := by first | (simp [PV.norm1, PV.norm0, aggD, slD, Jh, Jk, Ji, Jj, Jg]; done) | fail) : POps P n ops Q (⟨some d, .call { callee := .value fo, args := xs, argTypes := ts }, ty, pos, after, gd⟩ :: rest) fr st :=
 Qde hd hw (op_callC k m rfl hq hqf hc hL h0 hM hxs hn hca h)
end
end Go.Proofs.Ytpaifjlikgnlfaa
