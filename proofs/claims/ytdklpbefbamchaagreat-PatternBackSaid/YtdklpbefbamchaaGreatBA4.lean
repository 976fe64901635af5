import Derived.Test.YtdklpbefbamchaaGreatBA3
import Derived.Scope
import Derived.Laws.RangeAny
import Derived.Laws.IdiomStrings
import Derived.Laws.Small
set_option linter.unusedSimpArgs false
set_option linter.unusedVariables false
set_option maxHeartbeats 16000000
set_option maxRecDepth 100000
namespace Go.Proofs.YtdklpbefbamchaaGreat
open Go.RowKit
section
variable {P : Program} {J : St → Prop} {ops : Array Oper} {n : Nat} {kd : Nat → Kd} {md : Region.Mode}
def jOp (P : Program) (J : St → Prop) (ops : Array Oper) (n : Nat) (kd : Nat → Kd) (i : Nat) (K : G → St → Prop) (g : G) (st : St) : Prop :=
  match ops[i]? with
  | none => K g st
  | some o => (∀ d, o.dst = some d → d < n) ∧
    ((Qdf g ops o = some false ∧ K (gput g o.dst (.tup [])) st) ∨
     (Qdf g ops o = some true ∧
      match kd i with
      | .a => ∃ p, (∀ s, J s → POp P o (Qcm g) s fun q s' => q = p ∧ s' = s) ∧ K (gput g o.dst p) st
      | .b => ∃ p, (POp P o (Qcm g) st fun q s' => q = p ∧ s' = st) ∧ K (gput g o.dst p) st
      | .e => POp P o (Qcm g) st fun p s' => J s' ∧ K (gput g o.dst p) s'))
theorem jOp_mono {i : Nat} {K K' : G → St → Prop} {g : G} {st : St} (h : ∀ g s, K g s → K' g s) (hh : jOp P J ops n kd i K g st) : jOp P J ops n kd i K' g st := by
 unfold jOp at *
 split
 ·rename_i ho; rw [ho] at hh; exact h _ _ hh
 ·rename_i o ho
  rw [ho] at hh
  obtain ⟨hd, hh⟩ := hh
  refine ⟨hd, ?_⟩
  rcases hh with ⟨h1, h2⟩ | ⟨h1, h2⟩
  ·exact .inl ⟨h1, h _ _ h2⟩
  ·refine .inr ⟨h1, ?_⟩
   cases hk : kd i with
   | a => rw [hk] at h2; obtain ⟨p, h3, h4⟩ := h2; exact ⟨p, h3, h _ _ h4⟩
   | b => rw [hk] at h2; obtain ⟨p, h3, h4⟩ := h2; exact ⟨p, h3, h _ _ h4⟩
   | e => rw [hk] at h2; exact h2.mono fun p s hs => ⟨hs.1, h _ _ hs.2⟩
def jAny (P : Program) (J : St → Prop) (md : Region.Mode) (ops : Array Oper) (n : Nat) (kd : Nat → Kd) (Q : G → St → Prop) : Nat → Array Bool → G → St → Prop
  | 0, listed, g, st => Region.ready md ops listed = [] ∧ Q g st
  | fuel + 1, listed, g, st =>
    (Region.ready md ops listed = [] → Q g st) ∧ ∀ i ∈ Region.ready md ops listed, jOp P J ops n kd i (jAny P J md ops n kd Q fuel (listed.setIfInBounds i true)) g st
theorem wpAny_jAny {Q : G → St → Prop} {Q' : Exit → Act → World → Prop} {F : Fz} {K0 : Kp} {w0 : World} (hQ : ∀ K w a g st, Ext F K0 w0 K w → Rel F st K w → FG n g K w a → Q g st → Q' .normal a w) :
    ∀ (fuel : Nat) (listed : Array Bool) (g : G) (st : St) (K : Kp) (w : World) (a : Act), Ext F K0 w0 K w → Rel F st K w → FG n g K w a → J st → jAny P J md ops n kd Q fuel listed g st → wpAny P md ops Q' fuel listed a w := by
  intro fuel
  induction fuel with
  | zero => intro listed g st K w a hx hr hf hJ h; exact ⟨h.1, hQ K w a g st hx hr hf h.2⟩
  | succ fuel ih =>
    intro listed g st K w a hx hr hf hJ h
    refine ⟨fun h0 => hQ K w a g st hx hr hf (h.1 h0), fun i hi => ?_⟩
    have hop := h.2 i hi
    unfold jOp at hop
    unfold wpOp
    split
    · rename_i ho
      rw [ho] at hop
      exact ih _ g st K w a hx hr hf hJ hop
    · rename_i o ho
      rw [ho] at hop
      obtain ⟨hd, hop⟩ := hop
      rcases hop with ⟨h1, h2⟩ | ⟨h1, h2⟩
      · rw [Qft hf h1]
        exact ih _ _ st K w _ hx hr (hf.put hd (.tup rfl fun i p v hp _ => by simp at hp)) hJ h2
      · rw [Qft hf h1]
        simp only [if_true]
        refine .inl ?_
        have hgen : POp P o (Qcm g) st fun p s' => J s' ∧ jAny P J md ops n kd Q fuel (listed.setIfInBounds i true) (gput g o.dst p) s' := by
          cases hk : kd i with
          | a =>
            rw [hk] at h2; obtain ⟨p, h3, h4⟩ := h2
            exact (h3 st hJ).mono fun q s ⟨e1, e2⟩ => by subst e1; subst e2; exact ⟨hJ, h4⟩
          | b =>
            rw [hk] at h2; obtain ⟨p, h3, h4⟩ := h2
            exact h3.mono fun q s ⟨e1, e2⟩ => by subst e1; subst e2; exact ⟨hJ, h4⟩
          | e => rw [hk] at h2; exact h2
        exact hgen F K w a _ _ hr (fun x _ p hp => hf.eval x p hp) fun K' w' p st' v b1 b2 b3 b4 => ih _ _ st' K' w' _ (hx.trans b1) b2 ((hf.mono b1).put hd b3) b4.1 b4.2
def jYields (P : Program) (J : St → Prop) (ops : Array Oper) (n : Nat) (k : Kd) (o : Oper) (p : PV) (g : G) (st : St) : Prop :=
  (∀ d, o.dst = some d → d < n) ∧
  ((Qdf g ops o = some false ∧ p = .tup []) ∨
   (Qdf g ops o = some true ∧
    match k with
    | .a => ∀ s, J s → POp P o (Qcm g) s fun q s' => q = p ∧ s' = s
    | .b => POp P o (Qcm g) st fun q s' => q = p ∧ s' = st
    | .e => False))
theorem jYields.op {i : Nat} {o : Oper} {p : PV} {g : G} {st : St} (hi : ops[i]? = some o) (hy : jYields P J ops n (kd i) o p g st) {K : G → St → Prop} (h : K (gput g o.dst p) st) : jOp P J ops n kd i K g st := by
 unfold jOp
 rw [hi]
 obtain ⟨hd, hy⟩ := hy
 refine ⟨hd, ?_⟩
 rcases hy with ⟨h1, rfl⟩ | ⟨h1, h2⟩
 ·exact .inl ⟨h1, h⟩
 ·refine .inr ⟨h1, ?_⟩
  cases hk : kd i with
  | a => rw [hk] at h2; exact ⟨p, h2, h⟩
  | b => rw [hk] at h2; exact ⟨p, h2, h⟩
  | e => rw [hk] at h2; exact h2.elim
theorem jYields.put {k : Kd} {o : Oper} {p : PV} {g : G} {st : St} (hy : jYields P J ops n k o p g st) {dst : Option Tmp} {q : PV} (h : ∀ d, dst = some d → d ∉ o.looksAt ops) : jYields P J ops n k o p (gput g dst q) st := by
 obtain ⟨hd, hy⟩ := hy
 refine ⟨hd, ?_⟩
 rw [Qey h]
 rcases hy with ⟨h1, h2⟩ | ⟨h1, h2⟩
 ·exact .inl ⟨h1, h2⟩
 ·refine .inr ⟨h1, ?_⟩
  cases k with
  | a => exact fun s hs => (h2 s hs).congr fun x hx => (Qci h x hx).symm
  | b => exact POp.congr h2 fun x hx => (Qci h x hx).symm
  | e => exact h2
theorem jOp_put {i j : Nat} {oi oj : Oper} {p : PV} (hj : ops[j]? = some oj) (hap : oi.apart ops oj = true) {K : G → St → Prop} {g : G} {st : St} (hy : jYields P J ops n (kd i) oi p g st) (hb : kd i = .b → kd j ≠ .e) (h : jOp P J ops n kd j K (gput g oi.dst p) st) :
    jOp P J ops n kd j (fun g' s' => jYields P J ops n (kd i) oi p g' s' ∧ K (gput g' oi.dst p) s') g st := by
  obtain ⟨h1, h2, h3⟩ := Oper.apart_spec hap
  unfold jOp at *
  rw [hj] at h ⊢
  simp only at h ⊢
  obtain ⟨hd, h⟩ := h
  rw [Qey h1] at h
  refine ⟨hd, ?_⟩
  rcases h with ⟨e1, e2⟩ | ⟨e1, e2⟩
  · exact .inl ⟨e1, hy.put h3, by rw [← Qdb g p _ h2]; exact e2⟩
  · refine .inr ⟨e1, ?_⟩
    cases hk : kd j with
    | a =>
      rw [hk] at e2
      obtain ⟨q, e3, e4⟩ := e2
      exact ⟨q, fun s hs => (e3 s hs).congr fun x hx => Qci h1 x hx, hy.put h3, by rw [← Qdb g p _ h2]; exact e4⟩
    | b =>
      rw [hk] at e2
      obtain ⟨q, e3, e4⟩ := e2
      exact ⟨q, e3.congr fun x hx => Qci h1 x hx, hy.put h3, by rw [← Qdb g p _ h2]; exact e4⟩
    | e =>
      rw [hk] at e2
      refine (POp.congr e2 fun x hx => Qci h1 x hx).mono fun q s hs => ⟨hs.1, ?_, by rw [← Qdb g p _ h2]; exact hs.2⟩
      have hy2 := hy.put (dst := oj.dst) (q := q) h3
      obtain ⟨d1, d2⟩ := hy2
      refine ⟨d1, ?_⟩
      rcases d2 with d2 | ⟨d2, d3⟩
      · exact .inl d2
      · refine .inr ⟨d2, ?_⟩
        cases hki : kd i with
        | a => rw [hki] at d3; exact d3
        | b => exact absurd hk (hb hki)
        | e => rw [hki] at d3; exact d3.elim
theorem jAny_first {Q : G → St → Prop} {i : Nat} {oi : Oper} {p : PV} (hi : ops[i]? = some oi) : ∀ (fuel : Nat) (listed : Array Bool) (g : G) (st : St), DC md ops listed →
    (∀ j oj, ops[j]? = some oj → j ≠ i → listed.getD j true = false → (∀ e ∈ oj.after, Region.binds md e = true → e.on ≠ i) → oi.apart ops oj = true) →
    (kd i = .b → ∀ j, kd j = .e → listed.getD j true = false → j < ops.size → ∃ f, Qfg md ops i f j = true) →
    i ∈ Region.ready md ops listed → jYields P J ops n (kd i) oi p g st → jAny P J md ops n kd Q fuel (listed.setIfInBounds i true) (gput g oi.dst p) st → jAny P J md ops n kd Q (fuel + 1) listed g st := by
  intro fuel
  induction fuel with
  | zero =>
    intro listed g st hdc _ _ hr hy H
    refine ⟨fun h => (by rw [h] at hr; cases hr), fun j hj => ?_⟩
    by_cases hji : j = i
    · subst hji; exact hy.op hi H
    · have := ready_mono hj hji
      rw [H.1] at this
      cases this
  | succ fuel ih =>
    intro listed g st hdc hfree hB hr hy H
    refine ⟨fun h => (by rw [h] at hr; cases hr), fun j hj => ?_⟩
    by_cases hji : j = i
    · subst hji; exact hy.op hi H
    · have h1 := H.2 j (ready_mono hj hji)
      obtain ⟨hjun, oj, hoj, hall⟩ := mem_ready.1 hj
      have hiun := (mem_ready.1 hr).1
      have hnot : ∀ e ∈ oj.after, Region.binds md e = true → e.on ≠ i := fun e he hb heq => by
        have h1 := hall e he hb
        rw [heq] at h1
        have h2 := Qeq hiun
        rw [h1] at h2; cases h2
      have hlt : j < ops.size := (Array.getElem?_eq_some_iff.1 hoj).1
      have hbj : kd i = .b → kd j ≠ .e := fun hb he => by
        obtain ⟨f, hw⟩ := hB hb j he hjun hlt
        exact Qia hdc hw hiun hj
      have h2 := jOp_put hoj (hfree j oj hoj hji hjun hnot) hy hbj h1
      refine jOp_mono (fun g' s' h3 => ih (listed.setIfInBounds j true) g' s' (hdc.set hj) (fun k ok hk hki hun hno => ?_) (fun hb k hk hun hkl => ?_) (ready_mono hr (Ne.symm hji)) h3.1 ?_) h2
      · refine hfree k ok hk hki ?_ hno
        by_cases hjk : j = k
        · subst hjk; exact hjun
        · rw [getD_set_ne true hjk] at hun; exact hun
      · refine hB hb k hk ?_ hkl
        by_cases hjk : j = k
        · subst hjk; exact hjun
        · rw [getD_set_ne true hjk] at hun; exact hun
      · rw [Array.setIfInBounds_comm _ _ hji]
        exact h3.2
def Qbk (P : Program) (J : St → Prop) (n : Nat) (ops : Array Oper) (Q : PF → St → Prop) : List (Nat × Kd) → PF → St → Prop
  | [], fr, st => Q fr st
  | (i, k) :: rest, fr, st => ∃ o, ops[i]? = some o ∧ (∀ d, o.dst = some d → d < n) ∧
    ((fr.wants ops o = some false ∧ Qbk P J n ops Q rest (fr.put o.dst (.tup [])) st) ∨
     (fr.wants ops o = some true ∧
      match k with
      | .a => ∃ p, (∀ s, J s → POp P o fr.eval s fun q s' => q = p ∧ s' = s) ∧ Qbk P J n ops Q rest (fr.put o.dst p) st
      | .b => ∃ p, (POp P o fr.eval st fun q s' => q = p ∧ s' = st) ∧ Qbk P J n ops Q rest (fr.put o.dst p) st
      | .e => POp P o fr.eval st fun p s' => J s' ∧ Qbk P J n ops Q rest (fr.put o.dst p) s'))
theorem jAny_ord {Q : PF → St → Prop} {all : List (Nat × Kd)} : ∀ (l : List (Nat × Kd)) (listed : Array Bool) (fr : PF) (st : St), DC md ops listed → Qdk md ops all l listed = true → Qbk P J n ops Q l fr st → jAny P J md ops n (kdOf all) (fun g s => ∃ fr : PF, fr.get = g ∧ Q fr s) l.length listed fr.get st := by
  intro l
  induction l with
  | nil => intro listed fr st _ hB h; exact ⟨by simpa [Qdk] using hB, fr, rfl, h⟩
  | cons x rest ih =>
    intro listed fr st hdc hB h
    obtain ⟨i, k⟩ := x
    simp only [Qdk, Bool.and_eq_true] at hB
    obtain ⟨⟨⟨hr, hk⟩, hB1⟩, hB2⟩ := hB
    have hr' : i ∈ Region.ready md ops listed := by simpa using hr
    have hk' : kdOf all i = k := by simpa using hk
    obtain ⟨o, ho, hd, h⟩ := h
    have free : Qfj md ops i listed = true → ∀ j oj, ops[j]? = some oj → j ≠ i → listed.getD j true = false → (∀ e ∈ oj.after, Region.binds md e = true → e.on ≠ i) → o.apart ops oj = true := by
      intro hf j oj hj hji hun hno
      unfold Qfj at hf
      rw [ho] at hf
      simp only [List.all_eq_true, List.mem_range] at hf
      have hlt : j < ops.size := (Array.getElem?_eq_some_iff.1 hj).1
      have := hf j hlt
      rw [hj] at this
      simp only [hun, Bool.or_false, Bool.or_eq_true, beq_iff_eq] at this
      rcases this with h | h | h
      · exact absurd h hji
      · obtain ⟨e, he, h⟩ := Array.any_eq_true'.1 h
        simp only [Bool.and_eq_true, beq_iff_eq] at h
        exact absurd h.2 (hno e he h.1)
      · exact h
    have nxt : ∀ p s, Qbk P J n ops Q rest (fr.put o.dst p) s → jAny P J md ops n (kdOf all) (fun g s => ∃ fr : PF, fr.get = g ∧ Q fr s) rest.length (listed.setIfInBounds i true) (gput fr.get o.dst p) s := fun p s hp => by
      rw [← Qgj]; exact ih _ _ s (hdc.set hr') hB2 hp
    cases k with
    | a =>
      have hy : ∃ p, jYields P J ops n (kdOf all i) o p fr.get st ∧ Qbk P J n ops Q rest (fr.put o.dst p) st := by
        rw [hk']
        rcases h with ⟨h1, h2⟩ | ⟨h1, p, h2, h3⟩
        · exact ⟨_, ⟨hd, .inl ⟨by rw [Qau]; exact h1, rfl⟩⟩, h2⟩
        · exact ⟨p, ⟨hd, .inr ⟨by rw [Qau]; exact h1, by rw [Qch]; exact h2⟩⟩, h3⟩
      obtain ⟨p, hy, hp⟩ := hy
      exact jAny_first ho _ listed _ st hdc (free hB1) (fun hb => by rw [hk'] at hb; cases hb) hr' hy (nxt p st hp)
    | b =>
      have hy : ∃ p, jYields P J ops n (kdOf all i) o p fr.get st ∧ Qbk P J n ops Q rest (fr.put o.dst p) st := by
        rw [hk']
        rcases h with ⟨h1, h2⟩ | ⟨h1, p, h2, h3⟩
        · exact ⟨_, ⟨hd, .inl ⟨by rw [Qau]; exact h1, rfl⟩⟩, h2⟩
        · exact ⟨p, ⟨hd, .inr ⟨by rw [Qau]; exact h1, by rw [Qch]; exact h2⟩⟩, h3⟩
      obtain ⟨p, hy, hp⟩ := hy
      simp only [Bool.and_eq_true] at hB1
      refine jAny_first ho _ listed _ st hdc (free hB1.1) (fun _ j hj hun hlt => ?_) hr' hy (nxt p st hp)
      have := List.all_eq_true.1 hB1.2 j (List.mem_range.2 hlt)
      simp only [hj, hun, Bool.or_false] at this
      exact ⟨_, by simpa using this⟩
    | e =>
      have hsole : Region.ready md ops listed = [i] := by simpa using hB1
      refine ⟨fun h0 => (by rw [h0] at hr'; cases hr'), fun j hj => ?_⟩
      rw [hsole] at hj
      obtain rfl := List.mem_singleton.1 hj
      unfold jOp
      rw [ho]
      refine ⟨hd, ?_⟩
      rcases h with ⟨h1, h2⟩ | ⟨h1, h2⟩
      · exact .inl ⟨by rw [Qau]; exact h1, nxt _ st h2⟩
      · refine .inr ⟨by rw [Qau]; exact h1, ?_⟩
        rw [hk']
        simp only
        rw [Qch]
        exact h2.mono fun p s hs => ⟨hs.1, nxt p s hs.2⟩
theorem Qgo {id : Nat} {Q : Exit → PF → St → Prop} {fr : PF} {st : St} (order : List (Nat × Kd)) (hm : P.follows .mixedOrders = true) (hlen : order.length = ops.size) (hB : Qdk .any ops order order (Array.replicate ops.size false) = true) (hJ : J st) (h : Qbk P J n ops (Q .normal) order fr st) : PW P n (.region id ops true) Q fr st := by
 intro F K w a hr hf
 have hdc : DC .any ops (Array.replicate ops.size false) := fun j o ho hj => by
  exfalso
  have hlt : j < ops.size := (Array.getElem?_eq_some_iff.1 ho).1
  simp [hlt] at hj
 have hx : Ext F K w K { w with drawn := w.drawn + 1 } := ⟨rfl, rfl, rfl, Nat.le_refl _, fun _ _ => rfl, fun _ _ h => ⟨h, rfl⟩, fun _ _ h => .inl h, fun _ _ h => h, fun g u h => ⟨u, h, .inl rfl⟩, fun _ _ => rfl⟩
 have hr2 : Rel F st K { w with drawn := w.drawn + 1 } := ⟨hr.kc, hr.ff, hr.fin, hr.fi, fun e he => (hr.ents e he).keep hx (fun _ _ => rfl) (fun _ _ _ h => h) fun _ _ => rfl, hr.nb, hr.nt⟩
 have hany := jAny_ord (md := .any) order _ fr st hdc hB h
 rw [hlen] at hany
 exact wp_region_any hm (wpAny_jAny (K0 := K) (w0 := w) (F := F) (Q := fun g s => ∃ fr : PF, fr.get = g ∧ Q .normal fr s) (fun K' w' a' g' st' h1 h2 h3 ⟨fr', e, h4⟩ => ⟨K', fr', st', h1, h2, by subst e; exact h3.fr, h4⟩) _ _ _ st K _ a hx hr2 (hf.mono hx).fg hJ hany)
end
def Qcw (l : List (Nat × TypeId × List PV)) : St → Prop := fun s => ∀ x ∈ l, s.box? x.1 = some x.2
section
variable {P : Program} {J : St → Prop} {n : Nat} {ops : Array Oper} {Q : PF → St → Prop} {fr : PF} {st : St} {p : PV} {op : Op} {ty : TypeId} {pos : String} {after : Array Edge} {gd : Option (Nat × Bool)} {od : List (Nat × Kd)} {j d : Nat}
theorem Qby (h : Q fr st) : Qbk P J n ops Q [] fr st := h
theorem PJ_s (h : Qbk P J n ops Q od ((d, p) :: fr) st) (ho : ops[j]? = some ⟨some d, op, ty, pos, after, gd⟩) (hd : d < n) (hw : PF.wants fr ops ⟨some d, op, ty, pos, after, gd⟩ = some true) (he : nev P fr.eval op = some p) : Qbk P J n ops Q ((j, .a) :: od) fr st :=
 ⟨_, ho, fun _ e => by cases e; exact hd, .inr ⟨hw, p, fun s _ => nev_ok (o := ⟨some d, op, ty, pos, after, gd⟩) he s, h⟩⟩
theorem PJ_gn {k : Kd} (h : Qbk P J n ops Q od ((d, .tup []) :: fr) st) (ho : ops[j]? = some ⟨some d, op, ty, pos, after, gd⟩) (hd : d < n) (hw : PF.wants fr ops ⟨some d, op, ty, pos, after, gd⟩ = some false) : Qbk P J n ops Q ((j, k) :: od) fr st :=
 ⟨_, ho, fun _ e => by cases e; exact hd, .inl ⟨hw, h⟩⟩
theorem PJ_b {l : List (Nat × TypeId × List PV)} {t : TypeId} {a : Operand} {i off : Nat} {T : Ty} {U : TypeId} {cs : List PV} (h : Qbk P (Qcw l) n ops Q od ((d, p) :: fr) st) (ho : ops[j]? = some ⟨some d, .load t a, ty, pos, after, gd⟩) (hd : d < n) (hw : PF.wants fr ops ⟨some d, .load t a, ty, pos, after, gd⟩ = some true) (ha : fr.eval a = some (.ptr i off)) (hT : tyOf P t = some T) (hl : (i, U, cs) ∈ l) (he : Jn T (cs.drop off) = some p) : Qbk P (Qcw l) n ops Q ((j, .a) :: od) fr st :=
 ⟨_, ho, fun _ e => by cases e; exact hd, .inr ⟨hw, p, fun s hs => Qgk (o := ⟨some d, .load t a, ty, pos, after, gd⟩) (by simp only [nevB, ha, hT, hs _ hl]; exact he), h⟩⟩
theorem PJ_e (ho : ops[j]? = some ⟨some d, op, ty, pos, after, gd⟩) (hd : d < n) (hw : PF.wants fr ops ⟨some d, op, ty, pos, after, gd⟩ = some true) (h : POp P ⟨some d, op, ty, pos, after, gd⟩ fr.eval st fun p st' => J st' ∧ Qbk P J n ops Q od ((d, p) :: fr) st') : Qbk P J n ops Q ((j, .e) :: od) fr st :=
 ⟨_, ho, fun _ e => by cases e; exact hd, .inr ⟨hw, h⟩⟩
theorem PJ_e0 (ho : ops[j]? = some ⟨none, op, ty, pos, after, gd⟩) (hw : PF.wants fr ops ⟨none, op, ty, pos, after, gd⟩ = some true) (h : POp P ⟨none, op, ty, pos, after, gd⟩ fr.eval st fun _ st' => J st' ∧ Qbk P J n ops Q od fr st') : Qbk P J n ops Q ((j, .e) :: od) fr st :=
 ⟨_, ho, fun _ e => (by cases e), .inr ⟨hw, h⟩⟩
theorem PJ_call {f : Nat} {xs : Array Operand} {ts : Array TypeId} {ps qs : List PV} {r : PV} (hc : PCalls P f qs [] fun p s => p = r ∧ s = []) (h : Qbk P J n ops Q od ((d, r) :: fr) st) (ho : ops[j]? = some ⟨some d, .call { callee := .value (.func f), args := xs, argTypes := ts }, ty, pos, after, gd⟩) (hd : d < n) (hw : PF.wants fr ops ⟨some d, .call { callee := .value (.func f), args := xs, argTypes := ts }, ty, pos, after, gd⟩ = some true) (hxs : Jo fr.eval xs.toList = some ps) (hn : ps.map PV.norm1 = qs) (hca : Qbl P f = true) : Qbk P J n ops Q ((j, .a) :: od) fr st := by
 exact ⟨_, ho, fun _ e => (by cases e; exact hd), .inr ⟨hw, r, fun s _ => Qhu (o := ⟨some d, .call { callee := .value (.func f), args := xs, argTypes := ts }, ty, pos, after, gd⟩) rfl rfl rfl hxs hca hn hc s, h⟩⟩
theorem PJ_alloc {T : TypeId} {ps : List PV} (ho : ops[j]? = some ⟨some d, .alloc T, ty, pos, after, gd⟩) (hd : d < n) (hw : PF.wants fr ops ⟨some d, .alloc T, ty, pos, after, gd⟩ = some true) (hz : Qda P T = some ps) (hJ : ∀ i, st.freshB i → J (.box i T ps :: st)) (h : ∀ i, st.freshB i → Qbk P J n ops Q od ((d, .ptr i 0) :: fr) (.box i T ps :: st)) : Qbk P J n ops Q ((j, .e) :: od) fr st :=
 PJ_e ho hd hw (Qjd rfl hz fun i hi => ⟨hJ i hi, h i hi⟩)
theorem PJ_store {t : TypeId} {x y : Operand} {q : PV} {i off : Nat} {T : Ty} {c : TypeId × List PV} {U : TypeId} {cs ps : List PV} {st' : St} (ho : ops[j]? = some ⟨none, .store t x y, ty, pos, after, gd⟩) (hw : PF.wants fr ops ⟨none, .store t x y, ty, pos, after, gd⟩ = some true) (hx : fr.eval x = some q) (hq : q = .ptr i off) (hy : fr.eval y = some p) (hps : p.ps = ps) (hone : ps.all PV.one = true) (hT : tyOf P t = some T) (hsz : ps.length = T.size) (hb : st.box? i = some c) (hc : c = (U, cs)) (hfit : off + ps.length ≤ cs.length) (hs : st.setBox i (spl cs off ps) = st') (hJ : J st')
  (h : Qbk P J n ops Q od fr st') : Qbk P J n ops Q ((j, .e) :: od) fr st :=
 PJ_e0 ho hw (Qiw rfl hx hq hy hps hone hT hsz hb hc hfit hs ⟨hJ, h⟩)
theorem PJ_bs {len : Nat} {t : TypeId} {parts : Array (Nat × Operand)} {E es bytes ts : Nat} {ea : Option Bool} {T0 : Ty} {e0 : Nat × Nat} {cells : List PV} {rows : List (List D)} (h : Qbk P J n ops Q od ((d, .d (.sl rows)) :: fr) st) (ho : ops[j]? = some ⟨some d, .buildSlice t len parts, ty, pos, after, gd⟩) (hd : d < n) (hw : PF.wants fr ops ⟨some d, .buildSlice t len parts, ty, pos, after, gd⟩ = some true) (hT : tyOf P t = some T0) (hT2 : T0 = ⟨ts, .slice E es ea⟩) (hE : elOf P E = some e0) (hE2 : e0 = (es, bytes)) (h0 : 0 < len * es) (h24 : len * es ≤ 16777216) (hf : Qac (fun i => some (i * es, es)) fr.eval (List.replicate (len * es) .u) parts.toList = some cells) (hr : Qcd es len cells = some rows) : Qbk P J n ops Q ((j, .a) :: od) fr st :=
 ⟨_, ho, fun _ e => (by cases e; exact hd), .inr ⟨hw, _, fun s _ => Qeu (o := ⟨some d, .buildSlice t len parts, ty, pos, after, gd⟩) rfl (hT2 ▸ hT) rfl (hE2 ▸ hE) h0 h24 hf hr s, h⟩⟩
end
theorem Qam (st : St) : Qcw [] st := fun x hx => by cases hx
theorem Ju {l : List (Nat × TypeId × List PV)} {st : St} {i : Nat} {x : TypeId × List PV} (h : st.box? i = some x) (hl : Qcw l st) : Qcw ((i, x) :: l) st := by
 intro y hy
 rcases List.mem_cons.1 hy with rfl | hy
 ·exact h
 ·exact hl y hy
theorem Qht {P : Program} {o : Oper} {ρ : Operand → Option PV} {st : St} {R : PV → St → Prop} {t : TypeId} (ho : o.op = .buildSlice t 0 #[]) {E es bytes : Nat} {ea : Option Bool} {T : Ty} (hT : tyOf P t = some T) (hk : T.k = .slice E es ea) (hE : elOf P E = some (es, bytes)) (h0 : 0 < es) (h : ∀ g, st.freshT g → R (.own g []) (.tok g E es 0 :: st)) : POp P o ρ st R := by
  refine POp.of_run fun F K w a h1 h2 => ?_
  obtain ⟨dst, op, ty, pos, after, guard⟩ := o
  simp only at ho h2
  subst ho
  obtain ⟨d, hd, rfl⟩ := Qbi hT
  cases d with
  | slice E' =>
    simp only [tyK, TyK.slice.injEq] at hk
    obtain ⟨rfl, hes, rfl⟩ := hk
    obtain ⟨ie, z, hie, hz, hsz, -, hzs⟩ := Qgr hE
    obtain ⟨hx, hrel⟩ := h1.newRow #[] E' 0 (Nat.zero_le _) (.inl rfl)
    have hown : (w.alloc (.cells #[] E')).ownsRow 0 E' es (.slice (some ⟨w.heap.size, 0, none⟩) 0 0) 0 [] := by
      exact ⟨by simp, .inr ⟨w.heap.size, 0, #[], rfl, Nat.zero_le _, heap_alloc_new w _, Nat.le_refl _, Nat.zero_le _, by simp, by simp⟩⟩
    obtain ⟨g, hg, hfr, hx2, hr2⟩ := hrel.newTok (u := .slice (some ⟨w.heap.size, 0, none⟩) 0 0) (E := E') (sz := es) (n := 0) (xs := []) hown rfl fun b hb => by
      simp only [Value.ownBlock, Option.some.injEq] at hb
      subst hb
      refine ⟨fun hf => by have := h1.ff _ hf; omega, fun o hc => ?_, fun e he heq => ?_⟩
      · rcases hc with hc | ⟨_, ho⟩
        · have := h1.klt hc; omega
        · omega
      · have hb' : e.block K = some w.heap.size := by
          cases e with
          | box i U cs => exact heq
          | tok j U sz n => exact heq
          | obj i ok => exact heq
        have := ((h1.ents e he).lt hb').1
        omega
    refine ⟨.slice (some ⟨w.heap.size, 0, none⟩) 0 0, _, _, .own g [], _, ?_, hx.trans hx2, hr2, .own (.nil (Nat.zero_le _)) (by simp [Kp.setOwn]) (Nat.zero_le _) fun _ => rfl, h g hfr⟩
    simp only [execOp, Sem.run_bind]
    have : (Instr.buildSlice t 0 #[]).run P w = .ok (.slice (some ⟨w.heap.size, 0, none⟩) 0 0) (w.alloc (.cells #[] E')) := by
      simp [Instr.buildSlice, run_underlying hd, sizeOf, typeInfo, hie, newRow, Instr.fill]
      rw [Array.eq_empty_of_size_eq_zero (xs := Array.map (fun x => default) (Array.range 0)) (by simp)]
    simp only [List.map_toArray, List.map_nil] at this ⊢
    rw [this]
    rfl
  | _ => simp [tyK] at hk
def lowOf (ρ : Operand → Option PV) : Option Operand → Option Int
  | none => some 0
  | some x => match ρ x with
    | some (.d (.v (.int _ n))) => some n
    | _ => none
def highOf (ρ : Operand → Option PV) (len : Nat) : Option Operand → Option Int
  | none => some len
  | some x => match ρ x with
    | some (.d (.v (.int _ n))) => some n
    | _ => none
theorem low_spec {ρ : Operand → Option PV} {lo : Option Operand} {n : Int} (h : lowOf ρ lo = some n) : (lo = none ∧ n = 0) ∨ ∃ x k, lo = some x ∧ ρ x = some (.d (.v (.int k n))) := by
 unfold lowOf at h
 split at h
 ·exact .inl ⟨rfl, (Option.some.inj h).symm⟩
 ·split at h
  ·rename_i x _ k m hx
   obtain rfl := Option.some.inj h
   exact .inr ⟨x, k, rfl, hx⟩
  ·cases h
theorem high_spec {ρ : Operand → Option PV} {len : Nat} {hi : Option Operand} {n : Int} (h : highOf ρ len hi = some n) : (hi = none ∧ n = len) ∨ ∃ x k, hi = some x ∧ ρ x = some (.d (.v (.int k n))) := by
 unfold highOf at h
 split at h
 ·exact .inl ⟨rfl, (Option.some.inj h).symm⟩
 ·split at h
  ·rename_i x _ k m hx
   obtain rfl := Option.some.inj h
   exact .inr ⟨x, k, rfl, hx⟩
  ·cases h
theorem rows_cut {K : Nat → Nat → Prop} {w : World} {rows : List (List D)} {a : Option Addr} {cap es l h : Nat} (hr : RelD K w (.sl rows) (.slice a rows.length cap)) (hlen : ∀ row ∈ rows, row.length = es) (h1 : l ≤ h) (h2 : h ≤ rows.length) (hc : rows.length ≤ cap) (hm : cap ≤ maxLen) : RelD K w (.sl ((rows.take h).drop l)) (sliced a l h cap es) := by
  unfold sliced
  rcases Nat.lt_or_ge l h with hlt | hge
  · cases hr with
    | nil => simp at h2; omega
    | @sl sz _ b off _ vals q1 q2 q3 q4 q5 =>
      have hne : rows ≠ [] := by intro e; subst e; simp at h2; omega
      obtain ⟨r0, hr0⟩ := List.exists_mem_of_ne_nil rows hne
      have hes : sz = es := by rw [← q3 r0 hr0, hlen r0 hr0]
      subst hes
      rw [if_neg (by omega)]
      simp only [Option.map_some, Qdr]
      have hl : ((rows.take h).drop l).length = h - l := by simp; omega
      rw [← hl]
      have hget : ∀ (i : Nat) (row : List D), ((rows.take h).drop l)[i]? = some row → rows[l + i]? = some row := fun i row hi => by
        rw [List.getElem?_drop, List.getElem?_take] at hi
        split at hi
        · exact hi
        · cases hi
      refine .sl (sz := sz) (fun i j => vals (l + i) j) (by rw [hl]; omega) (by omega) (fun row hrow => q3 row (List.mem_of_mem_take (List.mem_of_mem_drop hrow))) (fun i j row d hi hj => ?_) fun i j row d hi hj => q5 (l + i) j row d (hget i row hi) hj
      have := q4 (l + i) j row d (hget i row hi) hj
      rw [show off + l * sz + i * sz + j = off + (l + i) * sz + j by rw [Nat.add_mul]; omega]
      exact this
  · have he : l = h := by omega
    subst he
    rw [List.drop_of_length_le (by simp; omega), Nat.sub_self]
    exact .nil (by omega)
theorem POp_slice {P : Program} {o : Oper} {ρ : Operand → Option PV} {t : TypeId} {x : Operand} {lo hi : Option Operand} (ho : o.op = .slice t x lo hi none) {E es : Nat} {ea : Option Bool} {T : Ty} (hT : tyOf P t = some T) (hk : T.k = .slice E es ea) (hes : es ≠ 0) {p : PV} (hx : ρ x = some p) {rows : List (List D)} (hp : p.rows = some rows) (hl : ∀ row ∈ rows, row.length = es) {l h : Nat} (hlo : lowOf ρ lo = some (l : Int)) (hhi : highOf ρ rows.length hi = some (h : Int)) (h1 : l ≤ h) (h2 : h ≤ rows.length) (st : St) :
    POp P o ρ st fun q s => q = .d (.sl ((rows.take h).drop l)) ∧ s = st := by
  refine POp.of_run fun F K w a hr0 hops => ?_
  obtain ⟨dst, op, ty, pos, after, guard⟩ := o
  simp only at ho hops
  subst ho
  obtain ⟨d, hd, rfl⟩ := Qbi hT
  cases d with
  | slice E' =>
    simp only [tyK, TyK.slice.injEq] at hk
    obtain ⟨rfl, hsz, rfl⟩ := hk
    have hr := Qdy hp (hops x (by simp [Op.operands]) p hx)
    obtain ⟨b, cap, hv, hc, hm⟩ := Qgw hr
    rw [hv] at hr
    have hu : P.underlying t = some (.slice (P.elem t)) := by rw [hd]; simp [Program.elem, hd]
    have he : P.elem t = E' := by simpa [hd] using hu.symm
    have hso : ∀ w', (sizeOf (P.elem t)).run P w' = .ok es w' := fun w' => by rw [he]; rw [← hsz] at hes ⊢; exact Qdn hes w'
    have hcut := rows_cut hr hl h1 h2 hc hm
    have hn0 : (0 : Int) ≤ (l : Int) := by omega
    refine ⟨sliced b l h cap es, w, K, _, st, ?_, Ext.refl _ _ _, hr0, .d hcut, rfl, rfl⟩
    simp only [execOp, hv, Sem.run_bind]
    rcases low_spec hlo with ⟨rfl, h0⟩ | ⟨y, ky, rfl, hy⟩ <;> rcases high_spec hhi with ⟨rfl, h4⟩ | ⟨z, kz, rfl, hz⟩
    · have e1 : l = 0 := by omega
      have e2 : h = rows.length := by omega
      subst e1; subst e2
      simp only [Option.map_none, run_sliceAt_slice w t _ _ _ _ hu, run_slice_all w t b rows.length cap hu, hso, Result.andThen_ok]; rfl
    · have e1 : l = 0 := by omega
      subst e1
      obtain ⟨ez, -⟩ := (hops z (by simp [Op.operands]) _ hz).flat
      simp only [Option.map_none, Option.map_some, ez, run_sliceAt_slice w t _ _ _ _ hu, run_slice_h w t b rows.length cap hu kz h (by omega) (by omega), hso, Result.andThen_ok, Int.toNat_natCast]; rfl
    · have e2 : h = rows.length := by omega
      subst e2
      obtain ⟨ey, -⟩ := (hops y (by simp [Op.operands]) _ hy).flat
      simp only [Option.map_none, Option.map_some, ey, run_sliceAt_slice w t _ _ _ _ hu, run_slice_l w t b rows.length cap hu ky l (by omega) (by omega), hso, Result.andThen_ok, Int.toNat_natCast]; rfl
    · obtain ⟨ey, -⟩ := (hops y (by simp [Op.operands]) _ hy).flat
      obtain ⟨ez, -⟩ := (hops z (by simp [Op.operands]) _ hz).flat
      simp only [Option.map_none, Option.map_some, ey, ez, run_sliceAt_slice w t _ _ _ _ hu, run_slice_lh w t b rows.length cap hu ky kz l h (by omega) (by omega) (by omega), hso, Result.andThen_ok, Int.toNat_natCast]; rfl
  | _ => simp [tyK] at hk
section
variable {P : Program} {J : St → Prop} {n : Nat} {ops : Array Oper} {Q : PF → St → Prop} {rest : List Oper} {fr : PF} {st : St} {p : PV} {op : Op} {ty : TypeId} {pos : String} {after : Array Edge} {gd : Option (Nat × Bool)} {od : List (Nat × Kd)} {j d : Nat}
theorem Qdo {t : TypeId} {ts E es bytes : Nat} {ea : Option Bool} {T0 : Ty} {e0 : Nat × Nat} (h : ∀ g, st.freshT g → POps P n ops Q rest ((d, .own g []) :: fr) (.tok g E es 0 :: st)) (hd : d < n) (hw : PF.wants fr ops ⟨some d, .buildSlice t 0 #[], ty, pos, after, gd⟩ = some true) (hT : tyOf P t = some T0) (hT2 : T0 = ⟨ts, .slice E es ea⟩) (hE : elOf P E = some e0) (hE2 : e0 = (es, bytes)) (h0 : 0 < es) : POps P n ops Q (⟨some d, .buildSlice t 0 #[], ty, pos, after, gd⟩ :: rest) fr st :=
 Qed hd hw (Qht rfl (hT2 ▸ hT) rfl (hE2 ▸ hE) h0 h)
end
section
variable {P : Program} {n : Nat} {ops : Array Oper} {Q : PF → St → Prop} {rest : List Oper} {fr : PF} {st L M st0 : St} {ty : TypeId} {pos : String} {after : Array Edge} {gd : Option (Nat × Bool)} {d f j : Nat} {xs : Array Operand} {ts : Array TypeId} {ps qs : List PV} {R : PV → St → Prop} {od : List (Nat × Kd)}
theorem POp.permOut' {o : Oper} {ρ : Operand → Option PV} {st : St} {R R' : PV → St → Prop} (h : POp P o ρ st R) (hr : ∀ p s, R p s → ∃ s', s.Perm s' ∧ R' p s') : POp P o ρ st R' :=
 fun F K w a next Q h1 h2 h3 => h F K w a next Q h1 h2 fun K' w' p st' v a b c d => by
  obtain ⟨s', hp, hr'⟩ := hr p st' d
  exact h3 K' w' p s' v a (b.perm hp) c hr'
theorem Qiv {o : Oper} {ρ : Operand → Option PV} {R' : PV → St → Prop} (k m : Nat) (ho : o.op = .call { callee := .value (.func f), args := xs, argTypes := ts }) (hρ : ρ (.func f) = some (.fn (.func f) [] [])) (hc : PCalls P f qs st0 R) (hL : st.take k = L) (h0 : (st.drop k).take m = st0) (hM : (st.drop k).drop m = M) (hxs : Jo ρ xs.toList = some ps) (hn : ps.map PV.norm1 = qs) (hca : Qbl P f = true)
  (h : ∀ p s, R p s → R' p (L ++ (s ++ M))) : POp P o ρ st R' := by
 have hst : st = L ++ (st0 ++ M) := by rw [← hL, ← h0, ← hM, List.take_append_drop, List.take_append_drop]
 subst hst
 have hperm : (L ++ (st0 ++ M)).Perm (st0 ++ (L ++ M)) := by
  rw [← List.append_assoc, ← List.append_assoc]
  exact List.Perm.append_right _ List.perm_append_comm
 refine POp.permOut' (R := fun p s => ∃ s', R p s' ∧ s = s' ++ (L ++ M)) (POp_call (st0 := st0) (st1 := L ++ M) (first := []) (cap := []) ho hρ hxs hca hperm (R0 := R) ?_ ?_) ?_
 ·simp only [List.nil_append, List.append_nil]
  rw [← hn] at hc
  exact hc.args_norm
 ·intro p s0 hr
  exact ⟨s0, hr, rfl⟩
 ·rintro p s ⟨s', hr, rfl⟩
  refine ⟨_, ?_, h p s' hr⟩
  rw [← List.append_assoc, ← List.append_assoc]
  exact List.Perm.append_right _ List.perm_append_comm
theorem Re (k m : Nat) (hc : PCalls P f qs st0 R) (h : ∀ p s, R p s → POps P n ops Q rest ((d, p) :: fr) (L ++ (s ++ M)))
  (hL : st.take k = L := by simp only [List.cons_append, List.nil_append, List.take_succ_cons, List.take_zero]; rfl)
  (h0 : (st.drop k).take m = st0 := by rfl)
  (hM : (st.drop k).drop m = M := by simp only [List.cons_append, List.nil_append, List.drop_succ_cons, List.drop_zero, List.drop_nil]; rfl)
  (hd : d < n := by decide)
  (hw : PF.wants fr ops ⟨some d, .call { callee := .value (.func f), args := xs, argTypes := ts }, ty, pos, after, gd⟩ = some true := by first | (simp [nev, nevA, nevB, Jp, PF.eval, PF.get, PF.wants, cPV, Qae, PV.rows, Qaf, evUn, Jq, Qah, Qag, Jn, TyK.agg, Qad, St.box?, St.tok?, St.setBox, St.setTok, Qac, spl, PV.ps, PV.one, Jo, aggD, slD, Jh, Jk, Ji, Jj, Jg, Jf, *]; done) | fail)
  (hxs : Jo fr.eval xs.toList = some ps := by simp [nev, nevA, nevB, Jp, PF.eval, PF.get, PF.wants, cPV, Qae, PV.rows, Qaf, evUn, Jq, Qah, Qag, Jn, TyK.agg, Qad, St.box?, St.tok?, St.setBox, St.setTok, Qac, spl, PV.ps, PV.one, Jo, aggD, slD, Jh, Jk, Ji, Jj, Jg, Jf, *]; rfl)
  (hn : ps.map PV.norm1 = qs := by first | (simp [PV.norm1, PV.norm0, aggD, slD, Jh, Jk, Ji, Jj, Jg]; done) | fail)
  (hca : Qbl P f = true := by rfl) : POps P n ops Q (⟨some d, .call { callee := .value (.func f), args := xs, argTypes := ts }, ty, pos, after, gd⟩ :: rest) fr st :=
 Qed hd hw (Qiv k m rfl rfl hc hL h0 hM hxs hn hca h)
theorem Qev (k m : Nat) (hc : PCalls P f qs st0 R) (h : ∀ p s, R p s → POrd P n ops Q od ((d, p) :: fr) (L ++ (s ++ M)))
  (ho : ops[j]? = some ⟨some d, .call { callee := .value (.func f), args := xs, argTypes := ts }, ty, pos, after, gd⟩ := by rfl)
  (hL : st.take k = L := by simp only [List.cons_append, List.nil_append, List.take_succ_cons, List.take_zero]; rfl)
  (h0 : (st.drop k).take m = st0 := by rfl)
  (hM : (st.drop k).drop m = M := by simp only [List.cons_append, List.nil_append, List.drop_succ_cons, List.drop_zero, List.drop_nil]; rfl)
  (hd : d < n := by decide)
  (hw : PF.wants fr ops ⟨some d, .call { callee := .value (.func f), args := xs, argTypes := ts }, ty, pos, after, gd⟩ = some true := by first | (simp [nev, nevA, nevB, Jp, PF.eval, PF.get, PF.wants, cPV, Qae, PV.rows, Qaf, evUn, Jq, Qah, Qag, Jn, TyK.agg, Qad, St.box?, St.tok?, St.setBox, St.setTok, Qac, spl, PV.ps, PV.one, Jo, aggD, slD, Jh, Jk, Ji, Jj, Jg, Jf, *]; done) | fail)
  (hxs : Jo fr.eval xs.toList = some ps := by simp [nev, nevA, nevB, Jp, PF.eval, PF.get, PF.wants, cPV, Qae, PV.rows, Qaf, evUn, Jq, Qah, Qag, Jn, TyK.agg, Qad, St.box?, St.tok?, St.setBox, St.setTok, Qac, spl, PV.ps, PV.one, Jo, aggD, slD, Jh, Jk, Ji, Jj, Jg, Jf, *]; rfl)
  (hn : ps.map PV.norm1 = qs := by first | (simp [PV.norm1, PV.norm0, aggD, slD, Jh, Jk, Ji, Jj, Jg]; done) | fail)
  (hca : Qbl P f = true := by rfl) : POrd P n ops Q ((j, .e) :: od) fr st :=
 POrd_e ho hd hw (Qiv k m rfl rfl hc hL h0 hM hxs hn hca h)
theorem op_callW {o : Oper} {ρ : Operand → Option PV} {R' : PV → St → Prop} (ho : o.op = .call { callee := .value (.func f), args := xs, argTypes := ts }) (hρ : ρ (.func f) = some (.fn (.func f) [] [])) (hc : PCalls P f qs st R) (hxs : Jo ρ xs.toList = some ps) (hn : ps.map PV.norm1 = qs) (hca : Qbl P f = true)
  (h : ∀ p s, R p s → R' p s) : POp P o ρ st R' := by
 refine Qiv (L := []) (M := []) 0 st.length ho hρ hc rfl (by simp) (by simp) hxs hn hca fun p s hr => ?_
 simp only [List.nil_append, List.append_nil]
 exact h p s hr
theorem Rf (hc : PCalls P f qs st R) (h : ∀ p s, R p s → POps P n ops Q rest ((d, p) :: fr) s)
  (hd : d < n := by decide)
  (hw : PF.wants fr ops ⟨some d, .call { callee := .value (.func f), args := xs, argTypes := ts }, ty, pos, after, gd⟩ = some true := by first | (simp [nev, nevA, nevB, Jp, PF.eval, PF.get, PF.wants, cPV, Qae, PV.rows, Qaf, evUn, Jq, Qah, Qag, Jn, TyK.agg, Qad, St.box?, St.tok?, St.setBox, St.setTok, Qac, spl, PV.ps, PV.one, Jo, aggD, slD, Jh, Jk, Ji, Jj, Jg, Jf, *]; done) | fail)
  (hxs : Jo fr.eval xs.toList = some ps := by simp [nev, nevA, nevB, Jp, PF.eval, PF.get, PF.wants, cPV, Qae, PV.rows, Qaf, evUn, Jq, Qah, Qag, Jn, TyK.agg, Qad, St.box?, St.tok?, St.setBox, St.setTok, Qac, spl, PV.ps, PV.one, Jo, aggD, slD, Jh, Jk, Ji, Jj, Jg, Jf, *]; rfl)
  (hn : ps.map PV.norm1 = qs := by first | (simp [PV.norm1, PV.norm0, aggD, slD, Jh, Jk, Ji, Jj, Jg]; done) | fail)
  (hca : Qbl P f = true := by rfl) : POps P n ops Q (⟨some d, .call { callee := .value (.func f), args := xs, argTypes := ts }, ty, pos, after, gd⟩ :: rest) fr st :=
 Qed hd hw (op_callW rfl rfl hc hxs hn hca h)
end
section
variable {P : Program} {n : Nat} {ops : Array Oper} {Q : PF → St → Prop} {rest : List Oper} {fr : PF} {st : St} {ty : TypeId} {pos : String} {after : Array Edge} {gd : Option (Nat × Bool)} {od : List (Nat × Kd)} {d j : Nat}
end
section
variable {P : Program} {n : Nat} {ops : Array Oper} {Q : PF → St → Prop} {fr : PF} {st : St} {ty : TypeId} {pos : String} {after : Array Edge} {gd : Option (Nat × Bool)} {od : List (Nat × Kd)} {d j : Nat}
end
section
variable {P : Program} {J : St → Prop} {n : Nat} {ops : Array Oper} {Q : PF → St → Prop} {fr : PF} {st : St} {p : PV} {op : Op} {ty : TypeId} {pos : String} {after : Array Edge} {gd : Option (Nat × Bool)} {od : List (Nat × Kd)} {j d : Nat}
theorem Qcr {l : List (Nat × TypeId × List PV)} {t : TypeId} {a : Operand} {q : PV} {i off : Nat} {T : Ty} {x : TypeId × List PV} {U : TypeId} {cs : List PV} (h : Qbk P (Qcw l) n ops Q od ((d, p) :: fr) st)
  (ho : ops[j]? = some ⟨some d, .load t a, ty, pos, after, gd⟩ := by rfl) (hd : d < n := by decide)
  (hw : PF.wants fr ops ⟨some d, .load t a, ty, pos, after, gd⟩ = some true := by first | (simp [nev, nevA, nevB, Jp, PF.eval, PF.get, PF.wants, cPV, Qae, PV.rows, Qaf, evUn, Jq, Qah, Qag, Jn, TyK.agg, Qad, St.box?, St.tok?, St.setBox, St.setTok, Qac, spl, PV.ps, PV.one, Jo, aggD, slD, Jh, Jk, Ji, Jj, Jg, Jf, *]; done) | fail)
  (ha : fr.eval a = some q := by simp [nev, nevA, nevB, Jp, PF.eval, PF.get, PF.wants, cPV, Qae, PV.rows, Qaf, evUn, Jq, Qah, Qag, Jn, TyK.agg, Qad, St.box?, St.tok?, St.setBox, St.setTok, Qac, spl, PV.ps, PV.one, Jo, aggD, slD, Jh, Jk, Ji, Jj, Jg, Jf, *]; rfl) (hq : q = .ptr i off := by rfl) (hT : tyOf P t = some T := by simp; rfl)
  (hl : (i, x) ∈ l := by first | exact List.mem_cons_self | exact List.mem_cons_of_mem _ List.mem_cons_self | exact List.mem_cons_of_mem _ (List.mem_cons_of_mem _ List.mem_cons_self)) (hx : x = (U, cs) := by rfl)
  (he : Jn T (cs.drop off) = some p := by simp [nev, nevA, nevB, Jp, PF.eval, PF.get, PF.wants, cPV, Qae, PV.rows, Qaf, evUn, Jq, Qah, Qag, Jn, TyK.agg, Qad, St.box?, St.tok?, St.setBox, St.setTok, Qac, spl, PV.ps, PV.one, Jo, aggD, slD, Jh, Jk, Ji, Jj, Jg, Jf, *]; rfl) : Qbk P (Qcw l) n ops Q ((j, .a) :: od) fr st := by
 subst hq; subst hx
 exact PJ_b h ho hd hw ha hT hl he
theorem Qcb {k : Kd} (h : Qbk P J n ops Q od ((d, .tup []) :: fr) st) (ho : ops[j]? = some ⟨some d, op, ty, pos, after, gd⟩ := by rfl) (hd : d < n := by decide) (hw : PF.wants fr ops ⟨some d, op, ty, pos, after, gd⟩ = some false := by first | (simp [nev, nevA, nevB, Jp, PF.eval, PF.get, PF.wants, cPV, Qae, PV.rows, Qaf, evUn, Jq, Qah, Qag, Jn, TyK.agg, Qad, St.box?, St.tok?, St.setBox, St.setTok, Qac, spl, PV.ps, PV.one, Jo, aggD, slD, Jh, Jk, Ji, Jj, Jg, Jf, *]; done) | fail) : Qbk P J n ops Q ((j, k) :: od) fr st := PJ_gn h ho hd hw
theorem Qcj (h : Qbk P J n ops Q od ((d, p) :: fr) st) (ho : ops[j]? = some ⟨some d, op, ty, pos, after, gd⟩ := by rfl) (hd : d < n := by decide) (hw : PF.wants fr ops ⟨some d, op, ty, pos, after, gd⟩ = some true := by first | (simp [nev, nevA, nevB, Jp, PF.eval, PF.get, PF.wants, cPV, Qae, PV.rows, Qaf, evUn, Jq, Qah, Qag, Jn, TyK.agg, Qad, St.box?, St.tok?, St.setBox, St.setTok, Qac, spl, PV.ps, PV.one, Jo, aggD, slD, Jh, Jk, Ji, Jj, Jg, Jf, *]; done) | fail) (he : nev P fr.eval op = some p := by simp [nev, nevA, nevB, Jp, PF.eval, PF.get, PF.wants, cPV, Qae, PV.rows, Qaf, evUn, Jq, Qah, Qag, Jn, TyK.agg, Qad, St.box?, St.tok?, St.setBox, St.setTok, Qac, spl, PV.ps, PV.one, Jo, aggD, slD, Jh, Jk, Ji, Jj, Jg, Jf, *]; rfl) : Qbk P J n ops Q ((j, .a) :: od) fr st := PJ_s h ho hd hw he
theorem PJ_call2 {f : Nat} {xs : Array Operand} {ts : Array TypeId} {ps qs : List PV} {r : PV} (hc : PCalls P f qs [] fun p s => p = r ∧ s = []) (h : Qbk P J n ops Q od ((d, r) :: fr) st) (ho : ops[j]? = some ⟨some d, .call { callee := .value (.func f), args := xs, argTypes := ts }, ty, pos, after, gd⟩ := by rfl) (hd : d < n := by decide)
  (hw : PF.wants fr ops ⟨some d, .call { callee := .value (.func f), args := xs, argTypes := ts }, ty, pos, after, gd⟩ = some true := by first | (simp [nev, nevA, nevB, Jp, PF.eval, PF.get, PF.wants, cPV, Qae, PV.rows, Qaf, evUn, Jq, Qah, Qag, Jn, TyK.agg, Qad, St.box?, St.tok?, St.setBox, St.setTok, Qac, spl, PV.ps, PV.one, Jo, aggD, slD, Jh, Jk, Ji, Jj, Jg, Jf, *]; done) | fail)
  (hxs : Jo fr.eval xs.toList = some ps := by simp [nev, nevA, nevB, Jp, PF.eval, PF.get, PF.wants, cPV, Qae, PV.rows, Qaf, evUn, Jq, Qah, Qag, Jn, TyK.agg, Qad, St.box?, St.tok?, St.setBox, St.setTok, Qac, spl, PV.ps, PV.one, Jo, aggD, slD, Jh, Jk, Ji, Jj, Jg, Jf, *]; rfl)
  (hn : ps.map PV.norm1 = qs := by first | (simp [PV.norm1, PV.norm0, aggD, slD, Jh, Jk, Ji, Jj, Jg]; done) | fail) (hca : Qbl P f = true := by rfl) : Qbk P J n ops Q ((j, .a) :: od) fr st := PJ_call hc h ho hd hw hxs hn hca
end
section
variable {P : Program} {n : Nat} {ops : Array Oper} {Q : PF → St → Prop} {rest : List Oper} {fr : PF} {st : St} {p : PV} {ty : TypeId} {pos : String} {after : Array Edge} {gd : Option (Nat × Bool)} {d : Nat}
end
theorem int_of {K : Kp} {w : World} {v : Value} {k : IntKind} {n : Int} (h : RelV K w (.d (.v (.int k n))) v) : v = .int k n := by
  cases h with
  | d h => cases h with
    | v h => rfl
section
variable {P : Program} {n : Nat} {ops : Array Oper} {Q : PF → St → Prop} {rest : List Oper} {fr : PF} {st : St} {ty : TypeId} {pos : String} {after : Array Edge} {gd : Option (Nat × Bool)} {d : Nat}
theorem POps_max {x y : Operand} {ts : Array TypeId} {p q : PV} {k : IntKind} {a b : Int} (z : Int) (hz : (if a < b then b else a) = z) (h : POps P n ops Q rest ((d, .d (.v (.int k z))) :: fr) st) (hd : d < n := by decide)
  (hw : PF.wants fr ops ⟨some d, .call { callee := .builtin .max, args := #[x, y], argTypes := ts }, ty, pos, after, gd⟩ = some true := by rfl) (hx : fr.eval x = some p := by simp [nev, nevA, nevB, Jp, PF.eval, PF.get, PF.wants, cPV, Qae, PV.rows, Qaf, evUn, Jq, Qah, Qag, Jn, TyK.agg, Qad, St.box?, St.tok?, St.setBox, St.setTok, Qac, spl, PV.ps, PV.one, Jo, aggD, slD, Jh, Jk, Ji, Jj, Jg, Jf, *]; rfl) (hp : p = .d (.v (.int k a)) := by rfl) (hy : fr.eval y = some q := by simp [nev, nevA, nevB, Jp, PF.eval, PF.get, PF.wants, cPV, Qae, PV.rows, Qaf, evUn, Jq, Qah, Qag, Jn, TyK.agg, Qad, St.box?, St.tok?, St.setBox, St.setTok, Qac, spl, PV.ps, PV.one, Jo, aggD, slD, Jh, Jk, Ji, Jj, Jg, Jf, *]; rfl) (hq : q = .d (.v (.int k b)) := by rfl) : POps P n ops Q (⟨some d, .call { callee := .builtin .max, args := #[x, y], argTypes := ts }, ty, pos, after, gd⟩ :: rest) fr st := by
 subst hp; subst hq; subst hz
 refine Qed hd hw (POp.of_run fun F K w ac h1 h2 => ?_)
 have e1 := int_of (h2 x (by simp [Op.operands, Call.operands]) _ hx)
 have e2 := int_of (h2 y (by simp [Op.operands, Call.operands]) _ hy)
 refine ⟨.int k (if a < b then b else a), w, K, _, st, ?_, Ext.refl _ _ _, h1, .d (.v trivial), h⟩
 have hr := run_max_int2 (P := P) (w := w) ts ty k k a b
 simp only [execOp, resolve, invoke, builtin, Sem.run_bind, Sem.run_pure, Result.andThen_ok, List.map_toArray, List.map_cons, List.map_nil, e1, e2]
 rw [hr]; rfl
end
end Go.Proofs.YtdklpbefbamchaaGreat
