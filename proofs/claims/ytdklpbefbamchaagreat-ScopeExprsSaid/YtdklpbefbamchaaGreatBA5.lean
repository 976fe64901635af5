import Derived.Test.YtdklpbefbamchaaGreatBA4
import Derived.Test.YtdklpbefbamchaaGreatBA3
import Derived.Maps.OwnSet
import Derived.Maps.Views
import Derived.Carry
import Derived.Maps.OwnOps
import Derived.Lib.SliceRun
import Derived.Test.YtdklpbefbamchaaGreatBD
import Derived.Deep.RegionLaw
import Derived.Test.YtdklpbefbamchaaGreatBA1
set_option linter.unusedSimpArgs false
set_option linter.unusedVariables false
set_option maxHeartbeats 16000000
set_option maxRecDepth 100000
namespace Go.Proofs.YtdklpbefbamchaaGreat
open Go.RowKit
section
variable {P : Program} {J : St → Prop} {ops : Array Oper} {n : Nat} {kd : Nat → Kd} {md : Region.Mode}
def Qhc (ops : Array Oper) (i : Nat) : Bool :=
 match ops[i]? with
 | none => false
 | some o => (List.range ops.size).all fun k => k == i || o.after.any fun e => Region.binds .any e && e.on == k
theorem last_ready {listed : Array Bool} {i : Nat} (hs : listed.size = ops.size) (hl : Qhc ops i = true) (hi : i ∈ Region.ready .any ops listed) : Region.ready .any ops (listed.setIfInBounds i true) = [] := by
 refine List.eq_nil_iff_forall_not_mem.2 fun j hj => ?_
 obtain ⟨h0, o, ho, hall⟩ := mem_ready.1 hi
 obtain ⟨h1, oj, hoj, -⟩ := mem_ready.1 hj
 have hlt : j < ops.size := (Array.getElem?_eq_some_iff.1 hoj).1
 unfold Qhc at hl
 rw [ho] at hl
 have h2 := List.all_eq_true.1 hl j (List.mem_range.2 hlt)
 simp only [Bool.or_eq_true, beq_iff_eq] at h2
 rcases h2 with rfl | h2
 ·simp [hs, hlt] at h1
 ·obtain ⟨e, he, h3⟩ := Array.any_eq_true'.1 h2
  simp only [Bool.and_eq_true, beq_iff_eq] at h3
  have h4 := hall e he h3.1
  rw [h3.2] at h4
  by_cases hji : i = j
  ·subst hji; simp [hs, hlt] at h1
  ·rw [getD_set_ne true hji] at h1
   have h5 := Qfu h1
   rw [h4] at h5; cases h5
def lOp (P : Program) (J : St → Prop) (ops : Array Oper) (n : Nat) (kd : Nat → Kd) (i : Nat) (K : G → St → Prop) (g : G) (st : St) : Prop :=
  match ops[i]? with
  | none => K g st
  | some o => (∀ d, o.dst = some d → d < n) ∧
    ((Qdm g ops o = some false ∧ K (gput g o.dst (.tup [])) st) ∨
     (Qdm g ops o = some true ∧
      match kd i with
      | .a => ∃ p, (∀ s, J s → POp P o (Qcn g) s fun q s' => q = p ∧ s' = s) ∧ K (gput g o.dst p) st
      | .b => ∃ p, (POp P o (Qcn g) st fun q s' => q = p ∧ s' = st) ∧ K (gput g o.dst p) st
      | .e => POp P o (Qcn g) st fun p s' => (Qhc ops i = true ∨ J s') ∧ K (gput g o.dst p) s'))
theorem lOp_mono {i : Nat} {K K' : G → St → Prop} {g : G} {st : St} (h : ∀ g s, K g s → K' g s) (hh : lOp P J ops n kd i K g st) : lOp P J ops n kd i K' g st := by
 unfold lOp at *
 split
 ·rename_i ho; rw [ho] at hh; exact h _ _ hh
 ·rename_i o ho
  rw [ho] at hh
  obtain ⟨hd, hh⟩ := hh
  refine ⟨hd, ?_⟩
  rcases hh with ⟨h1, h2⟩ | ⟨h1, h2⟩
  ·exact .inl ⟨h1, h _ _ h2⟩
  ·refine .inr ⟨h1, ?_⟩
   cases hk : kd i with
   | a => rw [hk] at h2; obtain ⟨p, h3, h4⟩ := h2; exact ⟨p, h3, h _ _ h4⟩
   | b => rw [hk] at h2; obtain ⟨p, h3, h4⟩ := h2; exact ⟨p, h3, h _ _ h4⟩
   | e => rw [hk] at h2; exact h2.mono fun p s hs => ⟨hs.1, h _ _ hs.2⟩
def lAny (P : Program) (J : St → Prop) (md : Region.Mode) (ops : Array Oper) (n : Nat) (kd : Nat → Kd) (Q : G → St → Prop) : Nat → Array Bool → G → St → Prop
  | 0, listed, g, st => Region.ready md ops listed = [] ∧ Q g st
  | fuel + 1, listed, g, st =>
    (Region.ready md ops listed = [] → Q g st) ∧ ∀ i ∈ Region.ready md ops listed, lOp P J ops n kd i (lAny P J md ops n kd Q fuel (listed.setIfInBounds i true)) g st
theorem wpAny_lAny {Q : G → St → Prop} {Q' : Exit → Act → World → Prop} {F : Fz} {K0 : Kp} {w0 : World} (hQ : ∀ K w a g st, Ext F K0 w0 K w → Rel F st K w → FG n g K w a → Q g st → Q' .normal a w) :
    ∀ (fuel : Nat) (listed : Array Bool) (g : G) (st : St) (K : Kp) (w : World) (a : Act), listed.size = ops.size → Ext F K0 w0 K w → Rel F st K w → FG n g K w a → (Region.ready .any ops listed = [] ∨ J st) → lAny P J .any ops n kd Q fuel listed g st → wpAny P .any ops Q' fuel listed a w := by
  intro fuel
  induction fuel with
  | zero => intro listed g st K w a hls hx hr hf hJ h; exact ⟨h.1, hQ K w a g st hx hr hf h.2⟩
  | succ fuel ih =>
    intro listed g st K w a hls hx hr hf hJ h
    refine ⟨fun h0 => hQ K w a g st hx hr hf (h.1 h0), fun i hi => ?_⟩
    have hJ : J st := by
      rcases hJ with hJ | hJ
      · rw [hJ] at hi; cases hi
      · exact hJ
    have hls' : (listed.setIfInBounds i true).size = ops.size := by simp [hls]
    have hop := h.2 i hi
    unfold lOp at hop
    unfold wpOp
    split
    · rename_i ho
      rw [ho] at hop
      exact ih _ g st K w a hls' hx hr hf (.inr hJ) hop
    · rename_i o ho
      rw [ho] at hop
      obtain ⟨hd, hop⟩ := hop
      rcases hop with ⟨h1, h2⟩ | ⟨h1, h2⟩
      · rw [Qgw hf h1]
        exact ih _ _ st K w _ hls' hx hr (hf.put hd (.tup rfl fun i p v hp _ => by simp at hp)) (.inr hJ) h2
      · rw [Qgw hf h1]
        simp only [if_true]
        refine .inl ?_
        have hgen : POp P o (Qcn g) st fun p s' => (Qhc ops i = true ∨ J s') ∧ lAny P J .any ops n kd Q fuel (listed.setIfInBounds i true) (gput g o.dst p) s' := by
          cases hk : kd i with
          | a =>
            rw [hk] at h2; obtain ⟨p, h3, h4⟩ := h2
            exact (h3 st hJ).mono fun q s ⟨e1, e2⟩ => by subst e1; subst e2; exact ⟨.inr hJ, h4⟩
          | b =>
            rw [hk] at h2; obtain ⟨p, h3, h4⟩ := h2
            exact h3.mono fun q s ⟨e1, e2⟩ => by subst e1; subst e2; exact ⟨.inr hJ, h4⟩
          | e => rw [hk] at h2; exact h2
        exact hgen F K w a _ _ hr (fun x _ p hp => hf.eval x p hp) fun K' w' p st' v b1 b2 b3 b4 => ih _ _ st' K' w' _ hls' (hx.trans b1) b2 ((hf.mono b1).put hd b3) (b4.1.imp (fun hl => last_ready hls hl hi) id) b4.2
def lYields (P : Program) (J : St → Prop) (ops : Array Oper) (n : Nat) (k : Kd) (o : Oper) (p : PV) (g : G) (st : St) : Prop :=
  (∀ d, o.dst = some d → d < n) ∧
  ((Qdm g ops o = some false ∧ p = .tup []) ∨
   (Qdm g ops o = some true ∧
    match k with
    | .a => ∀ s, J s → POp P o (Qcn g) s fun q s' => q = p ∧ s' = s
    | .b => POp P o (Qcn g) st fun q s' => q = p ∧ s' = st
    | .e => False))
theorem lYields.op {i : Nat} {o : Oper} {p : PV} {g : G} {st : St} (hi : ops[i]? = some o) (hy : lYields P J ops n (kd i) o p g st) {K : G → St → Prop} (h : K (gput g o.dst p) st) : lOp P J ops n kd i K g st := by
 unfold lOp
 rw [hi]
 obtain ⟨hd, hy⟩ := hy
 refine ⟨hd, ?_⟩
 rcases hy with ⟨h1, rfl⟩ | ⟨h1, h2⟩
 ·exact .inl ⟨h1, h⟩
 ·refine .inr ⟨h1, ?_⟩
  cases hk : kd i with
  | a => rw [hk] at h2; exact ⟨p, h2, h⟩
  | b => rw [hk] at h2; exact ⟨p, h2, h⟩
  | e => rw [hk] at h2; exact h2.elim
theorem lYields.put {k : Kd} {o : Oper} {p : PV} {g : G} {st : St} (hy : lYields P J ops n k o p g st) {dst : Option Tmp} {q : PV} (h : ∀ d, dst = some d → d ∉ o.looksAt ops) : lYields P J ops n k o p (gput g dst q) st := by
 obtain ⟨hd, hy⟩ := hy
 refine ⟨hd, ?_⟩
 rw [Qgb h]
 rcases hy with ⟨h1, h2⟩ | ⟨h1, h2⟩
 ·exact .inl ⟨h1, h2⟩
 ·refine .inr ⟨h1, ?_⟩
  cases k with
  | a => exact fun s hs => (h2 s hs).congr fun x hx => (Qcj h x hx).symm
  | b => exact POp.congr h2 fun x hx => (Qcj h x hx).symm
  | e => exact h2
theorem lOp_put {i j : Nat} {oi oj : Oper} {p : PV} (hj : ops[j]? = some oj) (hap : oi.apart ops oj = true) {K : G → St → Prop} {g : G} {st : St} (hy : lYields P J ops n (kd i) oi p g st) (hb : kd i = .b → kd j ≠ .e) (h : lOp P J ops n kd j K (gput g oi.dst p) st) :
    lOp P J ops n kd j (fun g' s' => lYields P J ops n (kd i) oi p g' s' ∧ K (gput g' oi.dst p) s') g st := by
  obtain ⟨h1, h2, h3⟩ := Oper.apart_spec hap
  unfold lOp at *
  rw [hj] at h ⊢
  simp only at h ⊢
  obtain ⟨hd, h⟩ := h
  rw [Qgb h1] at h
  refine ⟨hd, ?_⟩
  rcases h with ⟨e1, e2⟩ | ⟨e1, e2⟩
  · exact .inl ⟨e1, hy.put h3, by rw [← Qdi g p _ h2]; exact e2⟩
  · refine .inr ⟨e1, ?_⟩
    cases hk : kd j with
    | a =>
      rw [hk] at e2
      obtain ⟨q, e3, e4⟩ := e2
      exact ⟨q, fun s hs => (e3 s hs).congr fun x hx => Qcj h1 x hx, hy.put h3, by rw [← Qdi g p _ h2]; exact e4⟩
    | b =>
      rw [hk] at e2
      obtain ⟨q, e3, e4⟩ := e2
      exact ⟨q, e3.congr fun x hx => Qcj h1 x hx, hy.put h3, by rw [← Qdi g p _ h2]; exact e4⟩
    | e =>
      rw [hk] at e2
      refine (POp.congr e2 fun x hx => Qcj h1 x hx).mono fun q s hs => ⟨hs.1, ?_, by rw [← Qdi g p _ h2]; exact hs.2⟩
      have hy2 := hy.put (dst := oj.dst) (q := q) h3
      obtain ⟨d1, d2⟩ := hy2
      refine ⟨d1, ?_⟩
      rcases d2 with d2 | ⟨d2, d3⟩
      · exact .inl d2
      · refine .inr ⟨d2, ?_⟩
        cases hki : kd i with
        | a => rw [hki] at d3; exact d3
        | b => exact absurd hk (hb hki)
        | e => rw [hki] at d3; exact d3.elim
theorem lAny_first {Q : G → St → Prop} {i : Nat} {oi : Oper} {p : PV} (hi : ops[i]? = some oi) : ∀ (fuel : Nat) (listed : Array Bool) (g : G) (st : St), DC md ops listed →
    (∀ j oj, ops[j]? = some oj → j ≠ i → listed.getD j true = false → (∀ e ∈ oj.after, Region.binds md e = true → e.on ≠ i) → oi.apart ops oj = true) →
    (kd i = .b → ∀ j, kd j = .e → listed.getD j true = false → j < ops.size → ∃ f, Qhh md ops i f j = true) →
    i ∈ Region.ready md ops listed → lYields P J ops n (kd i) oi p g st → lAny P J md ops n kd Q fuel (listed.setIfInBounds i true) (gput g oi.dst p) st → lAny P J md ops n kd Q (fuel + 1) listed g st := by
  intro fuel
  induction fuel with
  | zero =>
    intro listed g st hdc _ _ hr hy H
    refine ⟨fun h => (by rw [h] at hr; cases hr), fun j hj => ?_⟩
    by_cases hji : j = i
    · subst hji; exact hy.op hi H
    · have := ready_mono hj hji
      rw [H.1] at this
      cases this
  | succ fuel ih =>
    intro listed g st hdc hfree hB hr hy H
    refine ⟨fun h => (by rw [h] at hr; cases hr), fun j hj => ?_⟩
    by_cases hji : j = i
    · subst hji; exact hy.op hi H
    · have h1 := H.2 j (ready_mono hj hji)
      obtain ⟨hjun, oj, hoj, hall⟩ := mem_ready.1 hj
      have hiun := (mem_ready.1 hr).1
      have hnot : ∀ e ∈ oj.after, Region.binds md e = true → e.on ≠ i := fun e he hb heq => by
        have h1 := hall e he hb
        rw [heq] at h1
        have h2 := Qfu hiun
        rw [h1] at h2; cases h2
      have hlt : j < ops.size := (Array.getElem?_eq_some_iff.1 hoj).1
      have hbj : kd i = .b → kd j ≠ .e := fun hb he => by
        obtain ⟨f, hw⟩ := hB hb j he hjun hlt
        exact Qjd hdc hw hiun hj
      have h2 := lOp_put hoj (hfree j oj hoj hji hjun hnot) hy hbj h1
      refine lOp_mono (fun g' s' h3 => ih (listed.setIfInBounds j true) g' s' (hdc.set hj) (fun k ok hk hki hun hno => ?_) (fun hb k hk hun hkl => ?_) (ready_mono hr (Ne.symm hji)) h3.1 ?_) h2
      · refine hfree k ok hk hki ?_ hno
        by_cases hjk : j = k
        · subst hjk; exact hjun
        · rw [getD_set_ne true hjk] at hun; exact hun
      · refine hB hb k hk ?_ hkl
        by_cases hjk : j = k
        · subst hjk; exact hjun
        · rw [getD_set_ne true hjk] at hun; exact hun
      · rw [Array.setIfInBounds_comm _ _ hji]
        exact h3.2
def Qbn (P : Program) (J : St → Prop) (n : Nat) (ops : Array Oper) (Q : PF → St → Prop) : List (Nat × Kd) → PF → St → Prop
  | [], fr, st => Q fr st
  | (i, k) :: rest, fr, st => ∃ o, ops[i]? = some o ∧ (∀ d, o.dst = some d → d < n) ∧
    ((fr.wants ops o = some false ∧ Qbn P J n ops Q rest (fr.put o.dst (.tup [])) st) ∨
     (fr.wants ops o = some true ∧
      match k with
      | .a => ∃ p, (∀ s, J s → POp P o fr.eval s fun q s' => q = p ∧ s' = s) ∧ Qbn P J n ops Q rest (fr.put o.dst p) st
      | .b => ∃ p, (POp P o fr.eval st fun q s' => q = p ∧ s' = st) ∧ Qbn P J n ops Q rest (fr.put o.dst p) st
      | .e => POp P o fr.eval st fun p s' => (Qhc ops i = true ∨ J s') ∧ Qbn P J n ops Q rest (fr.put o.dst p) s'))
theorem lAny_ord {Q : PF → St → Prop} {all : List (Nat × Kd)} : ∀ (l : List (Nat × Kd)) (listed : Array Bool) (fr : PF) (st : St), DC md ops listed → Qet md ops all l listed = true → Qbn P J n ops Q l fr st → lAny P J md ops n (kdOf all) (fun g s => ∃ fr : PF, fr.get = g ∧ Q fr s) l.length listed fr.get st := by
  intro l
  induction l with
  | nil => intro listed fr st _ hB h; exact ⟨by simpa [Qet] using hB, fr, rfl, h⟩
  | cons x rest ih =>
    intro listed fr st hdc hB h
    obtain ⟨i, k⟩ := x
    simp only [Qet, Bool.and_eq_true] at hB
    obtain ⟨⟨⟨hr, hk⟩, hB1⟩, hB2⟩ := hB
    have hr' : i ∈ Region.ready md ops listed := by simpa using hr
    have hk' : kdOf all i = k := by simpa using hk
    obtain ⟨o, ho, hd, h⟩ := h
    have free : freeB md ops i listed = true → ∀ j oj, ops[j]? = some oj → j ≠ i → listed.getD j true = false → (∀ e ∈ oj.after, Region.binds md e = true → e.on ≠ i) → o.apart ops oj = true := by
      intro hf j oj hj hji hun hno
      unfold freeB at hf
      rw [ho] at hf
      simp only [List.all_eq_true, List.mem_range] at hf
      have hlt : j < ops.size := (Array.getElem?_eq_some_iff.1 hj).1
      have := hf j hlt
      rw [hj] at this
      simp only [hun, Bool.or_false, Bool.or_eq_true, beq_iff_eq] at this
      rcases this with h | h | h
      · exact absurd h hji
      · obtain ⟨e, he, h⟩ := Array.any_eq_true'.1 h
        simp only [Bool.and_eq_true, beq_iff_eq] at h
        exact absurd h.2 (hno e he h.1)
      · exact h
    have nxt : ∀ p s, Qbn P J n ops Q rest (fr.put o.dst p) s → lAny P J md ops n (kdOf all) (fun g s => ∃ fr : PF, fr.get = g ∧ Q fr s) rest.length (listed.setIfInBounds i true) (gput fr.get o.dst p) s := fun p s hp => by
      rw [← gput_get]; exact ih _ _ s (hdc.set hr') hB2 hp
    cases k with
    | a =>
      have hy : ∃ p, lYields P J ops n (kdOf all i) o p fr.get st ∧ Qbn P J n ops Q rest (fr.put o.dst p) st := by
        rw [hk']
        rcases h with ⟨h1, h2⟩ | ⟨h1, p, h2, h3⟩
        · exact ⟨_, ⟨hd, .inl ⟨by rw [Qbq]; exact h1, rfl⟩⟩, h2⟩
        · exact ⟨p, ⟨hd, .inr ⟨by rw [Qbq]; exact h1, by rw [Qem]; exact h2⟩⟩, h3⟩
      obtain ⟨p, hy, hp⟩ := hy
      exact lAny_first ho _ listed _ st hdc (free hB1) (fun hb => by rw [hk'] at hb; cases hb) hr' hy (nxt p st hp)
    | b =>
      have hy : ∃ p, lYields P J ops n (kdOf all i) o p fr.get st ∧ Qbn P J n ops Q rest (fr.put o.dst p) st := by
        rw [hk']
        rcases h with ⟨h1, h2⟩ | ⟨h1, p, h2, h3⟩
        · exact ⟨_, ⟨hd, .inl ⟨by rw [Qbq]; exact h1, rfl⟩⟩, h2⟩
        · exact ⟨p, ⟨hd, .inr ⟨by rw [Qbq]; exact h1, by rw [Qem]; exact h2⟩⟩, h3⟩
      obtain ⟨p, hy, hp⟩ := hy
      simp only [Bool.and_eq_true] at hB1
      refine lAny_first ho _ listed _ st hdc (free hB1.1) (fun _ j hj hun hlt => ?_) hr' hy (nxt p st hp)
      have := List.all_eq_true.1 hB1.2 j (List.mem_range.2 hlt)
      simp only [hj, hun, Bool.or_false] at this
      exact ⟨_, by simpa using this⟩
    | e =>
      have hsole : Region.ready md ops listed = [i] := by simpa using hB1
      refine ⟨fun h0 => (by rw [h0] at hr'; cases hr'), fun j hj => ?_⟩
      rw [hsole] at hj
      obtain rfl := List.mem_singleton.1 hj
      unfold lOp
      rw [ho]
      refine ⟨hd, ?_⟩
      rcases h with ⟨h1, h2⟩ | ⟨h1, h2⟩
      · exact .inl ⟨by rw [Qbq]; exact h1, nxt _ st h2⟩
      · refine .inr ⟨by rw [Qbq]; exact h1, ?_⟩
        rw [hk']
        simp only
        rw [Qem]
        exact h2.mono fun p s hs => ⟨hs.1, nxt p s hs.2⟩
theorem Qew {id : Nat} {Q : Exit → PF → St → Prop} {fr : PF} {st : St} (order : List (Nat × Kd)) (hm : P.follows .mixedOrders = true) (hlen : order.length = ops.size) (hB : Qet .any ops order order (Array.replicate ops.size false) = true) (hJ : J st) (h : Qbn P J n ops (Q .normal) order fr st) : PW P n (.region id ops true) Q fr st := by
 intro F K w a hr hf
 have hdc : DC .any ops (Array.replicate ops.size false) := fun j o ho hj => by
  exfalso
  have hlt : j < ops.size := (Array.getElem?_eq_some_iff.1 ho).1
  simp [hlt] at hj
 have hx : Ext F K w K { w with drawn := w.drawn + 1 } := ⟨rfl, rfl, rfl, Nat.le_refl _, fun _ _ => rfl, fun _ _ h => ⟨h, rfl⟩, fun _ _ h => .inl h, fun _ _ h => h, fun g u h => ⟨u, h, .inl rfl⟩, fun _ _ => rfl⟩
 have hr2 : Rel F st K { w with drawn := w.drawn + 1 } := ⟨hr.kc, hr.ff, hr.fin, hr.fi, fun e he => (hr.ents e he).keep hx (fun _ _ => rfl) (fun _ _ _ h => h) fun _ _ => rfl, hr.nb, hr.nt⟩
 have hany := lAny_ord (md := .any) order _ fr st hdc hB h
 rw [hlen] at hany
 exact wp_region_any hm (wpAny_lAny (K0 := K) (w0 := w) (F := F) (Q := fun g s => ∃ fr : PF, fr.get = g ∧ Q .normal fr s) (fun K' w' a' g' st' h1 h2 h3 ⟨fr', e, h4⟩ => ⟨K', fr', st', h1, h2, by subst e; exact h3.fr, h4⟩) _ _ _ st K _ a (by simp) hx hr2 (hf.mono hx).fg (.inr hJ) hany)
end
section
variable {P : Program} {J : St → Prop} {n : Nat} {ops : Array Oper} {Q : PF → St → Prop} {fr : PF} {st : St} {p : PV} {op : Op} {ty : TypeId} {pos : String} {after : Array Edge} {gd : Option (Nat × Bool)} {od : List (Nat × Kd)} {j d : Nat}
theorem Qbj (h : Q fr st) : Qbn P J n ops Q [] fr st := h
theorem PL_s (h : Qbn P J n ops Q od ((d, p) :: fr) st) (ho : ops[j]? = some ⟨some d, op, ty, pos, after, gd⟩) (hd : d < n) (hw : PF.wants fr ops ⟨some d, op, ty, pos, after, gd⟩ = some true) (he : nev P fr.eval op = some p) : Qbn P J n ops Q ((j, .a) :: od) fr st :=
 ⟨_, ho, fun _ e => by cases e; exact hd, .inr ⟨hw, p, fun s _ => nev_ok (o := ⟨some d, op, ty, pos, after, gd⟩) he s, h⟩⟩
theorem PL_gn {k : Kd} (h : Qbn P J n ops Q od ((d, .tup []) :: fr) st) (ho : ops[j]? = some ⟨some d, op, ty, pos, after, gd⟩) (hd : d < n) (hw : PF.wants fr ops ⟨some d, op, ty, pos, after, gd⟩ = some false) : Qbn P J n ops Q ((j, k) :: od) fr st :=
 ⟨_, ho, fun _ e => by cases e; exact hd, .inl ⟨hw, h⟩⟩
theorem PL_b {l : List (Nat × TypeId × List PV)} {t : TypeId} {a : Operand} {i off : Nat} {T : Ty} {U : TypeId} {cs : List PV} (h : Qbn P (Qdp l) n ops Q od ((d, p) :: fr) st) (ho : ops[j]? = some ⟨some d, .load t a, ty, pos, after, gd⟩) (hd : d < n) (hw : PF.wants fr ops ⟨some d, .load t a, ty, pos, after, gd⟩ = some true) (ha : fr.eval a = some (.ptr i off)) (hT : tyOf P t = some T) (hl : (i, U, cs) ∈ l) (he : Jn T (cs.drop off) = some p) : Qbn P (Qdp l) n ops Q ((j, .a) :: od) fr st :=
 ⟨_, ho, fun _ e => by cases e; exact hd, .inr ⟨hw, p, fun s hs => Qia (o := ⟨some d, .load t a, ty, pos, after, gd⟩) (by simp only [nevB, ha, hT, hs _ hl]; exact he), h⟩⟩
theorem PL_e (ho : ops[j]? = some ⟨some d, op, ty, pos, after, gd⟩) (hd : d < n) (hw : PF.wants fr ops ⟨some d, op, ty, pos, after, gd⟩ = some true) (h : POp P ⟨some d, op, ty, pos, after, gd⟩ fr.eval st fun p st' => (Qhc ops j = true ∨ J st') ∧ Qbn P J n ops Q od ((d, p) :: fr) st') : Qbn P J n ops Q ((j, .e) :: od) fr st :=
 ⟨_, ho, fun _ e => by cases e; exact hd, .inr ⟨hw, h⟩⟩
theorem PL_e0 (ho : ops[j]? = some ⟨none, op, ty, pos, after, gd⟩) (hw : PF.wants fr ops ⟨none, op, ty, pos, after, gd⟩ = some true) (h : POp P ⟨none, op, ty, pos, after, gd⟩ fr.eval st fun _ st' => (Qhc ops j = true ∨ J st') ∧ Qbn P J n ops Q od fr st') : Qbn P J n ops Q ((j, .e) :: od) fr st :=
 ⟨_, ho, fun _ e => (by cases e), .inr ⟨hw, h⟩⟩
theorem PL_call {f : Nat} {xs : Array Operand} {ts : Array TypeId} {ps qs : List PV} {r : PV} (hc : PCalls P f qs [] fun p s => p = r ∧ s = []) (h : Qbn P J n ops Q od ((d, r) :: fr) st) (ho : ops[j]? = some ⟨some d, .call { callee := .value (.func f), args := xs, argTypes := ts }, ty, pos, after, gd⟩) (hd : d < n) (hw : PF.wants fr ops ⟨some d, .call { callee := .value (.func f), args := xs, argTypes := ts }, ty, pos, after, gd⟩ = some true) (hxs : Jo fr.eval xs.toList = some ps) (hn : ps.map PV.norm1 = qs) (hca : Qch P f = true) : Qbn P J n ops Q ((j, .a) :: od) fr st := by
 exact ⟨_, ho, fun _ e => (by cases e; exact hd), .inr ⟨hw, r, fun s _ => Qis (o := ⟨some d, .call { callee := .value (.func f), args := xs, argTypes := ts }, ty, pos, after, gd⟩) rfl rfl rfl hxs hca hn hc s, h⟩⟩
theorem Qgq {t : TypeId} {x y : Operand} {q : PV} {i off : Nat} {T : Ty} {c : TypeId × List PV} {U : TypeId} {cs ps : List PV} {st' : St} (ho : ops[j]? = some ⟨none, .store t x y, ty, pos, after, gd⟩) (hw : PF.wants fr ops ⟨none, .store t x y, ty, pos, after, gd⟩ = some true) (hx : fr.eval x = some q) (hq : q = .ptr i off) (hy : fr.eval y = some p) (hps : p.ps = ps) (hone : ps.all PV.one = true) (hT : tyOf P t = some T) (hsz : ps.length = T.size) (hb : st.box? i = some c) (hc : c = (U, cs)) (hfit : off + ps.length ≤ cs.length) (hs : st.setBox i (spl cs off ps) = st') (hJ : Qhc ops j = true ∨ J st')
  (h : Qbn P J n ops Q od fr st') : Qbn P J n ops Q ((j, .e) :: od) fr st :=
 PL_e0 ho hw (Qjx rfl hx hq hy hps hone hT hsz hb hc hfit hs ⟨hJ, h⟩)
theorem PL_bs {len : Nat} {t : TypeId} {parts : Array (Nat × Operand)} {E es bytes ts : Nat} {ea : Option Bool} {T0 : Ty} {e0 : Nat × Nat} {cells : List PV} {rows : List (List D)} (h : Qbn P J n ops Q od ((d, .d (.sl rows)) :: fr) st) (ho : ops[j]? = some ⟨some d, .buildSlice t len parts, ty, pos, after, gd⟩) (hd : d < n) (hw : PF.wants fr ops ⟨some d, .buildSlice t len parts, ty, pos, after, gd⟩ = some true) (hT : tyOf P t = some T0) (hT2 : T0 = ⟨ts, .slice E es ea⟩) (hE : elOf P E = some e0) (hE2 : e0 = (es, bytes)) (h0 : 0 < len * es) (h24 : len * es ≤ 16777216) (hf : Qab (fun i => some (i * es, es)) fr.eval (List.replicate (len * es) .u) parts.toList = some cells) (hr : Qcu es len cells = some rows) : Qbn P J n ops Q ((j, .a) :: od) fr st :=
 ⟨_, ho, fun _ e => (by cases e; exact hd), .inr ⟨hw, _, fun s _ => Qhi (o := ⟨some d, .buildSlice t len parts, ty, pos, after, gd⟩) rfl (hT2 ▸ hT) rfl (hE2 ▸ hE) h0 h24 hf hr s, h⟩⟩
end
section
variable {P : Program} {n : Nat} {ops : Array Oper} {Q : PF → St → Prop} {fr : PF} {st : St} {ty : TypeId} {pos : String} {after : Array Edge} {gd : Option (Nat × Bool)} {od : List (Nat × Kd)} {d j : Nat}
end
section
variable {P : Program} {J : St → Prop} {n : Nat} {ops : Array Oper} {Q : PF → St → Prop} {fr : PF} {st : St} {p : PV} {op : Op} {ty : TypeId} {pos : String} {after : Array Edge} {gd : Option (Nat × Bool)} {od : List (Nat × Kd)} {j d : Nat}
theorem Qbv {l : List (Nat × TypeId × List PV)} {t : TypeId} {a : Operand} {q : PV} {i off : Nat} {T : Ty} {x : TypeId × List PV} {U : TypeId} {cs : List PV} (h : Qbn P (Qdp l) n ops Q od ((d, p) :: fr) st)
  (ho : ops[j]? = some ⟨some d, .load t a, ty, pos, after, gd⟩ := by rfl) (hd : d < n := by decide)
  (hw : PF.wants fr ops ⟨some d, .load t a, ty, pos, after, gd⟩ = some true := by first | (simp [nev, nevA, nevB, Jp, PF.eval, PF.get, PF.wants, cPV, Qad, PV.rows, Qae, evUn, Jq, Qag, Qaf, Jn, TyK.agg, Qac, St.box?, St.tok?, St.setBox, St.setTok, Qab, spl, PV.ps, PV.one, Jo, aggD, slD, Jh, Jk, Ji, Jj, Jg, Jf, *]; done) | fail)
  (ha : fr.eval a = some q := by simp [nev, nevA, nevB, Jp, PF.eval, PF.get, PF.wants, cPV, Qad, PV.rows, Qae, evUn, Jq, Qag, Qaf, Jn, TyK.agg, Qac, St.box?, St.tok?, St.setBox, St.setTok, Qab, spl, PV.ps, PV.one, Jo, aggD, slD, Jh, Jk, Ji, Jj, Jg, Jf, *]; rfl) (hq : q = .ptr i off := by rfl) (hT : tyOf P t = some T := by simp; rfl)
  (hl : (i, x) ∈ l := by first | exact List.mem_cons_self | exact List.mem_cons_of_mem _ List.mem_cons_self | exact List.mem_cons_of_mem _ (List.mem_cons_of_mem _ List.mem_cons_self)) (hx : x = (U, cs) := by rfl)
  (he : Jn T (cs.drop off) = some p := by simp [nev, nevA, nevB, Jp, PF.eval, PF.get, PF.wants, cPV, Qad, PV.rows, Qae, evUn, Jq, Qag, Qaf, Jn, TyK.agg, Qac, St.box?, St.tok?, St.setBox, St.setTok, Qab, spl, PV.ps, PV.one, Jo, aggD, slD, Jh, Jk, Ji, Jj, Jg, Jf, *]; rfl) : Qbn P (Qdp l) n ops Q ((j, .a) :: od) fr st := by
 subst hq; subst hx
 exact PL_b h ho hd hw ha hT hl he
theorem Qbi {k : Kd} (h : Qbn P J n ops Q od ((d, .tup []) :: fr) st) (ho : ops[j]? = some ⟨some d, op, ty, pos, after, gd⟩ := by rfl) (hd : d < n := by decide) (hw : PF.wants fr ops ⟨some d, op, ty, pos, after, gd⟩ = some false := by first | (simp [nev, nevA, nevB, Jp, PF.eval, PF.get, PF.wants, cPV, Qad, PV.rows, Qae, evUn, Jq, Qag, Qaf, Jn, TyK.agg, Qac, St.box?, St.tok?, St.setBox, St.setTok, Qab, spl, PV.ps, PV.one, Jo, aggD, slD, Jh, Jk, Ji, Jj, Jg, Jf, *]; done) | fail) : Qbn P J n ops Q ((j, k) :: od) fr st := PL_gn h ho hd hw
theorem Qbw (h : Qbn P J n ops Q od ((d, p) :: fr) st) (ho : ops[j]? = some ⟨some d, op, ty, pos, after, gd⟩ := by rfl) (hd : d < n := by decide) (hw : PF.wants fr ops ⟨some d, op, ty, pos, after, gd⟩ = some true := by first | (simp [nev, nevA, nevB, Jp, PF.eval, PF.get, PF.wants, cPV, Qad, PV.rows, Qae, evUn, Jq, Qag, Qaf, Jn, TyK.agg, Qac, St.box?, St.tok?, St.setBox, St.setTok, Qab, spl, PV.ps, PV.one, Jo, aggD, slD, Jh, Jk, Ji, Jj, Jg, Jf, *]; done) | fail) (he : nev P fr.eval op = some p := by simp [nev, nevA, nevB, Jp, PF.eval, PF.get, PF.wants, cPV, Qad, PV.rows, Qae, evUn, Jq, Qag, Qaf, Jn, TyK.agg, Qac, St.box?, St.tok?, St.setBox, St.setTok, Qab, spl, PV.ps, PV.one, Jo, aggD, slD, Jh, Jk, Ji, Jj, Jg, Jf, *]; rfl) : Qbn P J n ops Q ((j, .a) :: od) fr st := PL_s h ho hd hw he
theorem PL_call2 {f : Nat} {xs : Array Operand} {ts : Array TypeId} {ps qs : List PV} {r : PV} (hc : PCalls P f qs [] fun p s => p = r ∧ s = []) (h : Qbn P J n ops Q od ((d, r) :: fr) st) (ho : ops[j]? = some ⟨some d, .call { callee := .value (.func f), args := xs, argTypes := ts }, ty, pos, after, gd⟩ := by rfl) (hd : d < n := by decide)
  (hw : PF.wants fr ops ⟨some d, .call { callee := .value (.func f), args := xs, argTypes := ts }, ty, pos, after, gd⟩ = some true := by first | (simp [nev, nevA, nevB, Jp, PF.eval, PF.get, PF.wants, cPV, Qad, PV.rows, Qae, evUn, Jq, Qag, Qaf, Jn, TyK.agg, Qac, St.box?, St.tok?, St.setBox, St.setTok, Qab, spl, PV.ps, PV.one, Jo, aggD, slD, Jh, Jk, Ji, Jj, Jg, Jf, *]; done) | fail)
  (hxs : Jo fr.eval xs.toList = some ps := by simp [nev, nevA, nevB, Jp, PF.eval, PF.get, PF.wants, cPV, Qad, PV.rows, Qae, evUn, Jq, Qag, Qaf, Jn, TyK.agg, Qac, St.box?, St.tok?, St.setBox, St.setTok, Qab, spl, PV.ps, PV.one, Jo, aggD, slD, Jh, Jk, Ji, Jj, Jg, Jf, *]; rfl)
  (hn : ps.map PV.norm1 = qs := by first | (simp [PV.norm1, PV.norm0, aggD, slD, Jh, Jk, Ji, Jj, Jg]; done) | fail) (hca : Qch P f = true := by rfl) : Qbn P J n ops Q ((j, .a) :: od) fr st := PL_call hc h ho hd hw hxs hn hca
end
section
variable {P : Program} {J : St → Prop} {n : Nat} {ops : Array Oper} {Q : PF → St → Prop} {fr : PF} {st L M st0 : St} {ty : TypeId} {pos : String} {after : Array Edge} {gd : Option (Nat × Bool)} {d f j : Nat} {xs : Array Operand} {ts : Array TypeId} {ps qs : List PV} {R : PV → St → Prop} {od : List (Nat × Kd)}
theorem Qie (k m : Nat) (hc : PCalls P f qs st0 R) (h : ∀ p s, R p s → (Qhc ops j = true ∨ J (L ++ (s ++ M))) ∧ Qbn P J n ops Q od ((d, p) :: fr) (L ++ (s ++ M)))
  (ho : ops[j]? = some ⟨some d, .call { callee := .value (.func f), args := xs, argTypes := ts }, ty, pos, after, gd⟩ := by rfl)
  (hL : st.take k = L := by simp only [List.cons_append, List.nil_append, List.take_succ_cons, List.take_zero]; rfl)
  (h0 : (st.drop k).take m = st0 := by rfl)
  (hM : (st.drop k).drop m = M := by simp only [List.cons_append, List.nil_append, List.drop_succ_cons, List.drop_zero, List.drop_nil]; rfl)
  (hd : d < n := by decide)
  (hw : PF.wants fr ops ⟨some d, .call { callee := .value (.func f), args := xs, argTypes := ts }, ty, pos, after, gd⟩ = some true := by first | (simp [nev, nevA, nevB, Jp, PF.eval, PF.get, PF.wants, cPV, Qad, PV.rows, Qae, evUn, Jq, Qag, Qaf, Jn, TyK.agg, Qac, St.box?, St.tok?, St.setBox, St.setTok, Qab, spl, PV.ps, PV.one, Jo, aggD, slD, Jh, Jk, Ji, Jj, Jg, Jf, *]; done) | fail)
  (hxs : Jo fr.eval xs.toList = some ps := by simp [nev, nevA, nevB, Jp, PF.eval, PF.get, PF.wants, cPV, Qad, PV.rows, Qae, evUn, Jq, Qag, Qaf, Jn, TyK.agg, Qac, St.box?, St.tok?, St.setBox, St.setTok, Qab, spl, PV.ps, PV.one, Jo, aggD, slD, Jh, Jk, Ji, Jj, Jg, Jf, *]; rfl)
  (hn : ps.map PV.norm1 = qs := by first | (simp [PV.norm1, PV.norm0, aggD, slD, Jh, Jk, Ji, Jj, Jg]; done) | fail)
  (hca : Qch P f = true := by rfl) : Qbn P J n ops Q ((j, .e) :: od) fr st :=
 PL_e ho hd hw (op_callX k m rfl rfl hc hL h0 hM hxs hn hca h)
end
section
variable {P : Program} {J : St → Prop} {n : Nat} {ops : Array Oper} {Q : PF → St → Prop} {rest : List Oper} {fr : PF} {st L M st0 : St} {p : PV} {ty : TypeId} {pos : String} {after : Array Edge} {gd : Option (Nat × Bool)} {d f j : Nat} {xs : Array Operand} {ts : Array TypeId} {ps qs first : List PV} {R : PV → St → Prop} {od : List (Nat × Kd)}
theorem PL_app {s x : Operand} {t xt : TypeId} {q : PV} {g : Nat} {rows rows' : List (List D)} {ts E es bytes : Nat} {ea : Option Bool} {T0 : Ty} {e0 : Nat × Nat} {c : TypeId × Nat × Nat} {st' : St} (n' : Nat)
  (h : Qbn P J n ops Q od ((d, .own g (rows ++ rows')) :: fr) st') (hl0 : ∀ row ∈ rows, row.length = es) (hl : ∀ row ∈ rows', row.length = es) (hn' : rows.length + rows'.length = n') (hJ : Qhc ops j = true ∨ J st')
  (ho : ops[j]? = some ⟨some d, .call { callee := .builtin .append, args := #[s, x], argTypes := #[t, xt] }, ty, pos, after, gd⟩ := by rfl) (hd : d < n := by decide)
  (hw : PF.wants fr ops ⟨some d, .call { callee := .builtin .append, args := #[s, x], argTypes := #[t, xt] }, ty, pos, after, gd⟩ = some true := by first | (simp [nev, nevA, nevB, Jp, PF.eval, PF.get, PF.wants, cPV, Qad, PV.rows, Qae, evUn, Jq, Qag, Qaf, Jn, TyK.agg, Qac, St.box?, St.tok?, St.setBox, St.setTok, Qab, spl, PV.ps, PV.one, Jo, aggD, slD, Jh, Jk, Ji, Jj, Jg, Jf, *]; done) | fail)
  (hs : fr.eval s = some q := by simp [nev, nevA, nevB, Jp, PF.eval, PF.get, PF.wants, cPV, Qad, PV.rows, Qae, evUn, Jq, Qag, Qaf, Jn, TyK.agg, Qac, St.box?, St.tok?, St.setBox, St.setTok, Qab, spl, PV.ps, PV.one, Jo, aggD, slD, Jh, Jk, Ji, Jj, Jg, Jf, *]; rfl) (hq : q = .own g rows := by rfl) (hx : fr.eval x = some p := by simp [nev, nevA, nevB, Jp, PF.eval, PF.get, PF.wants, cPV, Qad, PV.rows, Qae, evUn, Jq, Qag, Qaf, Jn, TyK.agg, Qac, St.box?, St.tok?, St.setBox, St.setTok, Qab, spl, PV.ps, PV.one, Jo, aggD, slD, Jh, Jk, Ji, Jj, Jg, Jf, *]; rfl) (hp : p.src = some rows' := by simp [PV.src, PV.rows]; rfl)
  (hT : tyOf P t = some T0 := by simp; rfl) (hT2 : T0 = ⟨ts, .slice E es ea⟩ := by rfl) (hX : Qdh ((tyOf P xt).map (·.k)) = true := by simp [Qdh]) (hE : elOf P E = some e0 := by simp; rfl) (hE2 : e0 = (es, bytes) := by rfl) (hes : 0 < es := by decide) (htok : st.tok? g = some c := by simp [nev, nevA, nevB, Jp, PF.eval, PF.get, PF.wants, cPV, Qad, PV.rows, Qae, evUn, Jq, Qag, Qaf, Jn, TyK.agg, Qac, St.box?, St.tok?, St.setBox, St.setTok, Qab, spl, PV.ps, PV.one, Jo, aggD, slD, Jh, Jk, Ji, Jj, Jg, Jf, *]; rfl) (hc : c = (E, es, rows.length) := by first | rfl | (simp; done) | (simp; omega) | fail) (hs' : st.setTok g n' = st' := by simp [St.setTok, *]; rfl) (hm : n' ≤ 4294967296 := by omega) (hb : bytes ≤ 32768 := by decide) : Qbn P J n ops Q ((j, .e) :: od) fr st :=
 PL_e ho hd hw (op_app rfl hs hq hx hp hT hT2 hX hE hE2 hes htok hc hn' hs' hl0 hl hm hb ⟨hJ, h⟩)
end
section
variable {P : Program} {n : Nat} {ops : Array Oper} {Q : PF → St → Prop} {od : List (Nat × Kd)} {fr : PF} {st : St} {d j : Nat} {ty : TypeId} {pos : String} {after : Array Edge} {gd : Option (Nat × Bool)}
theorem POrd_max {x y : Operand} {ts : Array TypeId} {p q : PV} {k : IntKind} {a b : Int} (z : Int) (hz : (if a < b then b else a) = z) (h : POrd P n ops Q od ((d, .d (.v (.int k z))) :: fr) st) (ho : ops[j]? = some ⟨some d, .call { callee := .builtin .max, args := #[x, y], argTypes := ts }, ty, pos, after, gd⟩ := by rfl) (hd : d < n := by decide)
  (hw : PF.wants fr ops ⟨some d, .call { callee := .builtin .max, args := #[x, y], argTypes := ts }, ty, pos, after, gd⟩ = some true := by rfl) (hx : fr.eval x = some p := by simp [nev, nevA, nevB, Jp, PF.eval, PF.get, PF.wants, cPV, Qad, PV.rows, Qae, evUn, Jq, Qag, Qaf, Jn, TyK.agg, Qac, St.box?, St.tok?, St.setBox, St.setTok, Qab, spl, PV.ps, PV.one, Jo, aggD, slD, Jh, Jk, Ji, Jj, Jg, Jf, *]; rfl) (hp : p = .d (.v (.int k a)) := by rfl) (hy : fr.eval y = some q := by simp [nev, nevA, nevB, Jp, PF.eval, PF.get, PF.wants, cPV, Qad, PV.rows, Qae, evUn, Jq, Qag, Qaf, Jn, TyK.agg, Qac, St.box?, St.tok?, St.setBox, St.setTok, Qab, spl, PV.ps, PV.one, Jo, aggD, slD, Jh, Jk, Ji, Jj, Jg, Jf, *]; rfl) (hq : q = .d (.v (.int k b)) := by rfl) : POrd P n ops Q ((j, .a) :: od) fr st := by
 subst hp; subst hq; subst hz
 have key : ∀ s, POp P ⟨some d, .call { callee := .builtin .max, args := #[x, y], argTypes := ts }, ty, pos, after, gd⟩ fr.eval s fun q s' => q = .d (.v (.int k (if a < b then b else a))) ∧ s' = s := fun s => by
  refine POp.of_run fun F K w ac h1 h2 => ?_
  have e1 := int_of (h2 x (by simp [Op.operands, Call.operands]) _ hx)
  have e2 := int_of (h2 y (by simp [Op.operands, Call.operands]) _ hy)
  refine ⟨.int k (if a < b then b else a), w, K, _, s, ?_, Ext.refl _ _ _, h1, .d (.v trivial), rfl, rfl⟩
  have hr := run_max_int2 (P := P) (w := w) ts ty k k a b
  simp only [execOp, resolve, invoke, builtin, Sem.run_bind, Sem.run_pure, Result.andThen_ok, List.map_toArray, List.map_cons, List.map_nil, e1, e2]
  rw [hr]; rfl
 exact ⟨_, ho, fun _ e => (by cases e; exact hd), .inr ⟨hw, _, key, h⟩⟩
end
section
variable {P : Program} {J : St → Prop} {n : Nat} {ops : Array Oper} {Q : PF → St → Prop} {od : List (Nat × Kd)} {fr : PF} {st : St} {p : PV} {d j : Nat} {ty : TypeId} {pos : String} {after : Array Edge} {gd : Option (Nat × Bool)}
theorem PJ_bs0 {t : TypeId} {ts E es bytes : Nat} {ea : Option Bool} {T0 : Ty} {e0 : Nat × Nat} (hJ : ∀ g, st.freshT g → J (.tok g E es 0 :: st)) (h : ∀ g, st.freshT g → Qbm P J n ops Q od ((d, .own g []) :: fr) (.tok g E es 0 :: st)) (ho : ops[j]? = some ⟨some d, .buildSlice t 0 #[], ty, pos, after, gd⟩ := by rfl) (hd : d < n := by decide) (hw : PF.wants fr ops ⟨some d, .buildSlice t 0 #[], ty, pos, after, gd⟩ = some true := by first | (simp [nev, nevA, nevB, Jp, PF.eval, PF.get, PF.wants, cPV, Qad, PV.rows, Qae, evUn, Jq, Qag, Qaf, Jn, TyK.agg, Qac, St.box?, St.tok?, St.setBox, St.setTok, Qab, spl, PV.ps, PV.one, Jo, aggD, slD, Jh, Jk, Ji, Jj, Jg, Jf, *]; done) | fail) (hT : tyOf P t = some T0 := by simp; rfl) (hT2 : T0 = ⟨ts, .slice E es ea⟩ := by rfl) (hE : elOf P E = some e0 := by simp; rfl) (hE2 : e0 = (es, bytes) := by rfl) (h0 : 0 < es := by decide) : Qbm P J n ops Q ((j, .e) :: od) fr st :=
 PJ_e ho hd hw (Qir rfl (hT2 ▸ hT) rfl (hE2 ▸ hE) h0 fun g hg => ⟨hJ g hg, h g hg⟩)
theorem PJ_slice {t : TypeId} {x : Operand} {lo hi : Option Operand} {ts E es : Nat} {ea : Option Bool} {T0 : Ty} {rows rows' : List (List D)} (l h : Nat) (hk : Qbm P J n ops Q od ((d, .d (.sl rows')) :: fr) st) (hl : ∀ row ∈ rows, row.length = es) (he : (rows.take h).drop l = rows') (ho : ops[j]? = some ⟨some d, .slice t x lo hi none, ty, pos, after, gd⟩ := by rfl) (hd : d < n := by decide) (hw : PF.wants fr ops ⟨some d, .slice t x lo hi none, ty, pos, after, gd⟩ = some true := by first | (simp [nev, nevA, nevB, Jp, PF.eval, PF.get, PF.wants, cPV, Qad, PV.rows, Qae, evUn, Jq, Qag, Qaf, Jn, TyK.agg, Qac, St.box?, St.tok?, St.setBox, St.setTok, Qab, spl, PV.ps, PV.one, Jo, aggD, slD, Jh, Jk, Ji, Jj, Jg, Jf, *]; done) | fail) (hT : tyOf P t = some T0 := by simp; rfl) (hT2 : T0 = ⟨ts, .slice E es ea⟩ := by rfl) (hes : es ≠ 0 := by decide) (hx : fr.eval x = some p := by simp [nev, nevA, nevB, Jp, PF.eval, PF.get, PF.wants, cPV, Qad, PV.rows, Qae, evUn, Jq, Qag, Qaf, Jn, TyK.agg, Qac, St.box?, St.tok?, St.setBox, St.setTok, Qab, spl, PV.ps, PV.one, Jo, aggD, slD, Jh, Jk, Ji, Jj, Jg, Jf, *]; rfl) (hp : p.rows = some rows := by first | rfl | (simp [PV.rows]; done) | (simp [PV.rows]; rfl)) (hlo : lowOf fr.eval lo = some (l : Int) := by first | rfl | (simp [lowOf, PF.eval, PF.get, cPV, Qad, *]; done) | fail) (hhi : highOf fr.eval rows.length hi = some (h : Int) := by first | rfl | (simp [highOf, PF.eval, PF.get, cPV, Qad, *]; done) | fail) (h1 : l ≤ h := by first | omega | (simp; done) | (simp; omega)) (h2 : h ≤ rows.length := by first | omega | (simp; done) | (simp; omega)) : Qbm P J n ops Q ((j, .a) :: od) fr st := by
 subst he
 exact ⟨_, ho, fun _ e => (by cases e; exact hd), .inr ⟨hw, _, fun s _ => POp_slice (o := ⟨some d, .slice t x lo hi none, ty, pos, after, gd⟩) rfl (hT2 ▸ hT) rfl hes hx hp hl hlo hhi h1 h2 s, hk⟩⟩
theorem PJ_app {s x : Operand} {t xt : TypeId} {q : PV} {g : Nat} {rows rows' : List (List D)} {ts E es bytes : Nat} {ea : Option Bool} {T0 : Ty} {e0 : Nat × Nat} {c : TypeId × Nat × Nat} {st' : St} (n' : Nat) (hn' : rows.length + rows'.length = n') (hl0 : ∀ row ∈ rows, row.length = es) (hl : ∀ row ∈ rows', row.length = es) (hJ : J st') (h : Qbm P J n ops Q od ((d, .own g (rows ++ rows')) :: fr) st') (ho : ops[j]? = some ⟨some d, .call { callee := .builtin .append, args := #[s, x], argTypes := #[t, xt] }, ty, pos, after, gd⟩ := by rfl) (hd : d < n := by decide) (hw : PF.wants fr ops ⟨some d, .call { callee := .builtin .append, args := #[s, x], argTypes := #[t, xt] }, ty, pos, after, gd⟩ = some true := by rfl) (hs : fr.eval s = some q := by simp [nev, nevA, nevB, Jp, PF.eval, PF.get, PF.wants, cPV, Qad, PV.rows, Qae, evUn, Jq, Qag, Qaf, Jn, TyK.agg, Qac, St.box?, St.tok?, St.setBox, St.setTok, Qab, spl, PV.ps, PV.one, Jo, aggD, slD, Jh, Jk, Ji, Jj, Jg, Jf, *]; rfl) (hq : q = .own g rows := by rfl) (hx : fr.eval x = some p := by simp [nev, nevA, nevB, Jp, PF.eval, PF.get, PF.wants, cPV, Qad, PV.rows, Qae, evUn, Jq, Qag, Qaf, Jn, TyK.agg, Qac, St.box?, St.tok?, St.setBox, St.setTok, Qab, spl, PV.ps, PV.one, Jo, aggD, slD, Jh, Jk, Ji, Jj, Jg, Jf, *]; rfl) (hp : p.src = some rows' := by simp [PV.src, PV.rows]; rfl) (hT : tyOf P t = some T0 := by simp; rfl) (hT2 : T0 = ⟨ts, .slice E es ea⟩ := by rfl) (hX : Qdh ((tyOf P xt).map (·.k)) = true := by simp [Qdh]) (hE : elOf P E = some e0 := by simp; rfl) (hE2 : e0 = (es, bytes) := by rfl) (hes : 0 < es := by decide) (htok : st.tok? g = some c := by simp [nev, nevA, nevB, Jp, PF.eval, PF.get, PF.wants, cPV, Qad, PV.rows, Qae, evUn, Jq, Qag, Qaf, Jn, TyK.agg, Qac, St.box?, St.tok?, St.setBox, St.setTok, Qab, spl, PV.ps, PV.one, Jo, aggD, slD, Jh, Jk, Ji, Jj, Jg, Jf, *]; rfl) (hc : c = (E, es, rows.length) := by first | rfl | (simp; done) | (simp; omega) | fail) (hs' : st.setTok g n' = st' := by simp [St.setTok, *]; rfl) (hm : n' ≤ 4294967296 := by omega) (hb : bytes ≤ 32768 := by decide) : Qbm P J n ops Q ((j, .e) :: od) fr st :=
 PJ_e ho hd hw (op_app rfl hs hq hx hp hT hT2 hX hE hE2 hes htok hc hn' hs' hl0 hl hm hb ⟨hJ, h⟩)
theorem PJ_min {x y : Operand} {ts : Array TypeId} {p q : PV} {k : IntKind} {a b : Int} (z : Int) (hz : (if b < a then b else a) = z) (h : Qbm P J n ops Q od ((d, .d (.v (.int k z))) :: fr) st) (ho : ops[j]? = some ⟨some d, .call { callee := .builtin .min, args := #[x, y], argTypes := ts }, ty, pos, after, gd⟩ := by rfl) (hd : d < n := by decide)
  (hw : PF.wants fr ops ⟨some d, .call { callee := .builtin .min, args := #[x, y], argTypes := ts }, ty, pos, after, gd⟩ = some true := by rfl) (hx : fr.eval x = some p := by simp [nev, nevA, nevB, Jp, PF.eval, PF.get, PF.wants, cPV, Qad, PV.rows, Qae, evUn, Jq, Qag, Qaf, Jn, TyK.agg, Qac, St.box?, St.tok?, St.setBox, St.setTok, Qab, spl, PV.ps, PV.one, Jo, aggD, slD, Jh, Jk, Ji, Jj, Jg, Jf, *]; rfl) (hp : p = .d (.v (.int k a)) := by rfl) (hy : fr.eval y = some q := by simp [nev, nevA, nevB, Jp, PF.eval, PF.get, PF.wants, cPV, Qad, PV.rows, Qae, evUn, Jq, Qag, Qaf, Jn, TyK.agg, Qac, St.box?, St.tok?, St.setBox, St.setTok, Qab, spl, PV.ps, PV.one, Jo, aggD, slD, Jh, Jk, Ji, Jj, Jg, Jf, *]; rfl) (hq : q = .d (.v (.int k b)) := by rfl) : Qbm P J n ops Q ((j, .a) :: od) fr st := by
 subst hp; subst hq; subst hz
 have key : ∀ s, J s → POp P ⟨some d, .call { callee := .builtin .min, args := #[x, y], argTypes := ts }, ty, pos, after, gd⟩ fr.eval s fun q s' => q = .d (.v (.int k (if b < a then b else a))) ∧ s' = s := fun s _ => by
  refine POp.of_run fun F K w ac h1 h2 => ?_
  have e1 := int_of (h2 x (by simp [Op.operands, Call.operands]) _ hx)
  have e2 := int_of (h2 y (by simp [Op.operands, Call.operands]) _ hy)
  refine ⟨.int k (if b < a then b else a), w, K, _, s, ?_, Ext.refl _ _ _, h1, .d (.v trivial), rfl, rfl⟩
  have hr := run_min_int2 (P := P) (w := w) ts ty k k a b
  simp only [execOp, resolve, invoke, builtin, Sem.run_bind, Sem.run_pure, Result.andThen_ok, List.map_toArray, List.map_cons, List.map_nil, e1, e2]
  rw [hr]; rfl
 exact ⟨_, ho, fun _ e => (by cases e; exact hd), .inr ⟨hw, _, key, h⟩⟩
end
theorem Qif {P : Program} {n : Nat} {Q : Exit → PF → St → Prop} {fr : PF} {st : St} {c : Code} {t i : Nat} {cs : List PV} {rows : List (List D)} (ht : fr.get t = some (.agg cs)) (hi : cs[i]? = some (.d (.sl rows))) (h : rows.length ≤ maxLen → PW P n c Q fr st) : PW P n c Q fr st := by
  intro F K w a hr hf
  have h0 := hf.at_ t _ ht
  generalize a.tmps.getD t undef = v at h0
  cases h0 with
  | @agg _ vs h1 h2 =>
    have hlt : i < vs.size := by have := (List.getElem?_eq_some_iff.1 hi).1; omega
    have h3 := h2 i _ vs[i] hi (Array.getElem?_eq_getElem hlt)
    obtain ⟨a', cap, hv, h4, h5⟩ := Qgv (Qee (rows := rows) rfl h3)
    exact h (by omega) F K w a hr hf
theorem gs_ {a b : Prop} (hb : b) (h : Hd2 b → a := by
  intro k
  repeat (first | (with_reducible first | refine Qa ?_ | refine Qb ?_ | refine Qd ?_ | refine Qe ?_ | refine Qf ?_ | refine Qg ?_ | refine Qh ?_ | refine Qi ?_ | refine Qj ?_ | refine Qk ?_ | refine Ql ?_ | refine Qm ?_ | refine Qn ?_ | refine Qo ?_ | refine Qp rfl ?_) | (first | refine Qq ?_ | refine Qr ?_) | (first | refine Qs ?_ | refine Qt ?_ | refine Qu ?_) | (first | refine Qv ?_ | refine Qw ?_) | (first | refine Qx ?_ | refine Qy ?_) | (first | refine Qz ?_ | refine Ra ?_ | refine Rb ?_))
  exact Hd2.out k) : a := h hb
theorem Qje {P : Program} {n : Nat} {Q : Exit → PF → St → Prop} {fr : PF} {st : St} {c : Code} (t : Nat) {p : PV} (ht : fr.get t = some p) (h : PW P n c Q ((t, p.norm0) :: fr) st) : PW P n c Q fr st := by
 intro F K w a hr hf
 refine h F K w a hr ⟨hf.size, hf.defers, fun t' p' hp => ?_⟩
 simp only [PF.get] at hp
 split at hp
 ·rename_i e
  subst e
  obtain rfl := Option.some.inj hp
  exact Qiv _ _ _ _ (hf.at_ t p ht)
 ·exact hf.at_ t' p' hp
def K0 (w : World) : Kp := ⟨fun b o => ∃ v, w.cell? ⟨b, o, none⟩ = some v, fun _ => none, fun _ => none⟩
def F0 (w : World) : Fz := ⟨fun b => b < w.heap.size, fun _ => False⟩
theorem rel0 (w : World) : Rel (F0 w) [] (K0 w) w := ⟨fun _ _ h => h, fun _ h => h, ⟨0, fun _ _ => ⟨rfl, rfl⟩⟩, fun _ h => h.elim, fun e he => (by cases he), by simp, by simp⟩
theorem PCalls.top {P : Program} {f : FuncId} {args : List PV} {x : Value} (h : PCalls P f args [] fun p _ => p = .d (.v x)) {w : World} {vs : Array Value} (ha : RelVs (K0 w) w args vs) : Calls P f vs w fun e w' => e = .returned x ∧ Below w.heap.size w w' := by
 refine (h (F0 w) (K0 w) w vs (rel0 w) ha).mono ?_
 rintro e w' ⟨v, K', p, st', rfl, hx, hr, hv, rfl⟩
 obtain ⟨rfl, -⟩ := hv.flat
 exact ⟨rfl, hx.os, hx.tape, hx.output, hx.size, fun k hk => hx.hp k hk⟩
theorem Qhq {F : Fz} {K : Kp} {w w' : World} (hb : Below w.heap.size w w') (hF : ∀ b, F.blk b → b < w.heap.size) (hk : ∀ b o, K.cell b o → b < w.heap.size) {K' : Kp} (h1 : ∀ b o, K.cell b o → K'.cell b o) (h2 : ∀ b o, K'.cell b o → K.cell b o ∨ w.heap.size ≤ b) (h3 : K'.box = K.box) (h4 : K'.own = K.own) : Ext F K w K' w' :=
 ⟨hb.os, hb.tape, hb.output, hb.size, fun b h => hb.block b (hF b h), fun b o h => ⟨h1 b o h, hb.cell (p := ⟨b, o, none⟩) (hk b o h)⟩, fun b o h => (h2 b o h).imp id fun h' hf => by have := hF b hf; omega, fun i b h => by rw [h3]; exact h, fun g u h => ⟨u, by rw [h4]; exact h, .inl rfl⟩, fun g _ => by rw [h4]⟩
theorem PCalls.flat {P : Program} {f : FuncId} {args : List PV} {x : Value} (hx : okv x) (h : ∀ (K : Kp) (w : World) (vs : Array Value), RelVs K w args vs → Calls P f vs w fun e w' => e = .returned x ∧ Below w.heap.size w w') : PCalls P f args [] fun p s => p = .d (.v x) ∧ s = [] := by
 intro F K w vs hr ha
 refine (h K w vs ha).mono ?_
 rintro e w' ⟨rfl, hb⟩
 have hxt : Ext F K w K w' := Qhq hb hr.ff (fun b o h => hr.klt h) (fun _ _ h => h) (fun _ _ h => .inl h) rfl rfl
 refine ⟨x, K, _, [], rfl, hxt, ⟨fun b o hc => ?_, fun b hf => by have := hr.ff b hf; have := hb.size; omega, hr.fin, hr.fi, fun e he => (by cases he), by simp, by simp⟩, .d (.v hx), rfl, rfl⟩
 obtain ⟨v, hv⟩ := hr.kc b o hc
 exact ⟨v, (hxt.kp b o hc).2.trans hv⟩
theorem PCalls.data {P : Program} {f : FuncId} {args : List PV} {r : PV} (h : ∀ (K : Kp) (w : World) (vs : Array Value), RelVs K w args vs → Calls P f vs w fun e w' => ∃ v, e = .returned v ∧ Below w.heap.size w w' ∧ ∀ K' : Kp, (∀ b o u, w.heap.size ≤ b → w'.cell? ⟨b, o, none⟩ = some u → K'.cell b o) → RelV K' w' r v) : PCalls P f args [] fun p s => p = r ∧ s = [] := by
 intro F K w vs hr ha
 refine (h K w vs ha).mono ?_
 rintro e w' ⟨v, rfl, hb, hv⟩
 have hxt : Ext F K w ⟨fun b o => K.cell b o ∨ (w.heap.size ≤ b ∧ ∃ u, w'.cell? ⟨b, o, none⟩ = some u), K.box, K.own⟩ w' := Qhq hb hr.ff (fun b o h => hr.klt h) (fun _ _ h => .inl h) (fun _ _ h => h.imp id fun h => h.1) rfl rfl
 refine ⟨v, _, r, [], rfl, hxt, ⟨fun b o hc => ?_, fun b hf => by have := hr.ff b hf; have := hb.size; omega, hr.fin, hr.fi, fun e he => (by cases he), by simp, by simp⟩, hv _ fun b o u h1 h2 => .inr ⟨h1, u, h2⟩, rfl, rfl⟩
 rcases hc with hc | ⟨_, hc⟩
 ·obtain ⟨v, hv⟩ := hr.kc b o hc
  exact ⟨v, (hxt.kp b o (hc)).2.trans hv⟩
 ·exact hc
theorem RelVs.one {K : Kp} {w : World} {p : PV} {vs : Array Value} (h : RelVs K w [p] vs) : ∃ v, vs = #[v] ∧ RelV K w p v := by
 obtain ⟨h1, h2⟩ := h
 obtain ⟨vs⟩ := vs
 match vs, h1 with
 | [v], _ => exact ⟨v, rfl, h2 0 p v rfl rfl⟩
theorem RelVs.two {K : Kp} {w : World} {p q : PV} {vs : Array Value} (h : RelVs K w [p, q] vs) : ∃ v u, vs = #[v, u] ∧ RelV K w p v ∧ RelV K w q u := by
 obtain ⟨h1, h2⟩ := h
 obtain ⟨vs⟩ := vs
 match vs, h1 with
 | [v, u], _ => exact ⟨v, u, rfl, h2 0 p v rfl rfl, h2 1 q u rfl rfl⟩
theorem RelVs.three {K : Kp} {w : World} {p q r : PV} {vs : Array Value} (h : RelVs K w [p, q, r] vs) : ∃ v u x, vs = #[v, u, x] ∧ RelV K w p v ∧ RelV K w q u ∧ RelV K w r x := by
 obtain ⟨h1, h2⟩ := h
 obtain ⟨vs⟩ := vs
 match vs, h1 with
 | [v, u, x], _ => exact ⟨v, u, x, rfl, h2 0 p v rfl rfl, h2 1 q u rfl rfl, h2 2 r x rfl rfl⟩
theorem Qey (K : Kp) (w : World) : RelVs K w [] #[] := ⟨rfl, fun i p v hp _ => by simp at hp⟩
theorem Qbr {K : Kp} {w : World} {p : PV} {v : Value} {ps : List PV} {vs : List Value} (h : RelV K w p v) (hs : RelVs K w ps vs.toArray) : RelVs K w (p :: ps) (v :: vs).toArray := by
  refine ⟨by have := hs.1; simp at this ⊢; omega, fun i q u hq hu => ?_⟩
  cases i with
  | zero =>
    have e1 := Option.some.inj hq
    have e2 : v = u := by simpa using hu
    subst e1; subst e2; exact h
  | succ i => exact hs.2 i q u (by simpa using hq) (by simpa using hu)
end Go.Proofs.YtdklpbefbamchaaGreat
namespace Go.Proofs.YtdklpbefbamchaaGreat
open Go.RowKit Go.ChangeMaps Go.MapKept
open Go.WideElems (Fit rd rg pl rd_val elemAt)
def MapO (P : Program) (k e : TypeId) (n : Nat) (D : DataW Unit) : Obj → Prop := fun o => ∀ (w : World) (b : Nat), w.heap[b]? = some o → w.ownsMap P k (plainElem P e) b n D
theorem MapO.of {P : Program} {k e : TypeId} {n : Nat} {D : DataW Unit} {w : World} {b : Nat} (h : w.ownsMap P k (plainElem P e) b n D) : ∃ o, w.heap[b]? = some o ∧ MapO P k e n D o := by
 obtain ⟨es, clock, hb, F, hs, hD⟩ := h
 exact ⟨_, hb, fun w2 b2 h2 => ⟨es, clock, h2, F, hs, hD⟩⟩
theorem MapO.made (P : Program) (k e : TypeId) : MapO P k e 0 (.map []) (.map #[] 0) := fun w b hb => ⟨#[], 0, hb, ⟨by simp, stamped_empty 0, by simp⟩, Nat.le_refl _, rfl⟩
section
variable {P : Program} {n : Nat} {ops : Array Oper} {Q : PF → St → Prop} {rest : List Oper} {fr : PF} {st : St} {ty : TypeId} {pos : String} {after : Array Edge} {gd : Option (Nat × Bool)} {d : Nat}
end
end Go.Proofs.YtdklpbefbamchaaGreat
namespace Go.Proofs.YtdklpbefbamchaaGreat
open Go.RowKit
section
variable {P : Program} {n : Nat} {fr fi : PF} {st si : St}
theorem PW.weak {c : Code} {Q : Exit → PF → St → Prop} (h : PW P n c Q fi si) (hf : ∀ t p, fi.get t = some p → fr.get t = some p) (hs : si.Sublist st) : PW P n c Q fr st :=
 fun F K w a h1 h2 => h F K w a (h1.sub hs) (h2.weak hf)
end
structure InBox (cs : List PV) (rows : List (List D)) (sz : Nat) : Prop where
 pos : 0 < sz
 len : ∀ row ∈ rows, row.length = sz
 at_ : ∀ (r j : Nat) (row : List D) (d : D), rows[r]? = some row → row[j]? = some d → cs[r * sz + j]? = some (.d d)
theorem InBox.le {cs : List PV} {rows : List (List D)} {sz : Nat} (h : InBox cs rows sz) : rows.length * sz ≤ cs.length := by
 by_cases h0 : rows.length = 0
 ·rw [h0]; omega
 ·have hl : rows.length - 1 < rows.length := by omega
  have hr := List.getElem?_eq_getElem hl
  have hz := h.len _ (List.getElem_mem hl)
  have hp := h.pos
  have hj : sz - 1 < (rows[rows.length - 1]).length := by omega
  have := h.at_ _ (sz - 1) _ _ hr (List.getElem?_eq_getElem hj)
  have h2 := (List.getElem?_eq_some_iff.1 this).1
  have h3 : (rows.length - 1) * sz + sz = rows.length * sz := by
   rw [← Nat.succ_mul, Nat.succ_eq_add_one, Nat.sub_add_cancel (by omega)]
  omega
theorem relD_ok {K : Nat → Nat → Prop} {w : World} {d : D} {v : Value} (h : RelD K w d v) : okv v := by
 cases h with
 | v h => exact h
 | nil _ => trivial
 | sl _ _ _ _ _ _ => trivial
theorem flat_row {α : Type} {sz : Nat} : ∀ (rows : List (List α)) (r j : Nat) (row : List α) (d : α), (∀ row ∈ rows, row.length = sz) → rows[r]? = some row → row[j]? = some d → rows.flatten[r * sz + j]? = some d := by
  intro rows
  induction rows with
  | nil => intro r j row d _ h; simp at h
  | cons x rest ih =>
    intro r j row d hl h hd
    have hx := hl x (by simp)
    rw [List.flatten_cons]
    cases r with
    | zero =>
      simp only [List.getElem?_cons_zero, Option.some.injEq] at h
      subst h
      rw [Nat.zero_mul, Nat.zero_add, List.getElem?_append_left (List.getElem?_eq_some_iff.1 hd).1]
      exact hd
    | succ r =>
      simp only [List.getElem?_cons_succ] at h
      rw [Nat.succ_mul, List.getElem?_append_right (by omega), hx, show r * sz + sz + j - sz = r * sz + j by omega]
      exact ih r j row d (fun y hy => hl y (by simp [hy])) h hd
theorem flat_len {α : Type} {sz : Nat} : ∀ (rows : List (List α)), (∀ row ∈ rows, row.length = sz) → rows.flatten.length = rows.length * sz := by
  intro rows
  induction rows with
  | nil => intro _; simp
  | cons x rest ih =>
    intro hl
    rw [List.flatten_cons, List.length_append, ih (fun y hy => hl y (by simp [hy])), hl x (by simp), List.length_cons, Nat.succ_mul]
    omega
def boxC (rows : List (List D)) (sz c : Nat) : List PV := rows.flatten.map .d ++ List.replicate (c * sz - rows.length * sz) .u
theorem boxC_len {rows : List (List D)} {sz c : Nat} (hl : ∀ row ∈ rows, row.length = sz) (hc : rows.length ≤ c) : (boxC rows sz c).length = c * sz := by
 unfold boxC
 have : rows.length * sz ≤ c * sz := Nat.mul_le_mul_right _ hc
 rw [List.length_append, List.length_map, List.length_replicate, flat_len rows hl]
 omega
theorem Rel.adopt {F : Fz} {K : Kp} {w : World} (h : Rel F [] K w) {arr : Array Value} {T : TypeId} {ps : List PV} {b : Nat} (hb : w.heap[b]? = some (.cells arr T)) (hF : ¬ F.blk b) (hK : ∀ o, ¬ K.cell b o) (hs : arr.size = ps.length) (hc : ∀ (j : Nat) (p : PV) (v : Value), ps[j]? = some p → arr[j]? = some v → RelV K w p v) :
  ∃ i, Ext F K w (K.addBox i b) w ∧ Rel F [.box i T ps] (K.addBox i b) w := by
 obtain ⟨nx, hnx⟩ := h.fin
 have hnone : K.box nx = none := (hnx nx (Nat.le_refl _)).1
 have hkb : ∀ j b', K.box j = some b' → (K.addBox nx b).box j = some b' := fun j b' hj => by
  simp only [Kp.addBox]
  rw [if_neg (by intro e; subst e; rw [hnone] at hj; cases hj)]; exact hj
 have hx : Ext F K w (K.addBox nx b) w := ⟨rfl, rfl, rfl, Nat.le_refl _, fun _ _ => rfl, fun b o h => ⟨h, rfl⟩, fun b o h => .inl h, hkb, fun g u h => ⟨u, h, .inl rfl⟩, fun _ _ => rfl⟩
 refine ⟨nx, hx, ⟨fun b o hc => h.kc b o hc, h.ff, ⟨nx + 1, fun j hj => ?_⟩, h.fi, fun e he => ?_, ?_, ?_⟩⟩
 ·simp only [Kp.addBox]
  rw [if_neg (by omega)]
  exact hnx j (by omega)
 ·obtain rfl := List.mem_singleton.1 he
  exact ⟨b, arr, by simp [Kp.addBox], hF, hb, hs, fun j p v hp hv => (hc j p v hp hv).mono hx, hK⟩
 ·simp [Ent.block, Kp.addBox]
 ·exact (List.nodup_nil : ([] : List Nat).Nodup)
theorem PCalls.boxed {P : Program} {f : FuncId} {E : TypeId} {sz : Nat} {rows : List (List D)} (hsz : 0 < sz) (hne : 0 < rows.length) (hl : ∀ row ∈ rows, row.length = sz)
  (h : ∀ rows' : List (List D), (∀ row ∈ rows', row.length = sz) → rows'.length = rows.length → PCalls P f [.d (.sl rows')] [] fun p s => ∃ g, p = .own g rows' ∧ s = [.tok g E sz rows'.length]) :
  PCalls P f [.d (.sl rows)] [] fun p s => ∃ i c, rows.length ≤ c ∧ c ≤ maxLen ∧ p = .bsl i rows.length c ∧ s = [.box i E (boxC rows sz c)] := by
 intro F K w vs hr ha
 obtain ⟨v, rfl, hv⟩ := ha.one
 cases hv with
 | d hv =>
 generalize hrr : rows = rows0 at hv
 cases hv with
 | nil _ => subst hrr; exact absurd hne (by decide)
 | @sl sz0 _ b0 off0 cap0 vals h1 h2 h3 h4 h5 =>
 subst hrr
 have hszz : sz0 = sz := by
  have hm := List.getElem_mem hne
  rw [← h3 _ hm, hl _ hm]
 subst hszz
 obtain ⟨rows', hrows'⟩ : ∃ rows' : List (List D), rows' = (List.range rows.length).map fun i => (List.range sz0).map fun j => D.v (vals i j) := ⟨_, rfl⟩
 have hlen' : rows'.length = rows.length := by rw [hrows']; simp
 have hl' : ∀ row ∈ rows', row.length = sz0 := by
  intro row hrow
  rw [hrows'] at hrow
  obtain ⟨i, _, rfl⟩ := List.mem_map.1 hrow
  simp
 have hget' : ∀ i j, i < rows.length → j < sz0 → ∃ row, rows'[i]? = some row ∧ row[j]? = some (D.v (vals i j)) := by
  intro i j hi hj
  refine ⟨(List.range sz0).map fun j => D.v (vals i j), ?_, ?_⟩
  ·rw [hrows', List.getElem?_map, List.getElem?_range hi]; rfl
  ·rw [List.getElem?_map, List.getElem?_range hj]; rfl
 have hget : ∀ i j, i < rows.length → j < sz0 → ∃ row d, rows[i]? = some row ∧ row[j]? = some d := by
  intro i j hi hj
  have e := hl _ (List.getElem_mem hi)
  exact ⟨rows[i], rows[i][j]'(by omega), List.getElem?_eq_getElem hi, List.getElem?_eq_getElem (by omega)⟩
 have hbk : ∀ i j, i < rows.length → j < sz0 → ∀ row d, rows'[i]? = some row → row[j]? = some d → d = D.v (vals i j) := by
  intro i j hi hj row d h6 h7
  obtain ⟨row2, h8, h9⟩ := hget' i j hi hj
  rw [h8] at h6
  obtain rfl := Option.some.inj h6
  rw [h9] at h7
  exact (Option.some.inj h7).symm
 have harg : RelVs (K0 w) w [.d (.sl rows')] #[.slice (some ⟨b0, off0, none⟩) rows.length cap0] := by
  refine Qbr (.d ?_) (Qey _ _)
  rw [← hlen']
  refine .sl (sz := sz0) vals (by omega) h2 hl' (fun i j row d hi hj => ?_) fun i j row d hi hj => ?_
  ·have e1 := (List.getElem?_eq_some_iff.1 hi).1
   have e2 := (List.getElem?_eq_some_iff.1 hj).1
   rw [hl' _ (List.mem_of_getElem? hi)] at e2
   rw [hlen'] at e1
   obtain ⟨row2, d2, h6, h7⟩ := hget i j e1 e2
   obtain ⟨-, h8⟩ := h4 i j row2 d2 h6 h7
   exact ⟨⟨_, h8⟩, h8⟩
  ·have e1 := (List.getElem?_eq_some_iff.1 hi).1
   have e2 := (List.getElem?_eq_some_iff.1 hj).1
   rw [hl' _ (List.mem_of_getElem? hi)] at e2
   rw [hlen'] at e1
   rw [hbk i j e1 e2 row d hi hj]
   obtain ⟨row2, d2, h6, h7⟩ := hget i j e1 e2
   exact .v (relD_ok (h5 i j row2 d2 h6 h7))
 refine (h rows' hl' hlen' (F0 w) (K0 w) w _ (rel0 w) harg).mono ?_
 rintro e w' ⟨v', K1, p, s, rfl, hx, hr1, hv1, g, rfl, rfl⟩
 obtain ⟨u, xs, hu, hnf, hsl, how, hblk⟩ := hr1.ents (.tok g E sz0 rows'.length) (by simp)
 cases hv1 with
 | @own _ _ _ u' hd hu' hle heq =>
 rw [hu] at hu'
 obtain rfl := Option.some.inj hu'
 have hvu : v' = u := heq hsl.symm
 subst hvu
 have hbel : Below w.heap.size w w' := ⟨hx.os, hx.tape, hx.output, hx.size, fun k hk => hx.hp k hk⟩
 rcases how.2 with ⟨e1, e2⟩ | ⟨bb, cap, cur, e1, -, e3, e4, e5, e6, e7⟩
 ·rw [e1] at hsl
  simp [slen] at hsl
  omega
 subst e1
 obtain ⟨hnew, -⟩ := hblk bb rfl
 have hge : w.heap.size ≤ bb := by
  rcases Nat.lt_or_ge bb w.heap.size with h6 | h6
  ·exact absurd h6 hnew
  ·exact h6
 have hxt : Ext F K w K w' := Qhq hbel hr.ff (fun b o h => hr.klt h) (fun _ _ h => h) (fun _ _ h => .inl h) rfl rfl
 have hr2 : Rel F [] K w' := ⟨fun b o hc => by
  obtain ⟨v, hv⟩ := hr.kc b o hc
  exact ⟨v, (hxt.kp b o hc).2.trans hv⟩, fun b hf => by have := hr.ff b hf; have := hbel.size; omega, hr.fin, hr.fi, fun e he => (by cases he), by simp, by simp⟩
 have hcl : rows.length ≤ cap := by rw [← hlen']; exact e4
 have hcell : ∀ i j, i < rows.length → j < sz0 → cur[i * sz0 + j]? = some (vals i j) := by
  intro i j hi hj
  obtain ⟨row2, h8, h9⟩ := hget' i j hi hj
  generalize hrr : rows' = rs at hd h8
  cases hd with
  | nil _ => simp at h8
  | @sl sz1 _ _ _ _ vals1 g1 g2 g3 g4 g5 =>
  have hs1 : sz1 = sz0 := by
   have hm := List.mem_of_getElem? h8
   rw [← g3 _ hm, hl' _ (hrr ▸ hm)]
  subst hs1
  have h10 := (g4 i j row2 _ h8 h9).2
  have h11 := g5 i j row2 _ h8 h9
  rw [Qfz e3, Nat.zero_add] at h10
  rw [h10]
  generalize vals1 i j = y at h11
  cases h11; rfl
 obtain ⟨i, hx3, hr3⟩ := hr2.adopt (T := E) (ps := boxC rows sz0 cap) e3 (fun hf => by have := hr.ff _ hf; omega) (fun o hc => by have := hr.klt hc; omega) (by rw [e6, boxC_len hl hcl]) fun j p v hp hv => by
  unfold boxC at hp
  by_cases hj : j < rows.flatten.length
  ·rw [List.getElem?_append_left (by rw [List.length_map]; exact hj), List.getElem?_map, List.getElem?_eq_getElem hj] at hp
   obtain rfl := Option.some.inj hp
   have hfl := flat_len rows hl
   have hpos : 0 < sz0 := hsz
   have hi : j / sz0 < rows.length := by rw [hfl] at hj; exact (Nat.div_lt_iff_lt_mul hpos).2 hj
   have hjm := Nat.mod_lt j hpos
   have hdm : j / sz0 * sz0 + j % sz0 = j := by rw [Nat.mul_comm]; exact Nat.div_add_mod j sz0
   obtain ⟨row, d, h6, h7⟩ := hget (j / sz0) (j % sz0) hi hjm
   have h8 := flat_row rows (j / sz0) (j % sz0) row d hl h6 h7
   rw [hdm, List.getElem?_eq_getElem hj] at h8
   rw [Option.some.inj h8]
   have h9 := hcell (j / sz0) (j % sz0) hi hjm
   rw [hdm, hv] at h9
   rw [Option.some.inj h9]
   exact .d ((h5 _ _ row d h6 h7).mono hxt.kp)
  ·rw [List.getElem?_append_right (by rw [List.length_map]; omega)] at hp
   have := List.mem_of_getElem? hp
   rw [List.mem_replicate] at this
   rw [this.2]
   exact .u
 exact ⟨_, _, .bsl i rows'.length cap, _, rfl, hxt.trans hx3, hr3, .bsl (by simp [Kp.addBox]) e4 e5, i, cap, hcl, e5, by rw [hlen'], rfl⟩
theorem RV.rev {K : Nat → Nat → Prop} {w : World} {sz : Nat} {rows : List (List D)} {css : List (List Value)} (hp : 0 < sz) (hn : css.length = rows.length) (hl : ∀ c ∈ css, c.length = sz) (h : RV K w sz rows css.flatten) : RV K w sz rows.reverse css.reverse.flatten := by
 have hlr : ∀ c ∈ css.reverse, c.length = sz := fun c hc => hl c (List.mem_reverse.1 hc)
 refine ⟨by rw [flat_len _ hlr, List.length_reverse, List.length_reverse, hn], fun row hr => h.2.1 row (List.mem_reverse.1 hr), fun i j row d hi hj => ?_⟩
 have hil : i < rows.length := by have := (List.getElem?_eq_some_iff.1 hi).1; simpa using this
 have hjl : j < sz := by
  have h1 := (List.getElem?_eq_some_iff.1 hj).1
  rw [h.2.1 row (List.mem_reverse.1 (List.mem_of_getElem? hi))] at h1
  exact h1
 rw [List.getElem?_reverse hil] at hi
 obtain ⟨x, h1, h2⟩ := h.2.2 _ j row d hi hj
 have hcl : rows.length - 1 - i < css.length := by omega
 have hx : (css[rows.length - 1 - i])[j]? = some x := by
  have hc := hl _ (List.getElem_mem hcl)
  have h3 : j < (css[rows.length - 1 - i]).length := by omega
  have h4 := flat_row css (rows.length - 1 - i) j _ _ hl (List.getElem?_eq_getElem hcl) (List.getElem?_eq_getElem h3)
  rw [h4] at h1
  rw [List.getElem?_eq_getElem h3]
  exact h1
 refine ⟨x, flat_row css.reverse i j _ x hlr ?_ hx, h2⟩
 rw [List.getElem?_reverse (by omega), hn]
 exact List.getElem?_eq_getElem hcl
end Go.Proofs.YtdklpbefbamchaaGreat
