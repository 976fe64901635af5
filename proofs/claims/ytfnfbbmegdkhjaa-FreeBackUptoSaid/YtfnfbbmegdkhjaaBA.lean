import Derived.WalkKit
import Derived.WalkSpells
import Derived.WalkLawsBesides
import Derived.Lib.Hide
import Derived.Deep.AppendLies
import Derived.Laws.AppendOwnNone
import Derived.Laws.Tables
import Derived.Great.BuildSlice
import Derived.Orders
import Derived.Test.YtfnfbbmegdkhjaaBD
namespace Go.Proofs.Ytfnfbbmegdkhjaa
open Go.RowKit
/-- data without addresses -/
inductive D where
  | v (x : Value)
  | sl (rows : List (List D))
/-- what a temporary or a variable holds, without addresses -/
inductive PV where
  | d (x : D)
  | u
  | nils
  | own (g : Nat) (rows : List (List D))
  | full (rows : List (List D))
  | ptr (i off : Nat)
  | eptr (cells : List D)
  | agg (cs : List PV)
  | tup (vs : List PV)
  | fn (f : Fn) (first captured : List PV)
  | mp (i : Nat)
  | bsl (i n c : Nat)
/-- what is kept: cells for ever, where variables lie, which slice is whose -/
structure Kp where
  cell : Nat → Nat → Prop
  box : Nat → Option Nat
  own : Nat → Option Value
/-- what may not be touched: blocks, and slices of others -/
structure Fz where
  blk : Nat → Prop
  id : Nat → Prop
def okv : Value → Prop
  | .string s => s.size ≤ maxLen
  | .agg _ => False
  | .tuple _ => False
  | _ => True
theorem okv_one {v : Value} (h : okv v) : v.oneCell' = true := by cases v <;> first | rfl | exact h.elim
def slen : Value → Nat
  | .slice _ n _ => n
  | _ => 0
/-- a piece of data lies in memory, in cells that are kept -/
inductive RelD (K : Nat → Nat → Prop) (w : World) : D → Value → Prop
  | v {x} : okv x → RelD K w (.v x) x
  | nil {a cap} : cap ≤ maxLen → RelD K w (.sl []) (.slice a 0 cap)
  | sl {sz rows b off cap} (vals : Nat → Nat → Value) : rows.length ≤ cap → cap ≤ maxLen → (∀ row ∈ rows, row.length = sz) →
      (∀ (i j : Nat) (row : List D) (d : D), rows[i]? = some row → row[j]? = some d → K b (off + i * sz + j) ∧ w.cell? ⟨b, off + i * sz + j, none⟩ = some (vals i j)) →
      (∀ (i j : Nat) (row : List D) (d : D), rows[i]? = some row → row[j]? = some d → RelD K w d (vals i j)) → RelD K w (.sl rows) (.slice (some ⟨b, off, none⟩) rows.length cap)
/-- a value is what is told of it -/
inductive RelV (K : Kp) (w : World) : PV → Value → Prop
  | d {x v} : RelD K.cell w x v → RelV K w (.d x) v
  | u {v} : RelV K w .u v
  | nils : RelV K w .nils (.slice none 0 0)
  | own {g rows v u} : RelD K.cell w (.sl rows) v → K.own g = some u → rows.length ≤ slen u → (rows.length = slen u → v = u) → RelV K w (.own g rows) v
  | full {rows a} : RelD K.cell w (.sl rows) (.slice a rows.length rows.length) → RelV K w (.full rows) (.slice a rows.length rows.length)
  | ptr {i off b} : K.box i = some b → RelV K w (.ptr i off) (.pointer (some ⟨b, off, none⟩))
  | eptr {cells b off} (vals : Nat → Value) : (∀ (j : Nat) (d : D), cells[j]? = some d → K.cell b (off + j) ∧ w.cell? ⟨b, off + j, none⟩ = some (vals j)) →
      (∀ (j : Nat) (d : D), cells[j]? = some d → RelD K.cell w d (vals j)) → RelV K w (.eptr cells) (.pointer (some ⟨b, off, none⟩))
  | agg {ps vs} : vs.size = ps.length → (∀ (i : Nat) (p : PV) (v : Value), ps[i]? = some p → vs[i]? = some v → RelV K w p v) → RelV K w (.agg ps) (.agg vs)
  | tup {ps vs} : vs.size = ps.length → (∀ (i : Nat) (p : PV) (v : Value), ps[i]? = some p → vs[i]? = some v → RelV K w p v) → RelV K w (.tup ps) (.tuple vs)
  | fn {f ps qs vs us} : vs.size = ps.length → us.size = qs.length → (∀ (i : Nat) (p : PV) (v : Value), ps[i]? = some p → vs[i]? = some v → RelV K w p v) → (∀ (i : Nat) (p : PV) (v : Value), qs[i]? = some p → us[i]? = some v → RelV K w p v) → RelV K w (.fn f ps qs) (.func f vs us)
  | mp {i b} : K.box i = some b → RelV K w (.mp i) (.map (some b))
  | bsl {i n c b} : K.box i = some b → n ≤ c → c ≤ maxLen → RelV K w (.bsl i n c) (.slice (some ⟨b, 0, none⟩) n c)
/-- the way of the world: what is kept stays, what is frozen too -/
structure Ext (F : Fz) (K : Kp) (w : World) (K' : Kp) (w' : World) : Prop where
  os : w'.os = w.os
  tape : w'.tape = w.tape
  output : w'.output = w.output
  size : w.heap.size ≤ w'.heap.size
  hp : ∀ b, F.blk b → w'.heap[b]? = w.heap[b]?
  kp : ∀ b o, K.cell b o → K'.cell b o ∧ w'.cell? ⟨b, o, none⟩ = w.cell? ⟨b, o, none⟩
  nk : ∀ b o, K'.cell b o → K.cell b o ∨ ¬ F.blk b
  kb : ∀ i b, K.box i = some b → K'.box i = some b
  ko : ∀ g u, K.own g = some u → ∃ u', K'.own g = some u' ∧ (u' = u ∨ slen u < slen u')
  kf : ∀ g, F.id g → K'.own g = K.own g
theorem Ext.refl (F : Fz) (K : Kp) (w : World) : Ext F K w K w :=
  ⟨rfl, rfl, rfl, Nat.le_refl _, fun _ _ => rfl, fun _ _ h => ⟨h, rfl⟩, fun _ _ h => .inl h, fun _ _ h => h, fun _ u h => ⟨u, h, .inl rfl⟩, fun _ _ => rfl⟩
theorem Ext.trans {F : Fz} {K K1 K2 : Kp} {w w1 w2 : World} (h : Ext F K w K1 w1) (h2 : Ext F K1 w1 K2 w2) : Ext F K w K2 w2 := by
  refine ⟨h2.os.trans h.os, h2.tape.trans h.tape, h2.output.trans h.output, Nat.le_trans h.size h2.size, fun b hb => (h2.hp b hb).trans (h.hp b hb), fun b o hk => ?_, fun b o hk => ?_, fun i b hi => h2.kb i b (h.kb i b hi), fun g u hu => ?_, fun g hg => (h2.kf g hg).trans (h.kf g hg)⟩
  · obtain ⟨h3, h4⟩ := h.kp b o hk
    obtain ⟨h5, h6⟩ := h2.kp b o h3
    exact ⟨h5, h6.trans h4⟩
  · rcases h2.nk b o hk with h3 | h3
    · exact h.nk b o h3
    · exact .inr h3
  · obtain ⟨u1, h3, h4⟩ := h.ko g u hu
    obtain ⟨u2, h5, h6⟩ := h2.ko g u1 h3
    refine ⟨u2, h5, ?_⟩
    rcases h4 with rfl | h4 <;> rcases h6 with rfl | h6
    · exact .inl rfl
    · exact .inr h6
    · exact .inr h4
    · exact .inr (by omega)
theorem RelD.mono {K K' : Nat → Nat → Prop} {w w' : World} (hk : ∀ b o, K b o → K' b o ∧ w'.cell? ⟨b, o, none⟩ = w.cell? ⟨b, o, none⟩) {d : D} {v : Value} (h : RelD K w d v) : RelD K' w' d v := by
  induction h with
  | v h => exact .v h
  | nil h => exact .nil h
  | sl vals h1 h2 h3 h4 h5 ih =>
    refine .sl vals h1 h2 h3 (fun i j row d hi hj => ?_) ih
    obtain ⟨h6, h7⟩ := h4 i j row d hi hj
    obtain ⟨h8, h9⟩ := hk _ _ h6
    exact ⟨h8, h9.trans h7⟩
theorem RelV.mono {F : Fz} {K K' : Kp} {w w' : World} (hx : Ext F K w K' w') {p : PV} {v : Value} (h : RelV K w p v) : RelV K' w' p v := by
  induction h with
  | d h => exact .d (h.mono hx.kp)
  | u => exact .u
  | nils => exact .nils
  | own h1 h2 h3 h4 =>
    obtain ⟨u', h5, h6⟩ := hx.ko _ _ h2
    refine .own (h1.mono hx.kp) h5 ?_ fun h => ?_
    · rcases h6 with rfl | h6 <;> omega
    · rcases h6 with rfl | h6
      · exact h4 h
      · omega
  | full h => exact .full (h.mono hx.kp)
  | ptr h => exact .ptr (hx.kb _ _ h)
  | eptr vals h1 h2 =>
    refine .eptr vals (fun j d hj => ?_) fun j d hj => (h2 j d hj).mono hx.kp
    obtain ⟨h3, h4⟩ := h1 j d hj
    obtain ⟨h5, h6⟩ := hx.kp _ _ h3
    exact ⟨h5, h6.trans h4⟩
  | agg h1 _ ih => exact .agg h1 ih
  | tup h1 _ ih => exact .tup h1 ih
  | fn h1 h2 _ _ ih1 ih2 => exact .fn h1 h2 ih1 ih2
  | mp h => exact .mp (hx.kb _ _ h)
  | bsl h h1 h2 => exact .bsl (hx.kb _ _ h) h1 h2
/-- what one has: variables, and slices that one may append to -/
inductive Ent where
  | box (i : Nat) (T : TypeId) (cs : List PV)
  | tok (g : Nat) (E : TypeId) (sz n : Nat)
  | obj (i : Nat) (ok : Obj → Prop)
abbrev St := List Ent
def Ent.block (K : Kp) : Ent → Option Nat
  | .box i _ _ => K.box i
  | .tok g _ _ _ => (K.own g).bind Value.ownBlock
  | .obj i _ => K.box i
def Ent.tid : Ent → Option Nat
  | .box _ _ _ => none
  | .tok g _ _ _ => some g
  | .obj _ _ => none
def EntOk (F : Fz) (K : Kp) (w : World) : Ent → Prop
  | .box i T cs => ∃ b arr, K.box i = some b ∧ ¬ F.blk b ∧ w.heap[b]? = some (.cells arr T) ∧ arr.size = cs.length ∧ (∀ (j : Nat) (p : PV) (v : Value), cs[j]? = some p → arr[j]? = some v → RelV K w p v) ∧ ∀ o, ¬ K.cell b o
  | .tok g E sz n => ∃ u xs, K.own g = some u ∧ ¬ F.id g ∧ slen u = n ∧ w.ownsRow 0 E sz u n xs ∧ ∀ b, u.ownBlock = some b → ¬ F.blk b ∧ ∀ o, K.cell b o → o < n * sz
  | .obj i ok => ∃ b o, K.box i = some b ∧ ¬ F.blk b ∧ w.heap[b]? = some o ∧ ok o ∧ ∀ o', ¬ K.cell b o'
structure Rel (F : Fz) (st : St) (K : Kp) (w : World) : Prop where
  kc : ∀ b o, K.cell b o → ∃ v, w.cell? ⟨b, o, none⟩ = some v
  ff : ∀ b, F.blk b → b < w.heap.size
  fin : ∃ nx, ∀ j, nx ≤ j → K.box j = none ∧ K.own j = none
  fi : ∀ g, F.id g → K.own g ≠ none
  ents : ∀ e ∈ st, EntOk F K w e
  nb : (st.filterMap (Ent.block K)).Nodup
  nt : (st.filterMap Ent.tid).Nodup
theorem Rel.sub {F : Fz} {st st' : St} {K : Kp} {w : World} (h : Rel F st K w) (hs : st'.Sublist st) : Rel F st' K w :=
  ⟨h.kc, h.ff, h.fin, h.fi, fun e he => h.ents e (hs.subset he), h.nb.sublist (hs.filterMap _), h.nt.sublist (hs.filterMap _)⟩
theorem Rel.perm {F : Fz} {st st' : St} {K : Kp} {w : World} (h : Rel F st K w) (hs : st.Perm st') : Rel F st' K w :=
  ⟨h.kc, h.ff, h.fin, h.fi, fun e he => h.ents e (hs.mem_iff.2 he), ((hs.filterMap _).nodup_iff).1 h.nb, ((hs.filterMap _).nodup_iff).1 h.nt⟩
/-- values, one by one -/
def RelVs (K : Kp) (w : World) (ps : List PV) (vs : Array Value) : Prop := vs.size = ps.length ∧ ∀ (i : Nat) (p : PV) (v : Value), ps[i]? = some p → vs[i]? = some v → RelV K w p v
/-- a call, told of data: with these arguments and these variables it comes to such a result -/
def PCalls (P : Program) (f : FuncId) (args : List PV) (st : St) (R : PV → St → Prop) : Prop :=
  ∀ (F : Fz) (K : Kp) (w : World) (vs : Array Value), Rel F st K w → RelVs K w args vs →
    Calls P f vs w fun e w' => ∃ v K' p st', e = .returned v ∧ Ext F K w K' w' ∧ Rel F st' K' w' ∧ RelV K' w' p v ∧ R p st'
theorem PCalls.mono {P : Program} {f : FuncId} {args : List PV} {st : St} {R R' : PV → St → Prop} (h : PCalls P f args st R) (hr : ∀ p st', R p st' → R' p st') : PCalls P f args st R' :=
  fun F K w vs h1 h2 => (h F K w vs h1 h2).mono fun _ _ ⟨v, K', p, st', a, b, c, d, e⟩ => ⟨v, K', p, st', a, b, c, d, hr _ _ e⟩
end Go.Proofs.Ytfnfbbmegdkhjaa

namespace Go.Proofs.Ytfnfbbmegdkhjaa
open Go.RowKit
set_option linter.unusedVariables false
abbrev PF := List (Nat × PV)
def PF.get : PF → Nat → Option PV
  | [], _ => none
  | (k, p) :: r, t => if k = t then some p else PF.get r t
def PF.put (fr : PF) : Option Tmp → PV → PF
  | some d, p => (d, p) :: fr
  | none, _ => fr
def cCell : Value → PV
  | .slice none 0 0 => .nils
  | .string s => if s.size ≤ maxLen then .d (.v (.string s)) else .u
  | .agg _ => .u
  | .tuple _ => .u
  | v => .d (.v v)
def cPV : Value → PV
  | .agg cs => .agg (cs.toList.map cCell)
  | .tuple vs => if vs.size = 0 then .tup [] else .u
  | v => cCell v
theorem cCell_ok (K : Kp) (w : World) (v : Value) : RelV K w (cCell v) v := by
  unfold cCell
  split
  · exact .nils
  · split
    · rename_i h; exact .d (.v h)
    · exact .u
  · exact .u
  · exact .u
  · refine .d (.v ?_)
    unfold okv
    split <;> simp_all
theorem cPV_ok (K : Kp) (w : World) (v : Value) : RelV K w (cPV v) v := by
  unfold cPV
  split
  · refine .agg (by simp) fun i p v hp hv => ?_
    rw [List.getElem?_map, Array.getElem?_toList, hv] at hp
    simp only [Option.map_some, Option.some.injEq] at hp
    subst hp; exact cCell_ok K w v
  · split
    · rename_i vs h
      exact .tup (by simpa using h) fun i p v hp _ => by simp at hp
    · exact .u
  · exact cCell_ok K w v
def PF.eval (fr : PF) : Operand → Option PV
  | .tmp t => fr.get t
  | .const v => some (cPV v)
  | .func f => some (.fn (.func f) [] [])
  | .global _ => none
structure FR (n : Nat) (fr : PF) (K : Kp) (w : World) (a : Act) : Prop where
  size : a.tmps.size = n
  defers : a.defers = []
  at_ : ∀ t p, fr.get t = some p → RelV K w p (a.tmps.getD t undef)
theorem FR.eval {n : Nat} {fr : PF} {K : Kp} {w : World} {a : Act} (h : FR n fr K w a) (x : Operand) (p : PV) (hp : fr.eval x = some p) : RelV K w p (a.eval x) := by
  cases x with
  | tmp t => exact h.at_ t p hp
  | const v => simp only [PF.eval, Option.some.injEq] at hp; subst hp; exact cPV_ok K w v
  | global g => simp [PF.eval] at hp
  | func f =>
    simp only [PF.eval, Option.some.injEq] at hp; subst hp
    exact .fn rfl rfl (fun i p v hp _ => by simp at hp) (fun i p v hp _ => by simp at hp)
theorem FR.mono {n : Nat} {fr : PF} {F : Fz} {K K' : Kp} {w w' : World} {a : Act} (h : FR n fr K w a) (hx : Ext F K w K' w') : FR n fr K' w' a :=
  ⟨h.size, h.defers, fun t p hp => (h.at_ t p hp).mono hx⟩
theorem FR.put {n : Nat} {fr : PF} {K : Kp} {w : World} {a : Act} (h : FR n fr K w a) {dst : Option Tmp} (hd : ∀ d, dst = some d → d < n) {p : PV} {v : Value} (hv : RelV K w p v) : FR n (fr.put dst p) K w (a.put dst v) := by
  cases dst with
  | none => exact h
  | some d =>
    have hlt := hd d rfl
    refine ⟨by simp [Act.put, h.size], h.defers, fun t q hq => ?_⟩
    simp only [PF.put, PF.get] at hq
    simp only [Act.put]
    split at hq
    · rename_i e
      subst e
      obtain rfl := Option.some.inj hq
      have := h.size
      simp only [Array.getD_eq_getD_getElem?]
      rw [Array.getElem?_setIfInBounds_self_of_lt (this.symm ▸ hlt)]
      exact hv
    · rename_i e
      have := h.at_ t q hq
      simp only [Array.getD_eq_getD_getElem?] at this ⊢
      rw [Array.getElem?_setIfInBounds_ne e]
      exact this
/-- forgetting -/
theorem FR.weak {n : Nat} {fr fr' : PF} {K : Kp} {w : World} {a : Act} (h : FR n fr K w a) (hs : ∀ t p, fr'.get t = some p → fr.get t = some p) : FR n fr' K w a :=
  ⟨h.size, h.defers, fun t p hp => h.at_ t p (hs t p hp)⟩
/-- an operation, told of data -/
def POp (P : Program) (o : Oper) (ρ : Operand → Option PV) (st : St) (R : PV → St → Prop) : Prop :=
  ∀ (F : Fz) (K : Kp) (w : World) (a : Act) (next : Act → World → Prop) (Q : Exit → Act → World → Prop), Rel F st K w → (∀ x ∈ o.op.operands, ∀ p, ρ x = some p → RelV K w p (a.eval x)) →
    (∀ K' w' p st' v, Ext F K w K' w' → Rel F st' K' w' → RelV K' w' p v → R p st' → next (a.put o.dst v) w') → o.wp P a w next Q
theorem POp.mono {P : Program} {o : Oper} {ρ : Operand → Option PV} {st : St} {R R' : PV → St → Prop} (h : POp P o ρ st R) (hr : ∀ p st', R p st' → R' p st') : POp P o ρ st R' :=
  fun F K w a next Q h1 h2 h3 => h F K w a next Q h1 h2 fun K' w' p st' v a b c d => h3 K' w' p st' v a b c (hr _ _ d)
/-- out of the run's equation -/
theorem POp.of_run {P : Program} {o : Oper} {ρ : Operand → Option PV} {st : St} {R : PV → St → Prop}
    (h : ∀ F K w (a : Act), Rel F st K w → (∀ x ∈ o.op.operands, ∀ p, ρ x = some p → RelV K w p (a.eval x)) →
      ∃ v w' K' p st', (execOp a.eval o).run P w = .ok (.value v) w' ∧ Ext F K w K' w' ∧ Rel F st' K' w' ∧ RelV K' w' p v ∧ R p st') : POp P o ρ st R := by
  intro F K w a next Q h1 h2 h3
  obtain ⟨v, w', K', p, st', hr, h4, h5, h6, h7⟩ := h F K w a h1 h2
  unfold Oper.wp
  rw [hr]
  exact h3 K' w' p st' v h4 h5 h6 h7
theorem POp.of_skip {P : Program} {o : Oper} {ρ : Operand → Option PV} {st : St} {R : PV → St → Prop}
    (h : ∀ F K w (a : Act), Rel F st K w → (∀ x ∈ o.op.operands, ∀ p, ρ x = some p → RelV K w p (a.eval x)) →
      ∃ w' K' st', (execOp a.eval o).run P w = .ok .skip w' ∧ Ext F K w K' w' ∧ Rel F st' K' w' ∧ R (.tup []) st') : POp P o ρ st R := by
  intro F K w a next Q h1 h2 h3
  obtain ⟨w', K', st', hr, h4, h5, h7⟩ := h F K w a h1 h2
  unfold Oper.wp
  rw [hr]
  exact h3 K' w' (.tup []) st' undef h4 h5 (.tup rfl fun i p v hp _ => by simp at hp) h7
/-- what a guard asks: it is wanted, it is not, or it can't be told -/
def PF.wants (fr : PF) (ops : Array Oper) (o : Oper) : Option Bool :=
  match o.guard with
  | none => some true
  | some (j, want) =>
    match (ops[j]?).bind (·.dst) with
    | none => some false
    | some t =>
      match fr.get t with
      | some (.d (.v (.bool b))) => some (b == want)
      | some (.tup _) => some false
      | _ => none
theorem PF.wants_ok {n : Nat} {fr : PF} {K : Kp} {w : World} {a : Act} (h : FR n fr K w a) (ops : Array Oper) (o : Oper) (b : Bool) (hw : fr.wants ops o = some b) : Region.wanted o (yielded ops a.tmps) = b := by
  unfold PF.wants at hw
  unfold Region.wanted
  cases hg : o.guard with
  | none => rw [hg] at hw; simpa using hw
  | some g =>
    obtain ⟨j, want⟩ := g
    rw [hg] at hw
    simp only at hw ⊢
    unfold yielded
    cases ht : (ops[j]?).bind (·.dst) with
    | none => rw [ht] at hw; simp at hw; subst hw; simp
    | some t =>
      rw [ht] at hw
      simp only at hw
      have hyes : ∀ (p : PV) (v : Value), RelV K w p v → fr.get t = some p → a.tmps.getD t undef = v → v ≠ undef → a.tmps[t]? = some v := by
        intro p v _ _ hv hne
        rw [Array.getD_eq_getD_getElem?] at hv
        cases hc : a.tmps[t]? with
        | none => rw [hc] at hv; exact absurd hv.symm hne
        | some u => rw [hc] at hv; simp at hv; rw [hv]
      split at hw
      · rename_i c hgt
        have h1 := h.at_ t _ hgt
        generalize hv : a.tmps.getD t undef = v at h1
        cases h1 with
        | d h1 =>
          cases h1 with
          | v h1 =>
            have := hyes _ _ (.d (.v h1)) hgt hv (by intro e; cases e)
            simp only [Option.bind_some, this]
            simp only [Option.some.injEq] at hw
            rw [← hw]; cases c <;> cases want <;> rfl
      · rename_i vs hgt
        have h1 := h.at_ t _ hgt
        generalize hv : a.tmps.getD t undef = v at h1
        cases h1 with
        | tup h1 h2 =>
          simp only [Option.some.injEq] at hw
          subst hw
          rw [Array.getD_eq_getD_getElem?] at hv
          simp only [Option.bind_some]
          cases hc : a.tmps[t]? with
          | none => simp
          | some u => rw [hc] at hv; simp at hv; subst hv; simp
      · cases hw
/-- the operations of a region, one after the other -/
def POps (P : Program) (n : Nat) (ops : Array Oper) (Q : PF → St → Prop) : List Oper → PF → St → Prop
  | [], fr, st => Q fr st
  | o :: rest, fr, st => (∀ d, o.dst = some d → d < n) ∧
    ((fr.wants ops o = some true ∧ POp P o fr.eval st fun p st' => POps P n ops Q rest (fr.put o.dst p) st') ∨
     (fr.wants ops o = some false ∧ POps P n ops Q rest (fr.put o.dst (.tup [])) st))
/-- the code, told of data -/
def PW (P : Program) (n : Nat) (c : Code) (Q : Exit → PF → St → Prop) (fr : PF) (st : St) : Prop :=
  ∀ (F : Fz) (K : Kp) (w : World) (a : Act), Rel F st K w → FR n fr K w a →
    c.wp P (fun e a' w' => ∃ K' fr' st', Ext F K w K' w' ∧ Rel F st' K' w' ∧ FR n fr' K' w' a' ∧ Q e fr' st') a w
theorem PW.mono {P : Program} {n : Nat} {c : Code} {Q Q' : Exit → PF → St → Prop} {fr : PF} {st : St} (h : PW P n c Q fr st) (hq : ∀ e fr st, Q e fr st → Q' e fr st) : PW P n c Q' fr st :=
  fun F K w a h1 h2 => wp_mono (h F K w a h1 h2) fun _ _ _ ⟨K', fr', st', b1, b2, b3, b4⟩ => ⟨K', fr', st', b1, b2, b3, hq _ _ _ b4⟩
theorem wpList_POps {P : Program} {n : Nat} {ops : Array Oper} {Q : PF → St → Prop} {F : Fz} {K0 : Kp} {w0 : World} (Q' : Exit → Act → World → Prop)
    (hQ : ∀ K w a fr st, Ext F K0 w0 K w → Rel F st K w → FR n fr K w a → Q fr st → Q' .normal a w) : ∀ (l : List Oper) (fr : PF) (st : St) (K : Kp) (w : World) (a : Act), Ext F K0 w0 K w → Rel F st K w → FR n fr K w a → POps P n ops Q l fr st → wpList P ops Q' l a w := by
  intro l
  induction l with
  | nil => intro fr st K w a hx hr hf h; exact hQ K w a fr st hx hr hf h
  | cons o rest ih =>
    intro fr st K w a hx hr hf h
    obtain ⟨hd, h⟩ := h
    rcases h with ⟨hw, h⟩ | ⟨hw, h⟩
    · have := PF.wants_ok hf ops o true hw
      simp only [wpList, this, if_true]
      refine .inl (h F K w a _ _ hr (fun x _ p hp => hf.eval x p hp) fun K' w' p st' v h1 h2 h3 h4 => ?_)
      exact ih _ _ K' w' _ (hx.trans h1) h2 ((hf.mono h1).put hd h3) h4
    · have := PF.wants_ok hf ops o false hw
      simp only [wpList, this, Bool.false_eq_true, if_false]
      exact ih _ _ K w _ hx hr (hf.put hd (.tup rfl fun i p v hp _ => by simp at hp)) h
theorem PW_region {P : Program} {n : Nat} {id : Nat} {ops : Array Oper} {Q : Exit → PF → St → Prop} {fr : PF} {st : St} (h : POps P n ops (Q .normal) ops.toList fr st) : PW P n (.region id ops false) Q fr st := by
  intro F K w a hr hf
  refine wp_region_list ?_
  exact wpList_POps _ (fun K' w' a' fr' st' h1 h2 h3 h4 => ⟨K', fr', st', h1, h2, h3, h4⟩) _ fr st K w a (Ext.refl _ _ _) hr hf h
def thenP (next : PF → St → Prop) (Q : Exit → PF → St → Prop) : Exit → PF → St → Prop
  | .normal, fr, st => next fr st
  | e, fr, st => Q e fr st
def blockP (id : Nat) (Q : Exit → PF → St → Prop) : Exit → PF → St → Prop
  | .exit id', fr, st => if id' = id then Q .normal fr st else Q (.exit id') fr st
  | e, fr, st => Q e fr st
section
variable {P : Program} {n : Nat} {Q : Exit → PF → St → Prop} {fr : PF} {st : St}
theorem Qd (h : Q .normal fr st) : PW P n .skip Q fr st := fun F K w a hr hf => wp_skip ⟨K, fr, st, Ext.refl _ _ _, hr, hf, h⟩
theorem Qg {l : Nat} (h : Q .normal fr st) : PW P n (.label l) Q fr st := fun F K w a hr hf => wp_label ⟨K, fr, st, Ext.refl _ _ _, hr, hf, h⟩
theorem Qe {id : Nat} (h : Q (.exit id) fr st) : PW P n (.exit id) Q fr st := fun F K w a hr hf => wp_exit ⟨K, fr, st, Ext.refl _ _ _, hr, hf, h⟩
theorem Qf (h : Q .ret fr st) : PW P n .ret Q fr st := fun F K w a hr hf => wp_ret ⟨K, fr, st, Ext.refl _ _ _, hr, hf, h⟩
theorem Qa {x y : Code} (h : PW P n x (thenP (PW P n y Q) Q) fr st) : PW P n (.seq x y) Q fr st := by
  intro F K w a hr hf
  refine wp_seq (wp_mono (h F K w a hr hf) ?_)
  rintro e a1 w1 ⟨K1, fr1, st1, h1, h2, h3, h4⟩
  cases e with
  | normal => exact wp_mono (h4 F K1 w1 a1 h2 h3) fun _ _ _ ⟨K', fr', st', b1, b2, b3, b4⟩ => ⟨K', fr', st', h1.trans b1, b2, b3, b4⟩
  | _ => exact ⟨K1, fr1, st1, h1, h2, h3, h4⟩
theorem Qb {id : Nat} {c : Code} (h : PW P n c (blockP id Q) fr st) : PW P n (.block id c) Q fr st := by
  intro F K w a hr hf
  refine wp_block (wp_mono (h F K w a hr hf) ?_)
  rintro e a1 w1 ⟨K1, fr1, st1, h1, h2, h3, h4⟩
  cases e with
  | exit id' =>
    simp only [Exit.inBlock]
    simp only [blockP] at h4
    split
    · rename_i e; rw [if_pos e] at h4; exact ⟨K1, fr1, st1, h1, h2, h3, h4⟩
    · rename_i e; rw [if_neg e] at h4; exact ⟨K1, fr1, st1, h1, h2, h3, h4⟩
  | _ => exact ⟨K1, fr1, st1, h1, h2, h3, h4⟩
theorem PW_cond {c : Operand} {x y : Code} {t : Bool} (hc : fr.eval c = some (.d (.v (.bool t)))) (ht : t = true → PW P n x Q fr st) (hf' : t = false → PW P n y Q fr st) : PW P n (.cond c x y) Q fr st := by
  intro F K w a hr hf
  have h := hf.eval c _ hc
  generalize hv : a.eval c = v at h
  cases h with
  | d h =>
    cases h with
    | v h =>
      refine wp_cond hv ?_
      cases t with
      | true => exact ht rfl F K w a hr hf
      | false => exact hf' rfl F K w a hr hf
/-- a loop: its state at each round's head, told by an index that goes down -/
theorem PW_loop {c : Code} {ι : Type} (I : ι → Prop) (fi : ι → PF) (si : ι → St) (μ : ι → Nat) (i0 : ι) (h0 : I i0) (hfr : ∀ t p, (fi i0).get t = some p → fr.get t = some p) (hst : (si i0).Sublist st)
    (round : ∀ i, I i → PW P n c (thenP (fun fr' st' => ∃ j, I j ∧ μ j < μ i ∧ (∀ t p, (fi j).get t = some p → fr'.get t = some p) ∧ (si j).Sublist st') Q) (fi i) (si i)) : PW P n (.loop c) Q fr st := by
  intro F K w a hr hf
  intro b k cs
  have key : ∀ (m : Nat) (i : ι), μ i = m → I i → ∀ K1 w1 a1, Ext F K w K1 w1 → Rel F (si i) K1 w1 → FR n (fi i) K1 w1 a1 →
      ∃ e a' w', (∃ K' fr' st', Ext F K w K' w' ∧ Rel F st' K' w' ∧ FR n fr' K' w' a' ∧ Q e fr' st') ∧ Arrives P (lone (b.at a1 (.code c :: .inLoop c :: k)) cs w1) b k cs e a' w' := by
    intro m
    induction m using Nat.strongRecOn with
    | _ m ih =>
    intro i hm hi K1 w1 a1 hx hr1 hf1
    obtain ⟨e, a2, w2, ⟨K2, fr2, st2, hx2, hr2, hf2, hq⟩, harr⟩ := round i hi F K1 w1 a1 hr1 hf1 b (.inLoop c :: k) cs
    cases e with
    | normal =>
      obtain ⟨j, hj, hlt, hfj, hsj⟩ := hq
      obtain ⟨e3, a3, w3, hq3, harr3⟩ := ih (μ j) (hm ▸ hlt) j rfl hj K2 w2 a2 (hx.trans hx2) (hr2.sub hsj) (hf2.weak hfj)
      exact ⟨e3, a3, w3, hq3, .of_steps (Steps.trans harr (.one step_inLoop)) harr3⟩
    | exit id => exact ⟨_, a2, w2, ⟨K2, fr2, st2, hx.trans hx2, hr2, hf2, hq⟩, .pass (x := .inLoop c) rfl (fun _ _ => .inl (by simp)) harr⟩
    | goto l => exact ⟨_, a2, w2, ⟨K2, fr2, st2, hx.trans hx2, hr2, hf2, hq⟩, .pass (x := .inLoop c) rfl (fun _ _ => .inl (by simp)) harr⟩
    | ret => exact ⟨_, a2, w2, ⟨K2, fr2, st2, hx.trans hx2, hr2, hf2, hq⟩, .pass (x := .inLoop c) rfl (fun _ _ => .inl (by simp)) harr⟩
    | panic ch => exact ⟨_, a2, w2, ⟨K2, fr2, st2, hx.trans hx2, hr2, hf2, hq⟩, .pass (x := .inLoop c) rfl (fun _ _ => .inl (by simp)) harr⟩
    | outgrown => exact ⟨_, a2, w2, ⟨K2, fr2, st2, hx.trans hx2, hr2, hf2, hq⟩, .pass (x := .inLoop c) rfl (fun _ _ => .inl (by simp)) harr⟩
  obtain ⟨e, a', w', hq, harr⟩ := key _ i0 rfl h0 K w a (Ext.refl _ _ _) (hr.sub hst) (hf.weak hfr)
  exact ⟨e, a', w', hq, .of_steps (.one step_loop) harr⟩
end
end Go.Proofs.Ytfnfbbmegdkhjaa

namespace Go.Proofs.Ytfnfbbmegdkhjaa
open Go.RowKit
set_option linter.unusedVariables false
/-- what a type is, as far as memory goes -/
structure Fd where
  off : Nat
  size : Nat
  agg : Option Bool
inductive TyK where
  | slice (e es : Nat) (ea : Option Bool)
  | struct (fs : List Fd)
  | array (n es : Nat) (ea : Option Bool)
  | str
  | bool
  | int (k : IntKind)
  | other
structure Ty where
  size : Nat
  k : TyK
def isAggD : TypeDesc → Bool
  | .struct _ => true
  | .array _ _ => true
  | _ => false
def TyK.agg : TyK → Bool
  | .struct _ => true
  | .array .. => true
  | _ => false
def aggOf (P : Program) (t : TypeId) : Option Bool := (P.underlying t).map isAggD
def tyK (P : Program) : TypeDesc → TyK
  | .slice e => .slice e (P.cellsOf e) (aggOf P e)
  | .struct fs => .struct (fs.toList.map fun f => ⟨f.offset, P.cellsOf f.type, aggOf P f.type⟩)
  | .array n e => .array n (P.cellsOf e) (aggOf P e)
  | .string => .str
  | .bool => .bool
  | .int k => .int k
  | _ => .other
def tyOf (P : Program) (t : TypeId) : Option Ty := (P.underlying t).map fun d => ⟨P.cellsOf t, tyK P d⟩
theorem tyOf_spec {P : Program} {t : TypeId} {T : Ty} (h : tyOf P t = some T) : ∃ d, P.underlying t = some d ∧ T = ⟨P.cellsOf t, tyK P d⟩ := by
  unfold tyOf at h
  obtain ⟨d, hd, rfl⟩ := Option.map_eq_some_iff.1 h
  exact ⟨d, hd, rfl⟩
theorem tyK_agg (P : Program) (d : TypeDesc) : (tyK P d).agg = isAggD d := by cases d <;> rfl
theorem info_of_under {P : Program} {t : TypeId} {d : TypeDesc} (h : P.underlying t = some d) : ∃ i, P.info? t = some i := by
  unfold Program.underlying at h
  cases hi : P.info? t with
  | none => rw [hi] at h; cases h
  | some i => exact ⟨i, rfl⟩
theorem run_sizeOf' {P : Program} {t : TypeId} {d : TypeDesc} (h : P.underlying t = some d) (w : World) : (sizeOf t).run P w = .ok (P.cellsOf t) w := by
  obtain ⟨i, hi⟩ := info_of_under h
  simp [sizeOf, typeInfo, Program.cellsOf, hi]
theorem run_sizeOf_pos {P : Program} {t : TypeId} (h : P.cellsOf t ≠ 0) (w : World) : (sizeOf t).run P w = .ok (P.cellsOf t) w := by
  unfold Program.cellsOf at h
  cases hi : P.info? t with
  | none => rw [hi] at h; exact absurd rfl h
  | some i => simp [sizeOf, typeInfo, Program.cellsOf, hi]
theorem run_isAgg {P : Program} {t : TypeId} {d : TypeDesc} (h : P.underlying t = some d) (w : World) : (isAgg t).run P w = .ok (isAggD d) w := by
  cases d <;> simp [isAgg, run_underlying h, isAggD]
/-- what is loaded, out of cells -/
def loadA (T : Ty) (cells : List D) : Option PV :=
  if T.k.agg = true then (if T.size ≤ cells.length then some (.agg ((cells.take T.size).map .d)) else none)
  else match cells with
    | c :: _ => some (.d c)
    | [] => none
theorem run_loadAt_cells {P : Program} {t : TypeId} {T : Ty} (hT : tyOf P t = some T) {K : Kp} {w : World} {cells : List D} {p : PV} (hl : loadA T cells = some p) {v : Value} (hv : RelV K w (.eptr cells) v) :
    ∃ u, (Instr.loadAt t v).run P w = .ok u w ∧ RelV K w p u := by
  obtain ⟨d, hd, rfl⟩ := tyOf_spec hT
  cases hv with
  | @eptr _ b off vals h1 h2 =>
  simp only [Instr.loadAt, Instr.sureAddr, Sem.run_bind, Sem.run_pure, Result.andThen_ok, loadVar, run_isAgg hd]
  unfold loadA at hl
  simp only [tyK_agg] at hl
  cases hag : isAggD d with
  | true =>
    rw [hag] at hl
    simp only [if_true] at hl ⊢
    split at hl
    · rename_i hle
      obtain rfl := Option.some.inj hl
      have hc := run_loadCells (P := P) w ⟨b, off, none⟩ (P.cellsOf t) vals fun j hj => by
        have e : (⟨b, off, none⟩ : Addr).add j = ⟨b, off + j, none⟩ := by unfold Addr.add; split <;> simp_all
        rw [e]
        exact (h1 j _ (List.getElem?_eq_getElem (by omega))).2
      simp only [Sem.run_bind, run_sizeOf' hd, Result.andThen_ok, hc, Sem.run_pure]
      refine ⟨_, rfl, .agg (by simp; omega) fun i p v hp hv => ?_⟩
      simp only [List.getElem?_map, Option.map_eq_some_iff] at hp
      obtain ⟨x, hx, rfl⟩ := hp
      rw [List.getElem?_take] at hx
      split at hx
      · rename_i hi
        have : v = vals i := by
          simp only [List.getElem?_toArray, List.getElem?_map, List.getElem?_range hi, Option.map_some, Option.some.injEq] at hv
          exact hv.symm
        subst this
        exact .d (h2 i x hx)
      · cases hx
    · cases hl
  | false =>
    rw [hag] at hl
    simp only [Bool.false_eq_true, if_false] at hl ⊢
    cases cells with
    | nil => cases hl
    | cons c cr =>
      obtain rfl := Option.some.inj hl
      have := (h1 0 c rfl).2
      simp only [Nat.add_zero] at this
      simp only [run_load, this]
      exact ⟨_, rfl, .d (h2 0 c rfl)⟩
theorem eptr_drop {K : Kp} {w : World} {cells : List D} {b off : Nat} (k : Nat) (h : RelV K w (.eptr cells) (.pointer (some ⟨b, off, none⟩))) : RelV K w (.eptr (cells.drop k)) (.pointer (some ⟨b, off + k, none⟩)) := by
  cases h with
  | eptr vals h1 h2 =>
    refine .eptr (fun j => vals (k + j)) (fun j d hj => ?_) fun j d hj => ?_
    · rw [List.getElem?_drop] at hj
      have := h1 _ d hj
      rw [Nat.add_assoc]; exact this
    · rw [List.getElem?_drop] at hj
      exact h2 _ d hj
theorem addr_plus (b off k : Nat) : (⟨b, off, none⟩ : Addr).add k = ⟨b, off + k, none⟩ := by unfold Addr.add; split <;> simp_all
theorem eptr_form {K : Kp} {w : World} {cells : List D} {v : Value} (h : RelV K w (.eptr cells) v) : ∃ b off, v = .pointer (some ⟨b, off, none⟩) := by cases h; exact ⟨_, _, rfl⟩
theorem run_fieldPlace {P : Program} {f : Field} (h : P.cellsOf f.type ≠ 0) (a : Addr) (w : World) : (fieldPlace a f).run P w = .ok (a.add f.offset) w := by
  simp [fieldPlace, run_sizeOf_pos h, h]
theorem run_fieldAt_d {P : Program} {t : TypeId} {T : Ty} (hT : tyOf P t = some T) {fs : List Fd} (hk : T.k = .struct fs) {f : Nat} {fd : Fd} (hf : fs[f]? = some fd) (h0 : fd.size ≠ 0) (b off : Nat) (w : World) :
    (Instr.fieldAt t (.pointer (some ⟨b, off, none⟩)) f).run P w = .ok (.pointer (some ⟨b, off + fd.off, none⟩)) w := by
  obtain ⟨d, hd, rfl⟩ := tyOf_spec hT
  cases d with
  | struct fields =>
    simp only [tyK, TyK.struct.injEq] at hk
    subst hk
    simp only [List.getElem?_map, Array.getElem?_toList, Option.map_eq_some_iff] at hf
    obtain ⟨fl, hfl, rfl⟩ := hf
    simp only [Instr.fieldAt, Sem.run_bind, run_underlying hd, Result.andThen_ok, hfl, Instr.sureAddr, Sem.run_pure, run_fieldPlace h0, addr_plus]
  | _ => simp [tyK] at hk
/-- a slice's rows -/
def PV.rows : PV → Option (List (List D))
  | .d (.sl rows) => some rows
  | .own _ rows => some rows
  | .full rows => some rows
  | .nils => some []
  | _ => none
theorem rows_rel {K : Kp} {w : World} {p : PV} {rows : List (List D)} {v : Value} (hr : p.rows = some rows) (h : RelV K w p v) : RelD K.cell w (.sl rows) v := by
  cases h with
  | d h => cases h <;> simp [PV.rows] at hr <;> (subst hr; first | exact .nil ‹_› | exact .sl ‹_› ‹_› ‹_› ‹_› ‹_› ‹_›)
  | nils => simp [PV.rows] at hr; subst hr; exact .nil (Nat.zero_le _)
  | own h => simp [PV.rows] at hr; subst hr; exact h
  | full h => simp [PV.rows] at hr; subst hr; exact h
  | _ => simp [PV.rows] at hr
theorem rows_form {K : Nat → Nat → Prop} {w : World} {rows : List (List D)} {v : Value} (h : RelD K w (.sl rows) v) : ∃ a cap, v = .slice a rows.length cap ∧ rows.length ≤ cap ∧ cap ≤ maxLen := by
  cases h with
  | nil h => exact ⟨_, _, rfl, Nat.zero_le _, h⟩
  | sl vals h1 h2 h3 h4 h5 => exact ⟨_, _, rfl, h1, h2⟩
theorem rows_at {K : Kp} {w : World} {rows : List (List D)} {v : Value} (h : RelD K.cell w (.sl rows) v) {i : Nat} {row : List D} (hi : rows[i]? = some row) : ∃ b off cap, v = .slice (some ⟨b, off, none⟩) rows.length cap ∧ RelV K w (.eptr row) (.pointer (some ⟨b, off + i * row.length, none⟩)) := by
  cases h with
  | nil h => simp at hi
  | @sl sz _ b off cap vals h1 h2 h3 h4 h5 =>
    have hs := h3 row (List.mem_of_getElem? hi)
    refine ⟨b, off, cap, rfl, ?_⟩
    rw [hs]
    exact .eptr (vals i) (fun j d hj => h4 i j row d hi hj) fun j d hj => h5 i j row d hi hj
theorem run_indexAt_d {P : Program} {t : TypeId} {T : Ty} (hT : tyOf P t = some T) {e es : Nat} {ea : Option Bool} (hk : T.k = .slice e es ea) (h0 : es ≠ 0) {K : Kp} {w : World} {rows : List (List D)} {v : Value} (hv : RelD K.cell w (.sl rows) v) {k : IntKind} {n : Int} (hn : 0 ≤ n) {row : List D} (hr : rows[n.toNat]? = some row) (hl : row.length = es) :
    ∃ u, (Instr.indexAt t v (.int k n)).run P w = .ok u w ∧ RelV K w (.eptr row) u := by
  obtain ⟨d, hd, rfl⟩ := tyOf_spec hT
  cases d with
  | slice e' =>
    simp only [tyK, TyK.slice.injEq] at hk
    obtain ⟨rfl, rfl, rfl⟩ := hk
    obtain ⟨b, off, cap, rfl, h⟩ := rows_at hv hr
    have hlt : n < rows.length := by
      have := (List.getElem?_eq_some_iff.1 hr).1; omega
    simp only [Instr.indexAt, asIntOf, Sem.run_bind, Sem.run_pure, run_underlying hd, Result.andThen_ok, hn, hlt, and_self, if_true, run_sizeOf_pos h0, addr_plus]
    exact ⟨_, rfl, by rw [← hl]; exact h⟩
  | _ => simp [tyK] at hk
end Go.Proofs.Ytfnfbbmegdkhjaa

namespace Go.Proofs.Ytfnfbbmegdkhjaa
open Go.RowKit
set_option linter.unusedVariables false
set_option linter.unusedSimpArgs false
/-- an operator of two -/
def evBin (T : Option TyK) (op : BinOp) : Value → Value → Option Value
  | .int k a, .int k' b =>
    if op = .shl then (if b < 0 then none else some (.int k (k.wrap (a * 2 ^ (min b.toNat k.bits)))))
    else if op = .shr then (if b < 0 then none else some (.int k (a.fdiv (2 ^ (min b.toNat k.bits)))))
    else if k = k' then
    match op with
    | .add => some (.int k (k.wrap (a + b)))
    | .sub => some (.int k (k.wrap (a - b)))
    | .mul => some (.int k (k.wrap (a * b)))
    | .quo => if b = 0 then none else some (.int k (k.wrap (a.tdiv b)))
    | .rem => if b = 0 then none else some (.int k (a.tmod b))
    | .and => some (.int k (k.wrap (BitVec.ofInt k.bits a &&& BitVec.ofInt k.bits b).toNat))
    | .or => some (.int k (k.wrap (BitVec.ofInt k.bits a ||| BitVec.ofInt k.bits b).toNat))
    | .eql => some (.bool (a == b))
    | .neq => some (.bool (a != b))
    | .lss => some (.bool (decide (a < b)))
    | .leq => some (.bool (decide (a ≤ b)))
    | .gtr => some (.bool (decide (a > b)))
    | .geq => some (.bool (decide (a ≥ b)))
    | _ => none
    else none
  | .string a, .string b =>
    match op with
    | .add => if a.size + b.size ≤ maxLen then some (.string (a ++ b)) else none
    | .eql => some (.bool (a.toList == b.toList))
    | .neq => some (.bool (!(a.toList == b.toList)))
    | .lss => some (.bool (Op.bytesLess a.toList b.toList))
    | .leq => some (.bool (Op.bytesLess a.toList b.toList || a.toList == b.toList))
    | .gtr => some (.bool (!(Op.bytesLess a.toList b.toList || a.toList == b.toList)))
    | .geq => some (.bool (!(Op.bytesLess a.toList b.toList)))
    | _ => none
  | .bool a, .bool b =>
    match T, op with
    | some .bool, .eql => some (.bool (a == b))
    | some .bool, .neq => some (.bool (!(a == b)))
    | _, _ => none
  | _, _ => none
theorem equal_bool {P : Program} {t : TypeId} (hd : P.underlying t = some .bool) (a b : Bool) (w : World) : (Op.equal t (.bool a) (.bool b)).run P w = .ok (a == b) w := by
  have e : Op.equal t (.bool a) (.bool b) = Op.equalIn (9999 + 1) t (.bool a) (.bool b) := rfl
  rw [e]
  generalize 9999 = n
  simp only [Op.equalIn, Sem.run_bind, run_underlying hd, Result.andThen_ok, Sem.run_pure]
theorem bin_eql_bool {P : Program} {t : TypeId} (hd : P.underlying t = some .bool) (a b : Bool) (w : World) (ox oy : Operand) : (do eqGuard .eql t ox oy (.bool a) (.bool b); binOp .eql t (.bool a) (.bool b) : Sem Value).run P w = .ok (.bool (a == b)) w := by
  show ((Op.equal t (.bool a) (.bool b)) >>= fun r => (Pure.pure (Value.bool r) : Sem Value)).run P w = _
  rw [Sem.run_bind, equal_bool hd]; rfl
theorem bin_neq_bool {P : Program} {t : TypeId} (hd : P.underlying t = some .bool) (a b : Bool) (w : World) (ox oy : Operand) : (do eqGuard .neq t ox oy (.bool a) (.bool b); binOp .neq t (.bool a) (.bool b) : Sem Value).run P w = .ok (.bool (!(a == b))) w := by
  show ((Op.equal t (.bool a) (.bool b)) >>= fun r => (Pure.pure (Value.bool (!r)) : Sem Value)).run P w = _
  rw [Sem.run_bind, equal_bool hd]; rfl
theorem evBin_run {P : Program} {t : TypeId} {op : BinOp} {x y v : Value} (h : evBin ((tyOf P t).map (·.k)) op x y = some v) (w : World) (ox oy : Operand) : (do eqGuard op t ox oy x y; binOp op t x y : Sem Value).run P w = .ok v w ∧ (okv x → okv y → okv v) := by
  cases x <;> cases y <;> try (simp [evBin] at h; done)
  · rename_i a b
    simp only [evBin] at h
    split at h
    · rename_i hT
      obtain rfl := Option.some.inj h
      obtain ⟨T, hT1, hT2⟩ := Option.map_eq_some_iff.1 hT
      obtain ⟨d, hd, rfl⟩ := tyOf_spec hT1
      cases d <;> simp [tyK] at hT2
      exact ⟨bin_eql_bool hd _ _ _ _ _, fun _ _ => trivial⟩
    · rename_i hT
      obtain rfl := Option.some.inj h
      obtain ⟨T, hT1, hT2⟩ := Option.map_eq_some_iff.1 hT
      obtain ⟨d, hd, rfl⟩ := tyOf_spec hT1
      cases d <;> simp [tyK] at hT2
      exact ⟨bin_neq_bool hd _ _ _ _ _, fun _ _ => trivial⟩
    · cases h
  · rename_i k a k' b
    simp only [evBin] at h
    split at h
    · rename_i e
      subst e
      split at h
      · cases h
      · rename_i hb
        obtain rfl := Option.some.inj h
        exact ⟨by simp [eqGuard, binOp, Op.shift, hb], fun _ _ => trivial⟩
    · split at h
      · rename_i e
        subst e
        split at h
        · cases h
        · rename_i hb
          obtain rfl := Option.some.inj h
          exact ⟨by simp [eqGuard, binOp, Op.shift, hb], fun _ _ => trivial⟩
      · split at h
        · rename_i n1 n2 e
          subst e
          cases op <;> simp only [Option.some.injEq, reduceCtorEq] at h <;> first
            | (subst h; exact ⟨by first | rfl | simp [eqGuard, binOp, Op.intArith, Op.intDiv, Op.intBits, Op.intCmp, *], fun _ _ => trivial⟩)
            | (split at h
               · cases h
               · rename_i hb
                 obtain rfl := Option.some.inj h
                 exact ⟨by simp [eqGuard, binOp, Op.intDiv, hb], fun _ _ => trivial⟩)
        · cases h
  · rename_i a b
    simp only [evBin] at h
    cases op <;> simp only [Option.some.injEq, reduceCtorEq, Option.ite_none_right_eq_some] at h
    case add =>
      obtain ⟨hb, rfl⟩ := h
      refine ⟨by simp [eqGuard, binOp, Op.stringOp]; unfold maxLen at hb; omega, fun _ _ => ?_⟩
      show (a ++ b).size ≤ maxLen
      rw [ByteArray.size_append]; exact hb
    all_goals
      subst h
      exact ⟨by first | rfl | simp [eqGuard, binOp, Op.stringOp], fun _ _ => trivial⟩
def evUn (op : UnOp) : Value → Option Value
  | .bool b => if op = .not then some (.bool (!b)) else none
  | .int k n => if op = .neg then some (.int k (k.wrap (0 - n))) else none
  | _ => none
theorem evUn_run {P : Program} {op : UnOp} {x v : Value} (h : evUn op x = some v) (w : World) : (Op.unary op x).run P w = .ok v w ∧ okv v := by
  cases x <;> simp [evUn] at h <;> obtain ⟨rfl, rfl⟩ := h <;> exact ⟨by simp [Op.unary, Op.intArith], trivial⟩
def Jp (T : Option TyK) : Value → Option Value
  | .int _ n =>
    match T with
    | some (.int k) => some (.int k (k.wrap n))
    | _ => none
  | .string s =>
    match T with
    | some .str => some (.string s)
    | _ => none
  | _ => none
theorem evConv_run {P : Program} {src dst : TypeId} {x v : Value} (hs : (tyOf P src).isSome = true) (h : Jp ((tyOf P dst).map (·.k)) x = some v) (w : World) : (convert src dst x).run P w = .ok v w ∧ (okv x → okv v) := by
  obtain ⟨S, hS⟩ := Option.isSome_iff_exists.1 hs
  obtain ⟨s, hsd, rfl⟩ := tyOf_spec hS
  cases x <;> simp only [Jp] at h <;> try (cases h; done)
  · split at h
    · rename_i hT
      obtain rfl := Option.some.inj h
      obtain ⟨T, hT1, hT2⟩ := Option.map_eq_some_iff.1 hT
      obtain ⟨d, hd, rfl⟩ := tyOf_spec hT1
      cases d <;> simp [tyK] at hT2
      subst hT2
      exact ⟨by simp [convert, run_underlying hsd, run_underlying hd, Conv.intToInt], fun _ => trivial⟩
    · cases h
  · split at h
    · rename_i hT
      obtain rfl := Option.some.inj h
      obtain ⟨T, hT1, hT2⟩ := Option.map_eq_some_iff.1 hT
      obtain ⟨d, hd, rfl⟩ := tyOf_spec hT1
      cases d <;> simp [tyK] at hT2
      exact ⟨by simp [convert, run_underlying hsd, run_underlying hd], fun h => h⟩
    · cases h
end Go.Proofs.Ytfnfbbmegdkhjaa

namespace Go.Proofs.Ytfnfbbmegdkhjaa
open Go.RowKit
set_option linter.unusedVariables false
set_option linter.unusedSimpArgs false
/-- a part of a struct or an array held by value -/
def partA (fd : Fd) (cs : List PV) : Option PV :=
  match fd.agg with
  | some true => if fd.off + fd.size ≤ cs.length then some (.agg ((cs.drop fd.off).take fd.size)) else none
  | some false => cs[fd.off]?
  | none => none
def evLen (T : Option TyK) : PV → Option Nat
  | .d (.v (.string s)) => match T with | some .str => some s.size | _ => none
  | .d (.sl rows) => match T with | some (.slice ..) => some rows.length | _ => none
  | .own _ rows => match T with | some (.slice ..) => some rows.length | _ => none
  | .full rows => match T with | some (.slice ..) => some rows.length | _ => none
  | .nils => match T with | some (.slice ..) => some 0 | _ => none
  | .bsl _ n _ => match T with | some (.slice ..) => some n | _ => none
  | _ => none
/-- an operation that makes nothing and looks at no variable in memory: its answer -/
def nevA (P : Program) (ρ : Operand → Option PV) : Op → Option PV
  | .move x => ρ x
  | .assign x => ρ x
  | .pick c a b => match ρ c with
    | some (.d (.v (.bool t))) => if t = true then ρ a else ρ b
    | _ => none
  | .nilCheck x => match ρ x with
    | some (.ptr i o) => some (.ptr i o)
    | some (.eptr c) => some (.eptr c)
    | _ => none
  | .load t a => match ρ a, tyOf P t with
    | some (.eptr cells), some T => loadA T cells
    | _, _ => none
  | .fieldAddr t x f => match tyOf P t with
    | some ⟨_, .struct fs⟩ => match fs[f]? with
      | some fd => if fd.size = 0 then none else match ρ x with
        | some (.ptr i o) => some (.ptr i (o + fd.off))
        | some (.eptr cells) => some (.eptr (cells.drop fd.off))
        | _ => none
      | none => none
    | _ => none
  | .field t x f => match tyOf P t with
    | some ⟨_, .struct fs⟩ => match fs[f]? with
      | some fd => if fd.size = 0 then none else match ρ x with
        | some (.agg cs) => partA fd cs
        | _ => none
      | none => none
    | _ => none
  | .indexAddr t x ix => match ρ ix with
    | some (.d (.v (.int _ n))) => match tyOf P t with
      | some ⟨_, .slice _ es _⟩ => match (ρ x).bind PV.rows with
        | some rows => if 0 ≤ n ∧ es ≠ 0 then match rows[n.toNat]? with
          | some row => if row.length = es then some (.eptr row) else none
          | none => none
          else none
        | none => match ρ x with
          | some (.bsl i c _) => if 0 ≤ n ∧ n < c ∧ es ≠ 0 then some (.ptr i (n.toNat * es)) else none
          | _ => none
      | some ⟨_, .array len es _⟩ => match ρ x with
        | some (.ptr i o) => if 0 ≤ n ∧ n < len ∧ es ≠ 0 then some (.ptr i (o + n.toNat * es)) else none
        | _ => none
      | _ => none
    | _ => none
  | .index t x ix => match ρ ix with
    | some (.d (.v (.int _ n))) => match tyOf P t with
      | some ⟨_, .str⟩ => match ρ x with
        | some (.d (.v (.string s))) => if 0 ≤ n then match s[n.toNat]? with
          | some b => some (.d (.v (.int .u8 b.toNat)))
          | none => none
          else none
        | _ => none
      | some ⟨_, .array len es ea⟩ => match ρ x with
        | some (.agg cs) => if 0 ≤ n ∧ n < len ∧ es ≠ 0 then partA ⟨n.toNat * es, es, ea⟩ cs else none
        | _ => none
      | _ => none
    | _ => none
  | .extract x i => match ρ x with
    | some (.tup vs) => vs[i]?
    | _ => none
  | .binOp op t x y _ => match ρ x, ρ y with
    | some (.d (.v a)), some (.d (.v b)) => (evBin ((tyOf P t).map (·.k)) op a b).map fun v => .d (.v v)
    | _, _ => none
  | .unOp op _ x => match ρ x with
    | some (.d (.v a)) => (evUn op a).map fun v => .d (.v v)
    | _ => none
  | .convert s t x => if (tyOf P s).isSome = true then match ρ x with
    | some (.d (.v a)) => (Jp ((tyOf P t).map (·.k)) a).map fun v => .d (.v v)
    | _ => none
    else none
  | .call c => match c.callee with
    | .builtin .len => if c.args.size = 1 ∧ c.argTypes.size = 1 then match (c.args[0]?).bind ρ with
      | some p => (evLen ((tyOf P (c.argTypes.getD 0 0)).map (·.k)) p).map fun n => .d (.v (.int .i64 n))
      | none => none
      else none
    | _ => none
  | _ => none
theorem run_part_d {P : Program} {t : TypeId} {cs : List PV} {p : PV} {off : Nat} (hp : partA ⟨off, P.cellsOf t, aggOf P t⟩ cs = some p) (h0 : P.cellsOf t ≠ 0) {K : Kp} {w : World} {vs : Array Value} (hs : vs.size = cs.length) (hv : ∀ (i : Nat) (p : PV) (v : Value), cs[i]? = some p → vs[i]? = some v → RelV K w p v) :
    ∃ u, (part t vs off).run P w = .ok u w ∧ RelV K w p u := by
  unfold partA aggOf at hp
  cases hd : P.underlying t with
  | none => rw [hd] at hp; cases hp
  | some d =>
  rw [hd] at hp
  simp only [Option.map_some] at hp
  simp only [part, Sem.run_bind, run_isAgg hd, Result.andThen_ok]
  cases h : isAggD d with
  | true =>
    rw [h] at hp
    simp only [if_true] at hp ⊢
    split at hp
    · rename_i hle
      obtain rfl := Option.some.inj hp
      simp only [Sem.run_bind, run_sizeOf' hd, Result.andThen_ok, Sem.run_pure]
      refine ⟨_, rfl, .agg (by simp; omega) fun i p v hp hv' => ?_⟩
      rw [List.getElem?_take] at hp
      split at hp
      · rename_i hi
        rw [List.getElem?_drop] at hp
        refine hv (off + i) p v hp ?_
        have hlt := (List.getElem?_eq_some_iff.1 hp).1
        rw [Array.getElem?_extract] at hv'
        split at hv'
        · exact hv'
        · cases hv'
      · cases hp
    · cases hp
  | false =>
    rw [h] at hp
    simp only [Bool.false_eq_true, if_false] at hp ⊢
    have hlt := (List.getElem?_eq_some_iff.1 hp).1
    have hg : vs[off]? = some vs[off] := Array.getElem?_eq_getElem (by omega)
    simp only [hg, Sem.run_pure]
    exact ⟨_, rfl, hv off p _ hp hg⟩
theorem RelV.flat {K : Kp} {w : World} {x v : Value} (h : RelV K w (.d (.v x)) v) : v = x ∧ okv x := by
  cases h with
  | d h => cases h with | v h => exact ⟨rfl, h⟩
theorem nevA_run {P : Program} {o : Oper} {ρ : Operand → Option PV} {p : PV} (h : nevA P ρ o.op = some p) {K : Kp} {w : World} {a : Act} (hops : ∀ x ∈ o.op.operands, ∀ q, ρ x = some q → RelV K w q (a.eval x)) : ∃ v, (execOp a.eval o).run P w = .ok (.value v) w ∧ RelV K w p v := by
  obtain ⟨dst, op, ty, pos, after, guard⟩ := o
  simp only at h hops
  cases op with
  | move x => exact ⟨_, rfl, hops x (by simp [Op.operands]) p h⟩
  | assign x => exact ⟨_, rfl, hops x (by simp [Op.operands]) p h⟩
  | pick c x y =>
    simp only [nevA] at h
    split at h
    · rename_i t hc
      obtain ⟨hv, -⟩ := (hops c (by simp [Op.operands]) _ hc).flat
      simp only [execOp, hv, asBool, Sem.run_bind, Sem.run_pure, Result.andThen_ok]
      refine ⟨_, rfl, ?_⟩
      cases t with
      | true => exact hops x (by simp [Op.operands]) p (by simpa using h)
      | false => exact hops y (by simp [Op.operands]) p (by simpa using h)
    · cases h
  | nilCheck x =>
    simp only [nevA] at h
    split at h
    · rename_i i o hx
      obtain rfl := Option.some.inj h
      have hr := hops x (by simp [Op.operands]) _ hx
      generalize hv : a.eval x = v at hr
      cases hr with
      | ptr hb => simp only [execOp, hv, Sem.run_pure]; exact ⟨_, rfl, .ptr hb⟩
    · rename_i c hx
      obtain rfl := Option.some.inj h
      have hr := hops x (by simp [Op.operands]) _ hx
      obtain ⟨b, off, hv⟩ := eptr_form hr
      rw [hv] at hr
      simp only [execOp, hv, Sem.run_pure]
      exact ⟨_, rfl, hr⟩
    · cases h
  | load t x =>
    simp only [nevA] at h
    split at h
    · rename_i cells T hx hT
      obtain ⟨u, h1, h2⟩ := run_loadAt_cells (P := P) hT h (hops x (by simp [Op.operands]) _ hx)
      simp only [execOp, Sem.run_bind, h1, Result.andThen_ok, Sem.run_pure]
      exact ⟨u, rfl, h2⟩
    · cases h
  | fieldAddr t x f =>
    simp only [nevA] at h
    split at h
    · rename_i sz fs hT
      split at h
      · rename_i fd hf
        split at h
        · cases h
        · rename_i h0
          split at h
          · rename_i i o hx
            obtain rfl := Option.some.inj h
            have hr := hops x (by simp [Op.operands]) _ hx
            generalize hv : a.eval x = v at hr
            cases hr with
            | ptr hb =>
              simp only [execOp, hv, Sem.run_bind, run_fieldAt_d hT rfl hf h0, Result.andThen_ok, Sem.run_pure]
              exact ⟨_, rfl, .ptr hb⟩
          · rename_i c hx
            obtain rfl := Option.some.inj h
            have hr := hops x (by simp [Op.operands]) _ hx
            obtain ⟨b, off, hv⟩ := eptr_form hr
            rw [hv] at hr
            simp only [execOp, hv, Sem.run_bind, run_fieldAt_d hT rfl hf h0, Result.andThen_ok, Sem.run_pure]
            exact ⟨_, rfl, eptr_drop _ hr⟩
          · cases h
      · cases h
    · cases h
  | field t x f =>
    simp only [nevA] at h
    split at h
    · rename_i sz fs hT
      split at h
      · rename_i fd hf
        split at h
        · cases h
        · rename_i h0
          split at h
          · rename_i cs hx
            have hr := hops x (by simp [Op.operands]) _ hx
            generalize hv : a.eval x = v at hr
            cases hr with
            | @agg _ vs hs hvs =>
              obtain ⟨d, hd, hTe⟩ := tyOf_spec hT
              cases d with
              | struct fields =>
                simp only [tyK, Ty.mk.injEq, TyK.struct.injEq] at hTe
                obtain ⟨rfl, rfl⟩ := hTe
                simp only [List.getElem?_map, Array.getElem?_toList, Option.map_eq_some_iff] at hf
                obtain ⟨fl, hfl, rfl⟩ := hf
                obtain ⟨u, h1, h2⟩ := run_part_d h h0 hs hvs
                simp only [execOp, hv, Instr.field, Sem.run_bind, run_underlying hd, Result.andThen_ok, hfl, asAgg, Sem.run_pure, h1]
                exact ⟨u, rfl, h2⟩
              | _ => simp [tyK] at hTe
          · cases h
      · cases h
    · cases h
  | indexAddr t x ix =>
    simp only [nevA] at h
    split at h
    · rename_i k n hix
      obtain ⟨hvi, -⟩ := (hops ix (by simp [Op.operands]) _ hix).flat
      split at h
      · rename_i sz e es ea hT
        split at h
        · rename_i rows hx
          obtain ⟨q, hq, hqr⟩ := Option.bind_eq_some_iff.1 hx
          split at h
          · rename_i hn
            split at h
            · rename_i row hr
              split at h
              · rename_i hl
                obtain rfl := Option.some.inj h
                obtain ⟨u, h1, h2⟩ := run_indexAt_d (P := P) (k := k) hT rfl hn.2 (rows_rel hqr (hops x (by simp [Op.operands]) _ hq)) hn.1 hr hl
                simp only [execOp, hvi, Sem.run_bind, h1, Result.andThen_ok, Sem.run_pure]
                exact ⟨u, rfl, h2⟩
              · cases h
            · cases h
          · cases h
        · split at h
          · rename_i i c m hx
            split at h
            · rename_i hn
              obtain rfl := Option.some.inj h
              have hr := hops x (by simp [Op.operands]) _ hx
              generalize hv : a.eval x = v at hr
              cases hr with
              | bsl hb h1 h2 =>
                obtain ⟨d, hd, hTe⟩ := tyOf_spec hT
                cases d with
                | slice e' =>
                  simp only [tyK, Ty.mk.injEq, TyK.slice.injEq] at hTe
                  obtain ⟨rfl, rfl, rfl, rfl⟩ := hTe
                  simp only [execOp, hv, hvi, Instr.indexAt, asIntOf, Sem.run_bind, Sem.run_pure, run_underlying hd, Result.andThen_ok, hn.1, hn.2.1, and_self, if_true, run_sizeOf_pos hn.2.2, addr_plus]
                  exact ⟨_, rfl, by simpa using RelV.ptr hb⟩
                | _ => simp [tyK] at hTe
            · cases h
          · cases h
      · rename_i sz len es ea hT
        split at h
        · rename_i i o hx
          split at h
          · rename_i hn
            obtain rfl := Option.some.inj h
            have hr := hops x (by simp [Op.operands]) _ hx
            generalize hv : a.eval x = v at hr
            cases hr with
            | ptr hb =>
              obtain ⟨d, hd, hTe⟩ := tyOf_spec hT
              cases d with
              | array n' e' =>
                simp only [tyK, Ty.mk.injEq, TyK.array.injEq] at hTe
                obtain ⟨rfl, rfl, rfl, rfl⟩ := hTe
                simp only [execOp, hv, hvi, Instr.indexAt, asIntOf, Instr.sureAddr, Sem.run_bind, Sem.run_pure, run_underlying hd, Result.andThen_ok, hn.1, hn.2.1, and_self, if_true, run_sizeOf_pos hn.2.2, addr_plus]
                exact ⟨_, rfl, .ptr hb⟩
              | _ => simp [tyK] at hTe
          · cases h
        · cases h
      · cases h
    · cases h
  | index t x ix =>
    simp only [nevA] at h
    split at h
    · rename_i k n hix
      obtain ⟨hvi, -⟩ := (hops ix (by simp [Op.operands]) _ hix).flat
      split at h
      · rename_i sz hT
        split at h
        · rename_i s hx
          obtain ⟨hvx, -⟩ := (hops x (by simp [Op.operands]) _ hx).flat
          split at h
          · rename_i hn
            split at h
            · rename_i b hb
              obtain rfl := Option.some.inj h
              obtain ⟨d, hd, hTe⟩ := tyOf_spec hT
              cases d with
              | string =>
                simp only [execOp, hvx, hvi, Instr.index, asIntOf, Sem.run_bind, Sem.run_pure, run_underlying hd, Result.andThen_ok, hn, if_true, hb]
                exact ⟨_, rfl, .d (.v trivial)⟩
              | _ => simp [tyK] at hTe
            · cases h
          · cases h
        · cases h
      · rename_i sz len es ea hT
        split at h
        · rename_i cs hx
          split at h
          · rename_i hn
            have hr := hops x (by simp [Op.operands]) _ hx
            generalize hv : a.eval x = v at hr
            cases hr with
            | @agg _ vs hs hvs =>
              obtain ⟨d, hd, hTe⟩ := tyOf_spec hT
              cases d with
              | array n' e' =>
                simp only [tyK, Ty.mk.injEq, TyK.array.injEq] at hTe
                obtain ⟨rfl, rfl, rfl, rfl⟩ := hTe
                obtain ⟨u, h1, h2⟩ := run_part_d h hn.2.2 hs hvs
                simp only [execOp, hv, hvi, Instr.index, asIntOf, Sem.run_bind, Sem.run_pure, run_underlying hd, Result.andThen_ok, hn.1, hn.2.1, and_self, if_true, run_sizeOf_pos hn.2.2, h1]
                exact ⟨u, rfl, h2⟩
              | _ => simp [tyK] at hTe
          · cases h
        · cases h
      · cases h
    · cases h
  | extract x i =>
    simp only [nevA] at h
    split at h
    · rename_i vs hx
      have hr := hops x (by simp [Op.operands]) _ hx
      generalize hv : a.eval x = v at hr
      cases hr with
      | @tup _ us hs hus =>
        have hlt := (List.getElem?_eq_some_iff.1 h).1
        have hg : us[i]? = some us[i] := Array.getElem?_eq_getElem (by omega)
        simp only [execOp, hv, Instr.extract, hg, Sem.run_bind, Sem.run_pure, Result.andThen_ok]
        exact ⟨_, rfl, hus i p _ h hg⟩
    · cases h
  | binOp op t x y ty2 =>
    simp only [nevA] at h
    split at h
    · rename_i u v hx hy
      obtain ⟨r, hr, rfl⟩ := Option.map_eq_some_iff.1 h
      obtain ⟨hvx, ox⟩ := (hops x (by simp [Op.operands]) _ hx).flat
      obtain ⟨hvy, oy⟩ := (hops y (by simp [Op.operands]) _ hy).flat
      obtain ⟨h1, h2⟩ := evBin_run (P := P) hr w x y
      refine ⟨r, ?_, .d (.v (h2 ox oy))⟩
      simp only [execOp, hvx, hvy]
      rw [Sem.run_bind, h1]; rfl
    · cases h
  | unOp op t x =>
    simp only [nevA] at h
    split at h
    · rename_i u hx
      obtain ⟨r, hr, rfl⟩ := Option.map_eq_some_iff.1 h
      obtain ⟨hvx, ox⟩ := (hops x (by simp [Op.operands]) _ hx).flat
      obtain ⟨h1, h2⟩ := evUn_run (P := P) hr w
      refine ⟨r, ?_, .d (.v h2)⟩
      simp only [execOp, hvx]
      rw [Sem.run_bind, h1]; rfl
    · cases h
  | convert s t x =>
    simp only [nevA] at h
    split at h
    · rename_i hs
      split at h
      · rename_i u hx
        obtain ⟨r, hr, rfl⟩ := Option.map_eq_some_iff.1 h
        obtain ⟨hvx, ox⟩ := (hops x (by simp [Op.operands]) _ hx).flat
        obtain ⟨h1, h2⟩ := evConv_run (P := P) hs hr w
        refine ⟨r, ?_, .d (.v (h2 ox))⟩
        simp only [execOp, hvx]
        rw [Sem.run_bind, h1]; rfl
      · cases h
    · cases h
  | call c =>
    obtain ⟨callee, args, argTypes⟩ := c
    cases callee with
    | builtin b =>
      cases b with
      | len =>
        simp only [nevA] at h
        split at h
        · rename_i hz
          obtain ⟨hz1, hz2⟩ := hz
          split at h
          · rename_i q hq
            obtain ⟨n, hn, rfl⟩ := Option.map_eq_some_iff.1 h
            obtain ⟨x, hx, hqx⟩ := Option.bind_eq_some_iff.1 hq
            obtain ⟨x', rfl⟩ : ∃ x', args = #[x'] := ⟨args[0], by apply Array.ext <;> simp_all⟩
            obtain ⟨t', rfl⟩ : ∃ t', argTypes = #[t'] := ⟨argTypes[0], by apply Array.ext <;> simp_all⟩
            simp at hx; subst hx
            simp only [Array.getD_eq_getD_getElem?, List.getElem?_toArray, List.getElem?_cons_zero, Option.getD_some] at hn
            have hr := hops x' (by simp [Op.operands, Call.operands]) _ hqx
            have hlen : (Builtin.len_ #[t'] ty #[a.eval x']).run P w = .ok (.int .i64 n) w := by
              have key : ∀ (T : TyK), (tyOf P t').map (·.k) = some T → ∃ d, P.underlying t' = some d ∧ tyK P d = T := by
                intro T hT
                obtain ⟨T', hT', rfl⟩ := Option.map_eq_some_iff.1 hT
                obtain ⟨d, hd, rfl⟩ := tyOf_spec hT'
                exact ⟨d, hd, rfl⟩
              have slc : ∀ (rows : List (List D)) (e es : Nat) (ea : Option Bool), (tyOf P t').map (·.k) = some (.slice e es ea) → RelD K.cell w (.sl rows) (a.eval x') → (Builtin.len_ #[t'] ty #[a.eval x']).run P w = .ok (.int .i64 rows.length) w := by
                intro rows e es ea hT hrel
                obtain ⟨d, hd, hk⟩ := key _ hT
                obtain ⟨aa, cap, hv, _, _⟩ := rows_form hrel
                cases d <;> simp [tyK] at hk
                simp [Builtin.len_, run_underlying hd, hv, goInt]
              unfold evLen at hn
              split at hn
              · rename_i s
                obtain ⟨hvx, -⟩ := hr.flat
                split at hn
                · rename_i hT
                  obtain ⟨d, hd, hk⟩ := key _ hT
                  obtain rfl := Option.some.inj hn
                  cases d <;> simp [tyK] at hk
                  simp [Builtin.len_, run_underlying hd, hvx, goInt]
                · cases hn
              · rename_i rows
                split at hn
                · rename_i hT
                  obtain rfl := Option.some.inj hn
                  exact slc _ _ _ _ hT (rows_rel rfl hr)
                · cases hn
              · split at hn
                · rename_i hT
                  obtain rfl := Option.some.inj hn
                  exact slc _ _ _ _ hT (rows_rel rfl hr)
                · cases hn
              · split at hn
                · rename_i hT
                  obtain rfl := Option.some.inj hn
                  exact slc _ _ _ _ hT (rows_rel rfl hr)
                · cases hn
              · split at hn
                · rename_i hT
                  obtain rfl := Option.some.inj hn
                  exact slc [] _ _ _ hT (rows_rel rfl hr)
                · cases hn
              · split at hn
                · rename_i hT
                  obtain rfl := Option.some.inj hn
                  obtain ⟨d, hd, hk⟩ := key _ hT
                  generalize a.eval x' = vx at hr ⊢
                  cases hr with
                  | bsl hb h1 h2 =>
                    cases d <;> simp [tyK] at hk
                    simp [Builtin.len_, run_underlying hd, goInt]
                · cases hn
              · cases hn
            refine ⟨.int .i64 n, ?_, .d (.v trivial)⟩
            simp only [execOp, resolve, invoke, builtin, Sem.run_bind, Sem.run_pure, Result.andThen_ok, List.map_toArray, List.map_cons, List.map_nil]
            rw [hlen]; rfl
          · cases h
        · cases h
      | _ => simp [nevA] at h
    | _ => simp [nevA] at h
  | _ => simp [nevA] at h
theorem nevA_ok {P : Program} {o : Oper} {ρ : Operand → Option PV} {p : PV} (h : nevA P ρ o.op = some p) (st : St) : POp P o ρ st fun q s => q = p ∧ s = st := by
  refine POp.of_run fun F K w a h1 h2 => ?_
  obtain ⟨v, h3, h4⟩ := nevA_run (P := P) h h2
  exact ⟨v, w, K, p, st, h3, Ext.refl _ _ _, h1, h4, rfl, rfl⟩
end Go.Proofs.Ytfnfbbmegdkhjaa

namespace Go.Proofs.Ytfnfbbmegdkhjaa
open Go.RowKit
set_option linter.unusedVariables false
set_option linter.unusedSimpArgs false
/-- a variable of one's own -/
def St.box? : St → Nat → Option (TypeId × List PV)
  | [], _ => none
  | .box j T cs :: r, i => if j = i then some (T, cs) else St.box? r i
  | .tok .. :: r, i => St.box? r i
  | .obj .. :: r, i => St.box? r i
/-- its cells, anew -/
def St.setBox : St → Nat → List PV → St
  | [], _, _ => []
  | .box j T cs :: r, i, ds => if j = i then .box j T ds :: r else .box j T cs :: St.setBox r i ds
  | .tok g E sz n :: r, i, ds => .tok g E sz n :: St.setBox r i ds
  | .obj j ok :: r, i, ds => .obj j ok :: St.setBox r i ds
def St.tok? : St → Nat → Option (TypeId × Nat × Nat)
  | [], _ => none
  | .tok j E sz n :: r, g => if j = g then some (E, sz, n) else St.tok? r g
  | .box .. :: r, g => St.tok? r g
  | .obj .. :: r, g => St.tok? r g
def St.setTok : St → Nat → Nat → St
  | [], _, _ => []
  | .tok j E sz n :: r, g, m => if j = g then .tok j E sz m :: r else .tok j E sz n :: St.setTok r g m
  | .box i T cs :: r, g, m => .box i T cs :: St.setTok r g m
  | .obj i ok :: r, g, m => .obj i ok :: St.setTok r g m
theorem St.box?_split : ∀ {st : St} {i : Nat} {T : TypeId} {cs : List PV}, st.box? i = some (T, cs) → ∃ l r, st = l ++ .box i T cs :: r ∧ ∀ ds, st.setBox i ds = l ++ .box i T ds :: r := by
  intro st
  induction st with
  | nil => intro i T cs h; cases h
  | cons e r ih =>
    intro i T cs h
    cases e with
    | box j U ds =>
      simp only [St.box?] at h
      split at h
      · rename_i e
        subst e
        simp only [Option.some.injEq, Prod.mk.injEq] at h
        obtain ⟨rfl, rfl⟩ := h
        exact ⟨[], r, rfl, fun ds => by simp [St.setBox]⟩
      · rename_i e
        obtain ⟨l, r', rfl, h2⟩ := ih h
        exact ⟨.box j U ds :: l, r', rfl, fun ds => by simp [St.setBox, e, h2]⟩
    | tok g E sz n =>
      simp only [St.box?] at h
      obtain ⟨l, r', rfl, h2⟩ := ih h
      exact ⟨.tok g E sz n :: l, r', rfl, fun ds => by simp [St.setBox, h2]⟩
    | obj j ok =>
      simp only [St.box?] at h
      obtain ⟨l, r', rfl, h2⟩ := ih h
      exact ⟨.obj j ok :: l, r', rfl, fun ds => by simp [St.setBox, h2]⟩
theorem St.tok?_split : ∀ {st : St} {g : Nat} {E : TypeId} {sz n : Nat}, st.tok? g = some (E, sz, n) → ∃ l r, st = l ++ .tok g E sz n :: r ∧ ∀ m, st.setTok g m = l ++ .tok g E sz m :: r := by
  intro st
  induction st with
  | nil => intro g E sz n h; cases h
  | cons e r ih =>
    intro g E sz n h
    cases e with
    | tok j E' sz' n' =>
      simp only [St.tok?] at h
      split at h
      · rename_i e
        subst e
        simp only [Option.some.injEq, Prod.mk.injEq] at h
        obtain ⟨rfl, rfl, rfl⟩ := h
        exact ⟨[], r, rfl, fun ds => by simp [St.setTok]⟩
      · rename_i e
        obtain ⟨l, r', rfl, h2⟩ := ih h
        exact ⟨.tok j E' sz' n' :: l, r', rfl, fun ds => by simp [St.setTok, e, h2]⟩
    | box i U ds =>
      simp only [St.tok?] at h
      obtain ⟨l, r', rfl, h2⟩ := ih h
      exact ⟨.box i U ds :: l, r', rfl, fun ds => by simp [St.setTok, h2]⟩
    | obj j ok =>
      simp only [St.tok?] at h
      obtain ⟨l, r', rfl, h2⟩ := ih h
      exact ⟨.obj j ok :: l, r', rfl, fun ds => by simp [St.setTok, h2]⟩
def Jm (T : Ty) (cells : List PV) : Option PV :=
  if T.k.agg = true then (if T.size ≤ cells.length then some (.agg (cells.take T.size)) else none)
  else match cells with
    | c :: _ => some c
    | [] => none
/-- an operation that looks at a variable of one's own -/
def nevB (P : Program) (st : St) (ρ : Operand → Option PV) : Op → Option PV
  | .load t a => match ρ a, tyOf P t with
    | some (.ptr i off), some T => match st.box? i with
      | some (_, cs) => Jm T (cs.drop off)
      | none => none
    | _, _ => none
  | _ => none
theorem cell_of_arr {w : World} {b : Nat} {arr : Array Value} {T : TypeId} {fr : Nat × Nat} (h : w.heap[b]? = some (.cells arr T fr)) (o : Nat) : w.cell? ⟨b, o, none⟩ = arr[o]? := by simp [World.cell?, h]
theorem nevB_ok {P : Program} {o : Oper} {ρ : Operand → Option PV} {p : PV} {st : St} (h : nevB P st ρ o.op = some p) : POp P o ρ st fun q s => q = p ∧ s = st := by
  refine POp.of_run fun F K w a h1 h2 => ?_
  obtain ⟨dst, op, ty, pos, after, guard⟩ := o
  simp only at h h2
  cases op with
  | load t x =>
    simp only [nevB] at h
    split at h
    · rename_i i off T hx hT
      split at h
      · rename_i U cs hb
        obtain ⟨l, r, rfl, -⟩ := St.box?_split hb
        obtain ⟨b, arr, hk, hF, hh, hs, hc, hn⟩ := h1.ents (.box i U cs) (by simp)
        have hr := h2 x (by simp [Op.operands]) _ hx
        generalize hv : a.eval x = v at hr
        cases hr with
        | ptr hb' =>
        rw [hk] at hb'
        obtain rfl := Option.some.inj hb'
        obtain ⟨d, hd, rfl⟩ := tyOf_spec hT
        have goal : ∃ u, (Instr.loadAt t (.pointer (some ⟨b, off, none⟩))).run P w = .ok u w ∧ RelV K w p u := by
          simp only [Instr.loadAt, Instr.sureAddr, Sem.run_bind, Sem.run_pure, Result.andThen_ok, loadVar, run_isAgg hd]
          unfold Jm at h
          simp only [tyK_agg] at h
          cases hag : isAggD d with
          | true =>
            rw [hag] at h
            simp only [if_true] at h ⊢
            split at h
            · rename_i hle
              obtain rfl := Option.some.inj h
              have hlen : off + P.cellsOf t ≤ arr.size ∨ P.cellsOf t = 0 := by
                rw [List.length_drop] at hle; omega
              have hl := run_loadCells (P := P) w ⟨b, off, none⟩ (P.cellsOf t) (fun j => arr.getD (off + j) undef) fun j hj => by
                rw [addr_plus, cell_of_arr hh, Array.getD_eq_getD_getElem?, Array.getElem?_eq_getElem (by omega)]; rfl
              simp only [Sem.run_bind, run_sizeOf' hd, Result.andThen_ok, hl, Sem.run_pure]
              refine ⟨_, rfl, .agg (by simp; rw [List.length_drop] at hle; omega) fun j q u hq hu => ?_⟩
              rw [List.getElem?_take] at hq
              split at hq
              · rename_i hj
                rw [List.getElem?_drop] at hq
                simp only [List.getElem?_toArray, List.getElem?_map, List.getElem?_range hj, Option.map_some, Option.some.injEq] at hu
                refine hc _ q u hq ?_
                rw [← hu, Array.getD_eq_getD_getElem?, Array.getElem?_eq_getElem (by omega)]; rfl
              · cases hq
            · cases h
          | false =>
            rw [hag] at h
            simp only [Bool.false_eq_true, if_false] at h ⊢
            cases hcs : cs.drop off with
            | nil => rw [hcs] at h; cases h
            | cons c cr =>
              rw [hcs] at h
              obtain rfl := Option.some.inj h
              have h0 : cs[off]? = some c := by
                have := congrArg (·[0]?) hcs
                simpa using this
              have hlt := (List.getElem?_eq_some_iff.1 h0).1
              have hg : arr[off]? = some arr[off] := Array.getElem?_eq_getElem (by omega)
              have hce : w.cell? ⟨b, off, none⟩ = some arr[off] := by rw [cell_of_arr hh, hg]
              simp only [run_load, hce]
              exact ⟨_, rfl, hc off c _ h0 hg⟩
        obtain ⟨u, h3, h4⟩ := goal
        refine ⟨u, w, K, p, _, ?_, Ext.refl _ _ _, h1, h4, rfl, rfl⟩
        simp only [execOp, hv, Sem.run_bind, h3, Result.andThen_ok, Sem.run_pure]
      · cases h
    · cases h
  | _ => simp [nevB] at h
end Go.Proofs.Ytfnfbbmegdkhjaa

namespace Go.Proofs.Ytfnfbbmegdkhjaa
open Go.RowKit
set_option linter.unusedVariables false
set_option linter.unusedSimpArgs false
theorem EntOk.keep {F : Fz} {K K' : Kp} {w w' : World} {e : Ent} (hx : Ext F K w K' w') (hb : ∀ b, e.block K = some b → w'.heap[b]? = w.heap[b]?) (hn : ∀ b o, e.block K = some b → K'.cell b o → K.cell b o) (ho : ∀ g, e.tid = some g → K'.own g = K.own g) (h : EntOk F K w e) : EntOk F K' w' e := by
  cases e with
  | box i T cs =>
    obtain ⟨b, arr, h1, h2, h3, h4, h5, h6⟩ := h
    exact ⟨b, arr, hx.kb _ _ h1, h2, (hb b h1).trans h3, h4, fun j p v hp hv => (h5 j p v hp hv).mono hx, fun o hc => h6 o (hn b o h1 hc)⟩
  | tok g E sz n =>
    obtain ⟨u, xs, h1, h2, h3, h4, h5⟩ := h
    refine ⟨u, xs, (ho g rfl).trans h1, h2, h3, ?_, fun b hu => ?_⟩
    · refine ⟨h4.1, ?_⟩
      rcases h4.2 with hn | ⟨q, cap, cur, rfl, h6, h7, r⟩
      · exact .inl hn
      · refine .inr ⟨q, cap, cur, rfl, h6, ?_, r⟩
        rw [hb q (by simp [Ent.block, h1, Value.ownBlock])]; exact h7
    · obtain ⟨h6, h7⟩ := h5 b hu
      exact ⟨h6, fun o hc => h7 o (hn b o (by simp [Ent.block, h1, hu]) hc)⟩
  | obj i ok =>
    obtain ⟨b, o, h1, h2, h3, h4, h5⟩ := h
    exact ⟨b, o, hx.kb _ _ h1, h2, (hb b h1).trans h3, h4, fun o' hc => h5 o' (hn b o' h1 hc)⟩
theorem EntOk.lt {F : Fz} {K : Kp} {w : World} {e : Ent} (h : EntOk F K w e) {b : Nat} (hb : e.block K = some b) : b < w.heap.size ∧ ¬ F.blk b := by
  cases e with
  | box i T cs =>
    obtain ⟨b', arr, h1, h2, h3, -⟩ := h
    simp only [Ent.block] at hb
    rw [h1] at hb
    obtain rfl := Option.some.inj hb
    exact ⟨(Array.getElem?_eq_some_iff.1 h3).1, h2⟩
  | tok g E sz n =>
    obtain ⟨u, xs, h1, h2, h3, h4, h5⟩ := h
    simp only [Ent.block, h1, Option.bind_some] at hb
    exact ⟨(h4.lt b hb).2, (h5 b hb).1⟩
  | obj i ok =>
    obtain ⟨b', o, h1, h2, h3, -⟩ := h
    simp only [Ent.block] at hb
    rw [h1] at hb
    obtain rfl := Option.some.inj hb
    exact ⟨(Array.getElem?_eq_some_iff.1 h3).1, h2⟩
/-- apart from one entry, the others lie in other blocks -/
theorem nodup_ne {α : Type} {f : α → Option Nat} {l r : List α} {e : α} (h : ((l ++ e :: r).filterMap f).Nodup) {b : Nat} (hb : f e = some b) : ∀ x, x ∈ l ∨ x ∈ r → f x ≠ some b := by
  intro x hx hxb
  rw [List.filterMap_append, List.filterMap_cons, hb] at h
  simp only at h
  rw [List.nodup_append] at h
  obtain ⟨h1, h2, h3⟩ := h
  rw [List.nodup_cons] at h2
  rcases hx with hx | hx
  · exact h3 b (List.mem_filterMap.2 ⟨x, hx, hxb⟩) b (by simp) rfl
  · exact h2.1 (List.mem_filterMap.2 ⟨x, hx, hxb⟩)
/-- a variable written -/
theorem Rel.setBox {F : Fz} {K : Kp} {w w' : World} {l r : St} {i : Nat} {T : TypeId} {cs ds : List PV} (h : Rel F (l ++ .box i T cs :: r) K w) {b : Nat} (hb : K.box i = some b) {arr : Array Value}
    (os : w'.os = w.os) (tape : w'.tape = w.tape) (out : w'.output = w.output) (size : w'.heap.size = w.heap.size) (hh : w'.heap[b]? = some (.cells arr T)) (ho : ∀ k, k ≠ b → w'.heap[k]? = w.heap[k]?) (hs : arr.size = ds.length) (hc : ∀ (j : Nat) (p : PV) (v : Value), ds[j]? = some p → arr[j]? = some v → RelV K w p v) :
    Ext F K w K w' ∧ Rel F (l ++ .box i T ds :: r) K w' := by
  obtain ⟨b', arr0, h1, h2, h3, h4, h5, h6⟩ := h.ents (.box i T cs) (by simp)
  rw [hb] at h1
  obtain rfl := Option.some.inj h1
  have hcell : ∀ c o, K.cell c o → c ≠ b := fun c o hc e => h6 o (e ▸ hc)
  have hx : Ext F K w K w' := ⟨os, tape, out, by omega, fun c hc => ho c fun e => h2 (e ▸ hc), fun c o hc => ⟨hc, World.cell?_of_block (w := w) (a := ⟨c, o, none⟩) (ho c (hcell c o hc))⟩, fun c o hc => .inl hc, fun _ _ h => h, fun g u hu => ⟨u, hu, .inl rfl⟩, fun _ _ => rfl⟩
  refine ⟨hx, ⟨fun c o hc => ?_, fun c hc => by have := h.ff c hc; omega, h.fin, h.fi, fun e he => ?_, ?_, ?_⟩⟩
  · obtain ⟨v, hv⟩ := h.kc c o hc
    exact ⟨v, (hx.kp c o hc).2.trans hv⟩
  · simp only [List.mem_append, List.mem_cons] at he
    have key : ∀ x, x ∈ l ∨ x ∈ r → EntOk F K w' x := fun x hxx => by
      have hne := nodup_ne h.nb (e := .box i T cs) hb x hxx
      refine (h.ents x (by simp only [List.mem_append, List.mem_cons]; rcases hxx with h | h <;> simp [h])).keep hx (fun c hc => ho c fun e => hne (e ▸ hc)) (fun _ _ _ h => h) fun _ _ => rfl
    rcases he with he | rfl | he
    · exact key e (.inl he)
    · exact ⟨b, arr, hb, h2, hh, hs, fun j p v hp hv => (hc j p v hp hv).mono hx, h6⟩
    · exact key e (.inr he)
  · have := h.nb
    simp only [List.filterMap_append, List.filterMap_cons, Ent.block] at this ⊢
    exact this
  · have := h.nt
    simp only [List.filterMap_append, List.filterMap_cons, Ent.tid] at this ⊢
    exact this
/-- one cell's worth -/
def PV.one : PV → Bool
  | .agg _ => false
  | .tup _ => false
  | .u => false
  | _ => true
theorem RelD.one {K : Nat → Nat → Prop} {w : World} {d : D} {v : Value} (h : RelD K w d v) : v.oneCell' = true := by
  cases h with
  | v h => exact okv_one h
  | nil => rfl
  | sl => rfl
theorem RelV.one {K : Kp} {w : World} {p : PV} {v : Value} (h : RelV K w p v) (hp : p.one = true) : v.oneCell' = true := by
  cases h with
  | d h => exact h.one
  | own h => exact h.one
  | full h => exact h.one
  | u => cases hp
  | agg => cases hp
  | tup => cases hp
  | _ => rfl
def PV.ps : PV → List PV
  | .agg ps => ps
  | p => [p]
theorem RelV.ps {K : Kp} {w : World} {p : PV} {v : Value} (h : RelV K w p v) (hp : ∀ q ∈ p.ps, q.one = true) : v.cells.size = p.ps.length ∧ (∀ (j : Nat) (q : PV) (u : Value), p.ps[j]? = some q → v.cells[j]? = some u → RelV K w q u) ∧ ∀ u ∈ v.cells.toList, u.oneCell' = true := by
  have single : ∀ {p : PV} {v : Value}, RelV K w p v → v.cells = #[v] → p.ps = [p] → p.one = true → v.cells.size = p.ps.length ∧ (∀ (j : Nat) (q : PV) (u : Value), p.ps[j]? = some q → v.cells[j]? = some u → RelV K w q u) ∧ ∀ u ∈ v.cells.toList, u.oneCell' = true := by
    intro p v h h1 h2 h3
    refine ⟨by rw [h1, h2]; rfl, fun j q u hq hu => ?_, fun u hu => ?_⟩
    · rw [h2] at hq
      rw [h1] at hu
      have hj : j = 0 := by
        have := (List.getElem?_eq_some_iff.1 hq).1; simp at this; omega
      subst hj
      simp at hq hu
      subst hq; subst hu; exact h
    · rw [h1] at hu; simp at hu; subst hu; exact h.one h3
  have cells_one : ∀ {v : Value}, v.oneCell' = true → v.cells = #[v] := fun {v} h => by cases v <;> first | rfl | cases h
  cases h with
  | @agg ps vs h1 h2 =>
    refine ⟨h1, h2, fun u hu => ?_⟩
    obtain ⟨j, hj, rfl⟩ := List.mem_iff_getElem.1 hu
    simp only [Value.cells, Array.length_toList] at hj
    have hq : ps[j]? = some ps[j] := List.getElem?_eq_getElem (by omega)
    refine (h2 j _ vs[j] hq (Array.getElem?_eq_getElem hj)).one (hp _ (List.mem_of_getElem? hq))
  | u => exact absurd (hp .u (by simp [PV.ps])) (by simp [PV.one])
  | @tup ps vs h1 h2 => exact absurd (hp (.tup ps) (by simp [PV.ps])) (by simp [PV.one])
  | d h => exact single (.d h) (cells_one h.one) rfl rfl
  | nils => exact single .nils rfl rfl rfl
  | own h1 h2 h3 h4 => exact single (.own h1 h2 h3 h4) (cells_one h1.one) rfl rfl
  | full h => exact single (.full h) rfl rfl rfl
  | ptr h => exact single (.ptr h) rfl rfl rfl
  | eptr vals h1 h2 => exact single (.eptr vals h1 h2) rfl rfl rfl
  | fn h1 h2 h3 h4 => exact single (.fn h1 h2 h3 h4) rfl rfl rfl
  | mp h => exact single (.mp h) rfl rfl rfl
  | bsl h h1 h2 => exact single (.bsl h h1 h2) rfl rfl rfl
def spl (cs : List PV) (off : Nat) (ps : List PV) : List PV := cs.take off ++ ps ++ cs.drop (off + ps.length)
/-- a store into a variable of one's own -/
theorem POp_store {P : Program} {o : Oper} {ρ : Operand → Option PV} {st : St} {R : PV → St → Prop} {t : TypeId} {x y : Operand} (ho : o.op = .store t x y) {i off : Nat} (hx : ρ x = some (.ptr i off)) {p : PV} (hy : ρ y = some p) (hone : p.ps.all PV.one = true) {T : Ty} (hT : tyOf P t = some T) (hsz : p.ps.length = T.size) {U : TypeId} {cs : List PV} (hb : st.box? i = some (U, cs)) (hfit : off + p.ps.length ≤ cs.length)
    (h : R (.tup []) (st.setBox i (spl cs off p.ps))) : POp P o ρ st R := by
  refine POp.of_skip fun F K w a h1 h2 => ?_
  obtain ⟨dst, op, ty, pos, after, guard⟩ := o
  simp only at ho h2
  subst ho
  obtain ⟨l, r, rfl, hset⟩ := St.box?_split hb
  rw [hset] at h
  obtain ⟨b, arr, hk, hF, hh, hs, hc, hn⟩ := h1.ents (.box i U cs) (by simp)
  have hr := h2 x (by simp [Op.operands]) _ hx
  have hv := h2 y (by simp [Op.operands]) _ hy
  obtain ⟨d, hd, rfl⟩ := tyOf_spec hT
  generalize hvx : a.eval x = vx at hr
  cases hr with
  | ptr hb' =>
  rw [hk] at hb'
  obtain rfl := Option.some.inj hb'
  obtain ⟨c1, c2, c3⟩ := hv.ps (by simpa using hone)
  have hst := run_storeCells_at P b off U (a.eval y).cells.toList 0 arr w hh (by simp; omega) c3
  simp only [Nat.add_zero, Array.length_toList] at hst
  have harr : (w.setRow b (arr.toList.take off ++ (a.eval y).cells.toList ++ arr.toList.drop (off + (a.eval y).cells.size)).toArray).heap[b]? = some (.cells (arr.toList.take off ++ (a.eval y).cells.toList ++ arr.toList.drop (off + (a.eval y).cells.size)).toArray U (0, 0)) := setRow_heap w b arr _ U _ hh
  obtain ⟨hx2, hrel⟩ := h1.setBox (ds := spl cs off p.ps) (w' := w.setRow b (arr.toList.take off ++ (a.eval y).cells.toList ++ arr.toList.drop (off + (a.eval y).cells.size)).toArray) hk rfl rfl rfl (by simp [World.setRow]) harr (fun k hk => setRow_other w b k _ hk) (by simp [spl]; omega) fun j q u hq hu => by
    unfold spl at hq
    simp only [List.getElem?_toArray] at hu
    rw [List.append_assoc, List.getElem?_append] at hq hu
    simp only [List.length_take, Array.length_toList] at hq hu
    rw [show min off arr.size = off by omega] at hu
    rw [show min off cs.length = off by omega] at hq
    split at hq
    · rename_i hj
      rw [if_pos hj] at hu
      rw [List.getElem?_take, if_pos hj] at hq hu
      exact hc j q u hq (by simpa using hu)
    · rename_i hj
      rw [if_neg hj] at hu
      rw [List.getElem?_append] at hq hu
      simp only [Array.length_toList, c1] at hu
      split at hq
      · rename_i hj2
        rw [if_pos hj2] at hu
        exact c2 _ q u hq (by simpa using hu)
      · rename_i hj2
        rw [if_neg hj2] at hu
        rw [List.getElem?_drop] at hq hu
        exact hc _ q u hq (by simpa using hu)
  refine ⟨_, K, _, ?_, hx2, hrel, h⟩
  simp only [execOp, hvx, Instr.storeAt, Instr.sureAddr, storeVar, Sem.run_bind, Sem.run_pure, Result.andThen_ok, run_sizeOf' hd, c1, hsz, ne_eq, not_true_eq_false, if_false, hst]
end Go.Proofs.Ytfnfbbmegdkhjaa

namespace Go.Proofs.Ytfnfbbmegdkhjaa
open Go.RowKit
set_option linter.unusedVariables false
set_option linter.unusedSimpArgs false
/-- ids that are not in use here -/
def Ent.bid : Ent → Option Nat
  | .box i _ _ => some i
  | .tok .. => none
  | .obj i _ => some i
def St.freshB (st : St) (i : Nat) : Prop := ∀ e ∈ st, e.bid ≠ some i
def St.freshT (st : St) (g : Nat) : Prop := ∀ e ∈ st, e.tid ≠ some g
theorem Rg (i : Nat) : St.freshB [] i ↔ True := by simp [St.freshB]
theorem Rh (st : St) (i j : Nat) (T : TypeId) (cs : List PV) : St.freshB (.box j T cs :: st) i ↔ (j ≠ i ∧ i ≠ j) ∧ St.freshB st i := by
  simp only [St.freshB, List.forall_mem_cons, Ent.bid, ne_eq, Option.some.injEq]
  constructor
  · rintro ⟨h1, h2⟩; exact ⟨⟨h1, fun e => h1 e.symm⟩, h2⟩
  · rintro ⟨h1, h2⟩; exact ⟨h1.1, h2⟩
theorem Rf (st : St) (i g : Nat) (E : TypeId) (sz n : Nat) : St.freshB (.tok g E sz n :: st) i ↔ St.freshB st i := by
  simp [St.freshB, Ent.bid]
theorem Ja (st : St) (i j : Nat) (ok : Obj → Prop) : St.freshB (.obj j ok :: st) i ↔ (j ≠ i ∧ i ≠ j) ∧ St.freshB st i := by
  simp only [St.freshB, List.forall_mem_cons, Ent.bid, ne_eq, Option.some.injEq]
  constructor
  · rintro ⟨h1, h2⟩; exact ⟨⟨h1, fun e => h1 e.symm⟩, h2⟩
  · rintro ⟨h1, h2⟩; exact ⟨h1.1, h2⟩
theorem filterMap_eq {α β : Type} {f g : α → Option β} : ∀ {l : List α}, (∀ x ∈ l, f x = g x) → l.filterMap f = l.filterMap g := by
  intro l
  induction l with
  | nil => intro _; rfl
  | cons a l ih => intro h; rw [List.filterMap_cons, List.filterMap_cons, h a (by simp), ih fun x hx => h x (by simp [hx])]
/-- new variables get ids that nothing has -/
def Kp.addBox (K : Kp) (i b : Nat) : Kp := ⟨K.cell, fun j => if j = i then some b else K.box j, K.own⟩
theorem ext_alloc (F : Fz) {K K' : Kp} (w : World) (o : Obj) (hk : ∀ b o', K.cell b o' → b < w.heap.size ∧ K'.cell b o') (hn : ∀ b o', K'.cell b o' → K.cell b o' ∨ b = w.heap.size) (hb : ∀ i b, K.box i = some b → K'.box i = some b) (ho : ∀ g u, K.own g = some u → K'.own g = some u) (hf : ∀ g, F.id g → K'.own g = K.own g) (ff : ∀ b, F.blk b → b < w.heap.size) : Ext F K w K' (w.alloc o) := by
  have hblk : ∀ k, k < w.heap.size → (w.alloc o).heap[k]? = w.heap[k]? := fun k h => Below.heap_alloc w o k h
  refine ⟨rfl, rfl, rfl, by simp, fun b h => hblk b (ff b h), fun b o' h => ⟨(hk b o' h).2, World.cell?_of_block (w := w) (a := ⟨b, o', none⟩) (hblk b (hk b o' h).1)⟩, fun b o' h => ?_, hb, fun g u h => ⟨u, ho g u h, .inl rfl⟩, hf⟩
  rcases hn b o' h with h | h
  · exact .inl h
  · exact .inr fun h' => by have := ff b h'; omega
theorem Rel.klt {F : Fz} {st : St} {K : Kp} {w : World} (h : Rel F st K w) {b o : Nat} (hc : K.cell b o) : b < w.heap.size := by
  obtain ⟨v, hv⟩ := h.kc b o hc
  exact World.block_lt_of_cell? w _ hv
/-- a new variable -/
theorem Rel.newBox {F : Fz} {st : St} {K : Kp} {w : World} (h : Rel F st K w) {arr : Array Value} {T : TypeId} {ps : List PV} (hs : arr.size = ps.length) (hc : ∀ (j : Nat) (p : PV) (v : Value), ps[j]? = some p → arr[j]? = some v → RelV K w p v) :
    ∃ i, K.box i = none ∧ St.freshB st i ∧ Ext F K w (K.addBox i w.heap.size) (w.alloc (.cells arr T)) ∧ Rel F (.box i T ps :: st) (K.addBox i w.heap.size) (w.alloc (.cells arr T)) := by
  obtain ⟨nx, hnx⟩ := h.fin
  have hnone : K.box nx = none := (hnx nx (Nat.le_refl _)).1
  have hkb : ∀ j b, K.box j = some b → (K.addBox nx w.heap.size).box j = some b := fun j b hj => by
    simp only [Kp.addBox]
    rw [if_neg (by intro e; subst e; rw [hnone] at hj; cases hj)]; exact hj
  have hx : Ext F K w (K.addBox nx w.heap.size) (w.alloc (.cells arr T)) := ext_alloc F w _ (fun b o hc => ⟨h.klt hc, hc⟩) (fun b o hc => .inl hc) hkb (fun _ _ h => h) (fun _ _ => rfl) h.ff
  refine ⟨nx, hnone, fun e he hid => ?_, hx, ⟨fun b o hc => ?_, fun b hb => by have := h.ff b hb; simp; omega, ⟨nx + 1, fun j hj => ?_⟩, h.fi, fun e he => ?_, ?_, ?_⟩⟩
  · cases e with
    | box i U cs =>
      simp only [Ent.bid, Option.some.injEq] at hid
      subst hid
      obtain ⟨b, arr, h1, -⟩ := h.ents _ he
      rw [hnone] at h1; cases h1
    | tok => cases hid
    | obj i ok =>
      simp only [Ent.bid, Option.some.injEq] at hid
      subst hid
      obtain ⟨b, o, h1, -⟩ := h.ents _ he
      rw [hnone] at h1; cases h1
  · obtain ⟨v, hv⟩ := h.kc b o hc
    exact ⟨v, (hx.kp b o hc).2.trans hv⟩
  · simp only [Kp.addBox]
    rw [if_neg (by omega)]
    exact hnx j (by omega)
  · rcases List.mem_cons.1 he with rfl | he
    · refine ⟨w.heap.size, arr, by simp [Kp.addBox], fun hf => by have := h.ff _ hf; omega, heap_alloc_new w _, hs, fun j p v hp hv => (hc j p v hp hv).mono hx, fun o hc => by have := h.klt hc; omega⟩
    · have he' := h.ents e he
      exact he'.keep hx (fun b hb => Below.heap_alloc w _ b (he'.lt hb).1) (fun _ _ _ h => h) fun _ _ => rfl
  · have hmap : ∀ e ∈ st, e.block (K.addBox nx w.heap.size) = e.block K := fun e he => by
      cases e with
      | box i U cs =>
        obtain ⟨b, arr, h1, -⟩ := h.ents _ he
        simp only [Ent.block, h1]; exact hkb i b h1
      | tok g E sz n => rfl
      | obj i ok =>
        obtain ⟨b, o, h1, -⟩ := h.ents _ he
        simp only [Ent.block, h1]; exact hkb i b h1
    rw [List.filterMap_cons]
    simp only [Ent.block, Kp.addBox, if_true]
    have e2 : st.filterMap (Ent.block (K.addBox nx w.heap.size)) = st.filterMap (Ent.block K) := filterMap_eq hmap
    simp only [Kp.addBox] at e2
    rw [List.nodup_cons]
    refine ⟨fun hm => ?_, by rw [e2]; exact h.nb⟩
    rw [e2] at hm
    obtain ⟨e, he, hb⟩ := List.mem_filterMap.1 hm
    have := ((h.ents e he).lt hb).1
    omega
  · simpa [List.filterMap_cons, Ent.tid] using h.nt
theorem POp_box {P : Program} {o : Oper} {ρ : Operand → Option PV} {st : St} {R : PV → St → Prop} {T : TypeId} {x : Operand} (ho : o.op = .box T x) {p : PV} (hx : ρ x = some p) (hone : p.ps.all PV.one = true)
    (h : ∀ i, st.freshB i → R (.ptr i 0) (.box i T p.ps :: st)) : POp P o ρ st R := by
  refine POp.of_run fun F K w a h1 h2 => ?_
  obtain ⟨dst, op, ty, pos, after, guard⟩ := o
  simp only at ho h2
  subst ho
  have hv := h2 x (by simp [Op.operands]) _ hx
  obtain ⟨c1, c2, c3⟩ := hv.ps (by simpa using hone)
  obtain ⟨i, hi, hf, hx2, hr2⟩ := h1.newBox (T := T) c1 fun j q u hq hu => c2 j q u hq hu
  refine ⟨.pointer (some ⟨w.heap.size, 0, none⟩), _, _, .ptr i 0, _, ?_, hx2, hr2, .ptr (by simp [Kp.addBox]), h i hf⟩
  simp only [execOp, Instr.box, newVar, newRow, Sem.run_bind, run_newObj, Result.andThen_ok, Sem.run_pure]
  rfl
/-- a type's zero, cell by cell -/
def zeroOf (P : Program) (t : TypeId) : Option (List PV) := ((P.info? t).bind (·.zero)).map fun z => z.cells.toList.map cCell
theorem zeroOf_spec {P : Program} {t : TypeId} {ps : List PV} (h : zeroOf P t = some ps) (w : World) : ∃ z, (zeroValue t).run P w = .ok z w ∧ z.cells.toList.map cCell = ps := by
  unfold zeroOf at h
  obtain ⟨z, hz, rfl⟩ := Option.map_eq_some_iff.1 h
  obtain ⟨i, hi, hz⟩ := Option.bind_eq_some_iff.1 hz
  exact ⟨z, by simp [zeroValue, typeInfo, hi, hz], rfl⟩
theorem zero_rel (K : Kp) (w : World) {cs : Array Value} {ps : List PV} (h : cs.toList.map cCell = ps) : cs.size = ps.length ∧ ∀ (j : Nat) (p : PV) (v : Value), ps[j]? = some p → cs[j]? = some v → RelV K w p v := by
  subst h
  refine ⟨by simp, fun j p v hp hv => ?_⟩
  rw [List.getElem?_map, Array.getElem?_toList, hv] at hp
  simp only [Option.map_some, Option.some.injEq] at hp
  subst hp; exact cCell_ok K w v
theorem POp_alloc {P : Program} {o : Oper} {ρ : Operand → Option PV} {st : St} {R : PV → St → Prop} {T : TypeId} (ho : o.op = .alloc T) {ps : List PV} (hz : zeroOf P T = some ps)
    (h : ∀ i, st.freshB i → R (.ptr i 0) (.box i T ps :: st)) : POp P o ρ st R := by
  refine POp.of_run fun F K w a h1 h2 => ?_
  obtain ⟨dst, op, ty, pos, after, guard⟩ := o
  simp only at ho h2
  subst ho
  obtain ⟨z, hz1, hz2⟩ := zeroOf_spec hz w
  obtain ⟨c1, c2⟩ := zero_rel K w hz2
  obtain ⟨i, hi, hf, hx2, hr2⟩ := h1.newBox (T := T) c1 c2
  refine ⟨.pointer (some ⟨w.heap.size, 0, none⟩), _, _, .ptr i 0, _, ?_, hx2, hr2, .ptr (by simp [Kp.addBox]), h i hf⟩
  simp only [execOp, Instr.alloc, newVar, newRow, Sem.run_bind, hz1, run_newObj, Result.andThen_ok, Sem.run_pure]
  rfl
end Go.Proofs.Ytfnfbbmegdkhjaa

namespace Go.Proofs.Ytfnfbbmegdkhjaa
open Go.RowKit
set_option linter.unusedVariables false
set_option linter.unusedSimpArgs false
/-- cells, one by one -/
def RC (K : Kp) (w : World) (ps : List PV) (arr : Array Value) : Prop := arr.size = ps.length ∧ ∀ (j : Nat) (p : PV) (v : Value), ps[j]? = some p → arr[j]? = some v → RelV K w p v
/-- parts laid into cells -/
def fillO (pl : Nat → Option (Nat × Nat)) (ρ : Operand → Option PV) : List PV → List (Nat × Operand) → Option (List PV)
  | cells, [] => some cells
  | cells, (i, x) :: rest => match pl i, ρ x with
    | some (off, size), some p => if p.ps.length = size ∧ off + size ≤ cells.length ∧ p.ps.all PV.one = true then fillO pl ρ (spl cells off p.ps) rest else none
    | _, _ => none
theorem spl_rel {K : Kp} {w : World} {ps qs : List PV} {arr arr' : Array Value} {vs : List Value} {off : Nat} (h : RC K w ps arr) (hq : vs.length = qs.length) (hv : ∀ (j : Nat) (p : PV) (v : Value), qs[j]? = some p → vs[j]? = some v → RelV K w p v) (hle : off + qs.length ≤ ps.length) (hs : arr'.size = arr.size)
    (ha : ∀ k, arr'[k]? = if off ≤ k ∧ k < off + vs.length ∧ k < arr.size then vs[k - off]? else arr[k]?) : RC K w (spl ps off qs) arr' := by
  refine ⟨by rw [hs, h.1]; simp [spl]; omega, fun j p v hp hj => ?_⟩
  rw [ha j] at hj
  unfold spl at hp
  rw [List.append_assoc, List.getElem?_append] at hp
  simp only [List.length_take] at hp
  rw [show min off ps.length = off by omega] at hp
  have hsz := h.1
  split at hp
  · rename_i hlt
    rw [if_neg (by omega)] at hj
    rw [List.getElem?_take, if_pos hlt] at hp
    exact h.2 j p v hp hj
  · rename_i hlt
    rw [List.getElem?_append] at hp
    split at hp
    · rename_i hlt2
      rw [if_pos ⟨by omega, by omega, by omega⟩] at hj
      exact hv _ p v hp hj
    · rename_i hlt2
      rw [if_neg (by omega)] at hj
      rw [List.getElem?_drop] at hp
      rw [show off + qs.length + (j - off - qs.length) = j by omega] at hp
      exact h.2 j p v hp hj
theorem fill_ok {K : Kp} {w : World} {pl : Nat → Option (Nat × Nat)} {ρ : Operand → Option PV} {ev : Operand → Value} : ∀ {parts : List (Nat × Operand)} {cells cells' : List PV} {arr : Array Value}, (∀ x ∈ parts, ∀ p, ρ x.2 = some p → RelV K w p (ev x.2)) → fillO pl ρ cells parts = some cells' → RC K w cells arr →
    ∃ arr', Instr.fill pl arr (parts.map fun x => (x.1, ev x.2)) = some arr' ∧ RC K w cells' arr' := by
  intro parts
  induction parts with
  | nil =>
    intro cells cells' arr _ h hr
    simp only [fillO, Option.some.injEq] at h
    subst h
    exact ⟨arr, rfl, hr⟩
  | cons x rest ih =>
    intro cells cells' arr hx h hr
    obtain ⟨i, x⟩ := x
    simp only [fillO] at h
    split at h
    · rename_i off size p hpl hp
      split at h
      · rename_i hc
        obtain ⟨h1, h2, h3⟩ := hc
        have hv := hx (i, x) (by simp) p hp
        simp only at hv
        obtain ⟨c1, c2, c3⟩ := hv.ps (by simpa using h3)
        obtain ⟨g1, g2⟩ := Go.Great.foldl_set off (ev x).cells.toList 0 arr
        have hr2 : RC K w (spl cells off p.ps) (((ev x).cells.toList.zipIdx 0).foldl (fun cs (y : Value × Nat) => cs.setIfInBounds (off + y.2) y.1) arr) :=
          spl_rel hr (vs := (ev x).cells.toList) (by simp; omega) (fun j q v hq hv => c2 j q v hq (by simpa using hv)) (by omega) g1 (by intro k; rw [g2 k]; simp)
        obtain ⟨arr', h4, h5⟩ := ih (fun y hy => hx y (by simp [hy])) h hr2
        refine ⟨arr', ?_, h5⟩
        simp only [List.map_cons]
        unfold Instr.fill
        have hsz : (ev x).cells.size = size := by omega
        have hle : ¬ (((ev x).cells.size ≠ size || decide (off + (ev x).cells.size > arr.size)) = true) := by
          have := hr.1
          simp; omega
        simp only [hpl]
        rw [if_neg hle, ← h4, ← Array.foldl_toList, Array.toList_zipIdx]
      · cases h
    · cases h
/-- a struct, an array, out of parts -/
def Jo (P : Program) (ρ : Operand → Option PV) (t : TypeId) (parts : List (Nat × Operand)) : Option PV :=
  match tyOf P t, zeroOf P t with
  | some ⟨_, .struct fs⟩, some z => if fs.all (fun f => f.agg.isSome) = true then (fillO (fun i => (fs[i]?).map fun f => (f.off, f.size)) ρ z parts).map .agg else none
  | some ⟨_, .array _ es ea⟩, some z => if ea.isSome = true then (fillO (fun i => some (i * es, es)) ρ z parts).map .agg else none
  | _, _ => none
theorem info_of_agg {P : Program} {t : TypeId} (h : (aggOf P t).isSome = true) : ∃ i, P.info? t = some i ∧ P.cellsOf t = i.size := by
  unfold aggOf at h
  cases hd : P.underlying t with
  | none => rw [hd] at h; cases h
  | some d =>
    obtain ⟨i, hi⟩ := info_of_under hd
    exact ⟨i, hi, by simp [Program.cellsOf, hi]⟩
theorem places_all {P : Program} : ∀ (fs : List Field), (∀ f ∈ fs, (aggOf P f.type).isSome = true) → fs.mapM (fun f => (P.info? f.type).map fun i => (f.offset, i.size)) = some (fs.map fun f => (f.offset, P.cellsOf f.type)) := by
  intro fs
  induction fs with
  | nil => intro _; rfl
  | cons f fs ih =>
    intro h
    obtain ⟨i, hi, hc⟩ := info_of_agg (h f (by simp))
    simp only [List.mapM_cons, hi, Option.map_some, ih fun g hg => h g (by simp [hg]), List.map_cons, hc]
    rfl
theorem evBuild_run {P : Program} {ρ : Operand → Option PV} {t : TypeId} {parts : Array (Nat × Operand)} {p : PV} (h : Jo P ρ t parts.toList = some p) {K : Kp} {w : World} {ev : Operand → Value} (hops : ∀ x ∈ parts.toList, ∀ q, ρ x.2 = some q → RelV K w q (ev x.2)) :
    ∃ v, (Instr.build t (parts.map fun x => (x.1, ev x.2))).run P w = .ok v w ∧ RelV K w p v := by
  unfold Jo at h
  split at h
  · rename_i sz fs z hT hz
    split at h
    · rename_i hall
      obtain ⟨cells, hf, rfl⟩ := Option.map_eq_some_iff.1 h
      obtain ⟨d, hd, hTe⟩ := tyOf_spec hT
      cases d with
      | struct fields =>
        simp only [tyK, Ty.mk.injEq, TyK.struct.injEq] at hTe
        obtain ⟨rfl, rfl⟩ := hTe
        unfold zeroOf at hz
        obtain ⟨zv, hz1, hz2⟩ := Option.map_eq_some_iff.1 hz
        obtain ⟨it, hit, hz1⟩ := Option.bind_eq_some_iff.1 hz1
        have hrc : RC K w z zv.cells := zero_rel K w hz2
        obtain ⟨arr', h1, h2⟩ := fill_ok (ev := ev) hops hf hrc
        have hb : P.built t (parts.map fun x => (x.1, ev x.2)).toList = some arr' := by
          unfold Program.built
          have hpl := places_all (P := P) fields.toList fun f hf => by
            have := List.all_eq_true.1 hall ⟨f.offset, P.cellsOf f.type, aggOf P f.type⟩ (List.mem_map.2 ⟨f, hf, rfl⟩)
            exact this
          simp only [hit, hd, hz1, hpl, Array.toList_map]
          rw [← h1]
          congr 1
          funext i
          simp
          rfl
        exact ⟨_, run_build w t _ arr' hb, .agg h2.1 h2.2⟩
      | _ => simp [tyK] at hTe
    · cases h
  · rename_i sz n es ea z hT hz
    split at h
    · rename_i hall
      obtain ⟨cells, hf, rfl⟩ := Option.map_eq_some_iff.1 h
      obtain ⟨d, hd, hTe⟩ := tyOf_spec hT
      cases d with
      | array n' e' =>
        simp only [tyK, Ty.mk.injEq, TyK.array.injEq] at hTe
        obtain ⟨rfl, rfl, rfl, rfl⟩ := hTe
        unfold zeroOf at hz
        obtain ⟨zv, hz1, hz2⟩ := Option.map_eq_some_iff.1 hz
        obtain ⟨it, hit, hz1⟩ := Option.bind_eq_some_iff.1 hz1
        have hrc : RC K w z zv.cells := zero_rel K w hz2
        obtain ⟨arr', h1, h2⟩ := fill_ok (ev := ev) hops hf hrc
        obtain ⟨ie, hie, hcs⟩ := info_of_agg hall
        have hb : P.built t (parts.map fun x => (x.1, ev x.2)).toList = some arr' := by
          unfold Program.built
          simp only [hit, hd, hz1, hie, Array.toList_map]
          rw [← h1, hcs]
        exact ⟨_, run_build w t _ arr' hb, .agg h2.1 h2.2⟩
      | _ => simp [tyK] at hTe
    · cases h
  · cases h
/-- what is told without looking at memory of one's own -/
def nev (P : Program) (ρ : Operand → Option PV) : Op → Option PV
  | .build t parts => Jo P ρ t parts.toList
  | op => nevA P ρ op
theorem nev_ok {P : Program} {o : Oper} {ρ : Operand → Option PV} {p : PV} (h : nev P ρ o.op = some p) (st : St) : POp P o ρ st fun q s => q = p ∧ s = st := by
  by_cases hb : ∃ t parts, o.op = .build t parts
  · obtain ⟨t, parts, ho⟩ := hb
    refine POp.of_run fun F K w a h1 h2 => ?_
    obtain ⟨dst, op, ty, pos, after, guard⟩ := o
    simp only at ho h h2
    subst ho
    obtain ⟨v, h3, h4⟩ := evBuild_run (ev := a.eval) h fun x hx q hq => h2 x.2 (by simp only [Op.operands]; exact List.mem_toArray.2 (List.mem_map.2 ⟨x, hx, rfl⟩)) q hq
    refine ⟨v, w, K, p, st, ?_, Ext.refl _ _ _, h1, h4, rfl, rfl⟩
    simp only [execOp, Sem.run_bind]
    rw [h3]; rfl
  · refine nevA_ok ?_ st
    rw [← h]
    unfold nev
    split
    · rename_i t parts ho; exact absurd ⟨t, parts, ho⟩ hb
    · rfl
/-- what reads as data -/
def PV.toD : PV → Option D
  | .d x => some x
  | .nils => some (.sl [])
  | .own _ rows => some (.sl rows)
  | .full rows => some (.sl rows)
  | _ => none
theorem toD_rel {K : Kp} {w : World} {p : PV} {d : D} {v : Value} (hp : p.toD = some d) (h : RelV K w p v) : RelD K.cell w d v := by
  cases h with
  | d h => simp [PV.toD] at hp; subst hp; exact h
  | nils => simp [PV.toD] at hp; subst hp; exact .nil (Nat.zero_le _)
  | own h => simp [PV.toD] at hp; subst hp; exact h
  | full h => simp [PV.toD] at hp; subst hp; exact h
  | _ => simp [PV.toD] at hp
def toDs : List PV → Option (List D)
  | [] => some []
  | p :: r => match p.toD, toDs r with
    | some d, some l => some (d :: l)
    | _, _ => none
theorem toDs_get : ∀ {ps : List PV} {ds : List D}, toDs ps = some ds → ds.length = ps.length ∧ ∀ (j : Nat) (d : D), ds[j]? = some d → ∃ p : PV, ps[j]? = some p ∧ p.toD = some d := by
  intro ps
  induction ps with
  | nil => intro ds h; simp [toDs] at h; subst h; simp
  | cons p r ih =>
    intro ds h
    simp only [toDs] at h
    split at h
    · rename_i d l hd hl
      obtain rfl := Option.some.inj h
      obtain ⟨h1, h2⟩ := ih hl
      refine ⟨by simp [h1], fun j e he => ?_⟩
      cases j with
      | zero => simp at he; subst he; exact ⟨p, rfl, hd⟩
      | succ j => simp at he; obtain ⟨q, hq, hqd⟩ := h2 j e he; exact ⟨q, by simpa using hq, hqd⟩
    · cases h
/-- cells as rows -/
def rowsOf (es : Nat) : Nat → List PV → Option (List (List D))
  | 0, _ => some []
  | n + 1, cells => match toDs (cells.take es), rowsOf es n (cells.drop es) with
    | some row, some l => some (row :: l)
    | _, _ => none
theorem rowsOf_get {es : Nat} : ∀ {n : Nat} {cells : List PV} {rows : List (List D)}, rowsOf es n cells = some rows → n * es ≤ cells.length → rows.length = n ∧ (∀ row ∈ rows, row.length = es) ∧ ∀ (i j : Nat) (row : List D) (d : D), rows[i]? = some row → row[j]? = some d → ∃ p : PV, cells[i * es + j]? = some p ∧ p.toD = some d := by
  intro n
  induction n with
  | zero => intro cells rows h _; simp [rowsOf] at h; subst h; simp
  | succ n ih =>
    intro cells rows h hle
    simp only [rowsOf] at h
    split at h
    · rename_i row l hd hl
      obtain rfl := Option.some.inj h
      obtain ⟨g1, g2⟩ := toDs_get hd
      obtain ⟨h1, h2, h3⟩ := ih hl (by rw [List.length_drop]; rw [Nat.add_mul] at hle; omega)
      rw [Nat.add_mul, Nat.one_mul] at hle
      have hrl : row.length = es := by rw [g1, List.length_take]; omega
      refine ⟨by simp [h1], fun x hx => ?_, fun i j x d hx hj => ?_⟩
      · rcases List.mem_cons.1 hx with rfl | hx
        · exact hrl
        · exact h2 x hx
      · cases i with
        | zero =>
          simp at hx; subst hx
          obtain ⟨p, hp, hpd⟩ := g2 j d hj
          rw [List.getElem?_take] at hp
          split at hp
          · exact ⟨p, by simpa using hp, hpd⟩
          · cases hp
        | succ i =>
          simp at hx
          obtain ⟨p, hp, hpd⟩ := h3 i j x d hx hj
          rw [List.getElem?_drop] at hp
          exact ⟨p, by rw [Nat.add_mul, Nat.one_mul, show i * es + es + j = es + (i * es + j) by omega]; exact hp, hpd⟩
    · cases h
end Go.Proofs.Ytfnfbbmegdkhjaa

namespace Go.Proofs.Ytfnfbbmegdkhjaa
open Go.RowKit
set_option linter.unusedVariables false
set_option linter.unusedSimpArgs false
def Kp.addRow (K : Kp) (b n : Nat) : Kp := ⟨fun c o => K.cell c o ∨ (c = b ∧ o < n), K.box, K.own⟩
def Kp.setOwn (K : Kp) (g : Nat) (u : Value) : Kp := ⟨K.cell, K.box, fun j => if j = g then some u else K.own j⟩
/-- a new block that is kept -/
theorem Rel.newRow {F : Fz} {st : St} {K : Kp} {w w0 : World} (h : Rel F st K w) (arr : Array Value) (E : TypeId) (n : Nat) (hn : n ≤ arr.size) (h0 : w0 = w ∨ w0 = w.drew) :
    Ext F K w (K.addRow w.heap.size n) (w0.alloc (.cells arr E)) ∧ Rel F st (K.addRow w.heap.size n) (w0.alloc (.cells arr E)) := by
  have hheap : (w0.alloc (.cells arr E)).heap = (w.alloc (.cells arr E)).heap := by rcases h0 with rfl | rfl <;> rfl
  have hx0 : Ext F K w (K.addRow w.heap.size n) (w.alloc (.cells arr E)) := ext_alloc F w _ (fun b o hc => ⟨h.klt hc, .inl hc⟩) (fun b o hc => hc.imp id fun h => h.1) (fun _ _ h => h) (fun _ _ h => h) (fun _ _ => rfl) h.ff
  have hcell : ∀ p, (w0.alloc (.cells arr E)).cell? p = (w.alloc (.cells arr E)).cell? p := fun p => by simp only [World.cell?, hheap]
  have hx : Ext F K w (K.addRow w.heap.size n) (w0.alloc (.cells arr E)) := by
    refine ⟨?_, ?_, ?_, by rw [hheap]; exact hx0.size, fun b hb => by rw [hheap]; exact hx0.hp b hb, fun b o hc => by rw [hcell]; exact hx0.kp b o hc, hx0.nk, hx0.kb, hx0.ko, hx0.kf⟩
    all_goals rcases h0 with rfl | rfl <;> rfl
  refine ⟨hx, ⟨fun b o hc => ?_, fun b hb => by rw [hheap]; have := h.ff b hb; simp; omega, h.fin, h.fi, fun e he => ?_, h.nb, h.nt⟩⟩
  · rw [hcell]
    rcases hc with hc | ⟨rfl, ho⟩
    · obtain ⟨v, hv⟩ := h.kc b o hc
      exact ⟨v, (hx0.kp b o hc).2.trans hv⟩
    · rw [cell_of_arr (heap_alloc_new w _)]
      exact ⟨arr[o], Array.getElem?_eq_getElem (by omega)⟩
  · refine (h.ents e he).keep hx (fun b hb => by rw [hheap]; exact Below.heap_alloc w _ b ((h.ents e he).lt hb).1) (fun b o hb hc => ?_) fun _ _ => rfl
    rcases hc with hc | ⟨rfl, ho⟩
    · exact hc
    · have := ((h.ents e he).lt hb).1; omega
/-- a slice that nobody has becomes one's own -/
theorem Rel.newTok {F : Fz} {st : St} {K : Kp} {w : World} (h : Rel F st K w) {u : Value} {E : TypeId} {sz n : Nat} {xs : List Value} (ho : w.ownsRow 0 E sz u n xs) (hs : slen u = n) (hb : ∀ b, u.ownBlock = some b → ¬ F.blk b ∧ (∀ o, K.cell b o → o < n * sz) ∧ ∀ e ∈ st, e.block K ≠ some b) :
    ∃ g, K.own g = none ∧ St.freshT st g ∧ Ext F K w (K.setOwn g u) w ∧ Rel F (.tok g E sz n :: st) (K.setOwn g u) w := by
  obtain ⟨nx, hnx⟩ := h.fin
  have hnone : K.own nx = none := (hnx nx (Nat.le_refl _)).2
  have hko : ∀ j v, K.own j = some v → (K.setOwn nx u).own j = some v := fun j b hj => by
    simp only [Kp.setOwn]
    rw [if_neg (by intro e; subst e; rw [hnone] at hj; cases hj)]; exact hj
  have hfr : St.freshT st nx := fun e he hid => by
    cases e with
    | tok g U sz' n' =>
      simp only [Ent.tid, Option.some.injEq] at hid
      subst hid
      obtain ⟨u', xs', h1, -⟩ := h.ents _ he
      rw [hnone] at h1; cases h1
    | box => cases hid
    | obj => cases hid
  have hx : Ext F K w (K.setOwn nx u) w := ⟨rfl, rfl, rfl, Nat.le_refl _, fun _ _ => rfl, fun _ _ h => ⟨h, rfl⟩, fun _ _ h => .inl h, fun _ _ h => h, fun g v hv => ⟨v, hko g v hv, .inl rfl⟩, fun g hg => by
    have := h.fi g hg
    simp only [Kp.setOwn]
    rw [if_neg (by intro e; subst e; exact this hnone)]⟩
  have hown : ∀ e ∈ st, ∀ g, e.tid = some g → (K.setOwn nx u).own g = K.own g := fun e he g hg => by
    simp only [Kp.setOwn]
    rw [if_neg (by intro e2; subst e2; exact hfr e he hg)]
  refine ⟨nx, hnone, hfr, hx, ⟨h.kc, h.ff, ⟨nx + 1, fun j hj => ?_⟩, fun g hg => ?_, fun e he => ?_, ?_, ?_⟩⟩
  · simp only [Kp.setOwn]
    rw [if_neg (by omega)]
    exact hnx j (by omega)
  · have := h.fi g hg
    rw [hx.kf g hg]; exact this
  · rcases List.mem_cons.1 he with rfl | he
    · exact ⟨u, xs, by simp [Kp.setOwn], fun hf => h.fi _ hf hnone, hs, ho, fun b hub => ⟨(hb b hub).1, (hb b hub).2.1⟩⟩
    · exact (h.ents e he).keep hx (fun _ _ => rfl) (fun _ _ _ h => h) (hown e he)
  · have e2 : st.filterMap (Ent.block (K.setOwn nx u)) = st.filterMap (Ent.block K) := filterMap_eq fun e he => by
      cases e with
      | box i U cs => rfl
      | tok g E sz n => simp only [Ent.block, hown _ he g rfl]
      | obj i ok => rfl
    rw [List.filterMap_cons]
    simp only [Ent.block, Kp.setOwn, if_true, Option.bind_some]
    simp only [Kp.setOwn] at e2
    cases hub : u.ownBlock with
    | none => simp only [e2]; exact h.nb
    | some b =>
      simp only
      rw [List.nodup_cons]
      refine ⟨fun hm => ?_, by rw [e2]; exact h.nb⟩
      rw [e2] at hm
      obtain ⟨e, he, hbe⟩ := List.mem_filterMap.1 hm
      exact (hb b hub).2.2 e he hbe
  · simp only [List.filterMap_cons, Ent.tid]
    rw [List.nodup_cons]
    refine ⟨fun hm => ?_, h.nt⟩
    obtain ⟨e, he, hg⟩ := List.mem_filterMap.1 hm
    exact hfr e he hg
/-- rows that lie in a block -/
theorem rows_mk {K : Nat → Nat → Prop} {w : World} {rows : List (List D)} {b es cap : Nat} {arr : Array Value} {E : TypeId} {fr : Nat × Nat} (hh : w.heap[b]? = some (.cells arr E fr)) (hcap : rows.length ≤ cap) (hm : cap ≤ maxLen) (hl : ∀ row ∈ rows, row.length = es)
    (hr : ∀ (i j : Nat) (row : List D) (d : D), rows[i]? = some row → row[j]? = some d → K b (i * es + j) ∧ ∃ v, arr[i * es + j]? = some v ∧ RelD K w d v) : RelD K w (.sl rows) (.slice (some ⟨b, 0, none⟩) rows.length cap) := by
  refine .sl (sz := es) (fun i j => arr.getD (i * es + j) undef) hcap hm hl (fun i j row d hi hj => ?_) fun i j row d hi hj => ?_
  · obtain ⟨h1, v, h2, h3⟩ := hr i j row d hi hj
    rw [Nat.zero_add]
    refine ⟨h1, ?_⟩
    rw [cell_of_arr hh, Array.getD_eq_getD_getElem?, h2]; rfl
  · obtain ⟨h1, v, h2, h3⟩ := hr i j row d hi hj
    rw [Array.getD_eq_getD_getElem?, h2]; exact h3
def elOf (P : Program) (E : TypeId) : Option (Nat × Nat) :=
  match P.info? E with
  | some i => match i.zero with
    | some z => if z.cells.size = i.size then some (i.size, i.bytes) else none
    | none => none
  | none => none
theorem elOf_spec {P : Program} {E : TypeId} {es bytes : Nat} (h : elOf P E = some (es, bytes)) : ∃ i z, P.info? E = some i ∧ i.zero = some z ∧ i.size = es ∧ i.bytes = bytes ∧ z.cells.size = es := by
  unfold elOf at h
  split at h
  · rename_i i hi
    split at h
    · rename_i z hz
      split at h
      · rename_i hs
        simp only [Option.some.injEq, Prod.mk.injEq] at h
        exact ⟨i, z, hi, hz, h.1, h.2, hs.trans h.1⟩
      · cases h
    · cases h
  · cases h
/-- 'buildSlice' of some elements: data that is kept -/
theorem POp_buildSlice {P : Program} {o : Oper} {ρ : Operand → Option PV} {t : TypeId} {len : Nat} {parts : Array (Nat × Operand)} (ho : o.op = .buildSlice t len parts) {E es bytes : Nat} {ea : Option Bool} {T : Ty} (hT : tyOf P t = some T) (hk : T.k = .slice E es ea) (hE : elOf P E = some (es, bytes)) (h0 : 0 < len * es) (h24 : len * es ≤ 16777216) {cells : List PV} (hf : fillO (fun i => some (i * es, es)) ρ (List.replicate (len * es) .u) parts.toList = some cells) {rows : List (List D)} (hr : rowsOf es len cells = some rows) (st : St) :
    POp P o ρ st fun q s => q = .d (.sl rows) ∧ s = st := by
  refine POp.of_run fun F K w a h1 h2 => ?_
  obtain ⟨dst, op, ty, pos, after, guard⟩ := o
  simp only at ho h2
  subst ho
  obtain ⟨d, hd, rfl⟩ := tyOf_spec hT
  cases d with
  | slice E' =>
    simp only [tyK, TyK.slice.injEq] at hk
    obtain ⟨rfl, hes, rfl⟩ := hk
    obtain ⟨ie, z, hie, hz, hsz, -, hzs⟩ := elOf_spec hE
    have hrc : RC K w (List.replicate (len * es) .u) ((Array.range (len * ie.size)).map (z.cells[· % z.cells.size]!)) := ⟨by simp [hsz], fun j p v hp _ => by
      have := List.mem_of_getElem? hp
      rw [List.mem_replicate] at this
      rw [this.2]; exact .u⟩
    obtain ⟨arr, h3, h4⟩ := fill_ok (ev := a.eval) (fun x hx q hq => h2 x.2 (by simp only [Op.operands]; exact List.mem_toArray.2 (List.mem_map.2 ⟨x, hx, rfl⟩)) q hq) hf hrc
    have hfl : ∀ (parts : List (Nat × Operand)) (cs cs' : List PV), fillO (fun i => some (i * es, es)) ρ cs parts = some cs' → cs'.length = cs.length := by
      intro parts
      induction parts with
      | nil => intro cs cs' h; simp only [fillO, Option.some.injEq] at h; rw [h]
      | cons x rest ih =>
        intro cs cs' h
        obtain ⟨i, x⟩ := x
        simp only [fillO] at h
        split at h
        · rename_i off size p hpl hp
          simp only [Option.some.injEq, Prod.mk.injEq] at hpl
          split at h
          · rename_i hc
            rw [ih _ _ h]; simp [spl]; omega
          · cases h
        · cases h
    have hcl := hfl _ _ _ hf
    rw [List.length_replicate] at hcl
    obtain ⟨r1, r2, r3⟩ := rowsOf_get hr (by omega)
    obtain ⟨hx, hrel⟩ := h1.newRow arr E' (len * es) (by rw [h4.1]; omega) (.inl rfl)
    refine ⟨.slice (some ⟨w.heap.size, 0, none⟩) len len, _, _, .d (.sl rows), st, ?_, hx, hrel, .d ?_, rfl, rfl⟩
    · simp only [execOp, Sem.run_bind]
      rw [run_buildSlice w t E' len _ arr ie z hd hie hz (by rw [hsz]; omega) (by rw [hsz]; omega) (by rw [hsz, Array.toList_map]; rw [hsz] at h3; exact h3)]
      rfl
    · have := rows_mk (K := (K.addRow w.heap.size (len * es)).cell) (w := w.alloc (.cells arr E')) (rows := rows) (cap := len) (es := es) (heap_alloc_new w _) (by omega) (by have : len ≤ len * es := Nat.le_mul_of_pos_right _ (by rcases Nat.eq_zero_or_pos es with h | h; (rw [h] at h0; simp at h0); exact h); unfold maxLen; omega) r2 fun i j row d hi hj => by
        obtain ⟨p, hp, hpd⟩ := r3 i j row d hi hj
        have hlt := (List.getElem?_eq_some_iff.1 hp).1
        have hsz := h4.1
        have hg : arr[i * es + j]? = some arr[i * es + j] := Array.getElem?_eq_getElem (by omega)
        exact ⟨.inr ⟨rfl, by omega⟩, _, hg, (toD_rel hpd (h4.2 _ p _ hp hg)).mono hx.kp⟩
      rw [r1] at this; exact this
  | _ => simp [tyK] at hk
end Go.Proofs.Ytfnfbbmegdkhjaa

namespace Go.Proofs.Ytfnfbbmegdkhjaa
open Go.RowKit
set_option linter.unusedVariables false
set_option linter.unusedSimpArgs false
def Kp.grow (K : Kp) (g : Nat) (u : Value) (n : Nat) : Kp := ⟨fun c o => K.cell c o ∨ (u.ownBlock = some c ∧ o < n), K.box, fun j => if j = g then some u else K.own j⟩
/-- one's own slice is now another one, that is longer -/
theorem Rel.grow {F : Fz} {st : St} {K : Kp} {w w' : World} {g : Nat} {E : TypeId} {sz n n' : Nat} (h : Rel F (.tok g E sz n :: st) K w) {u u' : Value} (hu : K.own g = some u) (os : w'.os = w.os) (tape : w'.tape = w.tape) (out : w'.output = w.output) (size : w.heap.size ≤ w'.heap.size)
    (hk : ∀ k, k < w.heap.size → u'.ownBlock ≠ some k → w'.heap[k]? = w.heap[k]?) (hpre : ∀ b, u'.ownBlock = some b → b < w.heap.size → u.ownBlock = some b ∧ ∀ o, o < n * sz → w'.cell? ⟨b, o, none⟩ = w.cell? ⟨b, o, none⟩)
    {xs' : List Value} (hown : w'.ownsRow 0 E sz u' n' xs') (hs : slen u' = n') (hlt : u' = u ∨ n < n') (hn : n ≤ n') : Ext F K w (K.grow g u' (n' * sz)) w' ∧ Rel F (.tok g E sz n' :: st) (K.grow g u' (n' * sz)) w' := by
  obtain ⟨u0, xs, e1, e2, e3, e4, e5⟩ := h.ents _ (List.mem_cons_self ..)
  rw [hu] at e1
  obtain rfl := Option.some.inj e1
  have hnn : n * sz ≤ n' * sz := Nat.mul_le_mul_right _ hn
  have hF : ∀ b, u'.ownBlock = some b → ¬ F.blk b := fun b hb hf => by
    have hl := h.ff b hf
    exact (e5 b (hpre b hb hl).1).1 hf
  have hx : Ext F K w (K.grow g u' (n' * sz)) w' := by
    refine ⟨os, tape, out, size, fun b hb => hk b (h.ff b hb) fun hub => hF b hub hb, fun b o hc => ⟨.inl hc, ?_⟩, fun b o hc => ?_, fun _ _ h => h, fun j v hj => ?_, fun j hj => ?_⟩
    · by_cases hub : u'.ownBlock = some b
      · obtain ⟨h1, h2⟩ := hpre b hub (h.klt hc)
        exact h2 o ((e5 b h1).2 o hc)
      · exact World.cell?_of_block (w := w) (a := ⟨b, o, none⟩) (hk b (h.klt hc) hub)
    · rcases hc with hc | ⟨hc, _⟩
      · exact .inl hc
      · exact .inr (hF b hc)
    · simp only [Kp.grow]
      by_cases hjg : j = g
      · subst hjg
        rw [hu] at hj
        obtain rfl := Option.some.inj hj
        rw [if_pos rfl]
        refine ⟨u', rfl, ?_⟩
        rcases hlt with h | h
        · exact .inl h
        · exact .inr (by omega)
      · rw [if_neg hjg]; exact ⟨v, hj, .inl rfl⟩
    · simp only [Kp.grow]
      rw [if_neg fun e => e2 (by rw [← e]; exact hj)]
  have hoth : ∀ e ∈ st, ∀ b, e.block K = some b → b < w.heap.size ∧ u'.ownBlock ≠ some b := fun e he b hb => by
    have hl := (h.ents e (List.mem_cons_of_mem _ he)).lt hb
    refine ⟨hl.1, fun hub => ?_⟩
    have h1 := (hpre b hub hl.1).1
    have hnb := h.nb
    rw [List.filterMap_cons] at hnb
    simp only [Ent.block, hu, Option.bind_some, h1] at hnb
    rw [List.nodup_cons] at hnb
    exact hnb.1 (List.mem_filterMap.2 ⟨e, he, hb⟩)
  have hid : ∀ e ∈ st, ∀ j, e.tid = some j → j ≠ g := fun e he j hj e' => by
    have hnt := h.nt
    simp only [List.filterMap_cons, Ent.tid] at hnt
    rw [List.nodup_cons] at hnt
    exact hnt.1 (List.mem_filterMap.2 ⟨e, he, by rw [hj, e']⟩)
  refine ⟨hx, ⟨fun b o hc => ?_, fun b hb => by have := h.ff b hb; omega, ?_, fun j hj => ?_, fun e he => ?_, ?_, ?_⟩⟩
  · rcases hc with hc | ⟨hub, ho⟩
    · obtain ⟨v, hv⟩ := h.kc b o hc
      exact ⟨v, (hx.kp b o hc).2.trans hv⟩
    · rcases hown.2 with ⟨rfl, _⟩ | ⟨b', cap, cur, rfl, _, hh, hle, _, hcs, _⟩
      · cases hub
      · simp only [Value.ownBlock, Option.some.injEq] at hub
        subst hub
        have : n' * sz ≤ cap * sz := Nat.mul_le_mul_right _ hle
        rw [cell_of_arr hh]
        exact ⟨cur[o], Array.getElem?_eq_getElem (by omega)⟩
  · obtain ⟨nx, hnx⟩ := h.fin
    refine ⟨nx, fun j hj => ?_⟩
    have h1 := hnx j hj
    simp only [Kp.grow]
    rw [if_neg (by intro e; subst e; rw [hu] at h1; cases h1.2)]
    exact h1
  · have := h.fi j hj
    rw [hx.kf j hj]; exact this
  · rcases List.mem_cons.1 he with rfl | he
    · refine ⟨u', xs', by simp [Kp.grow], e2, hs, hown, fun b hub => ⟨hF b hub, fun o hc => ?_⟩⟩
      rcases hc with hc | ⟨_, ho⟩
      · have := (e5 b (hpre b hub (h.klt hc)).1).2 o hc
        omega
      · exact ho
    · refine (h.ents e (List.mem_cons_of_mem _ he)).keep hx (fun b hb => hk b (hoth e he b hb).1 (hoth e he b hb).2) (fun b o hb hc => ?_) fun j hj => ?_
      · rcases hc with hc | ⟨hub, _⟩
        · exact hc
        · exact absurd hub (hoth e he b hb).2
      · simp only [Kp.grow]; rw [if_neg (hid e he j hj)]
  · have e6 : st.filterMap (Ent.block (K.grow g u' (n' * sz))) = st.filterMap (Ent.block K) := filterMap_eq fun e he => by
      cases e with
      | box i U cs => rfl
      | tok j E' sz' m' => simp only [Ent.block, Kp.grow]; rw [if_neg (hid _ he j rfl)]
      | obj i ok => rfl
    have hnb := h.nb
    rw [List.filterMap_cons] at hnb ⊢
    simp only [Ent.block, Kp.grow, if_true, Option.bind_some] at hnb ⊢
    simp only [Kp.grow] at e6
    rw [e6]
    have hbase : (st.filterMap (Ent.block K)).Nodup := by
      rw [hu] at hnb
      simp only [Option.bind_some] at hnb
      cases hb : u.ownBlock with
      | none => rw [hb] at hnb; exact hnb
      | some b => rw [hb] at hnb; exact (List.nodup_cons.1 hnb).2
    cases hub : u'.ownBlock with
    | none => exact hbase
    | some b =>
      simp only
      rw [List.nodup_cons]
      refine ⟨fun hm => ?_, hbase⟩
      obtain ⟨e, he, hbe⟩ := List.mem_filterMap.1 hm
      exact (hoth e he b hbe).2 hub
  · have := h.nt
    simp only [List.filterMap_cons, Ent.tid] at this ⊢
    exact this
/-- rows' cells as values, one behind the other -/
def RV (K : Nat → Nat → Prop) (w : World) (es : Nat) (rows : List (List D)) (xs : List Value) : Prop :=
  xs.length = rows.length * es ∧ (∀ row ∈ rows, row.length = es) ∧ ∀ (i j : Nat) (row : List D) (d : D), rows[i]? = some row → row[j]? = some d → ∃ x, xs[i * es + j]? = some x ∧ RelD K w d x
theorem RV.mono {K K' : Nat → Nat → Prop} {w w' : World} (hk : ∀ b o, K b o → K' b o ∧ w'.cell? ⟨b, o, none⟩ = w.cell? ⟨b, o, none⟩) {es : Nat} {rows : List (List D)} {xs : List Value} (h : RV K w es rows xs) : RV K' w' es rows xs :=
  ⟨h.1, h.2.1, fun i j row d hi hj => let ⟨x, h1, h2⟩ := h.2.2 i j row d hi hj; ⟨x, h1, h2.mono hk⟩⟩
theorem RV.append {K : Nat → Nat → Prop} {w : World} {es : Nat} {rows rows' : List (List D)} {xs xs' : List Value} (h : RV K w es rows xs) (h' : RV K w es rows' xs') : RV K w es (rows ++ rows') (xs ++ xs') := by
  refine ⟨by rw [List.length_append, List.length_append, h.1, h'.1, Nat.add_mul], fun row hr => ?_, fun i j row d hi hj => ?_⟩
  · rcases List.mem_append.1 hr with hr | hr
    · exact h.2.1 row hr
    · exact h'.2.1 row hr
  · rw [List.getElem?_append] at hi
    split at hi
    · rename_i hlt
      obtain ⟨x, h1, h2⟩ := h.2.2 i j row d hi hj
      have := (List.getElem?_eq_some_iff.1 h1).1
      exact ⟨x, by rw [List.getElem?_append_left this]; exact h1, h2⟩
    · rename_i hge
      obtain ⟨x, h1, h2⟩ := h'.2.2 _ j row d hi hj
      refine ⟨x, ?_, h2⟩
      have e : i * es + j = xs.length + ((i - rows.length) * es + j) := by
        rw [h.1]
        obtain ⟨k, rfl⟩ : ∃ k, i = rows.length + k := ⟨i - rows.length, by omega⟩
        rw [Nat.add_mul, Nat.add_sub_cancel_left]; omega
      rw [e, List.getElem?_append_right (by omega), Nat.add_sub_cancel_left]
      exact h1
theorem RV.ones {K : Nat → Nat → Prop} {w : World} {es : Nat} {rows : List (List D)} {xs : List Value} (h : RV K w es rows xs) (hes : 0 < es) : ∀ u ∈ xs, u.oneCell' = true := by
  intro u hu
  obtain ⟨k, hk, rfl⟩ := List.mem_iff_getElem.1 hu
  have hk' := hk
  rw [h.1] at hk'
  have hi : k / es < rows.length := (Nat.div_lt_iff_lt_mul hes).2 hk'
  have hrow := h.2.1 rows[k / es] (List.getElem_mem hi)
  have hj : k % es < rows[k / es].length := by rw [hrow]; exact Nat.mod_lt _ hes
  obtain ⟨x, h1, h2⟩ := h.2.2 (k / es) (k % es) _ _ (List.getElem?_eq_getElem hi) (List.getElem?_eq_getElem hj)
  have e : k / es * es + k % es = k := by rw [Nat.mul_comm]; exact Nat.div_add_mod k es
  rw [e, List.getElem?_eq_getElem hk] at h1
  rw [Option.some.inj h1]; exact h2.one
/-- data that an owned row holds -/
theorem RV.rel {K : Nat → Nat → Prop} {w : World} {es n : Nat} {rows : List (List D)} {xs : List Value} (h : RV K w es rows xs) {E : TypeId} {u : Value} (ho : w.ownsRow 0 E es u n xs) (hn : n = rows.length) (hk : ∀ b, u.ownBlock = some b → ∀ o, o < n * es → K b o) : RelD K w (.sl rows) u := by
  rcases ho.2 with ⟨rfl, h0⟩ | ⟨b, cap, cur, rfl, _, hh, hle, hm, hcs, htake⟩
  · have : rows = [] := List.eq_nil_of_length_eq_zero (by omega)
    subst this
    exact .nil (Nat.zero_le _)
  · subst hn
    refine rows_mk (es := es) hh hle hm h.2.1 fun i j row d hi hj => ?_
    obtain ⟨x, h1, h2⟩ := h.2.2 i j row d hi hj
    have hlt := (List.getElem?_eq_some_iff.1 h1).1
    rw [h.1] at hlt
    refine ⟨hk b rfl _ hlt, x, ?_, h2⟩
    rw [← htake, List.getElem?_take, if_pos hlt] at h1
    simpa using h1
theorem RelD.rv {K : Nat → Nat → Prop} {w : World} {rows : List (List D)} {v : Value} (h : RelD K w (.sl rows) v) {es : Nat} (hes : 0 < es) (hl : ∀ row ∈ rows, row.length = es) : ∃ xs, RV K w es rows xs ∧ ∃ a cap, v = .slice a rows.length cap ∧ ∀ ad, a = some ad → ∀ (j : Nat) (u : Value), xs[j]? = some u → w.cell? (ad.add j) = some u ∧ (rows ≠ [] → K ad.block (ad.off + j) ∧ ad.spot = none) := by
  cases h with
  | @nil a cap hm => exact ⟨[], ⟨by simp, by simp, by simp⟩, a, cap, rfl, fun ad _ j u hu => by simp at hu⟩
  | @sl sz _ b off cap vals h1 h2 h3 h4 h5 =>
    by_cases hne : rows = []
    · subst hne
      exact ⟨[], ⟨by simp, by simp, by simp⟩, _, cap, rfl, fun ad _ j u hu => by simp at hu⟩
    · have hsz : sz = es := by
        obtain ⟨r, hr⟩ := List.exists_mem_of_ne_nil rows hne
        rw [← h3 r hr, hl r hr]
      subst hsz
      refine ⟨(List.range (rows.length * sz)).map fun k => vals (k / sz) (k % sz), ⟨by simp, h3, fun i j row d hi hj => ?_⟩, some ⟨b, off, none⟩, cap, rfl, fun ad had j u hu => ?_⟩
      · have hil := (List.getElem?_eq_some_iff.1 hi).1
        have hjl := (List.getElem?_eq_some_iff.1 hj).1
        rw [h3 row (List.mem_of_getElem? hi)] at hjl
        have hlt : i * sz + j < rows.length * sz := by
          have : (i + 1) * sz ≤ rows.length * sz := Nat.mul_le_mul_right _ hil
          rw [Nat.add_mul] at this; omega
        refine ⟨vals i j, ?_, h5 i j row d hi hj⟩
        rw [List.getElem?_map, List.getElem?_range hlt, Option.map_some]
        rw [show i * sz + j = j + i * sz by omega, Nat.add_mul_div_right _ _ hes, Nat.add_mul_mod_self_right, Nat.div_eq_of_lt hjl, Nat.mod_eq_of_lt hjl, Nat.zero_add]
      · obtain rfl := Option.some.inj had
        have hj := (List.getElem?_eq_some_iff.1 hu).1
        simp only [List.length_map, List.length_range] at hj
        rw [List.getElem?_map, List.getElem?_range hj, Option.map_some, Option.some.injEq] at hu
        have hi : j / sz < rows.length := (Nat.div_lt_iff_lt_mul hes).2 hj
        have hjm : j % sz < rows[j / sz].length := by rw [h3 _ (List.getElem_mem hi)]; exact Nat.mod_lt _ hes
        have := h4 (j / sz) (j % sz) _ _ (List.getElem?_eq_getElem hi) (List.getElem?_eq_getElem hjm)
        have e : off + j / sz * sz + j % sz = off + j := by
          have := Nat.div_add_mod j sz
          rw [Nat.mul_comm] at this; omega
        rw [e] at this
        rw [addr_plus, ← hu]
        exact ⟨this.2, fun _ => ⟨this.1, rfl⟩⟩
end Go.Proofs.Ytfnfbbmegdkhjaa

namespace Go.Proofs.Ytfnfbbmegdkhjaa
open Go.RowKit
set_option linter.unusedVariables false
set_option linter.unusedSimpArgs false
/-- what stands behind: a slice, or a text's bytes -/
def Src (P : Program) (w : World) (es : Nat) (x : Value) (m : Nat) (news : List Value) : Prop :=
  (Builtin.lenOf x).run P w = .ok m w ∧ ∀ w', w'.heap = w.heap → (Builtin.firstCells es m x).run P w' = .ok news.toArray w'
/-- 'append' of something: in place, or in a new block -/
theorem run_append_two {P : Program} (w : World) (t xt ty e : TypeId) {i : TypeInfo} {z : Value} {es bytes : Nat} (ht : P.underlying t = some (.slice e)) {dx : TypeDesc} (hxt : P.underlying xt = some dx) (hnz : ∀ k, dx ≠ .int k) (hi : P.info? e = some i) (hz : i.zero = some z) (hsize : i.size = es) (hby : i.bytes = bytes) (hzs : z.cells.size = es)
    {v : Value} {n : Nat} {xs : List Value} (hown : w.ownsRow 0 e es v n xs) {x : Value} {m : Nat} {news : List Value} (hsrc : Src P w es x m news) (hl : news.length = m * es) (h1 : ∀ u ∈ news, u.oneCell' = true) (h63 : n + m ≤ maxLen) (hbytes : (n + m) * bytes ≤ 140737488355328) :
    ∃ v' w', (Builtin.append_ #[t, xt] ty #[v, x]).run P w = .ok v' w' ∧ w'.ownsRow 0 e es v' (n + m) (xs ++ news) ∧ slen v' = n + m ∧ (v' = v ∨ n < n + m) ∧ w'.os = w.os ∧ w'.tape = w.tape ∧ w'.output = w.output ∧ w.heap.size ≤ w'.heap.size ∧
      (∀ k, k < w.heap.size → v'.ownBlock ≠ some k → w'.heap[k]? = w.heap[k]?) ∧ (∀ b, v'.ownBlock = some b → b < w.heap.size → v.ownBlock = some b ∧ ∀ o, o < n * es → w'.cell? ⟨b, o, none⟩ = w.cell? ⟨b, o, none⟩) := by
  obtain ⟨hs1, hs2⟩ := hsrc
  subst hsize
  subst hby
  have hsmall : n + m ≤ 9223372036854775807 := by simp only [maxLen] at h63; omega
  have hlen : (xs ++ news).length = (n + m) * i.size := by rw [List.length_append, hown.1, hl, Nat.add_mul]
  have hzero : (match dx with | .int _ => true | _ => false) = false := by cases dx <;> first | rfl | exact absurd rfl (hnz _)
  have hfw := hs2 w rfl
  have hfd := hs2 w.drew rfl
  -- a new block
  have grown : ∀ (old : Nat), old < n + m → 
      (w.drew.alloc (.cells (xs.toArray ++ news.toArray ++ Builtin.zeroCells z.cells (grownCap w (n + m) old e - (n + m))) e)).ownsRow 0 e i.size
        (.slice (some ⟨w.heap.size, 0, none⟩) (n + m) (grownCap w (n + m) old e)) (n + m) (xs ++ news) := by
    intro old ho
    have hge := grownCap_ge w (n + m) old e
    have hcm : grownCap w (n + m) old e ≤ maxLen := grownCap_le_maxLen w (n + m) old e h63
    refine ⟨hlen, .inr ⟨w.heap.size, _, _, rfl, Nat.zero_le _, heap_alloc_new w.drew _, hge, hcm, ?_, ?_⟩⟩
    · simp only [Array.size_append, List.size_toArray, size_zeroCells, hzs, hown.1, hl, ← Nat.add_mul]
      congr 1
      omega
    · simp only [Array.toList_append, List.append_assoc]
      rw [← List.append_assoc, ← hlen]
      exact List.take_left
  rcases hown.2 with ⟨rfl, rfl⟩ | ⟨g, cap, cur, rfl, -, hg, hnc, hcm, hcs, htake⟩
  · have hx : xs = [] := List.eq_nil_of_length_eq_zero (by simpa using hown.1)
    subst hx
    by_cases hm : m = 0
    · subst hm
      have hn : news = [] := List.eq_nil_of_length_eq_zero (by simpa using hl)
      subst hn
      refine ⟨.slice none 0 0, w, ?_, World.ownsRow_nil w 0 e i.size, rfl, .inl rfl, rfl, rfl, rfl, Nat.le_refl _, fun _ _ _ => rfl, fun b hb => by cases hb⟩
      simp [Builtin.append_, run_underlying ht, run_underlying hxt, sizeOf, typeInfo, hi, hzero, hs1, hfw]
    · have hb := hbytes
      simp only [Nat.zero_add] at hb hsmall
      have h63' : ¬ (9223372036854775807 < (m : Int)) := by omega
      have h48' : ¬ (281474976710656 < Builtin.nextslicecap m 0 * i.bytes) := by rw [nextslicecap_zero (by omega)]; omega
      have hgr := grown 0 (by omega)
      simp only [Nat.zero_add, List.nil_append, Array.empty_append] at hgr ⊢
      refine ⟨_, _, ?_, hgr, rfl, .inr (by omega), rfl, rfl, rfl, by simp, fun k hk _ => Below.heap_alloc w.drew _ k hk, fun b hb hlt => by simp [Value.ownBlock] at hb; omega⟩
      simp [Builtin.append_, run_underlying ht, run_underlying hxt, sizeOf, typeInfo, zeroValue, hi, hz, hzero, hs1, hm, h63', h48', Question.forced, run_firstCells_none, hfd, newRow, grownCap]
  · by_cases hroom : n + m ≤ cap
    · have hfit : n * i.size + news.length ≤ cur.size := by rw [hl, hcs, ← Nat.add_mul]; exact Nat.mul_le_mul_right _ hroom
      have hst := run_storeCells_at P g (n * i.size) e news 0 cur w hg (by simpa using hfit) h1
      simp only [Nat.add_zero] at hst
      have hheap := setRow_heap w g cur (cur.toList.take (n * i.size) ++ news ++ cur.toList.drop (n * i.size + news.length)).toArray e _ hg
      refine ⟨.slice (some ⟨g, 0, none⟩) (n + m) cap, w.setRow g (cur.toList.take (n * i.size) ++ news ++ cur.toList.drop (n * i.size + news.length)).toArray, ?_, ⟨hlen, .inr ⟨g, cap, _, rfl, Nat.zero_le _, hheap, hroom, hcm, ?_, ?_⟩⟩, rfl, ?_, rfl, rfl, rfl, by simp [World.setRow], fun k _ hk => setRow_other w g k _ (fun e => hk (by simp [Value.ownBlock, e])), fun b hb _ => ⟨hb, fun o ho => ?_⟩⟩
      · simp [Builtin.append_, run_underlying ht, run_underlying hxt, sizeOf, typeInfo, hi, hzero, hs1, hroom, hfw, Addr.add_lit, hst]
      · simp only [List.size_toArray, List.length_append, List.length_take, List.length_drop, Array.length_toList]
        omega
      · rw [htake, ← hlen]
        exact List.take_left
      · by_cases hm : m = 0
        · subst hm; exact .inl (by simp)
        · exact .inr (by omega)
      · simp only [Value.ownBlock, Option.some.injEq] at hb
        subst hb
        rw [cell_of_arr hheap, cell_of_arr hg]
        have : o < cur.size := by omega
        simp only [List.getElem?_toArray, List.append_assoc]
        rw [List.getElem?_append_left (by simp; omega), List.getElem?_take, if_pos ho]
        simp
    · have holds : ∀ j u, xs[j]? = some u → w.cell? ((⟨g, 0, none⟩ : Addr).add j) = some u := hown.cells (g := g) rfl
      have hn : ¬ (n + m ≤ cap) := hroom
      have h63' : ¬ (9223372036854775807 < ((n : Int) + (m : Int))) := by omega
      have h48' : ¬ (281474976710656 < Builtin.nextslicecap (n + m) cap * i.bytes) := by have := growslice_fits (old := cap) (by omega) hbytes; omega
      have hfo := run_firstCells_some (P := P) w.drew i.size n ⟨g, 0, none⟩ n cap xs hown.1 (by simpa using holds)
      have hgr := grown cap (by omega)
      refine ⟨_, _, ?_, hgr, rfl, .inr (by omega), rfl, rfl, rfl, by simp, fun k hk _ => Below.heap_alloc w.drew _ k hk, fun b hb hlt => by simp [Value.ownBlock] at hb; omega⟩
      simp [Builtin.append_, run_underlying ht, run_underlying hxt, sizeOf, typeInfo, zeroValue, hi, hz, hzero, hs1, hn, h63', h48', Question.forced, hfo, hfd, newRow, grownCap]
      congr 2
      apply Array.ext'
      simp [List.append_assoc]
/-- the rows that stand behind -/
def PV.src : PV → Option (List (List D))
  | .d (.v (.string s)) => some (s.toList.map fun c => [.v (.int .u8 c.toNat)])
  | p => p.rows
def srcKind (T : Option TyK) : Bool :=
  match T with
  | some (.slice ..) => true
  | some .str => true
  | _ => false
theorem src_of {P : Program} {K : Kp} {w : World} {p : PV} {rows : List (List D)} {v : Value} (hp : p.src = some rows) (h : RelV K w p v) {es : Nat} (hes : 0 < es) (hl : ∀ row ∈ rows, row.length = es) : ∃ news, RV K.cell w es rows news ∧ Src P w es v rows.length news := by
  have slc : p.rows = some rows → ∃ news, RV K.cell w es rows news ∧ Src P w es v rows.length news := by
    intro hr
    obtain ⟨xs, h1, a, cap, rfl, h2⟩ := (rows_rel hr h).rv hes hl
    refine ⟨xs, h1, rfl, fun w' hw' => ?_⟩
    cases a with
    | none =>
      cases hrows : rows with
      | nil =>
        subst hrows
        have : xs = [] := List.eq_nil_of_length_eq_zero (by rw [h1.1]; simp)
        subst this; simp [Builtin.firstCells]
      | cons r rs =>
        exfalso
        have h3 := rows_rel hr h
        subst hrows
        cases h3
    | some ad =>
      refine run_firstCells_some w' es rows.length ad rows.length cap xs h1.1 fun j u hu => ?_
      have := (h2 ad rfl j u hu).1
      simp only [World.cell?, hw'] at this ⊢; exact this
  unfold PV.src at hp
  split at hp
  · rename_i s
    obtain ⟨rfl, hok⟩ := h.flat
    obtain rfl := Option.some.inj hp
    have hsl : s.toList.length = s.size := by
      rw [ByteArray.toList_eq]; simp
    by_cases hs0 : s.toList = []
    · refine ⟨[], ⟨by simp [hs0], by simp [hs0], by simp [hs0]⟩, by simp [Builtin.lenOf, hsl], fun w' _ => ?_⟩
      have : s.size = 0 := by rw [← hsl, hs0]; rfl
      simp [Builtin.firstCells, hs0]
    · have h1e : es = 1 := by
        obtain ⟨c, hc⟩ := List.exists_mem_of_ne_nil _ hs0
        exact (hl [.v (.int .u8 c.toNat)] (List.mem_map.2 ⟨c, hc, rfl⟩)).symm
      subst h1e
      refine ⟨s.toList.map fun c => .int .u8 c.toNat, ⟨by simp, hl, fun i j row d hi hj => ?_⟩, by simp [Builtin.lenOf, hsl], fun w' _ => ?_⟩
      · rw [List.getElem?_map] at hi
        obtain ⟨c, hc, rfl⟩ := Option.map_eq_some_iff.1 hi
        have : j = 0 := by have := (List.getElem?_eq_some_iff.1 hj).1; simp at this; omega
        subst this
        simp at hj
        subst hj
        exact ⟨.int .u8 c.toNat, by simp [hc], .v trivial⟩
      · simp only [Builtin.firstCells, Sem.run_pure, List.length_map, hsl]
        congr 1
        apply Array.ext'
        rw [ByteArray.toList_eq]
        have : s.extract 0 s.size = s := by apply ByteArray.ext; simp
        rw [this]; simp
  · exact slc hp
/-- 'append' to a slice of one's own -/
theorem POp_append {P : Program} {o : Oper} {ρ : Operand → Option PV} {st : St} {R : PV → St → Prop} {s x : Operand} {t xt : TypeId} (ho : o.op = .call { callee := .builtin .append, args := #[s, x], argTypes := #[t, xt] }) {g : Nat} {rows : List (List D)} (hs : ρ s = some (.own g rows)) {p : PV} (hx : ρ x = some p) {rows' : List (List D)} (hp : p.src = some rows')
    {T : Ty} (hT : tyOf P t = some T) {E es bytes : Nat} {ea : Option Bool} (hk : T.k = .slice E es ea) (hX : srcKind ((tyOf P xt).map (·.k)) = true) (hE : elOf P E = some (es, bytes)) (hes : 0 < es) (hl0 : ∀ row ∈ rows, row.length = es) (hl : ∀ row ∈ rows', row.length = es) (htok : st.tok? g = some (E, es, rows.length)) (h63 : rows.length + rows'.length ≤ maxLen) (hb : (rows.length + rows'.length) * bytes ≤ 140737488355328)
    (h : R (.own g (rows ++ rows')) (st.setTok g (rows.length + rows'.length))) : POp P o ρ st R := by
  refine POp.of_run fun F K w a h1 h2 => ?_
  obtain ⟨dst, op, ty, pos, after, guard⟩ := o
  simp only at ho h2
  subst ho
  obtain ⟨l, r, rfl, hset⟩ := St.tok?_split htok
  rw [hset] at h
  obtain ⟨d, hd, rfl⟩ := tyOf_spec hT
  have hr := h2 s (by simp [Op.operands, Call.operands]) _ hs
  have hv := h2 x (by simp [Op.operands, Call.operands]) _ hx
  cases d with
  | slice E' =>
    simp only [tyK, TyK.slice.injEq] at hk
    obtain ⟨rfl, hes', rfl⟩ := hk
    obtain ⟨ie, z, hie, hz, hsz, hby, hzs⟩ := elOf_spec hE
    obtain ⟨dx, hdx, hnz⟩ : ∃ dx, P.underlying xt = some dx ∧ ∀ k, dx ≠ .int k := by
      unfold tyOf at hX
      cases hq : P.underlying xt with
      | none => rw [hq] at hX; cases hX
      | some dx =>
        rw [hq] at hX
        refine ⟨dx, rfl, fun k e => ?_⟩
        subst e
        simp [srcKind, tyK] at hX
    obtain ⟨u, xs, e1, e2, e3, e4, e5⟩ := h1.ents (.tok g E' es rows.length) (by simp)
    generalize hva : a.eval s = va at hr
    cases hr with
    | own hrd hru hle heq =>
    rw [e1] at hru
    obtain rfl := Option.some.inj hru
    obtain rfl := heq e3.symm
    obtain ⟨news, hnews, hsrc⟩ := src_of (P := P) hp hv hes hl
    have hbk : ∀ b, va.ownBlock = some b → ∀ o, o < rows.length * es → K.cell b o → True := fun _ _ _ _ _ => trivial
    obtain ⟨v', w', hrun, hown', hsl, hlt, os, tape, out, size, hk1, hk2⟩ := run_append_two (P := P) w t xt ty E' hd hdx hnz hie hz hsz hby hzs e4 hsrc hnews.1 (hnews.ones hes) h63 hb
    have hperm : (l ++ .tok g E' es rows.length :: r).Perm (.tok g E' es rows.length :: (l ++ r)) := List.perm_middle
    obtain ⟨hx2, hrel⟩ := (h1.perm hperm).grow e1 os tape out size hk1 hk2 hown' hsl (by rcases hlt with h | h; exact .inl h; exact .inr h) (by omega)
    -- the rows that were there, as values
    have hold : RV K.cell w es rows xs := by
      by_cases hne : rows = []
      · subst hne
        have : xs = [] := List.eq_nil_of_length_eq_zero (by rw [e4.1]; simp)
        subst this
        exact ⟨by simp, by simp, by simp⟩
      · rcases e4.2 with ⟨rfl, h0⟩ | ⟨b, cap, cur, rfl, _, hh, hle2, hm, hcs, htake⟩
        · exact absurd (List.eq_nil_of_length_eq_zero h0) hne
        · cases hrd with
          | nil => exact absurd rfl hne
          | @sl sz _ b' off' cap' vals q1 q2 q3 q4 q5 =>
            have hszb : ∀ (i j : Nat) (row : List D) (dd : D), rows[i]? = some row → row[j]? = some dd → K.cell b (0 + i * sz + j) ∧ w.cell? ⟨b, 0 + i * sz + j, none⟩ = some (vals i j) := q4
            have hsze : sz = es := by
              obtain ⟨r, hr⟩ := List.exists_mem_of_ne_nil rows hne
              rw [← q3 r hr, hl0 r hr]
            subst hsze
            refine ⟨e4.1, q3, fun i j row dd hi hj => ⟨vals i j, ?_, q5 i j row dd hi hj⟩⟩
            have h7 := hszb i j row dd hi hj
            rw [Nat.zero_add] at h7
            have hlt2 := (e5 b rfl).2 _ h7.1
            have h8 := h7.2
            rw [cell_of_arr hh] at h8
            rw [← htake, List.getElem?_take, if_pos hlt2]
            simpa using h8
    refine ⟨v', w', _, .own g (rows ++ rows'), _, ?_, hx2, hrel.perm ?_, ?_, h⟩
    · simp only [execOp, resolve, invoke, builtin, Sem.run_bind, Sem.run_pure, Result.andThen_ok, List.map_toArray, List.map_cons, List.map_nil, hva, hrun]
    · exact List.perm_middle.symm
    · refine .own ?_ (by simp [Kp.grow]) (by rw [List.length_append]; omega) fun _ => rfl
      refine ((hold.mono hx2.kp).append (hnews.mono hx2.kp)).rel hown' (by rw [List.length_append]) fun b hb o ho => .inr ⟨hb, ho⟩
  | _ => simp [tyK] at hk
end Go.Proofs.Ytfnfbbmegdkhjaa

namespace Go.Proofs.Ytfnfbbmegdkhjaa
open Go.RowKit
set_option linter.unusedVariables false
set_option linter.unusedSimpArgs false
/-- told with less -/
def Leq (p q : PV) : Prop := ∀ K w v, RelV K w p v → RelV K w q v
theorem Leq.refl (p : PV) : Leq p p := fun _ _ _ h => h
def PV.norm0 : PV → PV
  | .own _ rows => .d (.sl rows)
  | .nils => .d (.sl [])
  | .full rows => .d (.sl rows)
  | p => p
def PV.norm1 : PV → PV
  | .agg ps => .agg (ps.map PV.norm0)
  | p => p.norm0
def PV.norm2 : PV → PV
  | .tup ps => .tup (ps.map PV.norm1)
  | p => p.norm1
theorem leq_norm0 (p : PV) : Leq p p.norm0 := by
  intro K w v h
  cases h with
  | own h => exact .d h
  | nils => exact .d (.nil (Nat.zero_le _))
  | full h => exact .d h
  | d h => exact .d h
  | u => exact .u
  | ptr h => exact .ptr h
  | eptr vals h1 h2 => exact .eptr vals h1 h2
  | agg h1 h2 => exact .agg h1 h2
  | tup h1 h2 => exact .tup h1 h2
  | fn h1 h2 h3 h4 => exact .fn h1 h2 h3 h4
  | mp h => exact .mp h
  | bsl h h1 h2 => exact .bsl h h1 h2
theorem leq_norm1 (p : PV) : Leq p p.norm1 := by
  cases p with
  | agg ps =>
    intro K w v h
    cases h with
    | agg h1 h2 =>
      refine .agg (by simpa using h1) fun i p v hp hv => ?_
      rw [List.getElem?_map] at hp
      obtain ⟨q, hq, rfl⟩ := Option.map_eq_some_iff.1 hp
      exact leq_norm0 q _ _ _ (h2 i q v hq hv)
  | _ => exact leq_norm0 _
theorem leq_norm2 (p : PV) : Leq p p.norm2 := by
  cases p with
  | tup ps =>
    intro K w v h
    cases h with
    | tup h1 h2 =>
      refine .tup (by simpa using h1) fun i p v hp hv => ?_
      rw [List.getElem?_map] at hp
      obtain ⟨q, hq, rfl⟩ := Option.map_eq_some_iff.1 hp
      exact leq_norm1 q _ _ _ (h2 i q v hq hv)
  | _ => exact leq_norm1 _
theorem EntOk.refr {F F' : Fz} {K : Kp} {w : World} {e : Ent} (hb : ∀ b, e.block K = some b → ¬ F'.blk b) (hg : ∀ g, e.tid = some g → ¬ F'.id g) (h : EntOk F K w e) : EntOk F' K w e := by
  cases e with
  | box i T cs =>
    obtain ⟨b, arr, h1, h2, h3⟩ := h
    exact ⟨b, arr, h1, hb b h1, h3⟩
  | tok g E sz n =>
    obtain ⟨u, xs, h1, h2, h3, h4, h5⟩ := h
    exact ⟨u, xs, h1, hg g rfl, h3, h4, fun b hu => ⟨hb b (by simp [Ent.block, h1, hu]), (h5 b hu).2⟩⟩
  | obj i ok =>
    obtain ⟨b, o, h1, h2, h3⟩ := h
    exact ⟨b, o, h1, hb b h1, h3⟩
theorem EntOk.fr {F : Fz} {K : Kp} {w : World} {e : Ent} (h : EntOk F K w e) : (∀ b, e.block K = some b → ¬ F.blk b) ∧ (∀ g, e.tid = some g → ¬ F.id g) := by
  refine ⟨fun b hb => (h.lt hb).2, fun g hg => ?_⟩
  cases e with
  | box => cases hg
  | obj => cases hg
  | tok j E sz n =>
    simp only [Ent.tid, Option.some.injEq] at hg
    subst hg
    obtain ⟨u, xs, h1, h2, -⟩ := h
    exact h2
/-- what a call does not have stays -/
theorem PCalls.frame {P : Program} {f : FuncId} {args : List PV} {st0 : St} {R : PV → St → Prop} (h : PCalls P f args st0 R) (st1 : St) : PCalls P f args (st0 ++ st1) fun p s => ∃ s0, s = s0 ++ st1 ∧ R p s0 := by
  intro F K w vs h1 h2
  have hlt : ∀ e ∈ st1, ∀ b, e.block K = some b → b < w.heap.size := fun e he b hb => ((h1.ents e (List.mem_append_right _ he)).lt hb).1
  have hnb := h1.nb
  rw [List.filterMap_append, List.nodup_append] at hnb
  have hnt := h1.nt
  rw [List.filterMap_append, List.nodup_append] at hnt
  have hr0 : Rel ⟨fun b => F.blk b ∨ ∃ e ∈ st1, e.block K = some b, fun g => F.id g ∨ ∃ e ∈ st1, e.tid = some g⟩ st0 K w := by
    refine ⟨h1.kc, fun b hb => ?_, h1.fin, fun g hg => ?_, fun e he => ?_, hnb.1, hnt.1⟩
    · rcases hb with hb | ⟨e, he, hb⟩
      · exact h1.ff b hb
      · exact hlt e he b hb
    · rcases hg with hg | ⟨e, he, hg⟩
      · exact h1.fi g hg
      · have hok := h1.ents e (List.mem_append_right _ he)
        cases e with
        | box => cases hg
        | obj => cases hg
        | tok j E sz n =>
          simp only [Ent.tid, Option.some.injEq] at hg
          subst hg
          obtain ⟨u, xs, e1, -⟩ := hok
          rw [e1]; simp
    · have hok := h1.ents e (List.mem_append_left _ he)
      refine hok.refr (fun b hb hf => ?_) fun g hg hf => ?_
      · rcases hf with hf | ⟨e', he', hb'⟩
        · exact hok.fr.1 b hb hf
        · exact hnb.2.2 b (List.mem_filterMap.2 ⟨e, he, hb⟩) b (List.mem_filterMap.2 ⟨e', he', hb'⟩) rfl
      · rcases hf with hf | ⟨e', he', hg'⟩
        · exact hok.fr.2 g hg hf
        · exact hnt.2.2 g (List.mem_filterMap.2 ⟨e, he, hg⟩) g (List.mem_filterMap.2 ⟨e', he', hg'⟩) rfl
  refine (h _ K w vs hr0 h2).mono ?_
  rintro e w' ⟨v, K', p, s0, rfl, hx, hr, hv, hR⟩
  have hb1 : ∀ e ∈ st1, e.block K' = e.block K := fun e he => by
    have hok := h1.ents e (List.mem_append_right _ he)
    cases e with
    | box i T cs =>
      obtain ⟨b, arr, e1, -⟩ := hok
      simp only [Ent.block, e1]; exact hx.kb i b e1
    | tok g E sz n =>
      simp only [Ent.block]
      rw [hx.kf g (.inr ⟨_, he, rfl⟩)]
    | obj i ok =>
      obtain ⟨b, o, e1, -⟩ := hok
      simp only [Ent.block, e1]; exact hx.kb i b e1
  have hxF : Ext F K w K' w' := ⟨hx.os, hx.tape, hx.output, hx.size, fun b hb => hx.hp b (.inl hb), hx.kp, fun b o hc => (hx.nk b o hc).imp id fun h hf => h (.inl hf), hx.kb, hx.ko, fun g hg => hx.kf g (.inl hg)⟩
  refine ⟨v, K', p, s0 ++ st1, rfl, hxF, ⟨hr.kc, fun b hb => hr.ff b (.inl hb), hr.fin, fun g hg => hr.fi g (.inl hg), fun e he => ?_, ?_, ?_⟩, hv, s0, rfl, hR⟩
  · rcases List.mem_append.1 he with he | he
    · have hok := hr.ents e he
      exact hok.refr (fun b hb hf => hok.fr.1 b hb (.inl hf)) fun g hg hf => hok.fr.2 g hg (.inl hf)
    · have hok := h1.ents e (List.mem_append_right _ he)
      refine hok.keep hxF (fun b hb => hx.hp b (.inr ⟨e, he, hb⟩)) (fun b o hb hc => ?_) fun g hg => hx.kf g (.inr ⟨e, he, hg⟩)
      rcases hx.nk b o hc with h | h
      · exact h
      · exact absurd (.inr ⟨e, he, hb⟩) h
  · rw [List.filterMap_append, List.nodup_append, filterMap_eq hb1]
    refine ⟨hr.nb, hnb.2.1, fun b hb b' hb' e => ?_⟩
    subst e
    obtain ⟨e0, he0, hb0⟩ := List.mem_filterMap.1 hb
    obtain ⟨e1, he1, hbb1⟩ := List.mem_filterMap.1 hb'
    exact (hr.ents e0 he0).fr.1 b hb0 (.inr ⟨e1, he1, hbb1⟩)
  · rw [List.filterMap_append, List.nodup_append]
    refine ⟨hr.nt, hnt.2.1, fun b hb b' hb' e => ?_⟩
    subst e
    obtain ⟨e0, he0, hb0⟩ := List.mem_filterMap.1 hb
    obtain ⟨e1, he1, hbb1⟩ := List.mem_filterMap.1 hb'
    exact (hr.ents e0 he0).fr.2 b hb0 (.inr ⟨e1, he1, hbb1⟩)
theorem PCalls.perm {P : Program} {f : FuncId} {args : List PV} {st st' : St} {R : PV → St → Prop} (h : PCalls P f args st R) (hp : st'.Perm st) : PCalls P f args st' R :=
  fun F K w vs h1 h2 => h F K w vs (h1.perm hp) h2
/-- with less told of the arguments -/
theorem PCalls.args {P : Program} {f : FuncId} {args args' : List PV} {st : St} {R : PV → St → Prop} (h : PCalls P f args' st R) (hl : args.length = args'.length) (ha : ∀ (i : Nat) (p q : PV), args[i]? = some p → args'[i]? = some q → Leq p q) : PCalls P f args st R :=
  fun F K w vs h1 h2 => h F K w vs h1 ⟨h2.1.trans hl, fun i q v hq hv => by
    have hi := (List.getElem?_eq_some_iff.1 hq).1
    have hp : args[i]? = some args[i] := List.getElem?_eq_getElem (by omega)
    exact ha i _ q hp hq _ _ _ (h2.2 i _ v hp hv)⟩
theorem PCalls.args_norm {P : Program} {f : FuncId} {args : List PV} {st : St} {R : PV → St → Prop} (h : PCalls P f (args.map PV.norm1) st R) : PCalls P f args st R :=
  h.args (by simp) fun i p q hp hq => by
    rw [List.getElem?_map, hp] at hq
    obtain rfl := Option.some.inj hq
    exact leq_norm1 p
/-- the results -/
def resP (P : Program) (fr : PF) (st : St) : List ResultVar → Option (List PV)
  | [] => some []
  | .tmp t :: r => match fr.get t, resP P fr st r with
    | some p, some l => some (p :: l)
    | _, _ => none
  | .cell a t :: r => match fr.get a, tyOf P t, resP P fr st r with
    | some (.ptr i off), some T, some l => match st.box? i with
      | some (_, cs) => match Jm T (cs.drop off) with
        | some p => some (p :: l)
        | none => none
      | none => none
    | _, _, _ => none
def tupP : List PV → PV
  | [p] => p
  | l => .tup l
/-- what stands behind the body -/
def retP (P : Program) (fn : Func) (R : PV → St → Prop) : Exit → PF → St → Prop := fun e fr st =>
  (e = .normal ∨ e = .ret) ∧ ∃ l q st', resP P fr st fn.results.toList = some l ∧ Leq (tupP l) q ∧ st'.Sublist st ∧ R q st'
theorem run_loadVar_box {P : Program} {t : TypeId} {T : Ty} (hT : tyOf P t = some T) {F : Fz} {K : Kp} {w : World} {st : St} (h1 : Rel F st K w) {i off : Nat} {U : TypeId} {cs : List PV} (hb : st.box? i = some (U, cs)) {p : PV} (hl : Jm T (cs.drop off) = some p) {v : Value} (hv : RelV K w (.ptr i off) v) :
    ∃ u ad, v = .pointer (some ad) ∧ (loadVar t ad).run P w = .ok u w ∧ RelV K w p u := by
  have hn := nevB_ok (P := P) (o := ⟨none, .load t (.tmp 0), 0, "", #[], none⟩) (ρ := fun x => match x with | .tmp 0 => some (.ptr i off) | _ => none) (p := p) (st := st) (by simp [nevB, hT, hb, hl])
  cases hv with
  | @ptr _ _ b hk =>
  obtain ⟨l, r, rfl, -⟩ := St.box?_split hb
  obtain ⟨b', arr, hk', hF, hh, hs, hc, hn'⟩ := h1.ents (.box i U cs) (by simp)
  rw [hk] at hk'
  obtain rfl := Option.some.inj hk'
  obtain ⟨d, hd, rfl⟩ := tyOf_spec hT
  have goal : ∃ u, (loadVar t ⟨b, off, none⟩).run P w = .ok u w ∧ RelV K w p u := by
    simp only [loadVar, Sem.run_bind, run_isAgg hd, Result.andThen_ok]
    unfold Jm at hl
    simp only [tyK_agg] at hl
    cases hag : isAggD d with
    | true =>
      rw [hag] at hl
      simp only [if_true] at hl ⊢
      split at hl
      · rename_i hle
        obtain rfl := Option.some.inj hl
        have hlen : off + P.cellsOf t ≤ arr.size ∨ P.cellsOf t = 0 := by
          rw [List.length_drop] at hle; omega
        have hlc := run_loadCells (P := P) w ⟨b, off, none⟩ (P.cellsOf t) (fun j => arr.getD (off + j) undef) fun j hj => by
          rw [addr_plus, cell_of_arr hh, Array.getD_eq_getD_getElem?, Array.getElem?_eq_getElem (by omega)]; rfl
        simp only [Sem.run_bind, run_sizeOf' hd, Result.andThen_ok, hlc, Sem.run_pure]
        refine ⟨_, rfl, .agg (by simp; rw [List.length_drop] at hle; omega) fun j q u hq hu => ?_⟩
        rw [List.getElem?_take] at hq
        split at hq
        · rename_i hj
          rw [List.getElem?_drop] at hq
          simp only [List.getElem?_toArray, List.getElem?_map, List.getElem?_range hj, Option.map_some, Option.some.injEq] at hu
          refine hc _ q u hq ?_
          rw [← hu, Array.getD_eq_getD_getElem?, Array.getElem?_eq_getElem (by omega)]; rfl
        · cases hq
      · cases hl
    | false =>
      rw [hag] at hl
      simp only [Bool.false_eq_true, if_false] at hl ⊢
      cases hcs : cs.drop off with
      | nil => rw [hcs] at hl; cases hl
      | cons c cr =>
        rw [hcs] at hl
        obtain rfl := Option.some.inj hl
        have h0 : cs[off]? = some c := by
          have := congrArg (·[0]?) hcs
          simpa using this
        have hlt := (List.getElem?_eq_some_iff.1 h0).1
        have hg : arr[off]? = some arr[off] := Array.getElem?_eq_getElem (by omega)
        have hce : w.cell? ⟨b, off, none⟩ = some arr[off] := by rw [cell_of_arr hh, hg]
        simp only [run_load, hce]
        exact ⟨_, rfl, hc off c _ h0 hg⟩
  obtain ⟨u, h3, h4⟩ := goal
  exact ⟨u, _, rfl, h3, h4⟩
theorem resP_run {P : Program} {n : Nat} {fr : PF} {st : St} {F : Fz} {K : Kp} {w : World} {a : Act} (h1 : Rel F st K w) (h2 : FR n fr K w a) : ∀ {rs : List ResultVar} {l : List PV}, resP P fr st rs = some l →
    ∃ vs : List Value, (rs.mapM (m := Sem) fun | .tmp t => Pure.pure (a.tmps.getD t undef) | .cell b t => do loadVar t (← asAddr (a.tmps.getD b undef))).run P w = .ok vs w ∧ vs.length = l.length ∧ ∀ (i : Nat) (p : PV) (v : Value), l[i]? = some p → vs[i]? = some v → RelV K w p v := by
  intro rs
  induction rs with
  | nil => intro l h; simp only [resP, Option.some.injEq] at h; subst h; exact ⟨[], rfl, rfl, by simp⟩
  | cons x r ih =>
    intro l h
    have fin : ∀ (p : PV) (l' : List PV) (u : Value), resP P fr st r = some l' → RelV K w p u → l = p :: l' → (∀ g : ResultVar → Sem Value, (g x).run P w = .ok u w → True) → True := fun _ _ _ _ _ _ _ => trivial
    cases x with
    | tmp t =>
      simp only [resP] at h
      split at h
      · rename_i p l' hp hl
        obtain rfl := Option.some.inj h
        obtain ⟨vs, e1, e2, e3⟩ := ih hl
        refine ⟨a.tmps.getD t undef :: vs, ?_, by simp [e2], fun i q v hq hv => ?_⟩
        · rw [List.mapM_cons]
          simp only [Sem.run_bind, Sem.run_pure, Result.andThen_ok, e1]
        · cases i with
          | zero =>
            have e4 := Option.some.inj hq
            have e5 := Option.some.inj hv
            subst e4; subst e5; exact h2.at_ t _ hp
          | succ i => simp at hq hv; exact e3 i q v hq hv
      · cases h
    | cell b t =>
      simp only [resP] at h
      split at h
      · rename_i i off T l' hp hT hl
        split at h
        · rename_i U cs hb
          split at h
          · rename_i p hld
            obtain rfl := Option.some.inj h
            obtain ⟨vs, e1, e2, e3⟩ := ih hl
            obtain ⟨u, ad, hu1, hu2, hu3⟩ := run_loadVar_box (P := P) hT h1 hb hld (h2.at_ b _ hp)
            refine ⟨u :: vs, ?_, by simp [e2], fun i q v hq hv => ?_⟩
            · rw [List.mapM_cons]
              have hasa : (asAddr (.pointer (some ad))).run P w = .ok ad w := rfl
              rw [Sem.run_bind]
              simp only [hu1]
              rw [Sem.run_bind, hasa, Result.andThen_ok, hu2, Result.andThen_ok, Sem.run_bind, e1]
              rfl
            · cases i with
              | zero => simp at hq hv; subst hq; subst hv; exact hu3
              | succ i => simp at hq hv; exact e3 i q v hq hv
          · cases h
        · cases h
      · cases h
def argsF : Nat → List PV → PF
  | _, [] => []
  | k, p :: r => (k, p) :: argsF (k + 1) r
theorem argsF_get : ∀ (l : List PV) (k t : Nat) (p : PV), (argsF k l).get t = some p → ∃ i, t = k + i ∧ l[i]? = some p := by
  intro l
  induction l with
  | nil => intro k t p h; cases h
  | cons q r ih =>
    intro k t p h
    simp only [argsF, PF.get] at h
    split at h
    · rename_i e; exact ⟨0, by omega, by simpa using h⟩
    · obtain ⟨i, hi, hp⟩ := ih (k + 1) t p h
      exact ⟨i + 1, by omega, by simpa using hp⟩
/-- into a function -/
theorem PCalls.enter {P : Program} {f : FuncId} {fn : Func} {c : Code} {args : List PV} {st : St} {R : PV → St → Prop} {n : Nat} (hf : P.funcs[f]? = some fn) (hb : fn.body = some c) (hn : fn.ntmps = n) (ha : args.length ≤ n) (h : PW P n c (retP P fn R) (argsF 0 args) st) : PCalls P f args st R := by
  intro F K w vs h1 h2
  refine calls_of_wp hf hb ?_
  have hfr : FR n (argsF 0 args) K w { tmps := vs ++ Array.replicate (fn.ntmps - vs.size) undef, defers := [] } := by
    refine ⟨by simp; have := h2.1; omega, rfl, fun t p hp => ?_⟩
    obtain ⟨i, hi, hp⟩ := argsF_get args 0 t p hp
    rw [Nat.zero_add] at hi
    subst hi
    have hlt := (List.getElem?_eq_some_iff.1 hp).1
    have hsz := h2.1
    have hv : vs[t]? = some vs[t] := Array.getElem?_eq_getElem (by omega)
    have := h2.2 t p _ hp hv
    simp only [Array.getD_eq_getD_getElem?]
    rw [Array.getElem?_append_left (by omega), hv]
    exact this
  refine wp_mono (h F K w _ h1 hfr) ?_
  rintro e a' w' ⟨K', fr', st', hx, hr, hf', he, l, q, s, hl, hle, hs, hR⟩
  obtain ⟨us, e1, e2, e3⟩ := resP_run hr hf' hl
  have key : ∃ v, (results fn a'.tmps).run P w' = .ok v w' ∧ RelV K' w' q v := by
    refine ⟨if h : us.toArray.size = 1 then us.toArray[0] else .tuple us.toArray, ?_, ?_⟩
    · unfold results
      rw [Array.mapM_eq_mapM_toList, Sem.run_bind, Sem.run_map]
      exact (congrArg (fun r : Result (List Value) => (r.andThen fun a w' => Result.ok a.toArray w').andThen fun a w' => Sem.run P (Pure.pure (if h : a.size = 1 then a[0] else Value.tuple a) : Sem Value) w') e1)
    · apply hle
      match l, us, e2, e3 with
      | [p], [u], _, e3 => exact e3 0 p u rfl rfl
      | [], [], _, _ => exact .tup rfl fun i p v hp _ => by simp at hp
      | p :: p2 :: r, u :: u2 :: us, e2, e3 =>
        rw [dif_neg (by simp)]
        exact .tup (by simpa using e2) fun i p v hp hv => e3 i p v hp (by simpa using hv)
  obtain ⟨v, hv1, hv2⟩ := key
  rcases he with rfl | rfl
  · exact ⟨hf'.defers, v, hv1, v, K', q, s, rfl, hx, hr.sub hs, hv2, hR⟩
  · exact ⟨hf'.defers, v, hv1, v, K', q, s, rfl, hx, hr.sub hs, hv2, hR⟩
end Go.Proofs.Ytfnfbbmegdkhjaa

namespace Go.Proofs.Ytfnfbbmegdkhjaa
open Go.RowKit
set_option linter.unusedVariables false
set_option linter.unusedSimpArgs false
def Jn (ρ : Operand → Option PV) : List Operand → Option (List PV)
  | [] => some []
  | x :: r => match ρ x, Jn ρ r with
    | some p, some l => some (p :: l)
    | _, _ => none
theorem evalArgs_rel {K : Kp} {w : World} {ρ : Operand → Option PV} {ev : Operand → Value} : ∀ {xs : List Operand} {ps : List PV}, (∀ x ∈ xs, ∀ p, ρ x = some p → RelV K w p (ev x)) → Jn ρ xs = some ps → xs.length = ps.length ∧ ∀ (i : Nat) (p : PV) (v : Value), ps[i]? = some p → (xs.map ev)[i]? = some v → RelV K w p v := by
  intro xs
  induction xs with
  | nil => intro ps _ h; simp only [Jn, Option.some.injEq] at h; subst h; simp
  | cons x r ih =>
    intro ps hx h
    simp only [Jn] at h
    split at h
    · rename_i p l hp hl
      obtain rfl := Option.some.inj h
      obtain ⟨h1, h2⟩ := ih (fun y hy => hx y (by simp [hy])) hl
      refine ⟨by simp [h1], fun i q v hq hv => ?_⟩
      cases i with
      | zero =>
        have e1 := Option.some.inj hq
        have e2 := Option.some.inj hv
        subst e1; subst e2
        exact hx x (by simp) _ hp
      | succ i => exact h2 i q v (by simpa using hq) (by simpa using hv)
    · cases h
/-- may a function be called? -/
def callable (P : Program) (f : FuncId) : Bool :=
  match P.funcs[f]? with
  | some fn => !(fn.name == "runtime.NumGoroutine") && fn.body.isSome
  | none => false
theorem run_callFunc {P : Program} {f : FuncId} (h : callable P f = true) (args : Array Value) (w : World) : (callFunc f args).run P w = .ok (.enter f args) w := by
  unfold callable at h
  cases hf : P.funcs[f]? with
  | none => rw [hf] at h; cases h
  | some fn =>
    rw [hf] at h
    simp only [Bool.and_eq_true, Bool.not_eq_true'] at h
    obtain ⟨h1, h2⟩ := h
    have h3 : fn.body.isNone = false := by cases hb : fn.body <;> simp_all
    simp only [callFunc, Sem.run_bind, run_program, Result.andThen_ok, hf, h1, h3, Bool.false_eq_true, if_false, Sem.run_pure]
theorem POp_call {P : Program} {o : Oper} {ρ : Operand → Option PV} {st st0 st1 : St} {R R0 : PV → St → Prop} {fo : Operand} {xs : Array Operand} {ts : Array TypeId} (ho : o.op = .call { callee := .value fo, args := xs, argTypes := ts }) {f : FuncId} {first cap ps : List PV} (hfo : ρ fo = some (.fn (.func f) first cap)) (hxs : Jn ρ xs.toList = some ps) (hca : callable P f = true)
    (hst : st.Perm (st0 ++ st1)) (hc : PCalls P f (first ++ ps ++ cap) st0 R0) (h : ∀ p s0, R0 p s0 → R p (s0 ++ st1)) : POp P o ρ st R := by
  intro F K w a next Q h1 h2 h3
  obtain ⟨dst, op, ty, pos, after, guard⟩ := o
  simp only at ho h2 h3 ⊢
  subst ho
  have hv := h2 fo (by simp [Op.operands, Call.operands]) _ hfo
  generalize hva : a.eval fo = va at hv
  cases hv with
  | @fn _ _ _ vs us g1 g2 g3 g4 =>
  obtain ⟨g5, g6⟩ := evalArgs_rel (ev := a.eval) (fun x hx p hp => h2 x (by simp only [Op.operands, Call.operands]; exact Array.mem_append.2 (.inr (by simpa using hx))) p hp) hxs
  have hrun : (execOp a.eval { dst, op := .call { callee := .value fo, args := xs, argTypes := ts }, type := ty, pos, after, guard }).run P w = .ok (.enter f (vs ++ xs.map a.eval ++ us)) w := by
    simp only [execOp, resolve, hva, Deferred.ofValue, invoke, Sem.run_bind, Sem.run_pure, Result.andThen_ok, run_callFunc hca]
  unfold Oper.wp
  rw [hrun, Oper.upon_enter]
  have hrel : RelVs K w (first ++ ps ++ cap) (vs ++ xs.map a.eval ++ us) := by
    have hsz : (xs.map a.eval).size = ps.length := by simpa using g5
    refine ⟨by simp only [Array.size_append, List.length_append]; omega, fun i p v hp hv => ?_⟩
    rw [List.append_assoc, List.getElem?_append] at hp
    rw [Array.append_assoc, Array.getElem?_append] at hv
    split at hp
    · rename_i hi
      rw [if_pos (by omega)] at hv
      exact g3 i p v hp hv
    · rename_i hi
      rw [if_neg (by omega)] at hv
      rw [List.getElem?_append] at hp
      rw [Array.getElem?_append] at hv
      split at hp
      · rename_i hj
        rw [if_pos (by omega)] at hv
        refine g6 _ p v hp ?_
        rw [g1] at hv
        simpa using hv
      · rename_i hj
        rw [if_neg (by omega)] at hv
        rw [g1, hsz] at hv
        exact g4 _ p v hp hv
  refine ((hc.frame st1).perm hst F K w _ h1 hrel).mono ?_
  rintro e w' ⟨v, K', p, st', rfl, hx, hr, hv, s0, rfl, hR⟩
  exact h3 K' w' p _ v hx hr hv (h p s0 hR)
/-- a call of what looks at no variable of one's own -/
theorem POp_call0 {P : Program} {o : Oper} {ρ : Operand → Option PV} {fo : Operand} {xs : Array Operand} {ts : Array TypeId} (ho : o.op = .call { callee := .value fo, args := xs, argTypes := ts }) {f : FuncId} {ps : List PV} (hfo : fo = .func f) (hρ : ρ fo = some (.fn (.func f) [] [])) (hxs : Jn ρ xs.toList = some ps) (hca : callable P f = true)
    {r : PV} {qs : List PV} (hn : ps.map PV.norm1 = qs) (hc : PCalls P f qs [] fun p s => p = r ∧ s = []) (st : St) : POp P o ρ st fun q s => q = r ∧ s = st := by
  refine POp_call (st0 := []) (st1 := st) ho (first := []) (cap := []) hρ hxs hca (List.Perm.refl _) (R0 := fun p s => p = r ∧ s = []) ?_ ?_
  · simp only [List.nil_append, List.append_nil]
    subst hn
    exact hc.args_norm
  · rintro p s0 ⟨rfl, rfl⟩
    exact ⟨rfl, rfl⟩
section
variable {P : Program} {n : Nat} {Q : Exit → PF → St → Prop} {fr : PF} {st : St}
/-- a nil slice in a slot becomes one's own -/
theorem PW_own {c : Code} (t : Nat) (E : TypeId) (sz : Nat) (hsz : 0 < sz) (ht : fr.get t = some .nils) (h : ∀ g, St.freshT st g → PW P n c Q ((t, .own g []) :: fr) (.tok g E sz 0 :: st)) : PW P n c Q fr st := by
  intro F K w a hr hf
  obtain ⟨g, hg, hfr, hx, hr2⟩ := hr.newTok (u := .slice none 0 0) (E := E) (sz := sz) (n := 0) (xs := []) (World.ownsRow_nil w 0 E sz) rfl fun b hb => by cases hb
  have hf2 := hf.mono hx
  have h0 := hf2.at_ t _ ht
  have hf3 : FR n ((t, .own g []) :: fr) (K.setOwn g (.slice none 0 0)) w a := by
    refine ⟨hf2.size, hf2.defers, fun t' p hp => ?_⟩
    simp only [PF.get] at hp
    split at hp
    · rename_i e
      subst e
      obtain rfl := Option.some.inj hp
      generalize a.tmps.getD t undef = v at h0
      cases h0
      exact .own (.nil (Nat.zero_le _)) (by simp [Kp.setOwn]) (Nat.zero_le _) fun _ => rfl
    · exact hf2.at_ t' p hp
  exact wp_mono (h g hfr F _ w a hr2 hf3) fun _ _ _ ⟨K', fr', st', b1, b2, b3, b4⟩ => ⟨K', fr', st', hx.trans b1, b2, b3, b4⟩
/-- a nil slice in a variable becomes one's own -/
theorem PW_ownBox {c : Code} (i j : Nat) {U : TypeId} {cs : List PV} (E : TypeId) (sz : Nat) (hsz : 0 < sz) (hb : st.box? i = some (U, cs)) (hj : cs[j]? = some .nils) (h : ∀ g, St.freshT st g → PW P n c Q fr (.tok g E sz 0 :: st.setBox i (cs.set j (.own g [])))) : PW P n c Q fr st := by
  intro F K w a hr hf
  obtain ⟨g, hg, hfr, hx, hr2⟩ := hr.newTok (u := .slice none 0 0) (E := E) (sz := sz) (n := 0) (xs := []) (World.ownsRow_nil w 0 E sz) rfl fun b hb => by cases hb
  obtain ⟨l, r, rfl, hset⟩ := St.box?_split hb
  obtain ⟨b, arr, e1, e2, e3, e4, e5, e6⟩ := hr2.ents (.box i U cs) (by simp)
  have hr3 : Rel F ((.tok g E sz 0 :: l) ++ .box i U cs :: r) (K.setOwn g (.slice none 0 0)) w := hr2
  obtain ⟨hx4, hr4⟩ := hr3.setBox (w' := w) (ds := cs.set j (.own g [])) e1 rfl rfl rfl rfl e3 (fun _ _ => rfl) (by simp [e4]) fun k p v hp hv => by
    rw [List.getElem?_set] at hp
    split at hp
    · rename_i e
      subst e
      split at hp
      · obtain rfl := Option.some.inj hp
        have h0 := e5 j _ v hj hv
        cases h0
        exact .own (.nil (Nat.zero_le _)) (by simp [Kp.setOwn]) (Nat.zero_le _) fun _ => rfl
      · cases hp
    · exact e5 k p v hp hv
  have := h g hfr F _ w a (by rw [hset]; exact hr4) ((hf.mono hx).mono hx4)
  exact wp_mono this fun _ _ _ ⟨K', fr', st', b1, b2, b3, b4⟩ => ⟨K', fr', st', (hx.trans hx4).trans b1, b2, b3, b4⟩
/-- lengths and texts are not too long -/
theorem PW_slen {c : Code} {t : Nat} {p : PV} {rows : List (List D)} (ht : fr.get t = some p) (hp : p.rows = some rows) (h : rows.length ≤ maxLen → PW P n c Q fr st) : PW P n c Q fr st := by
  intro F K w a hr hf
  obtain ⟨a', cap, hv, h1, h2⟩ := rows_form (rows_rel hp (hf.at_ t p ht))
  exact h (by omega) F K w a hr hf
end
end Go.Proofs.Ytfnfbbmegdkhjaa

namespace Go.Proofs.Ytfnfbbmegdkhjaa
open Go.RowKit
set_option linter.unusedVariables false
set_option linter.unusedSimpArgs false
/-- how an operation may be taken in a region that draws its order: it looks at no variable; it looks at one; it acts -/
inductive Kd where
  | a | b | e
  deriving DecidableEq
abbrev G := Nat → Option PV
def gput (g : G) : Option Tmp → PV → G
  | some d, p => fun t => if d = t then some p else g t
  | none, _ => g
def geval (g : G) : Operand → Option PV
  | .tmp t => g t
  | .const v => some (cPV v)
  | .func f => some (.fn (.func f) [] [])
  | .global _ => none
theorem geval_get (fr : PF) : geval fr.get = fr.eval := by
  funext x; cases x <;> rfl
theorem gput_get (fr : PF) (d : Option Tmp) (p : PV) : (fr.put d p).get = gput fr.get d p := by
  cases d with
  | none => rfl
  | some d => funext t; simp [PF.put, PF.get, gput]
def gwants (g : G) (ops : Array Oper) (o : Oper) : Option Bool :=
  match o.guard with
  | none => some true
  | some (j, want) =>
    match (ops[j]?).bind (·.dst) with
    | none => some false
    | some t =>
      match g t with
      | some (.d (.v (.bool b))) => some (b == want)
      | some (.tup _) => some false
      | _ => none
theorem gwants_get (fr : PF) (ops : Array Oper) (o : Oper) : gwants fr.get ops o = fr.wants ops o := rfl
theorem POp.congr {P : Program} {o : Oper} {ρ ρ' : Operand → Option PV} {st : St} {R : PV → St → Prop} (h : POp P o ρ st R) (he : ∀ x ∈ o.op.operands, ρ x = ρ' x) : POp P o ρ' st R :=
  fun F K w a next Q h1 h2 h3 => h F K w a next Q h1 (fun x hx p hp => h2 x hx p (by rw [← he x hx]; exact hp)) h3
theorem geval_put {ops : Array Oper} {o : Oper} {g : G} {dst : Option Tmp} {p : PV} (h : ∀ d, dst = some d → d ∉ o.looksAt ops) : ∀ x ∈ o.op.operands, geval (gput g dst p) x = geval g x := by
  intro x hx
  cases dst with
  | none => rfl
  | some d =>
    cases x with
    | tmp t =>
      have hne : d ≠ t := fun e => h d rfl (by subst e; exact List.mem_append_left _ (List.mem_filterMap.2 ⟨.tmp d, by simpa using hx, rfl⟩))
      simp [geval, gput, hne]
    | _ => rfl
theorem gwants_put {ops : Array Oper} {o : Oper} {g : G} {dst : Option Tmp} {p : PV} (h : ∀ d, dst = some d → d ∉ o.looksAt ops) : gwants (gput g dst p) ops o = gwants g ops o := by
  cases dst with
  | none => rfl
  | some d =>
    unfold gwants
    cases hg : o.guard with
    | none => rfl
    | some q =>
      obtain ⟨j, want⟩ := q
      simp only
      cases ht : (ops[j]?).bind (·.dst) with
      | none => rfl
      | some t =>
        have hne : d ≠ t := fun e => h d rfl (by subst e; refine List.mem_append_right _ ?_; simp [hg, ht])
        simp [gput, hne]
theorem gput_comm (g : G) {x y : Option Tmp} (p q : PV) (h : ∀ d, x = some d → y ≠ some d) : gput (gput g x p) y q = gput (gput g y q) x p := by
  cases x with
  | none => cases y <;> rfl
  | some d =>
    cases y with
    | none => rfl
    | some e =>
      have hne : d ≠ e := fun he => h d rfl (he ▸ rfl)
      funext t
      simp only [gput]
      by_cases h1 : e = t
      · subst h1; simp [hne]
      · simp [h1]
structure FG (n : Nat) (g : G) (K : Kp) (w : World) (a : Act) : Prop where
  size : a.tmps.size = n
  defers : a.defers = []
  at_ : ∀ t p, g t = some p → RelV K w p (a.tmps.getD t undef)
theorem FG.fr {n : Nat} {fr : PF} {K : Kp} {w : World} {a : Act} (h : FG n fr.get K w a) : FR n fr K w a := ⟨h.size, h.defers, h.at_⟩
theorem FR.fg {n : Nat} {fr : PF} {K : Kp} {w : World} {a : Act} (h : FR n fr K w a) : FG n fr.get K w a := ⟨h.size, h.defers, h.at_⟩
theorem FG.eval {n : Nat} {g : G} {K : Kp} {w : World} {a : Act} (h : FG n g K w a) (x : Operand) (p : PV) (hp : geval g x = some p) : RelV K w p (a.eval x) := by
  cases x with
  | tmp t => exact h.at_ t p hp
  | const v => simp only [geval, Option.some.injEq] at hp; subst hp; exact cPV_ok K w v
  | global g => simp [geval] at hp
  | func f =>
    simp only [geval, Option.some.injEq] at hp; subst hp
    exact .fn rfl rfl (fun i p v hp _ => by simp at hp) (fun i p v hp _ => by simp at hp)
theorem FG.mono {n : Nat} {g : G} {F : Fz} {K K' : Kp} {w w' : World} {a : Act} (h : FG n g K w a) (hx : Ext F K w K' w') : FG n g K' w' a := ⟨h.size, h.defers, fun t p hp => (h.at_ t p hp).mono hx⟩
theorem FG.put {n : Nat} {g : G} {K : Kp} {w : World} {a : Act} (h : FG n g K w a) {dst : Option Tmp} (hd : ∀ d, dst = some d → d < n) {p : PV} {v : Value} (hv : RelV K w p v) : FG n (gput g dst p) K w (a.put dst v) := by
  cases dst with
  | none => exact h
  | some d =>
    have hlt := hd d rfl
    refine ⟨by simp [Act.put, h.size], h.defers, fun t q hq => ?_⟩
    simp only [gput] at hq
    simp only [Act.put]
    split at hq
    · rename_i e
      subst e
      obtain rfl := Option.some.inj hq
      have := h.size
      simp only [Array.getD_eq_getD_getElem?]
      rw [Array.getElem?_setIfInBounds_self_of_lt (this.symm ▸ hlt)]
      exact hv
    · rename_i e
      have := h.at_ t q hq
      simp only [Array.getD_eq_getD_getElem?] at this ⊢
      rw [Array.getElem?_setIfInBounds_ne e]
      exact this
section
variable {P : Program} {ops : Array Oper} {n : Nat} {kd : Nat → Kd} {md : Region.Mode}
/-- one operation, out of turn -/
def gOp (P : Program) (ops : Array Oper) (n : Nat) (kd : Nat → Kd) (i : Nat) (K : G → St → Prop) (g : G) (st : St) : Prop :=
  match ops[i]? with
  | none => K g st
  | some o => (∀ d, o.dst = some d → d < n) ∧
    ((gwants g ops o = some false ∧ K (gput g o.dst (.tup [])) st) ∨
     (gwants g ops o = some true ∧
      match kd i with
      | .a => ∃ p, (∀ s, POp P o (geval g) s fun q s' => q = p ∧ s' = s) ∧ K (gput g o.dst p) st
      | .b => ∃ p, (POp P o (geval g) st fun q s' => q = p ∧ s' = st) ∧ K (gput g o.dst p) st
      | .e => POp P o (geval g) st fun p s' => K (gput g o.dst p) s'))
theorem gOp_mono {i : Nat} {K K' : G → St → Prop} {g : G} {st : St} (h : ∀ g s, K g s → K' g s) (hh : gOp P ops n kd i K g st) : gOp P ops n kd i K' g st := by
  unfold gOp at *
  split
  · rename_i ho; rw [ho] at hh; exact h _ _ hh
  · rename_i o ho
    rw [ho] at hh
    obtain ⟨hd, hh⟩ := hh
    refine ⟨hd, ?_⟩
    rcases hh with ⟨h1, h2⟩ | ⟨h1, h2⟩
    · exact .inl ⟨h1, h _ _ h2⟩
    · refine .inr ⟨h1, ?_⟩
      cases hk : kd i with
      | a => rw [hk] at h2; obtain ⟨p, h3, h4⟩ := h2; exact ⟨p, h3, h _ _ h4⟩
      | b => rw [hk] at h2; obtain ⟨p, h3, h4⟩ := h2; exact ⟨p, h3, h _ _ h4⟩
      | e => rw [hk] at h2; exact h2.mono fun p s hs => h _ _ hs
def gAny (P : Program) (md : Region.Mode) (ops : Array Oper) (n : Nat) (kd : Nat → Kd) (Q : G → St → Prop) : Nat → Array Bool → G → St → Prop
  | 0, listed, g, st => Region.ready md ops listed = [] ∧ Q g st
  | fuel + 1, listed, g, st =>
    (Region.ready md ops listed = [] → Q g st) ∧ ∀ i ∈ Region.ready md ops listed, gOp P ops n kd i (gAny P md ops n kd Q fuel (listed.setIfInBounds i true)) g st
theorem wanted_of {g : G} {K : Kp} {w : World} {a : Act} (h : FG n g K w a) {o : Oper} {b : Bool} (hw : gwants g ops o = some b) : Region.wanted o (yielded ops a.tmps) = b := by
  unfold gwants at hw
  unfold Region.wanted
  cases hg : o.guard with
  | none => rw [hg] at hw; simpa using hw
  | some q =>
    obtain ⟨j, want⟩ := q
    rw [hg] at hw
    simp only at hw ⊢
    unfold yielded
    cases ht : (ops[j]?).bind (·.dst) with
    | none => rw [ht] at hw; simp at hw; subst hw; simp
    | some t =>
      rw [ht] at hw
      simp only at hw
      split at hw
      · rename_i c hgt
        have h1 := h.at_ t _ hgt
        obtain ⟨hv, -⟩ := h1.flat
        rw [Array.getD_eq_getD_getElem?] at hv
        simp only [Option.bind_some]
        cases hc : a.tmps[t]? with
        | none => rw [hc] at hv; cases hv
        | some u =>
          rw [hc] at hv
          simp only [Option.getD_some] at hv
          subst hv
          simp only [Option.some.injEq] at hw
          rw [← hw]; cases c <;> cases want <;> rfl
      · rename_i vs hgt
        have h1 := h.at_ t _ hgt
        generalize hv : a.tmps.getD t undef = v at h1
        cases h1 with
        | tup h1 h2 =>
          simp only [Option.some.injEq] at hw
          subst hw
          rw [Array.getD_eq_getD_getElem?] at hv
          simp only [Option.bind_some]
          cases hc : a.tmps[t]? with
          | none => simp
          | some u => rw [hc] at hv; simp at hv; subst hv; simp
      · cases hw
theorem wpAny_gAny {Q : G → St → Prop} {Q' : Exit → Act → World → Prop} {F : Fz} {K0 : Kp} {w0 : World} (hQ : ∀ K w a g st, Ext F K0 w0 K w → Rel F st K w → FG n g K w a → Q g st → Q' .normal a w) :
    ∀ (fuel : Nat) (listed : Array Bool) (g : G) (st : St) (K : Kp) (w : World) (a : Act), Ext F K0 w0 K w → Rel F st K w → FG n g K w a → gAny P md ops n kd Q fuel listed g st → wpAny P md ops Q' fuel listed a w := by
  intro fuel
  induction fuel with
  | zero => intro listed g st K w a hx hr hf h; exact ⟨h.1, hQ K w a g st hx hr hf h.2⟩
  | succ fuel ih =>
    intro listed g st K w a hx hr hf h
    refine ⟨fun h0 => hQ K w a g st hx hr hf (h.1 h0), fun i hi => ?_⟩
    have hop := h.2 i hi
    unfold gOp at hop
    unfold wpOp
    split
    · rename_i ho
      rw [ho] at hop
      exact ih _ g st K w a hx hr hf hop
    · rename_i o ho
      rw [ho] at hop
      obtain ⟨hd, hop⟩ := hop
      rcases hop with ⟨h1, h2⟩ | ⟨h1, h2⟩
      · rw [wanted_of hf h1]
        exact ih _ _ st K w _ hx hr (hf.put hd (.tup rfl fun i p v hp _ => by simp at hp)) h2
      · rw [wanted_of hf h1]
        simp only [if_true]
        refine .inl ?_
        have hgen : POp P o (geval g) st fun p s' => gAny P md ops n kd Q fuel (listed.setIfInBounds i true) (gput g o.dst p) s' := by
          cases hk : kd i with
          | a =>
            rw [hk] at h2; obtain ⟨p, h3, h4⟩ := h2
            exact (h3 st).mono fun q s ⟨e1, e2⟩ => by subst e1; subst e2; exact h4
          | b =>
            rw [hk] at h2; obtain ⟨p, h3, h4⟩ := h2
            exact h3.mono fun q s ⟨e1, e2⟩ => by subst e1; subst e2; exact h4
          | e => rw [hk] at h2; exact h2
        exact hgen F K w a _ _ hr (fun x _ p hp => hf.eval x p hp) fun K' w' p st' v b1 b2 b3 b4 => ih _ _ st' K' w' _ (hx.trans b1) b2 ((hf.mono b1).put hd b3) b4
/-- what a quiet operation yields -/
def gYields (P : Program) (ops : Array Oper) (n : Nat) (k : Kd) (o : Oper) (p : PV) (g : G) (st : St) : Prop :=
  (∀ d, o.dst = some d → d < n) ∧
  ((gwants g ops o = some false ∧ p = .tup []) ∨
   (gwants g ops o = some true ∧
    match k with
    | .a => ∀ s, POp P o (geval g) s fun q s' => q = p ∧ s' = s
    | .b => POp P o (geval g) st fun q s' => q = p ∧ s' = st
    | .e => False))
theorem gYields.op {i : Nat} {o : Oper} {p : PV} {g : G} {st : St} (hi : ops[i]? = some o) (hy : gYields P ops n (kd i) o p g st) {K : G → St → Prop} (h : K (gput g o.dst p) st) : gOp P ops n kd i K g st := by
  unfold gOp
  rw [hi]
  obtain ⟨hd, hy⟩ := hy
  refine ⟨hd, ?_⟩
  rcases hy with ⟨h1, rfl⟩ | ⟨h1, h2⟩
  · exact .inl ⟨h1, h⟩
  · refine .inr ⟨h1, ?_⟩
    cases hk : kd i with
    | a => rw [hk] at h2; exact ⟨p, h2, h⟩
    | b => rw [hk] at h2; exact ⟨p, h2, h⟩
    | e => rw [hk] at h2; exact h2.elim
theorem gYields.put {k : Kd} {o : Oper} {p : PV} {g : G} {st : St} (hy : gYields P ops n k o p g st) {dst : Option Tmp} {q : PV} (h : ∀ d, dst = some d → d ∉ o.looksAt ops) : gYields P ops n k o p (gput g dst q) st := by
  obtain ⟨hd, hy⟩ := hy
  refine ⟨hd, ?_⟩
  rw [gwants_put h]
  rcases hy with ⟨h1, h2⟩ | ⟨h1, h2⟩
  · exact .inl ⟨h1, h2⟩
  · refine .inr ⟨h1, ?_⟩
    cases k with
    | a => exact fun s => (h2 s).congr fun x hx => (geval_put h x hx).symm
    | b => exact POp.congr h2 fun x hx => (geval_put h x hx).symm
    | e => exact h2
theorem gOp_put {i j : Nat} {oi oj : Oper} {p : PV} (hj : ops[j]? = some oj) (hap : oi.apart ops oj = true) {K : G → St → Prop} {g : G} {st : St} (hy : gYields P ops n (kd i) oi p g st) (hb : kd i = .b → kd j ≠ .e) (h : gOp P ops n kd j K (gput g oi.dst p) st) :
    gOp P ops n kd j (fun g' s' => gYields P ops n (kd i) oi p g' s' ∧ K (gput g' oi.dst p) s') g st := by
  obtain ⟨h1, h2, h3⟩ := Oper.apart_spec hap
  unfold gOp at *
  rw [hj] at h ⊢
  simp only at h ⊢
  obtain ⟨hd, h⟩ := h
  rw [gwants_put h1] at h
  refine ⟨hd, ?_⟩
  rcases h with ⟨e1, e2⟩ | ⟨e1, e2⟩
  · exact .inl ⟨e1, hy.put h3, by rw [← gput_comm g p _ h2]; exact e2⟩
  · refine .inr ⟨e1, ?_⟩
    cases hk : kd j with
    | a =>
      rw [hk] at e2
      obtain ⟨q, e3, e4⟩ := e2
      exact ⟨q, fun s => (e3 s).congr fun x hx => geval_put h1 x hx, hy.put h3, by rw [← gput_comm g p _ h2]; exact e4⟩
    | b =>
      rw [hk] at e2
      obtain ⟨q, e3, e4⟩ := e2
      exact ⟨q, e3.congr fun x hx => geval_put h1 x hx, hy.put h3, by rw [← gput_comm g p _ h2]; exact e4⟩
    | e =>
      rw [hk] at e2
      refine (POp.congr e2 fun x hx => geval_put h1 x hx).mono fun q s hs => ⟨?_, by rw [← gput_comm g p _ h2]; exact hs⟩
      have hy2 := hy.put (dst := oj.dst) (q := q) h3
      obtain ⟨d1, d2⟩ := hy2
      refine ⟨d1, ?_⟩
      rcases d2 with d2 | ⟨d2, d3⟩
      · exact .inl d2
      · refine .inr ⟨d2, ?_⟩
        cases hki : kd i with
        | a => rw [hki] at d3; exact d3
        | b => exact absurd hk (hb hki)
        | e => rw [hki] at d3; exact d3.elim
/-- does an operation wait for another one, over whatever many others? -/
def waitsB (md : Region.Mode) (ops : Array Oper) (i : Nat) : Nat → Nat → Bool
  | 0, _ => false
  | f + 1, j => match ops[j]? with
    | some o => o.after.any fun e => Region.binds md e && (e.on == i || waitsB md ops i f e.on)
    | none => false
def DC (md : Region.Mode) (ops : Array Oper) (listed : Array Bool) : Prop := ∀ j o, ops[j]? = some o → listed.getD j false = true → ∀ e ∈ o.after, Region.binds md e = true → listed.getD e.on false = true
theorem waits_listed {i : Nat} {listed : Array Bool} (hdc : DC md ops listed) : ∀ (f j : Nat), waitsB md ops i f j = true → listed.getD j false = true → listed.getD i false = true := by
  intro f
  induction f with
  | zero => intro j h; cases h
  | succ f ih =>
    intro j h hj
    simp only [waitsB] at h
    split at h
    · rename_i o ho
      obtain ⟨e, he, h⟩ := Array.any_eq_true'.1 h
      simp only [Bool.and_eq_true, Bool.or_eq_true, beq_iff_eq] at h
      have h1 := hdc j o ho hj e he h.1
      rcases h.2 with h2 | h2
      · rw [← h2]; exact h1
      · exact ih _ h2 h1
    · cases h
theorem listed_false {listed : Array Bool} {i : Nat} (h : listed.getD i true = false) : listed.getD i false = false := by
  rcases Nat.lt_or_ge i listed.size with h' | h'
  · simp [h'] at h ⊢; exact h
  · simp [Array.getElem?_eq_none h'] at h
theorem waits_ready {i j : Nat} {listed : Array Bool} (hdc : DC md ops listed) {f : Nat} (h : waitsB md ops i f j = true) (hi : listed.getD i true = false) (hj : j ∈ Region.ready md ops listed) : False := by
  obtain ⟨h0, o, ho, hall⟩ := mem_ready.1 hj
  cases f with
  | zero => cases h
  | succ f =>
    simp only [waitsB, ho] at h
    obtain ⟨e, he, h⟩ := Array.any_eq_true'.1 h
    simp only [Bool.and_eq_true, Bool.or_eq_true, beq_iff_eq] at h
    have h1 := hall e he h.1
    have h2 := listed_false hi
    rcases h.2 with h3 | h3
    · rw [h3] at h1; rw [h1] at h2; cases h2
    · have := waits_listed hdc _ _ h3 h1
      rw [this] at h2; cases h2
theorem DC.set {listed : Array Bool} (hdc : DC md ops listed) {i : Nat} (hi : i ∈ Region.ready md ops listed) : DC md ops (listed.setIfInBounds i true) := by
  intro j o ho hj e he hb
  obtain ⟨h0, o', ho', hall⟩ := mem_ready.1 hi
  by_cases hji : i = j
  · subst hji
    rw [ho] at ho'
    obtain rfl := Option.some.inj ho'
    exact getD_set_true (hall e he hb)
  · rw [getD_set_ne false hji] at hj
    exact getD_set_true (hdc j o ho hj e he hb)
theorem gAny_first {Q : G → St → Prop} {i : Nat} {oi : Oper} {p : PV} (hi : ops[i]? = some oi) : ∀ (fuel : Nat) (listed : Array Bool) (g : G) (st : St), DC md ops listed →
    (∀ j oj, ops[j]? = some oj → j ≠ i → listed.getD j true = false → (∀ e ∈ oj.after, Region.binds md e = true → e.on ≠ i) → oi.apart ops oj = true) →
    (kd i = .b → ∀ j, kd j = .e → listed.getD j true = false → j < ops.size → ∃ f, waitsB md ops i f j = true) →
    i ∈ Region.ready md ops listed → gYields P ops n (kd i) oi p g st → gAny P md ops n kd Q fuel (listed.setIfInBounds i true) (gput g oi.dst p) st → gAny P md ops n kd Q (fuel + 1) listed g st := by
  intro fuel
  induction fuel with
  | zero =>
    intro listed g st hdc _ _ hr hy H
    refine ⟨fun h => (by rw [h] at hr; cases hr), fun j hj => ?_⟩
    by_cases hji : j = i
    · subst hji; exact hy.op hi H
    · have := ready_mono hj hji
      rw [H.1] at this
      cases this
  | succ fuel ih =>
    intro listed g st hdc hfree hB hr hy H
    refine ⟨fun h => (by rw [h] at hr; cases hr), fun j hj => ?_⟩
    by_cases hji : j = i
    · subst hji; exact hy.op hi H
    · have h1 := H.2 j (ready_mono hj hji)
      obtain ⟨hjun, oj, hoj, hall⟩ := mem_ready.1 hj
      have hiun := (mem_ready.1 hr).1
      have hnot : ∀ e ∈ oj.after, Region.binds md e = true → e.on ≠ i := fun e he hb heq => by
        have h1 := hall e he hb
        rw [heq] at h1
        have h2 := listed_false hiun
        rw [h1] at h2; cases h2
      have hlt : j < ops.size := (Array.getElem?_eq_some_iff.1 hoj).1
      have hbj : kd i = .b → kd j ≠ .e := fun hb he => by
        obtain ⟨f, hw⟩ := hB hb j he hjun hlt
        exact waits_ready hdc hw hiun hj
      have h2 := gOp_put hoj (hfree j oj hoj hji hjun hnot) hy hbj h1
      refine gOp_mono (fun g' s' h3 => ih (listed.setIfInBounds j true) g' s' (hdc.set hj) (fun k ok hk hki hun hno => ?_) (fun hb k hk hun hkl => ?_) (ready_mono hr (Ne.symm hji)) h3.1 ?_) h2
      · refine hfree k ok hk hki ?_ hno
        by_cases hjk : j = k
        · subst hjk; exact hjun
        · rw [getD_set_ne true hjk] at hun; exact hun
      · refine hB hb k hk ?_ hkl
        by_cases hjk : j = k
        · subst hjk; exact hjun
        · rw [getD_set_ne true hjk] at hun; exact hun
      · rw [Array.setIfInBounds_comm _ _ hji]
        exact h3.2
/-- may it be taken now, whatever else waits? -/
def freeB (md : Region.Mode) (ops : Array Oper) (i : Nat) (listed : Array Bool) : Bool :=
  match ops[i]? with
  | none => false
  | some oi => (List.range ops.size).all fun j => j == i || listed.getD j true ||
      (match ops[j]? with
       | none => true
       | some oj => (oj.after.any fun e => Region.binds md e && e.on == i) || oi.apart ops oj)
def kdOf (order : List (Nat × Kd)) (i : Nat) : Kd :=
  match order with
  | [] => .a
  | (j, k) :: r => if j = i then k else kdOf r i
def orderB (md : Region.Mode) (ops : Array Oper) (all : List (Nat × Kd)) : List (Nat × Kd) → Array Bool → Bool
  | [], listed => (Region.ready md ops listed).isEmpty
  | (i, k) :: rest, listed => (Region.ready md ops listed).contains i && (kdOf all i == k) &&
      (match k with
       | .a => freeB md ops i listed
       | .b => freeB md ops i listed && (List.range ops.size).all fun j => !(kdOf all j == .e) || listed.getD j true || waitsB md ops i ops.size j
       | .e => Region.ready md ops listed == [i]) && orderB md ops all rest (listed.setIfInBounds i true)
/-- the operations, in such an order -/
def POrd (P : Program) (n : Nat) (ops : Array Oper) (Q : PF → St → Prop) : List (Nat × Kd) → PF → St → Prop
  | [], fr, st => Q fr st
  | (i, k) :: rest, fr, st => ∃ o, ops[i]? = some o ∧ (∀ d, o.dst = some d → d < n) ∧
    ((fr.wants ops o = some false ∧ POrd P n ops Q rest (fr.put o.dst (.tup [])) st) ∨
     (fr.wants ops o = some true ∧
      match k with
      | .a => ∃ p, (∀ s, POp P o fr.eval s fun q s' => q = p ∧ s' = s) ∧ POrd P n ops Q rest (fr.put o.dst p) st
      | .b => ∃ p, (POp P o fr.eval st fun q s' => q = p ∧ s' = st) ∧ POrd P n ops Q rest (fr.put o.dst p) st
      | .e => POp P o fr.eval st fun p s' => POrd P n ops Q rest (fr.put o.dst p) s'))
theorem gAny_ord {Q : PF → St → Prop} {all : List (Nat × Kd)} : ∀ (l : List (Nat × Kd)) (listed : Array Bool) (fr : PF) (st : St), DC md ops listed → orderB md ops all l listed = true → POrd P n ops Q l fr st → gAny P md ops n (kdOf all) (fun g s => ∃ fr : PF, fr.get = g ∧ Q fr s) l.length listed fr.get st := by
  intro l
  induction l with
  | nil => intro listed fr st _ hB h; exact ⟨by simpa [orderB] using hB, fr, rfl, h⟩
  | cons x rest ih =>
    intro listed fr st hdc hB h
    obtain ⟨i, k⟩ := x
    simp only [orderB, Bool.and_eq_true] at hB
    obtain ⟨⟨⟨hr, hk⟩, hB1⟩, hB2⟩ := hB
    have hr' : i ∈ Region.ready md ops listed := by simpa using hr
    have hk' : kdOf all i = k := by simpa using hk
    obtain ⟨o, ho, hd, h⟩ := h
    have free : freeB md ops i listed = true → ∀ j oj, ops[j]? = some oj → j ≠ i → listed.getD j true = false → (∀ e ∈ oj.after, Region.binds md e = true → e.on ≠ i) → o.apart ops oj = true := by
      intro hf j oj hj hji hun hno
      unfold freeB at hf
      rw [ho] at hf
      simp only [List.all_eq_true, List.mem_range] at hf
      have hlt : j < ops.size := (Array.getElem?_eq_some_iff.1 hj).1
      have := hf j hlt
      rw [hj] at this
      simp only [hun, Bool.or_false, Bool.or_eq_true, beq_iff_eq] at this
      rcases this with h | h | h
      · exact absurd h hji
      · obtain ⟨e, he, h⟩ := Array.any_eq_true'.1 h
        simp only [Bool.and_eq_true, beq_iff_eq] at h
        exact absurd h.2 (hno e he h.1)
      · exact h
    have nxt : ∀ p s, POrd P n ops Q rest (fr.put o.dst p) s → gAny P md ops n (kdOf all) (fun g s => ∃ fr : PF, fr.get = g ∧ Q fr s) rest.length (listed.setIfInBounds i true) (gput fr.get o.dst p) s := fun p s hp => by
      rw [← gput_get]; exact ih _ _ s (hdc.set hr') hB2 hp
    cases k with
    | a =>
      have hy : ∃ p, gYields P ops n (kdOf all i) o p fr.get st ∧ POrd P n ops Q rest (fr.put o.dst p) st := by
        rw [hk']
        rcases h with ⟨h1, h2⟩ | ⟨h1, p, h2, h3⟩
        · exact ⟨_, ⟨hd, .inl ⟨by rw [gwants_get]; exact h1, rfl⟩⟩, h2⟩
        · exact ⟨p, ⟨hd, .inr ⟨by rw [gwants_get]; exact h1, by rw [geval_get]; exact h2⟩⟩, h3⟩
      obtain ⟨p, hy, hp⟩ := hy
      exact gAny_first ho _ listed _ st hdc (free hB1) (fun hb => by rw [hk'] at hb; cases hb) hr' hy (nxt p st hp)
    | b =>
      have hy : ∃ p, gYields P ops n (kdOf all i) o p fr.get st ∧ POrd P n ops Q rest (fr.put o.dst p) st := by
        rw [hk']
        rcases h with ⟨h1, h2⟩ | ⟨h1, p, h2, h3⟩
        · exact ⟨_, ⟨hd, .inl ⟨by rw [gwants_get]; exact h1, rfl⟩⟩, h2⟩
        · exact ⟨p, ⟨hd, .inr ⟨by rw [gwants_get]; exact h1, by rw [geval_get]; exact h2⟩⟩, h3⟩
      obtain ⟨p, hy, hp⟩ := hy
      simp only [Bool.and_eq_true] at hB1
      refine gAny_first ho _ listed _ st hdc (free hB1.1) (fun _ j hj hun hlt => ?_) hr' hy (nxt p st hp)
      have := List.all_eq_true.1 hB1.2 j (List.mem_range.2 hlt)
      simp only [hj, hun, Bool.or_false] at this
      exact ⟨_, by simpa using this⟩
    | e =>
      have hsole : Region.ready md ops listed = [i] := by simpa using hB1
      refine ⟨fun h0 => (by rw [h0] at hr'; cases hr'), fun j hj => ?_⟩
      rw [hsole] at hj
      obtain rfl := List.mem_singleton.1 hj
      unfold gOp
      rw [ho]
      refine ⟨hd, ?_⟩
      rcases h with ⟨h1, h2⟩ | ⟨h1, h2⟩
      · exact .inl ⟨by rw [gwants_get]; exact h1, nxt _ st h2⟩
      · refine .inr ⟨by rw [gwants_get]; exact h1, ?_⟩
        rw [hk']
        simp only
        rw [geval_get]
        exact h2.mono fun p s hs => nxt p s hs
/-- a region that draws its order -/
theorem PW_drawn {id : Nat} {Q : Exit → PF → St → Prop} {fr : PF} {st : St} (order : List (Nat × Kd)) (hm : P.follows .mixedOrders = true) (hlen : order.length = ops.size) (hB : orderB .any ops order order (Array.replicate ops.size false) = true) (h : POrd P n ops (Q .normal) order fr st) : PW P n (.region id ops true) Q fr st := by
  intro F K w a hr hf
  have hdc : DC .any ops (Array.replicate ops.size false) := fun j o ho hj => by
    exfalso
    have hlt : j < ops.size := (Array.getElem?_eq_some_iff.1 ho).1
    simp [hlt] at hj
  have hx : Ext F K w K { w with drawn := w.drawn + 1 } := ⟨rfl, rfl, rfl, Nat.le_refl _, fun _ _ => rfl, fun _ _ h => ⟨h, rfl⟩, fun _ _ h => .inl h, fun _ _ h => h, fun g u h => ⟨u, h, .inl rfl⟩, fun _ _ => rfl⟩
  have hr2 : Rel F st K { w with drawn := w.drawn + 1 } := ⟨hr.kc, hr.ff, hr.fin, hr.fi, fun e he => (hr.ents e he).keep hx (fun _ _ => rfl) (fun _ _ _ h => h) fun _ _ => rfl, hr.nb, hr.nt⟩
  have hany := gAny_ord (md := .any) order _ fr st hdc hB h
  rw [hlen] at hany
  exact wp_region_any hm (wpAny_gAny (K0 := K) (w0 := w) (F := F) (Q := fun g s => ∃ fr : PF, fr.get = g ∧ Q .normal fr s) (fun K' w' a' g' st' h1 h2 h3 ⟨fr', e, h4⟩ => ⟨K', fr', st', h1, h2, by subst e; exact h3.fr, h4⟩) _ _ _ st K _ a hx hr2 (hf.mono hx).fg hany)
end
end Go.Proofs.Ytfnfbbmegdkhjaa

namespace Go.Proofs.Ytfnfbbmegdkhjaa
open Go.RowKit
set_option linter.unusedVariables false
section
variable {P : Program} {n : Nat} {ops : Array Oper} {Q : PF → St → Prop} {rest : List Oper} {fr : PF} {st : St} {p : PV} {op : Op} {ty : TypeId} {pos : String} {after : Array Edge}
theorem Qh (h : Q fr st) : POps P n ops Q [] fr st := h
theorem POps_s {d : Nat} (hd : d < n) (he : nev P (PF.eval fr) op = some p) (h : POps P n ops Q rest ((d, p) :: fr) st) : POps P n ops Q (⟨some d, op, ty, pos, after, none⟩ :: rest) fr st :=
  ⟨fun _ e => by cases e; exact hd, .inl ⟨rfl, (nev_ok (o := ⟨some d, op, ty, pos, after, none⟩) he st).mono fun q s ⟨e1, e2⟩ => by subst e1; subst e2; exact h⟩⟩
theorem POps_b {d : Nat} (hd : d < n) (he : nevB P st (PF.eval fr) op = some p) (h : POps P n ops Q rest ((d, p) :: fr) st) : POps P n ops Q (⟨some d, op, ty, pos, after, none⟩ :: rest) fr st :=
  ⟨fun _ e => by cases e; exact hd, .inl ⟨rfl, (nevB_ok (o := ⟨some d, op, ty, pos, after, none⟩) he).mono fun q s ⟨e1, e2⟩ => by subst e1; subst e2; exact h⟩⟩
/-- under a guard that is wanted, that is not -/
theorem POps_gs {d : Nat} {gd : Option (Nat × Bool)} (hd : d < n) (hw : PF.wants fr ops ⟨some d, op, ty, pos, after, gd⟩ = some true) (he : nev P (PF.eval fr) op = some p) (h : POps P n ops Q rest ((d, p) :: fr) st) : POps P n ops Q (⟨some d, op, ty, pos, after, gd⟩ :: rest) fr st :=
  ⟨fun _ e => by cases e; exact hd, .inl ⟨hw, (nev_ok (o := ⟨some d, op, ty, pos, after, gd⟩) he st).mono fun q s ⟨e1, e2⟩ => by subst e1; subst e2; exact h⟩⟩
theorem POps_gb {d : Nat} {gd : Option (Nat × Bool)} (hd : d < n) (hw : PF.wants fr ops ⟨some d, op, ty, pos, after, gd⟩ = some true) (he : nevB P st (PF.eval fr) op = some p) (h : POps P n ops Q rest ((d, p) :: fr) st) : POps P n ops Q (⟨some d, op, ty, pos, after, gd⟩ :: rest) fr st :=
  ⟨fun _ e => by cases e; exact hd, .inl ⟨hw, (nevB_ok (o := ⟨some d, op, ty, pos, after, gd⟩) he).mono fun q s ⟨e1, e2⟩ => by subst e1; subst e2; exact h⟩⟩
theorem POps_gn {d : Nat} {gd : Option (Nat × Bool)} (hd : d < n) (hw : PF.wants fr ops ⟨some d, op, ty, pos, after, gd⟩ = some false) (h : POps P n ops Q rest ((d, .tup []) :: fr) st) : POps P n ops Q (⟨some d, op, ty, pos, after, gd⟩ :: rest) fr st :=
  ⟨fun _ e => by cases e; exact hd, .inr ⟨hw, h⟩⟩
/-- an operation that acts -/
theorem POps_e {d : Nat} {gd : Option (Nat × Bool)} (hd : d < n) (hw : PF.wants fr ops ⟨some d, op, ty, pos, after, gd⟩ = some true) (h : POp P ⟨some d, op, ty, pos, after, gd⟩ fr.eval st fun p st' => POps P n ops Q rest ((d, p) :: fr) st') : POps P n ops Q (⟨some d, op, ty, pos, after, gd⟩ :: rest) fr st :=
  ⟨fun _ e => by cases e; exact hd, .inl ⟨hw, h⟩⟩
theorem POps_e0 {gd : Option (Nat × Bool)} (hw : PF.wants fr ops ⟨none, op, ty, pos, after, gd⟩ = some true) (h : POp P ⟨none, op, ty, pos, after, gd⟩ fr.eval st fun _ st' => POps P n ops Q rest fr st') : POps P n ops Q (⟨none, op, ty, pos, after, gd⟩ :: rest) fr st :=
  ⟨fun _ e => (by cases e), .inl ⟨hw, h⟩⟩
theorem Qc {id : Nat} {l : List Oper} {Q : Exit → PF → St → Prop} (h : POps P n l.toArray (Q .normal) l fr st) : PW P n (.region id l.toArray false) Q fr st := PW_region (by simpa using h)
theorem Qj {next : PF → St → Prop} {Q : Exit → PF → St → Prop} (h : next fr st) : thenP next Q .normal fr st := h
theorem Qk {next : PF → St → Prop} {Q : Exit → PF → St → Prop} {id : Nat} (h : Q (.exit id) fr st) : thenP next Q (.exit id) fr st := h
theorem Ql {next : PF → St → Prop} {Q : Exit → PF → St → Prop} (h : Q .ret fr st) : thenP next Q .ret fr st := h
theorem Qm {Q : Exit → PF → St → Prop} {id : Nat} (h : Q .normal fr st) : blockP id Q .normal fr st := h
theorem Qn {Q : Exit → PF → St → Prop} {id : Nat} (h : Q .ret fr st) : blockP id Q .ret fr st := h
theorem Qo {Q : Exit → PF → St → Prop} {id : Nat} (h : Q .normal fr st) : blockP id Q (.exit id) fr st := by simp only [blockP, if_true]; exact h
theorem Qp {Q : Exit → PF → St → Prop} {id id' : Nat} (hne : Nat.beq id' id = false) (h : Q (.exit id') fr st) : blockP id Q (.exit id') fr st := by
  have : id' ≠ id := fun e => by subst e; rw [Nat.beq_refl] at hne; cases hne
  simp only [blockP, if_neg this]; exact h
/-- the end -/
theorem Jl {P : Program} {fn : Func} {R : PV → St → Prop} {rs : List ResultVar} {l : List PV} {st' : St} {e : Exit} (he : e = .normal ∨ e = .ret) (hr : fn.results.toList = rs) (hl : resP P fr st rs = some l) (hs : st'.Sublist st) (h : R (tupP l).norm2 st') : retP P fn R e fr st :=
  ⟨he, l, _, st', by rw [hr]; exact hl, leq_norm2 _, hs, h⟩
theorem retP_keep {P : Program} {fn : Func} {R : PV → St → Prop} {rs : List ResultVar} {l : List PV} {st' : St} {e : Exit} (he : e = .normal ∨ e = .ret) (hr : fn.results.toList = rs) (hl : resP P fr st rs = some l) (hs : st'.Sublist st) (h : R (tupP l) st') : retP P fn R e fr st :=
  ⟨he, l, _, st', by rw [hr]; exact hl, Leq.refl _, hs, h⟩
def PF.keep (fr : PF) (l : List Nat) : PF := l.filterMap fun t => (fr.get t).map fun p => (t, p)
/-- a condition that is known -/
theorem PW_cond_t {c : Operand} {x y : Code} {Q : Exit → PF → St → Prop} (hc : fr.eval c = some (.d (.v (.bool true)))) (h : PW P n x Q fr st) : PW P n (.cond c x y) Q fr st := PW_cond hc (fun _ => h) (fun e => by cases e)
theorem PW_cond_f {c : Operand} {x y : Code} {Q : Exit → PF → St → Prop} (hc : fr.eval c = some (.d (.v (.bool false)))) (h : PW P n y Q fr st) : PW P n (.cond c x y) Q fr st := PW_cond hc (fun e => by cases e) (fun _ => h)
end
end Go.Proofs.Ytfnfbbmegdkhjaa

namespace Go.Proofs.Ytfnfbbmegdkhjaa
open Go.RowKit
set_option linter.unusedVariables false
mutual
def dtD : Dt → D
  | .v x => .v x
  | .str s => .v (.string s)
  | .s _ l => .sl (dtLL l)
def dtL : List Dt → List D
  | [] => []
  | d :: r => dtD d :: dtL r
def dtLL : List (List Dt) → List (List D)
  | [] => []
  | d :: r => dtL d :: dtLL r
end
theorem dtL_map (l : List Dt) : dtL l = l.map dtD := by
  induction l with
  | nil => rfl
  | cons d r ih => simp only [dtL, List.map_cons, ih]
theorem dtLL_map (l : List (List Dt)) : dtLL l = l.map dtL := by
  induction l with
  | nil => rfl
  | cons d r ih => simp only [dtLL, List.map_cons, ih]
/-- rows are as long as they are told to be; what stands in one cell is no text -/
inductive DtOk : Dt → Prop
  | v {x} : okv x → DtOk (.v x)
  | str {s} : DtOk (.str s)
  | s {sz l} : 0 < sz → (∀ f ∈ l, f.length = sz) → (∀ f ∈ l, ∀ d ∈ f, DtOk d) → DtOk (.s sz l)
class EncOk (α : Type) [Enc α] : Prop where
  ok : ∀ a : α, ∀ d ∈ Enc.enc a, DtOk d
def encD {α : Type} [Enc α] (a : α) : List D := dtL (Enc.enc a)
theorem encD_len {α : Type} [Enc α] (a : α) : (encD a).length = Enc.sz α := by unfold encD; rw [dtL_map, List.length_map]; exact Enc.len a
theorem RepF.of {S : Nat → Prop} {w : World} : ∀ {ds : List Dt} {cs : List Value}, cs.length = ds.length → (∀ (i : Nat) (d : Dt) (v : Value), ds[i]? = some d → cs[i]? = some v → RepV S w d v) → RepF S w ds cs := by
  intro ds
  induction ds with
  | nil => intro cs hl _; simp only [RepF]; exact List.eq_nil_of_length_eq_zero hl
  | cons d r ih =>
    intro cs hl h
    match cs, hl with
    | c :: cr, hl =>
      simp only [RepF]
      exact ⟨c, cr, rfl, h 0 d c rfl rfl, ih (by simpa using hl) fun i d' v h1 h2 => h (i + 1) d' v (by simpa using h1) (by simpa using h2)⟩
theorem RepF.get {S : Nat → Prop} {w : World} : ∀ {ds : List Dt} {cs : List Value}, RepF S w ds cs → ∀ (i : Nat) (d : Dt) (v : Value), ds[i]? = some d → cs[i]? = some v → RepV S w d v := by
  intro ds
  induction ds with
  | nil => intro cs h i d v hd; simp at hd
  | cons d r ih =>
    intro cs h i d' v hd hv
    simp only [RepF] at h
    obtain ⟨c, cr, rfl, h1, h2⟩ := h
    cases i with
    | zero =>
      have e1 := Option.some.inj hd
      have e2 := Option.some.inj hv
      subst e1; subst e2; exact h1
    | succ i => exact ih h2 i d' v (by simpa using hd) (by simpa using hv)
/-- data of the new kind as data of the old kind -/
theorem repV_of {K : Nat → Nat → Prop} {w : World} : ∀ (d : Dt), DtOk d → ∀ v, RelD K w (dtD d) v → RepV (fun _ => True) w d v := by
  refine Dt.ind ?_ ?_ ?_
  · intro x ho v h
    simp only [dtD] at h
    simp only [RepV]
    cases h with
    | v h => exact ⟨rfl, okv_one h⟩
  · intro s ho v h
    simp only [dtD] at h
    simp only [RepV]
    cases h with
    | v h => exact ⟨rfl, h⟩
  · intro sz l ih ho v h
    simp only [dtD, dtLL_map] at h
    simp only [RepV]
    cases ho with
    | s h0 h1 h2 =>
    by_cases hne : l = []
    · subst hne
      simp only [List.map_nil] at h
      cases h with
      | nil hc => exact ⟨[], ⟨_, _, rfl, Nat.zero_le _, hc, fun h => absurd rfl h⟩, by simp only [RepL]⟩
      | sl vals q1 q2 q3 q4 q5 => exact ⟨[], ⟨_, _, rfl, Nat.zero_le _, q2, fun h => absurd rfl h⟩, by simp only [RepL]⟩
    · generalize hrows : l.map dtL = rows at h
      cases h with
      | nil hc => exact absurd (List.map_eq_nil_iff.1 hrows) hne
      | @sl sz' _ b off cap vals q1 q2 q3 q4 q5 =>
        have hlen : rows.length = l.length := by rw [← hrows, List.length_map]
        have hrow : ∀ (i : Nat) (f : List Dt), l[i]? = some f → rows[i]? = some (dtL f) := fun i f hi => by rw [← hrows, List.getElem?_map, hi]; rfl
        have hsz : sz' = sz := by
          obtain ⟨f, hf⟩ := List.exists_mem_of_ne_nil l hne
          have := q3 (dtL f) (by rw [← hrows]; exact List.mem_map.2 ⟨f, hf, rfl⟩)
          rw [← this, dtL_map, List.length_map, h1 f hf]
        subst hsz
        have hd : ∀ (i j : Nat) (f : List Dt) (d : Dt), l[i]? = some f → f[j]? = some d → (dtL f)[j]? = some (dtD d) := fun i j f d _ hj => by rw [dtL_map, List.getElem?_map, hj]; rfl
        have hl0 : 0 < l.length := List.length_pos_iff.2 hne
        refine ⟨(List.range l.length).map fun i => (List.range sz').map fun j => vals i j, ⟨some ⟨b, off, none⟩, cap, by simp [hlen], by simp; omega, q2, fun _ => ?_⟩, RepL.mk (by simp) fun i hi => ?_⟩
        · refine ⟨b, off, rfl, trivial, ?_, fun i c hic => ?_⟩
          · have hf0 : l[0]? = some l[0] := List.getElem?_eq_getElem hl0
            have hlz : 0 < (l[0]).length := by rw [h1 _ (List.getElem_mem hl0)]; exact h0
            have hj : (l[0])[0]? = some ((l[0])[0]) := List.getElem?_eq_getElem hlz
            have := (q4 0 0 _ _ (hrow 0 _ hf0) (hd 0 0 _ _ hf0 hj)).2
            exact World.block_lt_of_cell? w _ this
          · have hil : i < l.length := by
              have := (List.getElem?_eq_some_iff.1 hic).1
              simpa using this
            rw [List.getElem?_map, List.getElem?_range hil, Option.map_some, Option.some.injEq] at hic
            subst hic
            refine ⟨by simp, fun j x hx => ?_⟩
            have hjl : j < sz' := by
              have := (List.getElem?_eq_some_iff.1 hx).1
              simpa using this
            rw [List.getElem?_map, List.getElem?_range hjl, Option.map_some, Option.some.injEq] at hx
            subst hx
            have hfi : l[i]? = some l[i] := List.getElem?_eq_getElem hil
            have hlz : j < (l[i]).length := by rw [h1 _ (List.getElem_mem hil)]; exact hjl
            exact (q4 i j _ _ (hrow i _ hfi) (hd i j _ _ hfi (List.getElem?_eq_getElem hlz))).2
        · refine ⟨(List.range sz').map fun j => vals i j, by rw [List.getElem?_map, List.getElem?_range hi]; rfl, RepF.of (by rw [h1 _ (List.getElem_mem hi)]; simp) fun j d v hj hv => ?_⟩
          have hjl : j < sz' := by
            have := (List.getElem?_eq_some_iff.1 hv).1
            simpa using this
          rw [List.getElem?_map, List.getElem?_range hjl, Option.map_some, Option.some.injEq] at hv
          subst hv
          have hfi : l[i]? = some l[i] := List.getElem?_eq_getElem hi
          have hm : d ∈ l[i] := List.mem_of_getElem? hj
          exact ih _ (List.getElem_mem hi) d hm (h2 _ (List.getElem_mem hi) d hm) _ (q5 i j _ _ (hrow i _ hfi) (hd i j _ _ hfi hj))
/-- and back: cells in such blocks are kept -/
theorem relD_of {S : Nat → Prop} {K : Nat → Nat → Prop} {w : World} (hK : ∀ b o v, S b → w.cell? ⟨b, o, none⟩ = some v → K b o) : ∀ (d : Dt), DtOk d → ∀ v, RepV S w d v → RelD K w (dtD d) v := by
  refine Dt.ind ?_ ?_ ?_
  · intro x ho v h
    simp only [dtD]
    simp only [RepV] at h
    obtain ⟨rfl, h⟩ := h
    cases ho with
    | v h => exact .v h
  · intro s ho v h
    simp only [dtD]
    simp only [RepV] at h
    obtain ⟨rfl, h⟩ := h
    exact .v h
  · intro sz l ih ho v h
    simp only [dtD, dtLL_map]
    simp only [RepV] at h
    obtain ⟨css, ⟨a, cap, rfl, hle, hm, hc⟩, hr⟩ := h
    cases ho with
    | s h0 h1 h2 =>
    have hlen := hr.length
    by_cases hne : l = []
    · subst hne
      have : css = [] := List.eq_nil_of_length_eq_zero (by rw [hlen]; rfl)
      subst this
      exact .nil hm
    · obtain ⟨b, off, rfl, hS, hbl, hcell⟩ := hc (by intro e; rw [e] at hlen; exact hne (List.eq_nil_of_length_eq_zero hlen.symm))
      have key : ∀ (i j : Nat) (row : List D) (d : D), (l.map dtL)[i]? = some row → row[j]? = some d → ∃ x, w.cell? ⟨b, off + i * sz + j, none⟩ = some x ∧ RelD K w d x := by
        intro i j row d hi hj
        rw [List.getElem?_map] at hi
        obtain ⟨f, hf, rfl⟩ := Option.map_eq_some_iff.1 hi
        rw [dtL_map, List.getElem?_map] at hj
        obtain ⟨e, he, rfl⟩ := Option.map_eq_some_iff.1 hj
        obtain ⟨hil, rfl⟩ := List.getElem?_eq_some_iff.1 hf
        obtain ⟨c, hci, hrf⟩ := hr.get i hil
        have hcl := hrf.length
        have hjl := (List.getElem?_eq_some_iff.1 he).1
        have hcj : c[j]? = some c[j] := List.getElem?_eq_getElem (by omega)
        have hm : e ∈ l[i] := List.mem_of_getElem? he
        exact ⟨c[j], (hcell i c hci).2 j _ hcj, ih _ (List.getElem_mem hil) e hm (h2 _ (List.getElem_mem hil) e hm) _ (hrf.get j e _ he hcj)⟩
      have hfin := RelD.sl (K := K) (w := w) (sz := sz) (rows := l.map dtL) (b := b) (off := off) (cap := cap) (fun i j => (w.cell? ⟨b, off + i * sz + j, none⟩).getD undef) (by rw [List.length_map]; omega) hm (fun row hrow => by
        obtain ⟨f, hf, rfl⟩ := List.mem_map.1 hrow
        rw [dtL_map, List.length_map, h1 f hf]) (fun i j row d hi hj => by
          obtain ⟨x, hx, _⟩ := key i j row d hi hj
          exact ⟨hK b _ x hS hx, by rw [hx]; rfl⟩) fun i j row d hi hj => by
          obtain ⟨x, hx, hd⟩ := key i j row d hi hj
          rw [hx]; exact hd
      rw [List.length_map] at hfin
      rw [hlen]
      exact hfin
theorem relS_of {α : Type} [Enc α] [EncOk α] {S : Nat → Prop} {K : Nat → Nat → Prop} {w : World} (hK : ∀ b o v, S b → w.cell? ⟨b, o, none⟩ = some v → K b o) (h0 : 0 < Enc.sz α) {v : Value} {l : List α} (h : RepS S w v l) : RelD K w (.sl (l.map encD)) v := by
  have := relD_of hK _ (DtOk.s h0 (fun f hf => by obtain ⟨a, _, rfl⟩ := List.mem_map.1 hf; exact Enc.len a) fun f hf d hd => by obtain ⟨a, _, rfl⟩ := List.mem_map.1 hf; exact EncOk.ok a d hd) v h
  simp only [dtD, dtLL_map, List.map_map] at this
  exact this
/-- a struct by value -/
def aggD {α : Type} [Enc α] (a : α) : PV := .agg ((encD a).map .d)
theorem rep_rel {α : Type} [Enc α] [EncOk α] {K : Kp} {w : World} {a : α} {v : Value} (h : RelV K w (aggD a) v) : ∃ cs : List Value, v = .agg cs.toArray ∧ Rep (fun _ => True) w a cs := by
  unfold aggD at h
  cases h with
  | @agg _ vs h1 h2 =>
    refine ⟨vs.toList, by simp, RepF.of (by rw [List.length_map, encD_len] at h1; rw [Enc.len]; simpa using h1) fun i d v hd hv => ?_⟩
    have hi : (encD a)[i]? = some (dtD d) := by unfold encD; rw [dtL_map, List.getElem?_map, hd]; rfl
    have := h2 i (.d (dtD d)) v (by rw [List.getElem?_map, hi]; rfl) (by simpa using hv)
    cases this with
    | d h => exact repV_of d (EncOk.ok a d (List.mem_of_getElem? hd)) v h
theorem rel_rep {α : Type} [Enc α] [EncOk α] {S : Nat → Prop} {K : Kp} {w : World} (hK : ∀ b o v, S b → w.cell? ⟨b, o, none⟩ = some v → K.cell b o) {a : α} {cs : List Value} (h : Rep S w a cs) : RelV K w (aggD a) (.agg cs.toArray) := by
  have hl := h.length
  unfold aggD
  refine .agg (by rw [List.length_map, encD_len]; simpa using hl) fun i p v hp hv => ?_
  rw [List.getElem?_map] at hp
  obtain ⟨x, hx, rfl⟩ := Option.map_eq_some_iff.1 hp
  unfold encD at hx
  rw [dtL_map, List.getElem?_map] at hx
  obtain ⟨d, hd, rfl⟩ := Option.map_eq_some_iff.1 hx
  exact .d (relD_of hK d (EncOk.ok a d (List.mem_of_getElem? hd)) v (RepF.get h i d v hd (by simpa using hv)))
theorem ndD_ok : ∀ (t : Nd), ∀ d ∈ ndD t, DtOk d := by
  refine Nd.ind ?_
  intro k a s n sub ih d hd
  simp only [ndD, List.mem_cons, List.not_mem_nil, or_false] at hd
  rcases hd with rfl | rfl | rfl | rfl | rfl
  · exact .v trivial
  · exact .v trivial
  · exact .str
  · exact .v trivial
  · refine .s (by decide) (fun f hf => ?_) fun f hf d hd => ?_
    · rw [ndDs_map] at hf; obtain ⟨t, _, rfl⟩ := List.mem_map.1 hf; exact ndD_len t
    · rw [ndDs_map] at hf; obtain ⟨t, ht, rfl⟩ := List.mem_map.1 hf; exact ih t ht d hd
instance : EncOk Nd := ⟨ndD_ok⟩
theorem okList {α : Type} [Enc α] [EncOk α] (h0 : 0 < Enc.sz α) (l : List α) : DtOk (.s (Enc.sz α) (l.map Enc.enc)) :=
  .s h0 (fun f hf => by obtain ⟨a, _, rfl⟩ := List.mem_map.1 hf; exact Enc.len a) fun f hf d hd => by obtain ⟨a, _, rfl⟩ := List.mem_map.1 hf; exact EncOk.ok a d hd
instance : EncOk Bd := ⟨fun b d hd => by
  simp only [Enc.enc, List.mem_append, List.mem_cons, List.not_mem_nil, or_false] at hd
  rcases hd with (rfl | rfl) | hd
  · exact .str
  · exact .v trivial
  · exact ndD_ok _ d hd⟩
instance : EncOk Rw := ⟨fun b d hd => by
  simp only [Enc.enc, List.mem_append, List.mem_cons, List.not_mem_nil, or_false] at hd
  rcases hd with (rfl | rfl | rfl) | hd
  · exact .v trivial
  · exact okList (α := Nd) (by decide) b.pats
  · exact .v trivial
  · exact ndD_ok _ d hd⟩
instance : EncOk Dc := ⟨fun b d hd => by
  simp only [Enc.enc, List.mem_append, List.mem_cons, List.not_mem_nil, or_false] at hd
  rcases hd with (rfl | rfl | rfl | rfl) | hd | rfl | rfl
  · exact .v trivial
  · exact .v trivial
  · exact .str
  · exact okList (α := Bd) (by decide) b.tele
  · exact ndD_ok _ d hd
  · exact okList (α := Bd) (by decide) b.cons
  · exact okList (α := Rw) (by decide) b.rows⟩
instance : EncOk ByteArray := ⟨fun b d hd => by
  simp only [Enc.enc, List.mem_cons, List.not_mem_nil, or_false] at hd
  subst hd; exact .str⟩
instance : EncOk Int := ⟨fun b d hd => by
  simp only [Enc.enc, List.mem_cons, List.not_mem_nil, or_false] at hd
  subst hd; exact .v trivial⟩
/-- the cells of each -/
def slD {α : Type} [Enc α] (l : List α) : D := .sl (l.map encD)
theorem Jg (t : Nd) : encD t = [.v (.int .i64 t.kind), .v (.int .i64 t.at), .v (.string t.name), .v (.int .i64 t.num), .sl (t.sub.map encD)] := by
  cases t with
  | mk k a s n sub =>
    unfold encD
    simp only [Enc.enc, ndD, dtL, dtD, dtLL_map, ndDs_map, List.map_map, Nd.kind, Nd.at, Nd.name, Nd.num, Nd.sub]
    rfl
theorem dtL_append (a b : List Dt) : dtL (a ++ b) = dtL a ++ dtL b := by rw [dtL_map, dtL_map, dtL_map, List.map_append]
theorem Jj (b : Bd) : encD b = [.v (.string b.name), .v (.int .i64 b.at_), .v (.int .i64 b.ty.kind), .v (.int .i64 b.ty.at), .v (.string b.ty.name), .v (.int .i64 b.ty.num), .sl (b.ty.sub.map encD)] := by
  have h := Jg b.ty
  unfold encD at h ⊢
  simp only [Enc.enc] at h ⊢
  rw [dtL_append, h]; rfl
theorem Jh (r : Rw) : encD r = [.v (.int .i64 r.at_), .sl (r.pats.map encD), .v (.bool r.has), .v (.int .i64 r.body.kind), .v (.int .i64 r.body.at), .v (.string r.body.name), .v (.int .i64 r.body.num), .sl (r.body.sub.map encD)] := by
  have h := Jg r.body
  unfold encD at h ⊢
  simp only [Enc.enc] at h ⊢
  rw [dtL_append, h]
  simp only [dtL, dtD, dtLL_map, List.map_map]; rfl
theorem Ji (d : Dc) : encD d = [.v (.int .i64 d.kind), .v (.int .i64 d.at_), .v (.string d.name), .sl (d.tele.map encD), .v (.int .i64 d.ty.kind), .v (.int .i64 d.ty.at), .v (.string d.ty.name), .v (.int .i64 d.ty.num), .sl (d.ty.sub.map encD), .sl (d.cons.map encD), .sl (d.rows.map encD)] := by
  have h := Jg d.ty
  unfold encD at h ⊢
  simp only [Enc.enc] at h ⊢
  rw [dtL_append, dtL_append, h]
  simp only [dtL, dtD, dtLL_map, List.map_map]; rfl
theorem Jf (s : ByteArray) : encD s = [.v (.string s)] := rfl
theorem Je (n : Int) : encD n = [.v (.int .i64 n)] := rfl
end Go.Proofs.Ytfnfbbmegdkhjaa

namespace Go.Proofs.Ytfnfbbmegdkhjaa
open Go.RowKit
set_option linter.unusedVariables false
section
variable {P : Program} {n : Nat} {ops : Array Oper} {Q : PF → St → Prop} {rest : List Oper} {fr : PF} {st : St} {p : PV} {op : Op} {ty : TypeId} {pos : String} {after : Array Edge} {gd : Option (Nat × Bool)}
theorem POps_call {d f : Nat} {xs : Array Operand} {ts : Array TypeId} {ps qs : List PV} {r : PV} (hc : PCalls P f qs [] fun p s => p = r ∧ s = []) (hd : d < n) (hw : PF.wants fr ops ⟨some d, .call { callee := .value (.func f), args := xs, argTypes := ts }, ty, pos, after, gd⟩ = some true) (hxs : Jn fr.eval xs.toList = some ps) (hn : ps.map PV.norm1 = qs) (hca : callable P f = true)
    (h : POps P n ops Q rest ((d, r) :: fr) st) : POps P n ops Q (⟨some d, .call { callee := .value (.func f), args := xs, argTypes := ts }, ty, pos, after, gd⟩ :: rest) fr st :=
  POps_e hd hw ((POp_call0 (o := ⟨some d, .call { callee := .value (.func f), args := xs, argTypes := ts }, ty, pos, after, gd⟩) rfl rfl rfl hxs hca hn hc st).mono fun q s ⟨e1, e2⟩ => by subst e1; subst e2; exact h)
theorem POps_bs {d len : Nat} {t : TypeId} {parts : Array (Nat × Operand)} {E es bytes ts : Nat} {ea : Option Bool} {T0 : Ty} {e0 : Nat × Nat} {cells : List PV} {rows : List (List D)} (hd : d < n) (hw : PF.wants fr ops ⟨some d, .buildSlice t len parts, ty, pos, after, gd⟩ = some true) (hT : tyOf P t = some T0) (hT2 : T0 = ⟨ts, .slice E es ea⟩) (hE : elOf P E = some e0) (hE2 : e0 = (es, bytes)) (h0 : 0 < len * es) (h24 : len * es ≤ 16777216) (hf : fillO (fun i => some (i * es, es)) fr.eval (List.replicate (len * es) .u) parts.toList = some cells) (hr : rowsOf es len cells = some rows)
    (h : POps P n ops Q rest ((d, .d (.sl rows)) :: fr) st) : POps P n ops Q (⟨some d, .buildSlice t len parts, ty, pos, after, gd⟩ :: rest) fr st :=
  POps_e hd hw ((POp_buildSlice (o := ⟨some d, .buildSlice t len parts, ty, pos, after, gd⟩) rfl (hT2 ▸ hT) rfl (hE2 ▸ hE) h0 h24 hf hr st).mono fun q s ⟨e1, e2⟩ => by subst e1; subst e2; exact h)

variable {od : List (Nat × Kd)} {i d : Nat}
theorem Qi (h : Q fr st) : POrd P n ops Q [] fr st := h
theorem POrd_s {k : Kd} (ho : ops[i]? = some ⟨some d, op, ty, pos, after, gd⟩) (hd : d < n) (hw : PF.wants fr ops ⟨some d, op, ty, pos, after, gd⟩ = some true) (he : nev P fr.eval op = some p) (h : POrd P n ops Q od ((d, p) :: fr) st) : POrd P n ops Q ((i, k) :: od) fr st := by
  refine ⟨_, ho, fun _ e => (by cases e; exact hd), .inr ⟨hw, ?_⟩⟩
  have hn := fun s => nev_ok (o := ⟨some d, op, ty, pos, after, gd⟩) he s
  cases k with
  | a => exact ⟨p, hn, h⟩
  | b => exact ⟨p, hn st, h⟩
  | e => exact (hn st).mono fun q s ⟨e1, e2⟩ => by subst e1; subst e2; exact h
theorem POrd_b (ho : ops[i]? = some ⟨some d, op, ty, pos, after, gd⟩) (hd : d < n) (hw : PF.wants fr ops ⟨some d, op, ty, pos, after, gd⟩ = some true) (he : nevB P st fr.eval op = some p) (h : POrd P n ops Q od ((d, p) :: fr) st) : POrd P n ops Q ((i, .b) :: od) fr st :=
  ⟨_, ho, fun _ e => (by cases e; exact hd), .inr ⟨hw, p, nevB_ok (o := ⟨some d, op, ty, pos, after, gd⟩) he, h⟩⟩
theorem POrd_gn {k : Kd} (ho : ops[i]? = some ⟨some d, op, ty, pos, after, gd⟩) (hd : d < n) (hw : PF.wants fr ops ⟨some d, op, ty, pos, after, gd⟩ = some false) (h : POrd P n ops Q od ((d, .tup []) :: fr) st) : POrd P n ops Q ((i, k) :: od) fr st :=
  ⟨_, ho, fun _ e => (by cases e; exact hd), .inl ⟨hw, h⟩⟩
theorem POrd_call {f : Nat} {xs : Array Operand} {ts : Array TypeId} {ps qs : List PV} {r : PV} (hc : PCalls P f qs [] fun p s => p = r ∧ s = []) (ho : ops[i]? = some ⟨some d, .call { callee := .value (.func f), args := xs, argTypes := ts }, ty, pos, after, gd⟩) (hd : d < n) (hw : PF.wants fr ops ⟨some d, .call { callee := .value (.func f), args := xs, argTypes := ts }, ty, pos, after, gd⟩ = some true) (hxs : Jn fr.eval xs.toList = some ps) (hn : ps.map PV.norm1 = qs) (hca : callable P f = true)
    (h : POrd P n ops Q od ((d, r) :: fr) st) : POrd P n ops Q ((i, .a) :: od) fr st :=
  ⟨_, ho, fun _ e => (by cases e; exact hd), .inr ⟨hw, r, fun s => POp_call0 (o := ⟨some d, .call { callee := .value (.func f), args := xs, argTypes := ts }, ty, pos, after, gd⟩) rfl rfl rfl hxs hca hn hc s, h⟩⟩
theorem POrd_bs {len : Nat} {t : TypeId} {parts : Array (Nat × Operand)} {E es bytes ts : Nat} {ea : Option Bool} {T0 : Ty} {e0 : Nat × Nat} {cells : List PV} {rows : List (List D)} (ho : ops[i]? = some ⟨some d, .buildSlice t len parts, ty, pos, after, gd⟩) (hd : d < n) (hw : PF.wants fr ops ⟨some d, .buildSlice t len parts, ty, pos, after, gd⟩ = some true) (hT : tyOf P t = some T0) (hT2 : T0 = ⟨ts, .slice E es ea⟩) (hE : elOf P E = some e0) (hE2 : e0 = (es, bytes)) (h0 : 0 < len * es) (h24 : len * es ≤ 16777216) (hf : fillO (fun i => some (i * es, es)) fr.eval (List.replicate (len * es) .u) parts.toList = some cells) (hr : rowsOf es len cells = some rows)
    (h : POrd P n ops Q od ((d, .d (.sl rows)) :: fr) st) : POrd P n ops Q ((i, .a) :: od) fr st :=
  ⟨_, ho, fun _ e => (by cases e; exact hd), .inr ⟨hw, _, fun s => POp_buildSlice (o := ⟨some d, .buildSlice t len parts, ty, pos, after, gd⟩) rfl (hT2 ▸ hT) rfl (hE2 ▸ hE) h0 h24 hf hr s, h⟩⟩
theorem POrd_e (ho : ops[i]? = some ⟨some d, op, ty, pos, after, gd⟩) (hd : d < n) (hw : PF.wants fr ops ⟨some d, op, ty, pos, after, gd⟩ = some true) (h : POp P ⟨some d, op, ty, pos, after, gd⟩ fr.eval st fun p st' => POrd P n ops Q od ((d, p) :: fr) st') : POrd P n ops Q ((i, .e) :: od) fr st :=
  ⟨_, ho, fun _ e => (by cases e; exact hd), .inr ⟨hw, h⟩⟩
theorem POrd_e0 (ho : ops[i]? = some ⟨none, op, ty, pos, after, gd⟩) (hw : PF.wants fr ops ⟨none, op, ty, pos, after, gd⟩ = some true) (h : POp P ⟨none, op, ty, pos, after, gd⟩ fr.eval st fun _ st' => POrd P n ops Q od fr st') : POrd P n ops Q ((i, .e) :: od) fr st :=
  ⟨_, ho, fun _ e => (by cases e), .inr ⟨hw, h⟩⟩
end
section
variable {P : Program} {n : Nat} {ops : Array Oper} {Q : PF → St → Prop} {rest : List Oper} {fr : PF} {st : St} {p : PV} {ty : TypeId} {pos : String} {after : Array Edge} {gd : Option (Nat × Bool)} {od : List (Nat × Kd)} {j d : Nat}
theorem op_store {t : TypeId} {x y : Operand} {q : PV} {i off : Nat} {T : Ty} {c : TypeId × List PV} {U : TypeId} {cs ps : List PV} {st' : St} {R : PV → St → Prop} {o : Oper} (ho : o.op = .store t x y) (hx : fr.eval x = some q) (hq : q = .ptr i off) (hy : fr.eval y = some p) (hps : p.ps = ps) (hone : ps.all PV.one = true) (hT : tyOf P t = some T) (hsz : ps.length = T.size) (hb : st.box? i = some c) (hc : c = (U, cs)) (hfit : off + ps.length ≤ cs.length) (hs : st.setBox i (spl cs off ps) = st') (h : R (.tup []) st') : POp P o fr.eval st R := by
  subst hq; subst hps; subst hc; subst hs
  exact POp_store ho hx hy hone hT hsz hb hfit h
theorem POps_store {t : TypeId} {x y : Operand} {q : PV} {i off : Nat} {T : Ty} {c : TypeId × List PV} {U : TypeId} {cs ps : List PV} {st' : St} (hw : PF.wants fr ops ⟨none, .store t x y, ty, pos, after, gd⟩ = some true) (hx : fr.eval x = some q) (hq : q = .ptr i off) (hy : fr.eval y = some p) (hps : p.ps = ps) (hone : ps.all PV.one = true) (hT : tyOf P t = some T) (hsz : ps.length = T.size) (hb : st.box? i = some c) (hc : c = (U, cs)) (hfit : off + ps.length ≤ cs.length) (hs : st.setBox i (spl cs off ps) = st')
    (h : POps P n ops Q rest fr st') : POps P n ops Q (⟨none, .store t x y, ty, pos, after, gd⟩ :: rest) fr st :=
  POps_e0 hw (op_store rfl hx hq hy hps hone hT hsz hb hc hfit hs h)
theorem POrd_store {t : TypeId} {x y : Operand} {q : PV} {i off : Nat} {T : Ty} {c : TypeId × List PV} {U : TypeId} {cs ps : List PV} {st' : St} (ho : ops[j]? = some ⟨none, .store t x y, ty, pos, after, gd⟩) (hw : PF.wants fr ops ⟨none, .store t x y, ty, pos, after, gd⟩ = some true) (hx : fr.eval x = some q) (hq : q = .ptr i off) (hy : fr.eval y = some p) (hps : p.ps = ps) (hone : ps.all PV.one = true) (hT : tyOf P t = some T) (hsz : ps.length = T.size) (hb : st.box? i = some c) (hc : c = (U, cs)) (hfit : off + ps.length ≤ cs.length) (hs : st.setBox i (spl cs off ps) = st')
    (h : POrd P n ops Q od fr st') : POrd P n ops Q ((j, .e) :: od) fr st :=
  POrd_e0 ho hw (op_store rfl hx hq hy hps hone hT hsz hb hc hfit hs h)
theorem POps_box {T : TypeId} {x : Operand} {ps : List PV} (hd : d < n) (hw : PF.wants fr ops ⟨some d, .box T x, ty, pos, after, gd⟩ = some true) (hx : fr.eval x = some p) (hps : p.ps = ps) (hone : ps.all PV.one = true) (h : ∀ i, st.freshB i → POps P n ops Q rest ((d, .ptr i 0) :: fr) (.box i T ps :: st)) : POps P n ops Q (⟨some d, .box T x, ty, pos, after, gd⟩ :: rest) fr st := by
  subst hps
  exact POps_e hd hw (POp_box rfl hx hone h)
theorem POps_alloc {T : TypeId} {ps : List PV} (hd : d < n) (hw : PF.wants fr ops ⟨some d, .alloc T, ty, pos, after, gd⟩ = some true) (hz : zeroOf P T = some ps) (h : ∀ i, st.freshB i → POps P n ops Q rest ((d, .ptr i 0) :: fr) (.box i T ps :: st)) : POps P n ops Q (⟨some d, .alloc T, ty, pos, after, gd⟩ :: rest) fr st :=
  POps_e hd hw (POp_alloc rfl hz h)
theorem op_app {s x : Operand} {t xt : TypeId} {q : PV} {g : Nat} {rows rows' : List (List D)} {ts E es bytes : Nat} {ea : Option Bool} {T0 : Ty} {e0 : Nat × Nat} {c : TypeId × Nat × Nat} {n' : Nat} {st' : St} {R : PV → St → Prop} {o : Oper} (ho : o.op = .call { callee := .builtin .append, args := #[s, x], argTypes := #[t, xt] }) (hs : fr.eval s = some q) (hq : q = .own g rows) (hx : fr.eval x = some p) (hp : p.src = some rows')
    (hT : tyOf P t = some T0) (hT2 : T0 = ⟨ts, .slice E es ea⟩) (hX : srcKind ((tyOf P xt).map (·.k)) = true) (hE : elOf P E = some e0) (hE2 : e0 = (es, bytes)) (hes : 0 < es) (htok : st.tok? g = some c) (hc : c = (E, es, rows.length)) (hn' : rows.length + rows'.length = n') (hs' : st.setTok g n' = st') (hl0 : ∀ row ∈ rows, row.length = es) (hl : ∀ row ∈ rows', row.length = es) (hm : n' ≤ 4294967296) (hb : bytes ≤ 32768)
    (h : R (.own g (rows ++ rows')) st') : POp P o fr.eval st R := by
  subst hq; subst hc; subst hs'; subst hT2; subst hE2; subst hn'
  have h1 : (rows.length + rows'.length) * bytes ≤ 4294967296 * 32768 := Nat.mul_le_mul (by omega) hb
  exact POp_append ho hs hx hp hT rfl hX hE hes hl0 hl htok (by unfold maxLen; omega) (by omega) h
theorem POps_app {s x : Operand} {t xt : TypeId} {q : PV} {g : Nat} {rows rows' : List (List D)} {ts E es bytes : Nat} {ea : Option Bool} {T0 : Ty} {e0 : Nat × Nat} {c : TypeId × Nat × Nat} {st' : St} (n' : Nat) (hd : d < n) (hw : PF.wants fr ops ⟨some d, .call { callee := .builtin .append, args := #[s, x], argTypes := #[t, xt] }, ty, pos, after, gd⟩ = some true) (hs : fr.eval s = some q) (hq : q = .own g rows) (hx : fr.eval x = some p) (hp : p.src = some rows')
    (hT : tyOf P t = some T0) (hT2 : T0 = ⟨ts, .slice E es ea⟩) (hX : srcKind ((tyOf P xt).map (·.k)) = true) (hE : elOf P E = some e0) (hE2 : e0 = (es, bytes)) (hes : 0 < es) (htok : st.tok? g = some c) (hc : c = (E, es, rows.length)) (hn' : rows.length + rows'.length = n') (hs' : st.setTok g n' = st') (hl0 : ∀ row ∈ rows, row.length = es) (hl : ∀ row ∈ rows', row.length = es) (hm : n' ≤ 4294967296) (hb : bytes ≤ 32768)
    (h : POps P n ops Q rest ((d, .own g (rows ++ rows')) :: fr) st') : POps P n ops Q (⟨some d, .call { callee := .builtin .append, args := #[s, x], argTypes := #[t, xt] }, ty, pos, after, gd⟩ :: rest) fr st :=
  POps_e hd hw (op_app rfl hs hq hx hp hT hT2 hX hE hE2 hes htok hc hn' hs' hl0 hl hm hb h)
theorem POrd_app {s x : Operand} {t xt : TypeId} {q : PV} {g : Nat} {rows rows' : List (List D)} {ts E es bytes : Nat} {ea : Option Bool} {T0 : Ty} {e0 : Nat × Nat} {c : TypeId × Nat × Nat} {st' : St} (n' : Nat) (ho : ops[j]? = some ⟨some d, .call { callee := .builtin .append, args := #[s, x], argTypes := #[t, xt] }, ty, pos, after, gd⟩) (hd : d < n) (hw : PF.wants fr ops ⟨some d, .call { callee := .builtin .append, args := #[s, x], argTypes := #[t, xt] }, ty, pos, after, gd⟩ = some true) (hs : fr.eval s = some q) (hq : q = .own g rows) (hx : fr.eval x = some p) (hp : p.src = some rows')
    (hT : tyOf P t = some T0) (hT2 : T0 = ⟨ts, .slice E es ea⟩) (hX : srcKind ((tyOf P xt).map (·.k)) = true) (hE : elOf P E = some e0) (hE2 : e0 = (es, bytes)) (hes : 0 < es) (htok : st.tok? g = some c) (hc : c = (E, es, rows.length)) (hn' : rows.length + rows'.length = n') (hs' : st.setTok g n' = st') (hl0 : ∀ row ∈ rows, row.length = es) (hl : ∀ row ∈ rows', row.length = es) (hm : n' ≤ 4294967296) (hb : bytes ≤ 32768)
    (h : POrd P n ops Q od ((d, .own g (rows ++ rows')) :: fr) st') : POrd P n ops Q ((j, .e) :: od) fr st :=
  POrd_e ho hd hw (op_app rfl hs hq hx hp hT hT2 hX hE hE2 hes htok hc hn' hs' hl0 hl hm hb h)
theorem rows_of {α : Type} [Enc α] {l : List α} {es : Nat} (h : Enc.sz α = es) : ∀ row ∈ l.map encD, row.length = es := by
  intro row hr
  obtain ⟨a, _, rfl⟩ := List.mem_map.1 hr
  rw [encD_len, h]
theorem rows_one {r : List D} {es : Nat} (h : r.length = es) : ∀ row ∈ [r], row.length = es := by
  intro row hr
  rw [List.mem_singleton] at hr
  subst hr; exact h
end
/-- the slots that are asked are there -/
theorem Js (fr' : PF) : ∀ t p, PF.get [] t = some p → fr'.get t = some p := fun t p h => by cases h
theorem Jr {fr' rest : PF} {t0 : Nat} {p0 q : PV} (h0 : fr'.get t0 = some q) (he : q = p0) (h : ∀ t p, rest.get t = some p → fr'.get t = some p) : ∀ t p, PF.get ((t0, p0) :: rest) t = some p → fr'.get t = some p := by
  intro t p hp
  subst he
  simp only [PF.get] at hp
  split at hp
  · rename_i e; subst e; rw [← hp]; exact h0
  · exact h t p hp
theorem PW_ownB {P : Program} {n : Nat} {Q : Exit → PF → St → Prop} {fr : PF} {st : St} {c : Code} (i j : Nat) (E sz : Nat) {x : TypeId × List PV} {U : TypeId} {cs : List PV} {st' : Nat → St} (hb : st.box? i = some x) (hx : x = (U, cs)) (hj : cs[j]? = some .nils) (hs : ∀ g, st.setBox i (cs.set j (.own g [])) = st' g) (hsz : 0 < sz) (h : ∀ g, St.freshT st g → PW P n c Q fr (.tok g E sz 0 :: st' g)) : PW P n c Q fr st := by
  subst hx
  exact PW_ownBox i j E sz hsz hb hj fun g hg => by rw [hs]; exact h g hg
theorem get_enc {α : Type} [Enc α] {l : List α} {k : Nat} (h : k < l.length) : (l.map encD)[k]? = some (encD l[k]) := by rw [List.getElem?_map, List.getElem?_eq_getElem h]; rfl
end Go.Proofs.Ytfnfbbmegdkhjaa

namespace Go.Proofs.Ytfnfbbmegdkhjaa
open Go.RowKit
set_option linter.unusedVariables false
section
variable {P : Program} {n : Nat} {ops : Array Oper} {Q : PF → St → Prop} {rest : List Oper} {fr : PF} {st : St} {p : PV} {op : Op} {ty : TypeId} {pos : String} {after : Array Edge}
theorem Qq {d : Nat} (h : POps P n ops Q rest ((d, p) :: fr) st) (hd : d < n := by decide) (he : nev P (PF.eval fr) op = some p := by simp [nev, nevA, nevB, Jo, PF.eval, PF.get, PF.wants, cPV, cCell, PV.rows, evBin, evUn, Jp, evLen, loadA, Jm, TyK.agg, partA, St.box?, St.tok?, St.setBox, St.setTok, fillO, spl, PV.ps, PV.one, Jn, aggD, slD, Jg, Jj, Jh, Ji, Jf, Je, *]; rfl) : POps P n ops Q (⟨some d, op, ty, pos, after, none⟩ :: rest) fr st :=
  POps_s hd he h
end
section
variable {P : Program} {n : Nat} {ops : Array Oper} {Q : PF → St → Prop} {rest : List Oper} {fr : PF} {st : St} {p : PV} {op : Op} {ty : TypeId} {pos : String} {after : Array Edge}
theorem Qr {d : Nat} (h : POps P n ops Q rest ((d, p) :: fr) st) (hd : d < n := by decide) (he : nevB P st (PF.eval fr) op = some p := by simp [nev, nevA, nevB, Jo, PF.eval, PF.get, PF.wants, cPV, cCell, PV.rows, evBin, evUn, Jp, evLen, loadA, Jm, TyK.agg, partA, St.box?, St.tok?, St.setBox, St.setTok, fillO, spl, PV.ps, PV.one, Jn, aggD, slD, Jg, Jj, Jh, Ji, Jf, Je, *]; rfl) : POps P n ops Q (⟨some d, op, ty, pos, after, none⟩ :: rest) fr st :=
  POps_b hd he h
end
section
variable {P : Program} {n : Nat} {ops : Array Oper} {Q : PF → St → Prop} {rest : List Oper} {fr : PF} {st : St} {p : PV} {op : Op} {ty : TypeId} {pos : String} {after : Array Edge}
theorem Qs {d : Nat} {gd : Option (Nat × Bool)} (h : POps P n ops Q rest ((d, .tup []) :: fr) st) (hd : d < n := by decide) (hw : PF.wants fr ops ⟨some d, op, ty, pos, after, gd⟩ = some false := by first | (simp [nev, nevA, nevB, Jo, PF.eval, PF.get, PF.wants, cPV, cCell, PV.rows, evBin, evUn, Jp, evLen, loadA, Jm, TyK.agg, partA, St.box?, St.tok?, St.setBox, St.setTok, fillO, spl, PV.ps, PV.one, Jn, aggD, slD, Jg, Jj, Jh, Ji, Jf, Je, *]; done) | fail) : POps P n ops Q (⟨some d, op, ty, pos, after, gd⟩ :: rest) fr st :=
  POps_gn hd hw h
end
section
variable {P : Program} {n : Nat} {ops : Array Oper} {Q : PF → St → Prop} {rest : List Oper} {fr : PF} {st : St} {p : PV} {op : Op} {ty : TypeId} {pos : String} {after : Array Edge}
theorem Qt {d : Nat} {gd : Option (Nat × Bool)} (h : POps P n ops Q rest ((d, p) :: fr) st) (hd : d < n := by decide) (hw : PF.wants fr ops ⟨some d, op, ty, pos, after, gd⟩ = some true := by first | (simp [nev, nevA, nevB, Jo, PF.eval, PF.get, PF.wants, cPV, cCell, PV.rows, evBin, evUn, Jp, evLen, loadA, Jm, TyK.agg, partA, St.box?, St.tok?, St.setBox, St.setTok, fillO, spl, PV.ps, PV.one, Jn, aggD, slD, Jg, Jj, Jh, Ji, Jf, Je, *]; done) | fail) (he : nev P (PF.eval fr) op = some p := by simp [nev, nevA, nevB, Jo, PF.eval, PF.get, PF.wants, cPV, cCell, PV.rows, evBin, evUn, Jp, evLen, loadA, Jm, TyK.agg, partA, St.box?, St.tok?, St.setBox, St.setTok, fillO, spl, PV.ps, PV.one, Jn, aggD, slD, Jg, Jj, Jh, Ji, Jf, Je, *]; rfl) : POps P n ops Q (⟨some d, op, ty, pos, after, gd⟩ :: rest) fr st :=
  POps_gs hd hw he h
end
section
variable {P : Program} {n : Nat} {ops : Array Oper} {Q : PF → St → Prop} {rest : List Oper} {fr : PF} {st : St} {p : PV} {op : Op} {ty : TypeId} {pos : String} {after : Array Edge}
theorem Qu {d : Nat} {gd : Option (Nat × Bool)} (h : POps P n ops Q rest ((d, p) :: fr) st) (hd : d < n := by decide) (hw : PF.wants fr ops ⟨some d, op, ty, pos, after, gd⟩ = some true := by first | (simp [nev, nevA, nevB, Jo, PF.eval, PF.get, PF.wants, cPV, cCell, PV.rows, evBin, evUn, Jp, evLen, loadA, Jm, TyK.agg, partA, St.box?, St.tok?, St.setBox, St.setTok, fillO, spl, PV.ps, PV.one, Jn, aggD, slD, Jg, Jj, Jh, Ji, Jf, Je, *]; done) | fail) (he : nevB P st (PF.eval fr) op = some p := by simp [nev, nevA, nevB, Jo, PF.eval, PF.get, PF.wants, cPV, cCell, PV.rows, evBin, evUn, Jp, evLen, loadA, Jm, TyK.agg, partA, St.box?, St.tok?, St.setBox, St.setTok, fillO, spl, PV.ps, PV.one, Jn, aggD, slD, Jg, Jj, Jh, Ji, Jf, Je, *]; rfl) : POps P n ops Q (⟨some d, op, ty, pos, after, gd⟩ :: rest) fr st :=
  POps_gb hd hw he h
end
section
variable {P : Program} {n : Nat} {ops : Array Oper} {Q : PF → St → Prop} {rest : List Oper} {fr : PF} {st : St} {p : PV} {op : Op} {ty : TypeId} {pos : String} {after : Array Edge}
theorem Qv {c : Operand} {x y : Code} {Q : Exit → PF → St → Prop} (h : PW P n x Q fr st) (hc : fr.eval c = some (.d (.v (.bool true))) := by first | (simp [nev, nevA, nevB, Jo, PF.eval, PF.get, PF.wants, cPV, cCell, PV.rows, evBin, evUn, Jp, evLen, loadA, Jm, TyK.agg, partA, St.box?, St.tok?, St.setBox, St.setTok, fillO, spl, PV.ps, PV.one, Jn, aggD, slD, Jg, Jj, Jh, Ji, Jf, Je, *]; done) | fail) : PW P n (.cond c x y) Q fr st :=
  PW_cond_t hc h
end
section
variable {P : Program} {n : Nat} {ops : Array Oper} {Q : PF → St → Prop} {rest : List Oper} {fr : PF} {st : St} {p : PV} {op : Op} {ty : TypeId} {pos : String} {after : Array Edge}
theorem Qw {c : Operand} {x y : Code} {Q : Exit → PF → St → Prop} (h : PW P n y Q fr st) (hc : fr.eval c = some (.d (.v (.bool false))) := by first | (simp [nev, nevA, nevB, Jo, PF.eval, PF.get, PF.wants, cPV, cCell, PV.rows, evBin, evUn, Jp, evLen, loadA, Jm, TyK.agg, partA, St.box?, St.tok?, St.setBox, St.setTok, fillO, spl, PV.ps, PV.one, Jn, aggD, slD, Jg, Jj, Jh, Ji, Jf, Je, *]; done) | fail) : PW P n (.cond c x y) Q fr st :=
  PW_cond_f hc h
end
section
variable {P : Program} {n : Nat} {ops : Array Oper} {Q : PF → St → Prop} {rest : List Oper} {fr : PF} {st : St} {p : PV} {ty : TypeId} {pos : String} {after : Array Edge} {gd : Option (Nat × Bool)} {od : List (Nat × Kd)} {j d : Nat}
theorem Jc {T : TypeId} {x : Operand} {ps : List PV} (h : ∀ i, st.freshB i → POps P n ops Q rest ((d, .ptr i 0) :: fr) (.box i T ps :: st)) (hd : d < n := by decide) (hw : PF.wants fr ops ⟨some d, .box T x, ty, pos, after, gd⟩ = some true := by rfl) (hx : fr.eval x = some p := by simp [nev, nevA, nevB, Jo, PF.eval, PF.get, PF.wants, cPV, cCell, PV.rows, evBin, evUn, Jp, evLen, loadA, Jm, TyK.agg, partA, St.box?, St.tok?, St.setBox, St.setTok, fillO, spl, PV.ps, PV.one, Jn, aggD, slD, Jg, Jj, Jh, Ji, Jf, Je, *]; rfl) (hps : p.ps = ps := by simp [PV.ps, aggD, slD, Jg, Jj, Jh, Ji, Jf, Je]; rfl) (hone : ps.all PV.one = true := by first | rfl | (simp [*]; done) | (simp [PV.one, *]; done) | fail) : POps P n ops Q (⟨some d, .box T x, ty, pos, after, gd⟩ :: rest) fr st :=
  POps_box hd hw hx hps hone h
end
section
variable {P : Program} {n : Nat} {ops : Array Oper} {Q : PF → St → Prop} {rest : List Oper} {fr : PF} {st : St} {p : PV} {ty : TypeId} {pos : String} {after : Array Edge} {gd : Option (Nat × Bool)} {od : List (Nat × Kd)} {j d : Nat}
theorem Jd {T : TypeId} {ps : List PV} (h : ∀ i, st.freshB i → POps P n ops Q rest ((d, .ptr i 0) :: fr) (.box i T ps :: st)) (hd : d < n := by decide) (hw : PF.wants fr ops ⟨some d, .alloc T, ty, pos, after, gd⟩ = some true := by rfl) (hz : zeroOf P T = some ps := by simp; rfl) : POps P n ops Q (⟨some d, .alloc T, ty, pos, after, gd⟩ :: rest) fr st :=
  POps_alloc hd hw hz h
end
section
variable {P : Program} {n : Nat} {ops : Array Oper} {Q : PF → St → Prop} {rest : List Oper} {fr : PF} {st : St} {p : PV} {ty : TypeId} {pos : String} {after : Array Edge} {gd : Option (Nat × Bool)} {od : List (Nat × Kd)} {j d : Nat}
theorem Rc {t : TypeId} {x y : Operand} {q : PV} {i off : Nat} {T : Ty} {c : TypeId × List PV} {U : TypeId} {cs ps : List PV} {st' : St} (h : POps P n ops Q rest fr st') (hw : PF.wants fr ops ⟨none, .store t x y, ty, pos, after, gd⟩ = some true := by rfl) (hx : fr.eval x = some q := by simp [nev, nevA, nevB, Jo, PF.eval, PF.get, PF.wants, cPV, cCell, PV.rows, evBin, evUn, Jp, evLen, loadA, Jm, TyK.agg, partA, St.box?, St.tok?, St.setBox, St.setTok, fillO, spl, PV.ps, PV.one, Jn, aggD, slD, Jg, Jj, Jh, Ji, Jf, Je, *]; rfl) (hq : q = .ptr i off := by rfl) (hy : fr.eval y = some p := by simp [nev, nevA, nevB, Jo, PF.eval, PF.get, PF.wants, cPV, cCell, PV.rows, evBin, evUn, Jp, evLen, loadA, Jm, TyK.agg, partA, St.box?, St.tok?, St.setBox, St.setTok, fillO, spl, PV.ps, PV.one, Jn, aggD, slD, Jg, Jj, Jh, Ji, Jf, Je, *]; rfl) (hps : p.ps = ps := by simp [PV.ps, aggD, slD, Jg, Jj, Jh, Ji, Jf, Je]; rfl) (hone : ps.all PV.one = true := by first | rfl | (simp [*]; done) | (simp [PV.one, *]; done) | fail) (hT : tyOf P t = some T := by simp; rfl) (hsz : ps.length = T.size := by first | (simp; done) | fail) (hb : st.box? i = some c := by simp [nev, nevA, nevB, Jo, PF.eval, PF.get, PF.wants, cPV, cCell, PV.rows, evBin, evUn, Jp, evLen, loadA, Jm, TyK.agg, partA, St.box?, St.tok?, St.setBox, St.setTok, fillO, spl, PV.ps, PV.one, Jn, aggD, slD, Jg, Jj, Jh, Ji, Jf, Je, *]; rfl) (hc : c = (U, cs) := by rfl) (hfit : off + ps.length ≤ cs.length := by first | (simp; done) | fail) (hs : st.setBox i (spl cs off ps) = st' := by simp [St.setBox, spl, *]; rfl) : POps P n ops Q (⟨none, .store t x y, ty, pos, after, gd⟩ :: rest) fr st :=
  POps_store hw hx hq hy hps hone hT hsz hb hc hfit hs h
end
section
variable {P : Program} {n : Nat} {ops : Array Oper} {Q : PF → St → Prop} {rest : List Oper} {fr : PF} {st : St} {p : PV} {ty : TypeId} {pos : String} {after : Array Edge} {gd : Option (Nat × Bool)} {od : List (Nat × Kd)} {j d : Nat}
theorem POrd_store_a {t : TypeId} {x y : Operand} {q : PV} {i off : Nat} {T : Ty} {c : TypeId × List PV} {U : TypeId} {cs ps : List PV} {st' : St} (h : POrd P n ops Q od fr st') (ho : ops[j]? = some ⟨none, .store t x y, ty, pos, after, gd⟩ := by rfl) (hw : PF.wants fr ops ⟨none, .store t x y, ty, pos, after, gd⟩ = some true := by rfl) (hx : fr.eval x = some q := by simp [nev, nevA, nevB, Jo, PF.eval, PF.get, PF.wants, cPV, cCell, PV.rows, evBin, evUn, Jp, evLen, loadA, Jm, TyK.agg, partA, St.box?, St.tok?, St.setBox, St.setTok, fillO, spl, PV.ps, PV.one, Jn, aggD, slD, Jg, Jj, Jh, Ji, Jf, Je, *]; rfl) (hq : q = .ptr i off := by rfl) (hy : fr.eval y = some p := by simp [nev, nevA, nevB, Jo, PF.eval, PF.get, PF.wants, cPV, cCell, PV.rows, evBin, evUn, Jp, evLen, loadA, Jm, TyK.agg, partA, St.box?, St.tok?, St.setBox, St.setTok, fillO, spl, PV.ps, PV.one, Jn, aggD, slD, Jg, Jj, Jh, Ji, Jf, Je, *]; rfl) (hps : p.ps = ps := by simp [PV.ps, aggD, slD, Jg, Jj, Jh, Ji, Jf, Je]; rfl) (hone : ps.all PV.one = true := by first | rfl | (simp [*]; done) | (simp [PV.one, *]; done) | fail) (hT : tyOf P t = some T := by simp; rfl) (hsz : ps.length = T.size := by first | (simp; done) | fail) (hb : st.box? i = some c := by simp [nev, nevA, nevB, Jo, PF.eval, PF.get, PF.wants, cPV, cCell, PV.rows, evBin, evUn, Jp, evLen, loadA, Jm, TyK.agg, partA, St.box?, St.tok?, St.setBox, St.setTok, fillO, spl, PV.ps, PV.one, Jn, aggD, slD, Jg, Jj, Jh, Ji, Jf, Je, *]; rfl) (hc : c = (U, cs) := by rfl) (hfit : off + ps.length ≤ cs.length := by first | (simp; done) | fail) (hs : st.setBox i (spl cs off ps) = st' := by simp [St.setBox, spl, *]; rfl) : POrd P n ops Q ((j, .e) :: od) fr st :=
  POrd_store ho hw hx hq hy hps hone hT hsz hb hc hfit hs h
end
section
variable {P : Program} {n : Nat} {ops : Array Oper} {Q : PF → St → Prop} {rest : List Oper} {fr : PF} {st : St} {p : PV} {ty : TypeId} {pos : String} {after : Array Edge} {gd : Option (Nat × Bool)} {od : List (Nat × Kd)} {j d : Nat}
theorem POps_app_a {s x : Operand} {t xt : TypeId} {q : PV} {g : Nat} {rows rows' : List (List D)} {ts E es bytes : Nat} {ea : Option Bool} {T0 : Ty} {e0 : Nat × Nat} {c : TypeId × Nat × Nat} {st' : St} (n' : Nat) (hn' : rows.length + rows'.length = n') (hl0 : ∀ row ∈ rows, row.length = es) (hl : ∀ row ∈ rows', row.length = es) (h : POps P n ops Q rest ((d, .own g (rows ++ rows')) :: fr) st') (hd : d < n := by decide) (hw : PF.wants fr ops ⟨some d, .call { callee := .builtin .append, args := #[s, x], argTypes := #[t, xt] }, ty, pos, after, gd⟩ = some true := by rfl) (hs : fr.eval s = some q := by simp [nev, nevA, nevB, Jo, PF.eval, PF.get, PF.wants, cPV, cCell, PV.rows, evBin, evUn, Jp, evLen, loadA, Jm, TyK.agg, partA, St.box?, St.tok?, St.setBox, St.setTok, fillO, spl, PV.ps, PV.one, Jn, aggD, slD, Jg, Jj, Jh, Ji, Jf, Je, *]; rfl) (hq : q = .own g rows := by rfl) (hx : fr.eval x = some p := by simp [nev, nevA, nevB, Jo, PF.eval, PF.get, PF.wants, cPV, cCell, PV.rows, evBin, evUn, Jp, evLen, loadA, Jm, TyK.agg, partA, St.box?, St.tok?, St.setBox, St.setTok, fillO, spl, PV.ps, PV.one, Jn, aggD, slD, Jg, Jj, Jh, Ji, Jf, Je, *]; rfl) (hp : p.src = some rows' := by simp [PV.src, PV.rows]; rfl) (hT : tyOf P t = some T0 := by simp; rfl) (hT2 : T0 = ⟨ts, .slice E es ea⟩ := by rfl) (hX : srcKind ((tyOf P xt).map (·.k)) = true := by simp [srcKind]) (hE : elOf P E = some e0 := by simp; rfl) (hE2 : e0 = (es, bytes) := by rfl) (hes : 0 < es := by decide) (htok : st.tok? g = some c := by simp [nev, nevA, nevB, Jo, PF.eval, PF.get, PF.wants, cPV, cCell, PV.rows, evBin, evUn, Jp, evLen, loadA, Jm, TyK.agg, partA, St.box?, St.tok?, St.setBox, St.setTok, fillO, spl, PV.ps, PV.one, Jn, aggD, slD, Jg, Jj, Jh, Ji, Jf, Je, *]; rfl) (hc : c = (E, es, rows.length) := by first | rfl | (simp; done) | (simp; omega) | fail) (hs' : st.setTok g n' = st' := by simp [St.setTok, *]; rfl) (hm : n' ≤ 4294967296 := by omega) (hb : bytes ≤ 32768 := by decide) : POps P n ops Q (⟨some d, .call { callee := .builtin .append, args := #[s, x], argTypes := #[t, xt] }, ty, pos, after, gd⟩ :: rest) fr st :=
  POps_app n' hd hw hs hq hx hp hT hT2 hX hE hE2 hes htok hc hn' hs' hl0 hl hm hb h
end
section
variable {P : Program} {n : Nat} {ops : Array Oper} {Q : PF → St → Prop} {rest : List Oper} {fr : PF} {st : St} {p : PV} {ty : TypeId} {pos : String} {after : Array Edge} {gd : Option (Nat × Bool)} {od : List (Nat × Kd)} {j d : Nat}
theorem POrd_app_a {s x : Operand} {t xt : TypeId} {q : PV} {g : Nat} {rows rows' : List (List D)} {ts E es bytes : Nat} {ea : Option Bool} {T0 : Ty} {e0 : Nat × Nat} {c : TypeId × Nat × Nat} {st' : St} (n' : Nat) (hn' : rows.length + rows'.length = n') (hl0 : ∀ row ∈ rows, row.length = es) (hl : ∀ row ∈ rows', row.length = es) (h : POrd P n ops Q od ((d, .own g (rows ++ rows')) :: fr) st') (ho : ops[j]? = some ⟨some d, .call { callee := .builtin .append, args := #[s, x], argTypes := #[t, xt] }, ty, pos, after, gd⟩ := by rfl) (hd : d < n := by decide) (hw : PF.wants fr ops ⟨some d, .call { callee := .builtin .append, args := #[s, x], argTypes := #[t, xt] }, ty, pos, after, gd⟩ = some true := by rfl) (hs : fr.eval s = some q := by simp [nev, nevA, nevB, Jo, PF.eval, PF.get, PF.wants, cPV, cCell, PV.rows, evBin, evUn, Jp, evLen, loadA, Jm, TyK.agg, partA, St.box?, St.tok?, St.setBox, St.setTok, fillO, spl, PV.ps, PV.one, Jn, aggD, slD, Jg, Jj, Jh, Ji, Jf, Je, *]; rfl) (hq : q = .own g rows := by rfl) (hx : fr.eval x = some p := by simp [nev, nevA, nevB, Jo, PF.eval, PF.get, PF.wants, cPV, cCell, PV.rows, evBin, evUn, Jp, evLen, loadA, Jm, TyK.agg, partA, St.box?, St.tok?, St.setBox, St.setTok, fillO, spl, PV.ps, PV.one, Jn, aggD, slD, Jg, Jj, Jh, Ji, Jf, Je, *]; rfl) (hp : p.src = some rows' := by simp [PV.src, PV.rows]; rfl) (hT : tyOf P t = some T0 := by simp; rfl) (hT2 : T0 = ⟨ts, .slice E es ea⟩ := by rfl) (hX : srcKind ((tyOf P xt).map (·.k)) = true := by simp [srcKind]) (hE : elOf P E = some e0 := by simp; rfl) (hE2 : e0 = (es, bytes) := by rfl) (hes : 0 < es := by decide) (htok : st.tok? g = some c := by simp [nev, nevA, nevB, Jo, PF.eval, PF.get, PF.wants, cPV, cCell, PV.rows, evBin, evUn, Jp, evLen, loadA, Jm, TyK.agg, partA, St.box?, St.tok?, St.setBox, St.setTok, fillO, spl, PV.ps, PV.one, Jn, aggD, slD, Jg, Jj, Jh, Ji, Jf, Je, *]; rfl) (hc : c = (E, es, rows.length) := by first | rfl | (simp; done) | (simp; omega) | fail) (hs' : st.setTok g n' = st' := by simp [St.setTok, *]; rfl) (hm : n' ≤ 4294967296 := by omega) (hb : bytes ≤ 32768 := by decide) : POrd P n ops Q ((j, .e) :: od) fr st :=
  POrd_app n' ho hd hw hs hq hx hp hT hT2 hX hE hE2 hes htok hc hn' hs' hl0 hl hm hb h
end
section
variable {P : Program} {n : Nat} {ops : Array Oper} {Q : PF → St → Prop} {rest : List Oper} {fr : PF} {st : St} {p : PV} {op : Op} {ty : TypeId} {pos : String} {after : Array Edge} {gd : Option (Nat × Bool)}
theorem POps_bs_a {d len : Nat} {t : TypeId} {parts : Array (Nat × Operand)} {E es bytes ts : Nat} {ea : Option Bool} {T0 : Ty} {e0 : Nat × Nat} {cells : List PV} {rows : List (List D)} (h : POps P n ops Q rest ((d, .d (.sl rows)) :: fr) st) (hd : d < n := by decide) (hw : PF.wants fr ops ⟨some d, .buildSlice t len parts, ty, pos, after, gd⟩ = some true := by rfl) (hT : tyOf P t = some T0 := by simp; rfl) (hT2 : T0 = ⟨ts, .slice E es ea⟩ := by rfl) (hE : elOf P E = some e0 := by simp; rfl) (hE2 : e0 = (es, bytes) := by rfl) (h0 : 0 < len * es := by decide) (h24 : len * es ≤ 16777216 := by decide) (hf : fillO (fun i => some (i * es, es)) fr.eval (List.replicate (len * es) .u) parts.toList = some cells := by simp [nev, nevA, nevB, Jo, PF.eval, PF.get, PF.wants, cPV, cCell, PV.rows, evBin, evUn, Jp, evLen, loadA, Jm, TyK.agg, partA, St.box?, St.tok?, St.setBox, St.setTok, fillO, spl, PV.ps, PV.one, Jn, aggD, slD, Jg, Jj, Jh, Ji, Jf, Je, *]; rfl) (hr : rowsOf es len cells = some rows := by simp [rowsOf, toDs, PV.toD]; rfl) : POps P n ops Q (⟨some d, .buildSlice t len parts, ty, pos, after, gd⟩ :: rest) fr st :=
  POps_bs hd hw hT hT2 hE hE2 h0 h24 hf hr h
end
section
variable {P : Program} {n : Nat} {ops : Array Oper} {Q : PF → St → Prop} {rest : List Oper} {fr : PF} {st : St} {p : PV} {op : Op} {ty : TypeId} {pos : String} {after : Array Edge} {gd : Option (Nat × Bool)}
variable {od : List (Nat × Kd)} {i d : Nat}
theorem POrd_bs_a {len : Nat} {t : TypeId} {parts : Array (Nat × Operand)} {E es bytes ts : Nat} {ea : Option Bool} {T0 : Ty} {e0 : Nat × Nat} {cells : List PV} {rows : List (List D)} (h : POrd P n ops Q od ((d, .d (.sl rows)) :: fr) st) (ho : ops[i]? = some ⟨some d, .buildSlice t len parts, ty, pos, after, gd⟩ := by rfl) (hd : d < n := by decide) (hw : PF.wants fr ops ⟨some d, .buildSlice t len parts, ty, pos, after, gd⟩ = some true := by rfl) (hT : tyOf P t = some T0 := by simp; rfl) (hT2 : T0 = ⟨ts, .slice E es ea⟩ := by rfl) (hE : elOf P E = some e0 := by simp; rfl) (hE2 : e0 = (es, bytes) := by rfl) (h0 : 0 < len * es := by decide) (h24 : len * es ≤ 16777216 := by decide) (hf : fillO (fun i => some (i * es, es)) fr.eval (List.replicate (len * es) .u) parts.toList = some cells := by simp [nev, nevA, nevB, Jo, PF.eval, PF.get, PF.wants, cPV, cCell, PV.rows, evBin, evUn, Jp, evLen, loadA, Jm, TyK.agg, partA, St.box?, St.tok?, St.setBox, St.setTok, fillO, spl, PV.ps, PV.one, Jn, aggD, slD, Jg, Jj, Jh, Ji, Jf, Je, *]; rfl) (hr : rowsOf es len cells = some rows := by simp [rowsOf, toDs, PV.toD]; rfl) : POrd P n ops Q ((i, .a) :: od) fr st :=
  POrd_bs ho hd hw hT hT2 hE hE2 h0 h24 hf hr h
end
section
variable {P : Program} {n : Nat} {ops : Array Oper} {Q : PF → St → Prop} {rest : List Oper} {fr : PF} {st : St} {p : PV} {op : Op} {ty : TypeId} {pos : String} {after : Array Edge} {gd : Option (Nat × Bool)}
variable {od : List (Nat × Kd)} {i d : Nat}
theorem Qx {k : Kd} (h : POrd P n ops Q od ((d, p) :: fr) st) (ho : ops[i]? = some ⟨some d, op, ty, pos, after, gd⟩ := by rfl) (hd : d < n := by decide) (hw : PF.wants fr ops ⟨some d, op, ty, pos, after, gd⟩ = some true := by rfl) (he : nev P fr.eval op = some p := by simp [nev, nevA, nevB, Jo, PF.eval, PF.get, PF.wants, cPV, cCell, PV.rows, evBin, evUn, Jp, evLen, loadA, Jm, TyK.agg, partA, St.box?, St.tok?, St.setBox, St.setTok, fillO, spl, PV.ps, PV.one, Jn, aggD, slD, Jg, Jj, Jh, Ji, Jf, Je, *]; rfl) : POrd P n ops Q ((i, k) :: od) fr st :=
  POrd_s ho hd hw he h
end
section
variable {P : Program} {n : Nat} {ops : Array Oper} {Q : PF → St → Prop} {rest : List Oper} {fr : PF} {st : St} {p : PV} {op : Op} {ty : TypeId} {pos : String} {after : Array Edge} {gd : Option (Nat × Bool)}
variable {od : List (Nat × Kd)} {i d : Nat}
theorem Qy  (h : POrd P n ops Q od ((d, p) :: fr) st) (ho : ops[i]? = some ⟨some d, op, ty, pos, after, gd⟩ := by rfl) (hd : d < n := by decide) (hw : PF.wants fr ops ⟨some d, op, ty, pos, after, gd⟩ = some true := by rfl) (he : nevB P st fr.eval op = some p := by simp [nev, nevA, nevB, Jo, PF.eval, PF.get, PF.wants, cPV, cCell, PV.rows, evBin, evUn, Jp, evLen, loadA, Jm, TyK.agg, partA, St.box?, St.tok?, St.setBox, St.setTok, fillO, spl, PV.ps, PV.one, Jn, aggD, slD, Jg, Jj, Jh, Ji, Jf, Je, *]; rfl) : POrd P n ops Q ((i, .b) :: od) fr st :=
  POrd_b ho hd hw he h
end
section
variable {P : Program} {n : Nat} {ops : Array Oper} {Q : PF → St → Prop} {rest : List Oper} {fr : PF} {st : St} {p : PV} {op : Op} {ty : TypeId} {pos : String} {after : Array Edge} {gd : Option (Nat × Bool)}
theorem Jb {d f : Nat} {xs : Array Operand} {ts : Array TypeId} {ps qs : List PV} {r : PV} (hc : PCalls P f qs [] fun p s => p = r ∧ s = []) (h : POps P n ops Q rest ((d, r) :: fr) st) (hd : d < n := by decide) (hw : PF.wants fr ops ⟨some d, .call { callee := .value (.func f), args := xs, argTypes := ts }, ty, pos, after, gd⟩ = some true := by rfl) (hxs : Jn fr.eval xs.toList = some ps := by simp [nev, nevA, nevB, Jo, PF.eval, PF.get, PF.wants, cPV, cCell, PV.rows, evBin, evUn, Jp, evLen, loadA, Jm, TyK.agg, partA, St.box?, St.tok?, St.setBox, St.setTok, fillO, spl, PV.ps, PV.one, Jn, aggD, slD, Jg, Jj, Jh, Ji, Jf, Je, *]; rfl) (hn : ps.map PV.norm1 = qs := by first | (simp [PV.norm1, PV.norm0, aggD, slD, Jg, Jj, Jh, Ji]; done) | fail) (hca : callable P f = true := by rfl) : POps P n ops Q (⟨some d, .call { callee := .value (.func f), args := xs, argTypes := ts }, ty, pos, after, gd⟩ :: rest) fr st :=
  POps_call hc hd hw hxs hn hca h
end
section
variable {P : Program} {n : Nat} {ops : Array Oper} {Q : PF → St → Prop} {rest : List Oper} {fr : PF} {st : St} {p : PV} {op : Op} {ty : TypeId} {pos : String} {after : Array Edge} {gd : Option (Nat × Bool)}
variable {od : List (Nat × Kd)} {i d : Nat}
theorem POrd_call_a {f : Nat} {xs : Array Operand} {ts : Array TypeId} {ps qs : List PV} {r : PV} (hc : PCalls P f qs [] fun p s => p = r ∧ s = []) (h : POrd P n ops Q od ((d, r) :: fr) st) (ho : ops[i]? = some ⟨some d, .call { callee := .value (.func f), args := xs, argTypes := ts }, ty, pos, after, gd⟩ := by rfl) (hd : d < n := by decide) (hw : PF.wants fr ops ⟨some d, .call { callee := .value (.func f), args := xs, argTypes := ts }, ty, pos, after, gd⟩ = some true := by rfl) (hxs : Jn fr.eval xs.toList = some ps := by simp [nev, nevA, nevB, Jo, PF.eval, PF.get, PF.wants, cPV, cCell, PV.rows, evBin, evUn, Jp, evLen, loadA, Jm, TyK.agg, partA, St.box?, St.tok?, St.setBox, St.setTok, fillO, spl, PV.ps, PV.one, Jn, aggD, slD, Jg, Jj, Jh, Ji, Jf, Je, *]; rfl) (hn : ps.map PV.norm1 = qs := by first | (simp [PV.norm1, PV.norm0, aggD, slD, Jg, Jj, Jh, Ji]; done) | fail) (hca : callable P f = true := by rfl) : POrd P n ops Q ((i, .a) :: od) fr st :=
  POrd_call hc ho hd hw hxs hn hca h
end
section
variable {P : Program} {n : Nat} {ops : Array Oper} {Q : PF → St → Prop} {rest : List Oper} {fr : PF} {st : St} {p : PV} {op : Op} {ty : TypeId} {pos : String} {after : Array Edge} {gd : Option (Nat × Bool)}
end
section
variable {P : Program} {n : Nat} {ops : Array Oper} {Q : PF → St → Prop} {rest : List Oper} {fr : PF} {st : St} {p : PV} {op : Op} {ty : TypeId} {pos : String} {after : Array Edge} {gd : Option (Nat × Bool)}
variable {od : List (Nat × Kd)} {i d : Nat}
theorem POrd_call_b {f : Nat} {xs : Array Operand} {ts : Array TypeId} {ps qs : List PV} {r : PV} (hc : PCalls P f qs [] fun p s => p = r ∧ s = []) (h : POrd P n ops Q od ((d, r) :: fr) st) (ho : ops[i]? = some ⟨some d, .call { callee := .value (.func f), args := xs, argTypes := ts }, ty, pos, after, gd⟩ := by rfl) (hd : d < n := by decide) (hw : PF.wants fr ops ⟨some d, .call { callee := .value (.func f), args := xs, argTypes := ts }, ty, pos, after, gd⟩ = some true := by first | (simp [nev, nevA, nevB, Jo, PF.eval, PF.get, PF.wants, cPV, cCell, PV.rows, evBin, evUn, Jp, evLen, loadA, Jm, TyK.agg, partA, St.box?, St.tok?, St.setBox, St.setTok, fillO, spl, PV.ps, PV.one, Jn, aggD, slD, Jg, Jj, Jh, Ji, Jf, Je, *]; done) | fail) (hxs : Jn fr.eval xs.toList = some ps := by simp [nev, nevA, nevB, Jo, PF.eval, PF.get, PF.wants, cPV, cCell, PV.rows, evBin, evUn, Jp, evLen, loadA, Jm, TyK.agg, partA, St.box?, St.tok?, St.setBox, St.setTok, fillO, spl, PV.ps, PV.one, Jn, aggD, slD, Jg, Jj, Jh, Ji, Jf, Je, *]; rfl) (hn : ps.map PV.norm1 = qs := by first | (simp [PV.norm1, PV.norm0, aggD, slD, Jg, Jj, Jh, Ji]; done) | fail) (hca : callable P f = true := by rfl) : POrd P n ops Q ((i, .a) :: od) fr st :=
  POrd_call hc ho hd hw hxs hn hca h
end
section
variable {P : Program} {n : Nat} {ops : Array Oper} {Q : PF → St → Prop} {rest : List Oper} {fr : PF} {st : St} {p : PV} {op : Op} {ty : TypeId} {pos : String} {after : Array Edge} {gd : Option (Nat × Bool)}
variable {od : List (Nat × Kd)} {i d : Nat}
theorem Qz {k : Kd} (h : POrd P n ops Q od ((d, .tup []) :: fr) st) (ho : ops[i]? = some ⟨some d, op, ty, pos, after, gd⟩ := by rfl) (hd : d < n := by decide) (hw : PF.wants fr ops ⟨some d, op, ty, pos, after, gd⟩ = some false := by first | (simp [nev, nevA, nevB, Jo, PF.eval, PF.get, PF.wants, cPV, cCell, PV.rows, evBin, evUn, Jp, evLen, loadA, Jm, TyK.agg, partA, St.box?, St.tok?, St.setBox, St.setTok, fillO, spl, PV.ps, PV.one, Jn, aggD, slD, Jg, Jj, Jh, Ji, Jf, Je, *]; done) | fail) : POrd P n ops Q ((i, k) :: od) fr st :=
  POrd_gn ho hd hw h
end
section
variable {P : Program} {n : Nat} {ops : Array Oper} {Q : PF → St → Prop} {rest : List Oper} {fr : PF} {st : St} {p : PV} {op : Op} {ty : TypeId} {pos : String} {after : Array Edge} {gd : Option (Nat × Bool)}
variable {od : List (Nat × Kd)} {i d : Nat}
theorem Ra {k : Kd} (h : POrd P n ops Q od ((d, p) :: fr) st) (ho : ops[i]? = some ⟨some d, op, ty, pos, after, gd⟩ := by rfl) (hd : d < n := by decide) (hw : PF.wants fr ops ⟨some d, op, ty, pos, after, gd⟩ = some true := by first | (simp [nev, nevA, nevB, Jo, PF.eval, PF.get, PF.wants, cPV, cCell, PV.rows, evBin, evUn, Jp, evLen, loadA, Jm, TyK.agg, partA, St.box?, St.tok?, St.setBox, St.setTok, fillO, spl, PV.ps, PV.one, Jn, aggD, slD, Jg, Jj, Jh, Ji, Jf, Je, *]; done) | fail) (he : nev P fr.eval op = some p := by simp [nev, nevA, nevB, Jo, PF.eval, PF.get, PF.wants, cPV, cCell, PV.rows, evBin, evUn, Jp, evLen, loadA, Jm, TyK.agg, partA, St.box?, St.tok?, St.setBox, St.setTok, fillO, spl, PV.ps, PV.one, Jn, aggD, slD, Jg, Jj, Jh, Ji, Jf, Je, *]; rfl) : POrd P n ops Q ((i, k) :: od) fr st :=
  POrd_s ho hd hw he h
end
section
variable {P : Program} {n : Nat} {ops : Array Oper} {Q : PF → St → Prop} {rest : List Oper} {fr : PF} {st : St} {p : PV} {op : Op} {ty : TypeId} {pos : String} {after : Array Edge} {gd : Option (Nat × Bool)}
variable {od : List (Nat × Kd)} {i d : Nat}
theorem Rb  (h : POrd P n ops Q od ((d, p) :: fr) st) (ho : ops[i]? = some ⟨some d, op, ty, pos, after, gd⟩ := by rfl) (hd : d < n := by decide) (hw : PF.wants fr ops ⟨some d, op, ty, pos, after, gd⟩ = some true := by first | (simp [nev, nevA, nevB, Jo, PF.eval, PF.get, PF.wants, cPV, cCell, PV.rows, evBin, evUn, Jp, evLen, loadA, Jm, TyK.agg, partA, St.box?, St.tok?, St.setBox, St.setTok, fillO, spl, PV.ps, PV.one, Jn, aggD, slD, Jg, Jj, Jh, Ji, Jf, Je, *]; done) | fail) (he : nevB P st fr.eval op = some p := by simp [nev, nevA, nevB, Jo, PF.eval, PF.get, PF.wants, cPV, cCell, PV.rows, evBin, evUn, Jp, evLen, loadA, Jm, TyK.agg, partA, St.box?, St.tok?, St.setBox, St.setTok, fillO, spl, PV.ps, PV.one, Jn, aggD, slD, Jg, Jj, Jh, Ji, Jf, Je, *]; rfl) : POrd P n ops Q ((i, .b) :: od) fr st :=
  POrd_b ho hd hw he h
end
section
variable {P : Program} {n : Nat} {ops : Array Oper} {Q : PF → St → Prop} {rest : List Oper} {fr : PF} {st : St} {p : PV} {op : Op} {ty : TypeId} {pos : String} {after : Array Edge} {gd : Option (Nat × Bool)}
theorem Jq {d f : Nat} {xs : Array Operand} {ts : Array TypeId} {ps qs : List PV} {r : PV} (hc : PCalls P f qs [] fun p s => p = r ∧ s = []) (h : POps P n ops Q rest ((d, r) :: fr) st) (hd : d < n := by decide) (hw : PF.wants fr ops ⟨some d, .call { callee := .value (.func f), args := xs, argTypes := ts }, ty, pos, after, gd⟩ = some true := by first | (simp [nev, nevA, nevB, Jo, PF.eval, PF.get, PF.wants, cPV, cCell, PV.rows, evBin, evUn, Jp, evLen, loadA, Jm, TyK.agg, partA, St.box?, St.tok?, St.setBox, St.setTok, fillO, spl, PV.ps, PV.one, Jn, aggD, slD, Jg, Jj, Jh, Ji, Jf, Je, *]; done) | fail) (hxs : Jn fr.eval xs.toList = some ps := by simp [nev, nevA, nevB, Jo, PF.eval, PF.get, PF.wants, cPV, cCell, PV.rows, evBin, evUn, Jp, evLen, loadA, Jm, TyK.agg, partA, St.box?, St.tok?, St.setBox, St.setTok, fillO, spl, PV.ps, PV.one, Jn, aggD, slD, Jg, Jj, Jh, Ji, Jf, Je, *]; rfl) (hn : ps.map PV.norm1 = qs := by first | (simp [PV.norm1, PV.norm0, aggD, slD, Jg, Jj, Jh, Ji]; done) | fail) (hca : callable P f = true := by rfl) : POps P n ops Q (⟨some d, .call { callee := .value (.func f), args := xs, argTypes := ts }, ty, pos, after, gd⟩ :: rest) fr st :=
  POps_call hc hd hw hxs hn hca h
end
/-- a thing kept from sight of simp -/
def Hd2 (p : Prop) : Prop := p
theorem Hd2.out {p : Prop} (h : Hd2 p) : p := h
/-- the walk goes on by itself as far as it can; what is left is b -/
theorem go_ {a b : Prop} (hb : b) (h : Hd2 b → a := by
    intro k
    repeat (first | (with_reducible first | refine Qa ?_ | refine Qb ?_ | refine Qc ?_ | refine Qd ?_ | refine Qe ?_ | refine Qf ?_ | refine Qg ?_ | refine Qh ?_ | refine Qi ?_ | refine Qj ?_ | refine Qk ?_ | refine Ql ?_ | refine Qm ?_ | refine Qn ?_ | refine Qo ?_ | refine Qp rfl ?_) | (first | refine Qq ?_ | refine Qr ?_) | (first | refine Qs ?_ | refine Qt ?_ | refine Qu ?_) | (first | refine Qv ?_ | refine Qw ?_) | (first | refine Qx ?_ | refine Qy ?_) | (first | refine Qz ?_ | refine Ra ?_ | refine Rb ?_))
    exact Hd2.out k) : a := h hb
end Go.Proofs.Ytfnfbbmegdkhjaa

namespace Go.Proofs.Ytfnfbbmegdkhjaa
open Go.RowKit
set_option linter.unusedVariables false
set_option linter.unusedSimpArgs false
section
variable {P : Program} {J : St → Prop} {ops : Array Oper} {n : Nat} {kd : Nat → Kd} {md : Region.Mode}
/-- one operation, out of turn -/
def jOp (P : Program) (J : St → Prop) (ops : Array Oper) (n : Nat) (kd : Nat → Kd) (i : Nat) (K : G → St → Prop) (g : G) (st : St) : Prop :=
  match ops[i]? with
  | none => K g st
  | some o => (∀ d, o.dst = some d → d < n) ∧
    ((gwants g ops o = some false ∧ K (gput g o.dst (.tup [])) st) ∨
     (gwants g ops o = some true ∧
      match kd i with
      | .a => ∃ p, (∀ s, J s → POp P o (geval g) s fun q s' => q = p ∧ s' = s) ∧ K (gput g o.dst p) st
      | .b => ∃ p, (POp P o (geval g) st fun q s' => q = p ∧ s' = st) ∧ K (gput g o.dst p) st
      | .e => POp P o (geval g) st fun p s' => J s' ∧ K (gput g o.dst p) s'))
theorem jOp_mono {i : Nat} {K K' : G → St → Prop} {g : G} {st : St} (h : ∀ g s, K g s → K' g s) (hh : jOp P J ops n kd i K g st) : jOp P J ops n kd i K' g st := by
  unfold jOp at *
  split
  · rename_i ho; rw [ho] at hh; exact h _ _ hh
  · rename_i o ho
    rw [ho] at hh
    obtain ⟨hd, hh⟩ := hh
    refine ⟨hd, ?_⟩
    rcases hh with ⟨h1, h2⟩ | ⟨h1, h2⟩
    · exact .inl ⟨h1, h _ _ h2⟩
    · refine .inr ⟨h1, ?_⟩
      cases hk : kd i with
      | a => rw [hk] at h2; obtain ⟨p, h3, h4⟩ := h2; exact ⟨p, h3, h _ _ h4⟩
      | b => rw [hk] at h2; obtain ⟨p, h3, h4⟩ := h2; exact ⟨p, h3, h _ _ h4⟩
      | e => rw [hk] at h2; exact h2.mono fun p s hs => ⟨hs.1, h _ _ hs.2⟩
def jAny (P : Program) (J : St → Prop) (md : Region.Mode) (ops : Array Oper) (n : Nat) (kd : Nat → Kd) (Q : G → St → Prop) : Nat → Array Bool → G → St → Prop
  | 0, listed, g, st => Region.ready md ops listed = [] ∧ Q g st
  | fuel + 1, listed, g, st =>
    (Region.ready md ops listed = [] → Q g st) ∧ ∀ i ∈ Region.ready md ops listed, jOp P J ops n kd i (jAny P J md ops n kd Q fuel (listed.setIfInBounds i true)) g st
theorem wpAny_jAny {Q : G → St → Prop} {Q' : Exit → Act → World → Prop} {F : Fz} {K0 : Kp} {w0 : World} (hQ : ∀ K w a g st, Ext F K0 w0 K w → Rel F st K w → FG n g K w a → Q g st → Q' .normal a w) :
    ∀ (fuel : Nat) (listed : Array Bool) (g : G) (st : St) (K : Kp) (w : World) (a : Act), Ext F K0 w0 K w → Rel F st K w → FG n g K w a → J st → jAny P J md ops n kd Q fuel listed g st → wpAny P md ops Q' fuel listed a w := by
  intro fuel
  induction fuel with
  | zero => intro listed g st K w a hx hr hf hJ h; exact ⟨h.1, hQ K w a g st hx hr hf h.2⟩
  | succ fuel ih =>
    intro listed g st K w a hx hr hf hJ h
    refine ⟨fun h0 => hQ K w a g st hx hr hf (h.1 h0), fun i hi => ?_⟩
    have hop := h.2 i hi
    unfold jOp at hop
    unfold wpOp
    split
    · rename_i ho
      rw [ho] at hop
      exact ih _ g st K w a hx hr hf hJ hop
    · rename_i o ho
      rw [ho] at hop
      obtain ⟨hd, hop⟩ := hop
      rcases hop with ⟨h1, h2⟩ | ⟨h1, h2⟩
      · rw [wanted_of hf h1]
        exact ih _ _ st K w _ hx hr (hf.put hd (.tup rfl fun i p v hp _ => by simp at hp)) hJ h2
      · rw [wanted_of hf h1]
        simp only [if_true]
        refine .inl ?_
        have hgen : POp P o (geval g) st fun p s' => J s' ∧ jAny P J md ops n kd Q fuel (listed.setIfInBounds i true) (gput g o.dst p) s' := by
          cases hk : kd i with
          | a =>
            rw [hk] at h2; obtain ⟨p, h3, h4⟩ := h2
            exact (h3 st hJ).mono fun q s ⟨e1, e2⟩ => by subst e1; subst e2; exact ⟨hJ, h4⟩
          | b =>
            rw [hk] at h2; obtain ⟨p, h3, h4⟩ := h2
            exact h3.mono fun q s ⟨e1, e2⟩ => by subst e1; subst e2; exact ⟨hJ, h4⟩
          | e => rw [hk] at h2; exact h2
        exact hgen F K w a _ _ hr (fun x _ p hp => hf.eval x p hp) fun K' w' p st' v b1 b2 b3 b4 => ih _ _ st' K' w' _ (hx.trans b1) b2 ((hf.mono b1).put hd b3) b4.1 b4.2
/-- what a quiet operation yields -/
def jYields (P : Program) (J : St → Prop) (ops : Array Oper) (n : Nat) (k : Kd) (o : Oper) (p : PV) (g : G) (st : St) : Prop :=
  (∀ d, o.dst = some d → d < n) ∧
  ((gwants g ops o = some false ∧ p = .tup []) ∨
   (gwants g ops o = some true ∧
    match k with
    | .a => ∀ s, J s → POp P o (geval g) s fun q s' => q = p ∧ s' = s
    | .b => POp P o (geval g) st fun q s' => q = p ∧ s' = st
    | .e => False))
theorem jYields.op {i : Nat} {o : Oper} {p : PV} {g : G} {st : St} (hi : ops[i]? = some o) (hy : jYields P J ops n (kd i) o p g st) {K : G → St → Prop} (h : K (gput g o.dst p) st) : jOp P J ops n kd i K g st := by
  unfold jOp
  rw [hi]
  obtain ⟨hd, hy⟩ := hy
  refine ⟨hd, ?_⟩
  rcases hy with ⟨h1, rfl⟩ | ⟨h1, h2⟩
  · exact .inl ⟨h1, h⟩
  · refine .inr ⟨h1, ?_⟩
    cases hk : kd i with
    | a => rw [hk] at h2; exact ⟨p, h2, h⟩
    | b => rw [hk] at h2; exact ⟨p, h2, h⟩
    | e => rw [hk] at h2; exact h2.elim
theorem jYields.put {k : Kd} {o : Oper} {p : PV} {g : G} {st : St} (hy : jYields P J ops n k o p g st) {dst : Option Tmp} {q : PV} (h : ∀ d, dst = some d → d ∉ o.looksAt ops) : jYields P J ops n k o p (gput g dst q) st := by
  obtain ⟨hd, hy⟩ := hy
  refine ⟨hd, ?_⟩
  rw [gwants_put h]
  rcases hy with ⟨h1, h2⟩ | ⟨h1, h2⟩
  · exact .inl ⟨h1, h2⟩
  · refine .inr ⟨h1, ?_⟩
    cases k with
    | a => exact fun s hs => (h2 s hs).congr fun x hx => (geval_put h x hx).symm
    | b => exact POp.congr h2 fun x hx => (geval_put h x hx).symm
    | e => exact h2
theorem jOp_put {i j : Nat} {oi oj : Oper} {p : PV} (hj : ops[j]? = some oj) (hap : oi.apart ops oj = true) {K : G → St → Prop} {g : G} {st : St} (hy : jYields P J ops n (kd i) oi p g st) (hb : kd i = .b → kd j ≠ .e) (h : jOp P J ops n kd j K (gput g oi.dst p) st) :
    jOp P J ops n kd j (fun g' s' => jYields P J ops n (kd i) oi p g' s' ∧ K (gput g' oi.dst p) s') g st := by
  obtain ⟨h1, h2, h3⟩ := Oper.apart_spec hap
  unfold jOp at *
  rw [hj] at h ⊢
  simp only at h ⊢
  obtain ⟨hd, h⟩ := h
  rw [gwants_put h1] at h
  refine ⟨hd, ?_⟩
  rcases h with ⟨e1, e2⟩ | ⟨e1, e2⟩
  · exact .inl ⟨e1, hy.put h3, by rw [← gput_comm g p _ h2]; exact e2⟩
  · refine .inr ⟨e1, ?_⟩
    cases hk : kd j with
    | a =>
      rw [hk] at e2
      obtain ⟨q, e3, e4⟩ := e2
      exact ⟨q, fun s hs => (e3 s hs).congr fun x hx => geval_put h1 x hx, hy.put h3, by rw [← gput_comm g p _ h2]; exact e4⟩
    | b =>
      rw [hk] at e2
      obtain ⟨q, e3, e4⟩ := e2
      exact ⟨q, e3.congr fun x hx => geval_put h1 x hx, hy.put h3, by rw [← gput_comm g p _ h2]; exact e4⟩
    | e =>
      rw [hk] at e2
      refine (POp.congr e2 fun x hx => geval_put h1 x hx).mono fun q s hs => ⟨hs.1, ?_, by rw [← gput_comm g p _ h2]; exact hs.2⟩
      have hy2 := hy.put (dst := oj.dst) (q := q) h3
      obtain ⟨d1, d2⟩ := hy2
      refine ⟨d1, ?_⟩
      rcases d2 with d2 | ⟨d2, d3⟩
      · exact .inl d2
      · refine .inr ⟨d2, ?_⟩
        cases hki : kd i with
        | a => rw [hki] at d3; exact d3
        | b => exact absurd hk (hb hki)
        | e => rw [hki] at d3; exact d3.elim
theorem jAny_first {Q : G → St → Prop} {i : Nat} {oi : Oper} {p : PV} (hi : ops[i]? = some oi) : ∀ (fuel : Nat) (listed : Array Bool) (g : G) (st : St), DC md ops listed →
    (∀ j oj, ops[j]? = some oj → j ≠ i → listed.getD j true = false → (∀ e ∈ oj.after, Region.binds md e = true → e.on ≠ i) → oi.apart ops oj = true) →
    (kd i = .b → ∀ j, kd j = .e → listed.getD j true = false → j < ops.size → ∃ f, waitsB md ops i f j = true) →
    i ∈ Region.ready md ops listed → jYields P J ops n (kd i) oi p g st → jAny P J md ops n kd Q fuel (listed.setIfInBounds i true) (gput g oi.dst p) st → jAny P J md ops n kd Q (fuel + 1) listed g st := by
  intro fuel
  induction fuel with
  | zero =>
    intro listed g st hdc _ _ hr hy H
    refine ⟨fun h => (by rw [h] at hr; cases hr), fun j hj => ?_⟩
    by_cases hji : j = i
    · subst hji; exact hy.op hi H
    · have := ready_mono hj hji
      rw [H.1] at this
      cases this
  | succ fuel ih =>
    intro listed g st hdc hfree hB hr hy H
    refine ⟨fun h => (by rw [h] at hr; cases hr), fun j hj => ?_⟩
    by_cases hji : j = i
    · subst hji; exact hy.op hi H
    · have h1 := H.2 j (ready_mono hj hji)
      obtain ⟨hjun, oj, hoj, hall⟩ := mem_ready.1 hj
      have hiun := (mem_ready.1 hr).1
      have hnot : ∀ e ∈ oj.after, Region.binds md e = true → e.on ≠ i := fun e he hb heq => by
        have h1 := hall e he hb
        rw [heq] at h1
        have h2 := listed_false hiun
        rw [h1] at h2; cases h2
      have hlt : j < ops.size := (Array.getElem?_eq_some_iff.1 hoj).1
      have hbj : kd i = .b → kd j ≠ .e := fun hb he => by
        obtain ⟨f, hw⟩ := hB hb j he hjun hlt
        exact waits_ready hdc hw hiun hj
      have h2 := jOp_put hoj (hfree j oj hoj hji hjun hnot) hy hbj h1
      refine jOp_mono (fun g' s' h3 => ih (listed.setIfInBounds j true) g' s' (hdc.set hj) (fun k ok hk hki hun hno => ?_) (fun hb k hk hun hkl => ?_) (ready_mono hr (Ne.symm hji)) h3.1 ?_) h2
      · refine hfree k ok hk hki ?_ hno
        by_cases hjk : j = k
        · subst hjk; exact hjun
        · rw [getD_set_ne true hjk] at hun; exact hun
      · refine hB hb k hk ?_ hkl
        by_cases hjk : j = k
        · subst hjk; exact hjun
        · rw [getD_set_ne true hjk] at hun; exact hun
      · rw [Array.setIfInBounds_comm _ _ hji]
        exact h3.2
/-- the operations, in such an order -/
def POrdJ (P : Program) (J : St → Prop) (n : Nat) (ops : Array Oper) (Q : PF → St → Prop) : List (Nat × Kd) → PF → St → Prop
  | [], fr, st => Q fr st
  | (i, k) :: rest, fr, st => ∃ o, ops[i]? = some o ∧ (∀ d, o.dst = some d → d < n) ∧
    ((fr.wants ops o = some false ∧ POrdJ P J n ops Q rest (fr.put o.dst (.tup [])) st) ∨
     (fr.wants ops o = some true ∧
      match k with
      | .a => ∃ p, (∀ s, J s → POp P o fr.eval s fun q s' => q = p ∧ s' = s) ∧ POrdJ P J n ops Q rest (fr.put o.dst p) st
      | .b => ∃ p, (POp P o fr.eval st fun q s' => q = p ∧ s' = st) ∧ POrdJ P J n ops Q rest (fr.put o.dst p) st
      | .e => POp P o fr.eval st fun p s' => J s' ∧ POrdJ P J n ops Q rest (fr.put o.dst p) s'))
theorem jAny_ord {Q : PF → St → Prop} {all : List (Nat × Kd)} : ∀ (l : List (Nat × Kd)) (listed : Array Bool) (fr : PF) (st : St), DC md ops listed → orderB md ops all l listed = true → POrdJ P J n ops Q l fr st → jAny P J md ops n (kdOf all) (fun g s => ∃ fr : PF, fr.get = g ∧ Q fr s) l.length listed fr.get st := by
  intro l
  induction l with
  | nil => intro listed fr st _ hB h; exact ⟨by simpa [orderB] using hB, fr, rfl, h⟩
  | cons x rest ih =>
    intro listed fr st hdc hB h
    obtain ⟨i, k⟩ := x
    simp only [orderB, Bool.and_eq_true] at hB
    obtain ⟨⟨⟨hr, hk⟩, hB1⟩, hB2⟩ := hB
    have hr' : i ∈ Region.ready md ops listed := by simpa using hr
    have hk' : kdOf all i = k := by simpa using hk
    obtain ⟨o, ho, hd, h⟩ := h
    have free : freeB md ops i listed = true → ∀ j oj, ops[j]? = some oj → j ≠ i → listed.getD j true = false → (∀ e ∈ oj.after, Region.binds md e = true → e.on ≠ i) → o.apart ops oj = true := by
      intro hf j oj hj hji hun hno
      unfold freeB at hf
      rw [ho] at hf
      simp only [List.all_eq_true, List.mem_range] at hf
      have hlt : j < ops.size := (Array.getElem?_eq_some_iff.1 hj).1
      have := hf j hlt
      rw [hj] at this
      simp only [hun, Bool.or_false, Bool.or_eq_true, beq_iff_eq] at this
      rcases this with h | h | h
      · exact absurd h hji
      · obtain ⟨e, he, h⟩ := Array.any_eq_true'.1 h
        simp only [Bool.and_eq_true, beq_iff_eq] at h
        exact absurd h.2 (hno e he h.1)
      · exact h
    have nxt : ∀ p s, POrdJ P J n ops Q rest (fr.put o.dst p) s → jAny P J md ops n (kdOf all) (fun g s => ∃ fr : PF, fr.get = g ∧ Q fr s) rest.length (listed.setIfInBounds i true) (gput fr.get o.dst p) s := fun p s hp => by
      rw [← gput_get]; exact ih _ _ s (hdc.set hr') hB2 hp
    cases k with
    | a =>
      have hy : ∃ p, jYields P J ops n (kdOf all i) o p fr.get st ∧ POrdJ P J n ops Q rest (fr.put o.dst p) st := by
        rw [hk']
        rcases h with ⟨h1, h2⟩ | ⟨h1, p, h2, h3⟩
        · exact ⟨_, ⟨hd, .inl ⟨by rw [gwants_get]; exact h1, rfl⟩⟩, h2⟩
        · exact ⟨p, ⟨hd, .inr ⟨by rw [gwants_get]; exact h1, by rw [geval_get]; exact h2⟩⟩, h3⟩
      obtain ⟨p, hy, hp⟩ := hy
      exact jAny_first ho _ listed _ st hdc (free hB1) (fun hb => by rw [hk'] at hb; cases hb) hr' hy (nxt p st hp)
    | b =>
      have hy : ∃ p, jYields P J ops n (kdOf all i) o p fr.get st ∧ POrdJ P J n ops Q rest (fr.put o.dst p) st := by
        rw [hk']
        rcases h with ⟨h1, h2⟩ | ⟨h1, p, h2, h3⟩
        · exact ⟨_, ⟨hd, .inl ⟨by rw [gwants_get]; exact h1, rfl⟩⟩, h2⟩
        · exact ⟨p, ⟨hd, .inr ⟨by rw [gwants_get]; exact h1, by rw [geval_get]; exact h2⟩⟩, h3⟩
      obtain ⟨p, hy, hp⟩ := hy
      simp only [Bool.and_eq_true] at hB1
      refine jAny_first ho _ listed _ st hdc (free hB1.1) (fun _ j hj hun hlt => ?_) hr' hy (nxt p st hp)
      have := List.all_eq_true.1 hB1.2 j (List.mem_range.2 hlt)
      simp only [hj, hun, Bool.or_false] at this
      exact ⟨_, by simpa using this⟩
    | e =>
      have hsole : Region.ready md ops listed = [i] := by simpa using hB1
      refine ⟨fun h0 => (by rw [h0] at hr'; cases hr'), fun j hj => ?_⟩
      rw [hsole] at hj
      obtain rfl := List.mem_singleton.1 hj
      unfold jOp
      rw [ho]
      refine ⟨hd, ?_⟩
      rcases h with ⟨h1, h2⟩ | ⟨h1, h2⟩
      · exact .inl ⟨by rw [gwants_get]; exact h1, nxt _ st h2⟩
      · refine .inr ⟨by rw [gwants_get]; exact h1, ?_⟩
        rw [hk']
        simp only
        rw [geval_get]
        exact h2.mono fun p s hs => ⟨hs.1, nxt p s hs.2⟩
/-- a region that draws its order -/
theorem PW_drawnJ {id : Nat} {Q : Exit → PF → St → Prop} {fr : PF} {st : St} (order : List (Nat × Kd)) (hm : P.follows .mixedOrders = true) (hlen : order.length = ops.size) (hB : orderB .any ops order order (Array.replicate ops.size false) = true) (hJ : J st) (h : POrdJ P J n ops (Q .normal) order fr st) : PW P n (.region id ops true) Q fr st := by
  intro F K w a hr hf
  have hdc : DC .any ops (Array.replicate ops.size false) := fun j o ho hj => by
    exfalso
    have hlt : j < ops.size := (Array.getElem?_eq_some_iff.1 ho).1
    simp [hlt] at hj
  have hx : Ext F K w K { w with drawn := w.drawn + 1 } := ⟨rfl, rfl, rfl, Nat.le_refl _, fun _ _ => rfl, fun _ _ h => ⟨h, rfl⟩, fun _ _ h => .inl h, fun _ _ h => h, fun g u h => ⟨u, h, .inl rfl⟩, fun _ _ => rfl⟩
  have hr2 : Rel F st K { w with drawn := w.drawn + 1 } := ⟨hr.kc, hr.ff, hr.fin, hr.fi, fun e he => (hr.ents e he).keep hx (fun _ _ => rfl) (fun _ _ _ h => h) fun _ _ => rfl, hr.nb, hr.nt⟩
  have hany := jAny_ord (md := .any) order _ fr st hdc hB h
  rw [hlen] at hany
  exact wp_region_any hm (wpAny_jAny (K0 := K) (w0 := w) (F := F) (Q := fun g s => ∃ fr : PF, fr.get = g ∧ Q .normal fr s) (fun K' w' a' g' st' h1 h2 h3 ⟨fr', e, h4⟩ => ⟨K', fr', st', h1, h2, by subst e; exact h3.fr, h4⟩) _ _ _ st K _ a hx hr2 (hf.mono hx).fg hJ hany)
end

/-- these variables stay as they are -/
def keepJ (l : List (Nat × TypeId × List PV)) : St → Prop := fun s => ∀ x ∈ l, s.box? x.1 = some x.2
section
variable {P : Program} {J : St → Prop} {n : Nat} {ops : Array Oper} {Q : PF → St → Prop} {fr : PF} {st : St} {p : PV} {op : Op} {ty : TypeId} {pos : String} {after : Array Edge} {gd : Option (Nat × Bool)} {od : List (Nat × Kd)} {j d : Nat}
theorem PJ_nil (h : Q fr st) : POrdJ P J n ops Q [] fr st := h
theorem PJ_s (h : POrdJ P J n ops Q od ((d, p) :: fr) st) (ho : ops[j]? = some ⟨some d, op, ty, pos, after, gd⟩) (hd : d < n) (hw : PF.wants fr ops ⟨some d, op, ty, pos, after, gd⟩ = some true) (he : nev P fr.eval op = some p) : POrdJ P J n ops Q ((j, .a) :: od) fr st :=
  ⟨_, ho, fun _ e => by cases e; exact hd, .inr ⟨hw, p, fun s _ => nev_ok (o := ⟨some d, op, ty, pos, after, gd⟩) he s, h⟩⟩
theorem PJ_gn {k : Kd} (h : POrdJ P J n ops Q od ((d, .tup []) :: fr) st) (ho : ops[j]? = some ⟨some d, op, ty, pos, after, gd⟩) (hd : d < n) (hw : PF.wants fr ops ⟨some d, op, ty, pos, after, gd⟩ = some false) : POrdJ P J n ops Q ((j, k) :: od) fr st :=
  ⟨_, ho, fun _ e => by cases e; exact hd, .inl ⟨hw, h⟩⟩
/-- a load from a variable that stays as it is -/
theorem PJ_b {l : List (Nat × TypeId × List PV)} {t : TypeId} {a : Operand} {i off : Nat} {T : Ty} {U : TypeId} {cs : List PV} (h : POrdJ P (keepJ l) n ops Q od ((d, p) :: fr) st) (ho : ops[j]? = some ⟨some d, .load t a, ty, pos, after, gd⟩) (hd : d < n) (hw : PF.wants fr ops ⟨some d, .load t a, ty, pos, after, gd⟩ = some true) (ha : fr.eval a = some (.ptr i off)) (hT : tyOf P t = some T) (hl : (i, U, cs) ∈ l) (he : Jm T (cs.drop off) = some p) : POrdJ P (keepJ l) n ops Q ((j, .a) :: od) fr st :=
  ⟨_, ho, fun _ e => by cases e; exact hd, .inr ⟨hw, p, fun s hs => nevB_ok (o := ⟨some d, .load t a, ty, pos, after, gd⟩) (by simp only [nevB, ha, hT, hs _ hl]; exact he), h⟩⟩
theorem PJ_e (ho : ops[j]? = some ⟨some d, op, ty, pos, after, gd⟩) (hd : d < n) (hw : PF.wants fr ops ⟨some d, op, ty, pos, after, gd⟩ = some true) (h : POp P ⟨some d, op, ty, pos, after, gd⟩ fr.eval st fun p st' => J st' ∧ POrdJ P J n ops Q od ((d, p) :: fr) st') : POrdJ P J n ops Q ((j, .e) :: od) fr st :=
  ⟨_, ho, fun _ e => by cases e; exact hd, .inr ⟨hw, h⟩⟩
theorem PJ_bs {len : Nat} {t : TypeId} {parts : Array (Nat × Operand)} {E es bytes ts : Nat} {ea : Option Bool} {T0 : Ty} {e0 : Nat × Nat} {cells : List PV} {rows : List (List D)} (h : POrdJ P J n ops Q od ((d, .d (.sl rows)) :: fr) st) (ho : ops[j]? = some ⟨some d, .buildSlice t len parts, ty, pos, after, gd⟩) (hd : d < n) (hw : PF.wants fr ops ⟨some d, .buildSlice t len parts, ty, pos, after, gd⟩ = some true) (hT : tyOf P t = some T0) (hT2 : T0 = ⟨ts, .slice E es ea⟩) (hE : elOf P E = some e0) (hE2 : e0 = (es, bytes)) (h0 : 0 < len * es) (h24 : len * es ≤ 16777216) (hf : fillO (fun i => some (i * es, es)) fr.eval (List.replicate (len * es) .u) parts.toList = some cells) (hr : rowsOf es len cells = some rows) : POrdJ P J n ops Q ((j, .a) :: od) fr st :=
  ⟨_, ho, fun _ e => (by cases e; exact hd), .inr ⟨hw, _, fun s _ => POp_buildSlice (o := ⟨some d, .buildSlice t len parts, ty, pos, after, gd⟩) rfl (hT2 ▸ hT) rfl (hE2 ▸ hE) h0 h24 hf hr s, h⟩⟩
end
theorem keepJ_nil (st : St) : keepJ [] st := fun x hx => by cases hx
theorem Jt {l : List (Nat × TypeId × List PV)} {st : St} {i : Nat} {x : TypeId × List PV} (h : st.box? i = some x) (hl : keepJ l st) : keepJ ((i, x) :: l) st := by
  intro y hy
  rcases List.mem_cons.1 hy with rfl | hy
  · exact h
  · exact hl y hy
end Go.Proofs.Ytfnfbbmegdkhjaa
