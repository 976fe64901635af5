import Derived.WalkKit
import Derived.WalkSpells
import Derived.WalkLawsBesides
import Derived.Lib.Hide
import Derived.Deep.AppendLies
import Derived.Laws.AppendOwnNone
set_option linter.unusedSimpArgs false
set_option linter.unusedVariables false
set_option maxHeartbeats 16000000
set_option maxRecDepth 100000
namespace Go.Proofs.Ytpaifjlikgnlfaa
open Go.RowKit
theorem Nl {α : Type _} {l : List α} : List.Sublist [] l := List.nil_sublist l
inductive D where
 | v (x : Value)
 | sl (rows : List (List D))
inductive PV where
 | d (x : D)
 | u
 | nils
 | own (g : Nat) (rows : List (List D))
 | full (rows : List (List D))
 | ptr (i off : Nat)
 | eptr (cells : List D)
 | agg (cs : List PV)
 | tup (vs : List PV)
 | fn (f : Fn) (first captured : List PV)
 | mp (i : Nat)
 | bsl (i n c : Nat)
structure Kp where
 cell : Nat → Nat → Prop
 box : Nat → Option Nat
 own : Nat → Option Value
structure Fz where
 blk : Nat → Prop
 id : Nat → Prop
def okv : Value → Prop
 | .string s => s.size ≤ maxLen
 | .agg _ => False
 | .tuple _ => False
 | _ => True
theorem okv_one {v : Value} (h : okv v) : v.oneCell' = true := by cases v <;> first | rfl | exact h.elim
def slen : Value → Nat
 | .slice _ n _ => n
 | _ => 0
inductive RelD (K : Nat → Nat → Prop) (w : World) : D → Value → Prop
 | v {x} : okv x → RelD K w (.v x) x
 | nil {a cap} : cap ≤ maxLen → RelD K w (.sl []) (.slice a 0 cap)
 | sl {sz rows b off cap} (vals : Nat → Nat → Value) : rows.length ≤ cap → cap ≤ maxLen → (∀ row ∈ rows, row.length = sz) →
   (∀ (i j : Nat) (row : List D) (d : D), rows[i]? = some row → row[j]? = some d → K b (off + i * sz + j) ∧ w.cell? ⟨b, off + i * sz + j, none⟩ = some (vals i j)) →
   (∀ (i j : Nat) (row : List D) (d : D), rows[i]? = some row → row[j]? = some d → RelD K w d (vals i j)) → RelD K w (.sl rows) (.slice (some ⟨b, off, none⟩) rows.length cap)
inductive RelV (K : Kp) (w : World) : PV → Value → Prop
 | d {x v} : RelD K.cell w x v → RelV K w (.d x) v
 | u {v} : RelV K w .u v
 | nils : RelV K w .nils (.slice none 0 0)
 | own {g rows v u} : RelD K.cell w (.sl rows) v → K.own g = some u → rows.length ≤ slen u → (rows.length = slen u → v = u) → RelV K w (.own g rows) v
 | full {rows a} : RelD K.cell w (.sl rows) (.slice a rows.length rows.length) → RelV K w (.full rows) (.slice a rows.length rows.length)
 | ptr {i off b} : K.box i = some b → RelV K w (.ptr i off) (.pointer (some ⟨b, off, none⟩))
 | eptr {cells b off} (vals : Nat → Value) : (∀ (j : Nat) (d : D), cells[j]? = some d → K.cell b (off + j) ∧ w.cell? ⟨b, off + j, none⟩ = some (vals j)) →
   (∀ (j : Nat) (d : D), cells[j]? = some d → RelD K.cell w d (vals j)) → RelV K w (.eptr cells) (.pointer (some ⟨b, off, none⟩))
 | agg {ps vs} : vs.size = ps.length → (∀ (i : Nat) (p : PV) (v : Value), ps[i]? = some p → vs[i]? = some v → RelV K w p v) → RelV K w (.agg ps) (.agg vs)
 | tup {ps vs} : vs.size = ps.length → (∀ (i : Nat) (p : PV) (v : Value), ps[i]? = some p → vs[i]? = some v → RelV K w p v) → RelV K w (.tup ps) (.tuple vs)
 | fn {f ps qs vs us} : vs.size = ps.length → us.size = qs.length → (∀ (i : Nat) (p : PV) (v : Value), ps[i]? = some p → vs[i]? = some v → RelV K w p v) → (∀ (i : Nat) (p : PV) (v : Value), qs[i]? = some p → us[i]? = some v → RelV K w p v) → RelV K w (.fn f ps qs) (.func f vs us)
 | mp {i b} : K.box i = some b → RelV K w (.mp i) (.map (some b))
 | bsl {i n c b} : K.box i = some b → n ≤ c → c ≤ maxLen → RelV K w (.bsl i n c) (.slice (some ⟨b, 0, none⟩) n c)
structure Ext (F : Fz) (K : Kp) (w : World) (K' : Kp) (w' : World) : Prop where
 os : w'.os = w.os
 tape : w'.tape = w.tape
 output : w'.output = w.output
 size : w.heap.size ≤ w'.heap.size
 hp : ∀ b, F.blk b → w'.heap[b]? = w.heap[b]?
 kp : ∀ b o, K.cell b o → K'.cell b o ∧ w'.cell? ⟨b, o, none⟩ = w.cell? ⟨b, o, none⟩
 nk : ∀ b o, K'.cell b o → K.cell b o ∨ ¬ F.blk b
 kb : ∀ i b, K.box i = some b → K'.box i = some b
 ko : ∀ g u, K.own g = some u → ∃ u', K'.own g = some u' ∧ (u' = u ∨ slen u < slen u')
 kf : ∀ g, F.id g → K'.own g = K.own g
theorem Ext.refl (F : Fz) (K : Kp) (w : World) : Ext F K w K w :=
 ⟨rfl, rfl, rfl, Nat.le_refl _, fun _ _ => rfl, fun _ _ h => ⟨h, rfl⟩, fun _ _ h => .inl h, fun _ _ h => h, fun _ u h => ⟨u, h, .inl rfl⟩, fun _ _ => rfl⟩
theorem Ext.trans {F : Fz} {K K1 K2 : Kp} {w w1 w2 : World} (h : Ext F K w K1 w1) (h2 : Ext F K1 w1 K2 w2) : Ext F K w K2 w2 := by
 refine ⟨h2.os.trans h.os, h2.tape.trans h.tape, h2.output.trans h.output, Nat.le_trans h.size h2.size, fun b hb => (h2.hp b hb).trans (h.hp b hb), fun b o hk => ?_, fun b o hk => ?_, fun i b hi => h2.kb i b (h.kb i b hi), fun g u hu => ?_, fun g hg => (h2.kf g hg).trans (h.kf g hg)⟩
 ·obtain ⟨h3, h4⟩ := h.kp b o hk
  obtain ⟨h5, h6⟩ := h2.kp b o h3
  exact ⟨h5, h6.trans h4⟩
 ·rcases h2.nk b o hk with h3 | h3
  ·exact h.nk b o h3
  ·exact .inr h3
 ·obtain ⟨u1, h3, h4⟩ := h.ko g u hu
  obtain ⟨u2, h5, h6⟩ := h2.ko g u1 h3
  refine ⟨u2, h5, ?_⟩
  rcases h4 with rfl | h4 <;> rcases h6 with rfl | h6
  ·exact .inl rfl
  ·exact .inr h6
  ·exact .inr h4
  ·exact .inr (by omega)
theorem RelD.mono {K K' : Nat → Nat → Prop} {w w' : World} (hk : ∀ b o, K b o → K' b o ∧ w'.cell? ⟨b, o, none⟩ = w.cell? ⟨b, o, none⟩) {d : D} {v : Value} (h : RelD K w d v) : RelD K' w' d v := by
  induction h with
  | v h => exact .v h
  | nil h => exact .nil h
  | sl vals h1 h2 h3 h4 h5 ih =>
    refine .sl vals h1 h2 h3 (fun i j row d hi hj => ?_) ih
    obtain ⟨h6, h7⟩ := h4 i j row d hi hj
    obtain ⟨h8, h9⟩ := hk _ _ h6
    exact ⟨h8, h9.trans h7⟩
theorem RelV.mono {F : Fz} {K K' : Kp} {w w' : World} (hx : Ext F K w K' w') {p : PV} {v : Value} (h : RelV K w p v) : RelV K' w' p v := by
  induction h with
  | d h => exact .d (h.mono hx.kp)
  | u => exact .u
  | nils => exact .nils
  | own h1 h2 h3 h4 =>
    obtain ⟨u', h5, h6⟩ := hx.ko _ _ h2
    refine .own (h1.mono hx.kp) h5 ?_ fun h => ?_
    · rcases h6 with rfl | h6 <;> omega
    · rcases h6 with rfl | h6
      · exact h4 h
      · omega
  | full h => exact .full (h.mono hx.kp)
  | ptr h => exact .ptr (hx.kb _ _ h)
  | eptr vals h1 h2 =>
    refine .eptr vals (fun j d hj => ?_) fun j d hj => (h2 j d hj).mono hx.kp
    obtain ⟨h3, h4⟩ := h1 j d hj
    obtain ⟨h5, h6⟩ := hx.kp _ _ h3
    exact ⟨h5, h6.trans h4⟩
  | agg h1 _ ih => exact .agg h1 ih
  | tup h1 _ ih => exact .tup h1 ih
  | fn h1 h2 _ _ ih1 ih2 => exact .fn h1 h2 ih1 ih2
  | mp h => exact .mp (hx.kb _ _ h)
  | bsl h h1 h2 => exact .bsl (hx.kb _ _ h) h1 h2
inductive Ent where
 | box (i : Nat) (T : TypeId) (cs : List PV)
 | tok (g : Nat) (E : TypeId) (sz n : Nat)
 | obj (i : Nat) (ok : Obj → Prop)
abbrev St := List Ent
def Ent.block (K : Kp) : Ent → Option Nat
 | .box i _ _ => K.box i
 | .tok g _ _ _ => (K.own g).bind Value.ownBlock
 | .obj i _ => K.box i
def Ent.tid : Ent → Option Nat
 | .box _ _ _ => none
 | .tok g _ _ _ => some g
 | .obj _ _ => none
def EntOk (F : Fz) (K : Kp) (w : World) : Ent → Prop
 | .box i T cs => ∃ b arr, K.box i = some b ∧ ¬ F.blk b ∧ w.heap[b]? = some (.cells arr T) ∧ arr.size = cs.length ∧ (∀ (j : Nat) (p : PV) (v : Value), cs[j]? = some p → arr[j]? = some v → RelV K w p v) ∧ ∀ o, ¬ K.cell b o
 | .tok g E sz n => ∃ u xs, K.own g = some u ∧ ¬ F.id g ∧ slen u = n ∧ w.ownsRow 0 E sz u n xs ∧ ∀ b, u.ownBlock = some b → ¬ F.blk b ∧ ∀ o, K.cell b o → o < n * sz
 | .obj i ok => ∃ b o, K.box i = some b ∧ ¬ F.blk b ∧ w.heap[b]? = some o ∧ ok o ∧ ∀ o', ¬ K.cell b o'
structure Rel (F : Fz) (st : St) (K : Kp) (w : World) : Prop where
 kc : ∀ b o, K.cell b o → ∃ v, w.cell? ⟨b, o, none⟩ = some v
 ff : ∀ b, F.blk b → b < w.heap.size
 fin : ∃ nx, ∀ j, nx ≤ j → K.box j = none ∧ K.own j = none
 fi : ∀ g, F.id g → K.own g ≠ none
 ents : ∀ e ∈ st, EntOk F K w e
 nb : (st.filterMap (Ent.block K)).Nodup
 nt : (st.filterMap Ent.tid).Nodup
theorem Rel.sub {F : Fz} {st st' : St} {K : Kp} {w : World} (h : Rel F st K w) (hs : st'.Sublist st) : Rel F st' K w :=
 ⟨h.kc, h.ff, h.fin, h.fi, fun e he => h.ents e (hs.subset he), h.nb.sublist (hs.filterMap _), h.nt.sublist (hs.filterMap _)⟩
theorem Rel.perm {F : Fz} {st st' : St} {K : Kp} {w : World} (h : Rel F st K w) (hs : st.Perm st') : Rel F st' K w :=
 ⟨h.kc, h.ff, h.fin, h.fi, fun e he => h.ents e (hs.mem_iff.2 he), ((hs.filterMap _).nodup_iff).1 h.nb, ((hs.filterMap _).nodup_iff).1 h.nt⟩
def RelVs (K : Kp) (w : World) (ps : List PV) (vs : Array Value) : Prop := vs.size = ps.length ∧ ∀ (i : Nat) (p : PV) (v : Value), ps[i]? = some p → vs[i]? = some v → RelV K w p v
def PCalls (P : Program) (f : FuncId) (args : List PV) (st : St) (R : PV → St → Prop) : Prop :=
 ∀ (F : Fz) (K : Kp) (w : World) (vs : Array Value), Rel F st K w → RelVs K w args vs →
  Calls P f vs w fun e w' => ∃ v K' p st', e = .returned v ∧ Ext F K w K' w' ∧ Rel F st' K' w' ∧ RelV K' w' p v ∧ R p st'
theorem PCalls.mono {P : Program} {f : FuncId} {args : List PV} {st : St} {R R' : PV → St → Prop} (h : PCalls P f args st R) (hr : ∀ p st', R p st' → R' p st') : PCalls P f args st R' :=
 fun F K w vs h1 h2 => (h F K w vs h1 h2).mono fun _ _ ⟨v, K', p, st', a, b, c, d, e⟩ => ⟨v, K', p, st', a, b, c, d, hr _ _ e⟩
abbrev PF := List (Nat × PV)
def PF.get : PF → Nat → Option PV
 | [], _ => none
 | (k, p) :: r, t => if k = t then some p else PF.get r t
def PF.put (fr : PF) : Option Tmp → PV → PF
 | some d, p => (d, p) :: fr
 | none, _ => fr
def Qdh : Value → PV
 | .slice none 0 0 => .nils
 | .string s => if s.size ≤ maxLen then .d (.v (.string s)) else .u
 | .agg _ => .u
 | .tuple _ => .u
 | v => .d (.v v)
def cPV : Value → PV
 | .agg cs => .agg (cs.toList.map Qdh)
 | .tuple vs => if vs.size = 0 then .tup [] else .u
 | v => Qdh v
theorem cCell_ok (K : Kp) (w : World) (v : Value) : RelV K w (Qdh v) v := by
 unfold Qdh
 split
 ·exact .nils
 ·split
  ·rename_i h; exact .d (.v h)
  ·exact .u
 ·exact .u
 ·exact .u
 ·refine .d (.v ?_)
  unfold okv
  split <;> simp_all
theorem cPV_ok (K : Kp) (w : World) (v : Value) : RelV K w (cPV v) v := by
 unfold cPV
 split
 ·refine .agg (by simp) fun i p v hp hv => ?_
  rw [List.getElem?_map, Array.getElem?_toList, hv] at hp
  simp only [Option.map_some, Option.some.injEq] at hp
  subst hp; exact cCell_ok K w v
 ·split
  ·rename_i vs h
   exact .tup (by simpa using h) fun i p v hp _ => by simp at hp
  ·exact .u
 ·exact cCell_ok K w v
def PF.eval (fr : PF) : Operand → Option PV
 | .tmp t => fr.get t
 | .const v => some (cPV v)
 | .func f => some (.fn (.func f) [] [])
 | .global _ => none
structure FR (n : Nat) (fr : PF) (K : Kp) (w : World) (a : Act) : Prop where
 size : a.tmps.size = n
 defers : a.defers = []
 at_ : ∀ t p, fr.get t = some p → RelV K w p (a.tmps.getD t undef)
theorem FR.eval {n : Nat} {fr : PF} {K : Kp} {w : World} {a : Act} (h : FR n fr K w a) (x : Operand) (p : PV) (hp : fr.eval x = some p) : RelV K w p (a.eval x) := by
  cases x with
  | tmp t => exact h.at_ t p hp
  | const v => simp only [PF.eval, Option.some.injEq] at hp; subst hp; exact cPV_ok K w v
  | global g => simp [PF.eval] at hp
  | func f =>
    simp only [PF.eval, Option.some.injEq] at hp; subst hp
    exact .fn rfl rfl (fun i p v hp _ => by simp at hp) (fun i p v hp _ => by simp at hp)
theorem FR.mono {n : Nat} {fr : PF} {F : Fz} {K K' : Kp} {w w' : World} {a : Act} (h : FR n fr K w a) (hx : Ext F K w K' w') : FR n fr K' w' a :=
 ⟨h.size, h.defers, fun t p hp => (h.at_ t p hp).mono hx⟩
theorem FR.put {n : Nat} {fr : PF} {K : Kp} {w : World} {a : Act} (h : FR n fr K w a) {dst : Option Tmp} (hd : ∀ d, dst = some d → d < n) {p : PV} {v : Value} (hv : RelV K w p v) : FR n (fr.put dst p) K w (a.put dst v) := by
  cases dst with
  | none => exact h
  | some d =>
    have hlt := hd d rfl
    refine ⟨by simp [Act.put, h.size], h.defers, fun t q hq => ?_⟩
    simp only [PF.put, PF.get] at hq
    simp only [Act.put]
    split at hq
    · rename_i e
      subst e
      obtain rfl := Option.some.inj hq
      have := h.size
      simp only [Array.getD_eq_getD_getElem?]
      rw [Array.getElem?_setIfInBounds_self_of_lt (this.symm ▸ hlt)]
      exact hv
    · rename_i e
      have := h.at_ t q hq
      simp only [Array.getD_eq_getD_getElem?] at this ⊢
      rw [Array.getElem?_setIfInBounds_ne e]
      exact this
theorem FR.weak {n : Nat} {fr fr' : PF} {K : Kp} {w : World} {a : Act} (h : FR n fr K w a) (hs : ∀ t p, fr'.get t = some p → fr.get t = some p) : FR n fr' K w a :=
 ⟨h.size, h.defers, fun t p hp => h.at_ t p (hs t p hp)⟩
def POp (P : Program) (o : Oper) (ρ : Operand → Option PV) (st : St) (R : PV → St → Prop) : Prop :=
 ∀ (F : Fz) (K : Kp) (w : World) (a : Act) (next : Act → World → Prop) (Q : Exit → Act → World → Prop), Rel F st K w → (∀ x ∈ o.op.operands, ∀ p, ρ x = some p → RelV K w p (a.eval x)) →
  (∀ K' w' p st' v, Ext F K w K' w' → Rel F st' K' w' → RelV K' w' p v → R p st' → next (a.put o.dst v) w') → o.wp P a w next Q
theorem POp.mono {P : Program} {o : Oper} {ρ : Operand → Option PV} {st : St} {R R' : PV → St → Prop} (h : POp P o ρ st R) (hr : ∀ p st', R p st' → R' p st') : POp P o ρ st R' :=
 fun F K w a next Q h1 h2 h3 => h F K w a next Q h1 h2 fun K' w' p st' v a b c d => h3 K' w' p st' v a b c (hr _ _ d)
theorem POp.of_run {P : Program} {o : Oper} {ρ : Operand → Option PV} {st : St} {R : PV → St → Prop}
  (h : ∀ F K w (a : Act), Rel F st K w → (∀ x ∈ o.op.operands, ∀ p, ρ x = some p → RelV K w p (a.eval x)) →
   ∃ v w' K' p st', (execOp a.eval o).run P w = .ok (.value v) w' ∧ Ext F K w K' w' ∧ Rel F st' K' w' ∧ RelV K' w' p v ∧ R p st') : POp P o ρ st R := by
 intro F K w a next Q h1 h2 h3
 obtain ⟨v, w', K', p, st', hr, h4, h5, h6, h7⟩ := h F K w a h1 h2
 unfold Oper.wp
 rw [hr]
 exact h3 K' w' p st' v h4 h5 h6 h7
theorem POp.of_skip {P : Program} {o : Oper} {ρ : Operand → Option PV} {st : St} {R : PV → St → Prop}
  (h : ∀ F K w (a : Act), Rel F st K w → (∀ x ∈ o.op.operands, ∀ p, ρ x = some p → RelV K w p (a.eval x)) →
   ∃ w' K' st', (execOp a.eval o).run P w = .ok .skip w' ∧ Ext F K w K' w' ∧ Rel F st' K' w' ∧ R (.tup []) st') : POp P o ρ st R := by
 intro F K w a next Q h1 h2 h3
 obtain ⟨w', K', st', hr, h4, h5, h7⟩ := h F K w a h1 h2
 unfold Oper.wp
 rw [hr]
 exact h3 K' w' (.tup []) st' undef h4 h5 (.tup rfl fun i p v hp _ => by simp at hp) h7
def PF.wants (fr : PF) (ops : Array Oper) (o : Oper) : Option Bool :=
  match o.guard with
  | none => some true
  | some (j, want) =>
    match (ops[j]?).bind (·.dst) with
    | none => some false
    | some t =>
      match fr.get t with
      | some (.d (.v (.bool b))) => some (b == want)
      | some (.tup _) => some false
      | _ => none
theorem PF.wants_ok {n : Nat} {fr : PF} {K : Kp} {w : World} {a : Act} (h : FR n fr K w a) (ops : Array Oper) (o : Oper) (b : Bool) (hw : fr.wants ops o = some b) : Region.wanted o (yielded ops a.tmps) = b := by
  unfold PF.wants at hw
  unfold Region.wanted
  cases hg : o.guard with
  | none => rw [hg] at hw; simpa using hw
  | some g =>
    obtain ⟨j, want⟩ := g
    rw [hg] at hw
    simp only at hw ⊢
    unfold yielded
    cases ht : (ops[j]?).bind (·.dst) with
    | none => rw [ht] at hw; simp at hw; subst hw; simp
    | some t =>
      rw [ht] at hw
      simp only at hw
      have hyes : ∀ (p : PV) (v : Value), RelV K w p v → fr.get t = some p → a.tmps.getD t undef = v → v ≠ undef → a.tmps[t]? = some v := by
        intro p v _ _ hv hne
        rw [Array.getD_eq_getD_getElem?] at hv
        cases hc : a.tmps[t]? with
        | none => rw [hc] at hv; exact absurd hv.symm hne
        | some u => rw [hc] at hv; simp at hv; rw [hv]
      split at hw
      · rename_i c hgt
        have h1 := h.at_ t _ hgt
        generalize hv : a.tmps.getD t undef = v at h1
        cases h1 with
        | d h1 =>
          cases h1 with
          | v h1 =>
            have := hyes _ _ (.d (.v h1)) hgt hv (by intro e; cases e)
            simp only [Option.bind_some, this]
            simp only [Option.some.injEq] at hw
            rw [← hw]; cases c <;> cases want <;> rfl
      · rename_i vs hgt
        have h1 := h.at_ t _ hgt
        generalize hv : a.tmps.getD t undef = v at h1
        cases h1 with
        | tup h1 h2 =>
          simp only [Option.some.injEq] at hw
          subst hw
          rw [Array.getD_eq_getD_getElem?] at hv
          simp only [Option.bind_some]
          cases hc : a.tmps[t]? with
          | none => simp
          | some u => rw [hc] at hv; simp at hv; subst hv; simp
      · cases hw
def POps (P : Program) (n : Nat) (ops : Array Oper) (Q : PF → St → Prop) : List Oper → PF → St → Prop
  | [], fr, st => Q fr st
  | o :: rest, fr, st => (∀ d, o.dst = some d → d < n) ∧
    ((fr.wants ops o = some true ∧ POp P o fr.eval st fun p st' => POps P n ops Q rest (fr.put o.dst p) st') ∨
     (fr.wants ops o = some false ∧ POps P n ops Q rest (fr.put o.dst (.tup [])) st))
def PW (P : Program) (n : Nat) (c : Code) (Q : Exit → PF → St → Prop) (fr : PF) (st : St) : Prop :=
 ∀ (F : Fz) (K : Kp) (w : World) (a : Act), Rel F st K w → FR n fr K w a →
  c.wp P (fun e a' w' => ∃ K' fr' st', Ext F K w K' w' ∧ Rel F st' K' w' ∧ FR n fr' K' w' a' ∧ Q e fr' st') a w
theorem PW.mono {P : Program} {n : Nat} {c : Code} {Q Q' : Exit → PF → St → Prop} {fr : PF} {st : St} (h : PW P n c Q fr st) (hq : ∀ e fr st, Q e fr st → Q' e fr st) : PW P n c Q' fr st :=
 fun F K w a h1 h2 => wp_mono (h F K w a h1 h2) fun _ _ _ ⟨K', fr', st', b1, b2, b3, b4⟩ => ⟨K', fr', st', b1, b2, b3, hq _ _ _ b4⟩
theorem wpList_POps {P : Program} {n : Nat} {ops : Array Oper} {Q : PF → St → Prop} {F : Fz} {K0 : Kp} {w0 : World} (Q' : Exit → Act → World → Prop)
    (hQ : ∀ K w a fr st, Ext F K0 w0 K w → Rel F st K w → FR n fr K w a → Q fr st → Q' .normal a w) : ∀ (l : List Oper) (fr : PF) (st : St) (K : Kp) (w : World) (a : Act), Ext F K0 w0 K w → Rel F st K w → FR n fr K w a → POps P n ops Q l fr st → wpList P ops Q' l a w := by
  intro l
  induction l with
  | nil => intro fr st K w a hx hr hf h; exact hQ K w a fr st hx hr hf h
  | cons o rest ih =>
    intro fr st K w a hx hr hf h
    obtain ⟨hd, h⟩ := h
    rcases h with ⟨hw, h⟩ | ⟨hw, h⟩
    · have := PF.wants_ok hf ops o true hw
      simp only [wpList, this, if_true]
      refine .inl (h F K w a _ _ hr (fun x _ p hp => hf.eval x p hp) fun K' w' p st' v h1 h2 h3 h4 => ?_)
      exact ih _ _ K' w' _ (hx.trans h1) h2 ((hf.mono h1).put hd h3) h4
    · have := PF.wants_ok hf ops o false hw
      simp only [wpList, this, Bool.false_eq_true, if_false]
      exact ih _ _ K w _ hx hr (hf.put hd (.tup rfl fun i p v hp _ => by simp at hp)) h
theorem PW_region {P : Program} {n : Nat} {id : Nat} {ops : Array Oper} {Q : Exit → PF → St → Prop} {fr : PF} {st : St} (h : POps P n ops (Q .normal) ops.toList fr st) : PW P n (.region id ops false) Q fr st := by
 intro F K w a hr hf
 refine wp_region_list ?_
 exact wpList_POps _ (fun K' w' a' fr' st' h1 h2 h3 h4 => ⟨K', fr', st', h1, h2, h3, h4⟩) _ fr st K w a (Ext.refl _ _ _) hr hf h
def thenP (next : PF → St → Prop) (Q : Exit → PF → St → Prop) : Exit → PF → St → Prop
 | .normal, fr, st => next fr st
 | e, fr, st => Q e fr st
def Qec (id : Nat) (Q : Exit → PF → St → Prop) : Exit → PF → St → Prop
 | .exit id', fr, st => if id' = id then Q .normal fr st else Q (.exit id') fr st
 | e, fr, st => Q e fr st
section
variable {P : Program} {n : Nat} {Q : Exit → PF → St → Prop} {fr : PF} {st : St}
theorem Qd (h : Q .normal fr st) : PW P n .skip Q fr st := fun F K w a hr hf => wp_skip ⟨K, fr, st, Ext.refl _ _ _, hr, hf, h⟩
theorem Qg {l : Nat} (h : Q .normal fr st) : PW P n (.label l) Q fr st := fun F K w a hr hf => wp_label ⟨K, fr, st, Ext.refl _ _ _, hr, hf, h⟩
theorem Qe {id : Nat} (h : Q (.exit id) fr st) : PW P n (.exit id) Q fr st := fun F K w a hr hf => wp_exit ⟨K, fr, st, Ext.refl _ _ _, hr, hf, h⟩
theorem Qf (h : Q .ret fr st) : PW P n .ret Q fr st := fun F K w a hr hf => wp_ret ⟨K, fr, st, Ext.refl _ _ _, hr, hf, h⟩
theorem Qa {x y : Code} (h : PW P n x (thenP (PW P n y Q) Q) fr st) : PW P n (.seq x y) Q fr st := by
 intro F K w a hr hf
 refine wp_seq (wp_mono (h F K w a hr hf) ?_)
 rintro e a1 w1 ⟨K1, fr1, st1, h1, h2, h3, h4⟩
 cases e with
 | normal => exact wp_mono (h4 F K1 w1 a1 h2 h3) fun _ _ _ ⟨K', fr', st', b1, b2, b3, b4⟩ => ⟨K', fr', st', h1.trans b1, b2, b3, b4⟩
 | _ => exact ⟨K1, fr1, st1, h1, h2, h3, h4⟩
theorem Qb {id : Nat} {c : Code} (h : PW P n c (Qec id Q) fr st) : PW P n (.block id c) Q fr st := by
  intro F K w a hr hf
  refine wp_block (wp_mono (h F K w a hr hf) ?_)
  rintro e a1 w1 ⟨K1, fr1, st1, h1, h2, h3, h4⟩
  cases e with
  | exit id' =>
    simp only [Exit.inBlock]
    simp only [Qec] at h4
    split
    · rename_i e; rw [if_pos e] at h4; exact ⟨K1, fr1, st1, h1, h2, h3, h4⟩
    · rename_i e; rw [if_neg e] at h4; exact ⟨K1, fr1, st1, h1, h2, h3, h4⟩
  | _ => exact ⟨K1, fr1, st1, h1, h2, h3, h4⟩
theorem PW_cond {c : Operand} {x y : Code} {t : Bool} (hc : fr.eval c = some (.d (.v (.bool t)))) (ht : t = true → PW P n x Q fr st) (hf' : t = false → PW P n y Q fr st) : PW P n (.cond c x y) Q fr st := by
  intro F K w a hr hf
  have h := hf.eval c _ hc
  generalize hv : a.eval c = v at h
  cases h with
  | d h =>
    cases h with
    | v h =>
      refine wp_cond hv ?_
      cases t with
      | true => exact ht rfl F K w a hr hf
      | false => exact hf' rfl F K w a hr hf
theorem Qaf {c : Code} {ι : Type} (I : ι → Prop) (fi : ι → PF) (si : ι → St) (μ : ι → Nat) (i0 : ι) (h0 : I i0) (hfr : ∀ t p, (fi i0).get t = some p → fr.get t = some p) (hst : (si i0).Sublist st)
    (round : ∀ i, I i → PW P n c (thenP (fun fr' st' => ∃ j, I j ∧ μ j < μ i ∧ (∀ t p, (fi j).get t = some p → fr'.get t = some p) ∧ (si j).Sublist st') Q) (fi i) (si i)) : PW P n (.loop c) Q fr st := by
  intro F K w a hr hf
  intro b k cs
  have key : ∀ (m : Nat) (i : ι), μ i = m → I i → ∀ K1 w1 a1, Ext F K w K1 w1 → Rel F (si i) K1 w1 → FR n (fi i) K1 w1 a1 →
      ∃ e a' w', (∃ K' fr' st', Ext F K w K' w' ∧ Rel F st' K' w' ∧ FR n fr' K' w' a' ∧ Q e fr' st') ∧ Arrives P (lone (b.at a1 (.code c :: .inLoop c :: k)) cs w1) b k cs e a' w' := by
    intro m
    induction m using Nat.strongRecOn with
    | _ m ih =>
    intro i hm hi K1 w1 a1 hx hr1 hf1
    obtain ⟨e, a2, w2, ⟨K2, fr2, st2, hx2, hr2, hf2, hq⟩, harr⟩ := round i hi F K1 w1 a1 hr1 hf1 b (.inLoop c :: k) cs
    cases e with
    | normal =>
      obtain ⟨j, hj, hlt, hfj, hsj⟩ := hq
      obtain ⟨e3, a3, w3, hq3, harr3⟩ := ih (μ j) (hm ▸ hlt) j rfl hj K2 w2 a2 (hx.trans hx2) (hr2.sub hsj) (hf2.weak hfj)
      exact ⟨e3, a3, w3, hq3, .of_steps (Steps.trans harr (.one step_inLoop)) harr3⟩
    | exit id => exact ⟨_, a2, w2, ⟨K2, fr2, st2, hx.trans hx2, hr2, hf2, hq⟩, .pass (x := .inLoop c) rfl (fun _ _ => .inl (by simp)) harr⟩
    | goto l => exact ⟨_, a2, w2, ⟨K2, fr2, st2, hx.trans hx2, hr2, hf2, hq⟩, .pass (x := .inLoop c) rfl (fun _ _ => .inl (by simp)) harr⟩
    | ret => exact ⟨_, a2, w2, ⟨K2, fr2, st2, hx.trans hx2, hr2, hf2, hq⟩, .pass (x := .inLoop c) rfl (fun _ _ => .inl (by simp)) harr⟩
    | panic ch => exact ⟨_, a2, w2, ⟨K2, fr2, st2, hx.trans hx2, hr2, hf2, hq⟩, .pass (x := .inLoop c) rfl (fun _ _ => .inl (by simp)) harr⟩
    | outgrown => exact ⟨_, a2, w2, ⟨K2, fr2, st2, hx.trans hx2, hr2, hf2, hq⟩, .pass (x := .inLoop c) rfl (fun _ _ => .inl (by simp)) harr⟩
  obtain ⟨e, a', w', hq, harr⟩ := key _ i0 rfl h0 K w a (Ext.refl _ _ _) (hr.sub hst) (hf.weak hfr)
  exact ⟨e, a', w', hq, .of_steps (.one step_loop) harr⟩
end
structure Fd where
 off : Nat
 size : Nat
 agg : Option Bool
inductive TyK where
 | slice (e es : Nat) (ea : Option Bool)
 | struct (fs : List Fd)
 | array (n es : Nat) (ea : Option Bool)
 | str
 | bool
 | int (k : IntKind)
 | other
structure Ty where
 size : Nat
 k : TyK
def Qed : TypeDesc → Bool
 | .struct _ => true
 | .array _ _ => true
 | _ => false
def TyK.agg : TyK → Bool
 | .struct _ => true
 | .array .. => true
 | _ => false
def aggOf (P : Program) (t : TypeId) : Option Bool := (P.underlying t).map Qed
def tyK (P : Program) : TypeDesc → TyK
 | .slice e => .slice e (P.cellsOf e) (aggOf P e)
 | .struct fs => .struct (fs.toList.map fun f => ⟨f.offset, P.cellsOf f.type, aggOf P f.type⟩)
 | .array n e => .array n (P.cellsOf e) (aggOf P e)
 | .string => .str
 | .bool => .bool
 | .int k => .int k
 | _ => .other
def tyOf (P : Program) (t : TypeId) : Option Ty := (P.underlying t).map fun d => ⟨P.cellsOf t, tyK P d⟩
theorem Qal {P : Program} {t : TypeId} {T : Ty} (h : tyOf P t = some T) : ∃ d, P.underlying t = some d ∧ T = ⟨P.cellsOf t, tyK P d⟩ := by
 unfold tyOf at h
 obtain ⟨d, hd, rfl⟩ := Option.map_eq_some_iff.1 h
 exact ⟨d, hd, rfl⟩
theorem tyK_agg (P : Program) (d : TypeDesc) : (tyK P d).agg = Qed d := by cases d <;> rfl
theorem Qfx {P : Program} {t : TypeId} {d : TypeDesc} (h : P.underlying t = some d) : ∃ i, P.info? t = some i := by
 unfold Program.underlying at h
 cases hi : P.info? t with
 | none => rw [hi] at h; cases h
 | some i => exact ⟨i, rfl⟩
theorem Qdn {P : Program} {t : TypeId} {d : TypeDesc} (h : P.underlying t = some d) (w : World) : (sizeOf t).run P w = .ok (P.cellsOf t) w := by
 obtain ⟨i, hi⟩ := Qfx h
 simp [sizeOf, typeInfo, Program.cellsOf, hi]
theorem Qcb {P : Program} {t : TypeId} (h : P.cellsOf t ≠ 0) (w : World) : (sizeOf t).run P w = .ok (P.cellsOf t) w := by
 unfold Program.cellsOf at h
 cases hi : P.info? t with
 | none => rw [hi] at h; exact absurd rfl h
 | some i => simp [sizeOf, typeInfo, Program.cellsOf, hi]
theorem Qey {P : Program} {t : TypeId} {d : TypeDesc} (h : P.underlying t = some d) (w : World) : (isAgg t).run P w = .ok (Qed d) w := by
 cases d <;> simp [isAgg, run_underlying h, Qed]
def loadA (T : Ty) (cells : List D) : Option PV :=
 if T.k.agg = true then (if T.size ≤ cells.length then some (.agg ((cells.take T.size).map .d)) else none)
 else match cells with
  | c :: _ => some (.d c)
  | [] => none
theorem Qgt {P : Program} {t : TypeId} {T : Ty} (hT : tyOf P t = some T) {K : Kp} {w : World} {cells : List D} {p : PV} (hl : loadA T cells = some p) {v : Value} (hv : RelV K w (.eptr cells) v) :
    ∃ u, (Instr.loadAt t v).run P w = .ok u w ∧ RelV K w p u := by
  obtain ⟨d, hd, rfl⟩ := Qal hT
  cases hv with
  | @eptr _ b off vals h1 h2 =>
  simp only [Instr.loadAt, Instr.sureAddr, Sem.run_bind, Sem.run_pure, Result.andThen_ok, loadVar, Qey hd]
  unfold loadA at hl
  simp only [tyK_agg] at hl
  cases hag : Qed d with
  | true =>
    rw [hag] at hl
    simp only [if_true] at hl ⊢
    split at hl
    · rename_i hle
      obtain rfl := Option.some.inj hl
      have hc := run_loadCells (P := P) w ⟨b, off, none⟩ (P.cellsOf t) vals fun j hj => by
        have e : (⟨b, off, none⟩ : Addr).add j = ⟨b, off + j, none⟩ := by unfold Addr.add; split <;> simp_all
        rw [e]
        exact (h1 j _ (List.getElem?_eq_getElem (by omega))).2
      simp only [Sem.run_bind, Qdn hd, Result.andThen_ok, hc, Sem.run_pure]
      refine ⟨_, rfl, .agg (by simp; omega) fun i p v hp hv => ?_⟩
      simp only [List.getElem?_map, Option.map_eq_some_iff] at hp
      obtain ⟨x, hx, rfl⟩ := hp
      rw [List.getElem?_take] at hx
      split at hx
      · rename_i hi
        have : v = vals i := by
          simp only [List.getElem?_toArray, List.getElem?_map, List.getElem?_range hi, Option.map_some, Option.some.injEq] at hv
          exact hv.symm
        subst this
        exact .d (h2 i x hx)
      · cases hx
    · cases hl
  | false =>
    rw [hag] at hl
    simp only [Bool.false_eq_true, if_false] at hl ⊢
    cases cells with
    | nil => cases hl
    | cons c cr =>
      obtain rfl := Option.some.inj hl
      have := (h1 0 c rfl).2
      simp only [Nat.add_zero] at this
      simp only [run_load, this]
      exact ⟨_, rfl, .d (h2 0 c rfl)⟩
theorem eptr_drop {K : Kp} {w : World} {cells : List D} {b off : Nat} (k : Nat) (h : RelV K w (.eptr cells) (.pointer (some ⟨b, off, none⟩))) : RelV K w (.eptr (cells.drop k)) (.pointer (some ⟨b, off + k, none⟩)) := by
  cases h with
  | eptr vals h1 h2 =>
    refine .eptr (fun j => vals (k + j)) (fun j d hj => ?_) fun j d hj => ?_
    · rw [List.getElem?_drop] at hj
      have := h1 _ d hj
      rw [Nat.add_assoc]; exact this
    · rw [List.getElem?_drop] at hj
      exact h2 _ d hj
theorem Qcf (b off k : Nat) : (⟨b, off, none⟩ : Addr).add k = ⟨b, off + k, none⟩ := by unfold Addr.add; split <;> simp_all
theorem eptr_form {K : Kp} {w : World} {cells : List D} {v : Value} (h : RelV K w (.eptr cells) v) : ∃ b off, v = .pointer (some ⟨b, off, none⟩) := by cases h; exact ⟨_, _, rfl⟩
theorem run_fieldPlace {P : Program} {f : Field} (h : P.cellsOf f.type ≠ 0) (a : Addr) (w : World) : (fieldPlace a f).run P w = .ok (a.add f.offset) w := by
 simp [fieldPlace, Qcb h, h]
theorem Qfy {P : Program} {t : TypeId} {T : Ty} (hT : tyOf P t = some T) {fs : List Fd} (hk : T.k = .struct fs) {f : Nat} {fd : Fd} (hf : fs[f]? = some fd) (h0 : fd.size ≠ 0) (b off : Nat) (w : World) :
    (Instr.fieldAt t (.pointer (some ⟨b, off, none⟩)) f).run P w = .ok (.pointer (some ⟨b, off + fd.off, none⟩)) w := by
  obtain ⟨d, hd, rfl⟩ := Qal hT
  cases d with
  | struct fields =>
    simp only [tyK, TyK.struct.injEq] at hk
    subst hk
    simp only [List.getElem?_map, Array.getElem?_toList, Option.map_eq_some_iff] at hf
    obtain ⟨fl, hfl, rfl⟩ := hf
    simp only [Instr.fieldAt, Sem.run_bind, run_underlying hd, Result.andThen_ok, hfl, Instr.sureAddr, Sem.run_pure, run_fieldPlace h0, Qcf]
  | _ => simp [tyK] at hk
def PV.rows : PV → Option (List (List D))
 | .d (.sl rows) => some rows
 | .own _ rows => some rows
 | .full rows => some rows
 | .nils => some []
 | _ => none
theorem Qcl {K : Kp} {w : World} {p : PV} {rows : List (List D)} {v : Value} (hr : p.rows = some rows) (h : RelV K w p v) : RelD K.cell w (.sl rows) v := by
 cases h with
 | d h => cases h <;> simp [PV.rows] at hr <;> (subst hr; first | exact .nil ‹_› | exact .sl ‹_› ‹_› ‹_› ‹_› ‹_› ‹_›)
 | nils => simp [PV.rows] at hr; subst hr; exact .nil (Nat.zero_le _)
 | own h => simp [PV.rows] at hr; subst hr; exact h
 | full h => simp [PV.rows] at hr; subst hr; exact h
 | _ => simp [PV.rows] at hr
theorem Qei {K : Nat → Nat → Prop} {w : World} {rows : List (List D)} {v : Value} (h : RelD K w (.sl rows) v) : ∃ a cap, v = .slice a rows.length cap ∧ rows.length ≤ cap ∧ cap ≤ maxLen := by
 cases h with
 | nil h => exact ⟨_, _, rfl, Nat.zero_le _, h⟩
 | sl vals h1 h2 h3 h4 h5 => exact ⟨_, _, rfl, h1, h2⟩
theorem rows_at {K : Kp} {w : World} {rows : List (List D)} {v : Value} (h : RelD K.cell w (.sl rows) v) {i : Nat} {row : List D} (hi : rows[i]? = some row) : ∃ b off cap, v = .slice (some ⟨b, off, none⟩) rows.length cap ∧ RelV K w (.eptr row) (.pointer (some ⟨b, off + i * row.length, none⟩)) := by
  cases h with
  | nil h => simp at hi
  | @sl sz _ b off cap vals h1 h2 h3 h4 h5 =>
    have hs := h3 row (List.mem_of_getElem? hi)
    refine ⟨b, off, cap, rfl, ?_⟩
    rw [hs]
    exact .eptr (vals i) (fun j d hj => h4 i j row d hi hj) fun j d hj => h5 i j row d hi hj
theorem run_indexAt_d {P : Program} {t : TypeId} {T : Ty} (hT : tyOf P t = some T) {e es : Nat} {ea : Option Bool} (hk : T.k = .slice e es ea) (h0 : es ≠ 0) {K : Kp} {w : World} {rows : List (List D)} {v : Value} (hv : RelD K.cell w (.sl rows) v) {k : IntKind} {n : Int} (hn : 0 ≤ n) {row : List D} (hr : rows[n.toNat]? = some row) (hl : row.length = es) :
    ∃ u, (Instr.indexAt t v (.int k n)).run P w = .ok u w ∧ RelV K w (.eptr row) u := by
  obtain ⟨d, hd, rfl⟩ := Qal hT
  cases d with
  | slice e' =>
    simp only [tyK, TyK.slice.injEq] at hk
    obtain ⟨rfl, rfl, rfl⟩ := hk
    obtain ⟨b, off, cap, rfl, h⟩ := rows_at hv hr
    have hlt : n < rows.length := by
      have := (List.getElem?_eq_some_iff.1 hr).1; omega
    simp only [Instr.indexAt, asIntOf, Sem.run_bind, Sem.run_pure, run_underlying hd, Result.andThen_ok, hn, hlt, and_self, if_true, Qcb h0, Qcf]
    exact ⟨_, rfl, by rw [← hl]; exact h⟩
  | _ => simp [tyK] at hk
def evBin (T : Option TyK) (op : BinOp) : Value → Value → Option Value
  | .int k a, .int k' b =>
    if op = .shl then (if b < 0 then none else some (.int k (k.wrap (a * 2 ^ (min b.toNat k.bits)))))
    else if op = .shr then (if b < 0 then none else some (.int k (a.fdiv (2 ^ (min b.toNat k.bits)))))
    else if k = k' then
    match op with
    | .add => some (.int k (k.wrap (a + b)))
    | .sub => some (.int k (k.wrap (a - b)))
    | .mul => some (.int k (k.wrap (a * b)))
    | .quo => if b = 0 then none else some (.int k (k.wrap (a.tdiv b)))
    | .rem => if b = 0 then none else some (.int k (a.tmod b))
    | .and => some (.int k (k.wrap (BitVec.ofInt k.bits a &&& BitVec.ofInt k.bits b).toNat))
    | .or => some (.int k (k.wrap (BitVec.ofInt k.bits a ||| BitVec.ofInt k.bits b).toNat))
    | .eql => some (.bool (a == b))
    | .neq => some (.bool (a != b))
    | .lss => some (.bool (decide (a < b)))
    | .leq => some (.bool (decide (a ≤ b)))
    | .gtr => some (.bool (decide (a > b)))
    | .geq => some (.bool (decide (a ≥ b)))
    | _ => none
    else none
  | .string a, .string b =>
    match op with
    | .add => if a.size + b.size ≤ maxLen then some (.string (a ++ b)) else none
    | .eql => some (.bool (a.toList == b.toList))
    | .neq => some (.bool (!(a.toList == b.toList)))
    | .lss => some (.bool (Op.bytesLess a.toList b.toList))
    | .leq => some (.bool (Op.bytesLess a.toList b.toList || a.toList == b.toList))
    | .gtr => some (.bool (!(Op.bytesLess a.toList b.toList || a.toList == b.toList)))
    | .geq => some (.bool (!(Op.bytesLess a.toList b.toList)))
    | _ => none
  | .bool a, .bool b =>
    match T, op with
    | some .bool, .eql => some (.bool (a == b))
    | some .bool, .neq => some (.bool (!(a == b)))
    | _, _ => none
  | _, _ => none
theorem equal_bool {P : Program} {t : TypeId} (hd : P.underlying t = some .bool) (a b : Bool) (w : World) : (Op.equal t (.bool a) (.bool b)).run P w = .ok (a == b) w := by
 have e : Op.equal t (.bool a) (.bool b) = Op.equalIn (9999 + 1) t (.bool a) (.bool b) := rfl
 rw [e]
 generalize 9999 = n
 simp only [Op.equalIn, Sem.run_bind, run_underlying hd, Result.andThen_ok, Sem.run_pure]
theorem bin_eql_bool {P : Program} {t : TypeId} (hd : P.underlying t = some .bool) (a b : Bool) (w : World) (ox oy : Operand) : (do eqGuard .eql t ox oy (.bool a) (.bool b); binOp .eql t (.bool a) (.bool b) : Sem Value).run P w = .ok (.bool (a == b)) w := by
 show ((Op.equal t (.bool a) (.bool b)) >>= fun r => (Pure.pure (Value.bool r) : Sem Value)).run P w = _
 rw [Sem.run_bind, equal_bool hd]; rfl
theorem bin_neq_bool {P : Program} {t : TypeId} (hd : P.underlying t = some .bool) (a b : Bool) (w : World) (ox oy : Operand) : (do eqGuard .neq t ox oy (.bool a) (.bool b); binOp .neq t (.bool a) (.bool b) : Sem Value).run P w = .ok (.bool (!(a == b))) w := by
 show ((Op.equal t (.bool a) (.bool b)) >>= fun r => (Pure.pure (Value.bool (!r)) : Sem Value)).run P w = _
 rw [Sem.run_bind, equal_bool hd]; rfl
theorem evBin_run {P : Program} {t : TypeId} {op : BinOp} {x y v : Value} (h : evBin ((tyOf P t).map (·.k)) op x y = some v) (w : World) (ox oy : Operand) : (do eqGuard op t ox oy x y; binOp op t x y : Sem Value).run P w = .ok v w ∧ (okv x → okv y → okv v) := by
  cases x <;> cases y <;> try (simp [evBin] at h; done)
  · rename_i a b
    simp only [evBin] at h
    split at h
    · rename_i hT
      obtain rfl := Option.some.inj h
      obtain ⟨T, hT1, hT2⟩ := Option.map_eq_some_iff.1 hT
      obtain ⟨d, hd, rfl⟩ := Qal hT1
      cases d <;> simp [tyK] at hT2
      exact ⟨bin_eql_bool hd _ _ _ _ _, fun _ _ => trivial⟩
    · rename_i hT
      obtain rfl := Option.some.inj h
      obtain ⟨T, hT1, hT2⟩ := Option.map_eq_some_iff.1 hT
      obtain ⟨d, hd, rfl⟩ := Qal hT1
      cases d <;> simp [tyK] at hT2
      exact ⟨bin_neq_bool hd _ _ _ _ _, fun _ _ => trivial⟩
    · cases h
  · rename_i k a k' b
    simp only [evBin] at h
    split at h
    · rename_i e
      subst e
      split at h
      · cases h
      · rename_i hb
        obtain rfl := Option.some.inj h
        exact ⟨by simp [eqGuard, binOp, Op.shift, hb], fun _ _ => trivial⟩
    · split at h
      · rename_i e
        subst e
        split at h
        · cases h
        · rename_i hb
          obtain rfl := Option.some.inj h
          exact ⟨by simp [eqGuard, binOp, Op.shift, hb], fun _ _ => trivial⟩
      · split at h
        · rename_i n1 n2 e
          subst e
          cases op <;> simp only [Option.some.injEq, reduceCtorEq] at h <;> first
            | (subst h; exact ⟨by first | rfl | simp [eqGuard, binOp, Op.intArith, Op.intDiv, Op.intBits, Op.intCmp, *], fun _ _ => trivial⟩)
            | (split at h
               · cases h
               · rename_i hb
                 obtain rfl := Option.some.inj h
                 exact ⟨by simp [eqGuard, binOp, Op.intDiv, hb], fun _ _ => trivial⟩)
        · cases h
  · rename_i a b
    simp only [evBin] at h
    cases op <;> simp only [Option.some.injEq, reduceCtorEq, Option.ite_none_right_eq_some] at h
    case add =>
      obtain ⟨hb, rfl⟩ := h
      refine ⟨by simp [eqGuard, binOp, Op.stringOp]; unfold maxLen at hb; omega, fun _ _ => ?_⟩
      show (a ++ b).size ≤ maxLen
      rw [ByteArray.size_append]; exact hb
    all_goals
      subst h
      exact ⟨by first | rfl | simp [eqGuard, binOp, Op.stringOp], fun _ _ => trivial⟩
def evUn (op : UnOp) : Value → Option Value
 | .bool b => if op = .not then some (.bool (!b)) else none
 | .int k n => if op = .neg then some (.int k (k.wrap (0 - n))) else none
 | _ => none
theorem evUn_run {P : Program} {op : UnOp} {x v : Value} (h : evUn op x = some v) (w : World) : (Op.unary op x).run P w = .ok v w ∧ okv v := by
 cases x <;> simp [evUn] at h <;> obtain ⟨rfl, rfl⟩ := h <;> exact ⟨by simp [Op.unary, Op.intArith], trivial⟩
def Jq (T : Option TyK) : Value → Option Value
  | .int _ n =>
    match T with
    | some (.int k) => some (.int k (k.wrap n))
    | _ => none
  | .string s =>
    match T with
    | some .str => some (.string s)
    | _ => none
  | _ => none
theorem evConv_run {P : Program} {src dst : TypeId} {x v : Value} (hs : (tyOf P src).isSome = true) (h : Jq ((tyOf P dst).map (·.k)) x = some v) (w : World) : (convert src dst x).run P w = .ok v w ∧ (okv x → okv v) := by
 obtain ⟨S, hS⟩ := Option.isSome_iff_exists.1 hs
 obtain ⟨s, hsd, rfl⟩ := Qal hS
 cases x <;> simp only [Jq] at h <;> try (cases h; done)
 ·split at h
  ·rename_i hT
   obtain rfl := Option.some.inj h
   obtain ⟨T, hT1, hT2⟩ := Option.map_eq_some_iff.1 hT
   obtain ⟨d, hd, rfl⟩ := Qal hT1
   cases d <;> simp [tyK] at hT2
   subst hT2
   exact ⟨by simp [convert, run_underlying hsd, run_underlying hd, Conv.intToInt], fun _ => trivial⟩
  ·cases h
 ·split at h
  ·rename_i hT
   obtain rfl := Option.some.inj h
   obtain ⟨T, hT1, hT2⟩ := Option.map_eq_some_iff.1 hT
   obtain ⟨d, hd, rfl⟩ := Qal hT1
   cases d <;> simp [tyK] at hT2
   exact ⟨by simp [convert, run_underlying hsd, run_underlying hd], fun h => h⟩
  ·cases h
def Qdc (fd : Fd) (cs : List PV) : Option PV :=
 match fd.agg with
 | some true => if fd.off + fd.size ≤ cs.length then some (.agg ((cs.drop fd.off).take fd.size)) else none
 | some false => cs[fd.off]?
 | none => none
def evLen (T : Option TyK) : PV → Option Nat
 | .d (.v (.string s)) => match T with | some .str => some s.size | _ => none
 | .d (.sl rows) => match T with | some (.slice ..) => some rows.length | _ => none
 | .own _ rows => match T with | some (.slice ..) => some rows.length | _ => none
 | .full rows => match T with | some (.slice ..) => some rows.length | _ => none
 | .nils => match T with | some (.slice ..) => some 0 | _ => none
 | .bsl _ n _ => match T with | some (.slice ..) => some n | _ => none
 | _ => none
def nevA (P : Program) (ρ : Operand → Option PV) : Op → Option PV
  | .move x => ρ x
  | .assign x => ρ x
  | .pick c a b => match ρ c with
    | some (.d (.v (.bool t))) => if t = true then ρ a else ρ b
    | _ => none
  | .nilCheck x => match ρ x with
    | some (.ptr i o) => some (.ptr i o)
    | some (.eptr c) => some (.eptr c)
    | _ => none
  | .load t a => match ρ a, tyOf P t with
    | some (.eptr cells), some T => loadA T cells
    | _, _ => none
  | .fieldAddr t x f => match tyOf P t with
    | some ⟨_, .struct fs⟩ => match fs[f]? with
      | some fd => if fd.size = 0 then none else match ρ x with
        | some (.ptr i o) => some (.ptr i (o + fd.off))
        | some (.eptr cells) => some (.eptr (cells.drop fd.off))
        | _ => none
      | none => none
    | _ => none
  | .field t x f => match tyOf P t with
    | some ⟨_, .struct fs⟩ => match fs[f]? with
      | some fd => if fd.size = 0 then none else match ρ x with
        | some (.agg cs) => Qdc fd cs
        | _ => none
      | none => none
    | _ => none
  | .indexAddr t x ix => match ρ ix with
    | some (.d (.v (.int _ n))) => match tyOf P t with
      | some ⟨_, .slice _ es _⟩ => match (ρ x).bind PV.rows with
        | some rows => if 0 ≤ n ∧ es ≠ 0 then match rows[n.toNat]? with
          | some row => if row.length = es then some (.eptr row) else none
          | none => none
          else none
        | none => match ρ x with
          | some (.bsl i c _) => if 0 ≤ n ∧ n < c ∧ es ≠ 0 then some (.ptr i (n.toNat * es)) else none
          | _ => none
      | some ⟨_, .array len es _⟩ => match ρ x with
        | some (.ptr i o) => if 0 ≤ n ∧ n < len ∧ es ≠ 0 then some (.ptr i (o + n.toNat * es)) else none
        | _ => none
      | _ => none
    | _ => none
  | .index t x ix => match ρ ix with
    | some (.d (.v (.int _ n))) => match tyOf P t with
      | some ⟨_, .str⟩ => match ρ x with
        | some (.d (.v (.string s))) => if 0 ≤ n then match s[n.toNat]? with
          | some b => some (.d (.v (.int .u8 b.toNat)))
          | none => none
          else none
        | _ => none
      | some ⟨_, .array len es ea⟩ => match ρ x with
        | some (.agg cs) => if 0 ≤ n ∧ n < len ∧ es ≠ 0 then Qdc ⟨n.toNat * es, es, ea⟩ cs else none
        | _ => none
      | _ => none
    | _ => none
  | .extract x i => match ρ x with
    | some (.tup vs) => vs[i]?
    | _ => none
  | .binOp op t x y _ => match ρ x, ρ y with
    | some (.d (.v a)), some (.d (.v b)) => (evBin ((tyOf P t).map (·.k)) op a b).map fun v => .d (.v v)
    | _, _ => none
  | .unOp op _ x => match ρ x with
    | some (.d (.v a)) => (evUn op a).map fun v => .d (.v v)
    | _ => none
  | .convert s t x => if (tyOf P s).isSome = true then match ρ x with
    | some (.d (.v a)) => (Jq ((tyOf P t).map (·.k)) a).map fun v => .d (.v v)
    | _ => none
    else none
  | .call c => match c.callee with
    | .builtin .len => if c.args.size = 1 ∧ c.argTypes.size = 1 then match (c.args[0]?).bind ρ with
      | some p => (evLen ((tyOf P (c.argTypes.getD 0 0)).map (·.k)) p).map fun n => .d (.v (.int .i64 n))
      | none => none
      else none
    | _ => none
  | _ => none
theorem run_part_d {P : Program} {t : TypeId} {cs : List PV} {p : PV} {off : Nat} (hp : Qdc ⟨off, P.cellsOf t, aggOf P t⟩ cs = some p) (h0 : P.cellsOf t ≠ 0) {K : Kp} {w : World} {vs : Array Value} (hs : vs.size = cs.length) (hv : ∀ (i : Nat) (p : PV) (v : Value), cs[i]? = some p → vs[i]? = some v → RelV K w p v) :
    ∃ u, (part t vs off).run P w = .ok u w ∧ RelV K w p u := by
  unfold Qdc aggOf at hp
  cases hd : P.underlying t with
  | none => rw [hd] at hp; cases hp
  | some d =>
  rw [hd] at hp
  simp only [Option.map_some] at hp
  simp only [part, Sem.run_bind, Qey hd, Result.andThen_ok]
  cases h : Qed d with
  | true =>
    rw [h] at hp
    simp only [if_true] at hp ⊢
    split at hp
    · rename_i hle
      obtain rfl := Option.some.inj hp
      simp only [Sem.run_bind, Qdn hd, Result.andThen_ok, Sem.run_pure]
      refine ⟨_, rfl, .agg (by simp; omega) fun i p v hp hv' => ?_⟩
      rw [List.getElem?_take] at hp
      split at hp
      · rename_i hi
        rw [List.getElem?_drop] at hp
        refine hv (off + i) p v hp ?_
        have hlt := (List.getElem?_eq_some_iff.1 hp).1
        rw [Array.getElem?_extract] at hv'
        split at hv'
        · exact hv'
        · cases hv'
      · cases hp
    · cases hp
  | false =>
    rw [h] at hp
    simp only [Bool.false_eq_true, if_false] at hp ⊢
    have hlt := (List.getElem?_eq_some_iff.1 hp).1
    have hg : vs[off]? = some vs[off] := Array.getElem?_eq_getElem (by omega)
    simp only [hg, Sem.run_pure]
    exact ⟨_, rfl, hv off p _ hp hg⟩
theorem RelV.flat {K : Kp} {w : World} {x v : Value} (h : RelV K w (.d (.v x)) v) : v = x ∧ okv x := by
 cases h with
 | d h => cases h with | v h => exact ⟨rfl, h⟩
theorem nevA_run {P : Program} {o : Oper} {ρ : Operand → Option PV} {p : PV} (h : nevA P ρ o.op = some p) {K : Kp} {w : World} {a : Act} (hops : ∀ x ∈ o.op.operands, ∀ q, ρ x = some q → RelV K w q (a.eval x)) : ∃ v, (execOp a.eval o).run P w = .ok (.value v) w ∧ RelV K w p v := by
  obtain ⟨dst, op, ty, pos, after, guard⟩ := o
  simp only at h hops
  cases op with
  | move x => exact ⟨_, rfl, hops x (by simp [Op.operands]) p h⟩
  | assign x => exact ⟨_, rfl, hops x (by simp [Op.operands]) p h⟩
  | pick c x y =>
    simp only [nevA] at h
    split at h
    · rename_i t hc
      obtain ⟨hv, -⟩ := (hops c (by simp [Op.operands]) _ hc).flat
      simp only [execOp, hv, asBool, Sem.run_bind, Sem.run_pure, Result.andThen_ok]
      refine ⟨_, rfl, ?_⟩
      cases t with
      | true => exact hops x (by simp [Op.operands]) p (by simpa using h)
      | false => exact hops y (by simp [Op.operands]) p (by simpa using h)
    · cases h
  | nilCheck x =>
    simp only [nevA] at h
    split at h
    · rename_i i o hx
      obtain rfl := Option.some.inj h
      have hr := hops x (by simp [Op.operands]) _ hx
      generalize hv : a.eval x = v at hr
      cases hr with
      | ptr hb => simp only [execOp, hv, Sem.run_pure]; exact ⟨_, rfl, .ptr hb⟩
    · rename_i c hx
      obtain rfl := Option.some.inj h
      have hr := hops x (by simp [Op.operands]) _ hx
      obtain ⟨b, off, hv⟩ := eptr_form hr
      rw [hv] at hr
      simp only [execOp, hv, Sem.run_pure]
      exact ⟨_, rfl, hr⟩
    · cases h
  | load t x =>
    simp only [nevA] at h
    split at h
    · rename_i cells T hx hT
      obtain ⟨u, h1, h2⟩ := Qgt (P := P) hT h (hops x (by simp [Op.operands]) _ hx)
      simp only [execOp, Sem.run_bind, h1, Result.andThen_ok, Sem.run_pure]
      exact ⟨u, rfl, h2⟩
    · cases h
  | fieldAddr t x f =>
    simp only [nevA] at h
    split at h
    · rename_i sz fs hT
      split at h
      · rename_i fd hf
        split at h
        · cases h
        · rename_i h0
          split at h
          · rename_i i o hx
            obtain rfl := Option.some.inj h
            have hr := hops x (by simp [Op.operands]) _ hx
            generalize hv : a.eval x = v at hr
            cases hr with
            | ptr hb =>
              simp only [execOp, hv, Sem.run_bind, Qfy hT rfl hf h0, Result.andThen_ok, Sem.run_pure]
              exact ⟨_, rfl, .ptr hb⟩
          · rename_i c hx
            obtain rfl := Option.some.inj h
            have hr := hops x (by simp [Op.operands]) _ hx
            obtain ⟨b, off, hv⟩ := eptr_form hr
            rw [hv] at hr
            simp only [execOp, hv, Sem.run_bind, Qfy hT rfl hf h0, Result.andThen_ok, Sem.run_pure]
            exact ⟨_, rfl, eptr_drop _ hr⟩
          · cases h
      · cases h
    · cases h
  | field t x f =>
    simp only [nevA] at h
    split at h
    · rename_i sz fs hT
      split at h
      · rename_i fd hf
        split at h
        · cases h
        · rename_i h0
          split at h
          · rename_i cs hx
            have hr := hops x (by simp [Op.operands]) _ hx
            generalize hv : a.eval x = v at hr
            cases hr with
            | @agg _ vs hs hvs =>
              obtain ⟨d, hd, hTe⟩ := Qal hT
              cases d with
              | struct fields =>
                simp only [tyK, Ty.mk.injEq, TyK.struct.injEq] at hTe
                obtain ⟨rfl, rfl⟩ := hTe
                simp only [List.getElem?_map, Array.getElem?_toList, Option.map_eq_some_iff] at hf
                obtain ⟨fl, hfl, rfl⟩ := hf
                obtain ⟨u, h1, h2⟩ := run_part_d h h0 hs hvs
                simp only [execOp, hv, Instr.field, Sem.run_bind, run_underlying hd, Result.andThen_ok, hfl, asAgg, Sem.run_pure, h1]
                exact ⟨u, rfl, h2⟩
              | _ => simp [tyK] at hTe
          · cases h
      · cases h
    · cases h
  | indexAddr t x ix =>
    simp only [nevA] at h
    split at h
    · rename_i k n hix
      obtain ⟨hvi, -⟩ := (hops ix (by simp [Op.operands]) _ hix).flat
      split at h
      · rename_i sz e es ea hT
        split at h
        · rename_i rows hx
          obtain ⟨q, hq, hqr⟩ := Option.bind_eq_some_iff.1 hx
          split at h
          · rename_i hn
            split at h
            · rename_i row hr
              split at h
              · rename_i hl
                obtain rfl := Option.some.inj h
                obtain ⟨u, h1, h2⟩ := run_indexAt_d (P := P) (k := k) hT rfl hn.2 (Qcl hqr (hops x (by simp [Op.operands]) _ hq)) hn.1 hr hl
                simp only [execOp, hvi, Sem.run_bind, h1, Result.andThen_ok, Sem.run_pure]
                exact ⟨u, rfl, h2⟩
              · cases h
            · cases h
          · cases h
        · split at h
          · rename_i i c m hx
            split at h
            · rename_i hn
              obtain rfl := Option.some.inj h
              have hr := hops x (by simp [Op.operands]) _ hx
              generalize hv : a.eval x = v at hr
              cases hr with
              | bsl hb h1 h2 =>
                obtain ⟨d, hd, hTe⟩ := Qal hT
                cases d with
                | slice e' =>
                  simp only [tyK, Ty.mk.injEq, TyK.slice.injEq] at hTe
                  obtain ⟨rfl, rfl, rfl, rfl⟩ := hTe
                  simp only [execOp, hv, hvi, Instr.indexAt, asIntOf, Sem.run_bind, Sem.run_pure, run_underlying hd, Result.andThen_ok, hn.1, hn.2.1, and_self, if_true, Qcb hn.2.2, Qcf]
                  exact ⟨_, rfl, by simpa using RelV.ptr hb⟩
                | _ => simp [tyK] at hTe
            · cases h
          · cases h
      · rename_i sz len es ea hT
        split at h
        · rename_i i o hx
          split at h
          · rename_i hn
            obtain rfl := Option.some.inj h
            have hr := hops x (by simp [Op.operands]) _ hx
            generalize hv : a.eval x = v at hr
            cases hr with
            | ptr hb =>
              obtain ⟨d, hd, hTe⟩ := Qal hT
              cases d with
              | array n' e' =>
                simp only [tyK, Ty.mk.injEq, TyK.array.injEq] at hTe
                obtain ⟨rfl, rfl, rfl, rfl⟩ := hTe
                simp only [execOp, hv, hvi, Instr.indexAt, asIntOf, Instr.sureAddr, Sem.run_bind, Sem.run_pure, run_underlying hd, Result.andThen_ok, hn.1, hn.2.1, and_self, if_true, Qcb hn.2.2, Qcf]
                exact ⟨_, rfl, .ptr hb⟩
              | _ => simp [tyK] at hTe
          · cases h
        · cases h
      · cases h
    · cases h
  | index t x ix =>
    simp only [nevA] at h
    split at h
    · rename_i k n hix
      obtain ⟨hvi, -⟩ := (hops ix (by simp [Op.operands]) _ hix).flat
      split at h
      · rename_i sz hT
        split at h
        · rename_i s hx
          obtain ⟨hvx, -⟩ := (hops x (by simp [Op.operands]) _ hx).flat
          split at h
          · rename_i hn
            split at h
            · rename_i b hb
              obtain rfl := Option.some.inj h
              obtain ⟨d, hd, hTe⟩ := Qal hT
              cases d with
              | string =>
                simp only [execOp, hvx, hvi, Instr.index, asIntOf, Sem.run_bind, Sem.run_pure, run_underlying hd, Result.andThen_ok, hn, if_true, hb]
                exact ⟨_, rfl, .d (.v trivial)⟩
              | _ => simp [tyK] at hTe
            · cases h
          · cases h
        · cases h
      · rename_i sz len es ea hT
        split at h
        · rename_i cs hx
          split at h
          · rename_i hn
            have hr := hops x (by simp [Op.operands]) _ hx
            generalize hv : a.eval x = v at hr
            cases hr with
            | @agg _ vs hs hvs =>
              obtain ⟨d, hd, hTe⟩ := Qal hT
              cases d with
              | array n' e' =>
                simp only [tyK, Ty.mk.injEq, TyK.array.injEq] at hTe
                obtain ⟨rfl, rfl, rfl, rfl⟩ := hTe
                obtain ⟨u, h1, h2⟩ := run_part_d h hn.2.2 hs hvs
                simp only [execOp, hv, hvi, Instr.index, asIntOf, Sem.run_bind, Sem.run_pure, run_underlying hd, Result.andThen_ok, hn.1, hn.2.1, and_self, if_true, Qcb hn.2.2, h1]
                exact ⟨u, rfl, h2⟩
              | _ => simp [tyK] at hTe
          · cases h
        · cases h
      · cases h
    · cases h
  | extract x i =>
    simp only [nevA] at h
    split at h
    · rename_i vs hx
      have hr := hops x (by simp [Op.operands]) _ hx
      generalize hv : a.eval x = v at hr
      cases hr with
      | @tup _ us hs hus =>
        have hlt := (List.getElem?_eq_some_iff.1 h).1
        have hg : us[i]? = some us[i] := Array.getElem?_eq_getElem (by omega)
        simp only [execOp, hv, Instr.extract, hg, Sem.run_bind, Sem.run_pure, Result.andThen_ok]
        exact ⟨_, rfl, hus i p _ h hg⟩
    · cases h
  | binOp op t x y ty2 =>
    simp only [nevA] at h
    split at h
    · rename_i u v hx hy
      obtain ⟨r, hr, rfl⟩ := Option.map_eq_some_iff.1 h
      obtain ⟨hvx, ox⟩ := (hops x (by simp [Op.operands]) _ hx).flat
      obtain ⟨hvy, oy⟩ := (hops y (by simp [Op.operands]) _ hy).flat
      obtain ⟨h1, h2⟩ := evBin_run (P := P) hr w x y
      refine ⟨r, ?_, .d (.v (h2 ox oy))⟩
      simp only [execOp, hvx, hvy]
      rw [Sem.run_bind, h1]; rfl
    · cases h
  | unOp op t x =>
    simp only [nevA] at h
    split at h
    · rename_i u hx
      obtain ⟨r, hr, rfl⟩ := Option.map_eq_some_iff.1 h
      obtain ⟨hvx, ox⟩ := (hops x (by simp [Op.operands]) _ hx).flat
      obtain ⟨h1, h2⟩ := evUn_run (P := P) hr w
      refine ⟨r, ?_, .d (.v h2)⟩
      simp only [execOp, hvx]
      rw [Sem.run_bind, h1]; rfl
    · cases h
  | convert s t x =>
    simp only [nevA] at h
    split at h
    · rename_i hs
      split at h
      · rename_i u hx
        obtain ⟨r, hr, rfl⟩ := Option.map_eq_some_iff.1 h
        obtain ⟨hvx, ox⟩ := (hops x (by simp [Op.operands]) _ hx).flat
        obtain ⟨h1, h2⟩ := evConv_run (P := P) hs hr w
        refine ⟨r, ?_, .d (.v (h2 ox))⟩
        simp only [execOp, hvx]
        rw [Sem.run_bind, h1]; rfl
      · cases h
    · cases h
  | call c =>
    obtain ⟨callee, args, argTypes⟩ := c
    cases callee with
    | builtin b =>
      cases b with
      | len =>
        simp only [nevA] at h
        split at h
        · rename_i hz
          obtain ⟨hz1, hz2⟩ := hz
          split at h
          · rename_i q hq
            obtain ⟨n, hn, rfl⟩ := Option.map_eq_some_iff.1 h
            obtain ⟨x, hx, hqx⟩ := Option.bind_eq_some_iff.1 hq
            obtain ⟨x', rfl⟩ : ∃ x', args = #[x'] := ⟨args[0], by apply Array.ext <;> simp_all⟩
            obtain ⟨t', rfl⟩ : ∃ t', argTypes = #[t'] := ⟨argTypes[0], by apply Array.ext <;> simp_all⟩
            simp at hx; subst hx
            simp only [Array.getD_eq_getD_getElem?, List.getElem?_toArray, List.getElem?_cons_zero, Option.getD_some] at hn
            have hr := hops x' (by simp [Op.operands, Call.operands]) _ hqx
            have hlen : (Builtin.len_ #[t'] ty #[a.eval x']).run P w = .ok (.int .i64 n) w := by
              have key : ∀ (T : TyK), (tyOf P t').map (·.k) = some T → ∃ d, P.underlying t' = some d ∧ tyK P d = T := by
                intro T hT
                obtain ⟨T', hT', rfl⟩ := Option.map_eq_some_iff.1 hT
                obtain ⟨d, hd, rfl⟩ := Qal hT'
                exact ⟨d, hd, rfl⟩
              have slc : ∀ (rows : List (List D)) (e es : Nat) (ea : Option Bool), (tyOf P t').map (·.k) = some (.slice e es ea) → RelD K.cell w (.sl rows) (a.eval x') → (Builtin.len_ #[t'] ty #[a.eval x']).run P w = .ok (.int .i64 rows.length) w := by
                intro rows e es ea hT hrel
                obtain ⟨d, hd, hk⟩ := key _ hT
                obtain ⟨aa, cap, hv, _, _⟩ := Qei hrel
                cases d <;> simp [tyK] at hk
                simp [Builtin.len_, run_underlying hd, hv, goInt]
              unfold evLen at hn
              split at hn
              · rename_i s
                obtain ⟨hvx, -⟩ := hr.flat
                split at hn
                · rename_i hT
                  obtain ⟨d, hd, hk⟩ := key _ hT
                  obtain rfl := Option.some.inj hn
                  cases d <;> simp [tyK] at hk
                  simp [Builtin.len_, run_underlying hd, hvx, goInt]
                · cases hn
              · rename_i rows
                split at hn
                · rename_i hT
                  obtain rfl := Option.some.inj hn
                  exact slc _ _ _ _ hT (Qcl rfl hr)
                · cases hn
              · split at hn
                · rename_i hT
                  obtain rfl := Option.some.inj hn
                  exact slc _ _ _ _ hT (Qcl rfl hr)
                · cases hn
              · split at hn
                · rename_i hT
                  obtain rfl := Option.some.inj hn
                  exact slc _ _ _ _ hT (Qcl rfl hr)
                · cases hn
              · split at hn
                · rename_i hT
                  obtain rfl := Option.some.inj hn
                  exact slc [] _ _ _ hT (Qcl rfl hr)
                · cases hn
              · split at hn
                · rename_i hT
                  obtain rfl := Option.some.inj hn
                  obtain ⟨d, hd, hk⟩ := key _ hT
                  generalize a.eval x' = vx at hr ⊢
                  cases hr with
                  | bsl hb h1 h2 =>
                    cases d <;> simp [tyK] at hk
                    simp [Builtin.len_, run_underlying hd, goInt]
                · cases hn
              · cases hn
            refine ⟨.int .i64 n, ?_, .d (.v trivial)⟩
            simp only [execOp, resolve, invoke, builtin, Sem.run_bind, Sem.run_pure, Result.andThen_ok, List.map_toArray, List.map_cons, List.map_nil]
            rw [hlen]; rfl
          · cases h
        · cases h
      | _ => simp [nevA] at h
    | _ => simp [nevA] at h
  | _ => simp [nevA] at h
theorem nevA_ok {P : Program} {o : Oper} {ρ : Operand → Option PV} {p : PV} (h : nevA P ρ o.op = some p) (st : St) : POp P o ρ st fun q s => q = p ∧ s = st := by
 refine POp.of_run fun F K w a h1 h2 => ?_
 obtain ⟨v, h3, h4⟩ := nevA_run (P := P) h h2
 exact ⟨v, w, K, p, st, h3, Ext.refl _ _ _, h1, h4, rfl, rfl⟩
def St.box? : St → Nat → Option (TypeId × List PV)
 | [], _ => none
 | .box j T cs :: r, i => if j = i then some (T, cs) else St.box? r i
 | .tok .. :: r, i => St.box? r i
 | .obj .. :: r, i => St.box? r i
def St.setBox : St → Nat → List PV → St
 | [], _, _ => []
 | .box j T cs :: r, i, ds => if j = i then .box j T ds :: r else .box j T cs :: St.setBox r i ds
 | .tok g E sz n :: r, i, ds => .tok g E sz n :: St.setBox r i ds
 | .obj j ok :: r, i, ds => .obj j ok :: St.setBox r i ds
def St.tok? : St → Nat → Option (TypeId × Nat × Nat)
 | [], _ => none
 | .tok j E sz n :: r, g => if j = g then some (E, sz, n) else St.tok? r g
 | .box .. :: r, g => St.tok? r g
 | .obj .. :: r, g => St.tok? r g
def St.setTok : St → Nat → Nat → St
 | [], _, _ => []
 | .tok j E sz n :: r, g, m => if j = g then .tok j E sz m :: r else .tok j E sz n :: St.setTok r g m
 | .box i T cs :: r, g, m => .box i T cs :: St.setTok r g m
 | .obj i ok :: r, g, m => .obj i ok :: St.setTok r g m
theorem St.box?_split : ∀ {st : St} {i : Nat} {T : TypeId} {cs : List PV}, st.box? i = some (T, cs) → ∃ l r, st = l ++ .box i T cs :: r ∧ ∀ ds, st.setBox i ds = l ++ .box i T ds :: r := by
  intro st
  induction st with
  | nil => intro i T cs h; cases h
  | cons e r ih =>
    intro i T cs h
    cases e with
    | box j U ds =>
      simp only [St.box?] at h
      split at h
      · rename_i e
        subst e
        simp only [Option.some.injEq, Prod.mk.injEq] at h
        obtain ⟨rfl, rfl⟩ := h
        exact ⟨[], r, rfl, fun ds => by simp [St.setBox]⟩
      · rename_i e
        obtain ⟨l, r', rfl, h2⟩ := ih h
        exact ⟨.box j U ds :: l, r', rfl, fun ds => by simp [St.setBox, e, h2]⟩
    | tok g E sz n =>
      simp only [St.box?] at h
      obtain ⟨l, r', rfl, h2⟩ := ih h
      exact ⟨.tok g E sz n :: l, r', rfl, fun ds => by simp [St.setBox, h2]⟩
    | obj j ok =>
      simp only [St.box?] at h
      obtain ⟨l, r', rfl, h2⟩ := ih h
      exact ⟨.obj j ok :: l, r', rfl, fun ds => by simp [St.setBox, h2]⟩
theorem St.tok?_split : ∀ {st : St} {g : Nat} {E : TypeId} {sz n : Nat}, st.tok? g = some (E, sz, n) → ∃ l r, st = l ++ .tok g E sz n :: r ∧ ∀ m, st.setTok g m = l ++ .tok g E sz m :: r := by
  intro st
  induction st with
  | nil => intro g E sz n h; cases h
  | cons e r ih =>
    intro g E sz n h
    cases e with
    | tok j E' sz' n' =>
      simp only [St.tok?] at h
      split at h
      · rename_i e
        subst e
        simp only [Option.some.injEq, Prod.mk.injEq] at h
        obtain ⟨rfl, rfl, rfl⟩ := h
        exact ⟨[], r, rfl, fun ds => by simp [St.setTok]⟩
      · rename_i e
        obtain ⟨l, r', rfl, h2⟩ := ih h
        exact ⟨.tok j E' sz' n' :: l, r', rfl, fun ds => by simp [St.setTok, e, h2]⟩
    | box i U ds =>
      simp only [St.tok?] at h
      obtain ⟨l, r', rfl, h2⟩ := ih h
      exact ⟨.box i U ds :: l, r', rfl, fun ds => by simp [St.setTok, h2]⟩
    | obj j ok =>
      simp only [St.tok?] at h
      obtain ⟨l, r', rfl, h2⟩ := ih h
      exact ⟨.obj j ok :: l, r', rfl, fun ds => by simp [St.setTok, h2]⟩
def Jn (T : Ty) (cells : List PV) : Option PV :=
 if T.k.agg = true then (if T.size ≤ cells.length then some (.agg (cells.take T.size)) else none)
 else match cells with
  | c :: _ => some c
  | [] => none
def nevB (P : Program) (st : St) (ρ : Operand → Option PV) : Op → Option PV
  | .load t a => match ρ a, tyOf P t with
    | some (.ptr i off), some T => match st.box? i with
      | some (_, cs) => Jn T (cs.drop off)
      | none => none
    | _, _ => none
  | _ => none
theorem Qbi {w : World} {b : Nat} {arr : Array Value} {T : TypeId} {fr : Nat × Nat} (h : w.heap[b]? = some (.cells arr T fr)) (o : Nat) : w.cell? ⟨b, o, none⟩ = arr[o]? := by simp [World.cell?, h]
theorem Qen {P : Program} {o : Oper} {ρ : Operand → Option PV} {p : PV} {st : St} (h : nevB P st ρ o.op = some p) : POp P o ρ st fun q s => q = p ∧ s = st := by
  refine POp.of_run fun F K w a h1 h2 => ?_
  obtain ⟨dst, op, ty, pos, after, guard⟩ := o
  simp only at h h2
  cases op with
  | load t x =>
    simp only [nevB] at h
    split at h
    · rename_i i off T hx hT
      split at h
      · rename_i U cs hb
        obtain ⟨l, r, rfl, -⟩ := St.box?_split hb
        obtain ⟨b, arr, hk, hF, hh, hs, hc, hn⟩ := h1.ents (.box i U cs) (by simp)
        have hr := h2 x (by simp [Op.operands]) _ hx
        generalize hv : a.eval x = v at hr
        cases hr with
        | ptr hb' =>
        rw [hk] at hb'
        obtain rfl := Option.some.inj hb'
        obtain ⟨d, hd, rfl⟩ := Qal hT
        have goal : ∃ u, (Instr.loadAt t (.pointer (some ⟨b, off, none⟩))).run P w = .ok u w ∧ RelV K w p u := by
          simp only [Instr.loadAt, Instr.sureAddr, Sem.run_bind, Sem.run_pure, Result.andThen_ok, loadVar, Qey hd]
          unfold Jn at h
          simp only [tyK_agg] at h
          cases hag : Qed d with
          | true =>
            rw [hag] at h
            simp only [if_true] at h ⊢
            split at h
            · rename_i hle
              obtain rfl := Option.some.inj h
              have hlen : off + P.cellsOf t ≤ arr.size ∨ P.cellsOf t = 0 := by
                rw [List.length_drop] at hle; omega
              have hl := run_loadCells (P := P) w ⟨b, off, none⟩ (P.cellsOf t) (fun j => arr.getD (off + j) undef) fun j hj => by
                rw [Qcf, Qbi hh, Array.getD_eq_getD_getElem?, Array.getElem?_eq_getElem (by omega)]; rfl
              simp only [Sem.run_bind, Qdn hd, Result.andThen_ok, hl, Sem.run_pure]
              refine ⟨_, rfl, .agg (by simp; rw [List.length_drop] at hle; omega) fun j q u hq hu => ?_⟩
              rw [List.getElem?_take] at hq
              split at hq
              · rename_i hj
                rw [List.getElem?_drop] at hq
                simp only [List.getElem?_toArray, List.getElem?_map, List.getElem?_range hj, Option.map_some, Option.some.injEq] at hu
                refine hc _ q u hq ?_
                rw [← hu, Array.getD_eq_getD_getElem?, Array.getElem?_eq_getElem (by omega)]; rfl
              · cases hq
            · cases h
          | false =>
            rw [hag] at h
            simp only [Bool.false_eq_true, if_false] at h ⊢
            cases hcs : cs.drop off with
            | nil => rw [hcs] at h; cases h
            | cons c cr =>
              rw [hcs] at h
              obtain rfl := Option.some.inj h
              have h0 : cs[off]? = some c := by
                have := congrArg (·[0]?) hcs
                simpa using this
              have hlt := (List.getElem?_eq_some_iff.1 h0).1
              have hg : arr[off]? = some arr[off] := Array.getElem?_eq_getElem (by omega)
              have hce : w.cell? ⟨b, off, none⟩ = some arr[off] := by rw [Qbi hh, hg]
              simp only [run_load, hce]
              exact ⟨_, rfl, hc off c _ h0 hg⟩
        obtain ⟨u, h3, h4⟩ := goal
        refine ⟨u, w, K, p, _, ?_, Ext.refl _ _ _, h1, h4, rfl, rfl⟩
        simp only [execOp, hv, Sem.run_bind, h3, Result.andThen_ok, Sem.run_pure]
      · cases h
    · cases h
  | _ => simp [nevB] at h
theorem EntOk.keep {F : Fz} {K K' : Kp} {w w' : World} {e : Ent} (hx : Ext F K w K' w') (hb : ∀ b, e.block K = some b → w'.heap[b]? = w.heap[b]?) (hn : ∀ b o, e.block K = some b → K'.cell b o → K.cell b o) (ho : ∀ g, e.tid = some g → K'.own g = K.own g) (h : EntOk F K w e) : EntOk F K' w' e := by
  cases e with
  | box i T cs =>
    obtain ⟨b, arr, h1, h2, h3, h4, h5, h6⟩ := h
    exact ⟨b, arr, hx.kb _ _ h1, h2, (hb b h1).trans h3, h4, fun j p v hp hv => (h5 j p v hp hv).mono hx, fun o hc => h6 o (hn b o h1 hc)⟩
  | tok g E sz n =>
    obtain ⟨u, xs, h1, h2, h3, h4, h5⟩ := h
    refine ⟨u, xs, (ho g rfl).trans h1, h2, h3, ?_, fun b hu => ?_⟩
    · refine ⟨h4.1, ?_⟩
      rcases h4.2 with hn | ⟨q, cap, cur, rfl, h6, h7, r⟩
      · exact .inl hn
      · refine .inr ⟨q, cap, cur, rfl, h6, ?_, r⟩
        rw [hb q (by simp [Ent.block, h1, Value.ownBlock])]; exact h7
    · obtain ⟨h6, h7⟩ := h5 b hu
      exact ⟨h6, fun o hc => h7 o (hn b o (by simp [Ent.block, h1, hu]) hc)⟩
  | obj i ok =>
    obtain ⟨b, o, h1, h2, h3, h4, h5⟩ := h
    exact ⟨b, o, hx.kb _ _ h1, h2, (hb b h1).trans h3, h4, fun o' hc => h5 o' (hn b o' h1 hc)⟩
theorem EntOk.lt {F : Fz} {K : Kp} {w : World} {e : Ent} (h : EntOk F K w e) {b : Nat} (hb : e.block K = some b) : b < w.heap.size ∧ ¬ F.blk b := by
  cases e with
  | box i T cs =>
    obtain ⟨b', arr, h1, h2, h3, -⟩ := h
    simp only [Ent.block] at hb
    rw [h1] at hb
    obtain rfl := Option.some.inj hb
    exact ⟨(Array.getElem?_eq_some_iff.1 h3).1, h2⟩
  | tok g E sz n =>
    obtain ⟨u, xs, h1, h2, h3, h4, h5⟩ := h
    simp only [Ent.block, h1, Option.bind_some] at hb
    exact ⟨(h4.lt b hb).2, (h5 b hb).1⟩
  | obj i ok =>
    obtain ⟨b', o, h1, h2, h3, -⟩ := h
    simp only [Ent.block] at hb
    rw [h1] at hb
    obtain rfl := Option.some.inj hb
    exact ⟨(Array.getElem?_eq_some_iff.1 h3).1, h2⟩
theorem nodup_ne {α : Type} {f : α → Option Nat} {l r : List α} {e : α} (h : ((l ++ e :: r).filterMap f).Nodup) {b : Nat} (hb : f e = some b) : ∀ x, x ∈ l ∨ x ∈ r → f x ≠ some b := by
 intro x hx hxb
 rw [List.filterMap_append, List.filterMap_cons, hb] at h
 simp only at h
 rw [List.nodup_append] at h
 obtain ⟨h1, h2, h3⟩ := h
 rw [List.nodup_cons] at h2
 rcases hx with hx | hx
 ·exact h3 b (List.mem_filterMap.2 ⟨x, hx, hxb⟩) b (by simp) rfl
 ·exact h2.1 (List.mem_filterMap.2 ⟨x, hx, hxb⟩)
theorem Rel.setBox {F : Fz} {K : Kp} {w w' : World} {l r : St} {i : Nat} {T : TypeId} {cs ds : List PV} (h : Rel F (l ++ .box i T cs :: r) K w) {b : Nat} (hb : K.box i = some b) {arr : Array Value}
  (os : w'.os = w.os) (tape : w'.tape = w.tape) (out : w'.output = w.output) (size : w'.heap.size = w.heap.size) (hh : w'.heap[b]? = some (.cells arr T)) (ho : ∀ k, k ≠ b → w'.heap[k]? = w.heap[k]?) (hs : arr.size = ds.length) (hc : ∀ (j : Nat) (p : PV) (v : Value), ds[j]? = some p → arr[j]? = some v → RelV K w p v) :
  Ext F K w K w' ∧ Rel F (l ++ .box i T ds :: r) K w' := by
 obtain ⟨b', arr0, h1, h2, h3, h4, h5, h6⟩ := h.ents (.box i T cs) (by simp)
 rw [hb] at h1
 obtain rfl := Option.some.inj h1
 have hcell : ∀ c o, K.cell c o → c ≠ b := fun c o hc e => h6 o (e ▸ hc)
 have hx : Ext F K w K w' := ⟨os, tape, out, by omega, fun c hc => ho c fun e => h2 (e ▸ hc), fun c o hc => ⟨hc, World.cell?_of_block (w := w) (a := ⟨c, o, none⟩) (ho c (hcell c o hc))⟩, fun c o hc => .inl hc, fun _ _ h => h, fun g u hu => ⟨u, hu, .inl rfl⟩, fun _ _ => rfl⟩
 refine ⟨hx, ⟨fun c o hc => ?_, fun c hc => by have := h.ff c hc; omega, h.fin, h.fi, fun e he => ?_, ?_, ?_⟩⟩
 ·obtain ⟨v, hv⟩ := h.kc c o hc
  exact ⟨v, (hx.kp c o hc).2.trans hv⟩
 ·simp only [List.mem_append, List.mem_cons] at he
  have key : ∀ x, x ∈ l ∨ x ∈ r → EntOk F K w' x := fun x hxx => by
   have hne := nodup_ne h.nb (e := .box i T cs) hb x hxx
   refine (h.ents x (by simp only [List.mem_append, List.mem_cons]; rcases hxx with h | h <;> simp [h])).keep hx (fun c hc => ho c fun e => hne (e ▸ hc)) (fun _ _ _ h => h) fun _ _ => rfl
  rcases he with he | rfl | he
  ·exact key e (.inl he)
  ·exact ⟨b, arr, hb, h2, hh, hs, fun j p v hp hv => (hc j p v hp hv).mono hx, h6⟩
  ·exact key e (.inr he)
 ·have := h.nb
  simp only [List.filterMap_append, List.filterMap_cons, Ent.block] at this ⊢
  exact this
 ·have := h.nt
  simp only [List.filterMap_append, List.filterMap_cons, Ent.tid] at this ⊢
  exact this
def PV.one : PV → Bool
 | .agg _ => false
 | .tup _ => false
 | .u => false
 | _ => true
theorem RelD.one {K : Nat → Nat → Prop} {w : World} {d : D} {v : Value} (h : RelD K w d v) : v.oneCell' = true := by
 cases h with
 | v h => exact okv_one h
 | nil => rfl
 | sl => rfl
theorem RelV.one {K : Kp} {w : World} {p : PV} {v : Value} (h : RelV K w p v) (hp : p.one = true) : v.oneCell' = true := by
 cases h with
 | d h => exact h.one
 | own h => exact h.one
 | full h => exact h.one
 | u => cases hp
 | agg => cases hp
 | tup => cases hp
 | _ => rfl
def PV.ps : PV → List PV
 | .agg ps => ps
 | p => [p]
theorem RelV.ps {K : Kp} {w : World} {p : PV} {v : Value} (h : RelV K w p v) (hp : ∀ q ∈ p.ps, q.one = true) : v.cells.size = p.ps.length ∧ (∀ (j : Nat) (q : PV) (u : Value), p.ps[j]? = some q → v.cells[j]? = some u → RelV K w q u) ∧ ∀ u ∈ v.cells.toList, u.oneCell' = true := by
  have single : ∀ {p : PV} {v : Value}, RelV K w p v → v.cells = #[v] → p.ps = [p] → p.one = true → v.cells.size = p.ps.length ∧ (∀ (j : Nat) (q : PV) (u : Value), p.ps[j]? = some q → v.cells[j]? = some u → RelV K w q u) ∧ ∀ u ∈ v.cells.toList, u.oneCell' = true := by
    intro p v h h1 h2 h3
    refine ⟨by rw [h1, h2]; rfl, fun j q u hq hu => ?_, fun u hu => ?_⟩
    · rw [h2] at hq
      rw [h1] at hu
      have hj : j = 0 := by
        have := (List.getElem?_eq_some_iff.1 hq).1; simp at this; omega
      subst hj
      simp at hq hu
      subst hq; subst hu; exact h
    · rw [h1] at hu; simp at hu; subst hu; exact h.one h3
  have cells_one : ∀ {v : Value}, v.oneCell' = true → v.cells = #[v] := fun {v} h => by cases v <;> first | rfl | cases h
  cases h with
  | @agg ps vs h1 h2 =>
    refine ⟨h1, h2, fun u hu => ?_⟩
    obtain ⟨j, hj, rfl⟩ := List.mem_iff_getElem.1 hu
    simp only [Value.cells, Array.length_toList] at hj
    have hq : ps[j]? = some ps[j] := List.getElem?_eq_getElem (by omega)
    refine (h2 j _ vs[j] hq (Array.getElem?_eq_getElem hj)).one (hp _ (List.mem_of_getElem? hq))
  | u => exact absurd (hp .u (by simp [PV.ps])) (by simp [PV.one])
  | @tup ps vs h1 h2 => exact absurd (hp (.tup ps) (by simp [PV.ps])) (by simp [PV.one])
  | d h => exact single (.d h) (cells_one h.one) rfl rfl
  | nils => exact single .nils rfl rfl rfl
  | own h1 h2 h3 h4 => exact single (.own h1 h2 h3 h4) (cells_one h1.one) rfl rfl
  | full h => exact single (.full h) rfl rfl rfl
  | ptr h => exact single (.ptr h) rfl rfl rfl
  | eptr vals h1 h2 => exact single (.eptr vals h1 h2) rfl rfl rfl
  | fn h1 h2 h3 h4 => exact single (.fn h1 h2 h3 h4) rfl rfl rfl
  | mp h => exact single (.mp h) rfl rfl rfl
  | bsl h h1 h2 => exact single (.bsl h h1 h2) rfl rfl rfl
def spl (cs : List PV) (off : Nat) (ps : List PV) : List PV := cs.take off ++ ps ++ cs.drop (off + ps.length)
theorem POp_store {P : Program} {o : Oper} {ρ : Operand → Option PV} {st : St} {R : PV → St → Prop} {t : TypeId} {x y : Operand} (ho : o.op = .store t x y) {i off : Nat} (hx : ρ x = some (.ptr i off)) {p : PV} (hy : ρ y = some p) (hone : p.ps.all PV.one = true) {T : Ty} (hT : tyOf P t = some T) (hsz : p.ps.length = T.size) {U : TypeId} {cs : List PV} (hb : st.box? i = some (U, cs)) (hfit : off + p.ps.length ≤ cs.length)
  (h : R (.tup []) (st.setBox i (spl cs off p.ps))) : POp P o ρ st R := by
 refine POp.of_skip fun F K w a h1 h2 => ?_
 obtain ⟨dst, op, ty, pos, after, guard⟩ := o
 simp only at ho h2
 subst ho
 obtain ⟨l, r, rfl, hset⟩ := St.box?_split hb
 rw [hset] at h
 obtain ⟨b, arr, hk, hF, hh, hs, hc, hn⟩ := h1.ents (.box i U cs) (by simp)
 have hr := h2 x (by simp [Op.operands]) _ hx
 have hv := h2 y (by simp [Op.operands]) _ hy
 obtain ⟨d, hd, rfl⟩ := Qal hT
 generalize hvx : a.eval x = vx at hr
 cases hr with
 | ptr hb' =>
 rw [hk] at hb'
 obtain rfl := Option.some.inj hb'
 obtain ⟨c1, c2, c3⟩ := hv.ps (by simpa using hone)
 have hst := run_storeCells_at P b off U (a.eval y).cells.toList 0 arr w hh (by simp; omega) c3
 simp only [Nat.add_zero, Array.length_toList] at hst
 have harr : (w.setRow b (arr.toList.take off ++ (a.eval y).cells.toList ++ arr.toList.drop (off + (a.eval y).cells.size)).toArray).heap[b]? = some (.cells (arr.toList.take off ++ (a.eval y).cells.toList ++ arr.toList.drop (off + (a.eval y).cells.size)).toArray U (0, 0)) := setRow_heap w b arr _ U _ hh
 obtain ⟨hx2, hrel⟩ := h1.setBox (ds := spl cs off p.ps) (w' := w.setRow b (arr.toList.take off ++ (a.eval y).cells.toList ++ arr.toList.drop (off + (a.eval y).cells.size)).toArray) hk rfl rfl rfl (by simp [World.setRow]) harr (fun k hk => setRow_other w b k _ hk) (by simp [spl]; omega) fun j q u hq hu => by
  unfold spl at hq
  simp only [List.getElem?_toArray] at hu
  rw [List.append_assoc, List.getElem?_append] at hq hu
  simp only [List.length_take, Array.length_toList] at hq hu
  rw [show min off arr.size = off by omega] at hu
  rw [show min off cs.length = off by omega] at hq
  split at hq
  ·rename_i hj
   rw [if_pos hj] at hu
   rw [List.getElem?_take, if_pos hj] at hq hu
   exact hc j q u hq (by simpa using hu)
  ·rename_i hj
   rw [if_neg hj] at hu
   rw [List.getElem?_append] at hq hu
   simp only [Array.length_toList, c1] at hu
   split at hq
   ·rename_i hj2
    rw [if_pos hj2] at hu
    exact c2 _ q u hq (by simpa using hu)
   ·rename_i hj2
    rw [if_neg hj2] at hu
    rw [List.getElem?_drop] at hq hu
    exact hc _ q u hq (by simpa using hu)
 refine ⟨_, K, _, ?_, hx2, hrel, h⟩
 simp only [execOp, hvx, Instr.storeAt, Instr.sureAddr, storeVar, Sem.run_bind, Sem.run_pure, Result.andThen_ok, Qdn hd, c1, hsz, ne_eq, not_true_eq_false, if_false, hst]
def Ent.bid : Ent → Option Nat
 | .box i _ _ => some i
 | .tok .. => none
 | .obj i _ => some i
def St.freshB (st : St) (i : Nat) : Prop := ∀ e ∈ st, e.bid ≠ some i
def St.freshT (st : St) (g : Nat) : Prop := ∀ e ∈ st, e.tid ≠ some g
theorem Rh (i : Nat) : St.freshB [] i ↔ True := by simp [St.freshB]
theorem Ja (st : St) (i j : Nat) (T : TypeId) (cs : List PV) : St.freshB (.box j T cs :: st) i ↔ (j ≠ i ∧ i ≠ j) ∧ St.freshB st i := by
 simp only [St.freshB, List.forall_mem_cons, Ent.bid, ne_eq, Option.some.injEq]
 constructor
 ·rintro ⟨h1, h2⟩; exact ⟨⟨h1, fun e => h1 e.symm⟩, h2⟩
 ·rintro ⟨h1, h2⟩; exact ⟨h1.1, h2⟩
theorem Rg (st : St) (i g : Nat) (E : TypeId) (sz n : Nat) : St.freshB (.tok g E sz n :: st) i ↔ St.freshB st i := by
 simp [St.freshB, Ent.bid]
theorem Jb (st : St) (i j : Nat) (ok : Obj → Prop) : St.freshB (.obj j ok :: st) i ↔ (j ≠ i ∧ i ≠ j) ∧ St.freshB st i := by
 simp only [St.freshB, List.forall_mem_cons, Ent.bid, ne_eq, Option.some.injEq]
 constructor
 ·rintro ⟨h1, h2⟩; exact ⟨⟨h1, fun e => h1 e.symm⟩, h2⟩
 ·rintro ⟨h1, h2⟩; exact ⟨h1.1, h2⟩
theorem Qdu {α β : Type} {f g : α → Option β} : ∀ {l : List α}, (∀ x ∈ l, f x = g x) → l.filterMap f = l.filterMap g := by
 intro l
 induction l with
 | nil => intro _; rfl
 | cons a l ih => intro h; rw [List.filterMap_cons, List.filterMap_cons, h a (by simp), ih fun x hx => h x (by simp [hx])]
def Kp.addBox (K : Kp) (i b : Nat) : Kp := ⟨K.cell, fun j => if j = i then some b else K.box j, K.own⟩
theorem ext_alloc (F : Fz) {K K' : Kp} (w : World) (o : Obj) (hk : ∀ b o', K.cell b o' → b < w.heap.size ∧ K'.cell b o') (hn : ∀ b o', K'.cell b o' → K.cell b o' ∨ b = w.heap.size) (hb : ∀ i b, K.box i = some b → K'.box i = some b) (ho : ∀ g u, K.own g = some u → K'.own g = some u) (hf : ∀ g, F.id g → K'.own g = K.own g) (ff : ∀ b, F.blk b → b < w.heap.size) : Ext F K w K' (w.alloc o) := by
 have hblk : ∀ k, k < w.heap.size → (w.alloc o).heap[k]? = w.heap[k]? := fun k h => Below.heap_alloc w o k h
 refine ⟨rfl, rfl, rfl, by simp, fun b h => hblk b (ff b h), fun b o' h => ⟨(hk b o' h).2, World.cell?_of_block (w := w) (a := ⟨b, o', none⟩) (hblk b (hk b o' h).1)⟩, fun b o' h => ?_, hb, fun g u h => ⟨u, ho g u h, .inl rfl⟩, hf⟩
 rcases hn b o' h with h | h
 ·exact .inl h
 ·exact .inr fun h' => by have := ff b h'; omega
theorem Rel.klt {F : Fz} {st : St} {K : Kp} {w : World} (h : Rel F st K w) {b o : Nat} (hc : K.cell b o) : b < w.heap.size := by
 obtain ⟨v, hv⟩ := h.kc b o hc
 exact World.block_lt_of_cell? w _ hv
theorem Rel.newBox {F : Fz} {st : St} {K : Kp} {w : World} (h : Rel F st K w) {arr : Array Value} {T : TypeId} {ps : List PV} (hs : arr.size = ps.length) (hc : ∀ (j : Nat) (p : PV) (v : Value), ps[j]? = some p → arr[j]? = some v → RelV K w p v) :
    ∃ i, K.box i = none ∧ St.freshB st i ∧ Ext F K w (K.addBox i w.heap.size) (w.alloc (.cells arr T)) ∧ Rel F (.box i T ps :: st) (K.addBox i w.heap.size) (w.alloc (.cells arr T)) := by
  obtain ⟨nx, hnx⟩ := h.fin
  have hnone : K.box nx = none := (hnx nx (Nat.le_refl _)).1
  have hkb : ∀ j b, K.box j = some b → (K.addBox nx w.heap.size).box j = some b := fun j b hj => by
    simp only [Kp.addBox]
    rw [if_neg (by intro e; subst e; rw [hnone] at hj; cases hj)]; exact hj
  have hx : Ext F K w (K.addBox nx w.heap.size) (w.alloc (.cells arr T)) := ext_alloc F w _ (fun b o hc => ⟨h.klt hc, hc⟩) (fun b o hc => .inl hc) hkb (fun _ _ h => h) (fun _ _ => rfl) h.ff
  refine ⟨nx, hnone, fun e he hid => ?_, hx, ⟨fun b o hc => ?_, fun b hb => by have := h.ff b hb; simp; omega, ⟨nx + 1, fun j hj => ?_⟩, h.fi, fun e he => ?_, ?_, ?_⟩⟩
  · cases e with
    | box i U cs =>
      simp only [Ent.bid, Option.some.injEq] at hid
      subst hid
      obtain ⟨b, arr, h1, -⟩ := h.ents _ he
      rw [hnone] at h1; cases h1
    | tok => cases hid
    | obj i ok =>
      simp only [Ent.bid, Option.some.injEq] at hid
      subst hid
      obtain ⟨b, o, h1, -⟩ := h.ents _ he
      rw [hnone] at h1; cases h1
  · obtain ⟨v, hv⟩ := h.kc b o hc
    exact ⟨v, (hx.kp b o hc).2.trans hv⟩
  · simp only [Kp.addBox]
    rw [if_neg (by omega)]
    exact hnx j (by omega)
  · rcases List.mem_cons.1 he with rfl | he
    · refine ⟨w.heap.size, arr, by simp [Kp.addBox], fun hf => by have := h.ff _ hf; omega, heap_alloc_new w _, hs, fun j p v hp hv => (hc j p v hp hv).mono hx, fun o hc => by have := h.klt hc; omega⟩
    · have he' := h.ents e he
      exact he'.keep hx (fun b hb => Below.heap_alloc w _ b (he'.lt hb).1) (fun _ _ _ h => h) fun _ _ => rfl
  · have hmap : ∀ e ∈ st, e.block (K.addBox nx w.heap.size) = e.block K := fun e he => by
      cases e with
      | box i U cs =>
        obtain ⟨b, arr, h1, -⟩ := h.ents _ he
        simp only [Ent.block, h1]; exact hkb i b h1
      | tok g E sz n => rfl
      | obj i ok =>
        obtain ⟨b, o, h1, -⟩ := h.ents _ he
        simp only [Ent.block, h1]; exact hkb i b h1
    rw [List.filterMap_cons]
    simp only [Ent.block, Kp.addBox, if_true]
    have e2 : st.filterMap (Ent.block (K.addBox nx w.heap.size)) = st.filterMap (Ent.block K) := Qdu hmap
    simp only [Kp.addBox] at e2
    rw [List.nodup_cons]
    refine ⟨fun hm => ?_, by rw [e2]; exact h.nb⟩
    rw [e2] at hm
    obtain ⟨e, he, hb⟩ := List.mem_filterMap.1 hm
    have := ((h.ents e he).lt hb).1
    omega
  · simpa [List.filterMap_cons, Ent.tid] using h.nt
theorem POp_box {P : Program} {o : Oper} {ρ : Operand → Option PV} {st : St} {R : PV → St → Prop} {T : TypeId} {x : Operand} (ho : o.op = .box T x) {p : PV} (hx : ρ x = some p) (hone : p.ps.all PV.one = true)
  (h : ∀ i, st.freshB i → R (.ptr i 0) (.box i T p.ps :: st)) : POp P o ρ st R := by
 refine POp.of_run fun F K w a h1 h2 => ?_
 obtain ⟨dst, op, ty, pos, after, guard⟩ := o
 simp only at ho h2
 subst ho
 have hv := h2 x (by simp [Op.operands]) _ hx
 obtain ⟨c1, c2, c3⟩ := hv.ps (by simpa using hone)
 obtain ⟨i, hi, hf, hx2, hr2⟩ := h1.newBox (T := T) c1 fun j q u hq hu => c2 j q u hq hu
 refine ⟨.pointer (some ⟨w.heap.size, 0, none⟩), _, _, .ptr i 0, _, ?_, hx2, hr2, .ptr (by simp [Kp.addBox]), h i hf⟩
 simp only [execOp, Instr.box, newVar, newRow, Sem.run_bind, run_newObj, Result.andThen_ok, Sem.run_pure]
 rfl
def Qci (P : Program) (t : TypeId) : Option (List PV) := ((P.info? t).bind (·.zero)).map fun z => z.cells.toList.map Qdh
theorem zeroOf_spec {P : Program} {t : TypeId} {ps : List PV} (h : Qci P t = some ps) (w : World) : ∃ z, (zeroValue t).run P w = .ok z w ∧ z.cells.toList.map Qdh = ps := by
 unfold Qci at h
 obtain ⟨z, hz, rfl⟩ := Option.map_eq_some_iff.1 h
 obtain ⟨i, hi, hz⟩ := Option.bind_eq_some_iff.1 hz
 exact ⟨z, by simp [zeroValue, typeInfo, hi, hz], rfl⟩
theorem zero_rel (K : Kp) (w : World) {cs : Array Value} {ps : List PV} (h : cs.toList.map Qdh = ps) : cs.size = ps.length ∧ ∀ (j : Nat) (p : PV) (v : Value), ps[j]? = some p → cs[j]? = some v → RelV K w p v := by
 subst h
 refine ⟨by simp, fun j p v hp hv => ?_⟩
 rw [List.getElem?_map, Array.getElem?_toList, hv] at hp
 simp only [Option.map_some, Option.some.injEq] at hp
 subst hp; exact cCell_ok K w v
theorem POp_alloc {P : Program} {o : Oper} {ρ : Operand → Option PV} {st : St} {R : PV → St → Prop} {T : TypeId} (ho : o.op = .alloc T) {ps : List PV} (hz : Qci P T = some ps)
  (h : ∀ i, st.freshB i → R (.ptr i 0) (.box i T ps :: st)) : POp P o ρ st R := by
 refine POp.of_run fun F K w a h1 h2 => ?_
 obtain ⟨dst, op, ty, pos, after, guard⟩ := o
 simp only at ho h2
 subst ho
 obtain ⟨z, hz1, hz2⟩ := zeroOf_spec hz w
 obtain ⟨c1, c2⟩ := zero_rel K w hz2
 obtain ⟨i, hi, hf, hx2, hr2⟩ := h1.newBox (T := T) c1 c2
 refine ⟨.pointer (some ⟨w.heap.size, 0, none⟩), _, _, .ptr i 0, _, ?_, hx2, hr2, .ptr (by simp [Kp.addBox]), h i hf⟩
 simp only [execOp, Instr.alloc, newVar, newRow, Sem.run_bind, hz1, run_newObj, Result.andThen_ok, Sem.run_pure]
 rfl
end Go.Proofs.Ytpaifjlikgnlfaa
