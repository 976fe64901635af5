import Derived.Test.YtdklpbefbamchaaGreatBA
import Derived.Laws.Tables
import Derived.Great.BuildSlice
set_option linter.unusedSimpArgs false
set_option linter.unusedVariables false
set_option maxHeartbeats 16000000
set_option maxRecDepth 100000
namespace Go.Proofs.YtdklpbefbamchaaGreat
open Go.RowKit
def St.box? : St → Nat → Option (TypeId × List PV)
 | [], _ => none
 | .box j T cs :: r, i => if j = i then some (T, cs) else St.box? r i
 | .tok .. :: r, i => St.box? r i
 | .obj .. :: r, i => St.box? r i
def St.setBox : St → Nat → List PV → St
 | [], _, _ => []
 | .box j T cs :: r, i, ds => if j = i then .box j T ds :: r else .box j T cs :: St.setBox r i ds
 | .tok g E sz n :: r, i, ds => .tok g E sz n :: St.setBox r i ds
 | .obj j ok :: r, i, ds => .obj j ok :: St.setBox r i ds
def St.tok? : St → Nat → Option (TypeId × Nat × Nat)
 | [], _ => none
 | .tok j E sz n :: r, g => if j = g then some (E, sz, n) else St.tok? r g
 | .box .. :: r, g => St.tok? r g
 | .obj .. :: r, g => St.tok? r g
def St.setTok : St → Nat → Nat → St
 | [], _, _ => []
 | .tok j E sz n :: r, g, m => if j = g then .tok j E sz m :: r else .tok j E sz n :: St.setTok r g m
 | .box i T cs :: r, g, m => .box i T cs :: St.setTok r g m
 | .obj i ok :: r, g, m => .obj i ok :: St.setTok r g m
theorem St.box?_split : ∀ {st : St} {i : Nat} {T : TypeId} {cs : List PV}, st.box? i = some (T, cs) → ∃ l r, st = l ++ .box i T cs :: r ∧ ∀ ds, st.setBox i ds = l ++ .box i T ds :: r := by
  intro st
  induction st with
  | nil => intro i T cs h; cases h
  | cons e r ih =>
    intro i T cs h
    cases e with
    | box j U ds =>
      simp only [St.box?] at h
      split at h
      · rename_i e
        subst e
        simp only [Option.some.injEq, Prod.mk.injEq] at h
        obtain ⟨rfl, rfl⟩ := h
        exact ⟨[], r, rfl, fun ds => by simp [St.setBox]⟩
      · rename_i e
        obtain ⟨l, r', rfl, h2⟩ := ih h
        exact ⟨.box j U ds :: l, r', rfl, fun ds => by simp [St.setBox, e, h2]⟩
    | tok g E sz n =>
      simp only [St.box?] at h
      obtain ⟨l, r', rfl, h2⟩ := ih h
      exact ⟨.tok g E sz n :: l, r', rfl, fun ds => by simp [St.setBox, h2]⟩
    | obj j ok =>
      simp only [St.box?] at h
      obtain ⟨l, r', rfl, h2⟩ := ih h
      exact ⟨.obj j ok :: l, r', rfl, fun ds => by simp [St.setBox, h2]⟩
theorem St.tok?_split : ∀ {st : St} {g : Nat} {E : TypeId} {sz n : Nat}, st.tok? g = some (E, sz, n) → ∃ l r, st = l ++ .tok g E sz n :: r ∧ ∀ m, st.setTok g m = l ++ .tok g E sz m :: r := by
  intro st
  induction st with
  | nil => intro g E sz n h; cases h
  | cons e r ih =>
    intro g E sz n h
    cases e with
    | tok j E' sz' n' =>
      simp only [St.tok?] at h
      split at h
      · rename_i e
        subst e
        simp only [Option.some.injEq, Prod.mk.injEq] at h
        obtain ⟨rfl, rfl, rfl⟩ := h
        exact ⟨[], r, rfl, fun ds => by simp [St.setTok]⟩
      · rename_i e
        obtain ⟨l, r', rfl, h2⟩ := ih h
        exact ⟨.tok j E' sz' n' :: l, r', rfl, fun ds => by simp [St.setTok, e, h2]⟩
    | box i U ds =>
      simp only [St.tok?] at h
      obtain ⟨l, r', rfl, h2⟩ := ih h
      exact ⟨.box i U ds :: l, r', rfl, fun ds => by simp [St.setTok, h2]⟩
    | obj j ok =>
      simp only [St.tok?] at h
      obtain ⟨l, r', rfl, h2⟩ := ih h
      exact ⟨.obj j ok :: l, r', rfl, fun ds => by simp [St.setTok, h2]⟩
def Jn (T : Ty) (cells : List PV) : Option PV :=
 if T.k.agg = true then (if T.size ≤ cells.length then some (.agg (cells.take T.size)) else none)
 else match cells with
  | c :: _ => some c
  | [] => none
def nevB (P : Program) (st : St) (ρ : Operand → Option PV) : Op → Option PV
  | .load t a => match ρ a, tyOf P t with
    | some (.ptr i off), some T => match st.box? i with
      | some (_, cs) => Jn T (cs.drop off)
      | none => none
    | _, _ => none
  | _ => none
theorem Qcq {w : World} {b : Nat} {arr : Array Value} {T : TypeId} {fr : Nat × Nat} (h : w.heap[b]? = some (.cells arr T fr)) (o : Nat) : w.cell? ⟨b, o, none⟩ = arr[o]? := by simp [World.cell?, h]
theorem Qgk {P : Program} {o : Oper} {ρ : Operand → Option PV} {p : PV} {st : St} (h : nevB P st ρ o.op = some p) : POp P o ρ st fun q s => q = p ∧ s = st := by
  refine POp.of_run fun F K w a h1 h2 => ?_
  obtain ⟨dst, op, ty, pos, after, guard⟩ := o
  simp only at h h2
  cases op with
  | load t x =>
    simp only [nevB] at h
    split at h
    · rename_i i off T hx hT
      split at h
      · rename_i U cs hb
        obtain ⟨l, r, rfl, -⟩ := St.box?_split hb
        obtain ⟨b, arr, hk, hF, hh, hs, hc, hn⟩ := h1.ents (.box i U cs) (by simp)
        have hr := h2 x (by simp [Op.operands]) _ hx
        generalize hv : a.eval x = v at hr
        cases hr with
        | ptr hb' =>
        rw [hk] at hb'
        obtain rfl := Option.some.inj hb'
        obtain ⟨d, hd, rfl⟩ := Qbi hT
        have goal : ∃ u, (Instr.loadAt t (.pointer (some ⟨b, off, none⟩))).run P w = .ok u w ∧ RelV K w p u := by
          simp only [Instr.loadAt, Instr.sureAddr, Sem.run_bind, Sem.run_pure, Result.andThen_ok, loadVar, Qhy hd]
          unfold Jn at h
          simp only [tyK_agg] at h
          cases hag : Qgs d with
          | true =>
            rw [hag] at h
            simp only [if_true] at h ⊢
            split at h
            · rename_i hle
              obtain rfl := Option.some.inj h
              have hlen : off + P.cellsOf t ≤ arr.size ∨ P.cellsOf t = 0 := by
                rw [List.length_drop] at hle; omega
              have hl := run_loadCells (P := P) w ⟨b, off, none⟩ (P.cellsOf t) (fun j => arr.getD (off + j) undef) fun j hj => by
                rw [Qdr, Qcq hh, Array.getD_eq_getD_getElem?, Array.getElem?_eq_getElem (by omega)]; rfl
              simp only [Sem.run_bind, Qff hd, Result.andThen_ok, hl, Sem.run_pure]
              refine ⟨_, rfl, .agg (by simp; rw [List.length_drop] at hle; omega) fun j q u hq hu => ?_⟩
              rw [List.getElem?_take] at hq
              split at hq
              · rename_i hj
                rw [List.getElem?_drop] at hq
                simp only [List.getElem?_toArray, List.getElem?_map, List.getElem?_range hj, Option.map_some, Option.some.injEq] at hu
                refine hc _ q u hq ?_
                rw [← hu, Array.getD_eq_getD_getElem?, Array.getElem?_eq_getElem (by omega)]; rfl
              · cases hq
            · cases h
          | false =>
            rw [hag] at h
            simp only [Bool.false_eq_true, if_false] at h ⊢
            cases hcs : cs.drop off with
            | nil => rw [hcs] at h; cases h
            | cons c cr =>
              rw [hcs] at h
              obtain rfl := Option.some.inj h
              have h0 : cs[off]? = some c := by
                have := congrArg (·[0]?) hcs
                simpa using this
              have hlt := (List.getElem?_eq_some_iff.1 h0).1
              have hg : arr[off]? = some arr[off] := Array.getElem?_eq_getElem (by omega)
              have hce : w.cell? ⟨b, off, none⟩ = some arr[off] := by rw [Qcq hh, hg]
              simp only [run_load, hce]
              exact ⟨_, rfl, hc off c _ h0 hg⟩
        obtain ⟨u, h3, h4⟩ := goal
        refine ⟨u, w, K, p, _, ?_, Ext.refl _ _ _, h1, h4, rfl, rfl⟩
        simp only [execOp, hv, Sem.run_bind, h3, Result.andThen_ok, Sem.run_pure]
      · cases h
    · cases h
  | _ => simp [nevB] at h
theorem EntOk.keep {F : Fz} {K K' : Kp} {w w' : World} {e : Ent} (hx : Ext F K w K' w') (hb : ∀ b, e.block K = some b → w'.heap[b]? = w.heap[b]?) (hn : ∀ b o, e.block K = some b → K'.cell b o → K.cell b o) (ho : ∀ g, e.tid = some g → K'.own g = K.own g) (h : EntOk F K w e) : EntOk F K' w' e := by
  cases e with
  | box i T cs =>
    obtain ⟨b, arr, h1, h2, h3, h4, h5, h6⟩ := h
    exact ⟨b, arr, hx.kb _ _ h1, h2, (hb b h1).trans h3, h4, fun j p v hp hv => (h5 j p v hp hv).mono hx, fun o hc => h6 o (hn b o h1 hc)⟩
  | tok g E sz n =>
    obtain ⟨u, xs, h1, h2, h3, h4, h5⟩ := h
    refine ⟨u, xs, (ho g rfl).trans h1, h2, h3, ?_, fun b hu => ?_⟩
    · refine ⟨h4.1, ?_⟩
      rcases h4.2 with hn | ⟨q, cap, cur, rfl, h6, h7, r⟩
      · exact .inl hn
      · refine .inr ⟨q, cap, cur, rfl, h6, ?_, r⟩
        rw [hb q (by simp [Ent.block, h1, Value.ownBlock])]; exact h7
    · obtain ⟨h6, h7⟩ := h5 b hu
      exact ⟨h6, fun o hc => h7 o (hn b o (by simp [Ent.block, h1, hu]) hc)⟩
  | obj i ok =>
    obtain ⟨b, o, h1, h2, h3, h4, h5⟩ := h
    exact ⟨b, o, hx.kb _ _ h1, h2, (hb b h1).trans h3, h4, fun o' hc => h5 o' (hn b o' h1 hc)⟩
theorem EntOk.lt {F : Fz} {K : Kp} {w : World} {e : Ent} (h : EntOk F K w e) {b : Nat} (hb : e.block K = some b) : b < w.heap.size ∧ ¬ F.blk b := by
  cases e with
  | box i T cs =>
    obtain ⟨b', arr, h1, h2, h3, -⟩ := h
    simp only [Ent.block] at hb
    rw [h1] at hb
    obtain rfl := Option.some.inj hb
    exact ⟨(Array.getElem?_eq_some_iff.1 h3).1, h2⟩
  | tok g E sz n =>
    obtain ⟨u, xs, h1, h2, h3, h4, h5⟩ := h
    simp only [Ent.block, h1, Option.bind_some] at hb
    exact ⟨(h4.lt b hb).2, (h5 b hb).1⟩
  | obj i ok =>
    obtain ⟨b', o, h1, h2, h3, -⟩ := h
    simp only [Ent.block] at hb
    rw [h1] at hb
    obtain rfl := Option.some.inj hb
    exact ⟨(Array.getElem?_eq_some_iff.1 h3).1, h2⟩
theorem nodup_ne {α : Type} {f : α → Option Nat} {l r : List α} {e : α} (h : ((l ++ e :: r).filterMap f).Nodup) {b : Nat} (hb : f e = some b) : ∀ x, x ∈ l ∨ x ∈ r → f x ≠ some b := by
 intro x hx hxb
 rw [List.filterMap_append, List.filterMap_cons, hb] at h
 simp only at h
 rw [List.nodup_append] at h
 obtain ⟨h1, h2, h3⟩ := h
 rw [List.nodup_cons] at h2
 rcases hx with hx | hx
 ·exact h3 b (List.mem_filterMap.2 ⟨x, hx, hxb⟩) b (by simp) rfl
 ·exact h2.1 (List.mem_filterMap.2 ⟨x, hx, hxb⟩)
theorem Rel.setBox {F : Fz} {K : Kp} {w w' : World} {l r : St} {i : Nat} {T : TypeId} {cs ds : List PV} (h : Rel F (l ++ .box i T cs :: r) K w) {b : Nat} (hb : K.box i = some b) {arr : Array Value}
  (os : w'.os = w.os) (tape : w'.tape = w.tape) (out : w'.output = w.output) (size : w'.heap.size = w.heap.size) (hh : w'.heap[b]? = some (.cells arr T)) (ho : ∀ k, k ≠ b → w'.heap[k]? = w.heap[k]?) (hs : arr.size = ds.length) (hc : ∀ (j : Nat) (p : PV) (v : Value), ds[j]? = some p → arr[j]? = some v → RelV K w p v) :
  Ext F K w K w' ∧ Rel F (l ++ .box i T ds :: r) K w' := by
 obtain ⟨b', arr0, h1, h2, h3, h4, h5, h6⟩ := h.ents (.box i T cs) (by simp)
 rw [hb] at h1
 obtain rfl := Option.some.inj h1
 have hcell : ∀ c o, K.cell c o → c ≠ b := fun c o hc e => h6 o (e ▸ hc)
 have hx : Ext F K w K w' := ⟨os, tape, out, by omega, fun c hc => ho c fun e => h2 (e ▸ hc), fun c o hc => ⟨hc, World.cell?_of_block (w := w) (a := ⟨c, o, none⟩) (ho c (hcell c o hc))⟩, fun c o hc => .inl hc, fun _ _ h => h, fun g u hu => ⟨u, hu, .inl rfl⟩, fun _ _ => rfl⟩
 refine ⟨hx, ⟨fun c o hc => ?_, fun c hc => by have := h.ff c hc; omega, h.fin, h.fi, fun e he => ?_, ?_, ?_⟩⟩
 ·obtain ⟨v, hv⟩ := h.kc c o hc
  exact ⟨v, (hx.kp c o hc).2.trans hv⟩
 ·simp only [List.mem_append, List.mem_cons] at he
  have key : ∀ x, x ∈ l ∨ x ∈ r → EntOk F K w' x := fun x hxx => by
   have hne := nodup_ne h.nb (e := .box i T cs) hb x hxx
   refine (h.ents x (by simp only [List.mem_append, List.mem_cons]; rcases hxx with h | h <;> simp [h])).keep hx (fun c hc => ho c fun e => hne (e ▸ hc)) (fun _ _ _ h => h) fun _ _ => rfl
  rcases he with he | rfl | he
  ·exact key e (.inl he)
  ·exact ⟨b, arr, hb, h2, hh, hs, fun j p v hp hv => (hc j p v hp hv).mono hx, h6⟩
  ·exact key e (.inr he)
 ·have := h.nb
  simp only [List.filterMap_append, List.filterMap_cons, Ent.block] at this ⊢
  exact this
 ·have := h.nt
  simp only [List.filterMap_append, List.filterMap_cons, Ent.tid] at this ⊢
  exact this
def PV.one : PV → Bool
 | .agg _ => false
 | .tup _ => false
 | .u => false
 | _ => true
theorem RelD.one {K : Nat → Nat → Prop} {w : World} {d : D} {v : Value} (h : RelD K w d v) : v.oneCell' = true := by
 cases h with
 | v h => exact okv_one h
 | nil => rfl
 | sl => rfl
theorem RelV.one {K : Kp} {w : World} {p : PV} {v : Value} (h : RelV K w p v) (hp : p.one = true) : v.oneCell' = true := by
 cases h with
 | d h => exact h.one
 | own h => exact h.one
 | full h => exact h.one
 | u => cases hp
 | agg => cases hp
 | tup => cases hp
 | _ => rfl
def PV.ps : PV → List PV
 | .agg ps => ps
 | p => [p]
theorem RelV.ps {K : Kp} {w : World} {p : PV} {v : Value} (h : RelV K w p v) (hp : ∀ q ∈ p.ps, q.one = true) : v.cells.size = p.ps.length ∧ (∀ (j : Nat) (q : PV) (u : Value), p.ps[j]? = some q → v.cells[j]? = some u → RelV K w q u) ∧ ∀ u ∈ v.cells.toList, u.oneCell' = true := by
  have single : ∀ {p : PV} {v : Value}, RelV K w p v → v.cells = #[v] → p.ps = [p] → p.one = true → v.cells.size = p.ps.length ∧ (∀ (j : Nat) (q : PV) (u : Value), p.ps[j]? = some q → v.cells[j]? = some u → RelV K w q u) ∧ ∀ u ∈ v.cells.toList, u.oneCell' = true := by
    intro p v h h1 h2 h3
    refine ⟨by rw [h1, h2]; rfl, fun j q u hq hu => ?_, fun u hu => ?_⟩
    · rw [h2] at hq
      rw [h1] at hu
      have hj : j = 0 := by
        have := (List.getElem?_eq_some_iff.1 hq).1; simp at this; omega
      subst hj
      simp at hq hu
      subst hq; subst hu; exact h
    · rw [h1] at hu; simp at hu; subst hu; exact h.one h3
  have cells_one : ∀ {v : Value}, v.oneCell' = true → v.cells = #[v] := fun {v} h => by cases v <;> first | rfl | cases h
  cases h with
  | @agg ps vs h1 h2 =>
    refine ⟨h1, h2, fun u hu => ?_⟩
    obtain ⟨j, hj, rfl⟩ := List.mem_iff_getElem.1 hu
    simp only [Value.cells, Array.length_toList] at hj
    have hq : ps[j]? = some ps[j] := List.getElem?_eq_getElem (by omega)
    refine (h2 j _ vs[j] hq (Array.getElem?_eq_getElem hj)).one (hp _ (List.mem_of_getElem? hq))
  | u => exact absurd (hp .u (by simp [PV.ps])) (by simp [PV.one])
  | @tup ps vs h1 h2 => exact absurd (hp (.tup ps) (by simp [PV.ps])) (by simp [PV.one])
  | d h => exact single (.d h) (cells_one h.one) rfl rfl
  | nils => exact single .nils rfl rfl rfl
  | own h1 h2 h3 h4 => exact single (.own h1 h2 h3 h4) (cells_one h1.one) rfl rfl
  | full h => exact single (.full h) rfl rfl rfl
  | ptr h => exact single (.ptr h) rfl rfl rfl
  | eptr vals h1 h2 => exact single (.eptr vals h1 h2) rfl rfl rfl
  | fn h1 h2 h3 h4 => exact single (.fn h1 h2 h3 h4) rfl rfl rfl
  | mp h => exact single (.mp h) rfl rfl rfl
  | bsl h h1 h2 => exact single (.bsl h h1 h2) rfl rfl rfl
def spl (cs : List PV) (off : Nat) (ps : List PV) : List PV := cs.take off ++ ps ++ cs.drop (off + ps.length)
theorem POp_store {P : Program} {o : Oper} {ρ : Operand → Option PV} {st : St} {R : PV → St → Prop} {t : TypeId} {x y : Operand} (ho : o.op = .store t x y) {i off : Nat} (hx : ρ x = some (.ptr i off)) {p : PV} (hy : ρ y = some p) (hone : p.ps.all PV.one = true) {T : Ty} (hT : tyOf P t = some T) (hsz : p.ps.length = T.size) {U : TypeId} {cs : List PV} (hb : st.box? i = some (U, cs)) (hfit : off + p.ps.length ≤ cs.length)
  (h : R (.tup []) (st.setBox i (spl cs off p.ps))) : POp P o ρ st R := by
 refine POp.of_skip fun F K w a h1 h2 => ?_
 obtain ⟨dst, op, ty, pos, after, guard⟩ := o
 simp only at ho h2
 subst ho
 obtain ⟨l, r, rfl, hset⟩ := St.box?_split hb
 rw [hset] at h
 obtain ⟨b, arr, hk, hF, hh, hs, hc, hn⟩ := h1.ents (.box i U cs) (by simp)
 have hr := h2 x (by simp [Op.operands]) _ hx
 have hv := h2 y (by simp [Op.operands]) _ hy
 obtain ⟨d, hd, rfl⟩ := Qbi hT
 generalize hvx : a.eval x = vx at hr
 cases hr with
 | ptr hb' =>
 rw [hk] at hb'
 obtain rfl := Option.some.inj hb'
 obtain ⟨c1, c2, c3⟩ := hv.ps (by simpa using hone)
 have hst := run_storeCells_at P b off U (a.eval y).cells.toList 0 arr w hh (by simp; omega) c3
 simp only [Nat.add_zero, Array.length_toList] at hst
 have harr : (w.setRow b (arr.toList.take off ++ (a.eval y).cells.toList ++ arr.toList.drop (off + (a.eval y).cells.size)).toArray).heap[b]? = some (.cells (arr.toList.take off ++ (a.eval y).cells.toList ++ arr.toList.drop (off + (a.eval y).cells.size)).toArray U (0, 0)) := setRow_heap w b arr _ U _ hh
 obtain ⟨hx2, hrel⟩ := h1.setBox (ds := spl cs off p.ps) (w' := w.setRow b (arr.toList.take off ++ (a.eval y).cells.toList ++ arr.toList.drop (off + (a.eval y).cells.size)).toArray) hk rfl rfl rfl (by simp [World.setRow]) harr (fun k hk => setRow_other w b k _ hk) (by simp [spl]; omega) fun j q u hq hu => by
  unfold spl at hq
  simp only [List.getElem?_toArray] at hu
  rw [List.append_assoc, List.getElem?_append] at hq hu
  simp only [List.length_take, Array.length_toList] at hq hu
  rw [show min off arr.size = off by omega] at hu
  rw [show min off cs.length = off by omega] at hq
  split at hq
  ·rename_i hj
   rw [if_pos hj] at hu
   rw [List.getElem?_take, if_pos hj] at hq hu
   exact hc j q u hq (by simpa using hu)
  ·rename_i hj
   rw [if_neg hj] at hu
   rw [List.getElem?_append] at hq hu
   simp only [Array.length_toList, c1] at hu
   split at hq
   ·rename_i hj2
    rw [if_pos hj2] at hu
    exact c2 _ q u hq (by simpa using hu)
   ·rename_i hj2
    rw [if_neg hj2] at hu
    rw [List.getElem?_drop] at hq hu
    exact hc _ q u hq (by simpa using hu)
 refine ⟨_, K, _, ?_, hx2, hrel, h⟩
 simp only [execOp, hvx, Instr.storeAt, Instr.sureAddr, storeVar, Sem.run_bind, Sem.run_pure, Result.andThen_ok, Qff hd, c1, hsz, ne_eq, not_true_eq_false, if_false, hst]
def Ent.bid : Ent → Option Nat
 | .box i _ _ => some i
 | .tok .. => none
 | .obj i _ => some i
def St.freshB (st : St) (i : Nat) : Prop := ∀ e ∈ st, e.bid ≠ some i
def St.freshT (st : St) (g : Nat) : Prop := ∀ e ∈ st, e.tid ≠ some g
theorem Rh (i : Nat) : St.freshB [] i ↔ True := by simp [St.freshB]
theorem Ja (st : St) (i j : Nat) (T : TypeId) (cs : List PV) : St.freshB (.box j T cs :: st) i ↔ (j ≠ i ∧ i ≠ j) ∧ St.freshB st i := by
 simp only [St.freshB, List.forall_mem_cons, Ent.bid, ne_eq, Option.some.injEq]
 constructor
 ·rintro ⟨h1, h2⟩; exact ⟨⟨h1, fun e => h1 e.symm⟩, h2⟩
 ·rintro ⟨h1, h2⟩; exact ⟨h1.1, h2⟩
theorem Rg (st : St) (i g : Nat) (E : TypeId) (sz n : Nat) : St.freshB (.tok g E sz n :: st) i ↔ St.freshB st i := by
 simp [St.freshB, Ent.bid]
theorem Jb (st : St) (i j : Nat) (ok : Obj → Prop) : St.freshB (.obj j ok :: st) i ↔ (j ≠ i ∧ i ≠ j) ∧ St.freshB st i := by
 simp only [St.freshB, List.forall_mem_cons, Ent.bid, ne_eq, Option.some.injEq]
 constructor
 ·rintro ⟨h1, h2⟩; exact ⟨⟨h1, fun e => h1 e.symm⟩, h2⟩
 ·rintro ⟨h1, h2⟩; exact ⟨h1.1, h2⟩
theorem Qep {α β : Type} {f g : α → Option β} : ∀ {l : List α}, (∀ x ∈ l, f x = g x) → l.filterMap f = l.filterMap g := by
 intro l
 induction l with
 | nil => intro _; rfl
 | cons a l ih => intro h; rw [List.filterMap_cons, List.filterMap_cons, h a (by simp), ih fun x hx => h x (by simp [hx])]
def Kp.addBox (K : Kp) (i b : Nat) : Kp := ⟨K.cell, fun j => if j = i then some b else K.box j, K.own⟩
theorem ext_alloc (F : Fz) {K K' : Kp} (w : World) (o : Obj) (hk : ∀ b o', K.cell b o' → b < w.heap.size ∧ K'.cell b o') (hn : ∀ b o', K'.cell b o' → K.cell b o' ∨ b = w.heap.size) (hb : ∀ i b, K.box i = some b → K'.box i = some b) (ho : ∀ g u, K.own g = some u → K'.own g = some u) (hf : ∀ g, F.id g → K'.own g = K.own g) (ff : ∀ b, F.blk b → b < w.heap.size) : Ext F K w K' (w.alloc o) := by
 have hblk : ∀ k, k < w.heap.size → (w.alloc o).heap[k]? = w.heap[k]? := fun k h => Below.heap_alloc w o k h
 refine ⟨rfl, rfl, rfl, by simp, fun b h => hblk b (ff b h), fun b o' h => ⟨(hk b o' h).2, World.cell?_of_block (w := w) (a := ⟨b, o', none⟩) (hblk b (hk b o' h).1)⟩, fun b o' h => ?_, hb, fun g u h => ⟨u, ho g u h, .inl rfl⟩, hf⟩
 rcases hn b o' h with h | h
 ·exact .inl h
 ·exact .inr fun h' => by have := ff b h'; omega
theorem Rel.klt {F : Fz} {st : St} {K : Kp} {w : World} (h : Rel F st K w) {b o : Nat} (hc : K.cell b o) : b < w.heap.size := by
 obtain ⟨v, hv⟩ := h.kc b o hc
 exact World.block_lt_of_cell? w _ hv
theorem Rel.newBox {F : Fz} {st : St} {K : Kp} {w : World} (h : Rel F st K w) {arr : Array Value} {T : TypeId} {ps : List PV} (hs : arr.size = ps.length) (hc : ∀ (j : Nat) (p : PV) (v : Value), ps[j]? = some p → arr[j]? = some v → RelV K w p v) :
    ∃ i, K.box i = none ∧ St.freshB st i ∧ Ext F K w (K.addBox i w.heap.size) (w.alloc (.cells arr T)) ∧ Rel F (.box i T ps :: st) (K.addBox i w.heap.size) (w.alloc (.cells arr T)) := by
  obtain ⟨nx, hnx⟩ := h.fin
  have hnone : K.box nx = none := (hnx nx (Nat.le_refl _)).1
  have hkb : ∀ j b, K.box j = some b → (K.addBox nx w.heap.size).box j = some b := fun j b hj => by
    simp only [Kp.addBox]
    rw [if_neg (by intro e; subst e; rw [hnone] at hj; cases hj)]; exact hj
  have hx : Ext F K w (K.addBox nx w.heap.size) (w.alloc (.cells arr T)) := ext_alloc F w _ (fun b o hc => ⟨h.klt hc, hc⟩) (fun b o hc => .inl hc) hkb (fun _ _ h => h) (fun _ _ => rfl) h.ff
  refine ⟨nx, hnone, fun e he hid => ?_, hx, ⟨fun b o hc => ?_, fun b hb => by have := h.ff b hb; simp; omega, ⟨nx + 1, fun j hj => ?_⟩, h.fi, fun e he => ?_, ?_, ?_⟩⟩
  · cases e with
    | box i U cs =>
      simp only [Ent.bid, Option.some.injEq] at hid
      subst hid
      obtain ⟨b, arr, h1, -⟩ := h.ents _ he
      rw [hnone] at h1; cases h1
    | tok => cases hid
    | obj i ok =>
      simp only [Ent.bid, Option.some.injEq] at hid
      subst hid
      obtain ⟨b, o, h1, -⟩ := h.ents _ he
      rw [hnone] at h1; cases h1
  · obtain ⟨v, hv⟩ := h.kc b o hc
    exact ⟨v, (hx.kp b o hc).2.trans hv⟩
  · simp only [Kp.addBox]
    rw [if_neg (by omega)]
    exact hnx j (by omega)
  · rcases List.mem_cons.1 he with rfl | he
    · refine ⟨w.heap.size, arr, by simp [Kp.addBox], fun hf => by have := h.ff _ hf; omega, heap_alloc_new w _, hs, fun j p v hp hv => (hc j p v hp hv).mono hx, fun o hc => by have := h.klt hc; omega⟩
    · have he' := h.ents e he
      exact he'.keep hx (fun b hb => Below.heap_alloc w _ b (he'.lt hb).1) (fun _ _ _ h => h) fun _ _ => rfl
  · have hmap : ∀ e ∈ st, e.block (K.addBox nx w.heap.size) = e.block K := fun e he => by
      cases e with
      | box i U cs =>
        obtain ⟨b, arr, h1, -⟩ := h.ents _ he
        simp only [Ent.block, h1]; exact hkb i b h1
      | tok g E sz n => rfl
      | obj i ok =>
        obtain ⟨b, o, h1, -⟩ := h.ents _ he
        simp only [Ent.block, h1]; exact hkb i b h1
    rw [List.filterMap_cons]
    simp only [Ent.block, Kp.addBox, if_true]
    have e2 : st.filterMap (Ent.block (K.addBox nx w.heap.size)) = st.filterMap (Ent.block K) := Qep hmap
    simp only [Kp.addBox] at e2
    rw [List.nodup_cons]
    refine ⟨fun hm => ?_, by rw [e2]; exact h.nb⟩
    rw [e2] at hm
    obtain ⟨e, he, hb⟩ := List.mem_filterMap.1 hm
    have := ((h.ents e he).lt hb).1
    omega
  · simpa [List.filterMap_cons, Ent.tid] using h.nt
theorem POp_box {P : Program} {o : Oper} {ρ : Operand → Option PV} {st : St} {R : PV → St → Prop} {T : TypeId} {x : Operand} (ho : o.op = .box T x) {p : PV} (hx : ρ x = some p) (hone : p.ps.all PV.one = true)
  (h : ∀ i, st.freshB i → R (.ptr i 0) (.box i T p.ps :: st)) : POp P o ρ st R := by
 refine POp.of_run fun F K w a h1 h2 => ?_
 obtain ⟨dst, op, ty, pos, after, guard⟩ := o
 simp only at ho h2
 subst ho
 have hv := h2 x (by simp [Op.operands]) _ hx
 obtain ⟨c1, c2, c3⟩ := hv.ps (by simpa using hone)
 obtain ⟨i, hi, hf, hx2, hr2⟩ := h1.newBox (T := T) c1 fun j q u hq hu => c2 j q u hq hu
 refine ⟨.pointer (some ⟨w.heap.size, 0, none⟩), _, _, .ptr i 0, _, ?_, hx2, hr2, .ptr (by simp [Kp.addBox]), h i hf⟩
 simp only [execOp, Instr.box, newVar, newRow, Sem.run_bind, run_newObj, Result.andThen_ok, Sem.run_pure]
 rfl
def Qda (P : Program) (t : TypeId) : Option (List PV) := ((P.info? t).bind (·.zero)).map fun z => z.cells.toList.map Qae
theorem zeroOf_spec {P : Program} {t : TypeId} {ps : List PV} (h : Qda P t = some ps) (w : World) : ∃ z, (zeroValue t).run P w = .ok z w ∧ z.cells.toList.map Qae = ps := by
 unfold Qda at h
 obtain ⟨z, hz, rfl⟩ := Option.map_eq_some_iff.1 h
 obtain ⟨i, hi, hz⟩ := Option.bind_eq_some_iff.1 hz
 exact ⟨z, by simp [zeroValue, typeInfo, hi, hz], rfl⟩
theorem zero_rel (K : Kp) (w : World) {cs : Array Value} {ps : List PV} (h : cs.toList.map Qae = ps) : cs.size = ps.length ∧ ∀ (j : Nat) (p : PV) (v : Value), ps[j]? = some p → cs[j]? = some v → RelV K w p v := by
 subst h
 refine ⟨by simp, fun j p v hp hv => ?_⟩
 rw [List.getElem?_map, Array.getElem?_toList, hv] at hp
 simp only [Option.map_some, Option.some.injEq] at hp
 subst hp; exact cCell_ok K w v
theorem Qjd {P : Program} {o : Oper} {ρ : Operand → Option PV} {st : St} {R : PV → St → Prop} {T : TypeId} (ho : o.op = .alloc T) {ps : List PV} (hz : Qda P T = some ps)
  (h : ∀ i, st.freshB i → R (.ptr i 0) (.box i T ps :: st)) : POp P o ρ st R := by
 refine POp.of_run fun F K w a h1 h2 => ?_
 obtain ⟨dst, op, ty, pos, after, guard⟩ := o
 simp only at ho h2
 subst ho
 obtain ⟨z, hz1, hz2⟩ := zeroOf_spec hz w
 obtain ⟨c1, c2⟩ := zero_rel K w hz2
 obtain ⟨i, hi, hf, hx2, hr2⟩ := h1.newBox (T := T) c1 c2
 refine ⟨.pointer (some ⟨w.heap.size, 0, none⟩), _, _, .ptr i 0, _, ?_, hx2, hr2, .ptr (by simp [Kp.addBox]), h i hf⟩
 simp only [execOp, Instr.alloc, newVar, newRow, Sem.run_bind, hz1, run_newObj, Result.andThen_ok, Sem.run_pure]
 rfl
def RC (K : Kp) (w : World) (ps : List PV) (arr : Array Value) : Prop := arr.size = ps.length ∧ ∀ (j : Nat) (p : PV) (v : Value), ps[j]? = some p → arr[j]? = some v → RelV K w p v
def Qac (pl : Nat → Option (Nat × Nat)) (ρ : Operand → Option PV) : List PV → List (Nat × Operand) → Option (List PV)
  | cells, [] => some cells
  | cells, (i, x) :: rest => match pl i, ρ x with
    | some (off, size), some p => if p.ps.length = size ∧ off + size ≤ cells.length ∧ p.ps.all PV.one = true then Qac pl ρ (spl cells off p.ps) rest else none
    | _, _ => none
theorem spl_rel {K : Kp} {w : World} {ps qs : List PV} {arr arr' : Array Value} {vs : List Value} {off : Nat} (h : RC K w ps arr) (hq : vs.length = qs.length) (hv : ∀ (j : Nat) (p : PV) (v : Value), qs[j]? = some p → vs[j]? = some v → RelV K w p v) (hle : off + qs.length ≤ ps.length) (hs : arr'.size = arr.size)
  (ha : ∀ k, arr'[k]? = if off ≤ k ∧ k < off + vs.length ∧ k < arr.size then vs[k - off]? else arr[k]?) : RC K w (spl ps off qs) arr' := by
 refine ⟨by rw [hs, h.1]; simp [spl]; omega, fun j p v hp hj => ?_⟩
 rw [ha j] at hj
 unfold spl at hp
 rw [List.append_assoc, List.getElem?_append] at hp
 simp only [List.length_take] at hp
 rw [show min off ps.length = off by omega] at hp
 have hsz := h.1
 split at hp
 ·rename_i hlt
  rw [if_neg (by omega)] at hj
  rw [List.getElem?_take, if_pos hlt] at hp
  exact h.2 j p v hp hj
 ·rename_i hlt
  rw [List.getElem?_append] at hp
  split at hp
  ·rename_i hlt2
   rw [if_pos ⟨by omega, by omega, by omega⟩] at hj
   exact hv _ p v hp hj
  ·rename_i hlt2
   rw [if_neg (by omega)] at hj
   rw [List.getElem?_drop] at hp
   rw [show off + qs.length + (j - off - qs.length) = j by omega] at hp
   exact h.2 j p v hp hj
theorem fill_ok {K : Kp} {w : World} {pl : Nat → Option (Nat × Nat)} {ρ : Operand → Option PV} {ev : Operand → Value} : ∀ {parts : List (Nat × Operand)} {cells cells' : List PV} {arr : Array Value}, (∀ x ∈ parts, ∀ p, ρ x.2 = some p → RelV K w p (ev x.2)) → Qac pl ρ cells parts = some cells' → RC K w cells arr →
    ∃ arr', Instr.fill pl arr (parts.map fun x => (x.1, ev x.2)) = some arr' ∧ RC K w cells' arr' := by
  intro parts
  induction parts with
  | nil =>
    intro cells cells' arr _ h hr
    simp only [Qac, Option.some.injEq] at h
    subst h
    exact ⟨arr, rfl, hr⟩
  | cons x rest ih =>
    intro cells cells' arr hx h hr
    obtain ⟨i, x⟩ := x
    simp only [Qac] at h
    split at h
    · rename_i off size p hpl hp
      split at h
      · rename_i hc
        obtain ⟨h1, h2, h3⟩ := hc
        have hv := hx (i, x) (by simp) p hp
        simp only at hv
        obtain ⟨c1, c2, c3⟩ := hv.ps (by simpa using h3)
        obtain ⟨g1, g2⟩ := Go.Great.foldl_set off (ev x).cells.toList 0 arr
        have hr2 : RC K w (spl cells off p.ps) (((ev x).cells.toList.zipIdx 0).foldl (fun cs (y : Value × Nat) => cs.setIfInBounds (off + y.2) y.1) arr) :=
          spl_rel hr (vs := (ev x).cells.toList) (by simp; omega) (fun j q v hq hv => c2 j q v hq (by simpa using hv)) (by omega) g1 (by intro k; rw [g2 k]; simp)
        obtain ⟨arr', h4, h5⟩ := ih (fun y hy => hx y (by simp [hy])) h hr2
        refine ⟨arr', ?_, h5⟩
        simp only [List.map_cons]
        unfold Instr.fill
        have hsz : (ev x).cells.size = size := by omega
        have hle : ¬ (((ev x).cells.size ≠ size || decide (off + (ev x).cells.size > arr.size)) = true) := by
          have := hr.1
          simp; omega
        simp only [hpl]
        rw [if_neg hle, ← h4, ← Array.foldl_toList, Array.toList_zipIdx]
      · cases h
    · cases h
def Jp (P : Program) (ρ : Operand → Option PV) (t : TypeId) (parts : List (Nat × Operand)) : Option PV :=
 match tyOf P t, Qda P t with
 | some ⟨_, .struct fs⟩, some z => if fs.all (fun f => f.agg.isSome) = true then (Qac (fun i => (fs[i]?).map fun f => (f.off, f.size)) ρ z parts).map .agg else none
 | some ⟨_, .array _ es ea⟩, some z => if ea.isSome = true then (Qac (fun i => some (i * es, es)) ρ z parts).map .agg else none
 | _, _ => none
theorem Qju {P : Program} {t : TypeId} (h : (aggOf P t).isSome = true) : ∃ i, P.info? t = some i ∧ P.cellsOf t = i.size := by
  unfold aggOf at h
  cases hd : P.underlying t with
  | none => rw [hd] at h; cases h
  | some d =>
    obtain ⟨i, hi⟩ := Qjb hd
    exact ⟨i, hi, by simp [Program.cellsOf, hi]⟩
theorem places_all {P : Program} : ∀ (fs : List Field), (∀ f ∈ fs, (aggOf P f.type).isSome = true) → fs.mapM (fun f => (P.info? f.type).map fun i => (f.offset, i.size)) = some (fs.map fun f => (f.offset, P.cellsOf f.type)) := by
  intro fs
  induction fs with
  | nil => intro _; rfl
  | cons f fs ih =>
    intro h
    obtain ⟨i, hi, hc⟩ := Qju (h f (by simp))
    simp only [List.mapM_cons, hi, Option.map_some, ih fun g hg => h g (by simp [hg]), List.map_cons, hc]
    rfl
theorem evBuild_run {P : Program} {ρ : Operand → Option PV} {t : TypeId} {parts : Array (Nat × Operand)} {p : PV} (h : Jp P ρ t parts.toList = some p) {K : Kp} {w : World} {ev : Operand → Value} (hops : ∀ x ∈ parts.toList, ∀ q, ρ x.2 = some q → RelV K w q (ev x.2)) :
    ∃ v, (Instr.build t (parts.map fun x => (x.1, ev x.2))).run P w = .ok v w ∧ RelV K w p v := by
  unfold Jp at h
  split at h
  · rename_i sz fs z hT hz
    split at h
    · rename_i hall
      obtain ⟨cells, hf, rfl⟩ := Option.map_eq_some_iff.1 h
      obtain ⟨d, hd, hTe⟩ := Qbi hT
      cases d with
      | struct fields =>
        simp only [tyK, Ty.mk.injEq, TyK.struct.injEq] at hTe
        obtain ⟨rfl, rfl⟩ := hTe
        unfold Qda at hz
        obtain ⟨zv, hz1, hz2⟩ := Option.map_eq_some_iff.1 hz
        obtain ⟨it, hit, hz1⟩ := Option.bind_eq_some_iff.1 hz1
        have hrc : RC K w z zv.cells := zero_rel K w hz2
        obtain ⟨arr', h1, h2⟩ := fill_ok (ev := ev) hops hf hrc
        have hb : P.built t (parts.map fun x => (x.1, ev x.2)).toList = some arr' := by
          unfold Program.built
          have hpl := places_all (P := P) fields.toList fun f hf => by
            have := List.all_eq_true.1 hall ⟨f.offset, P.cellsOf f.type, aggOf P f.type⟩ (List.mem_map.2 ⟨f, hf, rfl⟩)
            exact this
          simp only [hit, hd, hz1, hpl, Array.toList_map]
          rw [← h1]
          congr 1
          funext i
          simp
          rfl
        exact ⟨_, run_build w t _ arr' hb, .agg h2.1 h2.2⟩
      | _ => simp [tyK] at hTe
    · cases h
  · rename_i sz n es ea z hT hz
    split at h
    · rename_i hall
      obtain ⟨cells, hf, rfl⟩ := Option.map_eq_some_iff.1 h
      obtain ⟨d, hd, hTe⟩ := Qbi hT
      cases d with
      | array n' e' =>
        simp only [tyK, Ty.mk.injEq, TyK.array.injEq] at hTe
        obtain ⟨rfl, rfl, rfl, rfl⟩ := hTe
        unfold Qda at hz
        obtain ⟨zv, hz1, hz2⟩ := Option.map_eq_some_iff.1 hz
        obtain ⟨it, hit, hz1⟩ := Option.bind_eq_some_iff.1 hz1
        have hrc : RC K w z zv.cells := zero_rel K w hz2
        obtain ⟨arr', h1, h2⟩ := fill_ok (ev := ev) hops hf hrc
        obtain ⟨ie, hie, hcs⟩ := Qju hall
        have hb : P.built t (parts.map fun x => (x.1, ev x.2)).toList = some arr' := by
          unfold Program.built
          simp only [hit, hd, hz1, hie, Array.toList_map]
          rw [← h1, hcs]
        exact ⟨_, run_build w t _ arr' hb, .agg h2.1 h2.2⟩
      | _ => simp [tyK] at hTe
    · cases h
  · cases h
def nev (P : Program) (ρ : Operand → Option PV) : Op → Option PV
 | .build t parts => Jp P ρ t parts.toList
 | op => nevA P ρ op
theorem nev_ok {P : Program} {o : Oper} {ρ : Operand → Option PV} {p : PV} (h : nev P ρ o.op = some p) (st : St) : POp P o ρ st fun q s => q = p ∧ s = st := by
 by_cases hb : ∃ t parts, o.op = .build t parts
 ·obtain ⟨t, parts, ho⟩ := hb
  refine POp.of_run fun F K w a h1 h2 => ?_
  obtain ⟨dst, op, ty, pos, after, guard⟩ := o
  simp only at ho h h2
  subst ho
  obtain ⟨v, h3, h4⟩ := evBuild_run (ev := a.eval) h fun x hx q hq => h2 x.2 (by simp only [Op.operands]; exact List.mem_toArray.2 (List.mem_map.2 ⟨x, hx, rfl⟩)) q hq
  refine ⟨v, w, K, p, st, ?_, Ext.refl _ _ _, h1, h4, rfl, rfl⟩
  simp only [execOp, Sem.run_bind]
  rw [h3]; rfl
 ·refine nevA_ok ?_ st
  rw [← h]
  unfold nev
  split
  ·rename_i t parts ho; exact absurd ⟨t, parts, ho⟩ hb
  ·rfl
def PV.toD : PV → Option D
 | .d x => some x
 | .nils => some (.sl [])
 | .own _ rows => some (.sl rows)
 | .full rows => some (.sl rows)
 | _ => none
theorem toD_rel {K : Kp} {w : World} {p : PV} {d : D} {v : Value} (hp : p.toD = some d) (h : RelV K w p v) : RelD K.cell w d v := by
 cases h with
 | d h => simp [PV.toD] at hp; subst hp; exact h
 | nils => simp [PV.toD] at hp; subst hp; exact .nil (Nat.zero_le _)
 | own h => simp [PV.toD] at hp; subst hp; exact h
 | full h => simp [PV.toD] at hp; subst hp; exact h
 | _ => simp [PV.toD] at hp
def toDs : List PV → Option (List D)
  | [] => some []
  | p :: r => match p.toD, toDs r with
    | some d, some l => some (d :: l)
    | _, _ => none
theorem toDs_get : ∀ {ps : List PV} {ds : List D}, toDs ps = some ds → ds.length = ps.length ∧ ∀ (j : Nat) (d : D), ds[j]? = some d → ∃ p : PV, ps[j]? = some p ∧ p.toD = some d := by
  intro ps
  induction ps with
  | nil => intro ds h; simp [toDs] at h; subst h; simp
  | cons p r ih =>
    intro ds h
    simp only [toDs] at h
    split at h
    · rename_i d l hd hl
      obtain rfl := Option.some.inj h
      obtain ⟨h1, h2⟩ := ih hl
      refine ⟨by simp [h1], fun j e he => ?_⟩
      cases j with
      | zero => simp at he; subst he; exact ⟨p, rfl, hd⟩
      | succ j => simp at he; obtain ⟨q, hq, hqd⟩ := h2 j e he; exact ⟨q, by simpa using hq, hqd⟩
    · cases h
def Qcd (es : Nat) : Nat → List PV → Option (List (List D))
  | 0, _ => some []
  | n + 1, cells => match toDs (cells.take es), Qcd es n (cells.drop es) with
    | some row, some l => some (row :: l)
    | _, _ => none
theorem rowsOf_get {es : Nat} : ∀ {n : Nat} {cells : List PV} {rows : List (List D)}, Qcd es n cells = some rows → n * es ≤ cells.length → rows.length = n ∧ (∀ row ∈ rows, row.length = es) ∧ ∀ (i j : Nat) (row : List D) (d : D), rows[i]? = some row → row[j]? = some d → ∃ p : PV, cells[i * es + j]? = some p ∧ p.toD = some d := by
  intro n
  induction n with
  | zero => intro cells rows h _; simp [Qcd] at h; subst h; simp
  | succ n ih =>
    intro cells rows h hle
    simp only [Qcd] at h
    split at h
    · rename_i row l hd hl
      obtain rfl := Option.some.inj h
      obtain ⟨g1, g2⟩ := toDs_get hd
      obtain ⟨h1, h2, h3⟩ := ih hl (by rw [List.length_drop]; rw [Nat.add_mul] at hle; omega)
      rw [Nat.add_mul, Nat.one_mul] at hle
      have hrl : row.length = es := by rw [g1, List.length_take]; omega
      refine ⟨by simp [h1], fun x hx => ?_, fun i j x d hx hj => ?_⟩
      · rcases List.mem_cons.1 hx with rfl | hx
        · exact hrl
        · exact h2 x hx
      · cases i with
        | zero =>
          simp at hx; subst hx
          obtain ⟨p, hp, hpd⟩ := g2 j d hj
          rw [List.getElem?_take] at hp
          split at hp
          · exact ⟨p, by simpa using hp, hpd⟩
          · cases hp
        | succ i =>
          simp at hx
          obtain ⟨p, hp, hpd⟩ := h3 i j x d hx hj
          rw [List.getElem?_drop] at hp
          exact ⟨p, by rw [Nat.add_mul, Nat.one_mul, show i * es + es + j = es + (i * es + j) by omega]; exact hp, hpd⟩
    · cases h
def Kp.addRow (K : Kp) (b n : Nat) : Kp := ⟨fun c o => K.cell c o ∨ (c = b ∧ o < n), K.box, K.own⟩
def Kp.setOwn (K : Kp) (g : Nat) (u : Value) : Kp := ⟨K.cell, K.box, fun j => if j = g then some u else K.own j⟩
theorem Rel.newRow {F : Fz} {st : St} {K : Kp} {w w0 : World} (h : Rel F st K w) (arr : Array Value) (E : TypeId) (n : Nat) (hn : n ≤ arr.size) (h0 : w0 = w ∨ w0 = w.drew) :
  Ext F K w (K.addRow w.heap.size n) (w0.alloc (.cells arr E)) ∧ Rel F st (K.addRow w.heap.size n) (w0.alloc (.cells arr E)) := by
 have hheap : (w0.alloc (.cells arr E)).heap = (w.alloc (.cells arr E)).heap := by rcases h0 with rfl | rfl <;> rfl
 have hx0 : Ext F K w (K.addRow w.heap.size n) (w.alloc (.cells arr E)) := ext_alloc F w _ (fun b o hc => ⟨h.klt hc, .inl hc⟩) (fun b o hc => hc.imp id fun h => h.1) (fun _ _ h => h) (fun _ _ h => h) (fun _ _ => rfl) h.ff
 have hcell : ∀ p, (w0.alloc (.cells arr E)).cell? p = (w.alloc (.cells arr E)).cell? p := fun p => by simp only [World.cell?, hheap]
 have hx : Ext F K w (K.addRow w.heap.size n) (w0.alloc (.cells arr E)) := by
  refine ⟨?_, ?_, ?_, by rw [hheap]; exact hx0.size, fun b hb => by rw [hheap]; exact hx0.hp b hb, fun b o hc => by rw [hcell]; exact hx0.kp b o hc, hx0.nk, hx0.kb, hx0.ko, hx0.kf⟩
  all_goals rcases h0 with rfl | rfl <;> rfl
 refine ⟨hx, ⟨fun b o hc => ?_, fun b hb => by rw [hheap]; have := h.ff b hb; simp; omega, h.fin, h.fi, fun e he => ?_, h.nb, h.nt⟩⟩
 ·rw [hcell]
  rcases hc with hc | ⟨rfl, ho⟩
  ·obtain ⟨v, hv⟩ := h.kc b o hc
   exact ⟨v, (hx0.kp b o hc).2.trans hv⟩
  ·rw [Qcq (heap_alloc_new w _)]
   exact ⟨arr[o], Array.getElem?_eq_getElem (by omega)⟩
 ·refine (h.ents e he).keep hx (fun b hb => by rw [hheap]; exact Below.heap_alloc w _ b ((h.ents e he).lt hb).1) (fun b o hb hc => ?_) fun _ _ => rfl
  rcases hc with hc | ⟨rfl, ho⟩
  ·exact hc
  ·have := ((h.ents e he).lt hb).1; omega
theorem Rel.newTok {F : Fz} {st : St} {K : Kp} {w : World} (h : Rel F st K w) {u : Value} {E : TypeId} {sz n : Nat} {xs : List Value} (ho : w.ownsRow 0 E sz u n xs) (hs : slen u = n) (hb : ∀ b, u.ownBlock = some b → ¬ F.blk b ∧ (∀ o, K.cell b o → o < n * sz) ∧ ∀ e ∈ st, e.block K ≠ some b) :
    ∃ g, K.own g = none ∧ St.freshT st g ∧ Ext F K w (K.setOwn g u) w ∧ Rel F (.tok g E sz n :: st) (K.setOwn g u) w := by
  obtain ⟨nx, hnx⟩ := h.fin
  have hnone : K.own nx = none := (hnx nx (Nat.le_refl _)).2
  have hko : ∀ j v, K.own j = some v → (K.setOwn nx u).own j = some v := fun j b hj => by
    simp only [Kp.setOwn]
    rw [if_neg (by intro e; subst e; rw [hnone] at hj; cases hj)]; exact hj
  have hfr : St.freshT st nx := fun e he hid => by
    cases e with
    | tok g U sz' n' =>
      simp only [Ent.tid, Option.some.injEq] at hid
      subst hid
      obtain ⟨u', xs', h1, -⟩ := h.ents _ he
      rw [hnone] at h1; cases h1
    | box => cases hid
    | obj => cases hid
  have hx : Ext F K w (K.setOwn nx u) w := ⟨rfl, rfl, rfl, Nat.le_refl _, fun _ _ => rfl, fun _ _ h => ⟨h, rfl⟩, fun _ _ h => .inl h, fun _ _ h => h, fun g v hv => ⟨v, hko g v hv, .inl rfl⟩, fun g hg => by
    have := h.fi g hg
    simp only [Kp.setOwn]
    rw [if_neg (by intro e; subst e; exact this hnone)]⟩
  have hown : ∀ e ∈ st, ∀ g, e.tid = some g → (K.setOwn nx u).own g = K.own g := fun e he g hg => by
    simp only [Kp.setOwn]
    rw [if_neg (by intro e2; subst e2; exact hfr e he hg)]
  refine ⟨nx, hnone, hfr, hx, ⟨h.kc, h.ff, ⟨nx + 1, fun j hj => ?_⟩, fun g hg => ?_, fun e he => ?_, ?_, ?_⟩⟩
  · simp only [Kp.setOwn]
    rw [if_neg (by omega)]
    exact hnx j (by omega)
  · have := h.fi g hg
    rw [hx.kf g hg]; exact this
  · rcases List.mem_cons.1 he with rfl | he
    · exact ⟨u, xs, by simp [Kp.setOwn], fun hf => h.fi _ hf hnone, hs, ho, fun b hub => ⟨(hb b hub).1, (hb b hub).2.1⟩⟩
    · exact (h.ents e he).keep hx (fun _ _ => rfl) (fun _ _ _ h => h) (hown e he)
  · have e2 : st.filterMap (Ent.block (K.setOwn nx u)) = st.filterMap (Ent.block K) := Qep fun e he => by
      cases e with
      | box i U cs => rfl
      | tok g E sz n => simp only [Ent.block, hown _ he g rfl]
      | obj i ok => rfl
    rw [List.filterMap_cons]
    simp only [Ent.block, Kp.setOwn, if_true, Option.bind_some]
    simp only [Kp.setOwn] at e2
    cases hub : u.ownBlock with
    | none => simp only [e2]; exact h.nb
    | some b =>
      simp only
      rw [List.nodup_cons]
      refine ⟨fun hm => ?_, by rw [e2]; exact h.nb⟩
      rw [e2] at hm
      obtain ⟨e, he, hbe⟩ := List.mem_filterMap.1 hm
      exact (hb b hub).2.2 e he hbe
  · simp only [List.filterMap_cons, Ent.tid]
    rw [List.nodup_cons]
    refine ⟨fun hm => ?_, h.nt⟩
    obtain ⟨e, he, hg⟩ := List.mem_filterMap.1 hm
    exact hfr e he hg
theorem rows_mk {K : Nat → Nat → Prop} {w : World} {rows : List (List D)} {b es cap : Nat} {arr : Array Value} {E : TypeId} {fr : Nat × Nat} (hh : w.heap[b]? = some (.cells arr E fr)) (hcap : rows.length ≤ cap) (hm : cap ≤ maxLen) (hl : ∀ row ∈ rows, row.length = es)
  (hr : ∀ (i j : Nat) (row : List D) (d : D), rows[i]? = some row → row[j]? = some d → K b (i * es + j) ∧ ∃ v, arr[i * es + j]? = some v ∧ RelD K w d v) : RelD K w (.sl rows) (.slice (some ⟨b, 0, none⟩) rows.length cap) := by
 refine .sl (sz := es) (fun i j => arr.getD (i * es + j) undef) hcap hm hl (fun i j row d hi hj => ?_) fun i j row d hi hj => ?_
 ·obtain ⟨h1, v, h2, h3⟩ := hr i j row d hi hj
  rw [Nat.zero_add]
  refine ⟨h1, ?_⟩
  rw [Qcq hh, Array.getD_eq_getD_getElem?, h2]; rfl
 ·obtain ⟨h1, v, h2, h3⟩ := hr i j row d hi hj
  rw [Array.getD_eq_getD_getElem?, h2]; exact h3
def elOf (P : Program) (E : TypeId) : Option (Nat × Nat) :=
  match P.info? E with
  | some i => match i.zero with
    | some z => if z.cells.size = i.size then some (i.size, i.bytes) else none
    | none => none
  | none => none
theorem Qgr {P : Program} {E : TypeId} {es bytes : Nat} (h : elOf P E = some (es, bytes)) : ∃ i z, P.info? E = some i ∧ i.zero = some z ∧ i.size = es ∧ i.bytes = bytes ∧ z.cells.size = es := by
 unfold elOf at h
 split at h
 ·rename_i i hi
  split at h
  ·rename_i z hz
   split at h
   ·rename_i hs
    simp only [Option.some.injEq, Prod.mk.injEq] at h
    exact ⟨i, z, hi, hz, h.1, h.2, hs.trans h.1⟩
   ·cases h
  ·cases h
 ·cases h
theorem Qeu {P : Program} {o : Oper} {ρ : Operand → Option PV} {t : TypeId} {len : Nat} {parts : Array (Nat × Operand)} (ho : o.op = .buildSlice t len parts) {E es bytes : Nat} {ea : Option Bool} {T : Ty} (hT : tyOf P t = some T) (hk : T.k = .slice E es ea) (hE : elOf P E = some (es, bytes)) (h0 : 0 < len * es) (h24 : len * es ≤ 16777216) {cells : List PV} (hf : Qac (fun i => some (i * es, es)) ρ (List.replicate (len * es) .u) parts.toList = some cells) {rows : List (List D)} (hr : Qcd es len cells = some rows) (st : St) :
    POp P o ρ st fun q s => q = .d (.sl rows) ∧ s = st := by
  refine POp.of_run fun F K w a h1 h2 => ?_
  obtain ⟨dst, op, ty, pos, after, guard⟩ := o
  simp only at ho h2
  subst ho
  obtain ⟨d, hd, rfl⟩ := Qbi hT
  cases d with
  | slice E' =>
    simp only [tyK, TyK.slice.injEq] at hk
    obtain ⟨rfl, hes, rfl⟩ := hk
    obtain ⟨ie, z, hie, hz, hsz, -, hzs⟩ := Qgr hE
    have hrc : RC K w (List.replicate (len * es) .u) ((Array.range (len * ie.size)).map (z.cells[· % z.cells.size]!)) := ⟨by simp [hsz], fun j p v hp _ => by
      have := List.mem_of_getElem? hp
      rw [List.mem_replicate] at this
      rw [this.2]; exact .u⟩
    obtain ⟨arr, h3, h4⟩ := fill_ok (ev := a.eval) (fun x hx q hq => h2 x.2 (by simp only [Op.operands]; exact List.mem_toArray.2 (List.mem_map.2 ⟨x, hx, rfl⟩)) q hq) hf hrc
    have hfl : ∀ (parts : List (Nat × Operand)) (cs cs' : List PV), Qac (fun i => some (i * es, es)) ρ cs parts = some cs' → cs'.length = cs.length := by
      intro parts
      induction parts with
      | nil => intro cs cs' h; simp only [Qac, Option.some.injEq] at h; rw [h]
      | cons x rest ih =>
        intro cs cs' h
        obtain ⟨i, x⟩ := x
        simp only [Qac] at h
        split at h
        · rename_i off size p hpl hp
          simp only [Option.some.injEq, Prod.mk.injEq] at hpl
          split at h
          · rename_i hc
            rw [ih _ _ h]; simp [spl]; omega
          · cases h
        · cases h
    have hcl := hfl _ _ _ hf
    rw [List.length_replicate] at hcl
    obtain ⟨r1, r2, r3⟩ := rowsOf_get hr (by omega)
    obtain ⟨hx, hrel⟩ := h1.newRow arr E' (len * es) (by rw [h4.1]; omega) (.inl rfl)
    refine ⟨.slice (some ⟨w.heap.size, 0, none⟩) len len, _, _, .d (.sl rows), st, ?_, hx, hrel, .d ?_, rfl, rfl⟩
    · simp only [execOp, Sem.run_bind]
      rw [run_buildSlice w t E' len _ arr ie z hd hie hz (by rw [hsz]; omega) (by rw [hsz]; omega) (by rw [hsz, Array.toList_map]; rw [hsz] at h3; exact h3)]
      rfl
    · have := rows_mk (K := (K.addRow w.heap.size (len * es)).cell) (w := w.alloc (.cells arr E')) (rows := rows) (cap := len) (es := es) (heap_alloc_new w _) (by omega) (by have : len ≤ len * es := Nat.le_mul_of_pos_right _ (by rcases Nat.eq_zero_or_pos es with h | h; (rw [h] at h0; simp at h0); exact h); unfold maxLen; omega) r2 fun i j row d hi hj => by
        obtain ⟨p, hp, hpd⟩ := r3 i j row d hi hj
        have hlt := (List.getElem?_eq_some_iff.1 hp).1
        have hsz := h4.1
        have hg : arr[i * es + j]? = some arr[i * es + j] := Array.getElem?_eq_getElem (by omega)
        exact ⟨.inr ⟨rfl, by omega⟩, _, hg, (toD_rel hpd (h4.2 _ p _ hp hg)).mono hx.kp⟩
      rw [r1] at this; exact this
  | _ => simp [tyK] at hk
def Kp.grow (K : Kp) (g : Nat) (u : Value) (n : Nat) : Kp := ⟨fun c o => K.cell c o ∨ (u.ownBlock = some c ∧ o < n), K.box, fun j => if j = g then some u else K.own j⟩
theorem Rel.grow {F : Fz} {st : St} {K : Kp} {w w' : World} {g : Nat} {E : TypeId} {sz n n' : Nat} (h : Rel F (.tok g E sz n :: st) K w) {u u' : Value} (hu : K.own g = some u) (os : w'.os = w.os) (tape : w'.tape = w.tape) (out : w'.output = w.output) (size : w.heap.size ≤ w'.heap.size)
    (hk : ∀ k, k < w.heap.size → u'.ownBlock ≠ some k → w'.heap[k]? = w.heap[k]?) (hpre : ∀ b, u'.ownBlock = some b → b < w.heap.size → u.ownBlock = some b ∧ ∀ o, o < n * sz → w'.cell? ⟨b, o, none⟩ = w.cell? ⟨b, o, none⟩)
    {xs' : List Value} (hown : w'.ownsRow 0 E sz u' n' xs') (hs : slen u' = n') (hlt : u' = u ∨ n < n') (hn : n ≤ n') : Ext F K w (K.grow g u' (n' * sz)) w' ∧ Rel F (.tok g E sz n' :: st) (K.grow g u' (n' * sz)) w' := by
  obtain ⟨u0, xs, e1, e2, e3, e4, e5⟩ := h.ents _ (List.mem_cons_self ..)
  rw [hu] at e1
  obtain rfl := Option.some.inj e1
  have hnn : n * sz ≤ n' * sz := Nat.mul_le_mul_right _ hn
  have hF : ∀ b, u'.ownBlock = some b → ¬ F.blk b := fun b hb hf => by
    have hl := h.ff b hf
    exact (e5 b (hpre b hb hl).1).1 hf
  have hx : Ext F K w (K.grow g u' (n' * sz)) w' := by
    refine ⟨os, tape, out, size, fun b hb => hk b (h.ff b hb) fun hub => hF b hub hb, fun b o hc => ⟨.inl hc, ?_⟩, fun b o hc => ?_, fun _ _ h => h, fun j v hj => ?_, fun j hj => ?_⟩
    · by_cases hub : u'.ownBlock = some b
      · obtain ⟨h1, h2⟩ := hpre b hub (h.klt hc)
        exact h2 o ((e5 b h1).2 o hc)
      · exact World.cell?_of_block (w := w) (a := ⟨b, o, none⟩) (hk b (h.klt hc) hub)
    · rcases hc with hc | ⟨hc, _⟩
      · exact .inl hc
      · exact .inr (hF b hc)
    · simp only [Kp.grow]
      by_cases hjg : j = g
      · subst hjg
        rw [hu] at hj
        obtain rfl := Option.some.inj hj
        rw [if_pos rfl]
        refine ⟨u', rfl, ?_⟩
        rcases hlt with h | h
        · exact .inl h
        · exact .inr (by omega)
      · rw [if_neg hjg]; exact ⟨v, hj, .inl rfl⟩
    · simp only [Kp.grow]
      rw [if_neg fun e => e2 (by rw [← e]; exact hj)]
  have hoth : ∀ e ∈ st, ∀ b, e.block K = some b → b < w.heap.size ∧ u'.ownBlock ≠ some b := fun e he b hb => by
    have hl := (h.ents e (List.mem_cons_of_mem _ he)).lt hb
    refine ⟨hl.1, fun hub => ?_⟩
    have h1 := (hpre b hub hl.1).1
    have hnb := h.nb
    rw [List.filterMap_cons] at hnb
    simp only [Ent.block, hu, Option.bind_some, h1] at hnb
    rw [List.nodup_cons] at hnb
    exact hnb.1 (List.mem_filterMap.2 ⟨e, he, hb⟩)
  have hid : ∀ e ∈ st, ∀ j, e.tid = some j → j ≠ g := fun e he j hj e' => by
    have hnt := h.nt
    simp only [List.filterMap_cons, Ent.tid] at hnt
    rw [List.nodup_cons] at hnt
    exact hnt.1 (List.mem_filterMap.2 ⟨e, he, by rw [hj, e']⟩)
  refine ⟨hx, ⟨fun b o hc => ?_, fun b hb => by have := h.ff b hb; omega, ?_, fun j hj => ?_, fun e he => ?_, ?_, ?_⟩⟩
  · rcases hc with hc | ⟨hub, ho⟩
    · obtain ⟨v, hv⟩ := h.kc b o hc
      exact ⟨v, (hx.kp b o hc).2.trans hv⟩
    · rcases hown.2 with ⟨rfl, _⟩ | ⟨b', cap, cur, rfl, _, hh, hle, _, hcs, _⟩
      · cases hub
      · simp only [Value.ownBlock, Option.some.injEq] at hub
        subst hub
        have : n' * sz ≤ cap * sz := Nat.mul_le_mul_right _ hle
        rw [Qcq hh]
        exact ⟨cur[o], Array.getElem?_eq_getElem (by omega)⟩
  · obtain ⟨nx, hnx⟩ := h.fin
    refine ⟨nx, fun j hj => ?_⟩
    have h1 := hnx j hj
    simp only [Kp.grow]
    rw [if_neg (by intro e; subst e; rw [hu] at h1; cases h1.2)]
    exact h1
  · have := h.fi j hj
    rw [hx.kf j hj]; exact this
  · rcases List.mem_cons.1 he with rfl | he
    · refine ⟨u', xs', by simp [Kp.grow], e2, hs, hown, fun b hub => ⟨hF b hub, fun o hc => ?_⟩⟩
      rcases hc with hc | ⟨_, ho⟩
      · have := (e5 b (hpre b hub (h.klt hc)).1).2 o hc
        omega
      · exact ho
    · refine (h.ents e (List.mem_cons_of_mem _ he)).keep hx (fun b hb => hk b (hoth e he b hb).1 (hoth e he b hb).2) (fun b o hb hc => ?_) fun j hj => ?_
      · rcases hc with hc | ⟨hub, _⟩
        · exact hc
        · exact absurd hub (hoth e he b hb).2
      · simp only [Kp.grow]; rw [if_neg (hid e he j hj)]
  · have e6 : st.filterMap (Ent.block (K.grow g u' (n' * sz))) = st.filterMap (Ent.block K) := Qep fun e he => by
      cases e with
      | box i U cs => rfl
      | tok j E' sz' m' => simp only [Ent.block, Kp.grow]; rw [if_neg (hid _ he j rfl)]
      | obj i ok => rfl
    have hnb := h.nb
    rw [List.filterMap_cons] at hnb ⊢
    simp only [Ent.block, Kp.grow, if_true, Option.bind_some] at hnb ⊢
    simp only [Kp.grow] at e6
    rw [e6]
    have hbase : (st.filterMap (Ent.block K)).Nodup := by
      rw [hu] at hnb
      simp only [Option.bind_some] at hnb
      cases hb : u.ownBlock with
      | none => rw [hb] at hnb; exact hnb
      | some b => rw [hb] at hnb; exact (List.nodup_cons.1 hnb).2
    cases hub : u'.ownBlock with
    | none => exact hbase
    | some b =>
      simp only
      rw [List.nodup_cons]
      refine ⟨fun hm => ?_, hbase⟩
      obtain ⟨e, he, hbe⟩ := List.mem_filterMap.1 hm
      exact (hoth e he b hbe).2 hub
  · have := h.nt
    simp only [List.filterMap_cons, Ent.tid] at this ⊢
    exact this
def RV (K : Nat → Nat → Prop) (w : World) (es : Nat) (rows : List (List D)) (xs : List Value) : Prop :=
 xs.length = rows.length * es ∧ (∀ row ∈ rows, row.length = es) ∧ ∀ (i j : Nat) (row : List D) (d : D), rows[i]? = some row → row[j]? = some d → ∃ x, xs[i * es + j]? = some x ∧ RelD K w d x
theorem RV.mono {K K' : Nat → Nat → Prop} {w w' : World} (hk : ∀ b o, K b o → K' b o ∧ w'.cell? ⟨b, o, none⟩ = w.cell? ⟨b, o, none⟩) {es : Nat} {rows : List (List D)} {xs : List Value} (h : RV K w es rows xs) : RV K' w' es rows xs :=
 ⟨h.1, h.2.1, fun i j row d hi hj => let ⟨x, h1, h2⟩ := h.2.2 i j row d hi hj; ⟨x, h1, h2.mono hk⟩⟩
theorem RV.append {K : Nat → Nat → Prop} {w : World} {es : Nat} {rows rows' : List (List D)} {xs xs' : List Value} (h : RV K w es rows xs) (h' : RV K w es rows' xs') : RV K w es (rows ++ rows') (xs ++ xs') := by
 refine ⟨by rw [List.length_append, List.length_append, h.1, h'.1, Nat.add_mul], fun row hr => ?_, fun i j row d hi hj => ?_⟩
 ·rcases List.mem_append.1 hr with hr | hr
  ·exact h.2.1 row hr
  ·exact h'.2.1 row hr
 ·rw [List.getElem?_append] at hi
  split at hi
  ·rename_i hlt
   obtain ⟨x, h1, h2⟩ := h.2.2 i j row d hi hj
   have := (List.getElem?_eq_some_iff.1 h1).1
   exact ⟨x, by rw [List.getElem?_append_left this]; exact h1, h2⟩
  ·rename_i hge
   obtain ⟨x, h1, h2⟩ := h'.2.2 _ j row d hi hj
   refine ⟨x, ?_, h2⟩
   have e : i * es + j = xs.length + ((i - rows.length) * es + j) := by
    rw [h.1]
    obtain ⟨k, rfl⟩ : ∃ k, i = rows.length + k := ⟨i - rows.length, by omega⟩
    rw [Nat.add_mul, Nat.add_sub_cancel_left]; omega
   rw [e, List.getElem?_append_right (by omega), Nat.add_sub_cancel_left]
   exact h1
theorem RV.ones {K : Nat → Nat → Prop} {w : World} {es : Nat} {rows : List (List D)} {xs : List Value} (h : RV K w es rows xs) (hes : 0 < es) : ∀ u ∈ xs, u.oneCell' = true := by
 intro u hu
 obtain ⟨k, hk, rfl⟩ := List.mem_iff_getElem.1 hu
 have hk' := hk
 rw [h.1] at hk'
 have hi : k / es < rows.length := (Nat.div_lt_iff_lt_mul hes).2 hk'
 have hrow := h.2.1 rows[k / es] (List.getElem_mem hi)
 have hj : k % es < rows[k / es].length := by rw [hrow]; exact Nat.mod_lt _ hes
 obtain ⟨x, h1, h2⟩ := h.2.2 (k / es) (k % es) _ _ (List.getElem?_eq_getElem hi) (List.getElem?_eq_getElem hj)
 have e : k / es * es + k % es = k := by rw [Nat.mul_comm]; exact Nat.div_add_mod k es
 rw [e, List.getElem?_eq_getElem hk] at h1
 rw [Option.some.inj h1]; exact h2.one
theorem RV.rel {K : Nat → Nat → Prop} {w : World} {es n : Nat} {rows : List (List D)} {xs : List Value} (h : RV K w es rows xs) {E : TypeId} {u : Value} (ho : w.ownsRow 0 E es u n xs) (hn : n = rows.length) (hk : ∀ b, u.ownBlock = some b → ∀ o, o < n * es → K b o) : RelD K w (.sl rows) u := by
 rcases ho.2 with ⟨rfl, h0⟩ | ⟨b, cap, cur, rfl, _, hh, hle, hm, hcs, htake⟩
 ·have : rows = [] := List.eq_nil_of_length_eq_zero (by omega)
  subst this
  exact .nil (Nat.zero_le _)
 ·subst hn
  refine rows_mk (es := es) hh hle hm h.2.1 fun i j row d hi hj => ?_
  obtain ⟨x, h1, h2⟩ := h.2.2 i j row d hi hj
  have hlt := (List.getElem?_eq_some_iff.1 h1).1
  rw [h.1] at hlt
  refine ⟨hk b rfl _ hlt, x, ?_, h2⟩
  rw [← htake, List.getElem?_take, if_pos hlt] at h1
  simpa using h1
theorem RelD.rv {K : Nat → Nat → Prop} {w : World} {rows : List (List D)} {v : Value} (h : RelD K w (.sl rows) v) {es : Nat} (hes : 0 < es) (hl : ∀ row ∈ rows, row.length = es) : ∃ xs, RV K w es rows xs ∧ ∃ a cap, v = .slice a rows.length cap ∧ ∀ ad, a = some ad → ∀ (j : Nat) (u : Value), xs[j]? = some u → w.cell? (ad.add j) = some u ∧ (rows ≠ [] → K ad.block (ad.off + j) ∧ ad.spot = none) := by
  cases h with
  | @nil a cap hm => exact ⟨[], ⟨by simp, by simp, by simp⟩, a, cap, rfl, fun ad _ j u hu => by simp at hu⟩
  | @sl sz _ b off cap vals h1 h2 h3 h4 h5 =>
    by_cases hne : rows = []
    · subst hne
      exact ⟨[], ⟨by simp, by simp, by simp⟩, _, cap, rfl, fun ad _ j u hu => by simp at hu⟩
    · have hsz : sz = es := by
        obtain ⟨r, hr⟩ := List.exists_mem_of_ne_nil rows hne
        rw [← h3 r hr, hl r hr]
      subst hsz
      refine ⟨(List.range (rows.length * sz)).map fun k => vals (k / sz) (k % sz), ⟨by simp, h3, fun i j row d hi hj => ?_⟩, some ⟨b, off, none⟩, cap, rfl, fun ad had j u hu => ?_⟩
      · have hil := (List.getElem?_eq_some_iff.1 hi).1
        have hjl := (List.getElem?_eq_some_iff.1 hj).1
        rw [h3 row (List.mem_of_getElem? hi)] at hjl
        have hlt : i * sz + j < rows.length * sz := by
          have : (i + 1) * sz ≤ rows.length * sz := Nat.mul_le_mul_right _ hil
          rw [Nat.add_mul] at this; omega
        refine ⟨vals i j, ?_, h5 i j row d hi hj⟩
        rw [List.getElem?_map, List.getElem?_range hlt, Option.map_some]
        rw [show i * sz + j = j + i * sz by omega, Nat.add_mul_div_right _ _ hes, Nat.add_mul_mod_self_right, Nat.div_eq_of_lt hjl, Nat.mod_eq_of_lt hjl, Nat.zero_add]
      · obtain rfl := Option.some.inj had
        have hj := (List.getElem?_eq_some_iff.1 hu).1
        simp only [List.length_map, List.length_range] at hj
        rw [List.getElem?_map, List.getElem?_range hj, Option.map_some, Option.some.injEq] at hu
        have hi : j / sz < rows.length := (Nat.div_lt_iff_lt_mul hes).2 hj
        have hjm : j % sz < rows[j / sz].length := by rw [h3 _ (List.getElem_mem hi)]; exact Nat.mod_lt _ hes
        have := h4 (j / sz) (j % sz) _ _ (List.getElem?_eq_getElem hi) (List.getElem?_eq_getElem hjm)
        have e : off + j / sz * sz + j % sz = off + j := by
          have := Nat.div_add_mod j sz
          rw [Nat.mul_comm] at this; omega
        rw [e] at this
        rw [Qdr, ← hu]
        exact ⟨this.2, fun _ => ⟨this.1, rfl⟩⟩
end Go.Proofs.YtdklpbefbamchaaGreat
