import Derived.Test.YtpaifjlikgnlfaaBA
import Derived.Laws.Tables
import Derived.Great.BuildSlice
import Derived.Orders
set_option linter.unusedSimpArgs false
set_option linter.unusedVariables false
set_option maxHeartbeats 16000000
set_option maxRecDepth 100000
namespace Go.Proofs.Ytpaifjlikgnlfaa
open Go.RowKit
def RC (K : Kp) (w : World) (ps : List PV) (arr : Array Value) : Prop := arr.size = ps.length ∧ ∀ (j : Nat) (p : PV) (v : Value), ps[j]? = some p → arr[j]? = some v → RelV K w p v
def Qcd (pl : Nat → Option (Nat × Nat)) (ρ : Operand → Option PV) : List PV → List (Nat × Operand) → Option (List PV)
  | cells, [] => some cells
  | cells, (i, x) :: rest => match pl i, ρ x with
    | some (off, size), some p => if p.ps.length = size ∧ off + size ≤ cells.length ∧ p.ps.all PV.one = true then Qcd pl ρ (spl cells off p.ps) rest else none
    | _, _ => none
theorem spl_rel {K : Kp} {w : World} {ps qs : List PV} {arr arr' : Array Value} {vs : List Value} {off : Nat} (h : RC K w ps arr) (hq : vs.length = qs.length) (hv : ∀ (j : Nat) (p : PV) (v : Value), qs[j]? = some p → vs[j]? = some v → RelV K w p v) (hle : off + qs.length ≤ ps.length) (hs : arr'.size = arr.size)
  (ha : ∀ k, arr'[k]? = if off ≤ k ∧ k < off + vs.length ∧ k < arr.size then vs[k - off]? else arr[k]?) : RC K w (spl ps off qs) arr' := by
 refine ⟨by rw [hs, h.1]; simp [spl]; omega, fun j p v hp hj => ?_⟩
 rw [ha j] at hj
 unfold spl at hp
 rw [List.append_assoc, List.getElem?_append] at hp
 simp only [List.length_take] at hp
 rw [show min off ps.length = off by omega] at hp
 have hsz := h.1
 split at hp
 ·rename_i hlt
  rw [if_neg (by omega)] at hj
  rw [List.getElem?_take, if_pos hlt] at hp
  exact h.2 j p v hp hj
 ·rename_i hlt
  rw [List.getElem?_append] at hp
  split at hp
  ·rename_i hlt2
   rw [if_pos ⟨by omega, by omega, by omega⟩] at hj
   exact hv _ p v hp hj
  ·rename_i hlt2
   rw [if_neg (by omega)] at hj
   rw [List.getElem?_drop] at hp
   rw [show off + qs.length + (j - off - qs.length) = j by omega] at hp
   exact h.2 j p v hp hj
theorem fill_ok {K : Kp} {w : World} {pl : Nat → Option (Nat × Nat)} {ρ : Operand → Option PV} {ev : Operand → Value} : ∀ {parts : List (Nat × Operand)} {cells cells' : List PV} {arr : Array Value}, (∀ x ∈ parts, ∀ p, ρ x.2 = some p → RelV K w p (ev x.2)) → Qcd pl ρ cells parts = some cells' → RC K w cells arr →
    ∃ arr', Instr.fill pl arr (parts.map fun x => (x.1, ev x.2)) = some arr' ∧ RC K w cells' arr' := by
  intro parts
  induction parts with
  | nil =>
    intro cells cells' arr _ h hr
    simp only [Qcd, Option.some.injEq] at h
    subst h
    exact ⟨arr, rfl, hr⟩
  | cons x rest ih =>
    intro cells cells' arr hx h hr
    obtain ⟨i, x⟩ := x
    simp only [Qcd] at h
    split at h
    · rename_i off size p hpl hp
      split at h
      · rename_i hc
        obtain ⟨h1, h2, h3⟩ := hc
        have hv := hx (i, x) (by simp) p hp
        simp only at hv
        obtain ⟨c1, c2, c3⟩ := hv.ps (by simpa using h3)
        obtain ⟨g1, g2⟩ := Go.Great.foldl_set off (ev x).cells.toList 0 arr
        have hr2 : RC K w (spl cells off p.ps) (((ev x).cells.toList.zipIdx 0).foldl (fun cs (y : Value × Nat) => cs.setIfInBounds (off + y.2) y.1) arr) :=
          spl_rel hr (vs := (ev x).cells.toList) (by simp; omega) (fun j q v hq hv => c2 j q v hq (by simpa using hv)) (by omega) g1 (by intro k; rw [g2 k]; simp)
        obtain ⟨arr', h4, h5⟩ := ih (fun y hy => hx y (by simp [hy])) h hr2
        refine ⟨arr', ?_, h5⟩
        simp only [List.map_cons]
        unfold Instr.fill
        have hsz : (ev x).cells.size = size := by omega
        have hle : ¬ (((ev x).cells.size ≠ size || decide (off + (ev x).cells.size > arr.size)) = true) := by
          have := hr.1
          simp; omega
        simp only [hpl]
        rw [if_neg hle, ← h4, ← Array.foldl_toList, Array.toList_zipIdx]
      · cases h
    · cases h
def Jp (P : Program) (ρ : Operand → Option PV) (t : TypeId) (parts : List (Nat × Operand)) : Option PV :=
 match tyOf P t, Qci P t with
 | some ⟨_, .struct fs⟩, some z => if fs.all (fun f => f.agg.isSome) = true then (Qcd (fun i => (fs[i]?).map fun f => (f.off, f.size)) ρ z parts).map .agg else none
 | some ⟨_, .array _ es ea⟩, some z => if ea.isSome = true then (Qcd (fun i => some (i * es, es)) ρ z parts).map .agg else none
 | _, _ => none
theorem Qgo {P : Program} {t : TypeId} (h : (aggOf P t).isSome = true) : ∃ i, P.info? t = some i ∧ P.cellsOf t = i.size := by
  unfold aggOf at h
  cases hd : P.underlying t with
  | none => rw [hd] at h; cases h
  | some d =>
    obtain ⟨i, hi⟩ := Qfx hd
    exact ⟨i, hi, by simp [Program.cellsOf, hi]⟩
theorem places_all {P : Program} : ∀ (fs : List Field), (∀ f ∈ fs, (aggOf P f.type).isSome = true) → fs.mapM (fun f => (P.info? f.type).map fun i => (f.offset, i.size)) = some (fs.map fun f => (f.offset, P.cellsOf f.type)) := by
  intro fs
  induction fs with
  | nil => intro _; rfl
  | cons f fs ih =>
    intro h
    obtain ⟨i, hi, hc⟩ := Qgo (h f (by simp))
    simp only [List.mapM_cons, hi, Option.map_some, ih fun g hg => h g (by simp [hg]), List.map_cons, hc]
    rfl
theorem evBuild_run {P : Program} {ρ : Operand → Option PV} {t : TypeId} {parts : Array (Nat × Operand)} {p : PV} (h : Jp P ρ t parts.toList = some p) {K : Kp} {w : World} {ev : Operand → Value} (hops : ∀ x ∈ parts.toList, ∀ q, ρ x.2 = some q → RelV K w q (ev x.2)) :
    ∃ v, (Instr.build t (parts.map fun x => (x.1, ev x.2))).run P w = .ok v w ∧ RelV K w p v := by
  unfold Jp at h
  split at h
  · rename_i sz fs z hT hz
    split at h
    · rename_i hall
      obtain ⟨cells, hf, rfl⟩ := Option.map_eq_some_iff.1 h
      obtain ⟨d, hd, hTe⟩ := Qal hT
      cases d with
      | struct fields =>
        simp only [tyK, Ty.mk.injEq, TyK.struct.injEq] at hTe
        obtain ⟨rfl, rfl⟩ := hTe
        unfold Qci at hz
        obtain ⟨zv, hz1, hz2⟩ := Option.map_eq_some_iff.1 hz
        obtain ⟨it, hit, hz1⟩ := Option.bind_eq_some_iff.1 hz1
        have hrc : RC K w z zv.cells := zero_rel K w hz2
        obtain ⟨arr', h1, h2⟩ := fill_ok (ev := ev) hops hf hrc
        have hb : P.built t (parts.map fun x => (x.1, ev x.2)).toList = some arr' := by
          unfold Program.built
          have hpl := places_all (P := P) fields.toList fun f hf => by
            have := List.all_eq_true.1 hall ⟨f.offset, P.cellsOf f.type, aggOf P f.type⟩ (List.mem_map.2 ⟨f, hf, rfl⟩)
            exact this
          simp only [hit, hd, hz1, hpl, Array.toList_map]
          rw [← h1]
          congr 1
          funext i
          simp
          rfl
        exact ⟨_, run_build w t _ arr' hb, .agg h2.1 h2.2⟩
      | _ => simp [tyK] at hTe
    · cases h
  · rename_i sz n es ea z hT hz
    split at h
    · rename_i hall
      obtain ⟨cells, hf, rfl⟩ := Option.map_eq_some_iff.1 h
      obtain ⟨d, hd, hTe⟩ := Qal hT
      cases d with
      | array n' e' =>
        simp only [tyK, Ty.mk.injEq, TyK.array.injEq] at hTe
        obtain ⟨rfl, rfl, rfl, rfl⟩ := hTe
        unfold Qci at hz
        obtain ⟨zv, hz1, hz2⟩ := Option.map_eq_some_iff.1 hz
        obtain ⟨it, hit, hz1⟩ := Option.bind_eq_some_iff.1 hz1
        have hrc : RC K w z zv.cells := zero_rel K w hz2
        obtain ⟨arr', h1, h2⟩ := fill_ok (ev := ev) hops hf hrc
        obtain ⟨ie, hie, hcs⟩ := Qgo hall
        have hb : P.built t (parts.map fun x => (x.1, ev x.2)).toList = some arr' := by
          unfold Program.built
          simp only [hit, hd, hz1, hie, Array.toList_map]
          rw [← h1, hcs]
        exact ⟨_, run_build w t _ arr' hb, .agg h2.1 h2.2⟩
      | _ => simp [tyK] at hTe
    · cases h
  · cases h
def nev (P : Program) (ρ : Operand → Option PV) : Op → Option PV
 | .build t parts => Jp P ρ t parts.toList
 | op => nevA P ρ op
theorem nev_ok {P : Program} {o : Oper} {ρ : Operand → Option PV} {p : PV} (h : nev P ρ o.op = some p) (st : St) : POp P o ρ st fun q s => q = p ∧ s = st := by
 by_cases hb : ∃ t parts, o.op = .build t parts
 ·obtain ⟨t, parts, ho⟩ := hb
  refine POp.of_run fun F K w a h1 h2 => ?_
  obtain ⟨dst, op, ty, pos, after, guard⟩ := o
  simp only at ho h h2
  subst ho
  obtain ⟨v, h3, h4⟩ := evBuild_run (ev := a.eval) h fun x hx q hq => h2 x.2 (by simp only [Op.operands]; exact List.mem_toArray.2 (List.mem_map.2 ⟨x, hx, rfl⟩)) q hq
  refine ⟨v, w, K, p, st, ?_, Ext.refl _ _ _, h1, h4, rfl, rfl⟩
  simp only [execOp, Sem.run_bind]
  rw [h3]; rfl
 ·refine nevA_ok ?_ st
  rw [← h]
  unfold nev
  split
  ·rename_i t parts ho; exact absurd ⟨t, parts, ho⟩ hb
  ·rfl
def PV.toD : PV → Option D
 | .d x => some x
 | .nils => some (.sl [])
 | .own _ rows => some (.sl rows)
 | .full rows => some (.sl rows)
 | _ => none
theorem toD_rel {K : Kp} {w : World} {p : PV} {d : D} {v : Value} (hp : p.toD = some d) (h : RelV K w p v) : RelD K.cell w d v := by
 cases h with
 | d h => simp [PV.toD] at hp; subst hp; exact h
 | nils => simp [PV.toD] at hp; subst hp; exact .nil (Nat.zero_le _)
 | own h => simp [PV.toD] at hp; subst hp; exact h
 | full h => simp [PV.toD] at hp; subst hp; exact h
 | _ => simp [PV.toD] at hp
def toDs : List PV → Option (List D)
  | [] => some []
  | p :: r => match p.toD, toDs r with
    | some d, some l => some (d :: l)
    | _, _ => none
theorem toDs_get : ∀ {ps : List PV} {ds : List D}, toDs ps = some ds → ds.length = ps.length ∧ ∀ (j : Nat) (d : D), ds[j]? = some d → ∃ p : PV, ps[j]? = some p ∧ p.toD = some d := by
  intro ps
  induction ps with
  | nil => intro ds h; simp [toDs] at h; subst h; simp
  | cons p r ih =>
    intro ds h
    simp only [toDs] at h
    split at h
    · rename_i d l hd hl
      obtain rfl := Option.some.inj h
      obtain ⟨h1, h2⟩ := ih hl
      refine ⟨by simp [h1], fun j e he => ?_⟩
      cases j with
      | zero => simp at he; subst he; exact ⟨p, rfl, hd⟩
      | succ j => simp at he; obtain ⟨q, hq, hqd⟩ := h2 j e he; exact ⟨q, by simpa using hq, hqd⟩
    · cases h
def Qcc (es : Nat) : Nat → List PV → Option (List (List D))
  | 0, _ => some []
  | n + 1, cells => match toDs (cells.take es), Qcc es n (cells.drop es) with
    | some row, some l => some (row :: l)
    | _, _ => none
theorem rowsOf_get {es : Nat} : ∀ {n : Nat} {cells : List PV} {rows : List (List D)}, Qcc es n cells = some rows → n * es ≤ cells.length → rows.length = n ∧ (∀ row ∈ rows, row.length = es) ∧ ∀ (i j : Nat) (row : List D) (d : D), rows[i]? = some row → row[j]? = some d → ∃ p : PV, cells[i * es + j]? = some p ∧ p.toD = some d := by
  intro n
  induction n with
  | zero => intro cells rows h _; simp [Qcc] at h; subst h; simp
  | succ n ih =>
    intro cells rows h hle
    simp only [Qcc] at h
    split at h
    · rename_i row l hd hl
      obtain rfl := Option.some.inj h
      obtain ⟨g1, g2⟩ := toDs_get hd
      obtain ⟨h1, h2, h3⟩ := ih hl (by rw [List.length_drop]; rw [Nat.add_mul] at hle; omega)
      rw [Nat.add_mul, Nat.one_mul] at hle
      have hrl : row.length = es := by rw [g1, List.length_take]; omega
      refine ⟨by simp [h1], fun x hx => ?_, fun i j x d hx hj => ?_⟩
      · rcases List.mem_cons.1 hx with rfl | hx
        · exact hrl
        · exact h2 x hx
      · cases i with
        | zero =>
          simp at hx; subst hx
          obtain ⟨p, hp, hpd⟩ := g2 j d hj
          rw [List.getElem?_take] at hp
          split at hp
          · exact ⟨p, by simpa using hp, hpd⟩
          · cases hp
        | succ i =>
          simp at hx
          obtain ⟨p, hp, hpd⟩ := h3 i j x d hx hj
          rw [List.getElem?_drop] at hp
          exact ⟨p, by rw [Nat.add_mul, Nat.one_mul, show i * es + es + j = es + (i * es + j) by omega]; exact hp, hpd⟩
    · cases h
def Kp.addRow (K : Kp) (b n : Nat) : Kp := ⟨fun c o => K.cell c o ∨ (c = b ∧ o < n), K.box, K.own⟩
def Kp.setOwn (K : Kp) (g : Nat) (u : Value) : Kp := ⟨K.cell, K.box, fun j => if j = g then some u else K.own j⟩
theorem Rel.newRow {F : Fz} {st : St} {K : Kp} {w w0 : World} (h : Rel F st K w) (arr : Array Value) (E : TypeId) (n : Nat) (hn : n ≤ arr.size) (h0 : w0 = w ∨ w0 = w.drew) :
  Ext F K w (K.addRow w.heap.size n) (w0.alloc (.cells arr E)) ∧ Rel F st (K.addRow w.heap.size n) (w0.alloc (.cells arr E)) := by
 have hheap : (w0.alloc (.cells arr E)).heap = (w.alloc (.cells arr E)).heap := by rcases h0 with rfl | rfl <;> rfl
 have hx0 : Ext F K w (K.addRow w.heap.size n) (w.alloc (.cells arr E)) := ext_alloc F w _ (fun b o hc => ⟨h.klt hc, .inl hc⟩) (fun b o hc => hc.imp id fun h => h.1) (fun _ _ h => h) (fun _ _ h => h) (fun _ _ => rfl) h.ff
 have hcell : ∀ p, (w0.alloc (.cells arr E)).cell? p = (w.alloc (.cells arr E)).cell? p := fun p => by simp only [World.cell?, hheap]
 have hx : Ext F K w (K.addRow w.heap.size n) (w0.alloc (.cells arr E)) := by
  refine ⟨?_, ?_, ?_, by rw [hheap]; exact hx0.size, fun b hb => by rw [hheap]; exact hx0.hp b hb, fun b o hc => by rw [hcell]; exact hx0.kp b o hc, hx0.nk, hx0.kb, hx0.ko, hx0.kf⟩
  all_goals rcases h0 with rfl | rfl <;> rfl
 refine ⟨hx, ⟨fun b o hc => ?_, fun b hb => by rw [hheap]; have := h.ff b hb; simp; omega, h.fin, h.fi, fun e he => ?_, h.nb, h.nt⟩⟩
 ·rw [hcell]
  rcases hc with hc | ⟨rfl, ho⟩
  ·obtain ⟨v, hv⟩ := h.kc b o hc
   exact ⟨v, (hx0.kp b o hc).2.trans hv⟩
  ·rw [Qbi (heap_alloc_new w _)]
   exact ⟨arr[o], Array.getElem?_eq_getElem (by omega)⟩
 ·refine (h.ents e he).keep hx (fun b hb => by rw [hheap]; exact Below.heap_alloc w _ b ((h.ents e he).lt hb).1) (fun b o hb hc => ?_) fun _ _ => rfl
  rcases hc with hc | ⟨rfl, ho⟩
  ·exact hc
  ·have := ((h.ents e he).lt hb).1; omega
theorem Rel.newTok {F : Fz} {st : St} {K : Kp} {w : World} (h : Rel F st K w) {u : Value} {E : TypeId} {sz n : Nat} {xs : List Value} (ho : w.ownsRow 0 E sz u n xs) (hs : slen u = n) (hb : ∀ b, u.ownBlock = some b → ¬ F.blk b ∧ (∀ o, K.cell b o → o < n * sz) ∧ ∀ e ∈ st, e.block K ≠ some b) :
    ∃ g, K.own g = none ∧ St.freshT st g ∧ Ext F K w (K.setOwn g u) w ∧ Rel F (.tok g E sz n :: st) (K.setOwn g u) w := by
  obtain ⟨nx, hnx⟩ := h.fin
  have hnone : K.own nx = none := (hnx nx (Nat.le_refl _)).2
  have hko : ∀ j v, K.own j = some v → (K.setOwn nx u).own j = some v := fun j b hj => by
    simp only [Kp.setOwn]
    rw [if_neg (by intro e; subst e; rw [hnone] at hj; cases hj)]; exact hj
  have hfr : St.freshT st nx := fun e he hid => by
    cases e with
    | tok g U sz' n' =>
      simp only [Ent.tid, Option.some.injEq] at hid
      subst hid
      obtain ⟨u', xs', h1, -⟩ := h.ents _ he
      rw [hnone] at h1; cases h1
    | box => cases hid
    | obj => cases hid
  have hx : Ext F K w (K.setOwn nx u) w := ⟨rfl, rfl, rfl, Nat.le_refl _, fun _ _ => rfl, fun _ _ h => ⟨h, rfl⟩, fun _ _ h => .inl h, fun _ _ h => h, fun g v hv => ⟨v, hko g v hv, .inl rfl⟩, fun g hg => by
    have := h.fi g hg
    simp only [Kp.setOwn]
    rw [if_neg (by intro e; subst e; exact this hnone)]⟩
  have hown : ∀ e ∈ st, ∀ g, e.tid = some g → (K.setOwn nx u).own g = K.own g := fun e he g hg => by
    simp only [Kp.setOwn]
    rw [if_neg (by intro e2; subst e2; exact hfr e he hg)]
  refine ⟨nx, hnone, hfr, hx, ⟨h.kc, h.ff, ⟨nx + 1, fun j hj => ?_⟩, fun g hg => ?_, fun e he => ?_, ?_, ?_⟩⟩
  · simp only [Kp.setOwn]
    rw [if_neg (by omega)]
    exact hnx j (by omega)
  · have := h.fi g hg
    rw [hx.kf g hg]; exact this
  · rcases List.mem_cons.1 he with rfl | he
    · exact ⟨u, xs, by simp [Kp.setOwn], fun hf => h.fi _ hf hnone, hs, ho, fun b hub => ⟨(hb b hub).1, (hb b hub).2.1⟩⟩
    · exact (h.ents e he).keep hx (fun _ _ => rfl) (fun _ _ _ h => h) (hown e he)
  · have e2 : st.filterMap (Ent.block (K.setOwn nx u)) = st.filterMap (Ent.block K) := Qdu fun e he => by
      cases e with
      | box i U cs => rfl
      | tok g E sz n => simp only [Ent.block, hown _ he g rfl]
      | obj i ok => rfl
    rw [List.filterMap_cons]
    simp only [Ent.block, Kp.setOwn, if_true, Option.bind_some]
    simp only [Kp.setOwn] at e2
    cases hub : u.ownBlock with
    | none => simp only [e2]; exact h.nb
    | some b =>
      simp only
      rw [List.nodup_cons]
      refine ⟨fun hm => ?_, by rw [e2]; exact h.nb⟩
      rw [e2] at hm
      obtain ⟨e, he, hbe⟩ := List.mem_filterMap.1 hm
      exact (hb b hub).2.2 e he hbe
  · simp only [List.filterMap_cons, Ent.tid]
    rw [List.nodup_cons]
    refine ⟨fun hm => ?_, h.nt⟩
    obtain ⟨e, he, hg⟩ := List.mem_filterMap.1 hm
    exact hfr e he hg
theorem rows_mk {K : Nat → Nat → Prop} {w : World} {rows : List (List D)} {b es cap : Nat} {arr : Array Value} {E : TypeId} {fr : Nat × Nat} (hh : w.heap[b]? = some (.cells arr E fr)) (hcap : rows.length ≤ cap) (hm : cap ≤ maxLen) (hl : ∀ row ∈ rows, row.length = es)
  (hr : ∀ (i j : Nat) (row : List D) (d : D), rows[i]? = some row → row[j]? = some d → K b (i * es + j) ∧ ∃ v, arr[i * es + j]? = some v ∧ RelD K w d v) : RelD K w (.sl rows) (.slice (some ⟨b, 0, none⟩) rows.length cap) := by
 refine .sl (sz := es) (fun i j => arr.getD (i * es + j) undef) hcap hm hl (fun i j row d hi hj => ?_) fun i j row d hi hj => ?_
 ·obtain ⟨h1, v, h2, h3⟩ := hr i j row d hi hj
  rw [Nat.zero_add]
  refine ⟨h1, ?_⟩
  rw [Qbi hh, Array.getD_eq_getD_getElem?, h2]; rfl
 ·obtain ⟨h1, v, h2, h3⟩ := hr i j row d hi hj
  rw [Array.getD_eq_getD_getElem?, h2]; exact h3
def elOf (P : Program) (E : TypeId) : Option (Nat × Nat) :=
  match P.info? E with
  | some i => match i.zero with
    | some z => if z.cells.size = i.size then some (i.size, i.bytes) else none
    | none => none
  | none => none
theorem Qgd {P : Program} {E : TypeId} {es bytes : Nat} (h : elOf P E = some (es, bytes)) : ∃ i z, P.info? E = some i ∧ i.zero = some z ∧ i.size = es ∧ i.bytes = bytes ∧ z.cells.size = es := by
 unfold elOf at h
 split at h
 ·rename_i i hi
  split at h
  ·rename_i z hz
   split at h
   ·rename_i hs
    simp only [Option.some.injEq, Prod.mk.injEq] at h
    exact ⟨i, z, hi, hz, h.1, h.2, hs.trans h.1⟩
   ·cases h
  ·cases h
 ·cases h
theorem Qea {P : Program} {o : Oper} {ρ : Operand → Option PV} {t : TypeId} {len : Nat} {parts : Array (Nat × Operand)} (ho : o.op = .buildSlice t len parts) {E es bytes : Nat} {ea : Option Bool} {T : Ty} (hT : tyOf P t = some T) (hk : T.k = .slice E es ea) (hE : elOf P E = some (es, bytes)) (h0 : 0 < len * es) (h24 : len * es ≤ 16777216) {cells : List PV} (hf : Qcd (fun i => some (i * es, es)) ρ (List.replicate (len * es) .u) parts.toList = some cells) {rows : List (List D)} (hr : Qcc es len cells = some rows) (st : St) :
    POp P o ρ st fun q s => q = .d (.sl rows) ∧ s = st := by
  refine POp.of_run fun F K w a h1 h2 => ?_
  obtain ⟨dst, op, ty, pos, after, guard⟩ := o
  simp only at ho h2
  subst ho
  obtain ⟨d, hd, rfl⟩ := Qal hT
  cases d with
  | slice E' =>
    simp only [tyK, TyK.slice.injEq] at hk
    obtain ⟨rfl, hes, rfl⟩ := hk
    obtain ⟨ie, z, hie, hz, hsz, -, hzs⟩ := Qgd hE
    have hrc : RC K w (List.replicate (len * es) .u) ((Array.range (len * ie.size)).map (z.cells[· % z.cells.size]!)) := ⟨by simp [hsz], fun j p v hp _ => by
      have := List.mem_of_getElem? hp
      rw [List.mem_replicate] at this
      rw [this.2]; exact .u⟩
    obtain ⟨arr, h3, h4⟩ := fill_ok (ev := a.eval) (fun x hx q hq => h2 x.2 (by simp only [Op.operands]; exact List.mem_toArray.2 (List.mem_map.2 ⟨x, hx, rfl⟩)) q hq) hf hrc
    have hfl : ∀ (parts : List (Nat × Operand)) (cs cs' : List PV), Qcd (fun i => some (i * es, es)) ρ cs parts = some cs' → cs'.length = cs.length := by
      intro parts
      induction parts with
      | nil => intro cs cs' h; simp only [Qcd, Option.some.injEq] at h; rw [h]
      | cons x rest ih =>
        intro cs cs' h
        obtain ⟨i, x⟩ := x
        simp only [Qcd] at h
        split at h
        · rename_i off size p hpl hp
          simp only [Option.some.injEq, Prod.mk.injEq] at hpl
          split at h
          · rename_i hc
            rw [ih _ _ h]; simp [spl]; omega
          · cases h
        · cases h
    have hcl := hfl _ _ _ hf
    rw [List.length_replicate] at hcl
    obtain ⟨r1, r2, r3⟩ := rowsOf_get hr (by omega)
    obtain ⟨hx, hrel⟩ := h1.newRow arr E' (len * es) (by rw [h4.1]; omega) (.inl rfl)
    refine ⟨.slice (some ⟨w.heap.size, 0, none⟩) len len, _, _, .d (.sl rows), st, ?_, hx, hrel, .d ?_, rfl, rfl⟩
    · simp only [execOp, Sem.run_bind]
      rw [run_buildSlice w t E' len _ arr ie z hd hie hz (by rw [hsz]; omega) (by rw [hsz]; omega) (by rw [hsz, Array.toList_map]; rw [hsz] at h3; exact h3)]
      rfl
    · have := rows_mk (K := (K.addRow w.heap.size (len * es)).cell) (w := w.alloc (.cells arr E')) (rows := rows) (cap := len) (es := es) (heap_alloc_new w _) (by omega) (by have : len ≤ len * es := Nat.le_mul_of_pos_right _ (by rcases Nat.eq_zero_or_pos es with h | h; (rw [h] at h0; simp at h0); exact h); unfold maxLen; omega) r2 fun i j row d hi hj => by
        obtain ⟨p, hp, hpd⟩ := r3 i j row d hi hj
        have hlt := (List.getElem?_eq_some_iff.1 hp).1
        have hsz := h4.1
        have hg : arr[i * es + j]? = some arr[i * es + j] := Array.getElem?_eq_getElem (by omega)
        exact ⟨.inr ⟨rfl, by omega⟩, _, hg, (toD_rel hpd (h4.2 _ p _ hp hg)).mono hx.kp⟩
      rw [r1] at this; exact this
  | _ => simp [tyK] at hk
def Kp.grow (K : Kp) (g : Nat) (u : Value) (n : Nat) : Kp := ⟨fun c o => K.cell c o ∨ (u.ownBlock = some c ∧ o < n), K.box, fun j => if j = g then some u else K.own j⟩
theorem Rel.grow {F : Fz} {st : St} {K : Kp} {w w' : World} {g : Nat} {E : TypeId} {sz n n' : Nat} (h : Rel F (.tok g E sz n :: st) K w) {u u' : Value} (hu : K.own g = some u) (os : w'.os = w.os) (tape : w'.tape = w.tape) (out : w'.output = w.output) (size : w.heap.size ≤ w'.heap.size)
    (hk : ∀ k, k < w.heap.size → u'.ownBlock ≠ some k → w'.heap[k]? = w.heap[k]?) (hpre : ∀ b, u'.ownBlock = some b → b < w.heap.size → u.ownBlock = some b ∧ ∀ o, o < n * sz → w'.cell? ⟨b, o, none⟩ = w.cell? ⟨b, o, none⟩)
    {xs' : List Value} (hown : w'.ownsRow 0 E sz u' n' xs') (hs : slen u' = n') (hlt : u' = u ∨ n < n') (hn : n ≤ n') : Ext F K w (K.grow g u' (n' * sz)) w' ∧ Rel F (.tok g E sz n' :: st) (K.grow g u' (n' * sz)) w' := by
  obtain ⟨u0, xs, e1, e2, e3, e4, e5⟩ := h.ents _ (List.mem_cons_self ..)
  rw [hu] at e1
  obtain rfl := Option.some.inj e1
  have hnn : n * sz ≤ n' * sz := Nat.mul_le_mul_right _ hn
  have hF : ∀ b, u'.ownBlock = some b → ¬ F.blk b := fun b hb hf => by
    have hl := h.ff b hf
    exact (e5 b (hpre b hb hl).1).1 hf
  have hx : Ext F K w (K.grow g u' (n' * sz)) w' := by
    refine ⟨os, tape, out, size, fun b hb => hk b (h.ff b hb) fun hub => hF b hub hb, fun b o hc => ⟨.inl hc, ?_⟩, fun b o hc => ?_, fun _ _ h => h, fun j v hj => ?_, fun j hj => ?_⟩
    · by_cases hub : u'.ownBlock = some b
      · obtain ⟨h1, h2⟩ := hpre b hub (h.klt hc)
        exact h2 o ((e5 b h1).2 o hc)
      · exact World.cell?_of_block (w := w) (a := ⟨b, o, none⟩) (hk b (h.klt hc) hub)
    · rcases hc with hc | ⟨hc, _⟩
      · exact .inl hc
      · exact .inr (hF b hc)
    · simp only [Kp.grow]
      by_cases hjg : j = g
      · subst hjg
        rw [hu] at hj
        obtain rfl := Option.some.inj hj
        rw [if_pos rfl]
        refine ⟨u', rfl, ?_⟩
        rcases hlt with h | h
        · exact .inl h
        · exact .inr (by omega)
      · rw [if_neg hjg]; exact ⟨v, hj, .inl rfl⟩
    · simp only [Kp.grow]
      rw [if_neg fun e => e2 (by rw [← e]; exact hj)]
  have hoth : ∀ e ∈ st, ∀ b, e.block K = some b → b < w.heap.size ∧ u'.ownBlock ≠ some b := fun e he b hb => by
    have hl := (h.ents e (List.mem_cons_of_mem _ he)).lt hb
    refine ⟨hl.1, fun hub => ?_⟩
    have h1 := (hpre b hub hl.1).1
    have hnb := h.nb
    rw [List.filterMap_cons] at hnb
    simp only [Ent.block, hu, Option.bind_some, h1] at hnb
    rw [List.nodup_cons] at hnb
    exact hnb.1 (List.mem_filterMap.2 ⟨e, he, hb⟩)
  have hid : ∀ e ∈ st, ∀ j, e.tid = some j → j ≠ g := fun e he j hj e' => by
    have hnt := h.nt
    simp only [List.filterMap_cons, Ent.tid] at hnt
    rw [List.nodup_cons] at hnt
    exact hnt.1 (List.mem_filterMap.2 ⟨e, he, by rw [hj, e']⟩)
  refine ⟨hx, ⟨fun b o hc => ?_, fun b hb => by have := h.ff b hb; omega, ?_, fun j hj => ?_, fun e he => ?_, ?_, ?_⟩⟩
  · rcases hc with hc | ⟨hub, ho⟩
    · obtain ⟨v, hv⟩ := h.kc b o hc
      exact ⟨v, (hx.kp b o hc).2.trans hv⟩
    · rcases hown.2 with ⟨rfl, _⟩ | ⟨b', cap, cur, rfl, _, hh, hle, _, hcs, _⟩
      · cases hub
      · simp only [Value.ownBlock, Option.some.injEq] at hub
        subst hub
        have : n' * sz ≤ cap * sz := Nat.mul_le_mul_right _ hle
        rw [Qbi hh]
        exact ⟨cur[o], Array.getElem?_eq_getElem (by omega)⟩
  · obtain ⟨nx, hnx⟩ := h.fin
    refine ⟨nx, fun j hj => ?_⟩
    have h1 := hnx j hj
    simp only [Kp.grow]
    rw [if_neg (by intro e; subst e; rw [hu] at h1; cases h1.2)]
    exact h1
  · have := h.fi j hj
    rw [hx.kf j hj]; exact this
  · rcases List.mem_cons.1 he with rfl | he
    · refine ⟨u', xs', by simp [Kp.grow], e2, hs, hown, fun b hub => ⟨hF b hub, fun o hc => ?_⟩⟩
      rcases hc with hc | ⟨_, ho⟩
      · have := (e5 b (hpre b hub (h.klt hc)).1).2 o hc
        omega
      · exact ho
    · refine (h.ents e (List.mem_cons_of_mem _ he)).keep hx (fun b hb => hk b (hoth e he b hb).1 (hoth e he b hb).2) (fun b o hb hc => ?_) fun j hj => ?_
      · rcases hc with hc | ⟨hub, _⟩
        · exact hc
        · exact absurd hub (hoth e he b hb).2
      · simp only [Kp.grow]; rw [if_neg (hid e he j hj)]
  · have e6 : st.filterMap (Ent.block (K.grow g u' (n' * sz))) = st.filterMap (Ent.block K) := Qdu fun e he => by
      cases e with
      | box i U cs => rfl
      | tok j E' sz' m' => simp only [Ent.block, Kp.grow]; rw [if_neg (hid _ he j rfl)]
      | obj i ok => rfl
    have hnb := h.nb
    rw [List.filterMap_cons] at hnb ⊢
    simp only [Ent.block, Kp.grow, if_true, Option.bind_some] at hnb ⊢
    simp only [Kp.grow] at e6
    rw [e6]
    have hbase : (st.filterMap (Ent.block K)).Nodup := by
      rw [hu] at hnb
      simp only [Option.bind_some] at hnb
      cases hb : u.ownBlock with
      | none => rw [hb] at hnb; exact hnb
      | some b => rw [hb] at hnb; exact (List.nodup_cons.1 hnb).2
    cases hub : u'.ownBlock with
    | none => exact hbase
    | some b =>
      simp only
      rw [List.nodup_cons]
      refine ⟨fun hm => ?_, hbase⟩
      obtain ⟨e, he, hbe⟩ := List.mem_filterMap.1 hm
      exact (hoth e he b hbe).2 hub
  · have := h.nt
    simp only [List.filterMap_cons, Ent.tid] at this ⊢
    exact this
def RV (K : Nat → Nat → Prop) (w : World) (es : Nat) (rows : List (List D)) (xs : List Value) : Prop :=
 xs.length = rows.length * es ∧ (∀ row ∈ rows, row.length = es) ∧ ∀ (i j : Nat) (row : List D) (d : D), rows[i]? = some row → row[j]? = some d → ∃ x, xs[i * es + j]? = some x ∧ RelD K w d x
theorem RV.mono {K K' : Nat → Nat → Prop} {w w' : World} (hk : ∀ b o, K b o → K' b o ∧ w'.cell? ⟨b, o, none⟩ = w.cell? ⟨b, o, none⟩) {es : Nat} {rows : List (List D)} {xs : List Value} (h : RV K w es rows xs) : RV K' w' es rows xs :=
 ⟨h.1, h.2.1, fun i j row d hi hj => let ⟨x, h1, h2⟩ := h.2.2 i j row d hi hj; ⟨x, h1, h2.mono hk⟩⟩
theorem RV.append {K : Nat → Nat → Prop} {w : World} {es : Nat} {rows rows' : List (List D)} {xs xs' : List Value} (h : RV K w es rows xs) (h' : RV K w es rows' xs') : RV K w es (rows ++ rows') (xs ++ xs') := by
 refine ⟨by rw [List.length_append, List.length_append, h.1, h'.1, Nat.add_mul], fun row hr => ?_, fun i j row d hi hj => ?_⟩
 ·rcases List.mem_append.1 hr with hr | hr
  ·exact h.2.1 row hr
  ·exact h'.2.1 row hr
 ·rw [List.getElem?_append] at hi
  split at hi
  ·rename_i hlt
   obtain ⟨x, h1, h2⟩ := h.2.2 i j row d hi hj
   have := (List.getElem?_eq_some_iff.1 h1).1
   exact ⟨x, by rw [List.getElem?_append_left this]; exact h1, h2⟩
  ·rename_i hge
   obtain ⟨x, h1, h2⟩ := h'.2.2 _ j row d hi hj
   refine ⟨x, ?_, h2⟩
   have e : i * es + j = xs.length + ((i - rows.length) * es + j) := by
    rw [h.1]
    obtain ⟨k, rfl⟩ : ∃ k, i = rows.length + k := ⟨i - rows.length, by omega⟩
    rw [Nat.add_mul, Nat.add_sub_cancel_left]; omega
   rw [e, List.getElem?_append_right (by omega), Nat.add_sub_cancel_left]
   exact h1
theorem RV.ones {K : Nat → Nat → Prop} {w : World} {es : Nat} {rows : List (List D)} {xs : List Value} (h : RV K w es rows xs) (hes : 0 < es) : ∀ u ∈ xs, u.oneCell' = true := by
 intro u hu
 obtain ⟨k, hk, rfl⟩ := List.mem_iff_getElem.1 hu
 have hk' := hk
 rw [h.1] at hk'
 have hi : k / es < rows.length := (Nat.div_lt_iff_lt_mul hes).2 hk'
 have hrow := h.2.1 rows[k / es] (List.getElem_mem hi)
 have hj : k % es < rows[k / es].length := by rw [hrow]; exact Nat.mod_lt _ hes
 obtain ⟨x, h1, h2⟩ := h.2.2 (k / es) (k % es) _ _ (List.getElem?_eq_getElem hi) (List.getElem?_eq_getElem hj)
 have e : k / es * es + k % es = k := by rw [Nat.mul_comm]; exact Nat.div_add_mod k es
 rw [e, List.getElem?_eq_getElem hk] at h1
 rw [Option.some.inj h1]; exact h2.one
theorem RV.rel {K : Nat → Nat → Prop} {w : World} {es n : Nat} {rows : List (List D)} {xs : List Value} (h : RV K w es rows xs) {E : TypeId} {u : Value} (ho : w.ownsRow 0 E es u n xs) (hn : n = rows.length) (hk : ∀ b, u.ownBlock = some b → ∀ o, o < n * es → K b o) : RelD K w (.sl rows) u := by
 rcases ho.2 with ⟨rfl, h0⟩ | ⟨b, cap, cur, rfl, _, hh, hle, hm, hcs, htake⟩
 ·have : rows = [] := List.eq_nil_of_length_eq_zero (by omega)
  subst this
  exact .nil (Nat.zero_le _)
 ·subst hn
  refine rows_mk (es := es) hh hle hm h.2.1 fun i j row d hi hj => ?_
  obtain ⟨x, h1, h2⟩ := h.2.2 i j row d hi hj
  have hlt := (List.getElem?_eq_some_iff.1 h1).1
  rw [h.1] at hlt
  refine ⟨hk b rfl _ hlt, x, ?_, h2⟩
  rw [← htake, List.getElem?_take, if_pos hlt] at h1
  simpa using h1
theorem RelD.rv {K : Nat → Nat → Prop} {w : World} {rows : List (List D)} {v : Value} (h : RelD K w (.sl rows) v) {es : Nat} (hes : 0 < es) (hl : ∀ row ∈ rows, row.length = es) : ∃ xs, RV K w es rows xs ∧ ∃ a cap, v = .slice a rows.length cap ∧ ∀ ad, a = some ad → ∀ (j : Nat) (u : Value), xs[j]? = some u → w.cell? (ad.add j) = some u ∧ (rows ≠ [] → K ad.block (ad.off + j) ∧ ad.spot = none) := by
  cases h with
  | @nil a cap hm => exact ⟨[], ⟨by simp, by simp, by simp⟩, a, cap, rfl, fun ad _ j u hu => by simp at hu⟩
  | @sl sz _ b off cap vals h1 h2 h3 h4 h5 =>
    by_cases hne : rows = []
    · subst hne
      exact ⟨[], ⟨by simp, by simp, by simp⟩, _, cap, rfl, fun ad _ j u hu => by simp at hu⟩
    · have hsz : sz = es := by
        obtain ⟨r, hr⟩ := List.exists_mem_of_ne_nil rows hne
        rw [← h3 r hr, hl r hr]
      subst hsz
      refine ⟨(List.range (rows.length * sz)).map fun k => vals (k / sz) (k % sz), ⟨by simp, h3, fun i j row d hi hj => ?_⟩, some ⟨b, off, none⟩, cap, rfl, fun ad had j u hu => ?_⟩
      · have hil := (List.getElem?_eq_some_iff.1 hi).1
        have hjl := (List.getElem?_eq_some_iff.1 hj).1
        rw [h3 row (List.mem_of_getElem? hi)] at hjl
        have hlt : i * sz + j < rows.length * sz := by
          have : (i + 1) * sz ≤ rows.length * sz := Nat.mul_le_mul_right _ hil
          rw [Nat.add_mul] at this; omega
        refine ⟨vals i j, ?_, h5 i j row d hi hj⟩
        rw [List.getElem?_map, List.getElem?_range hlt, Option.map_some]
        rw [show i * sz + j = j + i * sz by omega, Nat.add_mul_div_right _ _ hes, Nat.add_mul_mod_self_right, Nat.div_eq_of_lt hjl, Nat.mod_eq_of_lt hjl, Nat.zero_add]
      · obtain rfl := Option.some.inj had
        have hj := (List.getElem?_eq_some_iff.1 hu).1
        simp only [List.length_map, List.length_range] at hj
        rw [List.getElem?_map, List.getElem?_range hj, Option.map_some, Option.some.injEq] at hu
        have hi : j / sz < rows.length := (Nat.div_lt_iff_lt_mul hes).2 hj
        have hjm : j % sz < rows[j / sz].length := by rw [h3 _ (List.getElem_mem hi)]; exact Nat.mod_lt _ hes
        have := h4 (j / sz) (j % sz) _ _ (List.getElem?_eq_getElem hi) (List.getElem?_eq_getElem hjm)
        have e : off + j / sz * sz + j % sz = off + j := by
          have := Nat.div_add_mod j sz
          rw [Nat.mul_comm] at this; omega
        rw [e] at this
        rw [Qcf, ← hu]
        exact ⟨this.2, fun _ => ⟨this.1, rfl⟩⟩
def Src (P : Program) (w : World) (es : Nat) (x : Value) (m : Nat) (news : List Value) : Prop :=
 (Builtin.lenOf x).run P w = .ok m w ∧ ∀ w', w'.heap = w.heap → (Builtin.firstCells es m x).run P w' = .ok news.toArray w'
theorem run_append_two {P : Program} (w : World) (t xt ty e : TypeId) {i : TypeInfo} {z : Value} {es bytes : Nat} (ht : P.underlying t = some (.slice e)) {dx : TypeDesc} (hxt : P.underlying xt = some dx) (hnz : ∀ k, dx ≠ .int k) (hi : P.info? e = some i) (hz : i.zero = some z) (hsize : i.size = es) (hby : i.bytes = bytes) (hzs : z.cells.size = es)
  {v : Value} {n : Nat} {xs : List Value} (hown : w.ownsRow 0 e es v n xs) {x : Value} {m : Nat} {news : List Value} (hsrc : Src P w es x m news) (hl : news.length = m * es) (h1 : ∀ u ∈ news, u.oneCell' = true) (h63 : n + m ≤ maxLen) (hbytes : (n + m) * bytes ≤ 140737488355328) :
  ∃ v' w', (Builtin.append_ #[t, xt] ty #[v, x]).run P w = .ok v' w' ∧ w'.ownsRow 0 e es v' (n + m) (xs ++ news) ∧ slen v' = n + m ∧ (v' = v ∨ n < n + m) ∧ w'.os = w.os ∧ w'.tape = w.tape ∧ w'.output = w.output ∧ w.heap.size ≤ w'.heap.size ∧
   (∀ k, k < w.heap.size → v'.ownBlock ≠ some k → w'.heap[k]? = w.heap[k]?) ∧ (∀ b, v'.ownBlock = some b → b < w.heap.size → v.ownBlock = some b ∧ ∀ o, o < n * es → w'.cell? ⟨b, o, none⟩ = w.cell? ⟨b, o, none⟩) := by
 obtain ⟨hs1, hs2⟩ := hsrc
 subst hsize
 subst hby
 have hsmall : n + m ≤ 9223372036854775807 := by simp only [maxLen] at h63; omega
 have hlen : (xs ++ news).length = (n + m) * i.size := by rw [List.length_append, hown.1, hl, Nat.add_mul]
 have hzero : (match dx with | .int _ => true | _ => false) = false := by cases dx <;> first | rfl | exact absurd rfl (hnz _)
 have hfw := hs2 w rfl
 have hfd := hs2 w.drew rfl
 have grown : ∀ (old : Nat), old < n + m →
   (w.drew.alloc (.cells (xs.toArray ++ news.toArray ++ Builtin.zeroCells z.cells (grownCap w (n + m) old e - (n + m))) e)).ownsRow 0 e i.size
    (.slice (some ⟨w.heap.size, 0, none⟩) (n + m) (grownCap w (n + m) old e)) (n + m) (xs ++ news) := by
  intro old ho
  have hge := grownCap_ge w (n + m) old e
  have hcm : grownCap w (n + m) old e ≤ maxLen := grownCap_le_maxLen w (n + m) old e h63
  refine ⟨hlen, .inr ⟨w.heap.size, _, _, rfl, Nat.zero_le _, heap_alloc_new w.drew _, hge, hcm, ?_, ?_⟩⟩
  ·simp only [Array.size_append, List.size_toArray, size_zeroCells, hzs, hown.1, hl, ← Nat.add_mul]
   congr 1
   omega
  ·simp only [Array.toList_append, List.append_assoc]
   rw [← List.append_assoc, ← hlen]
   exact List.take_left
 rcases hown.2 with ⟨rfl, rfl⟩ | ⟨g, cap, cur, rfl, -, hg, hnc, hcm, hcs, htake⟩
 ·have hx : xs = [] := List.eq_nil_of_length_eq_zero (by simpa using hown.1)
  subst hx
  by_cases hm : m = 0
  ·subst hm
   have hn : news = [] := List.eq_nil_of_length_eq_zero (by simpa using hl)
   subst hn
   refine ⟨.slice none 0 0, w, ?_, World.ownsRow_nil w 0 e i.size, rfl, .inl rfl, rfl, rfl, rfl, Nat.le_refl _, fun _ _ _ => rfl, fun b hb => by cases hb⟩
   simp [Builtin.append_, run_underlying ht, run_underlying hxt, sizeOf, typeInfo, hi, hzero, hs1, hfw]
  ·have hb := hbytes
   simp only [Nat.zero_add] at hb hsmall
   have h63' : ¬ (9223372036854775807 < (m : Int)) := by omega
   have h48' : ¬ (281474976710656 < Builtin.nextslicecap m 0 * i.bytes) := by rw [nextslicecap_zero (by omega)]; omega
   have hgr := grown 0 (by omega)
   simp only [Nat.zero_add, List.nil_append, Array.empty_append] at hgr ⊢
   refine ⟨_, _, ?_, hgr, rfl, .inr (by omega), rfl, rfl, rfl, by simp, fun k hk _ => Below.heap_alloc w.drew _ k hk, fun b hb hlt => by simp [Value.ownBlock] at hb; omega⟩
   simp [Builtin.append_, run_underlying ht, run_underlying hxt, sizeOf, typeInfo, zeroValue, hi, hz, hzero, hs1, hm, h63', h48', Question.forced, run_firstCells_none, hfd, newRow, grownCap]
 ·by_cases hroom : n + m ≤ cap
  ·have hfit : n * i.size + news.length ≤ cur.size := by rw [hl, hcs, ← Nat.add_mul]; exact Nat.mul_le_mul_right _ hroom
   have hst := run_storeCells_at P g (n * i.size) e news 0 cur w hg (by simpa using hfit) h1
   simp only [Nat.add_zero] at hst
   have hheap := setRow_heap w g cur (cur.toList.take (n * i.size) ++ news ++ cur.toList.drop (n * i.size + news.length)).toArray e _ hg
   refine ⟨.slice (some ⟨g, 0, none⟩) (n + m) cap, w.setRow g (cur.toList.take (n * i.size) ++ news ++ cur.toList.drop (n * i.size + news.length)).toArray, ?_, ⟨hlen, .inr ⟨g, cap, _, rfl, Nat.zero_le _, hheap, hroom, hcm, ?_, ?_⟩⟩, rfl, ?_, rfl, rfl, rfl, by simp [World.setRow], fun k _ hk => setRow_other w g k _ (fun e => hk (by simp [Value.ownBlock, e])), fun b hb _ => ⟨hb, fun o ho => ?_⟩⟩
   ·simp [Builtin.append_, run_underlying ht, run_underlying hxt, sizeOf, typeInfo, hi, hzero, hs1, hroom, hfw, Addr.add_lit, hst]
   ·simp only [List.size_toArray, List.length_append, List.length_take, List.length_drop, Array.length_toList]
    omega
   ·rw [htake, ← hlen]
    exact List.take_left
   ·by_cases hm : m = 0
    ·subst hm; exact .inl (by simp)
    ·exact .inr (by omega)
   ·simp only [Value.ownBlock, Option.some.injEq] at hb
    subst hb
    rw [Qbi hheap, Qbi hg]
    have : o < cur.size := by omega
    simp only [List.getElem?_toArray, List.append_assoc]
    rw [List.getElem?_append_left (by simp; omega), List.getElem?_take, if_pos ho]
    simp
  ·have holds : ∀ j u, xs[j]? = some u → w.cell? ((⟨g, 0, none⟩ : Addr).add j) = some u := hown.cells (g := g) rfl
   have hn : ¬ (n + m ≤ cap) := hroom
   have h63' : ¬ (9223372036854775807 < ((n : Int) + (m : Int))) := by omega
   have h48' : ¬ (281474976710656 < Builtin.nextslicecap (n + m) cap * i.bytes) := by have := growslice_fits (old := cap) (by omega) hbytes; omega
   have hfo := run_firstCells_some (P := P) w.drew i.size n ⟨g, 0, none⟩ n cap xs hown.1 (by simpa using holds)
   have hgr := grown cap (by omega)
   refine ⟨_, _, ?_, hgr, rfl, .inr (by omega), rfl, rfl, rfl, by simp, fun k hk _ => Below.heap_alloc w.drew _ k hk, fun b hb hlt => by simp [Value.ownBlock] at hb; omega⟩
   simp [Builtin.append_, run_underlying ht, run_underlying hxt, sizeOf, typeInfo, zeroValue, hi, hz, hzero, hs1, hn, h63', h48', Question.forced, hfo, hfd, newRow, grownCap]
   congr 2
   apply Array.ext'
   simp [List.append_assoc]
def PV.src : PV → Option (List (List D))
 | .d (.v (.string s)) => some (s.toList.map fun c => [.v (.int .u8 c.toNat)])
 | p => p.rows
def Qbp (T : Option TyK) : Bool :=
 match T with
 | some (.slice ..) => true
 | some .str => true
 | _ => false
theorem src_of {P : Program} {K : Kp} {w : World} {p : PV} {rows : List (List D)} {v : Value} (hp : p.src = some rows) (h : RelV K w p v) {es : Nat} (hes : 0 < es) (hl : ∀ row ∈ rows, row.length = es) : ∃ news, RV K.cell w es rows news ∧ Src P w es v rows.length news := by
  have slc : p.rows = some rows → ∃ news, RV K.cell w es rows news ∧ Src P w es v rows.length news := by
    intro hr
    obtain ⟨xs, h1, a, cap, rfl, h2⟩ := (Qcl hr h).rv hes hl
    refine ⟨xs, h1, rfl, fun w' hw' => ?_⟩
    cases a with
    | none =>
      cases hrows : rows with
      | nil =>
        subst hrows
        have : xs = [] := List.eq_nil_of_length_eq_zero (by rw [h1.1]; simp)
        subst this; simp [Builtin.firstCells]
      | cons r rs =>
        exfalso
        have h3 := Qcl hr h
        subst hrows
        cases h3
    | some ad =>
      refine run_firstCells_some w' es rows.length ad rows.length cap xs h1.1 fun j u hu => ?_
      have := (h2 ad rfl j u hu).1
      simp only [World.cell?, hw'] at this ⊢; exact this
  unfold PV.src at hp
  split at hp
  · rename_i s
    obtain ⟨rfl, hok⟩ := h.flat
    obtain rfl := Option.some.inj hp
    have hsl : s.toList.length = s.size := by
      rw [ByteArray.toList_eq]; simp
    by_cases hs0 : s.toList = []
    · refine ⟨[], ⟨by simp [hs0], by simp [hs0], by simp [hs0]⟩, by simp [Builtin.lenOf, hsl], fun w' _ => ?_⟩
      have : s.size = 0 := by rw [← hsl, hs0]; rfl
      simp [Builtin.firstCells, hs0]
    · have h1e : es = 1 := by
        obtain ⟨c, hc⟩ := List.exists_mem_of_ne_nil _ hs0
        exact (hl [.v (.int .u8 c.toNat)] (List.mem_map.2 ⟨c, hc, rfl⟩)).symm
      subst h1e
      refine ⟨s.toList.map fun c => .int .u8 c.toNat, ⟨by simp, hl, fun i j row d hi hj => ?_⟩, by simp [Builtin.lenOf, hsl], fun w' _ => ?_⟩
      · rw [List.getElem?_map] at hi
        obtain ⟨c, hc, rfl⟩ := Option.map_eq_some_iff.1 hi
        have : j = 0 := by have := (List.getElem?_eq_some_iff.1 hj).1; simp at this; omega
        subst this
        simp at hj
        subst hj
        exact ⟨.int .u8 c.toNat, by simp [hc], .v trivial⟩
      · simp only [Builtin.firstCells, Sem.run_pure, List.length_map, hsl]
        congr 1
        apply Array.ext'
        rw [ByteArray.toList_eq]
        have : s.extract 0 s.size = s := by apply ByteArray.ext; simp
        rw [this]; simp
  · exact slc hp
theorem POp_append {P : Program} {o : Oper} {ρ : Operand → Option PV} {st : St} {R : PV → St → Prop} {s x : Operand} {t xt : TypeId} (ho : o.op = .call { callee := .builtin .append, args := #[s, x], argTypes := #[t, xt] }) {g : Nat} {rows : List (List D)} (hs : ρ s = some (.own g rows)) {p : PV} (hx : ρ x = some p) {rows' : List (List D)} (hp : p.src = some rows')
    {T : Ty} (hT : tyOf P t = some T) {E es bytes : Nat} {ea : Option Bool} (hk : T.k = .slice E es ea) (hX : Qbp ((tyOf P xt).map (·.k)) = true) (hE : elOf P E = some (es, bytes)) (hes : 0 < es) (hl0 : ∀ row ∈ rows, row.length = es) (hl : ∀ row ∈ rows', row.length = es) (htok : st.tok? g = some (E, es, rows.length)) (h63 : rows.length + rows'.length ≤ maxLen) (hb : (rows.length + rows'.length) * bytes ≤ 140737488355328)
    (h : R (.own g (rows ++ rows')) (st.setTok g (rows.length + rows'.length))) : POp P o ρ st R := by
  refine POp.of_run fun F K w a h1 h2 => ?_
  obtain ⟨dst, op, ty, pos, after, guard⟩ := o
  simp only at ho h2
  subst ho
  obtain ⟨l, r, rfl, hset⟩ := St.tok?_split htok
  rw [hset] at h
  obtain ⟨d, hd, rfl⟩ := Qal hT
  have hr := h2 s (by simp [Op.operands, Call.operands]) _ hs
  have hv := h2 x (by simp [Op.operands, Call.operands]) _ hx
  cases d with
  | slice E' =>
    simp only [tyK, TyK.slice.injEq] at hk
    obtain ⟨rfl, hes', rfl⟩ := hk
    obtain ⟨ie, z, hie, hz, hsz, hby, hzs⟩ := Qgd hE
    obtain ⟨dx, hdx, hnz⟩ : ∃ dx, P.underlying xt = some dx ∧ ∀ k, dx ≠ .int k := by
      unfold tyOf at hX
      cases hq : P.underlying xt with
      | none => rw [hq] at hX; cases hX
      | some dx =>
        rw [hq] at hX
        refine ⟨dx, rfl, fun k e => ?_⟩
        subst e
        simp [Qbp, tyK] at hX
    obtain ⟨u, xs, e1, e2, e3, e4, e5⟩ := h1.ents (.tok g E' es rows.length) (by simp)
    generalize hva : a.eval s = va at hr
    cases hr with
    | own hrd hru hle heq =>
    rw [e1] at hru
    obtain rfl := Option.some.inj hru
    obtain rfl := heq e3.symm
    obtain ⟨news, hnews, hsrc⟩ := src_of (P := P) hp hv hes hl
    have hbk : ∀ b, va.ownBlock = some b → ∀ o, o < rows.length * es → K.cell b o → True := fun _ _ _ _ _ => trivial
    obtain ⟨v', w', hrun, hown', hsl, hlt, os, tape, out, size, hk1, hk2⟩ := run_append_two (P := P) w t xt ty E' hd hdx hnz hie hz hsz hby hzs e4 hsrc hnews.1 (hnews.ones hes) h63 hb
    have hperm : (l ++ .tok g E' es rows.length :: r).Perm (.tok g E' es rows.length :: (l ++ r)) := List.perm_middle
    obtain ⟨hx2, hrel⟩ := (h1.perm hperm).grow e1 os tape out size hk1 hk2 hown' hsl (by rcases hlt with h | h; exact .inl h; exact .inr h) (by omega)
    have hold : RV K.cell w es rows xs := by
      by_cases hne : rows = []
      · subst hne
        have : xs = [] := List.eq_nil_of_length_eq_zero (by rw [e4.1]; simp)
        subst this
        exact ⟨by simp, by simp, by simp⟩
      · rcases e4.2 with ⟨rfl, h0⟩ | ⟨b, cap, cur, rfl, _, hh, hle2, hm, hcs, htake⟩
        · exact absurd (List.eq_nil_of_length_eq_zero h0) hne
        · cases hrd with
          | nil => exact absurd rfl hne
          | @sl sz _ b' off' cap' vals q1 q2 q3 q4 q5 =>
            have hszb : ∀ (i j : Nat) (row : List D) (dd : D), rows[i]? = some row → row[j]? = some dd → K.cell b (0 + i * sz + j) ∧ w.cell? ⟨b, 0 + i * sz + j, none⟩ = some (vals i j) := q4
            have hsze : sz = es := by
              obtain ⟨r, hr⟩ := List.exists_mem_of_ne_nil rows hne
              rw [← q3 r hr, hl0 r hr]
            subst hsze
            refine ⟨e4.1, q3, fun i j row dd hi hj => ⟨vals i j, ?_, q5 i j row dd hi hj⟩⟩
            have h7 := hszb i j row dd hi hj
            rw [Nat.zero_add] at h7
            have hlt2 := (e5 b rfl).2 _ h7.1
            have h8 := h7.2
            rw [Qbi hh] at h8
            rw [← htake, List.getElem?_take, if_pos hlt2]
            simpa using h8
    refine ⟨v', w', _, .own g (rows ++ rows'), _, ?_, hx2, hrel.perm ?_, ?_, h⟩
    · simp only [execOp, resolve, invoke, builtin, Sem.run_bind, Sem.run_pure, Result.andThen_ok, List.map_toArray, List.map_cons, List.map_nil, hva, hrun]
    · exact List.perm_middle.symm
    · refine .own ?_ (by simp [Kp.grow]) (by rw [List.length_append]; omega) fun _ => rfl
      refine ((hold.mono hx2.kp).append (hnews.mono hx2.kp)).rel hown' (by rw [List.length_append]) fun b hb o ho => .inr ⟨hb, ho⟩
  | _ => simp [tyK] at hk
def Leq (p q : PV) : Prop := ∀ K w v, RelV K w p v → RelV K w q v
theorem Leq.refl (p : PV) : Leq p p := fun _ _ _ h => h
def PV.norm0 : PV → PV
 | .own _ rows => .d (.sl rows)
 | .nils => .d (.sl [])
 | .full rows => .d (.sl rows)
 | p => p
def PV.norm1 : PV → PV
 | .agg ps => .agg (ps.map PV.norm0)
 | p => p.norm0
def PV.norm2 : PV → PV
 | .tup ps => .tup (ps.map PV.norm1)
 | p => p.norm1
theorem Qev (p : PV) : Leq p p.norm0 := by
 intro K w v h
 cases h with
 | own h => exact .d h
 | nils => exact .d (.nil (Nat.zero_le _))
 | full h => exact .d h
 | d h => exact .d h
 | u => exact .u
 | ptr h => exact .ptr h
 | eptr vals h1 h2 => exact .eptr vals h1 h2
 | agg h1 h2 => exact .agg h1 h2
 | tup h1 h2 => exact .tup h1 h2
 | fn h1 h2 h3 h4 => exact .fn h1 h2 h3 h4
 | mp h => exact .mp h
 | bsl h h1 h2 => exact .bsl h h1 h2
theorem Qgg (p : PV) : Leq p p.norm1 := by
  cases p with
  | agg ps =>
    intro K w v h
    cases h with
    | agg h1 h2 =>
      refine .agg (by simpa using h1) fun i p v hp hv => ?_
      rw [List.getElem?_map] at hp
      obtain ⟨q, hq, rfl⟩ := Option.map_eq_some_iff.1 hp
      exact Qev q _ _ _ (h2 i q v hq hv)
  | _ => exact Qev _
theorem leq_norm2 (p : PV) : Leq p p.norm2 := by
  cases p with
  | tup ps =>
    intro K w v h
    cases h with
    | tup h1 h2 =>
      refine .tup (by simpa using h1) fun i p v hp hv => ?_
      rw [List.getElem?_map] at hp
      obtain ⟨q, hq, rfl⟩ := Option.map_eq_some_iff.1 hp
      exact Qgg q _ _ _ (h2 i q v hq hv)
  | _ => exact Qgg _
theorem EntOk.refr {F F' : Fz} {K : Kp} {w : World} {e : Ent} (hb : ∀ b, e.block K = some b → ¬ F'.blk b) (hg : ∀ g, e.tid = some g → ¬ F'.id g) (h : EntOk F K w e) : EntOk F' K w e := by
  cases e with
  | box i T cs =>
    obtain ⟨b, arr, h1, h2, h3⟩ := h
    exact ⟨b, arr, h1, hb b h1, h3⟩
  | tok g E sz n =>
    obtain ⟨u, xs, h1, h2, h3, h4, h5⟩ := h
    exact ⟨u, xs, h1, hg g rfl, h3, h4, fun b hu => ⟨hb b (by simp [Ent.block, h1, hu]), (h5 b hu).2⟩⟩
  | obj i ok =>
    obtain ⟨b, o, h1, h2, h3⟩ := h
    exact ⟨b, o, h1, hb b h1, h3⟩
theorem EntOk.fr {F : Fz} {K : Kp} {w : World} {e : Ent} (h : EntOk F K w e) : (∀ b, e.block K = some b → ¬ F.blk b) ∧ (∀ g, e.tid = some g → ¬ F.id g) := by
  refine ⟨fun b hb => (h.lt hb).2, fun g hg => ?_⟩
  cases e with
  | box => cases hg
  | obj => cases hg
  | tok j E sz n =>
    simp only [Ent.tid, Option.some.injEq] at hg
    subst hg
    obtain ⟨u, xs, h1, h2, -⟩ := h
    exact h2
theorem PCalls.frame {P : Program} {f : FuncId} {args : List PV} {st0 : St} {R : PV → St → Prop} (h : PCalls P f args st0 R) (st1 : St) : PCalls P f args (st0 ++ st1) fun p s => ∃ s0, s = s0 ++ st1 ∧ R p s0 := by
  intro F K w vs h1 h2
  have hlt : ∀ e ∈ st1, ∀ b, e.block K = some b → b < w.heap.size := fun e he b hb => ((h1.ents e (List.mem_append_right _ he)).lt hb).1
  have hnb := h1.nb
  rw [List.filterMap_append, List.nodup_append] at hnb
  have hnt := h1.nt
  rw [List.filterMap_append, List.nodup_append] at hnt
  have hr0 : Rel ⟨fun b => F.blk b ∨ ∃ e ∈ st1, e.block K = some b, fun g => F.id g ∨ ∃ e ∈ st1, e.tid = some g⟩ st0 K w := by
    refine ⟨h1.kc, fun b hb => ?_, h1.fin, fun g hg => ?_, fun e he => ?_, hnb.1, hnt.1⟩
    · rcases hb with hb | ⟨e, he, hb⟩
      · exact h1.ff b hb
      · exact hlt e he b hb
    · rcases hg with hg | ⟨e, he, hg⟩
      · exact h1.fi g hg
      · have hok := h1.ents e (List.mem_append_right _ he)
        cases e with
        | box => cases hg
        | obj => cases hg
        | tok j E sz n =>
          simp only [Ent.tid, Option.some.injEq] at hg
          subst hg
          obtain ⟨u, xs, e1, -⟩ := hok
          rw [e1]; simp
    · have hok := h1.ents e (List.mem_append_left _ he)
      refine hok.refr (fun b hb hf => ?_) fun g hg hf => ?_
      · rcases hf with hf | ⟨e', he', hb'⟩
        · exact hok.fr.1 b hb hf
        · exact hnb.2.2 b (List.mem_filterMap.2 ⟨e, he, hb⟩) b (List.mem_filterMap.2 ⟨e', he', hb'⟩) rfl
      · rcases hf with hf | ⟨e', he', hg'⟩
        · exact hok.fr.2 g hg hf
        · exact hnt.2.2 g (List.mem_filterMap.2 ⟨e, he, hg⟩) g (List.mem_filterMap.2 ⟨e', he', hg'⟩) rfl
  refine (h _ K w vs hr0 h2).mono ?_
  rintro e w' ⟨v, K', p, s0, rfl, hx, hr, hv, hR⟩
  have hb1 : ∀ e ∈ st1, e.block K' = e.block K := fun e he => by
    have hok := h1.ents e (List.mem_append_right _ he)
    cases e with
    | box i T cs =>
      obtain ⟨b, arr, e1, -⟩ := hok
      simp only [Ent.block, e1]; exact hx.kb i b e1
    | tok g E sz n =>
      simp only [Ent.block]
      rw [hx.kf g (.inr ⟨_, he, rfl⟩)]
    | obj i ok =>
      obtain ⟨b, o, e1, -⟩ := hok
      simp only [Ent.block, e1]; exact hx.kb i b e1
  have hxF : Ext F K w K' w' := ⟨hx.os, hx.tape, hx.output, hx.size, fun b hb => hx.hp b (.inl hb), hx.kp, fun b o hc => (hx.nk b o hc).imp id fun h hf => h (.inl hf), hx.kb, hx.ko, fun g hg => hx.kf g (.inl hg)⟩
  refine ⟨v, K', p, s0 ++ st1, rfl, hxF, ⟨hr.kc, fun b hb => hr.ff b (.inl hb), hr.fin, fun g hg => hr.fi g (.inl hg), fun e he => ?_, ?_, ?_⟩, hv, s0, rfl, hR⟩
  · rcases List.mem_append.1 he with he | he
    · have hok := hr.ents e he
      exact hok.refr (fun b hb hf => hok.fr.1 b hb (.inl hf)) fun g hg hf => hok.fr.2 g hg (.inl hf)
    · have hok := h1.ents e (List.mem_append_right _ he)
      refine hok.keep hxF (fun b hb => hx.hp b (.inr ⟨e, he, hb⟩)) (fun b o hb hc => ?_) fun g hg => hx.kf g (.inr ⟨e, he, hg⟩)
      rcases hx.nk b o hc with h | h
      · exact h
      · exact absurd (.inr ⟨e, he, hb⟩) h
  · rw [List.filterMap_append, List.nodup_append, Qdu hb1]
    refine ⟨hr.nb, hnb.2.1, fun b hb b' hb' e => ?_⟩
    subst e
    obtain ⟨e0, he0, hb0⟩ := List.mem_filterMap.1 hb
    obtain ⟨e1, he1, hbb1⟩ := List.mem_filterMap.1 hb'
    exact (hr.ents e0 he0).fr.1 b hb0 (.inr ⟨e1, he1, hbb1⟩)
  · rw [List.filterMap_append, List.nodup_append]
    refine ⟨hr.nt, hnt.2.1, fun b hb b' hb' e => ?_⟩
    subst e
    obtain ⟨e0, he0, hb0⟩ := List.mem_filterMap.1 hb
    obtain ⟨e1, he1, hbb1⟩ := List.mem_filterMap.1 hb'
    exact (hr.ents e0 he0).fr.2 b hb0 (.inr ⟨e1, he1, hbb1⟩)
theorem PCalls.perm {P : Program} {f : FuncId} {args : List PV} {st st' : St} {R : PV → St → Prop} (h : PCalls P f args st R) (hp : st'.Perm st) : PCalls P f args st' R :=
 fun F K w vs h1 h2 => h F K w vs (h1.perm hp) h2
theorem PCalls.args {P : Program} {f : FuncId} {args args' : List PV} {st : St} {R : PV → St → Prop} (h : PCalls P f args' st R) (hl : args.length = args'.length) (ha : ∀ (i : Nat) (p q : PV), args[i]? = some p → args'[i]? = some q → Leq p q) : PCalls P f args st R :=
 fun F K w vs h1 h2 => h F K w vs h1 ⟨h2.1.trans hl, fun i q v hq hv => by
  have hi := (List.getElem?_eq_some_iff.1 hq).1
  have hp : args[i]? = some args[i] := List.getElem?_eq_getElem (by omega)
  exact ha i _ q hp hq _ _ _ (h2.2 i _ v hp hv)⟩
theorem PCalls.args_norm {P : Program} {f : FuncId} {args : List PV} {st : St} {R : PV → St → Prop} (h : PCalls P f (args.map PV.norm1) st R) : PCalls P f args st R :=
 h.args (by simp) fun i p q hp hq => by
  rw [List.getElem?_map, hp] at hq
  obtain rfl := Option.some.inj hq
  exact Qgg p
def resP (P : Program) (fr : PF) (st : St) : List ResultVar → Option (List PV)
  | [] => some []
  | .tmp t :: r => match fr.get t, resP P fr st r with
    | some p, some l => some (p :: l)
    | _, _ => none
  | .cell a t :: r => match fr.get a, tyOf P t, resP P fr st r with
    | some (.ptr i off), some T, some l => match st.box? i with
      | some (_, cs) => match Jn T (cs.drop off) with
        | some p => some (p :: l)
        | none => none
      | none => none
    | _, _, _ => none
def tupP : List PV → PV
 | [p] => p
 | l => .tup l
def retP (P : Program) (fn : Func) (R : PV → St → Prop) : Exit → PF → St → Prop := fun e fr st =>
 (e = .normal ∨ e = .ret) ∧ ∃ l q st', resP P fr st fn.results.toList = some l ∧ Leq (tupP l) q ∧ st'.Sublist st ∧ R q st'
theorem Qgu {P : Program} {t : TypeId} {T : Ty} (hT : tyOf P t = some T) {F : Fz} {K : Kp} {w : World} {st : St} (h1 : Rel F st K w) {i off : Nat} {U : TypeId} {cs : List PV} (hb : st.box? i = some (U, cs)) {p : PV} (hl : Jn T (cs.drop off) = some p) {v : Value} (hv : RelV K w (.ptr i off) v) :
    ∃ u ad, v = .pointer (some ad) ∧ (loadVar t ad).run P w = .ok u w ∧ RelV K w p u := by
  have hn := Qen (P := P) (o := ⟨none, .load t (.tmp 0), 0, "", #[], none⟩) (ρ := fun x => match x with | .tmp 0 => some (.ptr i off) | _ => none) (p := p) (st := st) (by simp [nevB, hT, hb, hl])
  cases hv with
  | @ptr _ _ b hk =>
  obtain ⟨l, r, rfl, -⟩ := St.box?_split hb
  obtain ⟨b', arr, hk', hF, hh, hs, hc, hn'⟩ := h1.ents (.box i U cs) (by simp)
  rw [hk] at hk'
  obtain rfl := Option.some.inj hk'
  obtain ⟨d, hd, rfl⟩ := Qal hT
  have goal : ∃ u, (loadVar t ⟨b, off, none⟩).run P w = .ok u w ∧ RelV K w p u := by
    simp only [loadVar, Sem.run_bind, Qey hd, Result.andThen_ok]
    unfold Jn at hl
    simp only [tyK_agg] at hl
    cases hag : Qed d with
    | true =>
      rw [hag] at hl
      simp only [if_true] at hl ⊢
      split at hl
      · rename_i hle
        obtain rfl := Option.some.inj hl
        have hlen : off + P.cellsOf t ≤ arr.size ∨ P.cellsOf t = 0 := by
          rw [List.length_drop] at hle; omega
        have hlc := run_loadCells (P := P) w ⟨b, off, none⟩ (P.cellsOf t) (fun j => arr.getD (off + j) undef) fun j hj => by
          rw [Qcf, Qbi hh, Array.getD_eq_getD_getElem?, Array.getElem?_eq_getElem (by omega)]; rfl
        simp only [Sem.run_bind, Qdn hd, Result.andThen_ok, hlc, Sem.run_pure]
        refine ⟨_, rfl, .agg (by simp; rw [List.length_drop] at hle; omega) fun j q u hq hu => ?_⟩
        rw [List.getElem?_take] at hq
        split at hq
        · rename_i hj
          rw [List.getElem?_drop] at hq
          simp only [List.getElem?_toArray, List.getElem?_map, List.getElem?_range hj, Option.map_some, Option.some.injEq] at hu
          refine hc _ q u hq ?_
          rw [← hu, Array.getD_eq_getD_getElem?, Array.getElem?_eq_getElem (by omega)]; rfl
        · cases hq
      · cases hl
    | false =>
      rw [hag] at hl
      simp only [Bool.false_eq_true, if_false] at hl ⊢
      cases hcs : cs.drop off with
      | nil => rw [hcs] at hl; cases hl
      | cons c cr =>
        rw [hcs] at hl
        obtain rfl := Option.some.inj hl
        have h0 : cs[off]? = some c := by
          have := congrArg (·[0]?) hcs
          simpa using this
        have hlt := (List.getElem?_eq_some_iff.1 h0).1
        have hg : arr[off]? = some arr[off] := Array.getElem?_eq_getElem (by omega)
        have hce : w.cell? ⟨b, off, none⟩ = some arr[off] := by rw [Qbi hh, hg]
        simp only [run_load, hce]
        exact ⟨_, rfl, hc off c _ h0 hg⟩
  obtain ⟨u, h3, h4⟩ := goal
  exact ⟨u, _, rfl, h3, h4⟩
theorem resP_run {P : Program} {n : Nat} {fr : PF} {st : St} {F : Fz} {K : Kp} {w : World} {a : Act} (h1 : Rel F st K w) (h2 : FR n fr K w a) : ∀ {rs : List ResultVar} {l : List PV}, resP P fr st rs = some l →
    ∃ vs : List Value, (rs.mapM (m := Sem) fun | .tmp t => Pure.pure (a.tmps.getD t undef) | .cell b t => do loadVar t (← asAddr (a.tmps.getD b undef))).run P w = .ok vs w ∧ vs.length = l.length ∧ ∀ (i : Nat) (p : PV) (v : Value), l[i]? = some p → vs[i]? = some v → RelV K w p v := by
  intro rs
  induction rs with
  | nil => intro l h; simp only [resP, Option.some.injEq] at h; subst h; exact ⟨[], rfl, rfl, by simp⟩
  | cons x r ih =>
    intro l h
    have fin : ∀ (p : PV) (l' : List PV) (u : Value), resP P fr st r = some l' → RelV K w p u → l = p :: l' → (∀ g : ResultVar → Sem Value, (g x).run P w = .ok u w → True) → True := fun _ _ _ _ _ _ _ => trivial
    cases x with
    | tmp t =>
      simp only [resP] at h
      split at h
      · rename_i p l' hp hl
        obtain rfl := Option.some.inj h
        obtain ⟨vs, e1, e2, e3⟩ := ih hl
        refine ⟨a.tmps.getD t undef :: vs, ?_, by simp [e2], fun i q v hq hv => ?_⟩
        · rw [List.mapM_cons]
          simp only [Sem.run_bind, Sem.run_pure, Result.andThen_ok, e1]
        · cases i with
          | zero =>
            have e4 := Option.some.inj hq
            have e5 := Option.some.inj hv
            subst e4; subst e5; exact h2.at_ t _ hp
          | succ i => simp at hq hv; exact e3 i q v hq hv
      · cases h
    | cell b t =>
      simp only [resP] at h
      split at h
      · rename_i i off T l' hp hT hl
        split at h
        · rename_i U cs hb
          split at h
          · rename_i p hld
            obtain rfl := Option.some.inj h
            obtain ⟨vs, e1, e2, e3⟩ := ih hl
            obtain ⟨u, ad, hu1, hu2, hu3⟩ := Qgu (P := P) hT h1 hb hld (h2.at_ b _ hp)
            refine ⟨u :: vs, ?_, by simp [e2], fun i q v hq hv => ?_⟩
            · rw [List.mapM_cons]
              have hasa : (asAddr (.pointer (some ad))).run P w = .ok ad w := rfl
              rw [Sem.run_bind]
              simp only [hu1]
              rw [Sem.run_bind, hasa, Result.andThen_ok, hu2, Result.andThen_ok, Sem.run_bind, e1]
              rfl
            · cases i with
              | zero => simp at hq hv; subst hq; subst hv; exact hu3
              | succ i => simp at hq hv; exact e3 i q v hq hv
          · cases h
        · cases h
      · cases h
def argsF : Nat → List PV → PF
 | _, [] => []
 | k, p :: r => (k, p) :: argsF (k + 1) r
theorem argsF_get : ∀ (l : List PV) (k t : Nat) (p : PV), (argsF k l).get t = some p → ∃ i, t = k + i ∧ l[i]? = some p := by
  intro l
  induction l with
  | nil => intro k t p h; cases h
  | cons q r ih =>
    intro k t p h
    simp only [argsF, PF.get] at h
    split at h
    · rename_i e; exact ⟨0, by omega, by simpa using h⟩
    · obtain ⟨i, hi, hp⟩ := ih (k + 1) t p h
      exact ⟨i + 1, by omega, by simpa using hp⟩
theorem PCalls.enter {P : Program} {f : FuncId} {fn : Func} {c : Code} {args : List PV} {st : St} {R : PV → St → Prop} {n : Nat} (hf : P.funcs[f]? = some fn) (hb : fn.body = some c) (hn : fn.ntmps = n) (ha : args.length ≤ n) (h : PW P n c (retP P fn R) (argsF 0 args) st) : PCalls P f args st R := by
  intro F K w vs h1 h2
  refine calls_of_wp hf hb ?_
  have hfr : FR n (argsF 0 args) K w { tmps := vs ++ Array.replicate (fn.ntmps - vs.size) undef, defers := [] } := by
    refine ⟨by simp; have := h2.1; omega, rfl, fun t p hp => ?_⟩
    obtain ⟨i, hi, hp⟩ := argsF_get args 0 t p hp
    rw [Nat.zero_add] at hi
    subst hi
    have hlt := (List.getElem?_eq_some_iff.1 hp).1
    have hsz := h2.1
    have hv : vs[t]? = some vs[t] := Array.getElem?_eq_getElem (by omega)
    have := h2.2 t p _ hp hv
    simp only [Array.getD_eq_getD_getElem?]
    rw [Array.getElem?_append_left (by omega), hv]
    exact this
  refine wp_mono (h F K w _ h1 hfr) ?_
  rintro e a' w' ⟨K', fr', st', hx, hr, hf', he, l, q, s, hl, hle, hs, hR⟩
  obtain ⟨us, e1, e2, e3⟩ := resP_run hr hf' hl
  have key : ∃ v, (results fn a'.tmps).run P w' = .ok v w' ∧ RelV K' w' q v := by
    refine ⟨if h : us.toArray.size = 1 then us.toArray[0] else .tuple us.toArray, ?_, ?_⟩
    · unfold results
      rw [Array.mapM_eq_mapM_toList, Sem.run_bind, Sem.run_map]
      exact (congrArg (fun r : Result (List Value) => (r.andThen fun a w' => Result.ok a.toArray w').andThen fun a w' => Sem.run P (Pure.pure (if h : a.size = 1 then a[0] else Value.tuple a) : Sem Value) w') e1)
    · apply hle
      match l, us, e2, e3 with
      | [p], [u], _, e3 => exact e3 0 p u rfl rfl
      | [], [], _, _ => exact .tup rfl fun i p v hp _ => by simp at hp
      | p :: p2 :: r, u :: u2 :: us, e2, e3 =>
        rw [dif_neg (by simp)]
        exact .tup (by simpa using e2) fun i p v hp hv => e3 i p v hp (by simpa using hv)
  obtain ⟨v, hv1, hv2⟩ := key
  rcases he with rfl | rfl
  · exact ⟨hf'.defers, v, hv1, v, K', q, s, rfl, hx, hr.sub hs, hv2, hR⟩
  · exact ⟨hf'.defers, v, hv1, v, K', q, s, rfl, hx, hr.sub hs, hv2, hR⟩
def Jo (ρ : Operand → Option PV) : List Operand → Option (List PV)
  | [] => some []
  | x :: r => match ρ x, Jo ρ r with
    | some p, some l => some (p :: l)
    | _, _ => none
theorem evalArgs_rel {K : Kp} {w : World} {ρ : Operand → Option PV} {ev : Operand → Value} : ∀ {xs : List Operand} {ps : List PV}, (∀ x ∈ xs, ∀ p, ρ x = some p → RelV K w p (ev x)) → Jo ρ xs = some ps → xs.length = ps.length ∧ ∀ (i : Nat) (p : PV) (v : Value), ps[i]? = some p → (xs.map ev)[i]? = some v → RelV K w p v := by
  intro xs
  induction xs with
  | nil => intro ps _ h; simp only [Jo, Option.some.injEq] at h; subst h; simp
  | cons x r ih =>
    intro ps hx h
    simp only [Jo] at h
    split at h
    · rename_i p l hp hl
      obtain rfl := Option.some.inj h
      obtain ⟨h1, h2⟩ := ih (fun y hy => hx y (by simp [hy])) hl
      refine ⟨by simp [h1], fun i q v hq hv => ?_⟩
      cases i with
      | zero =>
        have e1 := Option.some.inj hq
        have e2 := Option.some.inj hv
        subst e1; subst e2
        exact hx x (by simp) _ hp
      | succ i => exact h2 i q v (by simpa using hq) (by simpa using hv)
    · cases h
def Qau (P : Program) (f : FuncId) : Bool :=
 match P.funcs[f]? with
 | some fn => !(fn.name == "runtime.NumGoroutine") && fn.body.isSome
 | none => false
theorem run_callFunc {P : Program} {f : FuncId} (h : Qau P f = true) (args : Array Value) (w : World) : (callFunc f args).run P w = .ok (.enter f args) w := by
  unfold Qau at h
  cases hf : P.funcs[f]? with
  | none => rw [hf] at h; cases h
  | some fn =>
    rw [hf] at h
    simp only [Bool.and_eq_true, Bool.not_eq_true'] at h
    obtain ⟨h1, h2⟩ := h
    have h3 : fn.body.isNone = false := by cases hb : fn.body <;> simp_all
    simp only [callFunc, Sem.run_bind, run_program, Result.andThen_ok, hf, h1, h3, Bool.false_eq_true, if_false, Sem.run_pure]
theorem POp_call {P : Program} {o : Oper} {ρ : Operand → Option PV} {st st0 st1 : St} {R R0 : PV → St → Prop} {fo : Operand} {xs : Array Operand} {ts : Array TypeId} (ho : o.op = .call { callee := .value fo, args := xs, argTypes := ts }) {f : FuncId} {first cap ps : List PV} (hfo : ρ fo = some (.fn (.func f) first cap)) (hxs : Jo ρ xs.toList = some ps) (hca : Qau P f = true)
  (hst : st.Perm (st0 ++ st1)) (hc : PCalls P f (first ++ ps ++ cap) st0 R0) (h : ∀ p s0, R0 p s0 → R p (s0 ++ st1)) : POp P o ρ st R := by
 intro F K w a next Q h1 h2 h3
 obtain ⟨dst, op, ty, pos, after, guard⟩ := o
 simp only at ho h2 h3 ⊢
 subst ho
 have hv := h2 fo (by simp [Op.operands, Call.operands]) _ hfo
 generalize hva : a.eval fo = va at hv
 cases hv with
 | @fn _ _ _ vs us g1 g2 g3 g4 =>
 obtain ⟨g5, g6⟩ := evalArgs_rel (ev := a.eval) (fun x hx p hp => h2 x (by simp only [Op.operands, Call.operands]; exact Array.mem_append.2 (.inr (by simpa using hx))) p hp) hxs
 have hrun : (execOp a.eval { dst, op := .call { callee := .value fo, args := xs, argTypes := ts }, type := ty, pos, after, guard }).run P w = .ok (.enter f (vs ++ xs.map a.eval ++ us)) w := by
  simp only [execOp, resolve, hva, Deferred.ofValue, invoke, Sem.run_bind, Sem.run_pure, Result.andThen_ok, run_callFunc hca]
 unfold Oper.wp
 rw [hrun, Oper.upon_enter]
 have hrel : RelVs K w (first ++ ps ++ cap) (vs ++ xs.map a.eval ++ us) := by
  have hsz : (xs.map a.eval).size = ps.length := by simpa using g5
  refine ⟨by simp only [Array.size_append, List.length_append]; omega, fun i p v hp hv => ?_⟩
  rw [List.append_assoc, List.getElem?_append] at hp
  rw [Array.append_assoc, Array.getElem?_append] at hv
  split at hp
  ·rename_i hi
   rw [if_pos (by omega)] at hv
   exact g3 i p v hp hv
  ·rename_i hi
   rw [if_neg (by omega)] at hv
   rw [List.getElem?_append] at hp
   rw [Array.getElem?_append] at hv
   split at hp
   ·rename_i hj
    rw [if_pos (by omega)] at hv
    refine g6 _ p v hp ?_
    rw [g1] at hv
    simpa using hv
   ·rename_i hj
    rw [if_neg (by omega)] at hv
    rw [g1, hsz] at hv
    exact g4 _ p v hp hv
 refine ((hc.frame st1).perm hst F K w _ h1 hrel).mono ?_
 rintro e w' ⟨v, K', p, st', rfl, hx, hr, hv, s0, rfl, hR⟩
 exact h3 K' w' p _ v hx hr hv (h p s0 hR)
theorem Qet {P : Program} {o : Oper} {ρ : Operand → Option PV} {fo : Operand} {xs : Array Operand} {ts : Array TypeId} (ho : o.op = .call { callee := .value fo, args := xs, argTypes := ts }) {f : FuncId} {ps : List PV} (hfo : fo = .func f) (hρ : ρ fo = some (.fn (.func f) [] [])) (hxs : Jo ρ xs.toList = some ps) (hca : Qau P f = true)
  {r : PV} {qs : List PV} (hn : ps.map PV.norm1 = qs) (hc : PCalls P f qs [] fun p s => p = r ∧ s = []) (st : St) : POp P o ρ st fun q s => q = r ∧ s = st := by
 refine POp_call (st0 := []) (st1 := st) ho (first := []) (cap := []) hρ hxs hca (List.Perm.refl _) (R0 := fun p s => p = r ∧ s = []) ?_ ?_
 ·simp only [List.nil_append, List.append_nil]
  subst hn
  exact hc.args_norm
 ·rintro p s0 ⟨rfl, rfl⟩
  exact ⟨rfl, rfl⟩
section
variable {P : Program} {n : Nat} {Q : Exit → PF → St → Prop} {fr : PF} {st : St}
theorem PW_own {c : Code} (t : Nat) (E : TypeId) (sz : Nat) (hsz : 0 < sz) (ht : fr.get t = some .nils) (h : ∀ g, St.freshT st g → PW P n c Q ((t, .own g []) :: fr) (.tok g E sz 0 :: st)) : PW P n c Q fr st := by
 intro F K w a hr hf
 obtain ⟨g, hg, hfr, hx, hr2⟩ := hr.newTok (u := .slice none 0 0) (E := E) (sz := sz) (n := 0) (xs := []) (World.ownsRow_nil w 0 E sz) rfl fun b hb => by cases hb
 have hf2 := hf.mono hx
 have h0 := hf2.at_ t _ ht
 have hf3 : FR n ((t, .own g []) :: fr) (K.setOwn g (.slice none 0 0)) w a := by
  refine ⟨hf2.size, hf2.defers, fun t' p hp => ?_⟩
  simp only [PF.get] at hp
  split at hp
  ·rename_i e
   subst e
   obtain rfl := Option.some.inj hp
   generalize a.tmps.getD t undef = v at h0
   cases h0
   exact .own (.nil (Nat.zero_le _)) (by simp [Kp.setOwn]) (Nat.zero_le _) fun _ => rfl
  ·exact hf2.at_ t' p hp
 exact wp_mono (h g hfr F _ w a hr2 hf3) fun _ _ _ ⟨K', fr', st', b1, b2, b3, b4⟩ => ⟨K', fr', st', hx.trans b1, b2, b3, b4⟩
theorem PW_ownBox {c : Code} (i j : Nat) {U : TypeId} {cs : List PV} (E : TypeId) (sz : Nat) (hsz : 0 < sz) (hb : st.box? i = some (U, cs)) (hj : cs[j]? = some .nils) (h : ∀ g, St.freshT st g → PW P n c Q fr (.tok g E sz 0 :: st.setBox i (cs.set j (.own g [])))) : PW P n c Q fr st := by
 intro F K w a hr hf
 obtain ⟨g, hg, hfr, hx, hr2⟩ := hr.newTok (u := .slice none 0 0) (E := E) (sz := sz) (n := 0) (xs := []) (World.ownsRow_nil w 0 E sz) rfl fun b hb => by cases hb
 obtain ⟨l, r, rfl, hset⟩ := St.box?_split hb
 obtain ⟨b, arr, e1, e2, e3, e4, e5, e6⟩ := hr2.ents (.box i U cs) (by simp)
 have hr3 : Rel F ((.tok g E sz 0 :: l) ++ .box i U cs :: r) (K.setOwn g (.slice none 0 0)) w := hr2
 obtain ⟨hx4, hr4⟩ := hr3.setBox (w' := w) (ds := cs.set j (.own g [])) e1 rfl rfl rfl rfl e3 (fun _ _ => rfl) (by simp [e4]) fun k p v hp hv => by
  rw [List.getElem?_set] at hp
  split at hp
  ·rename_i e
   subst e
   split at hp
   ·obtain rfl := Option.some.inj hp
    have h0 := e5 j _ v hj hv
    cases h0
    exact .own (.nil (Nat.zero_le _)) (by simp [Kp.setOwn]) (Nat.zero_le _) fun _ => rfl
   ·cases hp
  ·exact e5 k p v hp hv
 have := h g hfr F _ w a (by rw [hset]; exact hr4) ((hf.mono hx).mono hx4)
 exact wp_mono this fun _ _ _ ⟨K', fr', st', b1, b2, b3, b4⟩ => ⟨K', fr', st', (hx.trans hx4).trans b1, b2, b3, b4⟩
theorem Qcu {c : Code} {t : Nat} {p : PV} {rows : List (List D)} (ht : fr.get t = some p) (hp : p.rows = some rows) (h : rows.length ≤ maxLen → PW P n c Q fr st) : PW P n c Q fr st := by
 intro F K w a hr hf
 obtain ⟨a', cap, hv, h1, h2⟩ := Qei (Qcl hp (hf.at_ t p ht))
 exact h (by omega) F K w a hr hf
end
inductive Kd where
 | a | b | e
 deriving DecidableEq
abbrev G := Nat → Option PV
def gput (g : G) : Option Tmp → PV → G
 | some d, p => fun t => if d = t then some p else g t
 | none, _ => g
def Qbd (g : G) : Operand → Option PV
 | .tmp t => g t
 | .const v => some (cPV v)
 | .func f => some (.fn (.func f) [] [])
 | .global _ => none
theorem Qcg (fr : PF) : Qbd fr.get = fr.eval := by
 funext x; cases x <;> rfl
theorem gput_get (fr : PF) (d : Option Tmp) (p : PV) : (fr.put d p).get = gput fr.get d p := by
 cases d with
 | none => rfl
 | some d => funext t; simp [PF.put, PF.get, gput]
def Qbo (g : G) (ops : Array Oper) (o : Oper) : Option Bool :=
  match o.guard with
  | none => some true
  | some (j, want) =>
    match (ops[j]?).bind (·.dst) with
    | none => some false
    | some t =>
      match g t with
      | some (.d (.v (.bool b))) => some (b == want)
      | some (.tup _) => some false
      | _ => none
theorem Qap (fr : PF) (ops : Array Oper) (o : Oper) : Qbo fr.get ops o = fr.wants ops o := rfl
theorem POp.congr {P : Program} {o : Oper} {ρ ρ' : Operand → Option PV} {st : St} {R : PV → St → Prop} (h : POp P o ρ st R) (he : ∀ x ∈ o.op.operands, ρ x = ρ' x) : POp P o ρ' st R :=
 fun F K w a next Q h1 h2 h3 => h F K w a next Q h1 (fun x hx p hp => h2 x hx p (by rw [← he x hx]; exact hp)) h3
theorem Qba {ops : Array Oper} {o : Oper} {g : G} {dst : Option Tmp} {p : PV} (h : ∀ d, dst = some d → d ∉ o.looksAt ops) : ∀ x ∈ o.op.operands, Qbd (gput g dst p) x = Qbd g x := by
  intro x hx
  cases dst with
  | none => rfl
  | some d =>
    cases x with
    | tmp t =>
      have hne : d ≠ t := fun e => h d rfl (by subst e; exact List.mem_append_left _ (List.mem_filterMap.2 ⟨.tmp d, by simpa using hx, rfl⟩))
      simp [Qbd, gput, hne]
    | _ => rfl
theorem Qdi {ops : Array Oper} {o : Oper} {g : G} {dst : Option Tmp} {p : PV} (h : ∀ d, dst = some d → d ∉ o.looksAt ops) : Qbo (gput g dst p) ops o = Qbo g ops o := by
  cases dst with
  | none => rfl
  | some d =>
    unfold Qbo
    cases hg : o.guard with
    | none => rfl
    | some q =>
      obtain ⟨j, want⟩ := q
      simp only
      cases ht : (ops[j]?).bind (·.dst) with
      | none => rfl
      | some t =>
        have hne : d ≠ t := fun e => h d rfl (by subst e; refine List.mem_append_right _ ?_; simp [hg, ht])
        simp [gput, hne]
theorem Qbm (g : G) {x y : Option Tmp} (p q : PV) (h : ∀ d, x = some d → y ≠ some d) : gput (gput g x p) y q = gput (gput g y q) x p := by
  cases x with
  | none => cases y <;> rfl
  | some d =>
    cases y with
    | none => rfl
    | some e =>
      have hne : d ≠ e := fun he => h d rfl (he ▸ rfl)
      funext t
      simp only [gput]
      by_cases h1 : e = t
      · subst h1; simp [hne]
      · simp [h1]
structure FG (n : Nat) (g : G) (K : Kp) (w : World) (a : Act) : Prop where
 size : a.tmps.size = n
 defers : a.defers = []
 at_ : ∀ t p, g t = some p → RelV K w p (a.tmps.getD t undef)
theorem FG.fr {n : Nat} {fr : PF} {K : Kp} {w : World} {a : Act} (h : FG n fr.get K w a) : FR n fr K w a := ⟨h.size, h.defers, h.at_⟩
theorem FR.fg {n : Nat} {fr : PF} {K : Kp} {w : World} {a : Act} (h : FR n fr K w a) : FG n fr.get K w a := ⟨h.size, h.defers, h.at_⟩
theorem FG.eval {n : Nat} {g : G} {K : Kp} {w : World} {a : Act} (h : FG n g K w a) (x : Operand) (p : PV) (hp : Qbd g x = some p) : RelV K w p (a.eval x) := by
  cases x with
  | tmp t => exact h.at_ t p hp
  | const v => simp only [Qbd, Option.some.injEq] at hp; subst hp; exact cPV_ok K w v
  | global g => simp [Qbd] at hp
  | func f =>
    simp only [Qbd, Option.some.injEq] at hp; subst hp
    exact .fn rfl rfl (fun i p v hp _ => by simp at hp) (fun i p v hp _ => by simp at hp)
theorem FG.mono {n : Nat} {g : G} {F : Fz} {K K' : Kp} {w w' : World} {a : Act} (h : FG n g K w a) (hx : Ext F K w K' w') : FG n g K' w' a := ⟨h.size, h.defers, fun t p hp => (h.at_ t p hp).mono hx⟩
theorem FG.put {n : Nat} {g : G} {K : Kp} {w : World} {a : Act} (h : FG n g K w a) {dst : Option Tmp} (hd : ∀ d, dst = some d → d < n) {p : PV} {v : Value} (hv : RelV K w p v) : FG n (gput g dst p) K w (a.put dst v) := by
  cases dst with
  | none => exact h
  | some d =>
    have hlt := hd d rfl
    refine ⟨by simp [Act.put, h.size], h.defers, fun t q hq => ?_⟩
    simp only [gput] at hq
    simp only [Act.put]
    split at hq
    · rename_i e
      subst e
      obtain rfl := Option.some.inj hq
      have := h.size
      simp only [Array.getD_eq_getD_getElem?]
      rw [Array.getElem?_setIfInBounds_self_of_lt (this.symm ▸ hlt)]
      exact hv
    · rename_i e
      have := h.at_ t q hq
      simp only [Array.getD_eq_getD_getElem?] at this ⊢
      rw [Array.getElem?_setIfInBounds_ne e]
      exact this
section
variable {P : Program} {ops : Array Oper} {n : Nat} {kd : Nat → Kd} {md : Region.Mode}
def gOp (P : Program) (ops : Array Oper) (n : Nat) (kd : Nat → Kd) (i : Nat) (K : G → St → Prop) (g : G) (st : St) : Prop :=
  match ops[i]? with
  | none => K g st
  | some o => (∀ d, o.dst = some d → d < n) ∧
    ((Qbo g ops o = some false ∧ K (gput g o.dst (.tup [])) st) ∨
     (Qbo g ops o = some true ∧
      match kd i with
      | .a => ∃ p, (∀ s, POp P o (Qbd g) s fun q s' => q = p ∧ s' = s) ∧ K (gput g o.dst p) st
      | .b => ∃ p, (POp P o (Qbd g) st fun q s' => q = p ∧ s' = st) ∧ K (gput g o.dst p) st
      | .e => POp P o (Qbd g) st fun p s' => K (gput g o.dst p) s'))
theorem gOp_mono {i : Nat} {K K' : G → St → Prop} {g : G} {st : St} (h : ∀ g s, K g s → K' g s) (hh : gOp P ops n kd i K g st) : gOp P ops n kd i K' g st := by
 unfold gOp at *
 split
 ·rename_i ho; rw [ho] at hh; exact h _ _ hh
 ·rename_i o ho
  rw [ho] at hh
  obtain ⟨hd, hh⟩ := hh
  refine ⟨hd, ?_⟩
  rcases hh with ⟨h1, h2⟩ | ⟨h1, h2⟩
  ·exact .inl ⟨h1, h _ _ h2⟩
  ·refine .inr ⟨h1, ?_⟩
   cases hk : kd i with
   | a => rw [hk] at h2; obtain ⟨p, h3, h4⟩ := h2; exact ⟨p, h3, h _ _ h4⟩
   | b => rw [hk] at h2; obtain ⟨p, h3, h4⟩ := h2; exact ⟨p, h3, h _ _ h4⟩
   | e => rw [hk] at h2; exact h2.mono fun p s hs => h _ _ hs
def gAny (P : Program) (md : Region.Mode) (ops : Array Oper) (n : Nat) (kd : Nat → Kd) (Q : G → St → Prop) : Nat → Array Bool → G → St → Prop
  | 0, listed, g, st => Region.ready md ops listed = [] ∧ Q g st
  | fuel + 1, listed, g, st =>
    (Region.ready md ops listed = [] → Q g st) ∧ ∀ i ∈ Region.ready md ops listed, gOp P ops n kd i (gAny P md ops n kd Q fuel (listed.setIfInBounds i true)) g st
theorem Qdt {g : G} {K : Kp} {w : World} {a : Act} (h : FG n g K w a) {o : Oper} {b : Bool} (hw : Qbo g ops o = some b) : Region.wanted o (yielded ops a.tmps) = b := by
  unfold Qbo at hw
  unfold Region.wanted
  cases hg : o.guard with
  | none => rw [hg] at hw; simpa using hw
  | some q =>
    obtain ⟨j, want⟩ := q
    rw [hg] at hw
    simp only at hw ⊢
    unfold yielded
    cases ht : (ops[j]?).bind (·.dst) with
    | none => rw [ht] at hw; simp at hw; subst hw; simp
    | some t =>
      rw [ht] at hw
      simp only at hw
      split at hw
      · rename_i c hgt
        have h1 := h.at_ t _ hgt
        obtain ⟨hv, -⟩ := h1.flat
        rw [Array.getD_eq_getD_getElem?] at hv
        simp only [Option.bind_some]
        cases hc : a.tmps[t]? with
        | none => rw [hc] at hv; cases hv
        | some u =>
          rw [hc] at hv
          simp only [Option.getD_some] at hv
          subst hv
          simp only [Option.some.injEq] at hw
          rw [← hw]; cases c <;> cases want <;> rfl
      · rename_i vs hgt
        have h1 := h.at_ t _ hgt
        generalize hv : a.tmps.getD t undef = v at h1
        cases h1 with
        | tup h1 h2 =>
          simp only [Option.some.injEq] at hw
          subst hw
          rw [Array.getD_eq_getD_getElem?] at hv
          simp only [Option.bind_some]
          cases hc : a.tmps[t]? with
          | none => simp
          | some u => rw [hc] at hv; simp at hv; subst hv; simp
      · cases hw
theorem wpAny_gAny {Q : G → St → Prop} {Q' : Exit → Act → World → Prop} {F : Fz} {K0 : Kp} {w0 : World} (hQ : ∀ K w a g st, Ext F K0 w0 K w → Rel F st K w → FG n g K w a → Q g st → Q' .normal a w) :
    ∀ (fuel : Nat) (listed : Array Bool) (g : G) (st : St) (K : Kp) (w : World) (a : Act), Ext F K0 w0 K w → Rel F st K w → FG n g K w a → gAny P md ops n kd Q fuel listed g st → wpAny P md ops Q' fuel listed a w := by
  intro fuel
  induction fuel with
  | zero => intro listed g st K w a hx hr hf h; exact ⟨h.1, hQ K w a g st hx hr hf h.2⟩
  | succ fuel ih =>
    intro listed g st K w a hx hr hf h
    refine ⟨fun h0 => hQ K w a g st hx hr hf (h.1 h0), fun i hi => ?_⟩
    have hop := h.2 i hi
    unfold gOp at hop
    unfold wpOp
    split
    · rename_i ho
      rw [ho] at hop
      exact ih _ g st K w a hx hr hf hop
    · rename_i o ho
      rw [ho] at hop
      obtain ⟨hd, hop⟩ := hop
      rcases hop with ⟨h1, h2⟩ | ⟨h1, h2⟩
      · rw [Qdt hf h1]
        exact ih _ _ st K w _ hx hr (hf.put hd (.tup rfl fun i p v hp _ => by simp at hp)) h2
      · rw [Qdt hf h1]
        simp only [if_true]
        refine .inl ?_
        have hgen : POp P o (Qbd g) st fun p s' => gAny P md ops n kd Q fuel (listed.setIfInBounds i true) (gput g o.dst p) s' := by
          cases hk : kd i with
          | a =>
            rw [hk] at h2; obtain ⟨p, h3, h4⟩ := h2
            exact (h3 st).mono fun q s ⟨e1, e2⟩ => by subst e1; subst e2; exact h4
          | b =>
            rw [hk] at h2; obtain ⟨p, h3, h4⟩ := h2
            exact h3.mono fun q s ⟨e1, e2⟩ => by subst e1; subst e2; exact h4
          | e => rw [hk] at h2; exact h2
        exact hgen F K w a _ _ hr (fun x _ p hp => hf.eval x p hp) fun K' w' p st' v b1 b2 b3 b4 => ih _ _ st' K' w' _ (hx.trans b1) b2 ((hf.mono b1).put hd b3) b4
def gYields (P : Program) (ops : Array Oper) (n : Nat) (k : Kd) (o : Oper) (p : PV) (g : G) (st : St) : Prop :=
  (∀ d, o.dst = some d → d < n) ∧
  ((Qbo g ops o = some false ∧ p = .tup []) ∨
   (Qbo g ops o = some true ∧
    match k with
    | .a => ∀ s, POp P o (Qbd g) s fun q s' => q = p ∧ s' = s
    | .b => POp P o (Qbd g) st fun q s' => q = p ∧ s' = st
    | .e => False))
theorem gYields.op {i : Nat} {o : Oper} {p : PV} {g : G} {st : St} (hi : ops[i]? = some o) (hy : gYields P ops n (kd i) o p g st) {K : G → St → Prop} (h : K (gput g o.dst p) st) : gOp P ops n kd i K g st := by
 unfold gOp
 rw [hi]
 obtain ⟨hd, hy⟩ := hy
 refine ⟨hd, ?_⟩
 rcases hy with ⟨h1, rfl⟩ | ⟨h1, h2⟩
 ·exact .inl ⟨h1, h⟩
 ·refine .inr ⟨h1, ?_⟩
  cases hk : kd i with
  | a => rw [hk] at h2; exact ⟨p, h2, h⟩
  | b => rw [hk] at h2; exact ⟨p, h2, h⟩
  | e => rw [hk] at h2; exact h2.elim
theorem gYields.put {k : Kd} {o : Oper} {p : PV} {g : G} {st : St} (hy : gYields P ops n k o p g st) {dst : Option Tmp} {q : PV} (h : ∀ d, dst = some d → d ∉ o.looksAt ops) : gYields P ops n k o p (gput g dst q) st := by
 obtain ⟨hd, hy⟩ := hy
 refine ⟨hd, ?_⟩
 rw [Qdi h]
 rcases hy with ⟨h1, h2⟩ | ⟨h1, h2⟩
 ·exact .inl ⟨h1, h2⟩
 ·refine .inr ⟨h1, ?_⟩
  cases k with
  | a => exact fun s => (h2 s).congr fun x hx => (Qba h x hx).symm
  | b => exact POp.congr h2 fun x hx => (Qba h x hx).symm
  | e => exact h2
theorem gOp_put {i j : Nat} {oi oj : Oper} {p : PV} (hj : ops[j]? = some oj) (hap : oi.apart ops oj = true) {K : G → St → Prop} {g : G} {st : St} (hy : gYields P ops n (kd i) oi p g st) (hb : kd i = .b → kd j ≠ .e) (h : gOp P ops n kd j K (gput g oi.dst p) st) :
    gOp P ops n kd j (fun g' s' => gYields P ops n (kd i) oi p g' s' ∧ K (gput g' oi.dst p) s') g st := by
  obtain ⟨h1, h2, h3⟩ := Oper.apart_spec hap
  unfold gOp at *
  rw [hj] at h ⊢
  simp only at h ⊢
  obtain ⟨hd, h⟩ := h
  rw [Qdi h1] at h
  refine ⟨hd, ?_⟩
  rcases h with ⟨e1, e2⟩ | ⟨e1, e2⟩
  · exact .inl ⟨e1, hy.put h3, by rw [← Qbm g p _ h2]; exact e2⟩
  · refine .inr ⟨e1, ?_⟩
    cases hk : kd j with
    | a =>
      rw [hk] at e2
      obtain ⟨q, e3, e4⟩ := e2
      exact ⟨q, fun s => (e3 s).congr fun x hx => Qba h1 x hx, hy.put h3, by rw [← Qbm g p _ h2]; exact e4⟩
    | b =>
      rw [hk] at e2
      obtain ⟨q, e3, e4⟩ := e2
      exact ⟨q, e3.congr fun x hx => Qba h1 x hx, hy.put h3, by rw [← Qbm g p _ h2]; exact e4⟩
    | e =>
      rw [hk] at e2
      refine (POp.congr e2 fun x hx => Qba h1 x hx).mono fun q s hs => ⟨?_, by rw [← Qbm g p _ h2]; exact hs⟩
      have hy2 := hy.put (dst := oj.dst) (q := q) h3
      obtain ⟨d1, d2⟩ := hy2
      refine ⟨d1, ?_⟩
      rcases d2 with d2 | ⟨d2, d3⟩
      · exact .inl d2
      · refine .inr ⟨d2, ?_⟩
        cases hki : kd i with
        | a => rw [hki] at d3; exact d3
        | b => exact absurd hk (hb hki)
        | e => rw [hki] at d3; exact d3.elim
def Qdz (md : Region.Mode) (ops : Array Oper) (i : Nat) : Nat → Nat → Bool
  | 0, _ => false
  | f + 1, j => match ops[j]? with
    | some o => o.after.any fun e => Region.binds md e && (e.on == i || Qdz md ops i f e.on)
    | none => false
def DC (md : Region.Mode) (ops : Array Oper) (listed : Array Bool) : Prop := ∀ j o, ops[j]? = some o → listed.getD j false = true → ∀ e ∈ o.after, Region.binds md e = true → listed.getD e.on false = true
theorem waits_listed {i : Nat} {listed : Array Bool} (hdc : DC md ops listed) : ∀ (f j : Nat), Qdz md ops i f j = true → listed.getD j false = true → listed.getD i false = true := by
  intro f
  induction f with
  | zero => intro j h; cases h
  | succ f ih =>
    intro j h hj
    simp only [Qdz] at h
    split at h
    · rename_i o ho
      obtain ⟨e, he, h⟩ := Array.any_eq_true'.1 h
      simp only [Bool.and_eq_true, Bool.or_eq_true, beq_iff_eq] at h
      have h1 := hdc j o ho hj e he h.1
      rcases h.2 with h2 | h2
      · rw [← h2]; exact h1
      · exact ih _ h2 h1
    · cases h
theorem Qdf {listed : Array Bool} {i : Nat} (h : listed.getD i true = false) : listed.getD i false = false := by
 rcases Nat.lt_or_ge i listed.size with h' | h'
 ·simp [h'] at h ⊢; exact h
 ·simp [Array.getElem?_eq_none h'] at h
theorem Qfd {i j : Nat} {listed : Array Bool} (hdc : DC md ops listed) {f : Nat} (h : Qdz md ops i f j = true) (hi : listed.getD i true = false) (hj : j ∈ Region.ready md ops listed) : False := by
  obtain ⟨h0, o, ho, hall⟩ := mem_ready.1 hj
  cases f with
  | zero => cases h
  | succ f =>
    simp only [Qdz, ho] at h
    obtain ⟨e, he, h⟩ := Array.any_eq_true'.1 h
    simp only [Bool.and_eq_true, Bool.or_eq_true, beq_iff_eq] at h
    have h1 := hall e he h.1
    have h2 := Qdf hi
    rcases h.2 with h3 | h3
    · rw [h3] at h1; rw [h1] at h2; cases h2
    · have := waits_listed hdc _ _ h3 h1
      rw [this] at h2; cases h2
theorem DC.set {listed : Array Bool} (hdc : DC md ops listed) {i : Nat} (hi : i ∈ Region.ready md ops listed) : DC md ops (listed.setIfInBounds i true) := by
 intro j o ho hj e he hb
 obtain ⟨h0, o', ho', hall⟩ := mem_ready.1 hi
 by_cases hji : i = j
 ·subst hji
  rw [ho] at ho'
  obtain rfl := Option.some.inj ho'
  exact getD_set_true (hall e he hb)
 ·rw [getD_set_ne false hji] at hj
  exact getD_set_true (hdc j o ho hj e he hb)
theorem gAny_first {Q : G → St → Prop} {i : Nat} {oi : Oper} {p : PV} (hi : ops[i]? = some oi) : ∀ (fuel : Nat) (listed : Array Bool) (g : G) (st : St), DC md ops listed →
    (∀ j oj, ops[j]? = some oj → j ≠ i → listed.getD j true = false → (∀ e ∈ oj.after, Region.binds md e = true → e.on ≠ i) → oi.apart ops oj = true) →
    (kd i = .b → ∀ j, kd j = .e → listed.getD j true = false → j < ops.size → ∃ f, Qdz md ops i f j = true) →
    i ∈ Region.ready md ops listed → gYields P ops n (kd i) oi p g st → gAny P md ops n kd Q fuel (listed.setIfInBounds i true) (gput g oi.dst p) st → gAny P md ops n kd Q (fuel + 1) listed g st := by
  intro fuel
  induction fuel with
  | zero =>
    intro listed g st hdc _ _ hr hy H
    refine ⟨fun h => (by rw [h] at hr; cases hr), fun j hj => ?_⟩
    by_cases hji : j = i
    · subst hji; exact hy.op hi H
    · have := ready_mono hj hji
      rw [H.1] at this
      cases this
  | succ fuel ih =>
    intro listed g st hdc hfree hB hr hy H
    refine ⟨fun h => (by rw [h] at hr; cases hr), fun j hj => ?_⟩
    by_cases hji : j = i
    · subst hji; exact hy.op hi H
    · have h1 := H.2 j (ready_mono hj hji)
      obtain ⟨hjun, oj, hoj, hall⟩ := mem_ready.1 hj
      have hiun := (mem_ready.1 hr).1
      have hnot : ∀ e ∈ oj.after, Region.binds md e = true → e.on ≠ i := fun e he hb heq => by
        have h1 := hall e he hb
        rw [heq] at h1
        have h2 := Qdf hiun
        rw [h1] at h2; cases h2
      have hlt : j < ops.size := (Array.getElem?_eq_some_iff.1 hoj).1
      have hbj : kd i = .b → kd j ≠ .e := fun hb he => by
        obtain ⟨f, hw⟩ := hB hb j he hjun hlt
        exact Qfd hdc hw hiun hj
      have h2 := gOp_put hoj (hfree j oj hoj hji hjun hnot) hy hbj h1
      refine gOp_mono (fun g' s' h3 => ih (listed.setIfInBounds j true) g' s' (hdc.set hj) (fun k ok hk hki hun hno => ?_) (fun hb k hk hun hkl => ?_) (ready_mono hr (Ne.symm hji)) h3.1 ?_) h2
      · refine hfree k ok hk hki ?_ hno
        by_cases hjk : j = k
        · subst hjk; exact hjun
        · rw [getD_set_ne true hjk] at hun; exact hun
      · refine hB hb k hk ?_ hkl
        by_cases hjk : j = k
        · subst hjk; exact hjun
        · rw [getD_set_ne true hjk] at hun; exact hun
      · rw [Array.setIfInBounds_comm _ _ hji]
        exact h3.2
def freeB (md : Region.Mode) (ops : Array Oper) (i : Nat) (listed : Array Bool) : Bool :=
  match ops[i]? with
  | none => false
  | some oi => (List.range ops.size).all fun j => j == i || listed.getD j true ||
      (match ops[j]? with
       | none => true
       | some oj => (oj.after.any fun e => Region.binds md e && e.on == i) || oi.apart ops oj)
def kdOf (order : List (Nat × Kd)) (i : Nat) : Kd :=
 match order with
 | [] => .a
 | (j, k) :: r => if j = i then k else kdOf r i
def Qco (md : Region.Mode) (ops : Array Oper) (all : List (Nat × Kd)) : List (Nat × Kd) → Array Bool → Bool
  | [], listed => (Region.ready md ops listed).isEmpty
  | (i, k) :: rest, listed => (Region.ready md ops listed).contains i && (kdOf all i == k) &&
      (match k with
       | .a => freeB md ops i listed
       | .b => freeB md ops i listed && (List.range ops.size).all fun j => !(kdOf all j == .e) || listed.getD j true || Qdz md ops i ops.size j
       | .e => Region.ready md ops listed == [i]) && Qco md ops all rest (listed.setIfInBounds i true)
def POrd (P : Program) (n : Nat) (ops : Array Oper) (Q : PF → St → Prop) : List (Nat × Kd) → PF → St → Prop
  | [], fr, st => Q fr st
  | (i, k) :: rest, fr, st => ∃ o, ops[i]? = some o ∧ (∀ d, o.dst = some d → d < n) ∧
    ((fr.wants ops o = some false ∧ POrd P n ops Q rest (fr.put o.dst (.tup [])) st) ∨
     (fr.wants ops o = some true ∧
      match k with
      | .a => ∃ p, (∀ s, POp P o fr.eval s fun q s' => q = p ∧ s' = s) ∧ POrd P n ops Q rest (fr.put o.dst p) st
      | .b => ∃ p, (POp P o fr.eval st fun q s' => q = p ∧ s' = st) ∧ POrd P n ops Q rest (fr.put o.dst p) st
      | .e => POp P o fr.eval st fun p s' => POrd P n ops Q rest (fr.put o.dst p) s'))
theorem gAny_ord {Q : PF → St → Prop} {all : List (Nat × Kd)} : ∀ (l : List (Nat × Kd)) (listed : Array Bool) (fr : PF) (st : St), DC md ops listed → Qco md ops all l listed = true → POrd P n ops Q l fr st → gAny P md ops n (kdOf all) (fun g s => ∃ fr : PF, fr.get = g ∧ Q fr s) l.length listed fr.get st := by
  intro l
  induction l with
  | nil => intro listed fr st _ hB h; exact ⟨by simpa [Qco] using hB, fr, rfl, h⟩
  | cons x rest ih =>
    intro listed fr st hdc hB h
    obtain ⟨i, k⟩ := x
    simp only [Qco, Bool.and_eq_true] at hB
    obtain ⟨⟨⟨hr, hk⟩, hB1⟩, hB2⟩ := hB
    have hr' : i ∈ Region.ready md ops listed := by simpa using hr
    have hk' : kdOf all i = k := by simpa using hk
    obtain ⟨o, ho, hd, h⟩ := h
    have free : freeB md ops i listed = true → ∀ j oj, ops[j]? = some oj → j ≠ i → listed.getD j true = false → (∀ e ∈ oj.after, Region.binds md e = true → e.on ≠ i) → o.apart ops oj = true := by
      intro hf j oj hj hji hun hno
      unfold freeB at hf
      rw [ho] at hf
      simp only [List.all_eq_true, List.mem_range] at hf
      have hlt : j < ops.size := (Array.getElem?_eq_some_iff.1 hj).1
      have := hf j hlt
      rw [hj] at this
      simp only [hun, Bool.or_false, Bool.or_eq_true, beq_iff_eq] at this
      rcases this with h | h | h
      · exact absurd h hji
      · obtain ⟨e, he, h⟩ := Array.any_eq_true'.1 h
        simp only [Bool.and_eq_true, beq_iff_eq] at h
        exact absurd h.2 (hno e he h.1)
      · exact h
    have nxt : ∀ p s, POrd P n ops Q rest (fr.put o.dst p) s → gAny P md ops n (kdOf all) (fun g s => ∃ fr : PF, fr.get = g ∧ Q fr s) rest.length (listed.setIfInBounds i true) (gput fr.get o.dst p) s := fun p s hp => by
      rw [← gput_get]; exact ih _ _ s (hdc.set hr') hB2 hp
    cases k with
    | a =>
      have hy : ∃ p, gYields P ops n (kdOf all i) o p fr.get st ∧ POrd P n ops Q rest (fr.put o.dst p) st := by
        rw [hk']
        rcases h with ⟨h1, h2⟩ | ⟨h1, p, h2, h3⟩
        · exact ⟨_, ⟨hd, .inl ⟨by rw [Qap]; exact h1, rfl⟩⟩, h2⟩
        · exact ⟨p, ⟨hd, .inr ⟨by rw [Qap]; exact h1, by rw [Qcg]; exact h2⟩⟩, h3⟩
      obtain ⟨p, hy, hp⟩ := hy
      exact gAny_first ho _ listed _ st hdc (free hB1) (fun hb => by rw [hk'] at hb; cases hb) hr' hy (nxt p st hp)
    | b =>
      have hy : ∃ p, gYields P ops n (kdOf all i) o p fr.get st ∧ POrd P n ops Q rest (fr.put o.dst p) st := by
        rw [hk']
        rcases h with ⟨h1, h2⟩ | ⟨h1, p, h2, h3⟩
        · exact ⟨_, ⟨hd, .inl ⟨by rw [Qap]; exact h1, rfl⟩⟩, h2⟩
        · exact ⟨p, ⟨hd, .inr ⟨by rw [Qap]; exact h1, by rw [Qcg]; exact h2⟩⟩, h3⟩
      obtain ⟨p, hy, hp⟩ := hy
      simp only [Bool.and_eq_true] at hB1
      refine gAny_first ho _ listed _ st hdc (free hB1.1) (fun _ j hj hun hlt => ?_) hr' hy (nxt p st hp)
      have := List.all_eq_true.1 hB1.2 j (List.mem_range.2 hlt)
      simp only [hj, hun, Bool.or_false] at this
      exact ⟨_, by simpa using this⟩
    | e =>
      have hsole : Region.ready md ops listed = [i] := by simpa using hB1
      refine ⟨fun h0 => (by rw [h0] at hr'; cases hr'), fun j hj => ?_⟩
      rw [hsole] at hj
      obtain rfl := List.mem_singleton.1 hj
      unfold gOp
      rw [ho]
      refine ⟨hd, ?_⟩
      rcases h with ⟨h1, h2⟩ | ⟨h1, h2⟩
      · exact .inl ⟨by rw [Qap]; exact h1, nxt _ st h2⟩
      · refine .inr ⟨by rw [Qap]; exact h1, ?_⟩
        rw [hk']
        simp only
        rw [Qcg]
        exact h2.mono fun p s hs => nxt p s hs
theorem Qas {id : Nat} {Q : Exit → PF → St → Prop} {fr : PF} {st : St} (order : List (Nat × Kd)) (hm : P.follows .mixedOrders = true) (hlen : order.length = ops.size) (hB : Qco .any ops order order (Array.replicate ops.size false) = true) (h : POrd P n ops (Q .normal) order fr st) : PW P n (.region id ops true) Q fr st := by
 intro F K w a hr hf
 have hdc : DC .any ops (Array.replicate ops.size false) := fun j o ho hj => by
  exfalso
  have hlt : j < ops.size := (Array.getElem?_eq_some_iff.1 ho).1
  simp [hlt] at hj
 have hx : Ext F K w K { w with drawn := w.drawn + 1 } := ⟨rfl, rfl, rfl, Nat.le_refl _, fun _ _ => rfl, fun _ _ h => ⟨h, rfl⟩, fun _ _ h => .inl h, fun _ _ h => h, fun g u h => ⟨u, h, .inl rfl⟩, fun _ _ => rfl⟩
 have hr2 : Rel F st K { w with drawn := w.drawn + 1 } := ⟨hr.kc, hr.ff, hr.fin, hr.fi, fun e he => (hr.ents e he).keep hx (fun _ _ => rfl) (fun _ _ _ h => h) fun _ _ => rfl, hr.nb, hr.nt⟩
 have hany := gAny_ord (md := .any) order _ fr st hdc hB h
 rw [hlen] at hany
 exact wp_region_any hm (wpAny_gAny (K0 := K) (w0 := w) (F := F) (Q := fun g s => ∃ fr : PF, fr.get = g ∧ Q .normal fr s) (fun K' w' a' g' st' h1 h2 h3 ⟨fr', e, h4⟩ => ⟨K', fr', st', h1, h2, by subst e; exact h3.fr, h4⟩) _ _ _ st K _ a hx hr2 (hf.mono hx).fg hany)
end
end Go.Proofs.Ytpaifjlikgnlfaa
