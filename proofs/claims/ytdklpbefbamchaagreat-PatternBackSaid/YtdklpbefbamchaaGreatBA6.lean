import Derived.Test.YtdklpbefbamchaaGreatBA5
import Derived.Deep.RegionLaw
import Derived.Lib.SliceRun
import Derived.Maps.OwnOps
import Derived.Test.YtdklpbefbamchaaGreatBA1
set_option linter.unusedSimpArgs false
set_option linter.unusedVariables false
set_option maxHeartbeats 16000000
set_option maxRecDepth 100000
namespace Go.Proofs.YtdklpbefbamchaaGreat
open Go.RowKit
theorem relD_ok {K : Nat → Nat → Prop} {w : World} {d : D} {v : Value} (h : RelD K w d v) : okv v := by
 cases h with
 | v h => exact h
 | nil _ => trivial
 | sl _ _ _ _ _ _ => trivial
theorem Qgh {α : Type} {sz : Nat} : ∀ (rows : List (List α)) (r j : Nat) (row : List α) (d : α), (∀ row ∈ rows, row.length = sz) → rows[r]? = some row → row[j]? = some d → rows.flatten[r * sz + j]? = some d := by
  intro rows
  induction rows with
  | nil => intro r j row d _ h; simp at h
  | cons x rest ih =>
    intro r j row d hl h hd
    have hx := hl x (by simp)
    rw [List.flatten_cons]
    cases r with
    | zero =>
      simp only [List.getElem?_cons_zero, Option.some.injEq] at h
      subst h
      rw [Nat.zero_mul, Nat.zero_add, List.getElem?_append_left (List.getElem?_eq_some_iff.1 hd).1]
      exact hd
    | succ r =>
      simp only [List.getElem?_cons_succ] at h
      rw [Nat.succ_mul, List.getElem?_append_right (by omega), hx, show r * sz + sz + j - sz = r * sz + j by omega]
      exact ih r j row d (fun y hy => hl y (by simp [hy])) h hd
theorem Qgg {α : Type} {sz : Nat} : ∀ (rows : List (List α)), (∀ row ∈ rows, row.length = sz) → rows.flatten.length = rows.length * sz := by
  intro rows
  induction rows with
  | nil => intro _; simp
  | cons x rest ih =>
    intro hl
    rw [List.flatten_cons, List.length_append, ih (fun y hy => hl y (by simp [hy])), hl x (by simp), List.length_cons, Nat.succ_mul]
    omega
def boxC (rows : List (List D)) (sz c : Nat) : List PV := rows.flatten.map .d ++ List.replicate (c * sz - rows.length * sz) .u
theorem boxC_len {rows : List (List D)} {sz c : Nat} (hl : ∀ row ∈ rows, row.length = sz) (hc : rows.length ≤ c) : (boxC rows sz c).length = c * sz := by
 unfold boxC
 have : rows.length * sz ≤ c * sz := Nat.mul_le_mul_right _ hc
 rw [List.length_append, List.length_map, List.length_replicate, Qgg rows hl]
 omega
theorem Rel.adopt {F : Fz} {K : Kp} {w : World} (h : Rel F [] K w) {arr : Array Value} {T : TypeId} {ps : List PV} {b : Nat} (hb : w.heap[b]? = some (.cells arr T)) (hF : ¬ F.blk b) (hK : ∀ o, ¬ K.cell b o) (hs : arr.size = ps.length) (hc : ∀ (j : Nat) (p : PV) (v : Value), ps[j]? = some p → arr[j]? = some v → RelV K w p v) :
  ∃ i, Ext F K w (K.addBox i b) w ∧ Rel F [.box i T ps] (K.addBox i b) w := by
 obtain ⟨nx, hnx⟩ := h.fin
 have hnone : K.box nx = none := (hnx nx (Nat.le_refl _)).1
 have hkb : ∀ j b', K.box j = some b' → (K.addBox nx b).box j = some b' := fun j b' hj => by
  simp only [Kp.addBox]
  rw [if_neg (by intro e; subst e; rw [hnone] at hj; cases hj)]; exact hj
 have hx : Ext F K w (K.addBox nx b) w := ⟨rfl, rfl, rfl, Nat.le_refl _, fun _ _ => rfl, fun b o h => ⟨h, rfl⟩, fun b o h => .inl h, hkb, fun g u h => ⟨u, h, .inl rfl⟩, fun _ _ => rfl⟩
 refine ⟨nx, hx, ⟨fun b o hc => h.kc b o hc, h.ff, ⟨nx + 1, fun j hj => ?_⟩, h.fi, fun e he => ?_, ?_, ?_⟩⟩
 ·simp only [Kp.addBox]
  rw [if_neg (by omega)]
  exact hnx j (by omega)
 ·obtain rfl := List.mem_singleton.1 he
  exact ⟨b, arr, by simp [Kp.addBox], hF, hb, hs, fun j p v hp hv => (hc j p v hp hv).mono hx, hK⟩
 ·simp [Ent.block, Kp.addBox]
 ·exact (List.nodup_nil : ([] : List Nat).Nodup)
theorem PCalls.boxed {P : Program} {f : FuncId} {E : TypeId} {sz : Nat} {rows : List (List D)} (hsz : 0 < sz) (hne : 0 < rows.length) (hl : ∀ row ∈ rows, row.length = sz)
  (h : ∀ rows' : List (List D), (∀ row ∈ rows', row.length = sz) → rows'.length = rows.length → PCalls P f [.d (.sl rows')] [] fun p s => ∃ g, p = .own g rows' ∧ s = [.tok g E sz rows'.length]) :
  PCalls P f [.d (.sl rows)] [] fun p s => ∃ i c, rows.length ≤ c ∧ c ≤ maxLen ∧ p = .bsl i rows.length c ∧ s = [.box i E (boxC rows sz c)] := by
 intro F K w vs hr ha
 obtain ⟨v, rfl, hv⟩ := ha.one
 cases hv with
 | d hv =>
 generalize hrr : rows = rows0 at hv
 cases hv with
 | nil _ => subst hrr; exact absurd hne (by decide)
 | @sl sz0 _ b0 off0 cap0 vals h1 h2 h3 h4 h5 =>
 subst hrr
 have hszz : sz0 = sz := by
  have hm := List.getElem_mem hne
  rw [← h3 _ hm, hl _ hm]
 subst hszz
 obtain ⟨rows', hrows'⟩ : ∃ rows' : List (List D), rows' = (List.range rows.length).map fun i => (List.range sz0).map fun j => D.v (vals i j) := ⟨_, rfl⟩
 have hlen' : rows'.length = rows.length := by rw [hrows']; simp
 have hl' : ∀ row ∈ rows', row.length = sz0 := by
  intro row hrow
  rw [hrows'] at hrow
  obtain ⟨i, _, rfl⟩ := List.mem_map.1 hrow
  simp
 have hget' : ∀ i j, i < rows.length → j < sz0 → ∃ row, rows'[i]? = some row ∧ row[j]? = some (D.v (vals i j)) := by
  intro i j hi hj
  refine ⟨(List.range sz0).map fun j => D.v (vals i j), ?_, ?_⟩
  ·rw [hrows', List.getElem?_map, List.getElem?_range hi]; rfl
  ·rw [List.getElem?_map, List.getElem?_range hj]; rfl
 have hget : ∀ i j, i < rows.length → j < sz0 → ∃ row d, rows[i]? = some row ∧ row[j]? = some d := by
  intro i j hi hj
  have e := hl _ (List.getElem_mem hi)
  exact ⟨rows[i], rows[i][j]'(by omega), List.getElem?_eq_getElem hi, List.getElem?_eq_getElem (by omega)⟩
 have hbk : ∀ i j, i < rows.length → j < sz0 → ∀ row d, rows'[i]? = some row → row[j]? = some d → d = D.v (vals i j) := by
  intro i j hi hj row d h6 h7
  obtain ⟨row2, h8, h9⟩ := hget' i j hi hj
  rw [h8] at h6
  obtain rfl := Option.some.inj h6
  rw [h9] at h7
  exact (Option.some.inj h7).symm
 have harg : RelVs (K0 w) w [.d (.sl rows')] #[.slice (some ⟨b0, off0, none⟩) rows.length cap0] := by
  refine Qcz (.d ?_) (Qfp _ _)
  rw [← hlen']
  refine .sl (sz := sz0) vals (by omega) h2 hl' (fun i j row d hi hj => ?_) fun i j row d hi hj => ?_
  ·have e1 := (List.getElem?_eq_some_iff.1 hi).1
   have e2 := (List.getElem?_eq_some_iff.1 hj).1
   rw [hl' _ (List.mem_of_getElem? hi)] at e2
   rw [hlen'] at e1
   obtain ⟨row2, d2, h6, h7⟩ := hget i j e1 e2
   obtain ⟨-, h8⟩ := h4 i j row2 d2 h6 h7
   exact ⟨⟨_, h8⟩, h8⟩
  ·have e1 := (List.getElem?_eq_some_iff.1 hi).1
   have e2 := (List.getElem?_eq_some_iff.1 hj).1
   rw [hl' _ (List.mem_of_getElem? hi)] at e2
   rw [hlen'] at e1
   rw [hbk i j e1 e2 row d hi hj]
   obtain ⟨row2, d2, h6, h7⟩ := hget i j e1 e2
   exact .v (relD_ok (h5 i j row2 d2 h6 h7))
 refine (h rows' hl' hlen' (F0 w) (K0 w) w _ (rel0 w) harg).mono ?_
 rintro e w' ⟨v', K1, p, s, rfl, hx, hr1, hv1, g, rfl, rfl⟩
 obtain ⟨u, xs, hu, hnf, hsl, how, hblk⟩ := hr1.ents (.tok g E sz0 rows'.length) (by simp)
 cases hv1 with
 | @own _ _ _ u' hd hu' hle heq =>
 rw [hu] at hu'
 obtain rfl := Option.some.inj hu'
 have hvu : v' = u := heq hsl.symm
 subst hvu
 have hbel : Below w.heap.size w w' := ⟨hx.os, hx.tape, hx.output, hx.size, fun k hk => hx.hp k hk⟩
 rcases how.2 with ⟨e1, e2⟩ | ⟨bb, cap, cur, e1, -, e3, e4, e5, e6, e7⟩
 ·rw [e1] at hsl
  simp [slen] at hsl
  omega
 subst e1
 obtain ⟨hnew, -⟩ := hblk bb rfl
 have hge : w.heap.size ≤ bb := by
  rcases Nat.lt_or_ge bb w.heap.size with h6 | h6
  ·exact absurd h6 hnew
  ·exact h6
 have hxt : Ext F K w K w' := Qhv hbel hr.ff (fun b o h => hr.klt h) (fun _ _ h => h) (fun _ _ h => .inl h) rfl rfl
 have hr2 : Rel F [] K w' := ⟨fun b o hc => by
  obtain ⟨v, hv⟩ := hr.kc b o hc
  exact ⟨v, (hxt.kp b o hc).2.trans hv⟩, fun b hf => by have := hr.ff b hf; have := hbel.size; omega, hr.fin, hr.fi, fun e he => (by cases he), by simp, by simp⟩
 have hcl : rows.length ≤ cap := by rw [← hlen']; exact e4
 have hcell : ∀ i j, i < rows.length → j < sz0 → cur[i * sz0 + j]? = some (vals i j) := by
  intro i j hi hj
  obtain ⟨row2, h8, h9⟩ := hget' i j hi hj
  generalize hrr : rows' = rs at hd h8
  cases hd with
  | nil _ => simp at h8
  | @sl sz1 _ _ _ _ vals1 g1 g2 g3 g4 g5 =>
  have hs1 : sz1 = sz0 := by
   have hm := List.mem_of_getElem? h8
   rw [← g3 _ hm, hl' _ (hrr ▸ hm)]
  subst hs1
  have h10 := (g4 i j row2 _ h8 h9).2
  have h11 := g5 i j row2 _ h8 h9
  rw [Qew e3, Nat.zero_add] at h10
  rw [h10]
  generalize vals1 i j = y at h11
  cases h11; rfl
 obtain ⟨i, hx3, hr3⟩ := hr2.adopt (T := E) (ps := boxC rows sz0 cap) e3 (fun hf => by have := hr.ff _ hf; omega) (fun o hc => by have := hr.klt hc; omega) (by rw [e6, boxC_len hl hcl]) fun j p v hp hv => by
  unfold boxC at hp
  by_cases hj : j < rows.flatten.length
  ·rw [List.getElem?_append_left (by rw [List.length_map]; exact hj), List.getElem?_map, List.getElem?_eq_getElem hj] at hp
   obtain rfl := Option.some.inj hp
   have hfl := Qgg rows hl
   have hpos : 0 < sz0 := hsz
   have hi : j / sz0 < rows.length := by rw [hfl] at hj; exact (Nat.div_lt_iff_lt_mul hpos).2 hj
   have hjm := Nat.mod_lt j hpos
   have hdm : j / sz0 * sz0 + j % sz0 = j := by rw [Nat.mul_comm]; exact Nat.div_add_mod j sz0
   obtain ⟨row, d, h6, h7⟩ := hget (j / sz0) (j % sz0) hi hjm
   have h8 := Qgh rows (j / sz0) (j % sz0) row d hl h6 h7
   rw [hdm, List.getElem?_eq_getElem hj] at h8
   rw [Option.some.inj h8]
   have h9 := hcell (j / sz0) (j % sz0) hi hjm
   rw [hdm, hv] at h9
   rw [Option.some.inj h9]
   exact .d ((h5 _ _ row d h6 h7).mono hxt.kp)
  ·rw [List.getElem?_append_right (by rw [List.length_map]; omega)] at hp
   have := List.mem_of_getElem? hp
   rw [List.mem_replicate] at this
   rw [this.2]
   exact .u
 exact ⟨_, _, .bsl i rows'.length cap, _, rfl, hxt.trans hx3, hr3, .bsl (by simp [Kp.addBox]) e4 e5, i, cap, hcl, e5, by rw [hlen'], rfl⟩
def orderP (md : Region.Mode) (ops : Array Oper) (all : List (Nat × Kd)) (base : Array Bool → Bool) : List (Nat × Kd) → Array Bool → Bool
  | [], listed => base listed
  | (i, k) :: rest, listed => (Region.ready md ops listed).contains i && (kdOf all i == k) &&
      (match k with
       | .a => Qfj md ops i listed
       | .b => Qfj md ops i listed && (List.range ops.size).all fun j => !(kdOf all j == .e) || listed.getD j true || Qfg md ops i ops.size j
       | .e => Region.ready md ops listed == [i]) && orderP md ops all base rest (listed.setIfInBounds i true)
section
variable {P : Program} {J : St → Prop} {ops : Array Oper} {n : Nat} {kd : Nat → Kd} {md : Region.Mode}
theorem lAny_ordP {Q' : PF → St → Prop} {Q : G → St → Prop} {all : List (Nat × Kd)} {base : Array Bool → Bool} {fuel : Nat} (hbase : ∀ (listed : Array Bool) (fr : PF) (st : St), DC md ops listed → base listed = true → Q' fr st → lAny P J md ops n (kdOf all) Q fuel listed fr.get st) :
    ∀ (l : List (Nat × Kd)) (listed : Array Bool) (fr : PF) (st : St), DC md ops listed → orderP md ops all base l listed = true → Qaz P J n ops Q' l fr st → lAny P J md ops n (kdOf all) Q (l.length + fuel) listed fr.get st := by
  intro l
  induction l with
  | nil => intro listed fr st hdc hB h; rw [List.length_nil, Nat.zero_add]; exact hbase listed fr st hdc hB h
  | cons x rest ih =>
    intro listed fr st hdc hB h
    obtain ⟨i, k⟩ := x
    simp only [orderP, Bool.and_eq_true] at hB
    rw [List.length_cons, Nat.add_right_comm]
    obtain ⟨⟨⟨hr, hk⟩, hB1⟩, hB2⟩ := hB
    have hr' : i ∈ Region.ready md ops listed := by simpa using hr
    have hk' : kdOf all i = k := by simpa using hk
    obtain ⟨o, ho, hd, h⟩ := h
    have free : Qfj md ops i listed = true → ∀ j oj, ops[j]? = some oj → j ≠ i → listed.getD j true = false → (∀ e ∈ oj.after, Region.binds md e = true → e.on ≠ i) → o.apart ops oj = true := by
      intro hf j oj hj hji hun hno
      unfold Qfj at hf
      rw [ho] at hf
      simp only [List.all_eq_true, List.mem_range] at hf
      have hlt : j < ops.size := (Array.getElem?_eq_some_iff.1 hj).1
      have := hf j hlt
      rw [hj] at this
      simp only [hun, Bool.or_false, Bool.or_eq_true, beq_iff_eq] at this
      rcases this with h | h | h
      · exact absurd h hji
      · obtain ⟨e, he, h⟩ := Array.any_eq_true'.1 h
        simp only [Bool.and_eq_true, beq_iff_eq] at h
        exact absurd h.2 (hno e he h.1)
      · exact h
    have nxt : ∀ p s, Qaz P J n ops Q' rest (fr.put o.dst p) s → lAny P J md ops n (kdOf all) Q (rest.length + fuel) (listed.setIfInBounds i true) (gput fr.get o.dst p) s := fun p s hp => by
      rw [← Qgj]; exact ih _ _ s (hdc.set hr') hB2 hp
    cases k with
    | a =>
      have hy : ∃ p, lYields P J ops n (kdOf all i) o p fr.get st ∧ Qaz P J n ops Q' rest (fr.put o.dst p) st := by
        rw [hk']
        rcases h with ⟨h1, h2⟩ | ⟨h1, p, h2, h3⟩
        · exact ⟨_, ⟨hd, .inl ⟨by rw [Qau]; exact h1, rfl⟩⟩, h2⟩
        · exact ⟨p, ⟨hd, .inr ⟨by rw [Qau]; exact h1, by rw [Qch]; exact h2⟩⟩, h3⟩
      obtain ⟨p, hy, hp⟩ := hy
      exact Qhc ho _ listed _ st hdc (free hB1) (fun hb => by rw [hk'] at hb; cases hb) hr' hy (nxt p st hp)
    | b =>
      have hy : ∃ p, lYields P J ops n (kdOf all i) o p fr.get st ∧ Qaz P J n ops Q' rest (fr.put o.dst p) st := by
        rw [hk']
        rcases h with ⟨h1, h2⟩ | ⟨h1, p, h2, h3⟩
        · exact ⟨_, ⟨hd, .inl ⟨by rw [Qau]; exact h1, rfl⟩⟩, h2⟩
        · exact ⟨p, ⟨hd, .inr ⟨by rw [Qau]; exact h1, by rw [Qch]; exact h2⟩⟩, h3⟩
      obtain ⟨p, hy, hp⟩ := hy
      simp only [Bool.and_eq_true] at hB1
      refine Qhc ho _ listed _ st hdc (free hB1.1) (fun _ j hj hun hlt => ?_) hr' hy (nxt p st hp)
      have := List.all_eq_true.1 hB1.2 j (List.mem_range.2 hlt)
      simp only [hj, hun, Bool.or_false] at this
      exact ⟨_, by simpa using this⟩
    | e =>
      have hsole : Region.ready md ops listed = [i] := by simpa using hB1
      refine ⟨fun h0 => (by rw [h0] at hr'; cases hr'), fun j hj => ?_⟩
      rw [hsole] at hj
      obtain rfl := List.mem_singleton.1 hj
      unfold lOp
      rw [ho]
      refine ⟨hd, ?_⟩
      rcases h with ⟨h1, h2⟩ | ⟨h1, h2⟩
      · exact .inl ⟨by rw [Qau]; exact h1, nxt _ st h2⟩
      · refine .inr ⟨by rw [Qau]; exact h1, ?_⟩
        rw [hk']
        simp only
        rw [Qch]
        exact h2.mono fun p s hs => ⟨hs.1, nxt p s hs.2⟩
def twoB (md : Region.Mode) (ops : Array Oper) (all : List (Nat × Kd)) (i k : Nat) (r1 r2 : List (Nat × Kd)) (listed : Array Bool) : Bool :=
 (Region.ready md ops listed == [i, k]) && (kdOf all i == .e) && (kdOf all k == .e) && Qdk md ops all r1 (listed.setIfInBounds i true) && Qdk md ops all r2 (listed.setIfInBounds k true)
theorem lAny_two {Q : PF → St → Prop} {all : List (Nat × Kd)} {i k : Nat} {r1 r2 : List (Nat × Kd)} (hlen : r1.length = r2.length) (listed : Array Bool) (fr : PF) (st : St) (hdc : DC md ops listed) (hB : twoB md ops all i k r1 r2 listed = true)
  (h : Qaz P J n ops Q ((i, .e) :: r1) fr st ∧ Qaz P J n ops Q ((k, .e) :: r2) fr st) : lAny P J md ops n (kdOf all) (fun g s => ∃ fr : PF, fr.get = g ∧ Q fr s) (r1.length + 1) listed fr.get st := by
 unfold twoB at hB
 simp only [Bool.and_eq_true, beq_iff_eq] at hB
 obtain ⟨⟨⟨⟨hr, hk1⟩, hk2⟩, hB1⟩, hB2⟩ := hB
 refine ⟨fun h0 => (by rw [hr] at h0; cases h0), fun j hj => ?_⟩
 have hj' := hj
 rw [hr] at hj
 have key : ∀ (r : List (Nat × Kd)), r.length = r1.length → kdOf all j = .e → Qdk md ops all r (listed.setIfInBounds j true) = true → Qaz P J n ops Q ((j, .e) :: r) fr st → lOp P J ops n (kdOf all) j (lAny P J md ops n (kdOf all) (fun g s => ∃ fr : PF, fr.get = g ∧ Q fr s) r1.length (listed.setIfInBounds j true)) fr.get st := by
  intro r hrl hkj hBr hh
  obtain ⟨o, ho, hd, hh⟩ := hh
  have nxt : ∀ p s, Qaz P J n ops Q r (fr.put o.dst p) s → lAny P J md ops n (kdOf all) (fun g s => ∃ fr : PF, fr.get = g ∧ Q fr s) r1.length (listed.setIfInBounds j true) (gput fr.get o.dst p) s := fun p s hp => by
   rw [← Qgj, ← hrl]; exact lAny_ord r _ _ s (hdc.set hj') hBr hp
  unfold lOp
  rw [ho]
  refine ⟨hd, ?_⟩
  rcases hh with ⟨h1, h2⟩ | ⟨h1, h2⟩
  ·exact .inl ⟨by rw [Qau]; exact h1, nxt _ st h2⟩
  ·refine .inr ⟨by rw [Qau]; exact h1, ?_⟩
   rw [hkj]
   simp only
   rw [Qch]
   exact h2.mono fun p s hs => ⟨hs.1, nxt p s hs.2⟩
 simp only [List.mem_cons, List.not_mem_nil, or_false] at hj
 rcases hj with rfl | rfl
 ·exact key r1 rfl hk1 hB1 h.1
 ·exact key r2 hlen.symm hk2 hB2 h.2
theorem Qim {id : Nat} {Q : Exit → PF → St → Prop} {fr : PF} {st : St} (pre : List (Nat × Kd)) (i k : Nat) (r1 r2 : List (Nat × Kd)) (hm : P.follows .mixedOrders = true) (hlen : pre.length + (r1.length + 1) = ops.size ∧ r1.length = r2.length)
  (hB : orderP .any ops (pre ++ (i, .e) :: r1) (twoB .any ops (pre ++ (i, .e) :: r1) i k r1 r2) pre (Array.replicate ops.size false) = true) (hJ : J st)
  (h : Qaz P J n ops (fun fr st => Qaz P J n ops (Q .normal) ((i, .e) :: r1) fr st ∧ Qaz P J n ops (Q .normal) ((k, .e) :: r2) fr st) pre fr st) : PW P n (.region id ops true) Q fr st := by
 intro F K w a hr hf
 have hdc : DC .any ops (Array.replicate ops.size false) := fun j o ho hj => by
  exfalso
  have hlt : j < ops.size := (Array.getElem?_eq_some_iff.1 ho).1
  simp [hlt] at hj
 have hx : Ext F K w K { w with drawn := w.drawn + 1 } := ⟨rfl, rfl, rfl, Nat.le_refl _, fun _ _ => rfl, fun _ _ h => ⟨h, rfl⟩, fun _ _ h => .inl h, fun _ _ h => h, fun g u h => ⟨u, h, .inl rfl⟩, fun _ _ => rfl⟩
 have hr2 : Rel F st K { w with drawn := w.drawn + 1 } := ⟨hr.kc, hr.ff, hr.fin, hr.fi, fun e he => (hr.ents e he).keep hx (fun _ _ => rfl) (fun _ _ _ h => h) fun _ _ => rfl, hr.nb, hr.nt⟩
 have hany := lAny_ordP (md := .any) (Q := fun g s => ∃ fr : PF, fr.get = g ∧ Q .normal fr s) (fun listed fr st h1 h2 h3 => lAny_two hlen.2 listed fr st h1 h2 h3) pre _ fr st hdc hB h
 rw [hlen.1] at hany
 exact wp_region_any hm (wpAny_lAny (K0 := K) (w0 := w) (F := F) (Q := fun g s => ∃ fr : PF, fr.get = g ∧ Q .normal fr s) (fun K' w' a' g' st' h1 h2 h3 ⟨fr', e, h4⟩ => ⟨K', fr', st', h1, h2, by subst e; exact h3.fr, h4⟩) _ _ _ st K _ a (by simp) hx hr2 (hf.mono hx).fg (.inr hJ) hany)
end
theorem PW_perm {P : Program} {n : Nat} {c : Code} {Q : Exit → PF → St → Prop} {fr : PF} {st : St} (st' : St) (hp : st.Perm st') (h : PW P n c Q fr st') : PW P n c Q fr st :=
 fun F K w a hr hf => h F K w a (hr.perm hp) hf
theorem bidn {F : Fz} {K : Kp} {w : World} : ∀ {st : St}, (∀ e ∈ st, EntOk F K w e) → (st.filterMap (Ent.block K)).Nodup → (st.filterMap Ent.bid).Nodup := by
  intro st
  induction st with
  | nil => intro _ _; simp
  | cons e r ih =>
    intro he hn
    have hr : (r.filterMap (Ent.block K)).Nodup := by
      rw [List.filterMap_cons] at hn
      split at hn
      · exact hn
      · exact (List.nodup_cons.1 hn).2
    have h1 := ih (fun x hx => he x (List.mem_cons_of_mem _ hx)) hr
    have key : ∀ i, e.bid = some i → (∃ b, e.block K = some b ∧ K.box i = some b) → i ∉ r.filterMap Ent.bid := by
      rintro i hi ⟨b, hb, hk⟩ hm
      obtain ⟨x, hx, hxi⟩ := List.mem_filterMap.1 hm
      rw [List.filterMap_cons, hb] at hn
      have hnm := (List.nodup_cons.1 hn).1
      apply hnm
      refine List.mem_filterMap.2 ⟨x, hx, ?_⟩
      cases x with
      | box j U cs => simp only [Ent.bid, Option.some.injEq] at hxi; subst hxi; exact hk
      | tok => cases hxi
      | obj j ok => simp only [Ent.bid, Option.some.injEq] at hxi; subst hxi; exact hk
    have h2 := he e (List.mem_cons_self ..)
    cases e with
    | box i T cs =>
      obtain ⟨b, arr, e1, -⟩ := h2
      exact List.nodup_cons.2 ⟨key i rfl ⟨b, e1, e1⟩, h1⟩
    | tok g E sz n => exact h1
    | obj i ok =>
      obtain ⟨b, o, e1, -⟩ := h2
      exact List.nodup_cons.2 ⟨key i rfl ⟨b, e1, e1⟩, h1⟩
theorem Qje {P : Program} {n : Nat} {c : Code} {Q : Exit → PF → St → Prop} {fr : PF} {st : St} (h : (st.filterMap Ent.bid).Nodup → PW P n c Q fr st) : PW P n c Q fr st :=
 fun F K w a hr hf => h (bidn hr.ents hr.nb) F K w a hr hf
theorem bidn_box (i : Nat) (T : TypeId) (cs : List PV) (r : St) : (Ent.box i T cs :: r).filterMap Ent.bid = i :: r.filterMap Ent.bid := rfl
theorem bidn_tok (g : Nat) (E : TypeId) (sz n : Nat) (r : St) : (Ent.tok g E sz n :: r).filterMap Ent.bid = r.filterMap Ent.bid := rfl
theorem bidn_nil : ([] : St).filterMap Ent.bid = [] := rfl
theorem RV.rev {K : Nat → Nat → Prop} {w : World} {sz : Nat} {rows : List (List D)} {css : List (List Value)} (hp : 0 < sz) (hn : css.length = rows.length) (hl : ∀ c ∈ css, c.length = sz) (h : RV K w sz rows css.flatten) : RV K w sz rows.reverse css.reverse.flatten := by
 have hlr : ∀ c ∈ css.reverse, c.length = sz := fun c hc => hl c (List.mem_reverse.1 hc)
 refine ⟨by rw [Qgg _ hlr, List.length_reverse, List.length_reverse, hn], fun row hr => h.2.1 row (List.mem_reverse.1 hr), fun i j row d hi hj => ?_⟩
 have hil : i < rows.length := by have := (List.getElem?_eq_some_iff.1 hi).1; simpa using this
 have hjl : j < sz := by
  have h1 := (List.getElem?_eq_some_iff.1 hj).1
  rw [h.2.1 row (List.mem_reverse.1 (List.mem_of_getElem? hi))] at h1
  exact h1
 rw [List.getElem?_reverse hil] at hi
 obtain ⟨x, h1, h2⟩ := h.2.2 _ j row d hi hj
 have hcl : rows.length - 1 - i < css.length := by omega
 have hx : (css[rows.length - 1 - i])[j]? = some x := by
  have hc := hl _ (List.getElem_mem hcl)
  have h3 : j < (css[rows.length - 1 - i]).length := by omega
  have h4 := Qgh css (rows.length - 1 - i) j _ _ hl (List.getElem?_eq_getElem hcl) (List.getElem?_eq_getElem h3)
  rw [h4] at h1
  rw [List.getElem?_eq_getElem h3]
  exact h1
 refine ⟨x, Qgh css.reverse i j _ x hlr ?_ hx, h2⟩
 rw [List.getElem?_reverse (by omega), hn]
 exact List.getElem?_eq_getElem hcl
theorem Qjz {P : Program} (w : World) (t xt ty e : TypeId) {i : TypeInfo} {z : Value} {es bytes : Nat} (ht : P.underlying t = some (.slice e)) {dx : TypeDesc} (hxt : P.underlying xt = some dx) (hnz : ∀ k, dx ≠ .int k) (hi : P.info? e = some i) (hz : i.zero = some z) (hsize : i.size = es) (hby : i.bytes = bytes) (hzs : z.cells.size = es)
    {a : Option Addr} {n : Nat} {xs : List Value} (hxl : xs.length = n * es) (ha : a = none → n = 0) (holds : ∀ ad, a = some ad → ∀ j u, xs[j]? = some u → w.cell? (ad.add j) = some u) {x : Value} {m : Nat} {news : List Value} (hsrc : Src P w es x m news) (hl : news.length = m * es) (hm : 0 < m) (h63 : n + m ≤ maxLen) (hbytes : (n + m) * bytes ≤ 140737488355328) :
    ∃ cap arr, (Builtin.append_ #[t, xt] ty #[.slice a n n, x]).run P w = .ok (.slice (some ⟨w.heap.size, 0, none⟩) (n + m) cap) (w.drew.alloc (.cells arr e)) ∧ (w.drew.alloc (.cells arr e)).ownsRow 0 e es (.slice (some ⟨w.heap.size, 0, none⟩) (n + m) cap) (n + m) (xs ++ news) := by
  obtain ⟨hs1, hs2⟩ := hsrc
  subst hsize
  subst hby
  have hsmall : n + m ≤ 9223372036854775807 := by simp only [maxLen] at h63; omega
  have hlen : (xs ++ news).length = (n + m) * i.size := by rw [List.length_append, hxl, hl, Nat.add_mul]
  have hzero : (match dx with | .int _ => true | _ => false) = false := by cases dx <;> first | rfl | exact absurd rfl (hnz _)
  have hfd := hs2 w.drew rfl
  have grown : ∀ (old : Nat), old < n + m →
      (w.drew.alloc (.cells (xs.toArray ++ news.toArray ++ Builtin.zeroCells z.cells (grownCap w (n + m) old e - (n + m))) e)).ownsRow 0 e i.size
        (.slice (some ⟨w.heap.size, 0, none⟩) (n + m) (grownCap w (n + m) old e)) (n + m) (xs ++ news) := by
    intro old ho
    have hge := grownCap_ge w (n + m) old e
    have hcm : grownCap w (n + m) old e ≤ maxLen := grownCap_le_maxLen w (n + m) old e h63
    refine ⟨hlen, .inr ⟨w.heap.size, _, _, rfl, Nat.zero_le _, heap_alloc_new w.drew _, hge, hcm, ?_, ?_⟩⟩
    · simp only [Array.size_append, List.size_toArray, size_zeroCells, hzs, hxl, hl, ← Nat.add_mul]
      congr 1
      omega
    · simp only [Array.toList_append, List.append_assoc]
      rw [← List.append_assoc, ← hlen]
      exact List.take_left
  have hgr := grown n (by omega)
  have hn : ¬ (m = 0) := by omega
  have hn0 : ¬ (n + m ≤ n) := by omega
  have h63' : ¬ (9223372036854775807 < ((n : Int) + (m : Int))) := by omega
  have h48' : ¬ (281474976710656 < Builtin.nextslicecap (n + m) n * i.bytes) := by
    by_cases h0 : n = 0
    · subst h0
      simp only [Nat.zero_add] at hbytes hsmall ⊢
      rw [nextslicecap_zero (by omega)]; omega
    · have := growslice_fits (old := n) (by omega) hbytes; omega
  have hfo : (Builtin.firstCells i.size n (.slice a n n)).run P w.drew = .ok xs.toArray w.drew := by
    cases a with
    | none =>
      have h0 := ha rfl
      subst h0
      have : xs = [] := List.eq_nil_of_length_eq_zero (by rw [hxl]; simp)
      subst this
      simp [Builtin.firstCells]
    | some ad => exact run_firstCells_some (P := P) w.drew i.size n ad n n xs hxl fun j u hj => holds ad rfl j u hj
  refine ⟨_, _, ?_, hgr⟩
  simp [Builtin.append_, run_underlying ht, run_underlying hxt, sizeOf, typeInfo, zeroValue, hi, hz, hzero, hs1, hn, hn0, h63', h48', Question.forced, hfo, hfd, newRow, grownCap]
  congr 2
  apply Array.ext'
  simp [List.append_assoc]
section
variable {P : Program} {ops : Array Oper} {n : Nat} {md : Region.Mode}
theorem gAny_ordI {Q : PF → St → Prop} {all : List (Nat × Kd)} (h1 : ∀ j o, ops[j]? = some o → ∀ e ∈ o.after, Region.binds md e = true → e.on < j)
    (h2 : ∀ i j oi oj, ops[i]? = some oi → ops[j]? = some oj → i < j → (∀ e ∈ oj.after, Region.binds md e = true → e.on ≠ i) → oi.apart ops oj = true)
    (h3 : ∀ i, kdOf all i ≠ .e) : ∀ (l : List (Nat × Kd)) (k : Nat) (listed : Array Bool) (fr : PF) (st : St), listed.size = ops.size → (∀ j, j < ops.size → listed[j]? = some (decide (j < k))) → l.map (·.1) = List.range' k l.length → k + l.length = ops.size → (∀ x ∈ l, kdOf all x.1 = x.2) → DC md ops listed → POrd P n ops Q l fr st → gAny P md ops n (kdOf all) (fun g s => ∃ fr : PF, fr.get = g ∧ Q fr s) l.length listed fr.get st := by
  intro l
  induction l with
  | nil =>
    intro k listed fr st hsz hl hm hn hk hdc h
    refine ⟨List.eq_nil_iff_forall_not_mem.2 fun j hj => ?_, fr, rfl, h⟩
    obtain ⟨hu, o, ho, -⟩ := mem_ready.1 hj
    have hlt : j < ops.size := (Array.getElem?_eq_some_iff.1 ho).1
    have hlj := hl j hlt
    have hjk : j < k := by simp at hn; omega
    rw [Array.getD_eq_getD_getElem?, hlj] at hu
    simp [hjk] at hu
  | cons x rest ih =>
    intro k listed fr st hsz hl hm hn hk hdc h
    obtain ⟨i, kk⟩ := x
    simp only [List.map_cons, List.length_cons, List.range'_succ, List.cons.injEq] at hm
    obtain ⟨hik, hm⟩ := hm
    subst hik
    have hki : kdOf all i = kk := hk (i, kk) (by simp)
    obtain ⟨o, ho, hd, h⟩ := h
    have hlt : i < ops.size := (Array.getElem?_eq_some_iff.1 ho).1
    have hr' : i ∈ Region.ready md ops listed := by
      refine mem_ready.2 ⟨?_, o, ho, fun e he hb => ?_⟩
      · rw [Array.getD_eq_getD_getElem?, hl i hlt]; simp
      · have he1 := h1 i o ho e he hb
        rw [Array.getD_eq_getD_getElem?, hl e.on (by omega)]; simp [he1]
    have free : ∀ j oj, ops[j]? = some oj → j ≠ i → listed.getD j true = false → (∀ e ∈ oj.after, Region.binds md e = true → e.on ≠ i) → o.apart ops oj = true := by
      intro j oj hj hji hun hno
      have hjl : j < ops.size := (Array.getElem?_eq_some_iff.1 hj).1
      rw [Array.getD_eq_getD_getElem?, hl j hjl] at hun
      simp at hun
      exact h2 i j o oj ho hj (by omega) hno
    have nxt : ∀ p s, POrd P n ops Q rest (fr.put o.dst p) s → gAny P md ops n (kdOf all) (fun g s => ∃ fr : PF, fr.get = g ∧ Q fr s) rest.length (listed.setIfInBounds i true) (gput fr.get o.dst p) s := fun p s hp => by
      rw [← Qgj]
      refine ih (i + 1) _ _ s (by simpa using hsz) (fun j hj => ?_) hm (by simp at hn; omega) (fun x hx => hk x (List.mem_cons_of_mem _ hx)) (hdc.set hr') hp
      by_cases hji : i = j
      · subst hji
        rw [Array.getElem?_setIfInBounds_self_of_lt (by omega)]
        simp
      · rw [Array.getElem?_setIfInBounds_ne hji, hl j hj]
        congr 1
        apply decide_eq_decide.2
        omega
    have hy : ∃ p, gYields P ops n (kdOf all i) o p fr.get st ∧ POrd P n ops Q rest (fr.put o.dst p) st := by
      cases kk with
      | a =>
        rw [hki]
        rcases h with ⟨e1, e2⟩ | ⟨e1, p, e2, e3⟩
        · exact ⟨_, ⟨hd, .inl ⟨by rw [Qau]; exact e1, rfl⟩⟩, e2⟩
        · exact ⟨p, ⟨hd, .inr ⟨by rw [Qau]; exact e1, by rw [Qch]; exact e2⟩⟩, e3⟩
      | b =>
        rw [hki]
        rcases h with ⟨e1, e2⟩ | ⟨e1, p, e2, e3⟩
        · exact ⟨_, ⟨hd, .inl ⟨by rw [Qau]; exact e1, rfl⟩⟩, e2⟩
        · exact ⟨p, ⟨hd, .inr ⟨by rw [Qau]; exact e1, by rw [Qch]; exact e2⟩⟩, e3⟩
      | e => exact absurd hki (h3 i)
    obtain ⟨p, hy, hp⟩ := hy
    exact Qit ho _ listed _ st hdc free (fun _ j hj => absurd hj (h3 j)) hr' hy (nxt p st hp)
def makesB (f : Nat → Bool) (t : Tmp) : Nat → List (Option Tmp) → Bool
 | _, [] => true
 | i, d :: r => (match d with | some u => !(Nat.beq u t) || f i | none => true) && makesB f t (i + 1) r
theorem Qjh {f : Nat → Bool} {t : Tmp} : ∀ (l : List (Option Tmp)) (k : Nat), makesB f t k l = true → ∀ i, l[i]? = some (some t) → f (k + i) = true
  | [], k, _, i, h => by simp at h
  | d :: r, k, hb, 0, h => by
    simp only [List.getElem?_cons_zero, Option.some.injEq] at h
    subst h
    simp only [makesB, Bool.and_eq_true] at hb
    have := hb.1
    simp only [Nat.beq_eq_true_eq, Bool.or_eq_true, Bool.not_eq_true'] at this
    rcases this with h | h
    · have : Nat.beq t t = true := Nat.beq_refl t
      rw [this] at h; cases h
    · simpa using h
  | d :: r, k, hb, i + 1, h => by
    simp only [makesB, Bool.and_eq_true] at hb
    have := Qjh r (k + 1) hb.2 i (by simpa using h)
    rw [show k + (i + 1) = k + 1 + i by omega]; exact this
def leanB (md : Region.Mode) (ops : Array Oper) (ds : List (Option Tmp)) : Nat → List Oper → Bool
 | _, [] => true
 | j, o :: r => (o.after.all fun e => !Region.binds md e || Nat.blt e.on j) && ((o.looksAt ops).all fun t => makesB (fun i => o.after.any fun e => Region.binds md e && Nat.beq e.on i) t 0 ds) && (match o.dst with | some t => makesB (fun i => Nat.beq i j) t 0 ds | none => true) && leanB md ops ds (j + 1) r
theorem Qiu {ds : List (Option Tmp)} : ∀ (l : List Oper) (k : Nat), leanB md ops ds k l = true → ∀ i o, l[i]? = some o → (∀ e ∈ o.after, Region.binds md e = true → e.on < k + i) ∧ (∀ t ∈ o.looksAt ops, ∀ m, ds[m]? = some (some t) → ∃ e ∈ o.after, Region.binds md e = true ∧ e.on = m) ∧ (∀ t, o.dst = some t → ∀ m, ds[m]? = some (some t) → m = k + i)
  | [], k, _, i, o, h => by simp at h
  | q :: r, k, hb, 0, o, h => by
    simp only [List.getElem?_cons_zero, Option.some.injEq] at h
    subst h
    simp only [leanB, Bool.and_eq_true] at hb
    obtain ⟨⟨⟨b1, b2⟩, b3⟩, -⟩ := hb
    refine ⟨fun e he hbd => ?_, fun t ht m hm => ?_, fun t ht m hm => ?_⟩
    · have := Array.all_eq_true'.1 b1 e he
      simp only [hbd, Bool.not_true, Bool.false_or] at this
      rw [Nat.blt_eq] at this
      omega
    · have := Qjh ds 0 (List.all_eq_true.1 b2 t ht) m hm
      obtain ⟨e, he, h⟩ := Array.any_eq_true'.1 this
      rw [Bool.and_eq_true] at h
      have h2 := Nat.eq_of_beq_eq_true h.2
      exact ⟨e, he, h.1, by omega⟩
    · rw [ht] at b3
      have := Qjh ds 0 b3 m hm
      have h2 := Nat.eq_of_beq_eq_true this
      omega
  | q :: r, k, hb, i + 1, o, h => by
    simp only [leanB, Bool.and_eq_true] at hb
    have := Qiu r (k + 1) hb.2 i o (by simpa using h)
    rw [show k + (i + 1) = k + 1 + i by omega]; exact this
theorem lean_apart (h : leanB md ops (ops.toList.map (·.dst)) 0 ops.toList = true) : ∀ i j oi oj, ops[i]? = some oi → ops[j]? = some oj → i < j → (∀ e ∈ oj.after, Region.binds md e = true → e.on ≠ i) → oi.apart ops oj = true := by
  intro i j oi oj hi hj hij hno
  have hi' : ops.toList[i]? = some oi := by simpa using hi
  have hj' : ops.toList[j]? = some oj := by simpa using hj
  obtain ⟨a1, a2, a3⟩ := Qiu _ 0 h i oi hi'
  obtain ⟨b1, b2, b3⟩ := Qiu _ 0 h j oj hj'
  have di : ∀ d, oi.dst = some d → (ops.toList.map (·.dst))[i]? = some (some d) := fun d hd => by rw [List.getElem?_map, hi']; simp [hd]
  have dj : ∀ d, oj.dst = some d → (ops.toList.map (·.dst))[j]? = some (some d) := fun d hd => by rw [List.getElem?_map, hj']; simp [hd]
  have x1 : ∀ d, oi.dst = some d → d ∉ oj.looksAt ops := fun d hd hm => by
    obtain ⟨e, he, h1, h2⟩ := b2 d hm i (di d hd)
    exact hno e he h1 h2
  have x2 : ∀ d, oi.dst = some d → oj.dst ≠ some d := fun d hd hm => by
    have := b3 d hm i (di d hd)
    omega
  have x3 : ∀ d, oj.dst = some d → d ∉ oi.looksAt ops := fun d hd hm => by
    obtain ⟨e, he, h1, h2⟩ := a2 d hm j (dj d hd)
    have := a1 e he h1
    omega
  unfold Oper.apart
  cases hdi : oi.dst with
  | none =>
    cases hdj : oj.dst with
    | none => rfl
    | some d => simpa using x3 d hdj
  | some c =>
    have y1 := x1 c hdi
    have y2 := x2 c hdi
    cases hdj : oj.dst with
    | none => simpa [hdj] using y1
    | some d =>
      rw [hdj] at y2
      have y3 := x3 d hdj
      simp only [Bool.and_eq_true, Bool.not_eq_true', bne_iff_ne, ne_eq]
      refine ⟨⟨by simpa using y1, y2⟩, by simpa using y3⟩
def noneActs (l : List (Nat × Kd)) : Bool := l.all fun x => match x.2 with | .e => false | _ => true
theorem kdOf_none : ∀ (l : List (Nat × Kd)), noneActs l = true → ∀ i, kdOf l i ≠ .e
  | [], _, i => by simp [kdOf]
  | (j, k) :: r, h, i => by
    simp only [noneActs, List.all_cons, Bool.and_eq_true] at h
    unfold kdOf
    split
    · intro e; rw [e] at h; exact absurd h.1 (by simp)
    · exact kdOf_none r h.2 i
theorem kdOf_range : ∀ (l : List (Nat × Kd)) (k : Nat), l.map (·.1) = List.range' k l.length → ∀ x ∈ l, kdOf l x.1 = x.2
  | [], k, _, x, hx => by cases hx
  | (j, c) :: r, k, h, x, hx => by
    simp only [List.map_cons, List.length_cons, List.range'_succ, List.cons.injEq] at h
    rcases List.mem_cons.1 hx with rfl | hx
    · simp [kdOf]
    · have h1 := kdOf_range r (k + 1) h.2 x hx
      have h2 : x.1 ∈ r.map (·.1) := List.mem_map_of_mem hx
      rw [h.2, List.mem_range'_1] at h2
      have h3 : j ≠ x.1 := by have := h.1; omega
      simp only [kdOf, if_neg h3]
      exact h1
theorem PW_drawnI {id : Nat} {Q : Exit → PF → St → Prop} {fr : PF} {st : St} (order : List (Nat × Kd)) (hm : P.follows .mixedOrders = true) (hlen : order.length = ops.size) (hI : order.map (·.1) = List.range' 0 order.length) (hN : noneActs order = true) (hB : leanB .any ops (ops.toList.map (·.dst)) 0 ops.toList = true) (h : POrd P n ops (Q .normal) order fr st) : PW P n (.region id ops true) Q fr st := by
 intro F K w a hr hf
 have hdc : DC .any ops (Array.replicate ops.size false) := fun j o ho hj => by
  exfalso
  have hlt : j < ops.size := (Array.getElem?_eq_some_iff.1 ho).1
  simp [hlt] at hj
 have hx : Ext F K w K { w with drawn := w.drawn + 1 } := ⟨rfl, rfl, rfl, Nat.le_refl _, fun _ _ => rfl, fun _ _ h => ⟨h, rfl⟩, fun _ _ h => .inl h, fun _ _ h => h, fun g u h => ⟨u, h, .inl rfl⟩, fun _ _ => rfl⟩
 have hr2 : Rel F st K { w with drawn := w.drawn + 1 } := ⟨hr.kc, hr.ff, hr.fin, hr.fi, fun e he => (hr.ents e he).keep hx (fun _ _ => rfl) (fun _ _ _ h => h) fun _ _ => rfl, hr.nb, hr.nt⟩
 have hany := gAny_ordI (md := .any) (all := order) (fun j o ho e he hb => by
   have := (Qiu _ 0 hB j o (by simpa using ho)).1 e he hb
   omega) (lean_apart hB) (kdOf_none order hN) order 0 _ fr st (by simp) (fun j hj => by simp [hj]) hI (by rw [Nat.zero_add]; exact hlen) (kdOf_range order 0 hI) hdc h
 rw [hlen] at hany
 exact wp_region_any hm (wpAny_gAny (K0 := K) (w0 := w) (F := F) (Q := fun g s => ∃ fr : PF, fr.get = g ∧ Q .normal fr s) (fun K' w' a' g' st' h1 h2 h3 ⟨fr', e, h4⟩ => ⟨K', fr', st', h1, h2, by subst e; exact h3.fr, h4⟩) _ _ _ st K _ a hx hr2 (hf.mono hx).fg hany)
end
theorem Qjr {P : Program} {o : Oper} {ρ : Operand → Option PV} {s x : Operand} {t xt : TypeId} (ho : o.op = .call { callee := .builtin .append, args := #[s, x], argTypes := #[t, xt] }) (hs : ρ s = some .nils) {p : PV} (hx : ρ x = some p) {rows' : List (List D)} (hp : p.src = some rows')
    {T : Ty} (hT : tyOf P t = some T) {E es bytes : Nat} {ea : Option Bool} (hk : T.k = .slice E es ea) (hX : Qce ((tyOf P xt).map (·.k)) = true) (hE : elOf P E = some (es, bytes)) (hes : 0 < es) (hl : ∀ row ∈ rows', row.length = es) (hne : 0 < rows'.length) (h63 : rows'.length ≤ maxLen) (hb : rows'.length * bytes ≤ 140737488355328) {st : St} {R : PV → St → Prop}
    (h : ∀ i c, rows'.length ≤ c → c ≤ maxLen → st.freshB i → R (.bsl i rows'.length c) (.box i E (boxC rows' es c) :: st)) : POp P o ρ st R := by
  refine POp.of_run fun F K w a h1 h2 => ?_
  obtain ⟨dst, op, ty, pos, after, guard⟩ := o
  simp only at ho h2
  subst ho
  obtain ⟨d, hd, rfl⟩ := Qbi hT
  have hr := h2 s (by simp [Op.operands, Call.operands]) _ hs
  have hv := h2 x (by simp [Op.operands, Call.operands]) _ hx
  cases d with
  | slice E' =>
    simp only [tyK, TyK.slice.injEq] at hk
    obtain ⟨rfl, hes', rfl⟩ := hk
    obtain ⟨ie, z, hie, hz, hsz, hby, hzs⟩ := Qgr hE
    obtain ⟨dx, hdx, hnz⟩ : ∃ dx, P.underlying xt = some dx ∧ ∀ k, dx ≠ .int k := by
      unfold tyOf at hX
      cases hq : P.underlying xt with
      | none => rw [hq] at hX; cases hX
      | some dx =>
        rw [hq] at hX
        refine ⟨dx, rfl, fun k e => ?_⟩
        subst e
        simp [Qce, tyK] at hX
    generalize hva : a.eval s = va at hr
    cases hr with
    | nils =>
    obtain ⟨news, hnews, hsrc⟩ := src_of (P := P) hp hv hes hl
    obtain ⟨cap, arr, hrun, hown⟩ := Qjz (P := P) w t xt ty E' hd hdx hnz hie hz hsz hby hzs (a := none) (n := 0) (xs := []) (by simp) (fun _ => rfl) (fun ad h => by cases h) hsrc hnews.1 hne (by omega) (by rw [Nat.zero_add]; exact hb)
    simp only [Nat.zero_add, List.nil_append] at hrun hown
    have hx1 : Ext F K w K w.drew := ⟨rfl, rfl, rfl, Nat.le_refl _, fun _ _ => rfl, fun _ _ h => ⟨h, rfl⟩, fun _ _ h => .inl h, fun _ _ h => h, fun g u h => ⟨u, h, .inl rfl⟩, fun _ _ => rfl⟩
    have hr1 : Rel F st K w.drew := ⟨h1.kc, h1.ff, h1.fin, h1.fi, fun e he => (h1.ents e he).keep hx1 (fun _ _ => rfl) (fun _ _ _ h => h) fun _ _ => rfl, h1.nb, h1.nt⟩
    obtain ⟨hnl, hown2⟩ := hown
    rcases hown2 with ⟨h0, _⟩ | ⟨b', cap', cur, hq, _, hh, hle, hm, hcs, htake⟩
    · cases h0
    simp only [Value.slice.injEq, Option.some.injEq, Addr.mk.injEq, true_and, and_true] at hq
    obtain ⟨rfl, rfl⟩ := hq
    have hcur : cur = arr := by
      have h5 := heap_alloc_new w.drew (.cells arr E')
      have h6 : w.drew.heap.size = w.heap.size := rfl
      rw [h6] at h5
      rw [h5] at hh
      simpa using hh.symm
    subst hcur
    have hbl : (boxC rows' es cap).length = cap * es := boxC_len hl hle
    obtain ⟨i, hi, hfr, hx2, hr2⟩ := hr1.newBox (arr := cur) (T := E') (ps := boxC rows' es cap) (by rw [hcs, hbl]) fun j q v hq hv => by
      unfold boxC at hq
      by_cases hj : j < rows'.flatten.length
      · rw [List.getElem?_append_left (by rw [List.length_map]; exact hj), List.getElem?_map, List.getElem?_eq_getElem hj] at hq
        obtain rfl := Option.some.inj hq
        have hfl := Qgg rows' hl
        have hri : j / es < rows'.length := by rw [hfl] at hj; exact (Nat.div_lt_iff_lt_mul hes).2 hj
        have hjm := Nat.mod_lt j hes
        have hdm : j / es * es + j % es = j := by rw [Nat.mul_comm]; exact Nat.div_add_mod j es
        have hrl := hl _ (List.getElem_mem hri)
        have h8 := Qgh rows' (j / es) (j % es) rows'[j / es] (rows'[j / es][j % es]'(by omega)) hl (List.getElem?_eq_getElem hri) (List.getElem?_eq_getElem (by omega))
        rw [hdm, List.getElem?_eq_getElem hj] at h8
        rw [Option.some.inj h8]
        obtain ⟨y, h9, h10⟩ := hnews.2.2 (j / es) (j % es) _ _ (List.getElem?_eq_getElem hri) (List.getElem?_eq_getElem (by omega))
        rw [hdm] at h9
        rw [← htake, List.getElem?_take] at h9
        split at h9
        · have h11 : cur[j]? = some y := by simpa using h9
          rw [hv] at h11
          obtain rfl := Option.some.inj h11
          exact .d (h10.mono hx1.kp)
        · cases h9
      · rw [List.getElem?_append_right (by rw [List.length_map]; omega)] at hq
        have := List.mem_of_getElem? hq
        rw [List.mem_replicate] at this
        rw [this.2]
        exact .u
    refine ⟨.slice (some ⟨w.heap.size, 0, none⟩) rows'.length cap, _, _, .bsl i rows'.length cap, _, ?_, hx1.trans hx2, hr2, .bsl (by simp [Kp.addBox]) hle hm, h i cap hle hm hfr⟩
    simp only [execOp, resolve, invoke, builtin, Sem.run_bind, Sem.run_pure, Result.andThen_ok, List.map_toArray, List.map_cons, List.map_nil, hva, hrun]
  | _ => simp [tyK] at hk
theorem Rel.move {F : Fz} {st : St} {K : Kp} {w w' : World} (h : Rel F st K w) {q : Nat} (os : w'.os = w.os) (tape : w'.tape = w.tape) (out : w'.output = w.output) (size : w.heap.size ≤ w'.heap.size) (ho : ∀ k, k < w.heap.size → k ≠ q → w'.heap[k]? = w.heap[k]?)
  (hF : ¬ F.blk q) (hK : ∀ o, ¬ K.cell q o) (hS : ∀ e ∈ st, e.block K ≠ some q) : Ext F K w K w' ∧ Rel F st K w' := by
 have hcell : ∀ c o, K.cell c o → w'.heap[c]? = w.heap[c]? := fun c o hc => ho c (h.klt hc) fun e => hK o (e ▸ hc)
 have hx : Ext F K w K w' := ⟨os, tape, out, size, fun c hc => ho c (h.ff c hc) fun e => hF (e ▸ hc), fun c o hc => ⟨hc, World.cell?_of_block (w := w) (a := ⟨c, o, none⟩) (hcell c o hc)⟩, fun c o hc => .inl hc, fun _ _ h => h, fun g u hu => ⟨u, hu, .inl rfl⟩, fun _ _ => rfl⟩
 refine ⟨hx, ⟨fun c o hc => ?_, fun c hc => by have := h.ff c hc; omega, h.fin, h.fi, fun e he => ?_, h.nb, h.nt⟩⟩
 ·obtain ⟨v, hv⟩ := h.kc c o hc
  exact ⟨v, (hx.kp c o hc).2.trans hv⟩
 ·exact (h.ents e he).keep hx (fun b hb => ho b ((h.ents e he).lt hb).1 fun e2 => hS e he (e2 ▸ hb)) (fun _ _ _ h => h) fun _ _ => rfl
theorem Rel.adoptS {F : Fz} {st : St} {K : Kp} {w : World} (h : Rel F st K w) {arr : Array Value} {T : TypeId} {ps : List PV} {b : Nat} (hb : w.heap[b]? = some (.cells arr T)) (hF : ¬ F.blk b) (hK : ∀ o, ¬ K.cell b o) (hS : ∀ e ∈ st, e.block K ≠ some b) (hs : arr.size = ps.length) (hc : ∀ (j : Nat) (p : PV) (v : Value), ps[j]? = some p → arr[j]? = some v → RelV K w p v) :
    ∃ i, St.freshB st i ∧ Ext F K w (K.addBox i b) w ∧ Rel F (.box i T ps :: st) (K.addBox i b) w := by
  obtain ⟨nx, hnx⟩ := h.fin
  have hnone : K.box nx = none := (hnx nx (Nat.le_refl _)).1
  have hkb : ∀ j b', K.box j = some b' → (K.addBox nx b).box j = some b' := fun j b' hj => by
    simp only [Kp.addBox]
    rw [if_neg (by intro e; subst e; rw [hnone] at hj; cases hj)]; exact hj
  have hx : Ext F K w (K.addBox nx b) w := ⟨rfl, rfl, rfl, Nat.le_refl _, fun _ _ => rfl, fun b o h => ⟨h, rfl⟩, fun b o h => .inl h, hkb, fun g u h => ⟨u, h, .inl rfl⟩, fun _ _ => rfl⟩
  have hmap : ∀ e ∈ st, e.block (K.addBox nx b) = e.block K := fun e he => by
    cases e with
    | box i U cs =>
      obtain ⟨b', arr, h1, -⟩ := h.ents _ he
      simp only [Ent.block, h1]; exact hkb i b' h1
    | tok g E sz n => rfl
    | obj i ok =>
      obtain ⟨b', o, h1, -⟩ := h.ents _ he
      simp only [Ent.block, h1]; exact hkb i b' h1
  refine ⟨nx, fun e he hid => ?_, hx, ⟨fun b o hc => h.kc b o hc, h.ff, ⟨nx + 1, fun j hj => ?_⟩, h.fi, fun e he => ?_, ?_, ?_⟩⟩
  · cases e with
    | box i U cs =>
      simp only [Ent.bid, Option.some.injEq] at hid
      subst hid
      obtain ⟨b', arr, h1, -⟩ := h.ents _ he
      rw [hnone] at h1; cases h1
    | tok => cases hid
    | obj i ok =>
      simp only [Ent.bid, Option.some.injEq] at hid
      subst hid
      obtain ⟨b', o, h1, -⟩ := h.ents _ he
      rw [hnone] at h1; cases h1
  · simp only [Kp.addBox]
    rw [if_neg (by omega)]
    exact hnx j (by omega)
  · rcases List.mem_cons.1 he with rfl | he
    · exact ⟨b, arr, by simp [Kp.addBox], hF, hb, hs, fun j p v hp hv => (hc j p v hp hv).mono hx, hK⟩
    · exact (h.ents e he).keep hx (fun _ _ => rfl) (fun _ _ _ h => h) fun _ _ => rfl
  · rw [List.filterMap_cons]
    simp only [Ent.block, Kp.addBox, if_true]
    have e2 : st.filterMap (Ent.block (K.addBox nx b)) = st.filterMap (Ent.block K) := Qep hmap
    simp only [Kp.addBox] at e2
    rw [List.nodup_cons]
    refine ⟨fun hm => ?_, by rw [e2]; exact h.nb⟩
    rw [e2] at hm
    obtain ⟨e, he, hb'⟩ := List.mem_filterMap.1 hm
    exact hS e he hb'
  · simpa [List.filterMap_cons, Ent.tid] using h.nt
theorem POp_appB {P : Program} {o : Oper} {ρ : Operand → Option PV} {s x : Operand} {t xt : TypeId} (ho : o.op = .call { callee := .builtin .append, args := #[s, x], argTypes := #[t, xt] }) {i n c : Nat} (hs : ρ s = some (.bsl i n c)) {p : PV} (hx : ρ x = some p) {rows' : List (List D)} (hp : p.src = some rows')
    {T : Ty} (hT : tyOf P t = some T) {E es bytes : Nat} {ea : Option Bool} (hk : T.k = .slice E es ea) (hX : Qce ((tyOf P xt).map (·.k)) = true) (hE : elOf P E = some (es, bytes)) (hes : 0 < es) (hl : ∀ row ∈ rows', row.length = es) (hne : 0 < rows'.length) (h63 : n + rows'.length ≤ maxLen) (hb : (n + rows'.length) * bytes ≤ 140737488355328)
    {st st0 : St} {A X : List PV} (hst : st.Perm (.box i E (A ++ X) :: st0)) (hA : A.length = n * es) (hAX : (A ++ X).length = c * es) {R : PV → St → Prop}
    (h : ∀ (i' c' : Nat) (X' : List PV), n + rows'.length ≤ c' → c' ≤ maxLen → st0.freshB i' → (A ++ rows'.flatten.map PV.d ++ X').length = c' * es → R (.bsl i' (n + rows'.length) c') (.box i' E (A ++ rows'.flatten.map PV.d ++ X') :: st0)) : POp P o ρ st R := by
  refine POp.of_run fun F K w a h1 h2 => ?_
  obtain ⟨dst, op, ty, pos, after, guard⟩ := o
  simp only at ho h2
  subst ho
  obtain ⟨d, hd, rfl⟩ := Qbi hT
  have hr := h2 s (by simp [Op.operands, Call.operands]) _ hs
  have hv := h2 x (by simp [Op.operands, Call.operands]) _ hx
  cases d with
  | slice E' =>
    simp only [tyK, TyK.slice.injEq] at hk
    obtain ⟨rfl, hes', rfl⟩ := hk
    obtain ⟨ie, z, hie, hz, hsz, hby, hzs⟩ := Qgr hE
    obtain ⟨dx, hdx, hnz⟩ : ∃ dx, P.underlying xt = some dx ∧ ∀ k, dx ≠ .int k := by
      unfold tyOf at hX
      cases hq : P.underlying xt with
      | none => rw [hq] at hX; cases hX
      | some dx =>
        rw [hq] at hX
        refine ⟨dx, rfl, fun k e => ?_⟩
        subst e
        simp [Qce, tyK] at hX
    generalize hva : a.eval s = va at hr
    have h1p := h1.perm hst
    have hr0 : Rel F st0 K w := h1p.sub (List.sublist_cons_self ..)
    obtain ⟨b0, arr, hb0, hnf, hheap, hasz, harel, hank⟩ := h1p.ents (.box i E' (A ++ X)) (by simp)
    cases hr with
    | bsl hbi hnc hcm =>
    rw [hb0] at hbi
    obtain rfl := Option.some.inj hbi
    obtain ⟨news, hnews, hsrc⟩ := src_of (P := P) hp hv hes hl
    have hle0 : n * es ≤ c * es := Nat.mul_le_mul_right _ hnc
    have hown : w.ownsRow 0 E' es (.slice (some ⟨b0, 0, none⟩) n c) n (arr.toList.take (n * es)) := ⟨by rw [List.length_take, Array.length_toList, hasz, hAX]; omega, .inr ⟨b0, c, arr, rfl, Nat.zero_le _, hheap, hnc, hcm, by rw [hasz, hAX], rfl⟩⟩
    obtain ⟨v', w', hrun, ho', hsl, hvn, e1, e2, e3, hsize, hfr, hblk⟩ := Qig (P := P) w t xt ty E' hd hdx hnz hie hz hsz hby hzs hown hsrc hnews.1 (hnews.ones hes) h63 hb
    obtain ⟨hnl, hown2⟩ := ho'
    rcases hown2 with ⟨rfl, _⟩ | ⟨q, cap, cur, rfl, _, hq, hle, hm, hcs, htake⟩
    · simp only [slen] at hsl; omega
    have hqb : q < w.heap.size → q = b0 := fun hlt => by
      have := (hblk q rfl hlt).1
      simp only [Value.ownBlock, Option.some.injEq] at this
      exact this.symm
    have hqF : ¬ F.blk q := fun hf => by
      have h3 := h1.ff q hf
      rw [hqb h3] at hf; exact hnf hf
    have hqK : ∀ o, ¬ K.cell q o := fun o hc => by
      have h3 := h1.klt hc
      rw [hqb h3] at hc; exact hank o hc
    have hqS : ∀ e ∈ st0, e.block K ≠ some q := fun e he hbk => by
      have h3 := ((hr0.ents e he).lt hbk).1
      rw [hqb h3] at hbk
      have hnb := h1p.nb
      rw [List.filterMap_cons] at hnb
      simp only [Ent.block, hb0] at hnb
      rw [List.nodup_cons] at hnb
      exact hnb.1 (List.mem_filterMap.2 ⟨e, he, hbk⟩)
    obtain ⟨hx1, hr1⟩ := hr0.move (q := q) e1 e2 e3 hsize (fun k hk hne => hfr k hk (by simp only [Value.ownBlock, ne_eq, Option.some.injEq]; exact fun e => hne e.symm)) hqF hqK hqS
    have hfl := Qgg rows' hl
    have hmul : (n + rows'.length) * es = n * es + rows'.length * es := Nat.add_mul ..
    have hlec : (n + rows'.length) * es ≤ cap * es := Nat.mul_le_mul_right _ hle
    have hlen : (A ++ rows'.flatten.map PV.d ++ List.replicate (cap * es - (n + rows'.length) * es) PV.u).length = cap * es := by
      rw [List.length_append, List.length_append, List.length_map, List.length_replicate, hA, hfl]; omega
    obtain ⟨i', hfr', hx2, hr2⟩ := hr1.adoptS (ps := A ++ rows'.flatten.map PV.d ++ List.replicate (cap * es - (n + rows'.length) * es) PV.u) hq hqF hqK hqS (by rw [hcs, hlen]) fun j pv v hpv hv => by
      rw [List.append_assoc] at hpv
      by_cases hj : j < A.length
      · rw [List.getElem?_append_left hj] at hpv
        have h5 : (A ++ X)[j]? = some pv := by rw [List.getElem?_append_left hj]; exact hpv
        have h6 : (cur.toList.take ((n + rows'.length) * es))[j]? = some v := by rw [List.getElem?_take, if_pos (by omega)]; simpa using hv
        rw [htake, List.getElem?_append_left (by rw [List.length_take, Array.length_toList, hasz, hAX]; omega), List.getElem?_take, if_pos (by omega)] at h6
        exact (harel j pv v h5 (by simpa using h6)).mono hx1
      · rw [List.getElem?_append_right (by omega)] at hpv
        by_cases hj2 : j - A.length < rows'.flatten.length
        · rw [List.getElem?_append_left (by rw [List.length_map]; exact hj2), List.getElem?_map, List.getElem?_eq_getElem hj2] at hpv
          obtain rfl := Option.some.inj hpv
          have hri : (j - A.length) / es < rows'.length := by rw [hfl] at hj2; exact (Nat.div_lt_iff_lt_mul hes).2 hj2
          have hjm := Nat.mod_lt (j - A.length) hes
          have hdm : (j - A.length) / es * es + (j - A.length) % es = j - A.length := by rw [Nat.mul_comm]; exact Nat.div_add_mod _ es
          have hrl := hl _ (List.getElem_mem hri)
          have h8 := Qgh rows' ((j - A.length) / es) ((j - A.length) % es) rows'[(j - A.length) / es] (rows'[(j - A.length) / es][(j - A.length) % es]'(by omega)) hl (List.getElem?_eq_getElem hri) (List.getElem?_eq_getElem (by omega))
          rw [hdm, List.getElem?_eq_getElem hj2] at h8
          rw [Option.some.inj h8]
          obtain ⟨y, h9, h10⟩ := hnews.2.2 ((j - A.length) / es) ((j - A.length) % es) _ _ (List.getElem?_eq_getElem hri) (List.getElem?_eq_getElem (by omega))
          rw [hdm] at h9
          have h6 : (cur.toList.take ((n + rows'.length) * es))[j]? = some v := by rw [List.getElem?_take, if_pos (by omega)]; simpa using hv
          have hxl : (arr.toList.take (n * es)).length = A.length := by rw [List.length_take, Array.length_toList, hasz, hAX, hA]; omega
          rw [htake, List.getElem?_append_right (by omega), hxl, h9] at h6
          obtain rfl := Option.some.inj h6
          exact .d (h10.mono hx1.kp)
        · rw [List.getElem?_append_right (by rw [List.length_map]; omega)] at hpv
          have := List.mem_of_getElem? hpv
          rw [List.mem_replicate] at this
          rw [this.2]
          exact .u
    refine ⟨.slice (some ⟨q, 0, none⟩) (n + rows'.length) cap, w', K.addBox i' q, .bsl i' (n + rows'.length) cap, _, ?_, hx1.trans hx2, hr2, .bsl (by simp [Kp.addBox]) hle hm, h i' cap _ hle hm hfr' hlen⟩
    simp only [execOp, resolve, invoke, builtin, Sem.run_bind, Sem.run_pure, Result.andThen_ok, List.map_toArray, List.map_cons, List.map_nil, hva, hrun]
  | _ => simp [tyK] at hk
theorem spl_mid (A ds X ps : List PV) (h : ds.length = ps.length) : spl (A ++ ds ++ X) A.length ps = A ++ ps ++ X := by
 unfold spl
 have e1 : (A ++ ds ++ X).take A.length = A := by rw [List.append_assoc]; exact List.take_left
 have e2 : (A ++ ds ++ X).drop (A.length + ps.length) = X := by rw [← h, ← List.length_append]; exact List.drop_left
 rw [e1, e2]
theorem Qjl {P : Program} (w : World) (d : Nat) {t : TypeId} {a b : Array TypeId} {c : Bool} {f : Fn} {x y : Array Value} (h : P.underlying t = some (.func a b c)) :
  (Op.equalIn (d + 1) t (.func f x y) .nilFunc).run P w = .ok false w := by
 simp [Op.equalIn, run_underlying h]
theorem run_eql_fn_nil {P : Program} (w : World) {t : TypeId} {a b : Array TypeId} {c : Bool} {f : Fn} {x y : Array Value} (h : P.underlying t = some (.func a b c)) :
  (binOp .eql t (.func f x y) .nilFunc).run P w = .ok (.bool false) w := by
 simp only [binOp]
 simp [Op.equal, Op.maxDepth, Qjl w 9999 h]
theorem POp_eqlFn {P : Program} {o : Oper} {ρ : Operand → Option PV} {st : St} {R : PV → St → Prop} {t t2 : TypeId} {x : Operand} (ho : o.op = .binOp .eql t x (.const .nilFunc) t2) {f : Fn} {ps qs : List PV} (hx : ρ x = some (.fn f ps qs)) {a b : Array TypeId} {c : Bool} (ht : P.underlying t = some (.func a b c)) (h2 : R (.d (.v (.bool false))) st) : POp P o ρ st R := by
 refine POp.of_run fun F K w a' h1' h2' => ?_
 obtain ⟨dst, op, ty, pos, after, guard⟩ := o
 simp only at ho h2'
 subst ho
 have hr := h2' x (by simp [Op.operands]) _ hx
 generalize hvm : a'.eval x = vm at hr
 obtain ⟨u, v, rfl⟩ : ∃ (u v : Array Value), vm = .func f u v := by
  cases hr with
  | fn _ _ _ _ => exact ⟨_, _, rfl⟩
 have hq := run_eql_fn_nil (P := P) w (f := f) (x := u) (y := v) ht
 refine ⟨.bool false, w, K, _, st, ?_, Ext.refl _ _ _, h1', .d (.v trivial), h2⟩
 have hg : (eqGuard BinOp.eql t x (.const .nilFunc) (.func f u v) .nilFunc).run P w = .ok () w := by rfl
 have he : a'.eval (.const .nilFunc) = .nilFunc := rfl
 simp only [execOp, hvm, he, Sem.run_bind, Sem.run_pure, hg, Result.andThen_ok, hq]
section
variable {P : Program} {n : Nat} {ops : Array Oper} {Q : PF → St → Prop} {rest : List Oper} {fr : PF} {st : St} {ty : TypeId} {pos : String} {after : Array Edge} {gd : Option (Nat × Bool)} {d : Nat}
theorem Qik {t t2 : TypeId} {a b : Array TypeId} {c : Bool} {x : Operand} {f : Fn} {ps qs : List PV} {p : PV} (h2 : POps P n ops Q rest ((d, .d (.v (.bool false))) :: fr) st) (ht : P.underlying t = some (.func a b c) := by rfl) (hd : d < n := by decide)
  (hw : PF.wants fr ops ⟨some d, .binOp .eql t x (.const .nilFunc) t2, ty, pos, after, gd⟩ = some true := by first | rfl | (simp [nev, nevA, nevB, Jp, PF.eval, PF.get, PF.wants, cPV, Qae, PV.rows, Qaf, evUn, Jq, Qah, Qag, Jn, TyK.agg, Qad, St.box?, St.tok?, St.setBox, St.setTok, Qac, spl, PV.ps, PV.one, Jo, aggD, slD, *]; done)) (hx : fr.eval x = some p := by simp [nev, nevA, nevB, Jp, PF.eval, PF.get, PF.wants, cPV, Qae, PV.rows, Qaf, evUn, Jq, Qah, Qag, Jn, TyK.agg, Qad, St.box?, St.tok?, St.setBox, St.setTok, Qac, spl, PV.ps, PV.one, Jo, aggD, slD, Jh, Jk, Ji, Jj, Jg, Jf, *]; rfl) (hp : p = .fn f ps qs := by rfl) : POps P n ops Q (⟨some d, .binOp .eql t x (.const .nilFunc) t2, ty, pos, after, gd⟩ :: rest) fr st :=
 Qed hd hw (POp_eqlFn (o := ⟨some d, .binOp .eql t x (.const .nilFunc) t2, ty, pos, after, gd⟩) rfl (hp ▸ hx) ht h2)
end
end Go.Proofs.YtdklpbefbamchaaGreat
