import Derived.Test.YtdklpbefbamchaaGreatBA3
import Derived.Deep.RegionLaw
import Derived.Lib.SliceRun
import Derived.Maps.OwnOps
import Derived.Test.YtdklpbefbamchaaGreatBA1
set_option linter.unusedSimpArgs false
set_option linter.unusedVariables false
set_option maxHeartbeats 16000000
set_option maxRecDepth 100000
namespace Go.Proofs.YtdklpbefbamchaaGreat
open Go.RowKit
theorem relD_ok {K : Nat → Nat → Prop} {w : World} {d : D} {v : Value} (h : RelD K w d v) : okv v := by
 cases h with
 | v h => exact h
 | nil _ => trivial
 | sl _ _ _ _ _ _ => trivial
theorem flat_row {α : Type} {sz : Nat} : ∀ (rows : List (List α)) (r j : Nat) (row : List α) (d : α), (∀ row ∈ rows, row.length = sz) → rows[r]? = some row → row[j]? = some d → rows.flatten[r * sz + j]? = some d := by
  intro rows
  induction rows with
  | nil => intro r j row d _ h; simp at h
  | cons x rest ih =>
    intro r j row d hl h hd
    have hx := hl x (by simp)
    rw [List.flatten_cons]
    cases r with
    | zero =>
      simp only [List.getElem?_cons_zero, Option.some.injEq] at h
      subst h
      rw [Nat.zero_mul, Nat.zero_add, List.getElem?_append_left (List.getElem?_eq_some_iff.1 hd).1]
      exact hd
    | succ r =>
      simp only [List.getElem?_cons_succ] at h
      rw [Nat.succ_mul, List.getElem?_append_right (by omega), hx, show r * sz + sz + j - sz = r * sz + j by omega]
      exact ih r j row d (fun y hy => hl y (by simp [hy])) h hd
theorem flat_len {α : Type} {sz : Nat} : ∀ (rows : List (List α)), (∀ row ∈ rows, row.length = sz) → rows.flatten.length = rows.length * sz := by
  intro rows
  induction rows with
  | nil => intro _; simp
  | cons x rest ih =>
    intro hl
    rw [List.flatten_cons, List.length_append, ih (fun y hy => hl y (by simp [hy])), hl x (by simp), List.length_cons, Nat.succ_mul]
    omega
def boxC (rows : List (List D)) (sz c : Nat) : List PV := rows.flatten.map .d ++ List.replicate (c * sz - rows.length * sz) .u
theorem boxC_len {rows : List (List D)} {sz c : Nat} (hl : ∀ row ∈ rows, row.length = sz) (hc : rows.length ≤ c) : (boxC rows sz c).length = c * sz := by
 unfold boxC
 have : rows.length * sz ≤ c * sz := Nat.mul_le_mul_right _ hc
 rw [List.length_append, List.length_map, List.length_replicate, flat_len rows hl]
 omega
theorem Rel.adopt {F : Fz} {K : Kp} {w : World} (h : Rel F [] K w) {arr : Array Value} {T : TypeId} {ps : List PV} {b : Nat} (hb : w.heap[b]? = some (.cells arr T)) (hF : ¬ F.blk b) (hK : ∀ o, ¬ K.cell b o) (hs : arr.size = ps.length) (hc : ∀ (j : Nat) (p : PV) (v : Value), ps[j]? = some p → arr[j]? = some v → RelV K w p v) :
  ∃ i, Ext F K w (K.addBox i b) w ∧ Rel F [.box i T ps] (K.addBox i b) w := by
 obtain ⟨nx, hnx⟩ := h.fin
 have hnone : K.box nx = none := (hnx nx (Nat.le_refl _)).1
 have hkb : ∀ j b', K.box j = some b' → (K.addBox nx b).box j = some b' := fun j b' hj => by
  simp only [Kp.addBox]
  rw [if_neg (by intro e; subst e; rw [hnone] at hj; cases hj)]; exact hj
 have hx : Ext F K w (K.addBox nx b) w := ⟨rfl, rfl, rfl, Nat.le_refl _, fun _ _ => rfl, fun b o h => ⟨h, rfl⟩, fun b o h => .inl h, hkb, fun g u h => ⟨u, h, .inl rfl⟩, fun _ _ => rfl⟩
 refine ⟨nx, hx, ⟨fun b o hc => h.kc b o hc, h.ff, ⟨nx + 1, fun j hj => ?_⟩, h.fi, fun e he => ?_, ?_, ?_⟩⟩
 ·simp only [Kp.addBox]
  rw [if_neg (by omega)]
  exact hnx j (by omega)
 ·obtain rfl := List.mem_singleton.1 he
  exact ⟨b, arr, by simp [Kp.addBox], hF, hb, hs, fun j p v hp hv => (hc j p v hp hv).mono hx, hK⟩
 ·simp [Ent.block, Kp.addBox]
 ·exact (List.nodup_nil : ([] : List Nat).Nodup)
theorem PCalls.boxed {P : Program} {f : FuncId} {E : TypeId} {sz : Nat} {rows : List (List D)} (hsz : 0 < sz) (hne : 0 < rows.length) (hl : ∀ row ∈ rows, row.length = sz)
  (h : ∀ rows' : List (List D), (∀ row ∈ rows', row.length = sz) → rows'.length = rows.length → PCalls P f [.d (.sl rows')] [] fun p s => ∃ g, p = .own g rows' ∧ s = [.tok g E sz rows'.length]) :
  PCalls P f [.d (.sl rows)] [] fun p s => ∃ i c, rows.length ≤ c ∧ c ≤ maxLen ∧ p = .bsl i rows.length c ∧ s = [.box i E (boxC rows sz c)] := by
 intro F K w vs hr ha
 obtain ⟨v, rfl, hv⟩ := ha.one
 cases hv with
 | d hv =>
 generalize hrr : rows = rows0 at hv
 cases hv with
 | nil _ => subst hrr; exact absurd hne (by decide)
 | @sl sz0 _ b0 off0 cap0 vals h1 h2 h3 h4 h5 =>
 subst hrr
 have hszz : sz0 = sz := by
  have hm := List.getElem_mem hne
  rw [← h3 _ hm, hl _ hm]
 subst hszz
 obtain ⟨rows', hrows'⟩ : ∃ rows' : List (List D), rows' = (List.range rows.length).map fun i => (List.range sz0).map fun j => D.v (vals i j) := ⟨_, rfl⟩
 have hlen' : rows'.length = rows.length := by rw [hrows']; simp
 have hl' : ∀ row ∈ rows', row.length = sz0 := by
  intro row hrow
  rw [hrows'] at hrow
  obtain ⟨i, _, rfl⟩ := List.mem_map.1 hrow
  simp
 have hget' : ∀ i j, i < rows.length → j < sz0 → ∃ row, rows'[i]? = some row ∧ row[j]? = some (D.v (vals i j)) := by
  intro i j hi hj
  refine ⟨(List.range sz0).map fun j => D.v (vals i j), ?_, ?_⟩
  ·rw [hrows', List.getElem?_map, List.getElem?_range hi]; rfl
  ·rw [List.getElem?_map, List.getElem?_range hj]; rfl
 have hget : ∀ i j, i < rows.length → j < sz0 → ∃ row d, rows[i]? = some row ∧ row[j]? = some d := by
  intro i j hi hj
  have e := hl _ (List.getElem_mem hi)
  exact ⟨rows[i], rows[i][j]'(by omega), List.getElem?_eq_getElem hi, List.getElem?_eq_getElem (by omega)⟩
 have hbk : ∀ i j, i < rows.length → j < sz0 → ∀ row d, rows'[i]? = some row → row[j]? = some d → d = D.v (vals i j) := by
  intro i j hi hj row d h6 h7
  obtain ⟨row2, h8, h9⟩ := hget' i j hi hj
  rw [h8] at h6
  obtain rfl := Option.some.inj h6
  rw [h9] at h7
  exact (Option.some.inj h7).symm
 have harg : RelVs (K0 w) w [.d (.sl rows')] #[.slice (some ⟨b0, off0, none⟩) rows.length cap0] := by
  refine Qdo (.d ?_) (Qic _ _)
  rw [← hlen']
  refine .sl (sz := sz0) vals (by omega) h2 hl' (fun i j row d hi hj => ?_) fun i j row d hi hj => ?_
  ·have e1 := (List.getElem?_eq_some_iff.1 hi).1
   have e2 := (List.getElem?_eq_some_iff.1 hj).1
   rw [hl' _ (List.mem_of_getElem? hi)] at e2
   rw [hlen'] at e1
   obtain ⟨row2, d2, h6, h7⟩ := hget i j e1 e2
   obtain ⟨-, h8⟩ := h4 i j row2 d2 h6 h7
   exact ⟨⟨_, h8⟩, h8⟩
  ·have e1 := (List.getElem?_eq_some_iff.1 hi).1
   have e2 := (List.getElem?_eq_some_iff.1 hj).1
   rw [hl' _ (List.mem_of_getElem? hi)] at e2
   rw [hlen'] at e1
   rw [hbk i j e1 e2 row d hi hj]
   obtain ⟨row2, d2, h6, h7⟩ := hget i j e1 e2
   exact .v (relD_ok (h5 i j row2 d2 h6 h7))
 refine (h rows' hl' hlen' (F0 w) (K0 w) w _ (rel0 w) harg).mono ?_
 rintro e w' ⟨v', K1, p, s, rfl, hx, hr1, hv1, g, rfl, rfl⟩
 obtain ⟨u, xs, hu, hnf, hsl, how, hblk⟩ := hr1.ents (.tok g E sz0 rows'.length) (by simp)
 cases hv1 with
 | @own _ _ _ u' hd hu' hle heq =>
 rw [hu] at hu'
 obtain rfl := Option.some.inj hu'
 have hvu : v' = u := heq hsl.symm
 subst hvu
 have hbel : Below w.heap.size w w' := ⟨hx.os, hx.tape, hx.output, hx.size, fun k hk => hx.hp k hk⟩
 rcases how.2 with ⟨e1, e2⟩ | ⟨bb, cap, cur, e1, -, e3, e4, e5, e6, e7⟩
 ·rw [e1] at hsl
  simp [slen] at hsl
  omega
 subst e1
 obtain ⟨hnew, -⟩ := hblk bb rfl
 have hge : w.heap.size ≤ bb := by
  rcases Nat.lt_or_ge bb w.heap.size with h6 | h6
  ·exact absurd h6 hnew
  ·exact h6
 have hxt : Ext F K w K w' := Qjm hbel hr.ff (fun b o h => hr.klt h) (fun _ _ h => h) (fun _ _ h => .inl h) rfl rfl
 have hr2 : Rel F [] K w' := ⟨fun b o hc => by
  obtain ⟨v, hv⟩ := hr.kc b o hc
  exact ⟨v, (hxt.kp b o hc).2.trans hv⟩, fun b hf => by have := hr.ff b hf; have := hbel.size; omega, hr.fin, hr.fi, fun e he => (by cases he), by simp, by simp⟩
 have hcl : rows.length ≤ cap := by rw [← hlen']; exact e4
 have hcell : ∀ i j, i < rows.length → j < sz0 → cur[i * sz0 + j]? = some (vals i j) := by
  intro i j hi hj
  obtain ⟨row2, h8, h9⟩ := hget' i j hi hj
  generalize hrr : rows' = rs at hd h8
  cases hd with
  | nil _ => simp at h8
  | @sl sz1 _ _ _ _ vals1 g1 g2 g3 g4 g5 =>
  have hs1 : sz1 = sz0 := by
   have hm := List.mem_of_getElem? h8
   rw [← g3 _ hm, hl' _ (hrr ▸ hm)]
  subst hs1
  have h10 := (g4 i j row2 _ h8 h9).2
  have h11 := g5 i j row2 _ h8 h9
  rw [Qhe e3, Nat.zero_add] at h10
  rw [h10]
  generalize vals1 i j = y at h11
  cases h11; rfl
 obtain ⟨i, hx3, hr3⟩ := hr2.adopt (T := E) (ps := boxC rows sz0 cap) e3 (fun hf => by have := hr.ff _ hf; omega) (fun o hc => by have := hr.klt hc; omega) (by rw [e6, boxC_len hl hcl]) fun j p v hp hv => by
  unfold boxC at hp
  by_cases hj : j < rows.flatten.length
  ·rw [List.getElem?_append_left (by rw [List.length_map]; exact hj), List.getElem?_map, List.getElem?_eq_getElem hj] at hp
   obtain rfl := Option.some.inj hp
   have hfl := flat_len rows hl
   have hpos : 0 < sz0 := hsz
   have hi : j / sz0 < rows.length := by rw [hfl] at hj; exact (Nat.div_lt_iff_lt_mul hpos).2 hj
   have hjm := Nat.mod_lt j hpos
   have hdm : j / sz0 * sz0 + j % sz0 = j := by rw [Nat.mul_comm]; exact Nat.div_add_mod j sz0
   obtain ⟨row, d, h6, h7⟩ := hget (j / sz0) (j % sz0) hi hjm
   have h8 := flat_row rows (j / sz0) (j % sz0) row d hl h6 h7
   rw [hdm, List.getElem?_eq_getElem hj] at h8
   rw [Option.some.inj h8]
   have h9 := hcell (j / sz0) (j % sz0) hi hjm
   rw [hdm, hv] at h9
   rw [Option.some.inj h9]
   exact .d ((h5 _ _ row d h6 h7).mono hxt.kp)
  ·rw [List.getElem?_append_right (by rw [List.length_map]; omega)] at hp
   have := List.mem_of_getElem? hp
   rw [List.mem_replicate] at this
   rw [this.2]
   exact .u
 exact ⟨_, _, .bsl i rows'.length cap, _, rfl, hxt.trans hx3, hr3, .bsl (by simp [Kp.addBox]) e4 e5, i, cap, hcl, e5, by rw [hlen'], rfl⟩
theorem RV.rev {K : Nat → Nat → Prop} {w : World} {sz : Nat} {rows : List (List D)} {css : List (List Value)} (hp : 0 < sz) (hn : css.length = rows.length) (hl : ∀ c ∈ css, c.length = sz) (h : RV K w sz rows css.flatten) : RV K w sz rows.reverse css.reverse.flatten := by
 have hlr : ∀ c ∈ css.reverse, c.length = sz := fun c hc => hl c (List.mem_reverse.1 hc)
 refine ⟨by rw [flat_len _ hlr, List.length_reverse, List.length_reverse, hn], fun row hr => h.2.1 row (List.mem_reverse.1 hr), fun i j row d hi hj => ?_⟩
 have hil : i < rows.length := by have := (List.getElem?_eq_some_iff.1 hi).1; simpa using this
 have hjl : j < sz := by
  have h1 := (List.getElem?_eq_some_iff.1 hj).1
  rw [h.2.1 row (List.mem_reverse.1 (List.mem_of_getElem? hi))] at h1
  exact h1
 rw [List.getElem?_reverse hil] at hi
 obtain ⟨x, h1, h2⟩ := h.2.2 _ j row d hi hj
 have hcl : rows.length - 1 - i < css.length := by omega
 have hx : (css[rows.length - 1 - i])[j]? = some x := by
  have hc := hl _ (List.getElem_mem hcl)
  have h3 : j < (css[rows.length - 1 - i]).length := by omega
  have h4 := flat_row css (rows.length - 1 - i) j _ _ hl (List.getElem?_eq_getElem hcl) (List.getElem?_eq_getElem h3)
  rw [h4] at h1
  rw [List.getElem?_eq_getElem h3]
  exact h1
 refine ⟨x, flat_row css.reverse i j _ x hlr ?_ hx, h2⟩
 rw [List.getElem?_reverse (by omega), hn]
 exact List.getElem?_eq_getElem hcl
theorem Qoa {P : Program} (w : World) (t xt ty e : TypeId) {i : TypeInfo} {z : Value} {es bytes : Nat} (ht : P.underlying t = some (.slice e)) {dx : TypeDesc} (hxt : P.underlying xt = some dx) (hnz : ∀ k, dx ≠ .int k) (hi : P.info? e = some i) (hz : i.zero = some z) (hsize : i.size = es) (hby : i.bytes = bytes) (hzs : z.cells.size = es)
    {a : Option Addr} {n : Nat} {xs : List Value} (hxl : xs.length = n * es) (ha : a = none → n = 0) (holds : ∀ ad, a = some ad → ∀ j u, xs[j]? = some u → w.cell? (ad.add j) = some u) {x : Value} {m : Nat} {news : List Value} (hsrc : Src P w es x m news) (hl : news.length = m * es) (hm : 0 < m) (h63 : n + m ≤ maxLen) (hbytes : (n + m) * bytes ≤ 140737488355328) :
    ∃ cap arr, (Builtin.append_ #[t, xt] ty #[.slice a n n, x]).run P w = .ok (.slice (some ⟨w.heap.size, 0, none⟩) (n + m) cap) (w.drew.alloc (.cells arr e)) ∧ (w.drew.alloc (.cells arr e)).ownsRow 0 e es (.slice (some ⟨w.heap.size, 0, none⟩) (n + m) cap) (n + m) (xs ++ news) := by
  obtain ⟨hs1, hs2⟩ := hsrc
  subst hsize
  subst hby
  have hsmall : n + m ≤ 9223372036854775807 := by simp only [maxLen] at h63; omega
  have hlen : (xs ++ news).length = (n + m) * i.size := by rw [List.length_append, hxl, hl, Nat.add_mul]
  have hzero : (match dx with | .int _ => true | _ => false) = false := by cases dx <;> first | rfl | exact absurd rfl (hnz _)
  have hfd := hs2 w.drew rfl
  have grown : ∀ (old : Nat), old < n + m →
      (w.drew.alloc (.cells (xs.toArray ++ news.toArray ++ Builtin.zeroCells z.cells (grownCap w (n + m) old e - (n + m))) e)).ownsRow 0 e i.size
        (.slice (some ⟨w.heap.size, 0, none⟩) (n + m) (grownCap w (n + m) old e)) (n + m) (xs ++ news) := by
    intro old ho
    have hge := grownCap_ge w (n + m) old e
    have hcm : grownCap w (n + m) old e ≤ maxLen := grownCap_le_maxLen w (n + m) old e h63
    refine ⟨hlen, .inr ⟨w.heap.size, _, _, rfl, Nat.zero_le _, heap_alloc_new w.drew _, hge, hcm, ?_, ?_⟩⟩
    · simp only [Array.size_append, List.size_toArray, size_zeroCells, hzs, hxl, hl, ← Nat.add_mul]
      congr 1
      omega
    · simp only [Array.toList_append, List.append_assoc]
      rw [← List.append_assoc, ← hlen]
      exact List.take_left
  have hgr := grown n (by omega)
  have hn : ¬ (m = 0) := by omega
  have hn0 : ¬ (n + m ≤ n) := by omega
  have h63' : ¬ (9223372036854775807 < ((n : Int) + (m : Int))) := by omega
  have h48' : ¬ (281474976710656 < Builtin.nextslicecap (n + m) n * i.bytes) := by
    by_cases h0 : n = 0
    · subst h0
      simp only [Nat.zero_add] at hbytes hsmall ⊢
      rw [nextslicecap_zero (by omega)]; omega
    · have := growslice_fits (old := n) (by omega) hbytes; omega
  have hfo : (Builtin.firstCells i.size n (.slice a n n)).run P w.drew = .ok xs.toArray w.drew := by
    cases a with
    | none =>
      have h0 := ha rfl
      subst h0
      have : xs = [] := List.eq_nil_of_length_eq_zero (by rw [hxl]; simp)
      subst this
      simp [Builtin.firstCells]
    | some ad => exact run_firstCells_some (P := P) w.drew i.size n ad n n xs hxl fun j u hj => holds ad rfl j u hj
  refine ⟨_, _, ?_, hgr⟩
  simp [Builtin.append_, run_underlying ht, run_underlying hxt, sizeOf, typeInfo, zeroValue, hi, hz, hzero, hs1, hn, hn0, h63', h48', Question.forced, hfo, hfd, newRow, grownCap]
  congr 2
  apply Array.ext'
  simp [List.append_assoc]
theorem RelD.shrink {K : Nat → Nat → Prop} {w : World} {rows : List (List D)} {a : Option Addr} {cap : Nat} (h : RelD K w (.sl rows) (.slice a rows.length cap)) : RelD K w (.sl rows) (.slice a rows.length rows.length) := by
  generalize hv : Value.slice a rows.length cap = v at h
  generalize hd : D.sl rows = d at h
  cases h with
  | v h => cases hd
  | nil h =>
    cases hd
    simp only [List.length_nil, Value.slice.injEq] at hv
    obtain ⟨rfl, -, -⟩ := hv
    exact .nil (Nat.zero_le _)
  | sl vals h1 h2 h3 h4 h5 =>
    cases hd
    simp only [Value.slice.injEq] at hv
    obtain ⟨rfl, -, -⟩ := hv
    exact .sl vals (Nat.le_refl _) (Nat.le_trans h1 h2) h3 h4 h5
theorem POp_slice3 {P : Program} {o : Oper} {ρ : Operand → Option PV} {t : TypeId} {x y z : Operand} (ho : o.op = .slice t x none (some y) (some z)) {E es : Nat} {ea : Option Bool} {T : Ty} (hT : tyOf P t = some T) (hk : T.k = .slice E es ea) (hes : es ≠ 0) {p : PV} (hx : ρ x = some p) {rows : List (List D)} (hp : p.rows = some rows) (hl : ∀ row ∈ rows, row.length = es) {ky kz : IntKind} {hy hz : Int} (hy1 : ρ y = some (.d (.v (.int ky hy)))) (hz1 : ρ z = some (.d (.v (.int kz hz)))) (ey : hy = rows.length) (ez : hz = rows.length) (st : St) :
    POp P o ρ st fun q s => q = .full rows ∧ s = st := by
  subst ey ez
  refine POp.of_run fun F K w a hr0 hops => ?_
  obtain ⟨dst, op, ty, pos, after, guard⟩ := o
  simp only at ho hops
  subst ho
  obtain ⟨d, hd, rfl⟩ := Qbd hT
  cases d with
  | slice E' =>
    simp only [tyK, TyK.slice.injEq] at hk
    obtain ⟨rfl, hsz, rfl⟩ := hk
    have hr := Qev hp (hops x (by simp [Op.operands]) p hx)
    obtain ⟨b, cap, hv, hc, hm⟩ := Qid hr
    rw [hv] at hr
    have hu : P.underlying t = some (.slice (P.elem t)) := by rw [hd]; simp [Program.elem, hd]
    have he : P.elem t = E' := by simpa [hd] using hu.symm
    have hso : ∀ w', (sizeOf (P.elem t)).run P w' = .ok es w' := fun w' => by rw [he]; rw [← hsz] at hes ⊢; exact Qdw hes w'
    have hcut := rows_cut hr.shrink hl (Nat.zero_le rows.length) (Nat.le_refl _) (Nat.le_refl _) (Nat.le_trans hc hm)
    rw [List.drop_zero, List.take_length] at hcut
    obtain ⟨e1, -⟩ := (hops y (by simp [Op.operands]) _ hy1).flat
    obtain ⟨e2, -⟩ := (hops z (by simp [Op.operands]) _ hz1).flat
    have hform : sliced b 0 rows.length rows.length es = .slice (if rows.length = 0 then b else b.map (·.add (0 * es))) rows.length rows.length := by unfold sliced; rfl
    rw [hform] at hcut
    refine ⟨_, w, K, _, st, ?_, Ext.refl _ _ _, hr0, .full hcut, rfl, rfl⟩
    rw [← hform]
    simp only [execOp, hv, Sem.run_bind]
    simp only [Option.map_none, Option.map_some, e1, e2, run_sliceAt_slice w t _ _ _ _ hu, run_slice_hm w t b rows.length cap hu ky kz rows.length rows.length (by omega) (by omega) (by omega), hso, Result.andThen_ok, Int.toNat_natCast]; rfl
  | _ => simp [tyK] at hk
theorem POp_appFull {P : Program} {o : Oper} {ρ : Operand → Option PV} {s x : Operand} {t xt : TypeId} (ho : o.op = .call { callee := .builtin .append, args := #[s, x], argTypes := #[t, xt] }) {rows : List (List D)} (hs : ρ s = some (.full rows)) {p : PV} (hx : ρ x = some p) {rows' : List (List D)} (hp : p.src = some rows')
    {T : Ty} (hT : tyOf P t = some T) {E es bytes : Nat} {ea : Option Bool} (hk : T.k = .slice E es ea) (hX : Qek ((tyOf P xt).map (·.k)) = true) (hE : elOf P E = some (es, bytes)) (hes : 0 < es) (hl0 : ∀ row ∈ rows, row.length = es) (hl : ∀ row ∈ rows', row.length = es) (hne : 0 < rows'.length) (h63 : rows.length + rows'.length ≤ maxLen) (hb : (rows.length + rows'.length) * bytes ≤ 140737488355328) (st : St) :
    POp P o ρ st fun q s => q = .d (.sl (rows ++ rows')) ∧ s = st := by
  refine POp.of_run fun F K w a h1 h2 => ?_
  obtain ⟨dst, op, ty, pos, after, guard⟩ := o
  simp only at ho h2
  subst ho
  obtain ⟨d, hd, rfl⟩ := Qbd hT
  have hr := h2 s (by simp [Op.operands, Call.operands]) _ hs
  have hv := h2 x (by simp [Op.operands, Call.operands]) _ hx
  cases d with
  | slice E' =>
    simp only [tyK, TyK.slice.injEq] at hk
    obtain ⟨rfl, hes', rfl⟩ := hk
    obtain ⟨ie, z, hie, hz, hsz, hby, hzs⟩ := Qlf hE
    obtain ⟨dx, hdx, hnz⟩ : ∃ dx, P.underlying xt = some dx ∧ ∀ k, dx ≠ .int k := by
      unfold tyOf at hX
      cases hq : P.underlying xt with
      | none => rw [hq] at hX; cases hX
      | some dx =>
        rw [hq] at hX
        refine ⟨dx, rfl, fun k e => ?_⟩
        subst e
        simp [Qek, tyK] at hX
    generalize hva : a.eval s = va at hr
    cases hr with
    | @full _ ad hrd =>
    obtain ⟨xs, hold, a2, cap2, hv2, hc2⟩ := hrd.rv hes hl0
    simp only [Value.slice.injEq] at hv2
    obtain ⟨rfl, -, -⟩ := hv2
    have hnone : ad = none → rows.length = 0 := fun e => by
      subst e
      generalize hd : D.sl rows = d at hrd
      generalize hq : Value.slice none rows.length rows.length = q at hrd
      cases hrd with
      | v h => cases hd
      | nil h => cases hd; rfl
      | sl => cases hq
    obtain ⟨news, hnews, hsrc⟩ := src_of (P := P) hp hv hes hl
    obtain ⟨cap, arr, hrun, hown⟩ := Qoa (P := P) w t xt ty E' hd hdx hnz hie hz hsz hby hzs hold.1 hnone (fun ad' h j u hj => (hc2 ad' h j u hj).1) hsrc hnews.1 hne h63 hb
    have hbl : Below w.heap.size w (w.drew.alloc (.cells arr E')) := ((Below.refl w.heap.size w).drew).alloc (Nat.le_refl _) _
    have hxt : Ext F K w ⟨fun b o => K.cell b o ∨ (w.heap.size ≤ b ∧ ∃ u, (w.drew.alloc (.cells arr E')).cell? ⟨b, o, none⟩ = some u), K.box, K.own⟩ (w.drew.alloc (.cells arr E')) := Qjm hbl h1.ff (fun b o h => h1.klt h) (fun _ _ h => .inl h) (fun _ _ h => h.imp id fun h => h.1) rfl rfl
    refine ⟨.slice (some ⟨w.heap.size, 0, none⟩) (rows.length + rows'.length) cap, _, _, .d (.sl (rows ++ rows')), st, ?_, hxt, ⟨fun b o hc => ?_, fun b hf => by have := h1.ff b hf; have := hbl.size; omega, h1.fin, h1.fi, fun e he => ?_, h1.nb, h1.nt⟩, ?_, rfl, rfl⟩
    · simp only [execOp, resolve, invoke, builtin, Sem.run_bind, Sem.run_pure, Result.andThen_ok, List.map_toArray, List.map_cons, List.map_nil, hva, hrun]
    · rcases hc with hc | ⟨_, hc⟩
      · obtain ⟨v, hv⟩ := h1.kc b o hc
        exact ⟨v, (hxt.kp b o hc).2.trans hv⟩
      · exact hc
    · refine (h1.ents e he).keep hxt (fun b hb => hbl.block _ ((h1.ents e he).lt hb).1) (fun b o hb hc => ?_) fun _ _ => rfl
      rcases hc with hc | ⟨hc, _⟩
      · exact hc
      · have := ((h1.ents e he).lt hb).1; omega
    · refine .d (((hold.mono hxt.kp).append (hnews.mono hxt.kp)).rel hown (by rw [List.length_append]) fun b hb o ho => .inr ⟨?_, ?_⟩)
      · simp only [Value.ownBlock, Option.some.injEq] at hb; omega
      · simp only [Value.ownBlock, Option.some.injEq] at hb
        subst hb
        rcases hown.2 with ⟨h, _⟩ | ⟨b', cap', cur, hq, _, hh, hle, hm, hcs, htake⟩
        · cases h
        · simp only [Value.slice.injEq, Option.some.injEq, Addr.mk.injEq] at hq
          obtain ⟨⟨rfl, -, -⟩, -, rfl⟩ := hq
          have : (rows.length + rows'.length) * es ≤ cap * es := Nat.mul_le_mul_right _ hle
          rw [Qcr hh]
          exact ⟨_, Array.getElem?_eq_getElem (by omega)⟩
  | _ => simp [tyK] at hk
section
variable {P : Program} {J : St → Prop} {n : Nat} {ops : Array Oper} {Q : PF → St → Prop} {fr : PF} {st : St} {p : PV} {ty : TypeId} {pos : String} {after : Array Edge} {gd : Option (Nat × Bool)} {d j : Nat} {od : List (Nat × Kd)}
theorem Qnt {t : TypeId} {x y z : Operand} {ts E es : Nat} {ea : Option Bool} {T0 : Ty} {rows : List (List D)} {q1 q2 : PV} {ky kz : IntKind} {hy hz : Int} (hk : POrd P n ops Q od ((d, .full rows) :: fr) st) (hl : ∀ row ∈ rows, row.length = es) (ho : ops[j]? = some ⟨some d, .slice t x none (some y) (some z), ty, pos, after, gd⟩ := by rfl) (hd : d < n := by decide)
  (hw : PF.wants fr ops ⟨some d, .slice t x none (some y) (some z), ty, pos, after, gd⟩ = some true := by exact eD) (hT : tyOf P t = some T0 := by simp; rfl) (hT2 : T0 = ⟨ts, .slice E es ea⟩ := by rfl) (hes : es ≠ 0 := by decide) (hx : fr.eval x = some p := by exact eQ) (hp : p.rows = some rows := by simp [PV.rows]; rfl)
  (hy1 : fr.eval y = some q1 := by exact eQ) (hq1 : q1 = .d (.v (.int ky hy)) := by rfl) (ey : hy = rows.length := by first | rfl | (simp; done)) (hz1 : fr.eval z = some q2 := by exact eQ) (hq2 : q2 = .d (.v (.int kz hz)) := by rfl) (ez : hz = rows.length := by first | rfl | (simp; done)) : POrd P n ops Q ((j, .a) :: od) fr st := by
 subst hq1 hq2
 exact ⟨_, ho, fun _ e => (by cases e; exact hd), .inr ⟨hw, _, fun s => POp_slice3 (o := ⟨some d, .slice t x none (some y) (some z), ty, pos, after, gd⟩) rfl (hT2 ▸ hT) rfl hes hx hp hl hy1 hz1 ey ez s, hk⟩⟩
theorem Qmz {s x : Operand} {t xt : TypeId} {q : PV} {rows rows' : List (List D)} {ts E es bytes : Nat} {ea : Option Bool} {T0 : Ty} {e0 : Nat × Nat}
  (h : POrd P n ops Q od ((d, .d (.sl (rows ++ rows'))) :: fr) st) (hl0 : ∀ row ∈ rows, row.length = es) (hl : ∀ row ∈ rows', row.length = es) (hne : 0 < rows'.length) (h63 : rows.length + rows'.length ≤ maxLen) (hb : (rows.length + rows'.length) * bytes ≤ 140737488355328)
  (ho : ops[j]? = some ⟨some d, .call { callee := .builtin .append, args := #[s, x], argTypes := #[t, xt] }, ty, pos, after, gd⟩ := by rfl) (hd : d < n := by decide)
  (hw : PF.wants fr ops ⟨some d, .call { callee := .builtin .append, args := #[s, x], argTypes := #[t, xt] }, ty, pos, after, gd⟩ = some true := by exact eD)
  (hs : fr.eval s = some q := by exact eQ) (hq : q = .full rows := by rfl) (hx : fr.eval x = some p := by exact eQ) (hp : p.src = some rows' := by simp [PV.src, PV.rows]; rfl)
  (hT : tyOf P t = some T0 := by simp; rfl) (hT2 : T0 = ⟨ts, .slice E es ea⟩ := by rfl) (hX : Qek ((tyOf P xt).map (·.k)) = true := by simp [Qek]) (hE : elOf P E = some e0 := by simp; rfl) (hE2 : e0 = (es, bytes) := by rfl) (hes : 0 < es := by decide) : POrd P n ops Q ((j, .e) :: od) fr st := by
 subst hq hT2 hE2
 exact POrd_e ho hd hw ((POp_appFull (o := ⟨some d, .call { callee := .builtin .append, args := #[s, x], argTypes := #[t, xt] }, ty, pos, after, gd⟩) rfl hs hx hp hT rfl hX hE hes hl0 hl hne h63 hb st).mono fun q s ⟨e1, e2⟩ => by subst e1; subst e2; exact h)
end
section
variable {P : Program} {ops : Array Oper} {n : Nat} {md : Region.Mode}
theorem gAny_ordI {Q : PF → St → Prop} {all : List (Nat × Kd)} (h1 : ∀ j o, ops[j]? = some o → ∀ e ∈ o.after, Region.binds md e = true → e.on < j)
    (h2 : ∀ i j oi oj, ops[i]? = some oi → ops[j]? = some oj → i < j → (∀ e ∈ oj.after, Region.binds md e = true → e.on ≠ i) → oi.apart ops oj = true)
    (h3 : ∀ i, kdOf all i ≠ .e) : ∀ (l : List (Nat × Kd)) (k : Nat) (listed : Array Bool) (fr : PF) (st : St), listed.size = ops.size → (∀ j, j < ops.size → listed[j]? = some (decide (j < k))) → l.map (·.1) = List.range' k l.length → k + l.length = ops.size → (∀ x ∈ l, kdOf all x.1 = x.2) → DC md ops listed → POrd P n ops Q l fr st → gAny P md ops n (kdOf all) (fun g s => ∃ fr : PF, fr.get = g ∧ Q fr s) l.length listed fr.get st := by
  intro l
  induction l with
  | nil =>
    intro k listed fr st hsz hl hm hn hk hdc h
    refine ⟨List.eq_nil_iff_forall_not_mem.2 fun j hj => ?_, fr, rfl, h⟩
    obtain ⟨hu, o, ho, -⟩ := mem_ready.1 hj
    have hlt : j < ops.size := (Array.getElem?_eq_some_iff.1 ho).1
    have hlj := hl j hlt
    have hjk : j < k := by simp at hn; omega
    rw [Array.getD_eq_getD_getElem?, hlj] at hu
    simp [hjk] at hu
  | cons x rest ih =>
    intro k listed fr st hsz hl hm hn hk hdc h
    obtain ⟨i, kk⟩ := x
    simp only [List.map_cons, List.length_cons, List.range'_succ, List.cons.injEq] at hm
    obtain ⟨hik, hm⟩ := hm
    subst hik
    have hki : kdOf all i = kk := hk (i, kk) (by simp)
    obtain ⟨o, ho, hd, h⟩ := h
    have hlt : i < ops.size := (Array.getElem?_eq_some_iff.1 ho).1
    have hr' : i ∈ Region.ready md ops listed := by
      refine mem_ready.2 ⟨?_, o, ho, fun e he hb => ?_⟩
      · rw [Array.getD_eq_getD_getElem?, hl i hlt]; simp
      · have he1 := h1 i o ho e he hb
        rw [Array.getD_eq_getD_getElem?, hl e.on (by omega)]; simp [he1]
    have free : ∀ j oj, ops[j]? = some oj → j ≠ i → listed.getD j true = false → (∀ e ∈ oj.after, Region.binds md e = true → e.on ≠ i) → o.apart ops oj = true := by
      intro j oj hj hji hun hno
      have hjl : j < ops.size := (Array.getElem?_eq_some_iff.1 hj).1
      rw [Array.getD_eq_getD_getElem?, hl j hjl] at hun
      simp at hun
      exact h2 i j o oj ho hj (by omega) hno
    have nxt : ∀ p s, POrd P n ops Q rest (fr.put o.dst p) s → gAny P md ops n (kdOf all) (fun g s => ∃ fr : PF, fr.get = g ∧ Q fr s) rest.length (listed.setIfInBounds i true) (gput fr.get o.dst p) s := fun p s hp => by
      rw [← Qmj]
      refine ih (i + 1) _ _ s (by simpa using hsz) (fun j hj => ?_) hm (by simp at hn; omega) (fun x hx => hk x (List.mem_cons_of_mem _ hx)) (hdc.set hr') hp
      by_cases hji : i = j
      · subst hji
        rw [Array.getElem?_setIfInBounds_self_of_lt (by omega)]
        simp
      · rw [Array.getElem?_setIfInBounds_ne hji, hl j hj]
        congr 1
        apply decide_eq_decide.2
        omega
    have hy : ∃ p, gYields P ops n (kdOf all i) o p fr.get st ∧ POrd P n ops Q rest (fr.put o.dst p) st := by
      cases kk with
      | a =>
        rw [hki]
        rcases h with ⟨e1, e2⟩ | ⟨e1, p, e2, e3⟩
        · exact ⟨_, ⟨hd, .inl ⟨by rw [Qbh]; exact e1, rfl⟩⟩, e2⟩
        · exact ⟨p, ⟨hd, .inr ⟨by rw [Qbh]; exact e1, by rw [Qeb]; exact e2⟩⟩, e3⟩
      | b =>
        rw [hki]
        rcases h with ⟨e1, e2⟩ | ⟨e1, p, e2, e3⟩
        · exact ⟨_, ⟨hd, .inl ⟨by rw [Qbh]; exact e1, rfl⟩⟩, e2⟩
        · exact ⟨p, ⟨hd, .inr ⟨by rw [Qbh]; exact e1, by rw [Qeb]; exact e2⟩⟩, e3⟩
      | e => exact absurd hki (h3 i)
    obtain ⟨p, hy, hp⟩ := hy
    exact Qmf ho _ listed _ st hdc free (fun _ j hj => absurd hj (h3 j)) hr' hy (nxt p st hp)
def makesB (f : Nat → Bool) (t : Tmp) : Nat → List (Option Tmp) → Bool
 | _, [] => true
 | i, d :: r => (match d with | some u => !(Nat.beq u t) || f i | none => true) && makesB f t (i + 1) r
theorem Qng {f : Nat → Bool} {t : Tmp} : ∀ (l : List (Option Tmp)) (k : Nat), makesB f t k l = true → ∀ i, l[i]? = some (some t) → f (k + i) = true
  | [], k, _, i, h => by simp at h
  | d :: r, k, hb, 0, h => by
    simp only [List.getElem?_cons_zero, Option.some.injEq] at h
    subst h
    simp only [makesB, Bool.and_eq_true] at hb
    have := hb.1
    simp only [Nat.beq_eq_true_eq, Bool.or_eq_true, Bool.not_eq_true'] at this
    rcases this with h | h
    · have : Nat.beq t t = true := Nat.beq_refl t
      rw [this] at h; cases h
    · simpa using h
  | d :: r, k, hb, i + 1, h => by
    simp only [makesB, Bool.and_eq_true] at hb
    have := Qng r (k + 1) hb.2 i (by simpa using h)
    rw [show k + (i + 1) = k + 1 + i by omega]; exact this
def leanB (md : Region.Mode) (ops : Array Oper) (ds : List (Option Tmp)) : Nat → List Oper → Bool
 | _, [] => true
 | j, o :: r => (o.after.all fun e => !Region.binds md e || Nat.blt e.on j) && ((o.looksAt ops).all fun t => makesB (fun i => o.after.any fun e => Region.binds md e && Nat.beq e.on i) t 0 ds) && (match o.dst with | some t => makesB (fun i => Nat.beq i j) t 0 ds | none => true) && leanB md ops ds (j + 1) r
theorem Qmk {ds : List (Option Tmp)} : ∀ (l : List Oper) (k : Nat), leanB md ops ds k l = true → ∀ i o, l[i]? = some o → (∀ e ∈ o.after, Region.binds md e = true → e.on < k + i) ∧ (∀ t ∈ o.looksAt ops, ∀ m, ds[m]? = some (some t) → ∃ e ∈ o.after, Region.binds md e = true ∧ e.on = m) ∧ (∀ t, o.dst = some t → ∀ m, ds[m]? = some (some t) → m = k + i)
  | [], k, _, i, o, h => by simp at h
  | q :: r, k, hb, 0, o, h => by
    simp only [List.getElem?_cons_zero, Option.some.injEq] at h
    subst h
    simp only [leanB, Bool.and_eq_true] at hb
    obtain ⟨⟨⟨b1, b2⟩, b3⟩, -⟩ := hb
    refine ⟨fun e he hbd => ?_, fun t ht m hm => ?_, fun t ht m hm => ?_⟩
    · have := Array.all_eq_true'.1 b1 e he
      simp only [hbd, Bool.not_true, Bool.false_or] at this
      rw [Nat.blt_eq] at this
      omega
    · have := Qng ds 0 (List.all_eq_true.1 b2 t ht) m hm
      obtain ⟨e, he, h⟩ := Array.any_eq_true'.1 this
      rw [Bool.and_eq_true] at h
      have h2 := Nat.eq_of_beq_eq_true h.2
      exact ⟨e, he, h.1, by omega⟩
    · rw [ht] at b3
      have := Qng ds 0 b3 m hm
      have h2 := Nat.eq_of_beq_eq_true this
      omega
  | q :: r, k, hb, i + 1, o, h => by
    simp only [leanB, Bool.and_eq_true] at hb
    have := Qmk r (k + 1) hb.2 i o (by simpa using h)
    rw [show k + (i + 1) = k + 1 + i by omega]; exact this
theorem lean_apart (h : leanB md ops (ops.toList.map (·.dst)) 0 ops.toList = true) : ∀ i j oi oj, ops[i]? = some oi → ops[j]? = some oj → i < j → (∀ e ∈ oj.after, Region.binds md e = true → e.on ≠ i) → oi.apart ops oj = true := by
  intro i j oi oj hi hj hij hno
  have hi' : ops.toList[i]? = some oi := by simpa using hi
  have hj' : ops.toList[j]? = some oj := by simpa using hj
  obtain ⟨a1, a2, a3⟩ := Qmk _ 0 h i oi hi'
  obtain ⟨b1, b2, b3⟩ := Qmk _ 0 h j oj hj'
  have di : ∀ d, oi.dst = some d → (ops.toList.map (·.dst))[i]? = some (some d) := fun d hd => by rw [List.getElem?_map, hi']; simp [hd]
  have dj : ∀ d, oj.dst = some d → (ops.toList.map (·.dst))[j]? = some (some d) := fun d hd => by rw [List.getElem?_map, hj']; simp [hd]
  have x1 : ∀ d, oi.dst = some d → d ∉ oj.looksAt ops := fun d hd hm => by
    obtain ⟨e, he, h1, h2⟩ := b2 d hm i (di d hd)
    exact hno e he h1 h2
  have x2 : ∀ d, oi.dst = some d → oj.dst ≠ some d := fun d hd hm => by
    have := b3 d hm i (di d hd)
    omega
  have x3 : ∀ d, oj.dst = some d → d ∉ oi.looksAt ops := fun d hd hm => by
    obtain ⟨e, he, h1, h2⟩ := a2 d hm j (dj d hd)
    have := a1 e he h1
    omega
  unfold Oper.apart
  cases hdi : oi.dst with
  | none =>
    cases hdj : oj.dst with
    | none => rfl
    | some d => simpa using x3 d hdj
  | some c =>
    have y1 := x1 c hdi
    have y2 := x2 c hdi
    cases hdj : oj.dst with
    | none => simpa [hdj] using y1
    | some d =>
      rw [hdj] at y2
      have y3 := x3 d hdj
      simp only [Bool.and_eq_true, Bool.not_eq_true', bne_iff_ne, ne_eq]
      refine ⟨⟨by simpa using y1, y2⟩, by simpa using y3⟩
def noneActs (l : List (Nat × Kd)) : Bool := l.all fun x => match x.2 with | .e => false | _ => true
theorem kdOf_none : ∀ (l : List (Nat × Kd)), noneActs l = true → ∀ i, kdOf l i ≠ .e
  | [], _, i => by simp [kdOf]
  | (j, k) :: r, h, i => by
    simp only [noneActs, List.all_cons, Bool.and_eq_true] at h
    unfold kdOf
    split
    · intro e; rw [e] at h; exact absurd h.1 (by simp)
    · exact kdOf_none r h.2 i
theorem kdOf_range : ∀ (l : List (Nat × Kd)) (k : Nat), l.map (·.1) = List.range' k l.length → ∀ x ∈ l, kdOf l x.1 = x.2
  | [], k, _, x, hx => by cases hx
  | (j, c) :: r, k, h, x, hx => by
    simp only [List.map_cons, List.length_cons, List.range'_succ, List.cons.injEq] at h
    rcases List.mem_cons.1 hx with rfl | hx
    · simp [kdOf]
    · have h1 := kdOf_range r (k + 1) h.2 x hx
      have h2 : x.1 ∈ r.map (·.1) := List.mem_map_of_mem hx
      rw [h.2, List.mem_range'_1] at h2
      have h3 : j ≠ x.1 := by have := h.1; omega
      simp only [kdOf, if_neg h3]
      exact h1
theorem PW_drawnI {id : Nat} {Q : Exit → PF → St → Prop} {fr : PF} {st : St} (order : List (Nat × Kd)) (hm : P.follows .mixedOrders = true) (hlen : order.length = ops.size) (hI : order.map (·.1) = List.range' 0 order.length) (hN : noneActs order = true) (hB : leanB .any ops (ops.toList.map (·.dst)) 0 ops.toList = true) (h : POrd P n ops (Q .normal) order fr st) : PW P n (.region id ops true) Q fr st := by
 intro F K w a hr hf
 have hdc : DC .any ops (Array.replicate ops.size false) := fun j o ho hj => by
  exfalso
  have hlt : j < ops.size := (Array.getElem?_eq_some_iff.1 ho).1
  simp [hlt] at hj
 have hx : Ext F K w K { w with drawn := w.drawn + 1 } := ⟨rfl, rfl, rfl, Nat.le_refl _, fun _ _ => rfl, fun _ _ h => ⟨h, rfl⟩, fun _ _ h => .inl h, fun _ _ h => h, fun g u h => ⟨u, h, .inl rfl⟩, fun _ _ => rfl⟩
 have hr2 : Rel F st K { w with drawn := w.drawn + 1 } := ⟨hr.kc, hr.ff, hr.fin, hr.fi, fun e he => (hr.ents e he).keep hx (fun _ _ => rfl) (fun _ _ _ h => h) fun _ _ => rfl, hr.nb, hr.nt⟩
 have hany := gAny_ordI (md := .any) (all := order) (fun j o ho e he hb => by
   have := (Qmk _ 0 hB j o (by simpa using ho)).1 e he hb
   omega) (lean_apart hB) (kdOf_none order hN) order 0 _ fr st (by simp) (fun j hj => by simp [hj]) hI (by rw [Nat.zero_add]; exact hlen) (kdOf_range order 0 hI) hdc h
 rw [hlen] at hany
 exact wp_region_any hm (wpAny_gAny (K0 := K) (w0 := w) (F := F) (Q := fun g s => ∃ fr : PF, fr.get = g ∧ Q .normal fr s) (fun K' w' a' g' st' h1 h2 h3 ⟨fr', e, h4⟩ => ⟨K', fr', st', h1, h2, by subst e; exact h3.fr, h4⟩) _ _ _ st K _ a hx hr2 (hf.mono hx).fg hany)
end
end Go.Proofs.YtdklpbefbamchaaGreat
