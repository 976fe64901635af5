import Derived.Test.YtdklpbefbamchaaGreatDBD
import Derived.Test.YtdklpbefbamchaaGreatPBNd
set_option linter.unusedSimpArgs false
set_option linter.unusedVariables false
set_option maxHeartbeats 16000000
set_option maxRecDepth 100000
namespace Go.Proofs.YtdklpbefbamchaaGreat
open Go.RowKit
variable {S S' : Nat → Prop} {w w' : World}
theorem SlD.toN {sz : Nat} {v : Value} {css : List (List Value)} (h : SlD S w sz v css) : SlN w sz v css := by
 obtain ⟨a, cap, hv, hl, hm, hc⟩ := h
 refine ⟨a, cap, hv, hl, hm, fun hne => ?_⟩
 obtain ⟨b, off, ha, _, _, hcell⟩ := hc hne
 exact ⟨b, off, ha, hcell⟩
section
variable {α : Type} [Enc α] {v : Value} {l : List α} {a : α} {cs : List Value}
end
variable {S S' : Nat → Prop} {w w' : World}
section
variable {α : Type} [Enc α] {T : TypeId} {lo : Nat} {v : Value} {l : List α}
theorem run_push {P : Program} (t ty e : TypeId) (i : TypeInfo) (z : Value) (bytes : Nat) (ht : P.underlying t = some (.slice e)) (hi : P.info? e = some i) (hz : i.zero = some z)
    (hsize : i.size = Enc.sz α) (hby : i.bytes = bytes) (hzs : z.cells.size = Enc.sz α) (hsz : 0 < Enc.sz α)
    (hown : Own S e lo v l w) (x : Value) (m : List α) (hx : RepS S' w x m) (hS : ∀ d ∈ m, ∀ cs, Rep S' w d cs → Rep (fun b => S b ∧ v.ownBlock ≠ some b) w d cs)
    (h63 : l.length + m.length ≤ maxLen) (hbytes : (l.length + m.length) * bytes ≤ 140737488355328) (hbase : lo ≤ w.heap.size) :
    ∃ v' w', (Builtin.append_ #[t, t] ty #[v, x]).run P w = .ok v' w' ∧ Own S e lo v' (l ++ m) w' ∧ w.grownBy w' v.ownBlock ∧
      (v'.ownBlock = v.ownBlock ∨ ∀ k, v'.ownBlock = some k → w.heap.size ≤ k) := by
  obtain ⟨css, h1, h2⟩ := hown
  obtain ⟨dss, hd, hr⟩ := hx.open
  have hdl := hr.length
  simp at hdl
  have hr' : RepL (fun b => S b ∧ v.ownBlock ≠ Option.some b) w (m.map Enc.enc) dss := by
    refine RepL.mk (by simpa using hdl) fun i hi => ?_
    obtain ⟨c, hc, hc2⟩ := hr.get i hi
    refine ⟨c, hc, ?_⟩
    simp only [List.getElem_map] at hc2 ⊢
    exact hS _ (List.getElem_mem _) c hc2
  have hcl := hr.lens (sz := Enc.sz α) (by intro f hf; obtain ⟨a, _, rfl⟩ := List.mem_map.1 hf; exact Enc.len a)
  obtain ⟨a, cap, rfl, hl, hm, hc⟩ := hd
  have fin : ∀ {v' : Value} {w' : World}, w'.ownsRow lo e (Enc.sz α) v' (l.length + m.length) (css.flatten ++ dss.flatten) → w.grownBy w' v.ownBlock → (v'.ownBlock = v.ownBlock ∨ ∀ k, v'.ownBlock = Option.some k → w.heap.size ≤ k) → Own S e lo v' (l ++ m) w' := by
    intro v' w' ho hg hap
    refine ⟨css ++ dss, by rw [List.length_append, List.flatten_append]; exact ho, ?_⟩
    rw [List.map_append]
    refine (h2.append hr').move fun b hb hbl => ⟨⟨hb.1, fun e => ?_⟩, hg.block b hbl (fun e => hb.2 e.symm)⟩
    rcases hap with h3 | h3
    · exact hb.2 (h3 ▸ e)
    · have := h3 b e; omega
  cases a with
  | none =>
    have he : dss = [] := by
      rcases dss with _ | ⟨c, cr⟩
      · rfl
      · obtain ⟨b, off, hb, _⟩ := hc (by simp); cases hb
    subst he
    have hm0 : m = [] := List.eq_nil_of_length_eq_zero (by simpa using hdl.symm)
    subst hm0
    have hg0 : w.grownBy w v.ownBlock := ⟨rfl, rfl, rfl, Nat.le_refl _, fun _ _ _ => rfl⟩
    refine ⟨v, w, ?_, fin (by simpa using h1) hg0 (.inl rfl), hg0, .inl rfl⟩
    rcases h1.2 with ⟨rfl, _⟩ | ⟨g, cp, cur, rfl, _, _, hn, _⟩
    · simp [Builtin.append_, run_underlying ht, sizeOf, typeInfo, hi, Builtin.lenOf, Builtin.firstCells]
    · simp [Builtin.append_, run_underlying ht, sizeOf, typeInfo, hi, Builtin.lenOf, Builtin.firstCells, hn, storeCells]
  | some ad =>
    have hnews : ∀ j u, dss.flatten[j]? = some u → w.cell? (ad.add j) = some u := by
      intro j u hu
      obtain ⟨i, c, k, hi1, hk, hj⟩ := flat_get hcl j u hu
      obtain ⟨b, off, hb, _, _, hcell⟩ := hc (by intro e; rw [e] at hi1; simp at hi1)
      obtain rfl := Option.some.inj hb
      have := (hcell i c hi1).2 k u hk
      rw [Qfs rfl, hj]
      rw [show off + (i * Enc.sz α + k) = off + i * Enc.sz α + k by omega]; exact this
    have hone := hr.one
    obtain ⟨v', w', hrun, h3, h4, h5⟩ := run_append_apart (P := P) w lo t ty e i z (Enc.sz α) bytes ht hi hz hsize hby hzs hsz v l.length css.flatten h1 ad m.length cap dss.flatten (by rw [flat_length hcl, hdl]) hnews
      (by intro u hu; obtain ⟨c, hc1, hu1⟩ := List.mem_flatten.1 hu; exact hone c hc1 u hu1) h63 hbytes hbase
    exact ⟨v', w', by rw [hdl]; exact hrun, fin h3 h4 h5, h4, h5⟩
theorem wp_push {P : Program} {o : Oper} {a : Act} {K : Act → World → Prop} {Q : Exit → Act → World → Prop} (s x : Operand) (t : TypeId)
  (ho : o.op = .call { callee := .builtin .append, args := #[s, x], argTypes := #[t, t] })
  (e : TypeId) (i : TypeInfo) (z : Value) (bytes : Nat) (ht : P.underlying t = some (.slice e)) (hi : P.info? e = some i) (hz : i.zero = some z)
  (hsize : i.size = Enc.sz α) (hby : i.bytes = bytes) (hzs : z.cells.size = Enc.sz α) (hsz : 0 < Enc.sz α)
  (hown : Own S e lo v l w) (xv : Value) (m : List α) (hx : RepS S' w xv m) (hs : a.eval s = v) (hxe : a.eval x = xv) (hS : ∀ d ∈ m, ∀ cs, Rep S' w d cs → Rep (fun b => S b ∧ v.ownBlock ≠ some b) w d cs)
  (h63 : l.length + m.length ≤ maxLen) (hbytes : (l.length + m.length) * bytes ≤ 140737488355328) (hbase : lo ≤ w.heap.size)
  (h : ∀ v' w', Own S e lo v' (l ++ m) w' → Below lo w w' → w.grownBy w' v.ownBlock → (v'.ownBlock = v.ownBlock ∨ ∀ k, v'.ownBlock = some k → w.heap.size ≤ k) → K (a.put o.dst v') w') : o.wp P a w K Q := by
 obtain ⟨v', w', hr, h2, h3, h4⟩ := run_push (P := P) t o.type e i z bytes ht hi hz hsize hby hzs hsz hown xv m hx hS h63 hbytes hbase
 unfold Oper.wp execOp
 simp only [ho, resolve, invoke, builtin, Sem.run_bind, Sem.run_pure, Result.andThen_ok, List.map_toArray, List.map_cons, List.map_nil, hs, hxe, hr]
 exact h v' w' h2 ((Below.refl lo w).grown h3 hbase fun k hk => (hown.lt k hk).1) h3 h4
theorem wpList_push {P : Program} {ops : Array Oper} {rest : List Oper} {o : Oper} {a : Act} {Q : Exit → Act → World → Prop} (hgd : o.guard = none) (s x : Operand) (t : TypeId)
  (ho : o.op = .call { callee := .builtin .append, args := #[s, x], argTypes := #[t, t] })
  (e : TypeId) (i : TypeInfo) (z : Value) (bytes : Nat) (ht : P.underlying t = some (.slice e)) (hi : P.info? e = some i) (hz : i.zero = some z)
  (hsize : i.size = Enc.sz α) (hby : i.bytes = bytes) (hzs : z.cells.size = Enc.sz α) (hsz : 0 < Enc.sz α)
  (hown : Own S e lo v l w) (xv : Value) (m : List α) (hx : RepS S' w xv m) (hs : a.eval s = v) (hxe : a.eval x = xv) (hS : ∀ d ∈ m, ∀ cs, Rep S' w d cs → Rep (fun b => S b ∧ v.ownBlock ≠ some b) w d cs)
  (h63 : l.length + m.length ≤ maxLen) (hbytes : (l.length + m.length) * bytes ≤ 140737488355328) (hbase : lo ≤ w.heap.size)
  (h : ∀ v' w', Own S e lo v' (l ++ m) w' → Below lo w w' → w.grownBy w' v.ownBlock → (v'.ownBlock = v.ownBlock ∨ ∀ k, v'.ownBlock = some k → w.heap.size ≤ k) → wpList P ops Q rest (a.put o.dst v') w') : wpList P ops Q (o :: rest) a w :=
 wpList_plain hgd fun _ hK => wp_push s x t ho e i z bytes ht hi hz hsize hby hzs hsz hown xv m hx hs hxe hS h63 hbytes hbase fun v' w' h2 h3 h4 h5 => hK _ _ (h v' w' h2 h3 h4 h5)
end
variable {S S' : Nat → Prop} {w w' : World}
theorem rep_nd {t : Nd} {cs : List Value} : Rep S w t cs ↔ ∃ v, cs = [.int .i64 t.kind, .int .i64 t.at, .string t.name, .int .i64 t.num, v] ∧ t.name.size ≤ maxLen ∧ RepS S w v t.sub := by
 cases t with
 | mk k a s n sub =>
 unfold Rep RepS
 simp only [Enc.enc, Enc.sz, ndD, ndDs_map, RepF, Nd.kind, Nd.at, Nd.name, Nd.num, Nd.sub]
 constructor
 ·rintro ⟨c, cr, rfl, h1, c, cr, rfl, h2, c, cr, rfl, h3, c, cr, rfl, h4, c, cr, rfl, h5, rfl⟩
  simp only [RepV] at h1 h2 h3 h4
  obtain ⟨rfl, -⟩ := h1
  obtain ⟨rfl, -⟩ := h2
  obtain ⟨rfl, h3⟩ := h3
  obtain ⟨rfl, -⟩ := h4
  exact ⟨_, rfl, h3, h5⟩
 ·rintro ⟨v, rfl, h3, h5⟩
  exact ⟨_, _, rfl, by simp [RepV, Value.oneCell'], _, _, rfl, by simp [RepV, Value.oneCell'], _, _, rfl, by simp [RepV, h3], _, _, rfl, by simp [RepV, Value.oneCell'], _, _, rfl, h5, rfl⟩
theorem Rep.toC : ∀ (t : Nd) (cs : List Value), Rep S w t cs → NdC w t cs := by
 refine Nd.ind ?_
 intro k a s n sub ih cs h
 obtain ⟨v, rfl, h1, h2⟩ := rep_nd.1 h
 refine NdC.iff.2 ⟨v, rfl, h1, ?_⟩
 simp only [Nd.sub] at h2
 obtain ⟨css, h3, h4⟩ := h2.open
 refine ⟨css, h3.toN, NdCs.mk (by simpa using h4.length) fun i hi => ?_⟩
 obtain ⟨c, hc, hr⟩ := h4.get i (by simpa using hi)
 simp only [List.getElem_map] at hr
 exact ⟨c, hc, ih _ (List.getElem_mem _) c hr⟩
theorem RepS.toC {v : Value} {l : List Nd} (h : RepS S w v l) : NdS w v l := by
 obtain ⟨css, h3, h4⟩ := h.open
 refine ⟨css, h3.toN, NdCs.mk (by simpa using h4.length) fun i hi => ?_⟩
 obtain ⟨c, hc, hr⟩ := h4.get i (by simpa using hi)
 simp only [List.getElem_map] at hr
 exact ⟨c, hc, Rep.toC _ _ hr⟩
theorem repS_of {v : Value} {l : List Nd} (hl : ∀ t ∈ l, ∀ cs, NdC w t cs → Rep (fun _ => True) w t cs) (h : NdS w v l) : RepS (fun _ => True) w v l := by
 obtain ⟨css, ⟨a, cap, h1, h2, h3, h4⟩, h5⟩ := h
 have hlen := h5.length
 refine RepS.mk (css := css) ⟨a, cap, h1, h2, h3, fun hne => ?_⟩ (RepL.mk (by simpa using hlen) fun i hi => ?_)
 ·obtain ⟨b, off, ha, hc⟩ := h4 hne
  have hpos : 0 < l.length := by
   rw [← hlen]; exact List.length_pos_iff.2 hne
  obtain ⟨c, hc0, hn⟩ := h5.get 0 hpos
  obtain ⟨s, rfl, _, _⟩ := hn.open
  have h6 := (hc 0 _ hc0).2 0 _ rfl
  exact ⟨b, off, ha, trivial, World.block_lt_of_cell? w _ h6, hc⟩
 ·obtain ⟨c, hc, hn⟩ := h5.get i (by simpa using hi)
  refine ⟨c, hc, ?_⟩
  simp only [List.getElem_map]
  exact hl _ (List.getElem_mem _) c hn
theorem NdC.toR : ∀ (t : Nd) (cs : List Value), NdC w t cs → Rep (fun _ => True) w t cs := by
 refine Nd.ind ?_
 intro k a s n sub ih cs h
 obtain ⟨v, rfl, h1, h2⟩ := NdC.iff.1 h
 exact rep_nd.2 ⟨v, rfl, h1, repS_of ih h2⟩
theorem NdS.toR {v : Value} {l : List Nd} (h : NdS w v l) : RepS (fun _ => True) w v l := repS_of (fun t _ => NdC.toR t) h
theorem Box5.set4 {T : TypeId} {w : World} {B : Nat} {x y z u v : Value} (h : Box5 T w B x y z u v) (v' : Value) : Box5 T (w.setCell ⟨B, 4, none⟩ v') B x y z u v' := set_block h 4 v'
theorem Box5.set_ne {T : TypeId} {w : World} {B : Nat} {x y z u v : Value} (h : Box5 T w B x y z u v) {p : Addr} (hp : B ≠ p.block) (q : Value) : Box5 T (w.setCell p q) B x y z u v := (Below.heap_setCell _ _ _ _ hp).trans h
theorem set5_heap (w : World) (B k : Nat) (x y z u v : Value) (h : k ≠ B) : (set5 w B x y z u v).heap[k]? = w.heap[k]? := by
 unfold set5
 rw [Below.heap_setCell _ _ _ _ h, Below.heap_setCell _ _ _ _ h, Below.heap_setCell _ _ _ _ h, Below.heap_setCell _ _ _ _ h, Below.heap_setCell _ _ _ _ h]
theorem set5_below {B0 B : Nat} {w0 w : World} (h : Below B0 w0 w) (hB : B0 ≤ B) (x y z u v : Value) : Below B0 w0 (set5 w B x y z u v) :=
 ((((h.setCell hB _).setCell hB _).setCell hB _).setCell hB _).setCell hB _
theorem boxes2 (w : World) (c1 c2 : Array Value) (T1 T2 : TypeId) : ((w.alloc (.cells c1 T1)).alloc (.cells c2 T2)).heap[w.heap.size]? = some (.cells c1 T1) ∧ ((w.alloc (.cells c1 T1)).alloc (.cells c2 T2)).heap[w.heap.size + 1]? = some (.cells c2 T2) ∧ Below w.heap.size w ((w.alloc (.cells c1 T1)).alloc (.cells c2 T2)) ∧ w.heap.size + 2 ≤ ((w.alloc (.cells c1 T1)).alloc (.cells c2 T2)).heap.size := by
 obtain ⟨h1, h2, h3⟩ := boxes1 w c1 T1
 refine ⟨(Below.heap_alloc _ _ _ (by simp)).trans h1, ?_, h2.alloc (by simp) _, by simp⟩
 have h := heap_alloc_new (w.alloc (.cells c1 T1)) (.cells c2 T2)
 simpa using h
theorem boxes3 (w : World) (c1 c2 c3 : Array Value) (T1 T2 T3 : TypeId) : (((w.alloc (.cells c1 T1)).alloc (.cells c2 T2)).alloc (.cells c3 T3)).heap[w.heap.size]? = some (.cells c1 T1) ∧ (((w.alloc (.cells c1 T1)).alloc (.cells c2 T2)).alloc (.cells c3 T3)).heap[w.heap.size + 1]? = some (.cells c2 T2) ∧ (((w.alloc (.cells c1 T1)).alloc (.cells c2 T2)).alloc (.cells c3 T3)).heap[w.heap.size + 2]? = some (.cells c3 T3) ∧ Below w.heap.size w (((w.alloc (.cells c1 T1)).alloc (.cells c2 T2)).alloc (.cells c3 T3)) ∧ w.heap.size + 3 ≤ (((w.alloc (.cells c1 T1)).alloc (.cells c2 T2)).alloc (.cells c3 T3)).heap.size := by
 obtain ⟨h1, h2, h3, h4⟩ := boxes2 w c1 c2 T1 T2
 refine ⟨(Below.heap_alloc _ _ _ (by simp; omega)).trans h1, (Below.heap_alloc _ _ _ (by simp)).trans h2, ?_, h3.alloc (by simp; omega) _, by simp⟩
 have h := heap_alloc_new ((w.alloc (.cells c1 T1)).alloc (.cells c2 T2)) (.cells c3 T3)
 simpa using h
end Go.Proofs.YtdklpbefbamchaaGreat
