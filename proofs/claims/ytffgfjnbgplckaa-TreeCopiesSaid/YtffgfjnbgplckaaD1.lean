import Derived.Test.YtffgfjnbgplckaaD0
namespace Go.Proofs.Ytffgfjnbgplckaa
open Go.RowKit
variable {S S' : Nat → Prop} {w w' : World}
/-- a row of the call's own, of such data; what they lead to lies in other blocks of a set -/
def Own {α : Type} [Enc α] (S : Nat → Prop) (T : TypeId) (lo : Nat) (v : Value) (l : List α) (w : World) : Prop :=
  ∃ css, w.ownsRow lo T (Enc.sz α) v l.length css.flatten ∧ RepL (fun b => S b ∧ v.ownBlock ≠ some b) w (l.map Enc.enc) css
section
variable {α : Type} [Enc α] {T : TypeId} {lo : Nat} {v : Value} {l : List α}
theorem Own.nil : Own S T lo (.slice none 0 0) ([] : List α) w := ⟨[], World.ownsRow_nil _ _ _ _, by simp only [List.map_nil, RepL]⟩
theorem own_move {base e size : Nat} {n : Nat} {xs : List Value} (h : w.ownsRow base e size v n xs) (hF : ∀ b, base ≤ b → b < w.heap.size → v.ownBlock = some b → w'.heap[b]? = w.heap[b]?) : w'.ownsRow base e size v n xs := by
  have hl := h.lt
  refine ⟨h.1, ?_⟩
  rcases h.2 with h1 | ⟨g, cap, cur, h1, h2, h3, h4⟩
  · exact .inl h1
  · have hv : v.ownBlock = some g := by rw [h1]; rfl
    have := hl g hv
    exact .inr ⟨g, cap, cur, h1, h2, (hF g h2 this.2 hv).trans h3, h4⟩
theorem Own.later (h : Own S T lo v l w) (hb : Below w.heap.size w w') : Own S T lo v l w' := by
  obtain ⟨css, h1, h2⟩ := h
  exact ⟨css, own_move h1 fun b _ hl _ => hb.block b hl, h2.later hb⟩
theorem Own.move (h : Own S T lo v l w) (hF : ∀ b, S b ∨ lo ≤ b → b < w.heap.size → w'.heap[b]? = w.heap[b]?) : Own S T lo v l w' := by
  obtain ⟨css, h1, h2⟩ := h
  exact ⟨css, own_move h1 fun b hb hl _ => hF b (.inr hb) hl, h2.move fun b hb hl => ⟨hb, hF b (.inl hb.1) hl⟩⟩
theorem Own.sub (h : Own S T lo v l w) (hs : ∀ b, S b → b < w.heap.size → S' b) : Own S' T lo v l w := by
  obtain ⟨css, h1, h2⟩ := h
  exact ⟨css, h1, h2.sub fun b h hl => ⟨hs b h.1 hl, h.2⟩⟩
theorem Own.base {lo' : Nat} (h : Own S T lo v l w) (hl : lo' ≤ lo) : Own S T lo' v l w := by
  obtain ⟨css, h1, h2⟩ := h
  refine ⟨css, ⟨h1.1, ?_⟩, h2⟩
  rcases h1.2 with h3 | ⟨g, cap, cur, a, b, c⟩
  · exact .inl h3
  · exact .inr ⟨g, cap, cur, a, Nat.le_trans hl b, c⟩
theorem Own.lt (h : Own S T lo v l w) : ∀ k, v.ownBlock = some k → lo ≤ k ∧ k < w.heap.size := by
  obtain ⟨css, h1, h2⟩ := h; exact h1.lt
theorem Own.shape (h : Own S T lo v l w) : ∃ a cap, v = .slice a l.length cap := by
  obtain ⟨css, h1, h2⟩ := h
  rcases h1.2 with ⟨h3, h4⟩ | ⟨g, cap, cur, h1, _⟩
  · exact ⟨none, 0, by rw [h3, h4]⟩
  · exact ⟨_, _, h1⟩
theorem RepS.form {u : Value} (h : RepS S w u l) : ∃ a n c, u = .slice a n c := by
  obtain ⟨a, c, h, _⟩ := h.shape
  exact ⟨a, _, c, h⟩
theorem Own.some (h : Own S T lo v l w) (hn : l ≠ []) : ∃ g cap, v = .slice (some ⟨g, 0, none⟩) l.length cap ∧ lo ≤ g := by
  obtain ⟨css, h1, h2⟩ := h
  rcases h1.2 with ⟨h3, h4⟩ | ⟨g, cap, cur, h1, h5, _⟩
  · exact absurd (List.eq_nil_of_length_eq_zero h4) hn
  · exact ⟨_, _, h1, h5⟩
theorem Own.len (h : Own S T lo v l w) : l.length ≤ maxLen := by
  obtain ⟨css, h1, h2⟩ := h
  rcases h1.2 with ⟨h3, h4⟩ | ⟨g, cap, cur, h1, h5, _, h6, h7, _⟩
  · omega
  · omega
/-- read as a slice, from now on only read -/
theorem Own.done (h : Own S T lo v l w) : RepS (fun b => S b ∨ lo ≤ b) w v l := by
  obtain ⟨css, h1, h2⟩ := h
  have hn := h2.length
  simp at hn
  have hsl := SlD.own h1 hn (h2.lens (by intro f hf; obtain ⟨a, _, rfl⟩ := List.mem_map.1 hf; exact Enc.len a))
  exact RepS.mk (hsl.move fun b hb _ => ⟨.inr (h1.lt b hb).1, rfl⟩) (h2.sub fun b hb _ => .inl hb.1)
/-- data that do not lie in the row stay behind an append to it -/
theorem Rep.grown {a : α} {cs : List Value} (h : Rep S w a cs) (hg : w.grownBy w' v.ownBlock) (hs : ∀ b, S b → v.ownBlock ≠ some b) : Rep S w' a cs :=
  Rep.move (fun b hb hl => ⟨hb, hg.block b hl (fun e => hs b hb e.symm)⟩) h
theorem RepS.grown {u : Value} (h : RepS S w u l) (hg : w.grownBy w' v.ownBlock) (hs : ∀ b, S b → v.ownBlock ≠ some b) : RepS S w' u l :=
  RepS.move (fun b hb hl => ⟨hb, hg.block b hl (fun e => hs b hb e.symm)⟩) h
/-- 'append(s, xs...)' to a row of one's own -/
theorem run_push {P : Program} (t ty e : TypeId) (i : TypeInfo) (z : Value) (bytes : Nat) (ht : P.underlying t = some (.slice e)) (hi : P.info? e = some i) (hz : i.zero = some z)
    (hsize : i.size = Enc.sz α) (hby : i.bytes = bytes) (hzs : z.cells.size = Enc.sz α) (hsz : 0 < Enc.sz α)
    (hown : Own S e lo v l w) (x : Value) (m : List α) (hx : RepS S' w x m) (hS : ∀ d ∈ m, ∀ cs, Rep S' w d cs → Rep (fun b => S b ∧ v.ownBlock ≠ some b) w d cs)
    (h63 : l.length + m.length ≤ maxLen) (hbytes : (l.length + m.length) * bytes ≤ 140737488355328) (hbase : lo ≤ w.heap.size) :
    ∃ v' w', (Builtin.append_ #[t, t] ty #[v, x]).run P w = .ok v' w' ∧ Own S e lo v' (l ++ m) w' ∧ w.grownBy w' v.ownBlock ∧
      (v'.ownBlock = v.ownBlock ∨ ∀ k, v'.ownBlock = some k → w.heap.size ≤ k) := by
  obtain ⟨css, h1, h2⟩ := hown
  obtain ⟨dss, hd, hr⟩ := hx.open
  have hdl := hr.length
  simp at hdl
  have hr' : RepL (fun b => S b ∧ v.ownBlock ≠ Option.some b) w (m.map Enc.enc) dss := by
    refine RepL.mk (by simpa using hdl) fun i hi => ?_
    obtain ⟨c, hc, hc2⟩ := hr.get i hi
    refine ⟨c, hc, ?_⟩
    simp only [List.getElem_map] at hc2 ⊢
    exact hS _ (List.getElem_mem _) c hc2
  have hcl := hr.lens (sz := Enc.sz α) (by intro f hf; obtain ⟨a, _, rfl⟩ := List.mem_map.1 hf; exact Enc.len a)
  obtain ⟨a, cap, rfl, hl, hm, hc⟩ := hd
  have fin : ∀ {v' : Value} {w' : World}, w'.ownsRow lo e (Enc.sz α) v' (l.length + m.length) (css.flatten ++ dss.flatten) → w.grownBy w' v.ownBlock → (v'.ownBlock = v.ownBlock ∨ ∀ k, v'.ownBlock = Option.some k → w.heap.size ≤ k) → Own S e lo v' (l ++ m) w' := by
    intro v' w' ho hg hap
    refine ⟨css ++ dss, by rw [List.length_append, List.flatten_append]; exact ho, ?_⟩
    rw [List.map_append]
    refine (h2.append hr').move fun b hb hbl => ⟨⟨hb.1, fun e => ?_⟩, hg.block b hbl (fun e => hb.2 e.symm)⟩
    rcases hap with h3 | h3
    · exact hb.2 (h3 ▸ e)
    · have := h3 b e; omega
  cases a with
  | none =>
    have he : dss = [] := by
      rcases dss with _ | ⟨c, cr⟩
      · rfl
      · obtain ⟨b, off, hb, _⟩ := hc (by simp); cases hb
    subst he
    have hm0 : m = [] := List.eq_nil_of_length_eq_zero (by simpa using hdl.symm)
    subst hm0
    have hg0 : w.grownBy w v.ownBlock := ⟨rfl, rfl, rfl, Nat.le_refl _, fun _ _ _ => rfl⟩
    refine ⟨v, w, ?_, fin (by simpa using h1) hg0 (.inl rfl), hg0, .inl rfl⟩
    rcases h1.2 with ⟨rfl, _⟩ | ⟨g, cp, cur, rfl, _, _, hn, _⟩
    · simp [Builtin.append_, run_underlying ht, sizeOf, typeInfo, hi, Builtin.lenOf, Builtin.firstCells]
    · simp [Builtin.append_, run_underlying ht, sizeOf, typeInfo, hi, Builtin.lenOf, Builtin.firstCells, hn, storeCells]
  | some ad =>
    have hnews : ∀ j u, dss.flatten[j]? = some u → w.cell? (ad.add j) = some u := by
      intro j u hu
      obtain ⟨i, c, k, hi1, hk, hj⟩ := flat_get hcl j u hu
      obtain ⟨b, off, hb, _, _, hcell⟩ := hc (by intro e; rw [e] at hi1; simp at hi1)
      obtain rfl := Option.some.inj hb
      have := (hcell i c hi1).2 k u hk
      rw [addr_add rfl, hj]
      rw [show off + (i * Enc.sz α + k) = off + i * Enc.sz α + k by omega]; exact this
    have hone := hr.one
    obtain ⟨v', w', hrun, h3, h4, h5⟩ := run_append_apart (P := P) w lo t ty e i z (Enc.sz α) bytes ht hi hz hsize hby hzs hsz v l.length css.flatten h1 ad m.length cap dss.flatten (by rw [flat_length hcl, hdl]) hnews
      (by intro u hu; obtain ⟨c, hc1, hu1⟩ := List.mem_flatten.1 hu; exact hone c hc1 u hu1) h63 hbytes hbase
    exact ⟨v', w', by rw [hdl]; exact hrun, fin h3 h4 h5, h4, h5⟩
theorem wp_push {P : Program} {o : Oper} {a : Act} {K : Act → World → Prop} {Q : Exit → Act → World → Prop} (s x : Operand) (t : TypeId)
    (ho : o.op = .call { callee := .builtin .append, args := #[s, x], argTypes := #[t, t] })
    (e : TypeId) (i : TypeInfo) (z : Value) (bytes : Nat) (ht : P.underlying t = some (.slice e)) (hi : P.info? e = some i) (hz : i.zero = some z)
    (hsize : i.size = Enc.sz α) (hby : i.bytes = bytes) (hzs : z.cells.size = Enc.sz α) (hsz : 0 < Enc.sz α)
    (hown : Own S e lo v l w) (xv : Value) (m : List α) (hx : RepS S' w xv m) (hs : a.eval s = v) (hxe : a.eval x = xv) (hS : ∀ d ∈ m, ∀ cs, Rep S' w d cs → Rep (fun b => S b ∧ v.ownBlock ≠ some b) w d cs)
    (h63 : l.length + m.length ≤ maxLen) (hbytes : (l.length + m.length) * bytes ≤ 140737488355328) (hbase : lo ≤ w.heap.size)
    (h : ∀ v' w', Own S e lo v' (l ++ m) w' → Below lo w w' → w.grownBy w' v.ownBlock → (v'.ownBlock = v.ownBlock ∨ ∀ k, v'.ownBlock = some k → w.heap.size ≤ k) → K (a.put o.dst v') w') : o.wp P a w K Q := by
  obtain ⟨v', w', hr, h2, h3, h4⟩ := run_push (P := P) t o.type e i z bytes ht hi hz hsize hby hzs hsz hown xv m hx hS h63 hbytes hbase
  unfold Oper.wp execOp
  simp only [ho, resolve, invoke, builtin, Sem.run_bind, Sem.run_pure, Result.andThen_ok, List.map_toArray, List.map_cons, List.map_nil, hs, hxe, hr]
  exact h v' w' h2 ((Below.refl lo w).grown h3 hbase fun k hk => (hown.lt k hk).1) h3 h4
theorem wpList_push {P : Program} {ops : Array Oper} {rest : List Oper} {o : Oper} {a : Act} {Q : Exit → Act → World → Prop} (hgd : o.guard = none) (s x : Operand) (t : TypeId)
    (ho : o.op = .call { callee := .builtin .append, args := #[s, x], argTypes := #[t, t] })
    (e : TypeId) (i : TypeInfo) (z : Value) (bytes : Nat) (ht : P.underlying t = some (.slice e)) (hi : P.info? e = some i) (hz : i.zero = some z)
    (hsize : i.size = Enc.sz α) (hby : i.bytes = bytes) (hzs : z.cells.size = Enc.sz α) (hsz : 0 < Enc.sz α)
    (hown : Own S e lo v l w) (xv : Value) (m : List α) (hx : RepS S' w xv m) (hs : a.eval s = v) (hxe : a.eval x = xv) (hS : ∀ d ∈ m, ∀ cs, Rep S' w d cs → Rep (fun b => S b ∧ v.ownBlock ≠ some b) w d cs)
    (h63 : l.length + m.length ≤ maxLen) (hbytes : (l.length + m.length) * bytes ≤ 140737488355328) (hbase : lo ≤ w.heap.size)
    (h : ∀ v' w', Own S e lo v' (l ++ m) w' → Below lo w w' → w.grownBy w' v.ownBlock → (v'.ownBlock = v.ownBlock ∨ ∀ k, v'.ownBlock = some k → w.heap.size ≤ k) → wpList P ops Q rest (a.put o.dst v') w') : wpList P ops Q (o :: rest) a w :=
  wpList_plain hgd fun _ hK => wp_push s x t ho e i z bytes ht hi hz hsize hby hzs hsz hown xv m hx hs hxe hS h63 hbytes hbase fun v' w' h2 h3 h4 h5 => hK _ _ (h v' w' h2 h3 h4 h5)
theorem step_push {P : Program} {ops : Array Oper} {o : Oper} {a : Act} {K : Act → World → Prop} {Q : Exit → Act → World → Prop} {E : Prop} (hgd : o.guard = none) (s x : Operand) (t : TypeId)
    (ho : o.op = .call { callee := .builtin .append, args := #[s, x], argTypes := #[t, t] })
    (e : TypeId) (i : TypeInfo) (z : Value) (bytes : Nat) (ht : P.underlying t = some (.slice e)) (hi : P.info? e = some i) (hz : i.zero = some z)
    (hsize : i.size = Enc.sz α) (hby : i.bytes = bytes) (hzs : z.cells.size = Enc.sz α) (hsz : 0 < Enc.sz α)
    (hown : Own S e lo v l w) (xv : Value) (m : List α) (hx : RepS S' w xv m) (hs : a.eval s = v) (hxe : a.eval x = xv) (hS : ∀ d ∈ m, ∀ cs, Rep S' w d cs → Rep (fun b => S b ∧ v.ownBlock ≠ some b) w d cs)
    (h63 : l.length + m.length ≤ maxLen) (hbytes : (l.length + m.length) * bytes ≤ 140737488355328) (hbase : lo ≤ w.heap.size)
    (h : ∀ v' w', Own S e lo v' (l ++ m) w' → Below lo w w' → w.grownBy w' v.ownBlock → (v'.ownBlock = v.ownBlock ∨ ∀ k, v'.ownBlock = some k → w.heap.size ≤ k) → K (a.put o.dst v') w') :
    if Region.wanted o (yielded ops a.tmps) = true then Oper.wp P o a w K Q else E := by
  have hw : Region.wanted o (yielded ops a.tmps) = true := by simp [Region.wanted, hgd]
  rw [if_pos hw]
  exact wp_push s x t ho e i z bytes ht hi hz hsize hby hzs hsz hown xv m hx hs hxe hS h63 hbytes hbase h
/-- one element in a block of its own -/
theorem RepS.one {a : α} {cs : List Value} {T : TypeId} (h : Rep S w a cs) : RepS (fun b => S b ∨ b = w.heap.size) (w.alloc (.cells cs.toArray T)) (.slice (some ⟨w.heap.size, 0, none⟩) 1 1) [a] := by
  refine RepS.lit (css := [cs]) (T := T) (fr := (0, 0)) ?_ ?_ (by simp [maxLen]) (.inr rfl)
  · simpa using heap_alloc_new w _
  · simp only [List.map_cons, List.map_nil, RepL]
    exact ⟨_, _, rfl, (RepF.later h ((Below.refl _ _).alloc (Nat.le_refl _) _)).sub fun b hb _ => .inl hb, rfl⟩
/-- two elements in a block of their own -/
theorem RepS.two {a b : α} {cs ds : List Value} {T : TypeId} (h : Rep S w a cs) (h2 : Rep S w b ds) : RepS (fun b => S b ∨ b = w.heap.size) (w.alloc (.cells (cs ++ ds).toArray T)) (.slice (some ⟨w.heap.size, 0, none⟩) 2 2) [a, b] := by
  refine RepS.lit (css := [cs, ds]) (T := T) (fr := (0, 0)) ?_ ?_ (by simp [maxLen]) (.inr rfl)
  · simpa using heap_alloc_new w _
  · simp only [List.map_cons, List.map_nil, RepL]
    exact ⟨_, _, rfl, (RepF.later h ((Below.refl _ _).alloc (Nat.le_refl _) _)).sub fun b hb _ => .inl hb, _, _, rfl, (RepF.later h2 ((Below.refl _ _).alloc (Nat.le_refl _) _)).sub fun b hb _ => .inl hb, rfl⟩
end
/-- texts, numbers, truth values -/
instance : Enc ByteArray := ⟨1, fun s => [.str s], fun _ => rfl⟩
instance : Enc Int := ⟨1, fun n => [.v (.int .i64 n)], fun _ => rfl⟩
instance : Enc Bool := ⟨1, fun n => [.v (.bool n)], fun _ => rfl⟩
theorem rep_str {s : ByteArray} {cs : List Value} : Rep S w s cs ↔ cs = [.string s] ∧ s.size ≤ maxLen := by
  unfold Rep
  simp only [Enc.enc, RepF, RepV]
  constructor
  · rintro ⟨c, cr, rfl, ⟨rfl, h⟩, rfl⟩; exact ⟨rfl, h⟩
  · rintro ⟨rfl, h⟩; exact ⟨_, _, rfl, ⟨rfl, h⟩, rfl⟩
theorem rep_int {n : Int} {cs : List Value} : Rep S w n cs ↔ cs = [.int .i64 n] := by
  unfold Rep
  simp only [Enc.enc, RepF, RepV]
  constructor
  · rintro ⟨c, cr, rfl, ⟨rfl, h⟩, rfl⟩; rfl
  · rintro rfl; exact ⟨_, _, rfl, ⟨rfl, rfl⟩, rfl⟩
end Go.Proofs.Ytffgfjnbgplckaa
