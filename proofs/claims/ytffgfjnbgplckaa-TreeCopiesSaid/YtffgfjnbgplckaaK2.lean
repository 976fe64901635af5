import Derived.Test.YtffgfjnbgplckaaK1
import Derived.Deep.AppendLies
import Derived.Laws.AppendOwnNone
namespace Go.Proofs.Ytffgfjnbgplckaa
open Go.RowKit
/-- the cells of a slice whose elements have 'sz' cells each, one behind the other -/
def SlN (w : World) (sz : Nat) (v : Value) (css : List (List Value)) : Prop :=
  ∃ a cap, v = .slice a css.length cap ∧ css.length ≤ cap ∧ cap ≤ maxLen ∧ (css ≠ [] → ∃ b off, a = some ⟨b, off, none⟩ ∧ ∀ i c, css[i]? = some c → c.length = sz ∧ ∀ j x, c[j]? = some x → w.cell? ⟨b, off + i * sz + j, none⟩ = some x)
theorem SlN.later {w w' : World} {sz : Nat} {v : Value} {css : List (List Value)} (h : SlN w sz v css) (hb : Below w.heap.size w w') : SlN w' sz v css := by
  obtain ⟨a, cap, hv, hl, hm, hc⟩ := h
  refine ⟨a, cap, hv, hl, hm, fun hne => ?_⟩
  obtain ⟨b, off, ha, hcell⟩ := hc hne
  refine ⟨b, off, ha, fun i c hi => ⟨(hcell i c hi).1, fun j x hx => ?_⟩⟩
  have h1 := (hcell i c hi).2 j x hx
  rw [hb.cell (World.block_lt_of_cell? w _ h1), h1]
/-- a slice's beginning -/
theorem SlN.take {w : World} {sz : Nat} {a : Option Addr} {len cap : Nat} {css : List (List Value)} (h : SlN w sz (.slice a len cap) css) (k : Nat) (hk : k ≤ css.length) : SlN w sz (.slice a k cap) (css.take k) := by
  obtain ⟨a0, c0, hv, hl, hm, hc⟩ := h
  simp only [Value.slice.injEq] at hv
  obtain ⟨rfl, _, rfl⟩ := hv
  have hlen : (css.take k).length = k := by rw [List.length_take]; omega
  refine ⟨a, cap, by rw [hlen], by omega, hm, fun hne => ?_⟩
  obtain ⟨b, off, ha, hcell⟩ := hc (by intro e; rw [e] at hne; simp at hne)
  refine ⟨b, off, ha, fun i c hi => hcell i c ?_⟩
  rw [List.getElem?_take] at hi
  split at hi
  · exact hi
  · cases hi
theorem SlN.shape {w : World} {sz : Nat} {v : Value} {css : List (List Value)} (h : SlN w sz v css) : ∃ a cap, v = .slice a css.length cap ∧ css.length ≤ cap ∧ cap ≤ maxLen := by
  obtain ⟨a, cap, hv, hl, hm, _⟩ := h; exact ⟨a, cap, hv, hl, hm⟩
/-- the cells one behind the other -/
theorem flat_get {css : List (List Value)} {sz : Nat} (h : ∀ c ∈ css, c.length = sz) : ∀ (j : Nat) (u : Value), css.flatten[j]? = some u → ∃ i c k, css[i]? = some c ∧ c[k]? = some u ∧ j = i * sz + k := by
  induction css with
  | nil => intro j u hu; simp at hu
  | cons c cr ih =>
    intro j u hu
    rw [List.flatten_cons, List.getElem?_append] at hu
    have hc := h c (by simp)
    split at hu
    · rename_i hj
      exact ⟨0, c, j, rfl, hu, by omega⟩
    · rename_i hj
      obtain ⟨i, c', k, h1, h2, h3⟩ := ih (fun x hx => h x (by simp [hx])) _ u hu
      refine ⟨i + 1, c', k, by simpa using h1, h2, ?_⟩
      rw [Nat.add_mul]; omega
theorem flat_length {css : List (List Value)} {sz : Nat} (h : ∀ c ∈ css, c.length = sz) : css.flatten.length = css.length * sz := by
  induction css with
  | nil => simp
  | cons c cr ih => rw [List.flatten_cons, List.length_append, ih (fun x hx => h x (by simp [hx])), h c (by simp), List.length_cons, Nat.add_mul]; omega
/-- 'append(own, xs...)': a slice of the call's own, and whatever slice behind it -/
theorem run_append_sl {P : Program} (w : World) (base : Nat) (t ty e : TypeId) (i : TypeInfo) (z : Value) (size bytes : Nat) (ht : P.underlying t = some (.slice e)) (hi : P.info? e = some i) (hz : i.zero = some z)
    (hsize : i.size = size) (hby : i.bytes = bytes) (hzs : z.cells.size = size) (hsz : 0 < size)
    (v : Value) (n : Nat) (xs : List Value) (hown : w.ownsRow base e size v n xs) (x : Value) (css : List (List Value)) (hx : SlN w size x css)
    (h1 : ∀ c ∈ css, ∀ u ∈ c, u.oneCell' = true) (hcl : ∀ c ∈ css, c.length = size) (h63 : n + css.length ≤ maxLen) (hbytes : (n + css.length) * bytes ≤ 140737488355328) (hbase : base ≤ w.heap.size) :
    ∃ v' w', (Builtin.append_ #[t, t] ty #[v, x]).run P w = .ok v' w' ∧ w'.ownsRow base e size v' (n + css.length) (xs ++ css.flatten) ∧ w.grownBy w' v.ownBlock := by
  obtain ⟨a, cap, rfl, hl, hm, hc⟩ := hx
  cases a with
  | none =>
    have he : css = [] := by
      rcases css with _ | ⟨c, cr⟩
      · rfl
      · obtain ⟨b, off, hb, _⟩ := hc (by simp); cases hb
    subst he
    refine ⟨v, w, ?_, by simpa using hown, ⟨rfl, rfl, rfl, Nat.le_refl _, fun _ _ _ => rfl⟩⟩
    rcases hown.2 with ⟨rfl, _⟩ | ⟨g, cp, cur, rfl, _, _, hn, _⟩
    · simp [Builtin.append_, run_underlying ht, sizeOf, typeInfo, hi, Builtin.lenOf, Builtin.firstCells]
    · simp [Builtin.append_, run_underlying ht, sizeOf, typeInfo, hi, Builtin.lenOf, Builtin.firstCells, hn, storeCells]
  | some ad =>
    have hnews : ∀ j u, css.flatten[j]? = some u → w.cell? (ad.add j) = some u := by
      intro j u hu
      obtain ⟨i, c, k, hi1, hk, hj⟩ := flat_get hcl j u hu
      obtain ⟨b, off, hb, hcell⟩ := hc (by intro e; rw [e] at hi1; simp at hi1)
      obtain rfl := Option.some.inj hb
      have := (hcell i c hi1).2 k u hk
      rw [addr_add rfl, hj]
      rw [show off + (i * size + k) = off + i * size + k by omega]; exact this
    obtain ⟨v', w', hr, h2, h3, _⟩ := run_append_own (P := P) w base t ty e i z size bytes ht hi hz hsize hby hzs hsz v n xs hown ad css.length cap css.flatten (flat_length hcl) hnews
      (by intro u hu; obtain ⟨c, hc1, hu1⟩ := List.mem_flatten.1 hu; exact h1 c hc1 u hu1) h63 hbytes hbase
    exact ⟨v', w', hr, h2, h3⟩
theorem wp_app_sl {P : Program} {w : World} {o : Oper} {a : Act} {K : Act → World → Prop} {Q : Exit → Act → World → Prop} (s x : Operand) (t : TypeId)
    (ho : o.op = .call { callee := .builtin .append, args := #[s, x], argTypes := #[t, t] })
    (base : Nat) (e : TypeId) (i : TypeInfo) (z : Value) (size bytes : Nat) (ht : P.underlying t = some (.slice e)) (hi : P.info? e = some i) (hz : i.zero = some z)
    (hsize : i.size = size) (hby : i.bytes = bytes) (hzs : z.cells.size = size) (hsz : 0 < size)
    (v : Value) (n : Nat) (xs : List Value) (hown : w.ownsRow base e size v n xs) (xv : Value) (css : List (List Value)) (hsl : SlN w size xv css) (hs : a.eval s = v) (hx : a.eval x = xv)
    (h1 : ∀ c ∈ css, ∀ u ∈ c, u.oneCell' = true) (hcl : ∀ c ∈ css, c.length = size) (h63 : n + css.length ≤ maxLen) (hbytes : (n + css.length) * bytes ≤ 140737488355328) (hbase : base ≤ w.heap.size)
    (h : ∀ v' w', w'.ownsRow base e size v' (n + css.length) (xs ++ css.flatten) → Below base w w' → w.grownBy w' v.ownBlock → K (a.put o.dst v') w') : o.wp P a w K Q := by
  obtain ⟨v', w', hr, h2, h3⟩ := run_append_sl (P := P) w base t o.type e i z size bytes ht hi hz hsize hby hzs hsz v n xs hown xv css hsl h1 hcl h63 hbytes hbase
  unfold Oper.wp execOp
  simp only [ho, resolve, invoke, builtin, Sem.run_bind, Sem.run_pure, Result.andThen_ok, List.map_toArray, List.map_cons, List.map_nil, hs, hx, hr]
  exact h v' w' h2 ((Below.refl base w).grown h3 hbase fun k hk => (hown.lt k hk).1) h3
theorem wpList_app_sl {P : Program} {w : World} {ops : Array Oper} {rest : List Oper} {o : Oper} {a : Act} {Q : Exit → Act → World → Prop} (hgd : o.guard = none) (s x : Operand) (t : TypeId)
    (ho : o.op = .call { callee := .builtin .append, args := #[s, x], argTypes := #[t, t] })
    (base : Nat) (e : TypeId) (i : TypeInfo) (z : Value) (size bytes : Nat) (ht : P.underlying t = some (.slice e)) (hi : P.info? e = some i) (hz : i.zero = some z)
    (hsize : i.size = size) (hby : i.bytes = bytes) (hzs : z.cells.size = size) (hsz : 0 < size)
    (v : Value) (n : Nat) (xs : List Value) (hown : w.ownsRow base e size v n xs) (xv : Value) (css : List (List Value)) (hsl : SlN w size xv css) (hs : a.eval s = v) (hx : a.eval x = xv)
    (h1 : ∀ c ∈ css, ∀ u ∈ c, u.oneCell' = true) (hcl : ∀ c ∈ css, c.length = size) (h63 : n + css.length ≤ maxLen) (hbytes : (n + css.length) * bytes ≤ 140737488355328) (hbase : base ≤ w.heap.size)
    (h : ∀ v' w', w'.ownsRow base e size v' (n + css.length) (xs ++ css.flatten) → Below base w w' → w.grownBy w' v.ownBlock → wpList P ops Q rest (a.put o.dst v') w') : wpList P ops Q (o :: rest) a w :=
  wpList_plain hgd fun _ hK => wp_app_sl s x t ho base e i z size bytes ht hi hz hsize hby hzs hsz v n xs hown xv css hsl hs hx h1 hcl h63 hbytes hbase fun v' w' h2 h3 h4 => hK _ _ (h v' w' h2 h3 h4)
/-- the same at a step of a region that draws its order -/
theorem step_app_sl {P : Program} {w : World} {ops : Array Oper} {o : Oper} {a : Act} {K : Act → World → Prop} {Q : Exit → Act → World → Prop} {E : Prop} (hgd : o.guard = none) (s x : Operand) (t : TypeId)
    (ho : o.op = .call { callee := .builtin .append, args := #[s, x], argTypes := #[t, t] })
    (base : Nat) (e : TypeId) (i : TypeInfo) (z : Value) (size bytes : Nat) (ht : P.underlying t = some (.slice e)) (hi : P.info? e = some i) (hz : i.zero = some z)
    (hsize : i.size = size) (hby : i.bytes = bytes) (hzs : z.cells.size = size) (hsz : 0 < size)
    (v : Value) (n : Nat) (xs : List Value) (hown : w.ownsRow base e size v n xs) (xv : Value) (css : List (List Value)) (hsl : SlN w size xv css) (hs : a.eval s = v) (hx : a.eval x = xv)
    (h1 : ∀ c ∈ css, ∀ u ∈ c, u.oneCell' = true) (hcl : ∀ c ∈ css, c.length = size) (h63 : n + css.length ≤ maxLen) (hbytes : (n + css.length) * bytes ≤ 140737488355328) (hbase : base ≤ w.heap.size)
    (h : ∀ v' w', w'.ownsRow base e size v' (n + css.length) (xs ++ css.flatten) → Below base w w' → w.grownBy w' v.ownBlock → K (a.put o.dst v') w') :
    if Region.wanted o (yielded ops a.tmps) = true then Oper.wp P o a w K Q else E := by
  have hw : Region.wanted o (yielded ops a.tmps) = true := by simp [Region.wanted, hgd]
  rw [if_pos hw]
  exact wp_app_sl s x t ho base e i z size bytes ht hi hz hsize hby hzs hsz v n xs hown xv css hsl hs hx h1 hcl h63 hbytes hbase h
/-- 's[:k]' -/
theorem run_slice_to {P : Program} (w : World) (t : TypeId) (a : Option Addr) (len cap k : Nat) (ht : P.underlying t = some (.slice (P.elem t))) {i : TypeInfo} (hi : P.info? (P.elem t) = some i) (hk : k ≤ cap) :
    (Instr.slice t (.slice a len cap) none (some (.int .i64 (k : Int))) none).run P w = .ok (.slice a k cap) w := by
  have e : ∀ x : Option Addr, x.map (fun y => y.add 0) = x := by intro x; cases x <;> simp [Addr.add]
  simp [Instr.slice, run_underlying ht, Instr.sliceBounds, Instr.sliceBound, asIntOf, hk, sizeOf, typeInfo, hi, e]
theorem flat_at {sz : Nat} : ∀ {css : List (List Value)}, (∀ c ∈ css, c.length = sz) → ∀ (i j : Nat) (c : List Value) (x : Value), css[i]? = some c → c[j]? = some x → css.flatten[i * sz + j]? = some x := by
  intro css
  induction css with
  | nil => intro _ i j c x hi _; simp at hi
  | cons c0 cr ih =>
    intro hcl i j c x hi hx
    rw [List.flatten_cons, List.getElem?_append]
    have h0 := hcl c0 (by simp)
    have hj := (List.getElem?_eq_some_iff.1 hx).1
    cases i with
    | zero =>
      simp at hi; subst hi
      rw [if_pos (by omega), Nat.zero_mul, Nat.zero_add]; exact hx
    | succ i =>
      rw [if_neg (by rw [Nat.add_mul]; omega)]
      have := ih (fun x hx => hcl x (by simp [hx])) i j c x (by simpa using hi) hx
      rw [show (i + 1) * sz + j - c0.length = i * sz + j by rw [Nat.add_mul]; omega]; exact this
/-- an owned row as a slice of elements -/
theorem SlN.own {w : World} {base e sz : Nat} {v : Value} {n : Nat} {css : List (List Value)} (h : w.ownsRow base e sz v n css.flatten) (hn : css.length = n) (hcl : ∀ c ∈ css, c.length = sz) : SlN w sz v css := by
  rcases h.2 with ⟨rfl, h0⟩ | ⟨g, cap, cur, rfl, hg, hh, hnc, hc, _⟩
  · have : css = [] := List.eq_nil_of_length_eq_zero (by omega)
    subst this; exact ⟨none, 0, rfl, Nat.le_refl _, Nat.zero_le _, fun h => absurd rfl h⟩
  · refine ⟨_, cap, by rw [hn], by omega, hc, fun _ => ⟨g, 0, rfl, fun i c hi => ⟨hcl c (List.mem_of_getElem? hi), fun j x hx => ?_⟩⟩⟩
    have hf := flat_at hcl i j c x hi hx
    have := h.cells (g := g) rfl (i * sz + j) x hf
    rw [addr_add rfl] at this
    rw [show 0 + i * sz + j = 0 + (i * sz + j) by omega]; exact this
end Go.Proofs.Ytffgfjnbgplckaa
