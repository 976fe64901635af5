import Derived.WalkKit
import Derived.WalkSpells
import Derived.WalkLawsBesides
import Derived.Lib.Hide
import Derived.Deep.AppendLies
import Derived.Laws.AppendOwnNone
set_option linter.unusedSimpArgs false
set_option linter.unusedVariables false
set_option maxHeartbeats 16000000
set_option maxRecDepth 100000
namespace Go.Proofs.Ytpaifjlikgnlfaa
open Go.RowKit
theorem Qbk {a b : Bool} (h : a = b) : Ending.returned (.bool a) = .returned (.bool b) := by rw [h]
theorem ret_int {k : IntKind} {a b : Int} (h : a = b) : Ending.returned (.int k a) = .returned (.int k b) := by rw [h]
theorem ret_int2 {k l : IntKind} {a b c d : Int} (h : a = b) (h' : c = d) : Ending.returned (.tuple #[.int k a, .int l c]) = .returned (.tuple #[.int k b, .int l d]) := by rw [h, h']
theorem Qdg {k l m : IntKind} {a b c d x y : Int} (h : a = b) (h' : c = d) (h'' : x = y) : Ending.returned (.tuple #[.int k a, .int l c, .int m x]) = .returned (.tuple #[.int k b, .int l d, .int m y]) := by rw [h, h', h'']
theorem wpList_app1 {P : Program} {w0 : World} (news : List Value) {ops : Array Oper} {rest : List Oper} {o : Oper} {a : Act} {Q : Exit → Act → World → Prop} (hgd : o.guard = none) (s x : Operand) (t : TypeId)
  (ho : o.op = .call { callee := .builtin .append, args := #[s, x], argTypes := #[t, t] })
  (base : Nat) (e : TypeId) (i : TypeInfo) (z : Value) (size bytes : Nat) (ht : P.underlying t = some (.slice e)) (hi : P.info? e = some i) (hz : i.zero = some z)
  (hsize : i.size = size) (hby : i.bytes = bytes) (hzs : z.cells.size = size) (hsz : 0 < size)
  (v : Value) (n : Nat) (xs : List Value) (hown : w0.ownsRow base e size v n xs) (hs : a.eval s = v) (hx : a.eval x = .slice (some ⟨w0.heap.size, 0, none⟩) 1 1)
  (hl : news.length = size) (h1 : ∀ u ∈ news, u.oneCell' = true)
  (h63 : n + 1 ≤ maxLen) (hbytes : (n + 1) * bytes ≤ 140737488355328) (hbase : base ≤ w0.heap.size)
  (h : ∀ v' w', w'.ownsRow base e size v' (n + 1) (xs ++ news) → Below base w0 w' → wpList P ops Q rest (a.put o.dst v') w') : wpList P ops Q (o :: rest) a (w0.alloc (.cells news.toArray e)) := by
 refine wpList_append_own _ hgd s x t ho base e i z size bytes ht hi hz hsize hby hzs hsz v n xs hs (hown.alloc _) ⟨w0.heap.size, 0, none⟩ 1 1 news hx (by omega) ?_ h1 h63 hbytes (by simp; omega) ?_
 ·intro j u hu
  have e : (⟨w0.heap.size, 0, none⟩ : Addr).add j = ⟨w0.heap.size, j, none⟩ := by unfold Addr.add; split <;> simp_all
  rw [e, World.cell?_alloc_new]; simpa using hu
 ·intro v' w' hown' hg _
  refine h v' w' hown' ?_
  exact ((Below.refl base w0).alloc hbase _).grown hg (by simp; omega) fun k hk => (hown.lt k hk).1
theorem own_len {w : World} {base e : Nat} {v : Value} {n : Nat} {xs : List Value} (h : w.ownsRow base e 1 v n xs) : xs.length = n := by have := h.1; omega
def Slc (w : World) (v : Value) (xs : List Value) : Prop :=
 ∃ a cap, v = .slice a xs.length cap ∧ xs.length ≤ maxLen ∧ (xs ≠ [] → ∃ b off, a = some ⟨b, off, none⟩ ∧ ∀ i, i < xs.length → w.cell? ⟨b, off + i, none⟩ = xs[i]?)
theorem Slc.later {w w' : World} {v : Value} {xs : List Value} (h : Slc w v xs) (hb : Below w.heap.size w w') : Slc w' v xs := by
 obtain ⟨a, cap, hv, hm, hc⟩ := h
 refine ⟨a, cap, hv, hm, fun hne => ?_⟩
 obtain ⟨b, off, ha, hcell⟩ := hc hne
 refine ⟨b, off, ha, fun i hi => ?_⟩
 have h1 := hcell i hi
 rw [List.getElem?_eq_getElem hi] at h1
 rw [hb.cell (World.block_lt_of_cell? w _ h1), h1, List.getElem?_eq_getElem hi]
theorem Slc.nil (w : World) : Slc w (.slice none 0 0) [] := ⟨none, 0, rfl, Nat.zero_le _, fun h => absurd rfl h⟩
theorem Slc.own {w : World} {base e : Nat} {v : Value} {n : Nat} {xs : List Value} (h : w.ownsRow base e 1 v n xs) : Slc w v xs := by
 have hl := own_len h
 rcases h.2 with ⟨rfl, h0⟩ | ⟨g, cap, cur, rfl, hg, hh, hn, hc, _⟩
 ·have : xs = [] := List.eq_nil_of_length_eq_zero (by omega)
  subst this; exact Slc.nil w
 ·refine ⟨_, cap, by rw [hl], by omega, fun _ => ⟨g, 0, rfl, fun i hi => ?_⟩⟩
  have := h.cells (g := g) rfl i xs[i] (List.getElem?_eq_getElem hi)
  have e : (⟨g, 0, none⟩ : Addr).add i = ⟨g, 0 + i, none⟩ := by unfold Addr.add; split <;> simp_all
  rw [e] at this; rw [this, List.getElem?_eq_getElem hi]
def IsRow (k : IntKind) (w : World) (a : Option Addr) (len cap : Nat) (zs : List Int) : Prop :=
 (a = none ∧ len = 0 ∧ cap = 0 ∧ zs = []) ∨
 ∃ x, a = some x ∧ len ≤ cap ∧ cap ≤ maxLen ∧ zs.length = cap ∧ (∀ i, i < zs.length → w.cell? (x.add i) = some (.int k (zs.getD i 0))) ∧ ∀ n ∈ zs, (Lit.int k n).wf = true
theorem Qgk {w : World} {x : Addr} {v : Value} (h : w.cell? x = some v) : x.spot = none := by
 unfold World.cell? at h
 split at h
 ·cases hs : x.spot with
  | none => rfl
  | some s => rw [hs] at h; simp at h
 ·cases h
theorem Qdp {x : Addr} (h : x.spot = none) (i : Nat) : x.add i = ⟨x.block, x.off + i, none⟩ := by
 unfold Addr.add
 split
 ·rename_i h0; subst h0; cases x; simp_all
 ·rfl
theorem IsRow.slc {k : IntKind} {w : World} {a : Option Addr} {len cap : Nat} {zs : List Int} (h : IsRow k w a len cap zs) : Slc w (.slice a len cap) ((zs.take len).map (Value.int k)) := by
 rcases h with ⟨rfl, rfl, rfl, rfl⟩ | ⟨x, rfl, hl, hc, hz, hcell, _⟩
 ·exact Slc.nil w
 ·have hlen : ((zs.take len).map (Value.int k)).length = len := by simp; omega
  refine ⟨some x, cap, by rw [hlen], by omega, fun hne => ?_⟩
  have hpos : 0 < len := by
   rcases Nat.eq_zero_or_pos len with h | h
   ·subst h; simp at hne
   ·exact h
  have h0 := hcell 0 (by omega)
  have e0 : x.add 0 = x := by unfold Addr.add; rw [if_pos rfl]
  rw [e0] at h0
  have hs := Qgk h0
  refine ⟨x.block, x.off, by cases x; simp_all, fun i hi => ?_⟩
  have := hcell i (by omega)
  rw [Qdp hs] at this
  rw [this, List.getElem?_map, List.getElem?_take, if_pos (by omega), List.getD_eq_getElem?_getD, List.getElem?_eq_getElem (by omega)]
  rfl
def SlN (w : World) (sz : Nat) (v : Value) (css : List (List Value)) : Prop :=
 ∃ a cap, v = .slice a css.length cap ∧ css.length ≤ cap ∧ cap ≤ maxLen ∧ (css ≠ [] → ∃ b off, a = some ⟨b, off, none⟩ ∧ ∀ i c, css[i]? = some c → c.length = sz ∧ ∀ j x, c[j]? = some x → w.cell? ⟨b, off + i * sz + j, none⟩ = some x)
theorem SlN.later {w w' : World} {sz : Nat} {v : Value} {css : List (List Value)} (h : SlN w sz v css) (hb : Below w.heap.size w w') : SlN w' sz v css := by
 obtain ⟨a, cap, hv, hl, hm, hc⟩ := h
 refine ⟨a, cap, hv, hl, hm, fun hne => ?_⟩
 obtain ⟨b, off, ha, hcell⟩ := hc hne
 refine ⟨b, off, ha, fun i c hi => ⟨(hcell i c hi).1, fun j x hx => ?_⟩⟩
 have h1 := (hcell i c hi).2 j x hx
 rw [hb.cell (World.block_lt_of_cell? w _ h1), h1]
theorem SlN.take {w : World} {sz : Nat} {a : Option Addr} {len cap : Nat} {css : List (List Value)} (h : SlN w sz (.slice a len cap) css) (k : Nat) (hk : k ≤ css.length) : SlN w sz (.slice a k cap) (css.take k) := by
 obtain ⟨a0, c0, hv, hl, hm, hc⟩ := h
 simp only [Value.slice.injEq] at hv
 obtain ⟨rfl, _, rfl⟩ := hv
 have hlen : (css.take k).length = k := by rw [List.length_take]; omega
 refine ⟨a, cap, by rw [hlen], by omega, hm, fun hne => ?_⟩
 obtain ⟨b, off, ha, hcell⟩ := hc (by intro e; rw [e] at hne; simp at hne)
 refine ⟨b, off, ha, fun i c hi => hcell i c ?_⟩
 rw [List.getElem?_take] at hi
 split at hi
 ·exact hi
 ·cases hi
theorem SlN.shape {w : World} {sz : Nat} {v : Value} {css : List (List Value)} (h : SlN w sz v css) : ∃ a cap, v = .slice a css.length cap ∧ css.length ≤ cap ∧ cap ≤ maxLen := by
 obtain ⟨a, cap, hv, hl, hm, _⟩ := h; exact ⟨a, cap, hv, hl, hm⟩
theorem flat_get {css : List (List Value)} {sz : Nat} (h : ∀ c ∈ css, c.length = sz) : ∀ (j : Nat) (u : Value), css.flatten[j]? = some u → ∃ i c k, css[i]? = some c ∧ c[k]? = some u ∧ j = i * sz + k := by
  induction css with
  | nil => intro j u hu; simp at hu
  | cons c cr ih =>
    intro j u hu
    rw [List.flatten_cons, List.getElem?_append] at hu
    have hc := h c (by simp)
    split at hu
    · rename_i hj
      exact ⟨0, c, j, rfl, hu, by omega⟩
    · rename_i hj
      obtain ⟨i, c', k, h1, h2, h3⟩ := ih (fun x hx => h x (by simp [hx])) _ u hu
      refine ⟨i + 1, c', k, by simpa using h1, h2, ?_⟩
      rw [Nat.add_mul]; omega
theorem Qfb {css : List (List Value)} {sz : Nat} (h : ∀ c ∈ css, c.length = sz) : css.flatten.length = css.length * sz := by
 induction css with
 | nil => simp
 | cons c cr ih => rw [List.flatten_cons, List.length_append, ih (fun x hx => h x (by simp [hx])), h c (by simp), List.length_cons, Nat.add_mul]; omega
theorem run_append_sl {P : Program} (w : World) (base : Nat) (t ty e : TypeId) (i : TypeInfo) (z : Value) (size bytes : Nat) (ht : P.underlying t = some (.slice e)) (hi : P.info? e = some i) (hz : i.zero = some z)
    (hsize : i.size = size) (hby : i.bytes = bytes) (hzs : z.cells.size = size) (hsz : 0 < size)
    (v : Value) (n : Nat) (xs : List Value) (hown : w.ownsRow base e size v n xs) (x : Value) (css : List (List Value)) (hx : SlN w size x css)
    (h1 : ∀ c ∈ css, ∀ u ∈ c, u.oneCell' = true) (hcl : ∀ c ∈ css, c.length = size) (h63 : n + css.length ≤ maxLen) (hbytes : (n + css.length) * bytes ≤ 140737488355328) (hbase : base ≤ w.heap.size) :
    ∃ v' w', (Builtin.append_ #[t, t] ty #[v, x]).run P w = .ok v' w' ∧ w'.ownsRow base e size v' (n + css.length) (xs ++ css.flatten) ∧ w.grownBy w' v.ownBlock := by
  obtain ⟨a, cap, rfl, hl, hm, hc⟩ := hx
  cases a with
  | none =>
    have he : css = [] := by
      rcases css with _ | ⟨c, cr⟩
      · rfl
      · obtain ⟨b, off, hb, _⟩ := hc (by simp); cases hb
    subst he
    refine ⟨v, w, ?_, by simpa using hown, ⟨rfl, rfl, rfl, Nat.le_refl _, fun _ _ _ => rfl⟩⟩
    rcases hown.2 with ⟨rfl, _⟩ | ⟨g, cp, cur, rfl, _, _, hn, _⟩
    · simp [Builtin.append_, run_underlying ht, sizeOf, typeInfo, hi, Builtin.lenOf, Builtin.firstCells]
    · simp [Builtin.append_, run_underlying ht, sizeOf, typeInfo, hi, Builtin.lenOf, Builtin.firstCells, hn, storeCells]
  | some ad =>
    have hnews : ∀ j u, css.flatten[j]? = some u → w.cell? (ad.add j) = some u := by
      intro j u hu
      obtain ⟨i, c, k, hi1, hk, hj⟩ := flat_get hcl j u hu
      obtain ⟨b, off, hb, hcell⟩ := hc (by intro e; rw [e] at hi1; simp at hi1)
      obtain rfl := Option.some.inj hb
      have := (hcell i c hi1).2 k u hk
      rw [Qdp rfl, hj]
      rw [show off + (i * size + k) = off + i * size + k by omega]; exact this
    obtain ⟨v', w', hr, h2, h3, _⟩ := run_append_own (P := P) w base t ty e i z size bytes ht hi hz hsize hby hzs hsz v n xs hown ad css.length cap css.flatten (Qfb hcl) hnews
      (by intro u hu; obtain ⟨c, hc1, hu1⟩ := List.mem_flatten.1 hu; exact h1 c hc1 u hu1) h63 hbytes hbase
    exact ⟨v', w', hr, h2, h3⟩
theorem wp_app_sl {P : Program} {w : World} {o : Oper} {a : Act} {K : Act → World → Prop} {Q : Exit → Act → World → Prop} (s x : Operand) (t : TypeId)
  (ho : o.op = .call { callee := .builtin .append, args := #[s, x], argTypes := #[t, t] })
  (base : Nat) (e : TypeId) (i : TypeInfo) (z : Value) (size bytes : Nat) (ht : P.underlying t = some (.slice e)) (hi : P.info? e = some i) (hz : i.zero = some z)
  (hsize : i.size = size) (hby : i.bytes = bytes) (hzs : z.cells.size = size) (hsz : 0 < size)
  (v : Value) (n : Nat) (xs : List Value) (hown : w.ownsRow base e size v n xs) (xv : Value) (css : List (List Value)) (hsl : SlN w size xv css) (hs : a.eval s = v) (hx : a.eval x = xv)
  (h1 : ∀ c ∈ css, ∀ u ∈ c, u.oneCell' = true) (hcl : ∀ c ∈ css, c.length = size) (h63 : n + css.length ≤ maxLen) (hbytes : (n + css.length) * bytes ≤ 140737488355328) (hbase : base ≤ w.heap.size)
  (h : ∀ v' w', w'.ownsRow base e size v' (n + css.length) (xs ++ css.flatten) → Below base w w' → w.grownBy w' v.ownBlock → K (a.put o.dst v') w') : o.wp P a w K Q := by
 obtain ⟨v', w', hr, h2, h3⟩ := run_append_sl (P := P) w base t o.type e i z size bytes ht hi hz hsize hby hzs hsz v n xs hown xv css hsl h1 hcl h63 hbytes hbase
 unfold Oper.wp execOp
 simp only [ho, resolve, invoke, builtin, Sem.run_bind, Sem.run_pure, Result.andThen_ok, List.map_toArray, List.map_cons, List.map_nil, hs, hx, hr]
 exact h v' w' h2 ((Below.refl base w).grown h3 hbase fun k hk => (hown.lt k hk).1) h3
theorem Qfz {P : Program} {w : World} {ops : Array Oper} {rest : List Oper} {o : Oper} {a : Act} {Q : Exit → Act → World → Prop} (hgd : o.guard = none) (s x : Operand) (t : TypeId)
  (ho : o.op = .call { callee := .builtin .append, args := #[s, x], argTypes := #[t, t] })
  (base : Nat) (e : TypeId) (i : TypeInfo) (z : Value) (size bytes : Nat) (ht : P.underlying t = some (.slice e)) (hi : P.info? e = some i) (hz : i.zero = some z)
  (hsize : i.size = size) (hby : i.bytes = bytes) (hzs : z.cells.size = size) (hsz : 0 < size)
  (v : Value) (n : Nat) (xs : List Value) (hown : w.ownsRow base e size v n xs) (xv : Value) (css : List (List Value)) (hsl : SlN w size xv css) (hs : a.eval s = v) (hx : a.eval x = xv)
  (h1 : ∀ c ∈ css, ∀ u ∈ c, u.oneCell' = true) (hcl : ∀ c ∈ css, c.length = size) (h63 : n + css.length ≤ maxLen) (hbytes : (n + css.length) * bytes ≤ 140737488355328) (hbase : base ≤ w.heap.size)
  (h : ∀ v' w', w'.ownsRow base e size v' (n + css.length) (xs ++ css.flatten) → Below base w w' → w.grownBy w' v.ownBlock → wpList P ops Q rest (a.put o.dst v') w') : wpList P ops Q (o :: rest) a w :=
 wpList_plain hgd fun _ hK => wp_app_sl s x t ho base e i z size bytes ht hi hz hsize hby hzs hsz v n xs hown xv css hsl hs hx h1 hcl h63 hbytes hbase fun v' w' h2 h3 h4 => hK _ _ (h v' w' h2 h3 h4)
theorem step_app_sl {P : Program} {w : World} {ops : Array Oper} {o : Oper} {a : Act} {K : Act → World → Prop} {Q : Exit → Act → World → Prop} {E : Prop} (hgd : o.guard = none) (s x : Operand) (t : TypeId)
  (ho : o.op = .call { callee := .builtin .append, args := #[s, x], argTypes := #[t, t] })
  (base : Nat) (e : TypeId) (i : TypeInfo) (z : Value) (size bytes : Nat) (ht : P.underlying t = some (.slice e)) (hi : P.info? e = some i) (hz : i.zero = some z)
  (hsize : i.size = size) (hby : i.bytes = bytes) (hzs : z.cells.size = size) (hsz : 0 < size)
  (v : Value) (n : Nat) (xs : List Value) (hown : w.ownsRow base e size v n xs) (xv : Value) (css : List (List Value)) (hsl : SlN w size xv css) (hs : a.eval s = v) (hx : a.eval x = xv)
  (h1 : ∀ c ∈ css, ∀ u ∈ c, u.oneCell' = true) (hcl : ∀ c ∈ css, c.length = size) (h63 : n + css.length ≤ maxLen) (hbytes : (n + css.length) * bytes ≤ 140737488355328) (hbase : base ≤ w.heap.size)
  (h : ∀ v' w', w'.ownsRow base e size v' (n + css.length) (xs ++ css.flatten) → Below base w w' → w.grownBy w' v.ownBlock → K (a.put o.dst v') w') :
  if Region.wanted o (yielded ops a.tmps) = true then Oper.wp P o a w K Q else E := by
 have hw : Region.wanted o (yielded ops a.tmps) = true := by simp [Region.wanted, hgd]
 rw [if_pos hw]
 exact wp_app_sl s x t ho base e i z size bytes ht hi hz hsize hby hzs hsz v n xs hown xv css hsl hs hx h1 hcl h63 hbytes hbase h
theorem Qem {sz : Nat} : ∀ {css : List (List Value)}, (∀ c ∈ css, c.length = sz) → ∀ (i j : Nat) (c : List Value) (x : Value), css[i]? = some c → c[j]? = some x → css.flatten[i * sz + j]? = some x := by
  intro css
  induction css with
  | nil => intro _ i j c x hi _; simp at hi
  | cons c0 cr ih =>
    intro hcl i j c x hi hx
    rw [List.flatten_cons, List.getElem?_append]
    have h0 := hcl c0 (by simp)
    have hj := (List.getElem?_eq_some_iff.1 hx).1
    cases i with
    | zero =>
      simp at hi; subst hi
      rw [if_pos (by omega), Nat.zero_mul, Nat.zero_add]; exact hx
    | succ i =>
      rw [if_neg (by rw [Nat.add_mul]; omega)]
      have := ih (fun x hx => hcl x (by simp [hx])) i j c x (by simpa using hi) hx
      rw [show (i + 1) * sz + j - c0.length = i * sz + j by rw [Nat.add_mul]; omega]; exact this
theorem SlN.own {w : World} {base e sz : Nat} {v : Value} {n : Nat} {css : List (List Value)} (h : w.ownsRow base e sz v n css.flatten) (hn : css.length = n) (hcl : ∀ c ∈ css, c.length = sz) : SlN w sz v css := by
 rcases h.2 with ⟨rfl, h0⟩ | ⟨g, cap, cur, rfl, hg, hh, hnc, hc, _⟩
 ·have : css = [] := List.eq_nil_of_length_eq_zero (by omega)
  subst this; exact ⟨none, 0, rfl, Nat.le_refl _, Nat.zero_le _, fun h => absurd rfl h⟩
 ·refine ⟨_, cap, by rw [hn], by omega, hc, fun _ => ⟨g, 0, rfl, fun i c hi => ⟨hcl c (List.mem_of_getElem? hi), fun j x hx => ?_⟩⟩⟩
  have hf := Qem hcl i j c x hi hx
  have := h.cells (g := g) rfl (i * sz + j) x hf
  rw [Qdp rfl] at this
  rw [show 0 + i * sz + j = 0 + (i * sz + j) by omega]; exact this
end Go.Proofs.Ytpaifjlikgnlfaa
