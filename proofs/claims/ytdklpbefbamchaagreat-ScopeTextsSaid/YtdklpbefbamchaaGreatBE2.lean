import Derived.Test.YtdklpbefbamchaaGreatBE1
import Derived.BigRegion
import Derived.RegionTactic
import Derived.ChangeAlike
import Derived.Deep.LoopGhost
import Derived.BigQuiet
import Derived.Test.YtdklpbefbamchaaGreatBD
import Derived.SizedLaws
set_option linter.unusedSimpArgs false
set_option linter.unusedVariables false
set_option maxHeartbeats 16000000
set_option maxRecDepth 100000
namespace Go.Proofs.YtdklpbefbamchaaGreat
open Go.RowKit
def SlK (K : Nat → Nat → Prop) (w : World) (sz : Nat) (v : Value) (css : List (List Value)) : Prop := SlN w sz v css ∧ ∀ b off n cap, v = .slice (some ⟨b, off, none⟩) n cap → ∀ o, off ≤ o → o < off + css.length * sz → K b o
theorem SlK.later {K : Nat → Nat → Prop} {w w' : World} {sz : Nat} {v : Value} {css : List (List Value)} (h : SlK K w sz v css) (hb : Below w.heap.size w w') : SlK K w' sz v css := ⟨h.1.later hb, h.2⟩
variable {K : Nat → Nat → Prop}
mutual
def TmC (K : Nat → Nat → Prop) (w : World) : Tm → List Value → Prop
 | .mk k n sub, cs => ∃ s css, cs = [.int .i64 k, .int .i64 n, s] ∧ SlK K w 3 s css ∧ TmCs K w sub css
def TmCs (K : Nat → Nat → Prop) (w : World) : List Tm → List (List Value) → Prop
 | [], css => css = []
 | t :: ts, css => ∃ c cr, css = c :: cr ∧ TmC K w t c ∧ TmCs K w ts cr
end
theorem TmCs.length {w : World} : ∀ {ts : List Tm} {css : List (List Value)}, TmCs K w ts css → css.length = ts.length := by
 intro ts
 induction ts with
 | nil => intro css h; simp only [TmCs] at h; subst h; rfl
 | cons t ts ih => intro css h; simp only [TmCs] at h; obtain ⟨c, cr, rfl, _, h2⟩ := h; simp [ih h2]
theorem TmCs.get {w : World} : ∀ {ts : List Tm} {css : List (List Value)}, TmCs K w ts css → ∀ (i : Nat) (h : i < ts.length), ∃ c, css[i]? = some c ∧ TmC K w ts[i] c := by
  intro ts
  induction ts with
  | nil => intro css _ i h; simp at h
  | cons t ts ih =>
    intro css h i hi
    simp only [TmCs] at h
    obtain ⟨c, cr, rfl, h1, h2⟩ := h
    cases i with
    | zero => exact ⟨c, rfl, h1⟩
    | succ i =>
      obtain ⟨c', hc', h'⟩ := ih h2 i (by simpa using hi)
      exact ⟨c', by simpa using hc', by simpa using h'⟩
theorem TmCs.mk {w : World} : ∀ {ts : List Tm} {css : List (List Value)}, css.length = ts.length → (∀ (i : Nat) (h : i < ts.length), ∃ c, css[i]? = some c ∧ TmC K w ts[i] c) → TmCs K w ts css := by
  intro ts
  induction ts with
  | nil => intro css hl _; simp only [TmCs]; exact List.eq_nil_of_length_eq_zero hl
  | cons t ts ih =>
    intro css hl h
    match css, hl with
    | c :: cr, hl =>
      simp only [TmCs]
      obtain ⟨c0, e0, h0⟩ := h 0 (by simp)
      simp at e0; subst e0
      refine ⟨c, cr, rfl, h0, ih (by simpa using hl) fun i hi => ?_⟩
      obtain ⟨c', hc', h'⟩ := h (i + 1) (by simpa using hi)
      exact ⟨c', by simpa using hc', by simpa using h'⟩
theorem TmC.later {w w' : World} (hb : Below w.heap.size w w') : ∀ (t : Tm) (cs : List Value), TmC K w t cs → TmC K w' t cs := by
 refine Tm.ind ?_
 intro k n sub ih cs h
 simp only [TmC] at h ⊢
 obtain ⟨s, css, rfl, h1, h2⟩ := h
 refine ⟨s, css, rfl, h1.later hb, TmCs.mk h2.length fun i hi => ?_⟩
 obtain ⟨c, hc, h3⟩ := h2.get i hi
 exact ⟨c, hc, ih _ (List.getElem_mem hi) c h3⟩
theorem TmCs.later {w w' : World} (hb : Below w.heap.size w w') {ts : List Tm} {css : List (List Value)} (h : TmCs K w ts css) : TmCs K w' ts css :=
 TmCs.mk h.length fun i hi => by
  obtain ⟨c, hc, h3⟩ := h.get i hi
  exact ⟨c, hc, h3.later hb⟩
def TmS (K : Nat → Nat → Prop) (w : World) (v : Value) (ts : List Tm) : Prop := ∃ css, SlK K w 3 v css ∧ TmCs K w ts css
theorem TmS.later {w w' : World} {v : Value} {ts : List Tm} (h : TmS K w v ts) (hb : Below w.heap.size w w') : TmS K w' v ts := by
 obtain ⟨css, h1, h2⟩ := h
 exact ⟨css, h1.later hb, h2.later hb⟩
theorem TmC.iff {w : World} {k n : Int} {sub : List Tm} {cs : List Value} : TmC K w (.mk k n sub) cs ↔ ∃ s, cs = [.int .i64 k, .int .i64 n, s] ∧ TmS K w s sub := by
 simp only [TmC]
 constructor
 ·rintro ⟨s, css, rfl, h1, h2⟩; exact ⟨s, rfl, css, h1, h2⟩
 ·rintro ⟨s, rfl, css, h1, h2⟩; exact ⟨s, css, rfl, h1, h2⟩
theorem TmC.open {w : World} {t : Tm} {cs : List Value} (h : TmC K w t cs) : ∃ s, cs = [.int .i64 t.kind, .int .i64 t.num, s] ∧ TmS K w s t.sub := by
 cases t; exact TmC.iff.1 h
theorem TmS.open {w : World} {v : Value} {ts : List Tm} (h : TmS K w v ts) : ∃ a cap, v = .slice a ts.length cap ∧ ts.length ≤ cap ∧ cap ≤ maxLen ∧
  (ts ≠ [] → ∃ b off, a = some ⟨b, off, none⟩ ∧ ∀ (i : Nat) (hi : i < ts.length), ∃ s, w.cell? ⟨b, off + i * 3, none⟩ = some (.int .i64 ts[i].kind) ∧ w.cell? ⟨b, off + i * 3 + 1, none⟩ = some (.int .i64 ts[i].num) ∧ w.cell? ⟨b, off + i * 3 + 2, none⟩ = some s ∧ TmS K w s ts[i].sub) := by
 obtain ⟨css, ⟨⟨a, cap, hv, hl, hm, hc⟩, -⟩, h2⟩ := h
 have hlen := h2.length
 rw [hlen] at hv hl
 refine ⟨a, cap, hv, hl, hm, fun hne => ?_⟩
 obtain ⟨b, off, ha, hcell⟩ := hc (by intro e; rw [e] at hlen; simp at hlen; exact hne (List.eq_nil_of_length_eq_zero hlen.symm))
 refine ⟨b, off, ha, fun i hi => ?_⟩
 obtain ⟨c, hci, htm⟩ := h2.get i hi
 obtain ⟨s, hs, hsub⟩ := htm.open
 have hx := (hcell i c hci).2
 subst hs
 exact ⟨s, by simpa using hx 0 _ rfl, hx 1 _ rfl, hx 2 _ rfl, hsub⟩
theorem TmC.shut {w : World} {t : Tm} {s : Value} (h : TmS K w s t.sub) : TmC K w t [.int .i64 t.kind, .int .i64 t.num, s] := by
 cases t; exact TmC.iff.2 ⟨s, rfl, h⟩
theorem csub_at {w wr : World} {a : Option Addr} {cap : Nat} {ts : List Tm} (h : TmS K w (.slice a ts.length cap) ts) (hb : Below w.heap.size w wr) (k : Nat) (hlt : k < ts.length) :
  ∃ b off a' cap', a = some ⟨b, off, none⟩ ∧ wr.cell? ⟨b, off + k * 3, none⟩ = some (.int .i64 ts[k].kind) ∧ wr.cell? ⟨b, off + k * 3 + 1, none⟩ = some (.int .i64 ts[k].num) ∧
   wr.cell? ⟨b, off + k * 3 + 2, none⟩ = some (.slice a' ts[k].sub.length cap') ∧ TmC K wr ts[k] [.int .i64 ts[k].kind, .int .i64 ts[k].num, .slice a' ts[k].sub.length cap'] := by
 obtain ⟨a0, c0, hv, _, _, hget⟩ := h.open
 simp only [Value.slice.injEq] at hv
 obtain ⟨rfl, _, rfl⟩ := hv
 obtain ⟨b, off, rfl, hgg⟩ := hget (by intro e; rw [e] at hlt; simp at hlt)
 obtain ⟨sv, c0, c1, c2, hsv⟩ := hgg k hlt
 obtain ⟨a', cap', rfl, -⟩ := hsv.open
 refine ⟨b, off, a', cap', rfl, ?_, ?_, ?_, (TmC.shut hsv).later hb⟩
 ·exact (hb.cell (World.block_lt_of_cell? w _ c0)).trans c0
 ·exact (hb.cell (World.block_lt_of_cell? w _ c1)).trans c1
 ·exact (hb.cell (World.block_lt_of_cell? w _ c2)).trans c2
theorem tm_open {w : World} {t : Tm} {cs : List Value} (h : TmC K w t cs) : ∃ a cap, cs = [.int .i64 t.kind, .int .i64 t.num, .slice a t.sub.length cap] ∧ TmS K w (.slice a t.sub.length cap) t.sub ∧ t.sub.length ≤ 9223372036854775807 := by
 obtain ⟨s, rfl, hs⟩ := h.open
 obtain ⟨a, cap, rfl, h1, h2, _⟩ := hs.open
 exact ⟨a, cap, rfl, hs, by unfold maxLen at h2; omega⟩
theorem info24 : (Tryz.prog.info? 26).map (fun i => (i.zero, i.size, i.bytes)) = some (some (.agg #[.int .i64 0, .int .i64 0, .slice none 0 0]), 3, 40) := by kernel_rfl
theorem Qno (w : World) (B k : Nat) (u v x : Value) (h : k ≠ B) : (((w.setCell ⟨B, 0, none⟩ u).setCell ⟨B, 1, none⟩ v).setCell ⟨B, 2, none⟩ x).heap[k]? = w.heap[k]? := by
 rw [Below.heap_setCell _ _ _ _ h, Below.heap_setCell _ _ _ _ h, Below.heap_setCell _ _ _ _ h]
theorem set3_below {B0 B : Nat} {w0 w : World} (h : Below B0 w0 w) (hB : B0 ≤ B) (u v x : Value) : Below B0 w0 (((w.setCell ⟨B, 0, none⟩ u).setCell ⟨B, 1, none⟩ v).setCell ⟨B, 2, none⟩ x) :=
 ((h.setCell hB _).setCell hB _).setCell hB _
def SlF (S : Nat → Prop) (w : World) (sz : Nat) (v : Value) (css : List (List Value)) : Prop :=
 ∃ a cap, v = .slice a css.length cap ∧ css.length ≤ cap ∧ cap ≤ maxLen ∧ (css ≠ [] → ∃ b off, a = some ⟨b, off, none⟩ ∧ S b ∧ ∀ i c, css[i]? = some c → c.length = sz ∧ ∀ j x, c[j]? = some x → w.cell? ⟨b, off + i * sz + j, none⟩ = some x)
mutual
def TmF (S : Nat → Prop) (w : World) : Tm → List Value → Prop
 | .mk k n sub, cs => ∃ s css, cs = [.int .i64 k, .int .i64 n, s] ∧ SlF S w 3 s css ∧ TmFs S w sub css
def TmFs (S : Nat → Prop) (w : World) : List Tm → List (List Value) → Prop
 | [], css => css = []
 | t :: ts, css => ∃ c cr, css = c :: cr ∧ TmF S w t c ∧ TmFs S w ts cr
end
theorem TmFs.length {S : Nat → Prop} {w : World} : ∀ {ts : List Tm} {css : List (List Value)}, TmFs S w ts css → css.length = ts.length := by
 intro ts
 induction ts with
 | nil => intro css h; simp only [TmFs] at h; subst h; rfl
 | cons t ts ih => intro css h; simp only [TmFs] at h; obtain ⟨c, cr, rfl, _, h2⟩ := h; simp [ih h2]
theorem TmF.three {S : Nat → Prop} {w : World} {t : Tm} {cs : List Value} (h : TmF S w t cs) : cs.length = 3 := by
 cases t; simp only [TmF] at h; obtain ⟨s, css, rfl, _⟩ := h; rfl
theorem TmFs.three {S : Nat → Prop} {w : World} : ∀ {ts : List Tm} {css : List (List Value)}, TmFs S w ts css → ∀ c ∈ css, c.length = 3 := by
  intro ts
  induction ts with
  | nil => intro css h c hc; simp only [TmFs] at h; subst h; cases hc
  | cons t ts ih =>
    intro css h c hc
    simp only [TmFs] at h
    obtain ⟨c0, cr, rfl, h1, h2⟩ := h
    cases hc with
    | head => exact h1.three
    | tail _ hm => exact ih h2 c hm
def Box3 (w : World) (B : Nat) (x y z : Value) : Prop := w.heap[B]? = some (.cells #[x, y, z] 26)
theorem Box3.new (w : World) (x y z : Value) : Box3 (w.alloc (.cells #[x, y, z] 26)) w.heap.size x y z := heap_alloc_new w _
theorem Box3.later {w w' : World} {B n : Nat} {x y z : Value} (h : Box3 w B x y z) (hb : Below n w w') (hB : B < n) : Box3 w' B x y z := (hb.block _ hB).trans h
theorem Box3.cells {w : World} {B : Nat} {x y z : Value} (h : Box3 w B x y z) : w.cell? ⟨B, 0, none⟩ = some x ∧ w.cell? ⟨B, 1, none⟩ = some y ∧ w.cell? ⟨B, 2, none⟩ = some z := by
 unfold Box3 at h
 refine ⟨?_, ?_, ?_⟩ <;> · rw [cell_of_row w B _ _ _ _ h]; rfl
theorem Box3.free {w : World} {B : Nat} {x y z : Value} (h : Box3 w B x y z) (i : Nat) : w.frozen? ⟨B, i, none⟩ = false := by
 unfold Box3 at h
 unfold World.frozen?; rw [h]; simp
theorem Box3.set {w : World} {B : Nat} {x y z : Value} (h : Box3 w B x y z) (u v t : Value) : Box3 (((w.setCell ⟨B, 0, none⟩ u).setCell ⟨B, 1, none⟩ v).setCell ⟨B, 2, none⟩ t) B u v t := by
 exact set_block (set_block (set_block h 0 u) 1 v) 2 t
theorem flat_set (y0 y1 y2 : Value) : ∀ (ds : List (List Value)) (k : Nat), (∀ c ∈ ds, c.length = 3) → k < ds.length → (ds.set k [y0, y1, y2]).flatten = ((ds.flatten.set (k * 3) y0).set (k * 3 + 1) y1).set (k * 3 + 2) y2 := by
  intro ds
  induction ds with
  | nil => intro k _ hk; simp at hk
  | cons c cr ih =>
    intro k h3 hk
    have hc := h3 c (by simp)
    match c, hc with
    | [a, b, d], _ =>
      cases k with
      | zero => simp
      | succ k =>
        have := ih k (fun c hc => h3 c (by simp [hc])) (by simpa using hk)
        simp only [List.set_cons_succ, List.flatten_cons, List.cons_append, List.nil_append]
        rw [this, show (k + 1) * 3 = k * 3 + 1 + 1 + 1 by omega]
        simp only [List.set_cons_succ, show k * 3 + 1 + 1 + 1 + 1 = (k * 3 + 1) + 1 + 1 + 1 from rfl, show k * 3 + 1 + 1 + 1 + 2 = (k * 3 + 2) + 1 + 1 + 1 from rfl]
theorem Qmr {w : World} {B : Nat} {c : Array Value} {e : TypeId} {fr : Nat × Nat} (h : w.heap[B]? = some (.cells c e fr)) (i : Nat) (u : Value) : (w.setCell ⟨B, i, none⟩ u).heap[B]? = some (.cells (c.setIfInBounds i u) e fr) := by
 unfold World.setCell
 simp [Array.getElem?_modify, h]
theorem row_set {w : World} {base : Nat} {g n cap : Nat} {ds : List (List Value)} (h : w.ownsRow base 26 3 (.slice (some ⟨g, 0, none⟩) n cap) n ds.flatten) (hn : ds.length = n) (h3 : ∀ c ∈ ds, c.length = 3) (k : Nat) (hk : k < n) (y0 y1 y2 : Value) :
  (((w.setCell ⟨g, k * 3, none⟩ y0).setCell ⟨g, k * 3 + 1, none⟩ y1).setCell ⟨g, k * 3 + 2, none⟩ y2).ownsRow base 26 3 (.slice (some ⟨g, 0, none⟩) n cap) n (ds.set k [y0, y1, y2]).flatten := by
 obtain ⟨h0, h1⟩ := h
 have hfl := flat_set y0 y1 y2 ds k h3 (by omega)
 refine ⟨by rw [hfl]; simpa using h0, .inr ?_⟩
 rcases h1 with ⟨h1, _⟩ | ⟨g', cap', cur, hv, hg, hh, hnc, hc, hsz, htk⟩
 ·cases h1
 ·simp only [Value.slice.injEq, Option.some.injEq, Addr.mk.injEq, and_true, true_and] at hv
  obtain ⟨rfl, rfl⟩ := hv
  refine ⟨g, cap, _, rfl, hg, Qmr (Qmr (Qmr hh (k * 3) y0) (k * 3 + 1) y1) (k * 3 + 2) y2, hnc, hc, by simpa using hsz, ?_⟩
  rw [hfl, ← htk]
  simp [List.take_set]
theorem row_drew {w : World} {base e sz n : Nat} {v : Value} {xs : List Value} (h : w.ownsRow base e sz v n xs) : w.drew.ownsRow base e sz v n xs := h
def Cs3 (c : List Value) : Prop := ∃ (k n : Int) (a : Option Addr) (len cap : Nat), c = [.int .i64 k, .int .i64 n, .slice a len cap]
theorem Cs3.three {c : List Value} (h : Cs3 c) : c.length = 3 := by obtain ⟨_, _, _, _, _, rfl⟩ := h; rfl
theorem reverse_any (base : Nat) (v : Value) (css : List (List Value)) (w : World) (hown : w.ownsRow base 26 3 v css.length css.flatten) (h3 : ∀ c ∈ css, Cs3 c) :
  Calls Tryz.prog 195 #[v] w fun e w' => e = .returned (.tuple #[]) ∧ w'.ownsRow base 26 3 v css.length css.reverse.flatten ∧ Below base w w' := by
 obtain ⟨a, cap, rfl, hll⟩ : ∃ a cap, v = .slice a css.length cap ∧ css.length ≤ 9223372036854775807 := by
  rcases hown.2 with ⟨h1, h2⟩ | ⟨g, cap, cur, hv, _, _, h1, h2, _⟩
  ·exact ⟨none, 0, by rw [h1, h2], by omega⟩
  ·exact ⟨_, cap, hv, by unfold maxLen at h2; omega⟩
 have HO := Hh hown
 have H3 := Hh h3
 clear hown h3
 go_enter Tryz.func195, Tryz.ntmps195
 go_wp2_with fail
 go_loopw [2, 3] (fun i j wr => ∃ (k : Nat) (ds : List (List Value)), i = .int .i64 k ∧ j = .int .i64 ((css.length : Int) - 1 - k) ∧ 2 * k ≤ css.length ∧ Hid (ds.length = css.length) ∧ Hid (∀ c ∈ ds, Cs3 c) ∧ Hid (wr.ownsRow base 26 3 (.slice a css.length cap) css.length ds.flatten) ∧ Hid (∀ m, m < css.length → ds[m]? = if m < k ∨ css.length - k ≤ m then css[css.length - 1 - m]? else css[m]?) ∧ Hid (Below base w wr)) (fun i _ _ => css.length - (intOf i).toNat)
 case atStart =>
  exact ⟨0, css, rfl, by simp, by omega, rfl, H3.out, HO.out, (fun m hm => by rw [if_neg (by omega)]), Below.refl _ _⟩
 case round =>
  obtain ⟨k, ds, rfl, rfl, hk, hdl, hd3, hown, hds, hbel⟩ := hrel
  by_cases hlt : (k : Int) < (css.length : Int) - 1 - k
  ·obtain ⟨m, hm⟩ : ∃ m : Nat, (css.length : Int) - 1 - k = m := ⟨css.length - 1 - k, by omega⟩
   have hmn : k + m + 1 = css.length := by omega
   obtain ⟨g, rfl, hgb⟩ : ∃ g, a = some ⟨g, 0, none⟩ ∧ base ≤ g := by
    rcases hown.out.2 with ⟨h1, h2⟩ | ⟨g, cap', cur, hv, h1, _⟩
    ·omega
    ·simp only [Value.slice.injEq] at hv
     exact ⟨g, hv.1, h1⟩
   obtain ⟨x0, x1, x2, xl, xc, hx⟩ := (hd3.out _ (List.getElem_mem (l := ds) (n := k) (by have := hdl.out; omega)))
   obtain ⟨y0, y1, y2, yl, yc, hy⟩ := (hd3.out _ (List.getElem_mem (l := ds) (n := m) (by have := hdl.out; omega)))
   have hsl := SlN.own hown.out hdl.out (fun c hc => (hd3.out c hc).three)
   have hcellk : ∀ (i : Nat) (hi : i < ds.length) (x0 x1 x2 : Value), ds[i] = [x0, x1, x2] → wr.cell? ⟨g, i * 3, none⟩ = some x0 ∧ wr.cell? ⟨g, i * 3 + 1, none⟩ = some x1 ∧ wr.cell? ⟨g, i * 3 + 2, none⟩ = some x2 := by
    intro i hi x0 x1 x2 he
    obtain ⟨a', cap', hv, _, _, hc⟩ := hsl
    simp only [Value.slice.injEq] at hv
    obtain ⟨b, off, hb, hcc⟩ := hc (by intro e; rw [e] at hi; simp at hi)
    rw [← hv.1] at hb
    simp only [Option.some.injEq, Addr.mk.injEq, and_true] at hb
    obtain ⟨rfl, rfl⟩ := hb
    have := (hcc i _ (by rw [List.getElem?_eq_getElem hi, he])).2
    have h0 := this 0 x0 rfl
    have h1 := this 1 x1 rfl
    have h2 := this 2 x2 rfl
    simp at h0 h1 h2
    exact ⟨h0, h1, h2⟩
   obtain ⟨c0, c1, c2⟩ := hcellk k (by have := hdl.out; omega) _ _ _ hx
   obtain ⟨d0, d1, d2⟩ := hcellk m (by have := hdl.out; omega) _ _ _ hy
   have hfr : ∀ i, wr.frozen? ⟨g, i, none⟩ = false := by
    intro i
    rcases hown.out.2 with ⟨h1, h2⟩ | ⟨g', cap', cur, hv, h1, hh, _⟩
    ·cases h1
    ·simp only [Value.slice.injEq, Option.some.injEq, Addr.mk.injEq, and_true] at hv
     obtain ⟨rfl, _⟩ := hv
     unfold World.frozen?; rw [hh]; simp
   have f0 := hfr (k * 3)
   have f1 := hfr (k * 3 + 1)
   have f2 := hfr (k * 3 + 2)
   have g0 := hfr (m * 3)
   have g1 := hfr (m * 3 + 1)
   have g2 := hfr (m * 3 + 2)
   have b0 : (0:Int) ≤ k := by omega
   have b1 : (0:Int) ≤ m := by omega
   have b2 : (k:Int) < css.length := by omega
   have b3 : (m:Int) < css.length := by omega
   have hkm : (k : Int) < m := by omega
   rw [hm]
   have F0 : wr.drew.frozen? ⟨g, k * 3, none⟩ = false := f0
   have F1 : wr.drew.frozen? ⟨g, k * 3 + 1, none⟩ = false := f1
   have F2 : wr.drew.frozen? ⟨g, k * 3 + 2, none⟩ = false := f2
   have G0 : wr.drew.frozen? ⟨g, m * 3, none⟩ = false := g0
   have G1 : wr.drew.frozen? ⟨g, m * 3 + 1, none⟩ = false := g1
   have G2 : wr.drew.frozen? ⟨g, m * 3 + 2, none⟩ = false := g2
   have C0 : wr.drew.cell? ⟨g, k * 3, none⟩ = some (.int .i64 x0) := c0
   have C1 : wr.drew.cell? ⟨g, k * 3 + 1, none⟩ = some (.int .i64 x1) := c1
   have C2 : wr.drew.cell? ⟨g, k * 3 + 2, none⟩ = some (.slice x2 xl xc) := c2
   clear hlt hcellk hfr hsl
   go_wp2_with fail
   go_region
   have hdl' := hdl.out
   have r1 := row_set hown.out hdl' (fun c hc => (hd3.out c hc).three) k (by omega) (.int .i64 y0) (.int .i64 y1) (.slice y2 yl yc)
   have r2 := row_set r1 (by simpa using hdl') (fun c hc => by
    rcases List.mem_or_eq_of_mem_set hc with h | h
    ·exact (hd3.out c h).three
    ·rw [h]; rfl) m (by omega) (.int .i64 x0) (.int .i64 x1) (.slice x2 xl xc)
   have hF : Hid (Below base w (((((((wr.setCell ⟨g, k * 3, none⟩ (.int .i64 y0)).setCell ⟨g, k * 3 + 1, none⟩ (.int .i64 y1)).setCell ⟨g, k * 3 + 2, none⟩ (.slice y2 yl yc)).setCell ⟨g, m * 3, none⟩ (.int .i64 x0)).setCell ⟨g, m * 3 + 1, none⟩ (.int .i64 x1)).setCell ⟨g, m * 3 + 2, none⟩ (.slice x2 xl xc)).drew)) :=
    ((((((hbel.out.setCell (p := ⟨g, k * 3, none⟩) hgb _).setCell (p := ⟨g, k * 3 + 1, none⟩) hgb _).setCell (p := ⟨g, k * 3 + 2, none⟩) hgb _).setCell (p := ⟨g, m * 3, none⟩) hgb _).setCell (p := ⟨g, m * 3 + 1, none⟩) hgb _).setCell (p := ⟨g, m * 3 + 2, none⟩) hgb _).drew
   have hR : Hid (((((((wr.setCell ⟨g, k * 3, none⟩ (.int .i64 y0)).setCell ⟨g, k * 3 + 1, none⟩ (.int .i64 y1)).setCell ⟨g, k * 3 + 2, none⟩ (.slice y2 yl yc)).setCell ⟨g, m * 3, none⟩ (.int .i64 x0)).setCell ⟨g, m * 3 + 1, none⟩ (.int .i64 x1)).setCell ⟨g, m * 3 + 2, none⟩ (.slice x2 xl xc)).drew.ownsRow base 26 3 (.slice (some ⟨g, 0, none⟩) css.length cap) css.length ((ds.set k [.int .i64 y0, .int .i64 y1, .slice y2 yl yc]).set m [.int .i64 x0, .int .i64 x1, .slice x2 xl xc]).flatten) := row_drew r2
   have hnew : Hid (∀ i, i < css.length → ((ds.set k [.int .i64 y0, .int .i64 y1, .slice y2 yl yc]).set m [.int .i64 x0, .int .i64 x1, .slice x2 xl xc])[i]? = if i < k + 1 ∨ css.length - (k + 1) ≤ i then css[css.length - 1 - i]? else css[i]?) := by
    intro i hi
    have ek := hds.out k (by omega)
    have em := hds.out m (by omega)
    rw [if_neg (by omega), List.getElem?_eq_getElem (by omega), hx] at ek
    rw [if_neg (by omega), List.getElem?_eq_getElem (by omega), hy] at em
    by_cases h1 : i = m
    ·subst h1
     rw [List.getElem?_set_self (by simp; omega), if_pos (by omega), show css.length - 1 - i = k by omega]; exact ek
    ·rw [List.getElem?_set_ne (by omega)]
     by_cases h2 : i = k
     ·subst h2
      rw [List.getElem?_set_self (by omega), if_pos (by omega), show css.length - 1 - i = m by omega]; exact em
     ·rw [List.getElem?_set_ne (by omega), hds.out i hi]
      by_cases h3 : i < k ∨ css.length - k ≤ i
      ·rw [if_pos h3, if_pos (by omega)]
      ·rw [if_neg h3, if_neg (by omega)]
   have hl2 : Hid (((ds.set k [.int .i64 y0, .int .i64 y1, .slice y2 yl yc]).set m [.int .i64 x0, .int .i64 x1, .slice x2 xl xc]).length = css.length) := by show _ = _; simpa using hdl'
   have h32 : Hid (∀ c ∈ ((ds.set k [.int .i64 y0, .int .i64 y1, .slice y2 yl yc]).set m [.int .i64 x0, .int .i64 x1, .slice x2 xl xc]), Cs3 c) := by
    intro c hc
    rcases List.mem_or_eq_of_mem_set hc with h | h
    ·rcases List.mem_or_eq_of_mem_set h with h | h
     ·exact hd3.out c h
     ·exact ⟨_, _, _, _, _, h⟩
    ·exact ⟨_, _, _, _, _, h⟩
   clear r1 r2 c0 c1 c2 d0 d1 d2 f0 f1 f2 g0 g1 g2 F0 F1 F2 G0 G1 G2 C0 C1 C2 hx hy hown hds hbel hd3 hdl
   go_wp2_with fail
   go_roundw
   case rel => exact ⟨k + 1, _, by simp, by simp; omega, by omega, hl2, h32, hR, hnew, hF⟩
   case measure => simp [intOf]; omega
  ·go_wp2_with fail
   exact bodyPost_end (v := .tuple #[]) (by simp [results, Tryz.results195, go_sem]) rfl ⟨rfl, by
    have e : ds = css.reverse := by
     apply List.ext_getElem?
     intro i
     by_cases hi : i < css.length
     ·rw [hds.out i hi, List.getElem?_reverse hi]
      by_cases hc : i < k ∨ css.length - k ≤ i
      ·rw [if_pos hc]
      ·rw [if_neg hc, show css.length - 1 - i = i by omega]
     ·rw [List.getElem?_eq_none (by have := hdl.out; omega), List.getElem?_eq_none (by simp; omega)]
    rw [← e]; exact hown.out, hbel.out⟩
theorem tmc_cs3 {w : World} {t : Tm} {c : List Value} (h : TmC K w t c) : Cs3 c := by
 obtain ⟨a, cap, rfl, _⟩ := tm_open h
 exact ⟨_, _, _, _, _, rfl⟩
theorem tmcs_cs3 {w : World} : ∀ {ts : List Tm} {css : List (List Value)}, TmCs K w ts css → ∀ c ∈ css, Cs3 c := by
  intro ts
  induction ts with
  | nil => intro css h c hc; simp only [TmCs] at h; subst h; cases hc
  | cons t ts ih =>
    intro css h c hc
    simp only [TmCs] at h
    obtain ⟨c0, cr, rfl, h1, h2⟩ := h
    cases hc with
    | head => exact tmc_cs3 h1
    | tail _ hm => exact ih h2 c hm
theorem TmCs.snoc {w : World} {t : Tm} {c : List Value} (hc : TmC K w t c) : ∀ {ts : List Tm} {css : List (List Value)}, TmCs K w ts css → TmCs K w (ts ++ [t]) (css ++ [c]) := by
 intro ts
 induction ts with
 | nil => intro css h; simp only [TmCs] at h; subst h; simp only [List.nil_append, TmCs]; exact ⟨_, _, rfl, hc, rfl⟩
 | cons t' ts ih => intro css h; simp only [TmCs] at h; obtain ⟨c', cr, rfl, h1, h2⟩ := h; simp only [List.cons_append, TmCs]; exact ⟨_, _, rfl, h1, ih h2⟩
theorem own_sh3 {w : World} {base e : Nat} {v : Value} {n : Nat} {xs : List Value} (h : w.ownsRow base e 3 v n xs) (hn : 0 < n) : ∃ g cap, v = .slice (some ⟨g, 0, none⟩) n cap := by
 rcases h.2 with ⟨_, h0⟩ | ⟨g, cap, cur, hv, _⟩
 ·omega
 ·exact ⟨g, cap, hv⟩
theorem cown_move {w w' : World} {base e sz n : Nat} {v : Value} {xs : List Value} (h : w.ownsRow base e sz v n xs) (hm : ∀ b, base ≤ b → w'.heap[b]? = w.heap[b]?) : w'.ownsRow base e sz v n xs := by
 refine ⟨h.1, ?_⟩
 rcases h.2 with h2 | ⟨g, cap, cur, hv, hg, hh, r⟩
 ·exact .inl h2
 ·exact .inr ⟨g, cap, cur, hv, hg, (hm g hg).trans hh, r⟩
theorem TmCs.rev {w : World} : ∀ {ts : List Tm} {css : List (List Value)}, TmCs K w ts css → TmCs K w ts.reverse css.reverse := by
 intro ts
 induction ts with
 | nil => intro css h; simp only [TmCs] at h; subst h; simp only [List.reverse_nil, TmCs]
 | cons t' ts ih => intro css h; simp only [TmCs] at h; obtain ⟨c', cr, rfl, h1, h2⟩ := h; rw [List.reverse_cons, List.reverse_cons]; exact TmCs.snoc h1 (ih h2)
theorem spine_any (t : Tm) (cs : List Value) (w : World) (hKn : ∀ b o, w.heap.size ≤ b → K b o) (hs : Qak t = true) (ht : TmC K w t cs) :
  Calls Tryz.prog 137 #[.agg cs.toArray] w fun e w' => ∃ (h : Tm) (l : List Tm) (k n : Int) (a : Option Addr) (len cap : Nat) (al : Option Addr) (cl : Nat), e = .returned (.tuple #[.agg #[.int .i64 k, .int .i64 n, .slice a len cap], .slice al l.length cl]) ∧
   h.kind ≠ 5 ∧ Qdb h l = t ∧ TmC K w' h [.int .i64 k, .int .i64 n, .slice a len cap] ∧ TmS K w' (.slice al l.length cl) l ∧ Below w.heap.size w w' := by
 obtain ⟨i0, hi, hz0, hz1, hz2⟩ := info_parts info24
 have HKN := Hh hKn
 clear hKn
 have ht0 := ht
 obtain ⟨a, cap, rfl, hsub, hlen⟩ := tm_open ht
 have HS := Hh hs
 have HG : Hid (Qae t = true) := by
  simp only [Qak, Bool.and_eq_true] at hs
  exact hs.2
 clear hs ht hsub
 let W3 := ((w.alloc (.cells #[.int .i64 t.kind, .int .i64 t.num, .slice a t.sub.length cap] 26)).alloc (.cells #[.int .i64 0, .int .i64 0, .slice none 0 0] 26)).alloc (.cells #[.int .i64 t.kind, .int .i64 t.num, .slice a t.sub.length cap] 26)
 have BX0 : Hid (Box3 W3 (w.heap.size + 1 + 1) (.int .i64 t.kind) (.int .i64 t.num) (.slice a t.sub.length cap)) := by
  have h := Box3.new ((w.alloc (.cells #[.int .i64 t.kind, .int .i64 t.num, .slice a t.sub.length cap] 26)).alloc (.cells #[.int .i64 0, .int .i64 0, .slice none 0 0] 26)) (.int .i64 t.kind) (.int .i64 t.num) (.slice a t.sub.length cap)
  simp at h
  exact h
 have BX1 : Hid (Box3 W3 (w.heap.size + 1) (.int .i64 0) (.int .i64 0) (.slice none 0 0)) := by
  have h := Box3.new (w.alloc (.cells #[.int .i64 t.kind, .int .i64 t.num, .slice a t.sub.length cap] 26)) (.int .i64 0) (.int .i64 0) (.slice none 0 0)
  have h2 := h.later ((Below.refl _ _).alloc (Nat.le_refl _) (.cells #[.int .i64 t.kind, .int .i64 t.num, .slice a t.sub.length cap] 26)) (by simp)
  simp at h2
  exact h2
 have hd : Hid (Below w.heap.size w W3) := (((Below.refl _ _).alloc (Nat.le_refl _) _).alloc (by simp) _).alloc (by simp; omega) _
 have HT := Hh ht0
 clear ht0
 go_enter Tryz.func137, Tryz.ntmps137
 go_wp2_with fail
 go_loopg [4] 129 (fun g v wr => ∃ (x : Tm) (xs : List Tm) (css : List (List Value)) (k n : Int) (a : Option Addr) (len cap : Nat) (av : Option Addr) (cv : Nat), v = .slice av xs.length cv ∧ g + xs.length = 129 ∧ Hid (Qdb x xs.reverse = t) ∧ Hid (Qae x = true) ∧ Hid (TmC K w x [.int .i64 k, .int .i64 n, .slice a len cap]) ∧ Hid (TmCs K w xs css) ∧
   Hid (wr.ownsRow (w.heap.size + 3) 26 3 (.slice av xs.length cv) xs.length css.flatten) ∧ Box3 wr (w.heap.size + 1 + 1) (.int .i64 k) (.int .i64 n) (.slice a len cap) ∧ Hid (Box3 wr (w.heap.size + 1) (.int .i64 0) (.int .i64 0) (.slice none 0 0)) ∧ Hid (Below w.heap.size w wr) ∧ w.heap.size + 3 ≤ wr.heap.size)
 case atStart =>
  refine ⟨t, [], [], _, _, _, _, _, none, 0, rfl, rfl, rfl, HG.out, HT.out, ?_, ?_, BX0.out, BX1.out, hd.out, by simp⟩
  ·show TmCs K w [] []
   simp only [TmCs]
  ·exact ⟨rfl, .inl ⟨rfl, rfl⟩⟩
 case round =>
  obtain ⟨x, xs, css, k, n, a1, len, cap1, av, cv, rfl, hg, HA, HGX, HX, HXS, hown, BX, BR, hbel, hlo⟩ := hrel
  obtain ⟨c0, c1, c2⟩ := BX.cells
  obtain ⟨ax, capx, hex, hsubx, hlx⟩ := tm_open HX.out
  simp only [List.cons.injEq, Value.int.injEq, true_and, and_true, Value.slice.injEq] at hex
  obtain ⟨rfl, rfl, rfl, rfl, rfl⟩ := hex
  by_cases h5 : x.kind = 5
  ·obtain ⟨y, b, rfl, hgy, hgb⟩ := Qmi HGX.out h5
   clear h5
   simp only [Tm.kind, Tm.num, Tm.sub, List.length_cons, List.length_nil, Nat.zero_add, Nat.reduceAdd] at c0 c1 c2 HX BX hsubx hlx
   obtain ⟨bb, off, a', cap', rfl, e0, e1, e2, hty⟩ := csub_at (ts := [y, b]) hsubx (Below.refl _ _) 0 (by simp)
   obtain ⟨bb', off', a'', cap'', hbb, j0, j1, j2, htb⟩ := csub_at (ts := [y, b]) hsubx (Below.refl _ _) 1 (by simp)
   simp only [Option.some.injEq, Addr.mk.injEq, and_true] at hbb
   obtain ⟨rfl, rfl⟩ := hbb
   have hbl : bb < w.heap.size := World.block_lt_of_cell? w _ e0
   simp only [List.getElem_cons_zero, List.getElem_cons_succ] at hty htb e0 e1 e2 j0 j1 j2
   have mvc : Hid (∀ wz, Below w.heap.size w wz → wz.cell? ⟨bb, off, none⟩ = some (.int .i64 y.kind) ∧ wz.cell? ⟨bb, off + 1, none⟩ = some (.int .i64 y.num) ∧ wz.cell? ⟨bb, off + 2, none⟩ = some (.slice a' y.sub.length cap') ∧ wz.cell? ⟨bb, off + 3, none⟩ = some (.int .i64 b.kind) ∧ wz.cell? ⟨bb, off + 3 + 1, none⟩ = some (.int .i64 b.num) ∧ wz.cell? ⟨bb, off + 3 + 2, none⟩ = some (.slice a'' b.sub.length cap'')) := by
    intro wz hz
    simp only [Nat.zero_mul, Nat.one_mul, Nat.add_zero] at e0 e1 e2 j0 j1 j2
    exact ⟨(hz.cell hbl).trans e0, (hz.cell hbl).trans e1, (hz.cell hbl).trans e2, (hz.cell hbl).trans j0, (hz.cell hbl).trans j1, (hz.cell hbl).trans j2⟩
   clear e0 e1 e2 j0 j1 j2
   obtain ⟨-, -, -, j0, j1, j2⟩ := mvc.out wr hbel.out
   have HTY := Hh hty
   have HTB := Hh htb
   clear hty htb hsubx HX
   have hd8 : decide ((8192 : Int) ≤ xs.length) = false := by simp; omega
   have hlen1 : xs.length + 1 ≤ 127 := by
    have h1 := HA.out
    have h2 : Qdb y (b :: xs.reverse) = t := h1
    have h3 := spine_len (x := y) (l := b :: xs.reverse) (by rw [h2]; exact HS.out)
    simpa using h3
   have hsl : Hid (SlN (wr.alloc (.cells #[.int .i64 b.kind, .int .i64 b.num, .slice a'' b.sub.length cap''] 26)) 3 (.slice (some ⟨wr.heap.size, 0, none⟩) 1 1) [[.int .i64 b.kind, .int .i64 b.num, .slice a'' b.sub.length cap'']]) :=
    SlN.own (Qmo (w := wr) (xs := [.int .i64 b.kind, .int .i64 b.num, .slice a'' b.sub.length cap'']) (n := 1) (size := 3) 26 rfl (by decide)) rfl (by intro c hc; simp at hc; subst hc; rfl)
   have BXA := Hh BX
   clear BX
   go_wp2_with (at_builtin; refine Qmx rfl _ _ 24 rfl (w.heap.size + 3) 26 i0 (.agg #[.int .i64 0, .int .i64 0, .slice none 0 0]) 3 40 Tryz.underlying24 hi hz0 hz1 hz2 rfl (by decide) _ _ _ (hown.out.alloc _) _ _ hsl.out rfl rfl (by intro c hc u hu; simp at hc; subst hc; simp at hu; rcases hu with rfl | rfl | rfl <;> rfl) (by intro c hc; simp at hc; subst hc; rfl) (by unfold maxLen; simp; omega) (by simp; omega) (by simp; omega) ?_)
   intro v2 w2 hown2 hb2 hg2
   obtain ⟨g2, cap2, rfl⟩ := own_sh3 hown2 (by omega)
   have hbe2 : Below w.heap.size w w2 := (hbel.out.alloc (by omega) _).trans (hb2.mono (by omega))
   have hs2 := hb2.size
   have BX2 := (BXA.out.later ((Below.refl _ _).alloc (Nat.le_refl _) (.cells #[.int .i64 b.kind, .int .i64 b.num, .slice a'' b.sub.length cap''] 26)) (by omega)).later hb2 (by omega)
   have BR2 := Hh ((BR.out.later ((Below.refl _ _).alloc (Nat.le_refl _) (.cells #[.int .i64 b.kind, .int .i64 b.num, .slice a'' b.sub.length cap''] 26)) (by omega)).later hb2 (by omega))
   obtain ⟨e0, e1, e2, -, -, -⟩ := mvc.out w2 hbe2
   obtain ⟨d0, d1, d2⟩ := BX2.cells
   have g0 := BX2.free 0
   have g1 := BX2.free 1
   have g2f := BX2.free 2
   have HBX2 := Hh BX2
   have HO2 := Hh hown2
   have HBE2 := Hh hbe2
   simp at hs2
   clear BX2 hown2 hbe2 hb2 hg2 c0 c1 c2 j0 j1 j2 hown BXA hsl
   go_wp2_with fail
   go_roundg (gk - 1)
   case measure => omega
   case rel =>
    refine ⟨y, xs ++ [b], css ++ [[Value.int .i64 b.kind, Value.int .i64 b.num, Value.slice a'' b.sub.length cap'']], y.kind, y.num, a', y.sub.length, cap', some ⟨g2, 0, none⟩, cap2, by simp, by simp; omega, ?_, hgy, HTY.out, Hh (TmCs.snoc HTB.out HXS.out), ?_, HBX2.out.set _ _ _, ?_, set3_below HBE2.out (by omega) _ _ _, by simp; omega⟩
    ·have h := HA.out
     show _ = _
     rw [List.reverse_append]; exact h
    ·have h := cown_move (w' := ((w2.setCell ⟨w.heap.size + 1 + 1, 0, none⟩ (.int .i64 y.kind)).setCell ⟨w.heap.size + 1 + 1, 1, none⟩ (.int .i64 y.num)).setCell ⟨w.heap.size + 1 + 1, 2, none⟩ (.slice a' y.sub.length cap')) HO2.out (fun b hb => Qno _ _ _ _ _ _ (by omega))
     show World.ownsRow _ _ _ _ _ _ _
     rw [List.length_append, List.flatten_append]
     simpa using h
    ·show Box3 _ _ _ _ _
     unfold Box3
     rw [Qno _ _ _ _ _ _ (by omega)]
     exact BR2.out
  ·have hd5 : decide (x.kind = 5) = false := by simp [h5]
   go_wp2_with fail
   refine (reverse_any (w.heap.size + 3) _ css wr (by rw [HXS.out.length]; exact hown.out) (tmcs_cs3 HXS.out)).mono ?_
   rintro e w4 ⟨rfl, hown4, hb4⟩
   have HO4 := Hh hown4
   have BX4 := BX.later hb4 (by omega)
   have BR4 := BR.out.later hb4 (by omega)
   obtain ⟨d0, d1, d2⟩ := BX4.cells
   obtain ⟨q0, q1, q2⟩ := BR4.cells
   have f0 := BR4.free 0
   have f1 := BR4.free 1
   have f2 := BR4.free 2
   have HB4 := Hh (hbel.out.trans (hb4.mono (by omega)))
   clear BX4 BR4 c0 c1 c2 BX hown4 hb4
   go_wp2_with fail
   have HLC := HXS.out.length
   have hF := set3_below (B := w.heap.size + 1) HB4.out (by omega) (.int .i64 x.kind) (.int .i64 x.num) (.slice a1 x.sub.length cap1)
   have hO := cown_move (w' := ((w4.setCell ⟨w.heap.size + 1, 0, none⟩ (.int .i64 x.kind)).setCell ⟨w.heap.size + 1, 1, none⟩ (.int .i64 x.num)).setCell ⟨w.heap.size + 1, 2, none⟩ (.slice a1 x.sub.length cap1)) HO4.out (fun b hb => Qno _ _ _ _ _ _ (by omega))
   have hS := SlN.own hO (by simp) (fun c hc => (tmcs_cs3 HXS.out c (by simpa using hc)).three)
   refine bodyPost_ret (v := .tuple #[.agg #[.int .i64 x.kind, .int .i64 x.num, .slice a1 x.sub.length cap1], .slice av xs.length cv]) (by simp [results, Tryz.results137, go_sem, q0, q1, q2]) rfl ⟨x, xs.reverse, x.kind, x.num, a1, x.sub.length, cap1, av, cv, by simp, h5, HA.out, HX.out.later hF, ?_, hF⟩
   rw [List.length_reverse]
   exact ⟨css.reverse, ⟨hS, fun b off n' cap' e o _ _ => HKN.out b o (by injection e with e1 _ _; have := (hO.lt b (by rw [e1]; rfl)).1; omega)⟩, (TmCs.rev HXS.out).later hF⟩
variable {K : Nat → Nat → Prop} {w : World}
theorem Qmp {n : Int} {v : Value} (h : RelD K w (.v (.int .i64 n)) v) : v = .int .i64 n := by cases h; rfl
theorem tms_of (l : List Tm) (ih : ∀ s ∈ l, ∀ v, RelD K w (.sl (s.sub.map encD)) v → TmS K w v s.sub) (v : Value) (h : RelD K w (.sl (l.map encD)) v) : TmS K w v l := by
  generalize hr : l.map encD = rows at h
  cases h with
  | nil hc =>
    have hl : l = [] := List.map_eq_nil_iff.1 hr
    subst hl
    exact ⟨[], ⟨⟨_, _, rfl, Nat.zero_le _, hc, fun h => absurd rfl h⟩, fun b off n cap _ o h1 h2 => by simp at h2; omega⟩, by simp only [TmCs]⟩
  | @sl sz _ b off cap vals q1 q2 q3 q4 q5 =>
    have hlen : rows.length = l.length := by rw [← hr, List.length_map]
    have hrow : ∀ (i : Nat) (hi : i < l.length), rows[i]? = some (encD l[i]) := fun i hi => by rw [← hr, List.getElem?_map, List.getElem?_eq_getElem hi]; rfl
    refine ⟨(List.range l.length).map fun i => [vals i 0, vals i 1, vals i 2], ⟨⟨some ⟨b, off, none⟩, cap, by simp [hlen], by simp; omega, q2, fun hne => ⟨b, off, rfl, fun i c hic => ?_⟩⟩, fun b' off' n' cap' e o h1 h2 => ?_⟩, TmCs.mk (by simp) fun i hi => ?_⟩
    · have hil : i < l.length := by
        have := (List.getElem?_eq_some_iff.1 hic).1
        simpa using this
      rw [List.getElem?_map, List.getElem?_range hil, Option.map_some, Option.some.injEq] at hic
      subst hic
      have hsz : sz = 3 := by rw [← q3 _ (List.mem_of_getElem? (hrow i hil)), Jl]; rfl
      subst hsz
      refine ⟨rfl, fun j x hx => ?_⟩
      have h3 : ∀ d, (encD l[i])[j]? = some d → w.cell? ⟨b, off + i * 3 + j, none⟩ = some (vals i j) := fun d hd => (q4 i j _ d (hrow i hil) hd).2
      rw [Jl] at h3
      match j with
      | 0 => rw [h3 _ rfl]; exact hx
      | 1 => rw [h3 _ rfl]; exact hx
      | 2 => rw [h3 _ rfl]; exact hx
      | j + 3 => simp at hx
    · injection e with e1 _ _
      injection e1 with e1
      injection e1 with e2 e3 _
      subst e2; subst e3
      simp only [List.length_map, List.length_range] at h2
      have hil : (o - off) / 3 < l.length := by omega
      have hsz : sz = 3 := by rw [← q3 _ (List.mem_of_getElem? (hrow _ hil)), Jl]; rfl
      subst hsz
      have hk : ∀ j d, (encD l[(o - off) / 3])[j]? = some d → K b (off + (o - off) / 3 * 3 + j) := fun j d hd => (q4 _ j _ d (hrow _ hil) hd).1
      rw [Jl] at hk
      have hm : (o - off) % 3 = 0 ∨ (o - off) % 3 = 1 ∨ (o - off) % 3 = 2 := by omega
      rcases hm with hm | hm | hm
      · have := hk 0 _ rfl; rwa [show off + (o - off) / 3 * 3 + 0 = o by omega] at this
      · have := hk 1 _ rfl; rwa [show off + (o - off) / 3 * 3 + 1 = o by omega] at this
      · have := hk 2 _ rfl; rwa [show off + (o - off) / 3 * 3 + 2 = o by omega] at this
    · have h5 : ∀ j d, (encD l[i])[j]? = some d → RelD K w d (vals i j) := fun j d hd => q5 i j _ d (hrow i hi) hd
      rw [Jl] at h5
      refine ⟨[vals i 0, vals i 1, vals i 2], by rw [List.getElem?_map, List.getElem?_range hi]; rfl, ?_⟩
      rw [Qmp (h5 0 _ rfl), Qmp (h5 1 _ rfl)]
      exact TmC.shut (ih _ (List.getElem_mem hi) _ (h5 2 _ rfl))
theorem tms_rel : ∀ (t : Tm) (v : Value), RelD K w (.sl (t.sub.map encD)) v → TmS K w v t.sub := by
 refine Tm.ind ?_
 intro k n sub ih v h
 exact tms_of sub ih v h
theorem tmc_rel {J : Kp} (hK : ∀ b o, J.cell b o → K b o) {t : Tm} {v : Value} (h : RelV J w (aggD t) v) : ∃ cs : List Value, v = .agg cs.toArray ∧ TmC K w t cs := by
  unfold aggD at h
  rw [Jl] at h
  cases h with
  | @agg _ vs h1 h2 =>
    obtain ⟨vs⟩ := vs
    match vs, h1 with
    | [x, y, z], _ =>
      have e0 := h2 0 _ x rfl rfl
      have e1 := h2 1 _ y rfl rfl
      have e2 := h2 2 _ z rfl rfl
      cases e0 with
      | d e0 =>
      cases e1 with
      | d e1 =>
      cases e2 with
      | d e2 =>
      rw [Qmp e0, Qmp e1]
      exact ⟨_, rfl, TmC.shut (tms_rel t z (e2.mono fun b o h => ⟨hK b o h, rfl⟩))⟩
theorem rel_tms_of {J : Nat → Nat → Prop} (hJ : ∀ b o u, K b o → w.cell? ⟨b, o, none⟩ = some u → J b o) (l : List Tm) (ih : ∀ s ∈ l, ∀ v, TmS K w v s.sub → RelD J w (.sl (s.sub.map encD)) v) (v : Value) (h : TmS K w v l) : RelD J w (.sl (l.map encD)) v := by
 obtain ⟨css, ⟨⟨a, cap, hv, hl, hm, hc⟩, hk⟩, h2⟩ := h
 have hlen := h2.length
 by_cases hne : l = []
 ·subst hne
  have hcs : css = [] := List.eq_nil_of_length_eq_zero hlen
  subst hcs
  rw [hv]
  exact .nil hm
 ·obtain ⟨b, off, ha, hcell⟩ := hc (by intro e; rw [e] at hlen; exact hne (List.eq_nil_of_length_eq_zero hlen.symm))
  subst ha
  have key : ∀ (i : Nat) (hi : i < l.length), ∃ s, w.cell? ⟨b, off + i * 3 + 0, none⟩ = some (.int .i64 l[i].kind) ∧ w.cell? ⟨b, off + i * 3 + 1, none⟩ = some (.int .i64 l[i].num) ∧ w.cell? ⟨b, off + i * 3 + 2, none⟩ = some s ∧ TmS K w s l[i].sub := fun i hi => by
   obtain ⟨c, hci, htm⟩ := h2.get i hi
   obtain ⟨s, hs, hsub⟩ := htm.open
   have hx := (hcell i c hci).2
   subst hs
   exact ⟨s, hx 0 _ rfl, hx 1 _ rfl, hx 2 _ rfl, hsub⟩
  have hkk : ∀ (i j : Nat), i < l.length → j < 3 → K b (off + i * 3 + j) := fun i j hi hj => hk b off _ _ hv _ (by omega) (by rw [hlen]; omega)
  have hget : ∀ (i : Nat) (row : List D), (l.map encD)[i]? = some row → ∃ hi : i < l.length, row = encD l[i] := fun i row hi => by
   rw [List.getElem?_map] at hi
   obtain ⟨x, hx, rfl⟩ := Option.map_eq_some_iff.1 hi
   obtain ⟨hil, rfl⟩ := List.getElem?_eq_some_iff.1 hx
   exact ⟨hil, rfl⟩
  have hfin := RelD.sl (K := J) (w := w) (sz := 3) (rows := l.map encD) (b := b) (off := off) (cap := cap) (fun i j => (w.cell? ⟨b, off + i * 3 + j, none⟩).getD undef) (by rw [List.length_map]; omega) hm (Qhu l) (fun i j row d hi hj => by
    obtain ⟨hil, rfl⟩ := hget i row hi
    have hj3 : j < 3 := by have := (List.getElem?_eq_some_iff.1 hj).1; rw [Jl] at this; exact this
    obtain ⟨s, k0, k1, k2, _⟩ := key i hil
    match j, hj3 with
    | 0, _ => exact ⟨hJ _ _ _ (hkk i 0 hil (by decide)) k0, by rw [k0]; rfl⟩
    | 1, _ => exact ⟨hJ _ _ _ (hkk i 1 hil (by decide)) k1, by rw [k1]; rfl⟩
    | 2, _ => exact ⟨hJ _ _ _ (hkk i 2 hil (by decide)) k2, by rw [k2]; rfl⟩) fun i j row d hi hj => by
    obtain ⟨hil, rfl⟩ := hget i row hi
    have hj3 : j < 3 := by have := (List.getElem?_eq_some_iff.1 hj).1; rw [Jl] at this; exact this
    obtain ⟨s, k0, k1, k2, hs⟩ := key i hil
    rw [Jl] at hj
    match j, hj3 with
    | 0, _ => cases hj; rw [k0]; exact .v trivial
    | 1, _ => cases hj; rw [k1]; exact .v trivial
    | 2, _ => cases hj; rw [k2]; exact ih _ (List.getElem_mem hil) s hs
  rw [List.length_map] at hfin
  rw [hv, hlen]
  exact hfin
theorem rel_tms {J : Nat → Nat → Prop} (hJ : ∀ b o u, K b o → w.cell? ⟨b, o, none⟩ = some u → J b o) : ∀ (t : Tm) (v : Value), TmS K w v t.sub → RelD J w (.sl (t.sub.map encD)) v := by
 refine Tm.ind ?_
 intro k n sub ih v h
 exact rel_tms_of hJ sub ih v h
theorem rel_tmsL {J : Nat → Nat → Prop} (hJ : ∀ b o u, K b o → w.cell? ⟨b, o, none⟩ = some u → J b o) (l : List Tm) (v : Value) (h : TmS K w v l) : RelD J w (.sl (l.map encD)) v := rel_tms_of hJ l (fun s _ v h => rel_tms hJ s v h) v h
theorem rel_tmc {J : Kp} (hJ : ∀ b o u, K b o → w.cell? ⟨b, o, none⟩ = some u → J.cell b o) {t : Tm} {cs : List Value} (h : TmC K w t cs) : RelV J w (aggD t) (.agg cs.toArray) := by
 obtain ⟨s, rfl, hs⟩ := h.open
 unfold aggD
 rw [Jl]
 refine .agg rfl fun i p v hp hv => ?_
 match i with
 | 0 => cases hp; cases hv; exact .d (.v trivial)
 | 1 => cases hp; cases hv; exact .d (.v trivial)
 | 2 => cases hp; cases hv; exact .d (rel_tms hJ t s hs)
 | i + 3 => simp at hp
def Qem : Tm → Tm × List Tm
  | .mk k n sub => match k, sub with
    | 5, [f, a] => ((Qem f).1, (Qem f).2 ++ [a])
    | k, sub => (.mk k n sub, [])
theorem spineT_app (n : Int) (f a : Tm) : Qem (.mk 5 n [f, a]) = ((Qem f).1, (Qem f).2 ++ [a]) := by simp only [Qem]
theorem spineT_not {t : Tm} (h : t.kind ≠ 5) : Qem t = (t, []) := by
 obtain ⟨k, n, sub⟩ := t
 have hk : k ≠ 5 := h
 unfold Qem
 split
 ·exact absurd rfl hk
 ·rfl
theorem spine_ok : ∀ (t : Tm), Qae t = true → Qdb (Qem t).1 (Qem t).2 = t ∧ (Qem t).1.kind ≠ 5 := by
 refine Tm.ind ?_
 intro k n sub ih hg
 by_cases hk : k = 5
 ·obtain ⟨y, b, hy, h1, h2⟩ := Qmi hg hk
  injection hy with e1 e2 e3
  subst e1; subst e2; subst e3
  obtain ⟨h3, h4⟩ := ih y (by simp) h1
  rw [spineT_app]
  exact ⟨by rw [Qhn, h3], h4⟩
 ·rw [spineT_not (t := .mk k n sub) hk]
  exact ⟨rfl, hk⟩
def Qfz (t : Tm) : Tm := (Qem t).1
def Qeo (t : Tm) : List Tm := (Qem t).2
theorem PCalls.dataK {P : Program} {f : FuncId} {args : List PV} {r : PV} (h : ∀ (K : Kp) (w : World) (vs : Array Value), RelVs K w args vs → Calls P f vs w fun e w' => ∃ v, e = .returned v ∧ Below w.heap.size w w' ∧ ∀ K' : Kp, (∀ b o, K.cell b o → K'.cell b o) → (∀ b o u, w.heap.size ≤ b → w'.cell? ⟨b, o, none⟩ = some u → K'.cell b o) → RelV K' w' r v) : PCalls P f args [] fun p s => p = r ∧ s = [] := by
 intro F K w vs hr ha
 refine (h K w vs ha).mono ?_
 rintro e w' ⟨v, rfl, hb, hv⟩
 have hxt : Ext F K w ⟨fun b o => K.cell b o ∨ (w.heap.size ≤ b ∧ ∃ u, w'.cell? ⟨b, o, none⟩ = some u), K.box, K.own⟩ w' := Qjm hb hr.ff (fun b o h => hr.klt h) (fun _ _ h => .inl h) (fun _ _ h => h.imp id fun h => h.1) rfl rfl
 refine ⟨v, _, r, [], rfl, hxt, ⟨fun b o hc => ?_, fun b hf => by have := hr.ff b hf; have := hb.size; omega, hr.fin, hr.fi, fun e he => (by cases he), by simp, by simp⟩, hv _ (fun _ _ h => .inl h) fun b o u h1 h2 => .inr ⟨h1, u, h2⟩, rfl, rfl⟩
 rcases hc with hc | ⟨_, hc⟩
 ·obtain ⟨v, hv⟩ := hr.kc b o hc
  exact ⟨v, (hxt.kp b o (hc)).2.trans hv⟩
 ·exact hc
theorem tup2e {K : Kp} {w : World} {p q : PV} {v u : Value} (h1 : RelV K w p v) (h2 : RelV K w q u) : RelV K w (.tup [p, q]) (.tuple #[v, u]) := by
  refine .tup rfl fun i p v hp hv => ?_
  match i with
  | 0 =>
    have e1 := Option.some.inj hp
    have e2 := Option.some.inj hv
    subst e1; subst e2; exact h1
  | 1 =>
    have e1 := Option.some.inj hp
    have e2 := Option.some.inj hv
    subst e1; subst e2; exact h2
  | n + 2 => simp at hp
theorem tSpine_p (t : Tm) (hs : Qak t = true) : PCalls Tryz.prog 137 [aggD t] [] fun p s => p = .tup [aggD (Qfz t), .d (.sl ((Qeo t).map encD))] ∧ s = [] := by
 refine PCalls.dataK fun J w vs ha => ?_
 obtain ⟨v, rfl, hv⟩ := ha.one
 obtain ⟨cs, rfl, ht⟩ := tmc_rel (K := fun b o => J.cell b o ∨ w.heap.size ≤ b) (fun b o h => .inl h) hv
 refine (spine_any t cs w (fun b o h => .inr h) hs ht).mono ?_
 rintro e w' ⟨h, l, k, n, a, len, cap, al, cl, rfl, h5, happ, hh, hl, hb⟩
 obtain ⟨o1, o2⟩ := spine_ok t (Qbu hs).1
 have hu := spine_uniq _ l (Qem t).2 h (Qem t).1 rfl h5 o2 (happ.trans o1.symm)
 refine ⟨_, rfl, hb, fun K' hK1 hK2 => ?_⟩
 have hJ : ∀ b o u, (J.cell b o ∨ w.heap.size ≤ b) → w'.cell? ⟨b, o, none⟩ = some u → K'.cell b o := fun b o u h1 h2 => h1.elim (hK1 b o) fun h3 => hK2 b o u h3 h2
 unfold Qfz Qeo
 rw [← hu.1, ← hu.2]
 exact tup2e (rel_tmc hJ hh) (.d (rel_tmsL hJ l _ hl))
def Qdh : Nat → Tm → Option (List Tm × Tm)
  | 0, t => some ([], t)
  | n + 1, t => match t with
    | .mk 3 _ [a, b] => (Qdh n b).map fun x => (a :: x.1, x.2)
    | _ => none
def Qax (t : Tm) (n : Int) : List Tm × Tm × Int :=
 if Qak t = false ∨ n < 0 then ([], .mk 0 0 [], 5)
 else if 24 < n then ([], .mk 0 0 [], 2)
 else match Qdh n.toNat t with
  | some (l, x) => (l, x, 0)
  | none => ([], .mk 0 0 [], 6)
def Qee (x : List Tm × Tm × Int) : PV := .tup [.d (.sl (x.1.map encD)), aggD x.2.1, .d (.v (.int .i64 x.2.2))]
theorem Qkf {x : Tm} (hg : Qae x = true) (h5 : x.kind = 3) : ∃ y b, x = .mk 3 0 [y, b] ∧ Qae y = true ∧ Qae b = true := by
  cases x with
  | mk k n sub =>
    have h5' : k = 3 := h5
    subst h5'
    have h1 := Qdx hg
    unfold Qfn at h1
    have h2 := of_decide_eq_true h1.1
    simp only [Jv, Jw, Jx] at h2
    have h3 : sub.length = 2 := by have := h2.2.2.1; simp [Qbr] at this; omega
    have h4 : n = 0 := by have := h2.2.2.2.2.1; have := h2.2.2.2.1; simp [Qbj] at *; omega
    match sub, h3 with
    | [y, b], _ => exact ⟨y, b, by rw [h4], h1.2 _ (by simp), h1.2 _ (by simp)⟩
theorem Qma {n : Nat} {t : Tm} (h : t.kind ≠ 3) : Qdh (n + 1) t = none := by
 obtain ⟨k, m, sub⟩ := t
 have hk : k ≠ 3 := h
 unfold Qdh
 split
 ·rename_i e
  injection e with e1 _ _
  exact absurd e1 hk
 ·rfl
theorem Qjb (n : Nat) (m : Int) (a b : Tm) : Qdh (n + 1) (.mk 3 m [a, b]) = (Qdh n b).map fun x => (a :: x.1, x.2) := by simp only [Qdh]
def Qhi (l : List Tm) : Option (List Tm × Tm) → Option (List Tm × Tm)
 | some x => some (l ++ x.1, x.2)
 | none => none
theorem joinC_step (l : List Tm) (a : Tm) (o : Option (List Tm × Tm)) : Qhi l (o.map fun x => (a :: x.1, x.2)) = Qhi (l ++ [a]) o := by
 cases o with
 | none => rfl
 | some x => simp [Qhi]
theorem joinC_nil (o : Option (List Tm × Tm)) : Qhi [] o = o := by cases o <;> simp [Qhi]
def splitO : Option (List Tm × Tm) → List Tm × Tm × Int
 | some (l, x) => (l, x, 0)
 | none => ([], .mk 0 0 [], 6)
theorem Qlb {t : Tm} {n : Int} (h1 : Qak t = true) (h2 : 0 ≤ n) (h3 : n ≤ 24) : Qax t n = splitO (Qdh n.toNat t) := by
 unfold Qax splitO
 rw [if_neg (by rw [h1]; simp; omega), if_neg (by omega)]
theorem tSplit_p (t : Tm) (n : Int) : PCalls Tryz.prog 245 [aggD t, .d (.v (.int .i64 n))] [] fun p s => p = Qee (Qax t n) ∧ s = [] := by
  have hS := Hh (Qie t)
  cases hb : Qak t with
  | false =>
    have hR : Qax t n = ([], .mk 0 0 [], 5) := by unfold Qax; rw [if_pos (.inl hb)]
    rw [hR]
    rw [hb] at hS
    unfold Qee
    simp only [aggD, Jl, List.map_cons, List.map_nil, Jv, Jw, Jx] at hS ⊢
    refine pG Tryz.func245 Tryz.ntmps245 ?_
    refine Jd ?_
    intro i0 hi0
    refine go_ ?_
    refine Je ?_
    intro i1 hi1
    try simp only [Ja, Rh, Rg, Jb] at hi1
    refine go_ ?_
    refine Qab (hS.out) ?_
    refine Qaa ?_
    refine rT Tryz.results245 ?_
    exact ⟨by simp [tupP, PV.norm2, PV.norm1, PV.norm0], rfl⟩
  | true =>
    rw [hb] at hS
    by_cases h0 : n < 0
    · have hR : Qax t n = ([], .mk 0 0 [], 5) := by unfold Qax; rw [if_pos (.inr h0)]
      rw [hR]
      unfold Qee
      simp only [aggD, Jl, List.map_cons, List.map_nil, Jv, Jw, Jx] at hS ⊢
      refine pG Tryz.func245 Tryz.ntmps245 ?_
      refine Jd ?_
      intro i0 hi0
      refine go_ ?_
      refine Je ?_
      intro i1 hi1
      try simp only [Ja, Rh, Rg, Jb] at hi1
      refine go_ ?_
      refine Qab (hS.out) ?_
      refine Qaa ?_
      refine rT Tryz.results245 ?_
      exact ⟨by simp [tupP, PV.norm2, PV.norm1, PV.norm0], rfl⟩
    · by_cases h24 : 24 < n
      · have hR : Qax t n = ([], .mk 0 0 [], 2) := by unfold Qax; rw [if_neg (by rw [hb]; simp; omega), if_pos h24]
        rw [hR]
        unfold Qee
        simp only [aggD, Jl, List.map_cons, List.map_nil, Jv, Jw, Jx] at hS ⊢
        refine pG Tryz.func245 Tryz.ntmps245 ?_
        refine Jd ?_
        intro i0 hi0
        refine go_ ?_
        refine Je ?_
        intro i1 hi1
        try simp only [Ja, Rh, Rg, Jb] at hi1
        refine go_ ?_
        refine Qab (hS.out) ?_
        refine Qaa ?_
        refine rT Tryz.results245 ?_
        exact ⟨by simp [tupP, PV.norm2, PV.norm1, PV.norm0], rfl⟩
      · have hC := Hh (tCopy_p t)
        have hcp : copyT t = t := if_pos hb
        rw [hcp] at hC
        obtain ⟨m, rfl⟩ : ∃ m : Nat, n = m := ⟨n.toNat, by omega⟩
        have hR := Qlb hb (by omega) (show (m : Int) ≤ 24 by omega)
        have hg := (Qbu hb).1
        obtain ⟨R, hR0⟩ : ∃ R, R = Qdh m t := ⟨_, rfl⟩
        rw [hR, Int.toNat_natCast, ← hR0]
        have HR0 : Hid (R = Qhi [] (Qdh m t)) := by show _ = _; rw [joinC_nil, hR0]
        have hm24 : m ≤ 24 := by omega
        have HG := Hh hg
        clear hb hcp hR hR0 hg h0
        unfold Qee
        simp only [aggD, Jl, List.map_cons, List.map_nil] at hS hC ⊢
        refine pG Tryz.func245 Tryz.ntmps245 ?_
        refine Jd ?_
        intro i0 hi0
        refine go_ ?_
        refine Je ?_
        intro i1 hi1
        try simp only [Ja, Rh, Rg, Jb] at hi1
        refine go_ ?_
        refine Jc (hS.out) ?_
        refine gs_ ?_
        refine Qc ?_
        refine gs_ ?_
        refine Qc ?_
        refine gs_ ?_
        refine PW_own 7 26 3 (by decide) (by simp [PF.get] <;> rfl) fun g hg => ?_
        refine go_ ?_
        refine Qab (hC.out) ?_
        refine Je ?_
        intro i2 hi2
        try simp only [Ja, Rh, Rg, Jb] at hi2
        refine go_ ?_
        refine Qaa ?_
        refine Qai (ι := Nat × List Tm × Tm) (fun y => y.1 ≤ m ∧ y.2.1.length = y.1 ∧ Hid (Qae y.2.2 = true) ∧ Hid (R = Qhi y.2.1 (Qdh (m - y.1) y.2.2))) (fun y => [(5, .ptr i1 0), (7, .own g (y.2.1.map encD)), (8, .ptr i2 0), (24, .d (.v (.int .i64 m))), (25, .d (.v (.int .i64 (y.1 : Int))))]) (fun y => [.box i2 26 [.d (.v (.int .i64 y.2.2.kind)), .d (.v (.int .i64 y.2.2.num)), .d (.sl (y.2.2.sub.map encD))], .tok g 26 3 y.2.1.length, .box i1 26 [.d (.v (.int .i64 0)), .d (.v (.int .i64 0)), .nils]]) (fun y => m - y.1) (0, [], t) ⟨Nat.zero_le _, rfl, HG.out, HR0.out⟩ ?_ ?_ ?_
        · exact sU
        · exact dR
        · rintro ⟨j, l, x⟩ ⟨hj, hl, hgx, hR⟩
          simp only at hj hl hgx hR ⊢
          have HL := Hh hl
          clear HR0 HG hl
          by_cases hlt : j < m
          · have hc : (j : Int) < m := by omega
            have hin := wr64 (n := (j : Int) + 1) (by omega) (by omega)
            by_cases h3 : x.kind = 3
            · obtain ⟨a, b, rfl, ha, hb⟩ := Qkf hgx.out h3
              have hR2 : Hid (R = Qhi (l ++ [a]) (Qdh (m - (j + 1)) b)) := by
                show _ = _
                rw [show R = _ from hR.out, show m - j = (m - (j + 1)) + 1 by omega, Qjb, joinC_step]
              clear hR h3 hgx
              simp only [Jv, Jw, Jx, List.map_cons, List.map_nil]
              refine go_ ?_
              refine Qao ?_
              have hl8 : l.length ≤ 24 := by have := HL.out; omega
              refine Qap (l.length + 1) ?_ ?_ ?_ ?_
              · simp
              · exact Qhu _
              · exact Qbt rfl
              refine go_ ?_
              refine Qaa ?_
              refine ⟨(j + 1, l ++ [a], b), ⟨hlt, by simp only; rw [List.length_append, show l.length = j from HL.out]; rfl, hb, hR2⟩, by simp only; omega, ?_, ?_⟩
              · repeat (first | exact Jt _ | refine Js (by simp [PF.get]; rfl) (by first | rfl | (simp [hin]; done) | fail) ?_)
              · simp only [List.length_append, List.length_singleton]
                exact dR
            · have hf : Hid (R = none) := by
                show _ = _
                rw [show R = _ from hR.out, show m - j = (m - (j + 1)) + 1 by omega, Qma h3]; rfl
              clear hR
              refine go_ ?_
              refine Qaa ?_
              refine rT Tryz.results245 ?_
              exact ⟨by rw [hf.out]; simp [splitO, tupP, PV.norm2, PV.norm1, PV.norm0], rfl⟩
          · have hc : ¬ (j : Int) < m := by omega
            have hf : Hid (R = some (l, x)) := by
              show _ = _
              rw [show R = _ from hR.out, show m - j = 0 by omega]
              simp [Qdh, Qhi]
            clear hR
            refine go_ ?_
            refine Qal [(0, .a), (1, .b), (2, .a), (3, .e), (4, .a)] (by kernel_rfl) (by rfl) (by kernel_rfl) ?_
            refine go_ ?_
            refine Qck ?_
            refine go_ ?_
            refine rT Tryz.results245 ?_
            exact ⟨by rw [hf.out]; simp [splitO, tupP, PV.norm2, PV.norm1, PV.norm0], rfl⟩
def piN : Tm → Nat
 | .mk 3 _ [_, b] => piN b + 1
 | _ => 0
theorem piN_pi (m : Int) (a b : Tm) : piN (.mk 3 m [a, b]) = piN b + 1 := by simp only [piN]
theorem piN_no {t : Tm} (h : ¬ (t.kind = 3 ∧ t.sub.length = 2)) : piN t = 0 := by
 obtain ⟨k, m, sub⟩ := t
 unfold piN
 split
 ·rename_i e
  injection e with e1 _ e3
  exact absurd ⟨e1, by rw [Jx, e3]; rfl⟩ h
 ·rfl
def Qbx (t : Tm) : List Tm × Tm × Int := Qax t (min (piN t : Int) 25)
theorem tWhole_p (t : Tm) : PCalls Tryz.prog 248 [aggD t] [] fun p s => p = Qee (Qbx t) ∧ s = [] := by
 obtain ⟨N, hN0⟩ : ∃ N, N = min (piN t) 25 := ⟨_, rfl⟩
 have HC := Hh (tSplit_p t (min (piN t : Int) 25))
 rw [show min (piN t : Int) 25 = (N : Int) by omega] at HC
 have HW : Hid (Qbx t = Qax t N) := by show _ = _; unfold Qbx; rw [show min (piN t : Int) 25 = (N : Int) by omega]
 rw [HW.out]
 have HN : Hid (N = min (0 + piN t) 25) := by show _ = _; omega
 clear hN0 HW
 generalize Qax t (N : Int) = S at *
 obtain ⟨sl, sx, se⟩ := S
 unfold Qee at HC ⊢
 simp only [aggD, Jl, List.map_cons, List.map_nil] at HC ⊢
 refine pG Tryz.func248 Tryz.ntmps248 ?_
 refine Jd ?_
 intro i0 hi0
 refine go_ ?_
 refine Je ?_
 intro i1 hi1
 try simp only [Ja, Rh, Rg, Jb] at hi1
 refine go_ ?_
 refine Je ?_
 intro i2 hi2
 try simp only [Ja, Rh, Rg, Jb] at hi2
 refine go_ ?_
 refine Qaa ?_
 refine Qai (ι := Nat × Nat × Tm) (fun y => y.2.1 ≤ 25 ∧ ((i1 ≠ y.1 ∧ y.1 ≠ i1) ∧ (i0 ≠ y.1 ∧ y.1 ≠ i0)) ∧ Hid (N = min (y.2.1 + piN y.2.2) 25)) (fun y => [(1, .ptr i0 0), (3, .ptr i1 0), (5, .d (.v (.int .i64 (y.2.1 : Int)))), (6, .ptr y.1 0)]) (fun y => [.box y.1 26 [.d (.v (.int .i64 y.2.2.kind)), .d (.v (.int .i64 y.2.2.num)), .d (.sl (y.2.2.sub.map encD))], .box i1 26 [.d (.v (.int .i64 0)), .d (.v (.int .i64 0)), .nils], .box i0 26 [.d (.v (.int .i64 t.kind)), .d (.v (.int .i64 t.num)), .d (.sl (t.sub.map encD))]]) (fun y => 25 - y.2.1) (i2, 0, t) ⟨Nat.zero_le _, ⟨hi2.1, hi2.2.1⟩, HN.out⟩ ?_ ?_ ?_
 ·exact sU
 ·exact dR
 ·rintro ⟨i, j, x⟩ ⟨hj, hne, hR⟩
  simp only at hj hR hne ⊢
  clear HN hi2
  by_cases hx : x.kind = 3
  ·by_cases hl : x.sub.length = 2
   ·by_cases h24 : (j : Int) ≤ 24
    ·obtain ⟨k, m, sub⟩ := x
     have hk : k = 3 := hx
     subst hk
     match sub, (show sub.length = 2 from hl) with
     | [a, b], _ =>
     have hR2 : Hid (N = min ((j + 1) + piN b) 25) := by
      show _ = _
      rw [show N = _ from hR.out, piN_pi]; omega
     have hin := wr64 (n := (j : Int) + 1) (by omega) (by omega)
     clear hR hx hl
     simp only [Jv, Jw, Jx, List.map_cons, List.map_nil]
     refine go_ ?_
     refine Je ?_
     intro i3 hi3
     try simp only [Ja, Rh, Rg, Jb] at hi3
     refine go_ ?_
     refine Qaa ?_
     refine Qaa ?_
     refine ⟨(i3, j + 1, b), ⟨by simp only; omega, ⟨hi3.2.1, hi3.2.2.1⟩, hR2⟩, by simp only; omega, ?_, ?_⟩
     ·repeat (first | exact Jt _ | refine Js (by simp [PF.get]; rfl) (by first | rfl | (simp [hin]; done) | fail) ?_)
     ·exact dR
    ·have hf : N = j := by rw [show N = _ from hR.out]; omega
     clear hR
     subst hf
     refine go_ ?_
     refine Qab (HC.out) ?_
     refine Qaa ?_
     refine rT Tryz.results248 ?_
     exact ⟨by simp [tupP, PV.norm2, PV.norm1, PV.norm0], rfl⟩
   ·have hf : N = j := by rw [show N = _ from hR.out, piN_no (fun h => hl h.2)]; omega
    have hl2 : ((x.sub.length : Int) == 2) = false := beq_eq_false_iff_ne.2 (by omega)
    clear hR
    subst hf
    refine go_ ?_
    refine Qab (HC.out) ?_
    refine Qaa ?_
    refine rT Tryz.results248 ?_
    exact ⟨by simp [tupP, PV.norm2, PV.norm1, PV.norm0], rfl⟩
  ·have hf : N = j := by rw [show N = _ from hR.out, piN_no (fun h => hx h.1)]; omega
   clear hR
   subst hf
   refine go_ ?_
   refine Qab (HC.out) ?_
   refine Qaa ?_
   refine rT Tryz.results248 ?_
   exact ⟨by simp [tupP, PV.norm2, PV.norm1, PV.norm0], rfl⟩
theorem spine_mk (n : Int) (f a : Tm) : Qfz (.mk 5 n [f, a]) = Qfz f ∧ Qeo (.mk 5 n [f, a]) = Qeo f ++ [a] := by
 unfold Qfz Qeo; rw [spineT_app]; exact ⟨rfl, rfl⟩
theorem spine_mk0 {t : Tm} (h : t.kind ≠ 5) : Qfz t = t ∧ Qeo t = [] := by
 unfold Qfz Qeo; rw [spineT_not h]; exact ⟨rfl, rfl⟩
theorem Qja (k n : Int) (a b : Tm) : cndT (.mk k n [a, b]) = cndT a + cndT b + 1 := by simp only [cndT, cndL]; omega
theorem args_len : ∀ (t : Tm), (Qeo t).length ≤ cndT t := by
 refine Tm.ind ?_
 intro k n sub ih
 unfold Qeo Qem
 split
 ·rename_i f a
  have := ih f (by simp)
  unfold Qeo at this
  rw [List.length_append, List.length_singleton, Qja]
  omega
 ·exact Nat.zero_le _
theorem rHead_p (t : Tm) (hg : Qae t = true) : PCalls Tryz.prog 91 [aggD t] [] fun p s => p = aggD (Qfz t) ∧ s = [] := by
 obtain ⟨R, hR0⟩ : ∃ R, R = Qfz t := ⟨_, rfl⟩
 rw [← hR0]
 have HR0 := Hh hR0
 have HG := Hh hg
 clear hR0 hg
 simp only [aggD, Jl, List.map_cons, List.map_nil]
 refine pG Tryz.func91 Tryz.ntmps91 ?_
 refine Jd ?_
 intro i0 hi0
 refine go_ ?_
 refine Je ?_
 intro i1 hi1
 try simp only [Ja, Rh, Rg, Jb] at hi1
 refine go_ ?_
 refine Qai (ι := Tm) (fun x => Hid (Qae x = true) ∧ Hid (R = Qfz x)) (fun x => [(1, .ptr i0 0), (2, .ptr i1 0)]) (fun x => [.box i1 26 [.d (.v (.int .i64 0)), .d (.v (.int .i64 0)), .nils], .box i0 26 [.d (.v (.int .i64 x.kind)), .d (.v (.int .i64 x.num)), .d (.sl (x.sub.map encD))]]) (fun x => cndT x) t ⟨HG.out, HR0.out⟩ ?_ ?_ ?_
 ·exact sU
 ·exact dR
 ·rintro x ⟨hgx, hR⟩
  clear HR0 HG
  by_cases h5 : x.kind = 5
  ·obtain ⟨f, a, rfl, hf, ha⟩ := Qmi hgx.out h5
   have hR2 : Hid (R = Qfz f) := by show _ = _; rw [show R = _ from hR.out, (spine_mk 0 f a).1]
   have hnd := Qja 5 0 f a
   clear hR h5 hgx
   simp only [Jv, Jw, Jx, List.map_cons, List.map_nil]
   refine go_ ?_
   refine Qaa ?_
   exact ⟨f, ⟨hf, hR2⟩, by omega, sU, dR⟩
  ·have hf : Hid (R = x) := by show _ = _; rw [show R = _ from hR.out, (spine_mk0 h5).1]
   clear hR
   refine go_ ?_
   refine Qaa ?_
   refine rT Tryz.results91 ?_
   exact ⟨by rw [hf.out]; simp [tupP, PV.norm2, PV.norm1, PV.norm0], rfl⟩
theorem rargs_o : ∀ (m : Nat) (t : Tm), cndT t ≤ m → Qae t = true → cndT t ≤ 100000 → PCalls Tryz.prog 92 [aggD t] [] fun p s => ∃ g, p = .own g ((Qeo t).map encD) ∧ s = [.tok g 26 3 (Qeo t).length] := by
  intro m
  induction m with
  | zero => intro t h; have := Qiz t; omega
  | succ m ih =>
    intro t hm hg hnd
    by_cases h5 : t.kind = 5
    · obtain ⟨f, a, rfl, hf, ha⟩ := Qmi hg h5
      have hn2 := Qja 5 0 f a
      have hp := Qiz a
      have IH := Hh (ih f (by omega) hf (by omega))
      rw [(spine_mk 0 f a).2]
      have hal : (Qeo f).length ≤ 100000 := Nat.le_trans (args_len f) (by omega)
      clear ih hm hg h5
      generalize Qeo f = l at *
      simp only [aggD, Jl, List.map_cons, List.map_nil, Jv, Jw, Jx] at IH ⊢
      refine pG Tryz.func92 Tryz.ntmps92 ?_
      refine Jd ?_
      intro i0 hi0
      refine go_ ?_
      refine Qfu (J := Qcm [(i0, _)]) [(0, .a), (1, .a), (2, .a), (3, .a), (5, .a), (6, .a), (7, .a), (8, .a), (9, .a), (4, .e), (10, .e), (11, .a)] (by kernel_rfl) (by rfl) (by kernel_rfl) (by (repeat (first | exact Qat _ | refine Ju (by simp [St.box?, *] <;> rfl) ?_))) ?_
      refine lG ?_
      refine PL_bs ?_ rfl (by decide) rfl (by simp; rfl) (by rfl) (by simp; rfl) (by rfl) (by decide) (by decide) eQ (by simp [Qde, toDs, PV.toD]; rfl)
      refine lG ?_
      refine Qlw 0 0 (IH.out) ?_
      rintro _ _ ⟨g, rfl, rfl⟩
      refine ⟨.inr (by (repeat (first | exact Qat _ | refine Ju (by simp [St.box?, *] <;> rfl) ?_))), ?_⟩
      refine PL_app (l.length + 1) ?_ ?_ ?_ ?_ ?_
      rotate_left
      · exact Qhu _
      · exact Qbt rfl
      · simp
      · exact .inr (by (repeat (first | exact Qat _ | refine Ju (by simp [St.box?, *] <;> rfl) ?_)))
      refine lG ?_
      refine go_ ?_
      refine Qju (st' := [.tok g 26 3 (l.length + 1)]) (by simp) (by simp only [Tryz.results92]; rfl) (by simp [resP, PF.get]; rfl) dR ⟨g, by simp [tupP], by simp⟩
    · rw [(spine_mk0 h5).2]
      simp only [aggD, Jl, List.map_cons, List.map_nil]
      have h5b : (t.kind != 5) = true := bne_iff_ne.2 h5
      refine pG Tryz.func92 Tryz.ntmps92 ?_
      refine Jd ?_
      intro i0 hi0
      refine go_ ?_
      refine Qdi ?_ (by decide) eD (by simp; rfl) (by rfl) (by simp; rfl) (by rfl) (by decide)
      intro g hg2
      refine go_ ?_
      refine Qju (st' := [.tok g 26 3 0]) (by simp) (by simp only [Tryz.results92]; rfl) (by simp [resP, PF.get]; rfl) dR ⟨g, by simp [tupP], by simp⟩
theorem rArgs_p (t : Tm) (hg : Qae t = true) (hn : cndT t ≤ 100000) : PCalls Tryz.prog 92 [aggD t] [] fun p s => p = .d (.sl ((Qeo t).map encD)) ∧ s = [] :=
 (rargs_o _ t (Nat.le_refl _) hg hn).norm fun p st ⟨g, e1, e2⟩ => ⟨by rw [e1]; rfl, rfl⟩
def Qba : Tm → List Tm
 | .mk 3 _ [a, b] => a :: Qba b
 | _ => []
def benT : Tm → Tm
  | .mk k n sub => match k, sub with
    | 3, [_, b] => benT b
    | k, sub => .mk k n sub
theorem tele_pi (m : Int) (a b : Tm) : Qba (.mk 3 m [a, b]) = a :: Qba b ∧ benT (.mk 3 m [a, b]) = benT b := by constructor <;> simp only [Qba, benT]
theorem tele_no {t : Tm} (h : t.kind ≠ 3) : Qba t = [] ∧ benT t = t := by
 obtain ⟨k, m, sub⟩ := t
 have hk : k ≠ 3 := h
 constructor
 ·unfold Qba
  split
  ·rename_i e; injection e with e1 _ _; exact absurd e1 hk
  ·rfl
 ·unfold benT
  split
  ·exact absurd rfl hk
  ·rfl
theorem tele_len : ∀ (t : Tm), (Qba t).length ≤ cndT t := by
 refine Tm.ind ?_
 intro k n sub ih
 unfold Qba
 split
 ·rename_i a b e
  injection e with e1 e2 e3
  subst e1; subst e2; subst e3
  have := ih b (by simp)
  rw [List.length_cons, Qja]; omega
 ·exact Nat.zero_le _
theorem rTele_p (t : Tm) (hg : Qae t = true) (hn : cndT t ≤ 100000) : PCalls Tryz.prog 154 [aggD t] [] fun p s => p = .d (.sl ((Qba t).map encD)) ∧ s = [] := by
 obtain ⟨R, hR0⟩ : ∃ R, R = Qba t := ⟨_, rfl⟩
 have hlen := tele_len t
 rw [← hR0] at hlen ⊢
 have HR0 : Hid (R = [] ++ Qba t) := hR0
 have HG := Hh hg
 clear hR0 hg
 simp only [aggD, Jl, List.map_cons, List.map_nil]
 refine pG Tryz.func154 Tryz.ntmps154 ?_
 refine Jd ?_
 intro i0 hi0
 refine go_ ?_
 refine Qdi ?_ (by decide) eD (by simp; rfl) (by rfl) (by simp; rfl) (by rfl) (by decide)
 intro g hg
 refine go_ ?_
 refine Qai (ι := List Tm × Tm) (fun y => Hid (Qae y.2 = true) ∧ Hid (R = y.1 ++ Qba y.2)) (fun y => [(1, .ptr i0 0), (3, .own g (y.1.map encD))]) (fun y => [.tok g 26 3 y.1.length, .box i0 26 [.d (.v (.int .i64 y.2.kind)), .d (.v (.int .i64 y.2.num)), .d (.sl (y.2.sub.map encD))]]) (fun y => cndT y.2) ([], t) ⟨HG.out, HR0.out⟩ ?_ ?_ ?_
 ·exact sU
 ·exact dR
 ·rintro ⟨l, x⟩ ⟨hgx, hR⟩
  simp only at hgx hR ⊢
  clear HR0 HG
  by_cases h3 : x.kind = 3
  ·obtain ⟨a, b, rfl, ha, hb⟩ := Qkf hgx.out h3
   have hR2 : Hid (R = (l ++ [a]) ++ Qba b) := by show _ = _; rw [show R = _ from hR.out, (tele_pi 0 a b).1, List.append_assoc]; rfl
   have hnd := Qja 3 0 a b
   have hll : l.length ≤ 100000 := by
    have := congrArg List.length hR2.out
    simp only [List.length_append] at this
    omega
   clear hR h3 hgx
   simp only [Jv, Jw, Jx, List.map_cons, List.map_nil]
   refine go_ ?_
   refine Qao ?_
   refine Qap (l.length + 1) ?_ ?_ ?_ ?_
   ·simp
   ·exact Qhu _
   ·exact Qbt rfl
   refine go_ ?_
   refine Qaa ?_
   refine ⟨(l ++ [a], b), ⟨hb, hR2⟩, by simp only; omega, ?_, ?_⟩
   ·exact sU
   ·simp only [List.length_append, List.length_singleton]
    exact dR
  ·have hf : Hid (R = l) := by show _ = _; rw [show R = _ from hR.out, (tele_no h3).1, List.append_nil]
   clear hR
   refine go_ ?_
   refine rT Tryz.results154 ?_
   exact ⟨by rw [hf.out]; rfl, rfl⟩
theorem rBeneath_p (t : Tm) (hg : Qae t = true) : PCalls Tryz.prog 158 [aggD t] [] fun p s => p = aggD (benT t) ∧ s = [] := by
 obtain ⟨R, hR0⟩ : ∃ R, R = benT t := ⟨_, rfl⟩
 rw [← hR0]
 have HR0 := Hh hR0
 have HG := Hh hg
 clear hR0 hg
 simp only [aggD, Jl, List.map_cons, List.map_nil]
 refine pG Tryz.func158 Tryz.ntmps158 ?_
 refine Jd ?_
 intro i0 hi0
 refine go_ ?_
 refine Je ?_
 intro i1 hi1
 try simp only [Ja, Rh, Rg, Jb] at hi1
 refine go_ ?_
 refine Qai (ι := Tm) (fun x => Hid (Qae x = true) ∧ Hid (R = benT x)) (fun x => [(1, .ptr i0 0), (2, .ptr i1 0)]) (fun x => [.box i1 26 [.d (.v (.int .i64 0)), .d (.v (.int .i64 0)), .nils], .box i0 26 [.d (.v (.int .i64 x.kind)), .d (.v (.int .i64 x.num)), .d (.sl (x.sub.map encD))]]) (fun x => cndT x) t ⟨HG.out, HR0.out⟩ ?_ ?_ ?_
 ·exact sU
 ·exact dR
 ·rintro x ⟨hgx, hR⟩
  clear HR0 HG
  by_cases h3 : x.kind = 3
  ·obtain ⟨a, b, rfl, ha, hb⟩ := Qkf hgx.out h3
   have hR2 : Hid (R = benT b) := by show _ = _; rw [show R = _ from hR.out, (tele_pi 0 a b).2]
   have hnd := Qja 3 0 a b
   clear hR h3 hgx
   simp only [Jv, Jw, Jx, List.map_cons, List.map_nil]
   refine go_ ?_
   refine Qaa ?_
   exact ⟨b, ⟨hb, hR2⟩, by omega, sU, dR⟩
  ·have hf : Hid (R = x) := by show _ = _; rw [show R = _ from hR.out, (tele_no h3).2]
   clear hR
   refine go_ ?_
   refine Qaa ?_
   refine rT Tryz.results158 ?_
   exact ⟨by rw [hf.out]; simp [tupP, PV.norm2, PV.norm1, PV.norm0], rfl⟩
def Wl {H : Type} (P : Program) (t : TypeId) (d : DataW H) : Prop := (DataW.weights P t d).all (· ≤ reachBytes) = true
section
variable {H : Type} {P : Program}
theorem wl_arg {ts : List TypeId} {ds : List (DataW H)} (h : (DataW.weightsEach P ts ds).all (· ≤ reachBytes) = true) {j : Nat} {t : TypeId} {d : DataW H} (ht : ts[j]? = some t) (hd : ds[j]? = some d) : Wl P t d := by
 unfold Wl
 rw [List.all_eq_true] at h ⊢
 exact fun w hw => h w (DataW.weights_mem_each ht hd w hw)
theorem weights_all {e : TypeId} {d : DataW H} {x : Nat} (hx : x ∈ DataW.weights P e d) : ∀ l : List (DataW H), d ∈ l → x ∈ DataW.weightsAll P e l := by
  intro l
  induction l with
  | nil => intro h; cases h
  | cons y l ih =>
    intro h
    simp only [DataW.weightsAll, List.mem_append]
    rcases List.mem_cons.1 h with rfl | h
    · exact .inl hx
    · exact .inr (ih h)
theorem wl_slice {t e : TypeId} {elems spare : List (DataW H)} (hu : P.underlying t = some (.slice e)) (h : Wl P t (.slice elems spare)) : (elems.length + spare.length) * P.bytesOf e ≤ reachBytes ∧ ∀ d ∈ elems, Wl P e d := by
 unfold Wl at h
 simp only [DataW.weights, hu, List.all_cons, Bool.and_eq_true, decide_eq_true_eq, List.all_eq_true, List.mem_append] at h
 refine ⟨h.1, fun d hd => ?_⟩
 unfold Wl
 rw [List.all_eq_true]
 exact fun w hw => by simpa using h.2 w (.inl (weights_all hw _ hd))
end
section
variable {H : Type} {enc : TypeId × Value → H} {w : World} {base : Nat} {spare : Nat → Bool} {held : Bool}
def OpnB (α : Type) [Enc α] (Ok : α → Prop) (enc : TypeId × Value → H) (w : World) (base : Nat) (spare : Nat → Bool) (held : Bool) (T : TypeId) (n : Nat) : Prop :=
 ∀ (cs : List Value) (x : DataW H × List MemPlace), DataW.trod enc Tryz.prog w base spare held n T cs = some x → Wl Tryz.prog T x.1 → ∃ a : α, Rep (fun _ => True) w a cs ∧ Ok a
theorem OpnAt.toB {α : Type} [Enc α] {T : TypeId} {n : Nat} (h : OpnAt α enc w base spare held T n) : OpnB α (fun _ => True) enc w base spare held T n := fun cs x h1 _ => by
 obtain ⟨a, ha⟩ := h cs x h1
 exact ⟨a, ha, trivial⟩
theorem opnB_slice {α : Type} [Enc α] {Ok : α → Prop} {T e : TypeId} {n : Nat} (ht : Tryz.prog.underlying T = some (.slice e)) (hc : Tryz.prog.cellsOf e = Enc.sz α) (hpos : 0 < Enc.sz α)
  (ih : ∀ m, m < n → OpnB α Ok enc w base spare held e m) {cs : List Value} {x : DataW H × List MemPlace} (h : DataW.trod enc Tryz.prog w base spare held n T cs = some x) (hw : Wl Tryz.prog T x.1) : ∃ (v : Value) (l : List α), cs = [v] ∧ RepS (fun _ => True) w v l ∧ (∀ a ∈ l, Ok a) ∧ l.length * Tryz.prog.bytesOf e ≤ reachBytes := by
 rcases DataW.trod_slice ht h with ⟨rfl, _⟩ | ⟨a, len, cap, elems, rest, m, rfl, rfl, rfl, _, hl, hm, hlen, hel, _, _⟩
 ·exact ⟨_, [], rfl, RepS.nil, by simp, by simp⟩
 ·rw [hc] at hel
  obtain ⟨hb, hws⟩ := wl_slice ht hw
  have each : ∀ i, i < len → ∃ p : List Value × α, w.cells? base (a.add (i * Enc.sz α)) (Enc.sz α) = some p.1 ∧ (Rep (fun _ => True) w p.2 p.1 ∧ Ok p.2) := by
   intro i hi
   have h1 := hel i hi
   rw [List.getElem?_eq_getElem (by omega)] at h1
   obtain ⟨cs', h2, h3⟩ := Option.bind_eq_some_iff.1 h1
   obtain ⟨t, ht⟩ := ih m (by omega) cs' _ h3 (hws _ (List.mem_map.2 ⟨_, List.getElem_mem _, rfl⟩))
   exact ⟨(cs', t), h2, ht⟩
  obtain ⟨ps, hpl, hp⟩ := choose_list (Q := fun i (p : List Value × α) => w.cells? base (a.add (i * Enc.sz α)) (Enc.sz α) = some p.1 ∧ (Rep (fun _ => True) w p.2 p.1 ∧ Ok p.2)) each
  refine ⟨_, ps.map (·.2), rfl, RepS.mk (css := ps.map (·.1)) ?_ ?_, ?_, ?_⟩
  ·refine ⟨some a, cap, by simp [hpl], by simpa [hpl] using hl, hm, fun hne => ?_⟩
   have hl0 : 0 < ps.length := by
    cases ps with
    | nil => exact absurd rfl hne
    | cons _ _ => simp
   obtain ⟨_, hcl0, hcell0⟩ := World.cells?_some (hp 0 hl0).1
   have h0 := hcell0 0 hpos
   simp only [Nat.zero_mul, Addr.add, if_true] at h0
   rw [List.getElem?_eq_getElem (by omega)] at h0
   have hs : a.spot = none := spot_none h0
   refine ⟨a.block, a.off, by cases a; simp_all, trivial, World.block_lt_of_cell? w _ h0, fun i c hic => ?_⟩
   simp only [List.getElem?_map, Option.map_eq_some_iff] at hic
   obtain ⟨p, hpi, rfl⟩ := hic
   obtain ⟨hi, hpe⟩ := List.getElem?_eq_some_iff.1 hpi
   have hpp := (hp i hi).1
   rw [hpe] at hpp
   obtain ⟨_, hcl, hcell⟩ := World.cells?_some hpp
   refine ⟨hcl, fun j u hu => ?_⟩
   have hj : j < Enc.sz α := by
    have := (List.getElem?_eq_some_iff.1 hu).1; omega
   have := hcell j hj
   rw [hu, Qkm (x := a) hs, Qkm rfl] at this
   simpa [Nat.add_assoc] using this
  ·refine RepL.mk (by simp) fun i hi => ?_
   have hi' : i < ps.length := by simpa using hi
   exact ⟨ps[i].1, by simp [hi'], by have h := (hp i hi').2.1; unfold Rep at h; simpa using h⟩
  ·intro y hy
   obtain ⟨p, hpm, rfl⟩ := List.mem_map.1 hy
   obtain ⟨i, hi, rfl⟩ := List.getElem_of_mem hpm
   exact (hp i hi).2.2
  ·rw [List.length_map, hpl]
   refine Nat.le_trans (Nat.mul_le_mul_right _ ?_) hb
   rw [List.length_map]; omega
end
end Go.Proofs.YtdklpbefbamchaaGreat
