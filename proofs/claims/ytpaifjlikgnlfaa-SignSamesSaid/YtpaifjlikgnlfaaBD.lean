import Derived.Test.YtpaifjlikgnlfaaBK
import Derived.Test.YtpaifjlikgnlfaaBNd
import Derived.Laws.Rows
import Derived.Test.YtpaifjlikgnlfaaRows
import Derived.ChangeArms
import Derived.ChangeSlices
import Derived.OpenShut
import Derived.ChangeShapes
set_option linter.unusedSimpArgs false
set_option linter.unusedVariables false
set_option maxHeartbeats 16000000
set_option maxRecDepth 100000
namespace Go.Proofs.Ytpaifjlikgnlfaa
open Go.RowKit
inductive Dt where
 | v (x : Value)
 | str (s : ByteArray)
 | s (sz : Nat) (l : List (List Dt))
def SlD (S : Nat → Prop) (w : World) (sz : Nat) (v : Value) (css : List (List Value)) : Prop :=
 ∃ a cap, v = .slice a css.length cap ∧ css.length ≤ cap ∧ cap ≤ maxLen ∧ (css ≠ [] → ∃ b off, a = some ⟨b, off, none⟩ ∧ S b ∧ b < w.heap.size ∧ ∀ i c, css[i]? = some c → c.length = sz ∧ ∀ j x, c[j]? = some x → w.cell? ⟨b, off + i * sz + j, none⟩ = some x)
mutual
def RepV (S : Nat → Prop) (w : World) : Dt → Value → Prop
 | .v x, u => u = x ∧ x.oneCell' = true
 | .str s, u => u = .string s ∧ s.size ≤ maxLen
 | .s sz l, u => ∃ css, SlD S w sz u css ∧ RepL S w l css
def RepF (S : Nat → Prop) (w : World) : List Dt → List Value → Prop
 | [], cs => cs = []
 | d :: ds, cs => ∃ c cr, cs = c :: cr ∧ RepV S w d c ∧ RepF S w ds cr
def RepL (S : Nat → Prop) (w : World) : List (List Dt) → List (List Value) → Prop
 | [], css => css = []
 | f :: fs, css => ∃ c cr, css = c :: cr ∧ RepF S w f c ∧ RepL S w fs cr
end
theorem Dt.ind {P : Dt → Prop} (hv : ∀ x, P (.v x)) (ht : ∀ s, P (.str s)) (hs : ∀ sz l, (∀ f ∈ l, ∀ d ∈ f, P d) → P (.s sz l)) : ∀ d, P d := by
 intro d
 exact Dt.rec (motive_1 := P) (motive_2 := fun l => ∀ f ∈ l, ∀ d ∈ f, P d) (motive_3 := fun f => ∀ d ∈ f, P d) hv ht hs (fun f hf => by cases hf)
  (fun t ts h1 h2 s hm => by
   cases hm with
   | head => exact h1
   | tail _ hm => exact h2 s hm) (fun f hf => by cases hf)
  (fun t ts h1 h2 s hm => by
   cases hm with
   | head => exact h1
   | tail _ hm => exact h2 s hm) d
variable {S S' : Nat → Prop} {w w' : World}
theorem RepF.length : ∀ {ds : List Dt} {cs : List Value}, RepF S w ds cs → cs.length = ds.length := by
 intro ds
 induction ds with
 | nil => intro cs h; simp only [RepF] at h; subst h; rfl
 | cons t ts ih => intro cs h; simp only [RepF] at h; obtain ⟨c, cr, rfl, _, h2⟩ := h; simp [ih h2]
theorem RepL.length : ∀ {ds : List (List Dt)} {cs : List (List Value)}, RepL S w ds cs → cs.length = ds.length := by
 intro ds
 induction ds with
 | nil => intro cs h; simp only [RepL] at h; subst h; rfl
 | cons t ts ih => intro cs h; simp only [RepL] at h; obtain ⟨c, cr, rfl, _, h2⟩ := h; simp [ih h2]
theorem RepL.get : ∀ {ts : List (List Dt)} {css : List (List Value)}, RepL S w ts css → ∀ (i : Nat) (h : i < ts.length), ∃ c, css[i]? = some c ∧ RepF S w ts[i] c := by
  intro ts
  induction ts with
  | nil => intro css _ i h; simp at h
  | cons t ts ih =>
    intro css h i hi
    simp only [RepL] at h
    obtain ⟨c, cr, rfl, h1, h2⟩ := h
    cases i with
    | zero => exact ⟨c, rfl, h1⟩
    | succ i =>
      obtain ⟨c', hc', h'⟩ := ih h2 i (by simpa using hi)
      exact ⟨c', by simpa using hc', by simpa using h'⟩
theorem RepL.mk : ∀ {ts : List (List Dt)} {css : List (List Value)}, css.length = ts.length → (∀ (i : Nat) (h : i < ts.length), ∃ c, css[i]? = some c ∧ RepF S w ts[i] c) → RepL S w ts css := by
  intro ts
  induction ts with
  | nil => intro css hl _; simp only [RepL]; exact List.eq_nil_of_length_eq_zero hl
  | cons t ts ih =>
    intro css hl h
    match css, hl with
    | c :: cr, hl =>
      simp only [RepL]
      obtain ⟨c0, e0, h0⟩ := h 0 (by simp)
      simp at e0; subst e0
      refine ⟨c, cr, rfl, h0, ih (by simpa using hl) fun i hi => ?_⟩
      obtain ⟨c', hc', h'⟩ := h (i + 1) (by simpa using hi)
      exact ⟨c', by simpa using hc', by simpa using h'⟩
theorem RepL.append : ∀ {a b : List (List Dt)} {ca cb : List (List Value)}, RepL S w a ca → RepL S w b cb → RepL S w (a ++ b) (ca ++ cb) := by
 intro a
 induction a with
 | nil => intro b ca cb h h2; simp only [RepL] at h; subst h; exact h2
 | cons t ts ih => intro b ca cb h h2; simp only [RepL] at h; obtain ⟨c, cr, rfl, h3, h4⟩ := h; simp only [List.cons_append, RepL]; exact ⟨_, _, rfl, h3, ih h4 h2⟩
theorem RepL.take : ∀ (k : Nat) {a : List (List Dt)} {ca : List (List Value)}, RepL S w a ca → RepL S w (a.take k) (ca.take k) := by
  intro k
  induction k with
  | zero => intro a ca _; simp only [List.take_zero, RepL]
  | succ k ih =>
    intro a ca h
    cases a with
    | nil => simp only [RepL] at h; subst h; simp only [List.take_nil, RepL]
    | cons t ts => simp only [RepL] at h; obtain ⟨c, cr, rfl, h3, h4⟩ := h; simp only [List.take_succ_cons, RepL]; exact ⟨_, _, rfl, h3, ih h4⟩
theorem RepL.drop : ∀ (k : Nat) {a : List (List Dt)} {ca : List (List Value)}, RepL S w a ca → RepL S w (a.drop k) (ca.drop k) := by
  intro k
  induction k with
  | zero => intro a ca h; exact h
  | succ k ih =>
    intro a ca h
    cases a with
    | nil => simp only [RepL] at h; subst h; simp only [List.drop_nil, RepL]
    | cons t ts => simp only [RepL] at h; obtain ⟨c, cr, rfl, h3, h4⟩ := h; simp only [List.drop_succ_cons]; exact ih h4
theorem SlD.move {sz : Nat} {v : Value} {css : List (List Value)} (hS : ∀ b, S b → b < w.heap.size → S' b ∧ w'.heap[b]? = w.heap[b]?) (h : SlD S w sz v css) : SlD S' w' sz v css := by
 obtain ⟨a, cap, hv, hl, hm, hc⟩ := h
 refine ⟨a, cap, hv, hl, hm, fun hne => ?_⟩
 obtain ⟨b, off, ha, hs, hbl, hcell⟩ := hc hne
 obtain ⟨h1, h2⟩ := hS b hs hbl
 refine ⟨b, off, ha, h1, ?_, fun i c hi => ⟨(hcell i c hi).1, fun j x hx => ?_⟩⟩
 ·rw [Array.getElem?_eq_getElem hbl] at h2
  exact (Array.getElem?_eq_some_iff.1 h2).1
 ·rw [World.cell?_of_block (w := w) (a := ⟨b, _, none⟩) h2]; exact (hcell i c hi).2 j x hx
theorem RepF.all {ds : List Dt} (hp : ∀ d ∈ ds, ∀ u, RepV S w d u → RepV S' w' d u) : ∀ {cs : List Value}, RepF S w ds cs → RepF S' w' ds cs := by
  induction ds with
  | nil => intro cs h; simp only [RepF] at h ⊢; exact h
  | cons t ts ih =>
    intro cs h
    simp only [RepF] at h ⊢
    obtain ⟨c, cr, rfl, h1, h2⟩ := h
    exact ⟨c, cr, rfl, hp t (by simp) c h1, ih (fun d hd => hp d (by simp [hd])) h2⟩
theorem RepL.all {fs : List (List Dt)} (hp : ∀ f ∈ fs, ∀ d ∈ f, ∀ u, RepV S w d u → RepV S' w' d u) : ∀ {css : List (List Value)}, RepL S w fs css → RepL S' w' fs css := by
  induction fs with
  | nil => intro cs h; simp only [RepL] at h ⊢; exact h
  | cons t ts ih =>
    intro cs h
    simp only [RepL] at h ⊢
    obtain ⟨c, cr, rfl, h1, h2⟩ := h
    exact ⟨c, cr, rfl, RepF.all (hp t (by simp)) h1, ih (fun f hf => hp f (by simp [hf])) h2⟩
theorem RepV.move (hS : ∀ b, S b → b < w.heap.size → S' b ∧ w'.heap[b]? = w.heap[b]?) : ∀ (d : Dt) (u : Value), RepV S w d u → RepV S' w' d u := by
 refine Dt.ind ?_ ?_ ?_
 ·intro x u h; simp only [RepV] at h ⊢; exact h
 ·intro x u h; simp only [RepV] at h ⊢; exact h
 ·intro sz l ih u h
  simp only [RepV] at h ⊢
  obtain ⟨css, h1, h2⟩ := h
  exact ⟨css, h1.move hS, h2.all ih⟩
theorem RepF.move {ds : List Dt} {cs : List Value} (hS : ∀ b, S b → b < w.heap.size → S' b ∧ w'.heap[b]? = w.heap[b]?) (h : RepF S w ds cs) : RepF S' w' ds cs := h.all fun d _ u => RepV.move hS d u
theorem RepL.move {fs : List (List Dt)} {css : List (List Value)} (hS : ∀ b, S b → b < w.heap.size → S' b ∧ w'.heap[b]? = w.heap[b]?) (h : RepL S w fs css) : RepL S' w' fs css := h.all fun _ _ d _ u => RepV.move hS d u
theorem RepF.later {ds : List Dt} {cs : List Value} (h : RepF S w ds cs) (hb : Below w.heap.size w w') : RepF S w' ds cs := h.move fun b hs hl => ⟨hs, hb.block b hl⟩
theorem RepV.later {d : Dt} {u : Value} (h : RepV S w d u) (hb : Below w.heap.size w w') : RepV S w' d u := RepV.move (fun b hs hl => ⟨hs, hb.block b hl⟩) d u h
theorem RepL.later {fs : List (List Dt)} {css : List (List Value)} (h : RepL S w fs css) (hb : Below w.heap.size w w') : RepL S w' fs css := h.move fun b hs hl => ⟨hs, hb.block b hl⟩
theorem RepF.sub {ds : List Dt} {cs : List Value} (h : RepF S w ds cs) (hs : ∀ b, S b → b < w.heap.size → S' b) : RepF S' w ds cs := h.move fun b h1 h2 => ⟨hs b h1 h2, rfl⟩
theorem RepV.sub {d : Dt} {u : Value} (h : RepV S w d u) (hs : ∀ b, S b → b < w.heap.size → S' b) : RepV S' w d u := RepV.move (fun b h1 h2 => ⟨hs b h1 h2, rfl⟩) d u h
theorem RepL.sub {fs : List (List Dt)} {css : List (List Value)} (h : RepL S w fs css) (hs : ∀ b, S b → b < w.heap.size → S' b) : RepL S' w fs css := h.move fun b h1 h2 => ⟨hs b h1 h2, rfl⟩
theorem RepV.one {d : Dt} {u : Value} (h : RepV S w d u) : u.oneCell' = true := by
 cases d with
 | v x => simp only [RepV] at h; obtain ⟨rfl, h⟩ := h; exact h
 | str s => simp only [RepV] at h; obtain ⟨rfl, _⟩ := h; rfl
 | s sz l => simp only [RepV] at h; obtain ⟨css, ⟨a, cap, rfl, _⟩, _⟩ := h; rfl
theorem RepF.one : ∀ {ds : List Dt} {cs : List Value}, RepF S w ds cs → ∀ u ∈ cs, u.oneCell' = true := by
  intro ds
  induction ds with
  | nil => intro cs h u hu; simp only [RepF] at h; subst h; cases hu
  | cons t ts ih =>
    intro cs h u hu
    simp only [RepF] at h
    obtain ⟨c, cr, rfl, h1, h2⟩ := h
    cases hu with
    | head => exact h1.one
    | tail _ hm => exact ih h2 u hm
theorem RepL.one {fs : List (List Dt)} {css : List (List Value)} (h : RepL S w fs css) : ∀ c ∈ css, ∀ u ∈ c, u.oneCell' = true := by
 intro c hc
 obtain ⟨i, hi, rfl⟩ := List.getElem_of_mem hc
 obtain ⟨c', h1, h2⟩ := h.get i (by rw [← h.length]; exact hi)
 rw [List.getElem?_eq_getElem hi] at h1
 obtain rfl := Option.some.inj h1
 exact h2.one
theorem RepL.lens {fs : List (List Dt)} {css : List (List Value)} {sz : Nat} (h : RepL S w fs css) (hz : ∀ f ∈ fs, f.length = sz) : ∀ c ∈ css, c.length = sz := by
 intro c hc
 obtain ⟨i, hi, rfl⟩ := List.getElem_of_mem hc
 obtain ⟨c', h1, h2⟩ := h.get i (by rw [← h.length]; exact hi)
 rw [List.getElem?_eq_getElem hi] at h1
 obtain rfl := Option.some.inj h1
 rw [h2.length]
 exact hz _ (List.getElem_mem _)
theorem SlD.own {base e sz : Nat} {v : Value} {n : Nat} {css : List (List Value)} (h : w.ownsRow base e sz v n css.flatten) (hn : css.length = n) (hcl : ∀ c ∈ css, c.length = sz) : SlD (fun b => v.ownBlock = some b) w sz v css := by
 have hN := SlN.own h hn hcl
 obtain ⟨a, cap, h1, h2, h3, h4⟩ := hN
 refine ⟨a, cap, h1, h2, h3, fun hne => ?_⟩
 obtain ⟨b, off, e1, e2⟩ := h4 hne
 have hv : v.ownBlock = some b := by rw [h1, e1]; rfl
 exact ⟨b, off, e1, hv, (h.lt b hv).2, e2⟩
class Enc (α : Type) where
 sz : Nat
 enc : α → List Dt
 len : ∀ a, (enc a).length = sz
def Rep {α : Type} [Enc α] (S : Nat → Prop) (w : World) (a : α) (cs : List Value) : Prop := RepF S w (Enc.enc a) cs
def RepS {α : Type} [Enc α] (S : Nat → Prop) (w : World) (v : Value) (l : List α) : Prop := RepV S w (.s (Enc.sz α) (l.map Enc.enc)) v
section
variable {α : Type} [Enc α] {v : Value} {l : List α} {a : α} {cs : List Value}
theorem Rep.later (h : Rep S w a cs) (hb : Below w.heap.size w w') : Rep S w' a cs := RepF.later h hb
theorem RepS.later (h : RepS S w v l) (hb : Below w.heap.size w w') : RepS S w' v l := RepV.later h hb
theorem Rep.sub (h : Rep S w a cs) (hs : ∀ b, S b → b < w.heap.size → S' b) : Rep S' w a cs := RepF.sub h hs
theorem RepS.sub (h : RepS S w v l) (hs : ∀ b, S b → b < w.heap.size → S' b) : RepS S' w v l := RepV.sub h hs
theorem Rep.move (hS : ∀ b, S b → b < w.heap.size → S' b ∧ w'.heap[b]? = w.heap[b]?) (h : Rep S w a cs) : Rep S' w' a cs := RepF.move hS h
theorem RepS.move (hS : ∀ b, S b → b < w.heap.size → S' b ∧ w'.heap[b]? = w.heap[b]?) (h : RepS S w v l) : RepS S' w' v l := RepV.move hS _ _ h
theorem Rep.length (h : Rep S w a cs) : cs.length = Enc.sz α := (RepF.length h).trans (Enc.len a)
theorem Rep.one (h : Rep S w a cs) : ∀ u ∈ cs, u.oneCell' = true := RepF.one h
theorem RepS.open (h : RepS S w v l) : ∃ css, SlD S w (Enc.sz α) v css ∧ RepL S w (l.map Enc.enc) css := by
 unfold RepS at h; simp only [RepV] at h; exact h
theorem RepS.mk {css : List (List Value)} (h : SlD S w (Enc.sz α) v css) (h2 : RepL S w (l.map Enc.enc) css) : RepS S w v l := by
 unfold RepS; simp only [RepV]; exact ⟨css, h, h2⟩
theorem RepS.nil : RepS S w (.slice none 0 0) ([] : List α) := RepS.mk (css := []) ⟨none, 0, rfl, Nat.le_refl _, Nat.zero_le _, fun h => absurd rfl h⟩ (by simp only [List.map_nil, RepL])
theorem RepS.shape (h : RepS S w v l) : ∃ a cap, v = .slice a l.length cap ∧ l.length ≤ cap ∧ cap ≤ maxLen := by
 obtain ⟨css, ⟨a, cap, h1, h2, h3, _⟩, h4⟩ := h.open
 have := h4.length
 simp at this
 exact ⟨a, cap, by rw [h1, this], by omega, h3⟩
theorem RepS.at {ad : Option Addr} {len cap : Nat} (h : RepS S w (.slice ad len cap) l) (k : Nat) (hk : k < l.length) : ∃ b off cs, ad = some ⟨b, off, none⟩ ∧ S b ∧ b < w.heap.size ∧ Rep S w l[k] cs ∧ ∀ j x, cs[j]? = some x → w.cell? ⟨b, off + k * Enc.sz α + j, none⟩ = some x := by
 obtain ⟨css, ⟨a0, c0, hv, _, _, hc⟩, h2⟩ := h.open
 simp only [Value.slice.injEq] at hv
 obtain ⟨rfl, _, rfl⟩ := hv
 obtain ⟨c, hck, hr⟩ := h2.get k (by simpa using hk)
 obtain ⟨b, off, rfl, hs, hbl, hcell⟩ := hc (by intro e; rw [e] at hck; simp at hck)
 simp only [List.getElem_map] at hr
 exact ⟨b, off, c, rfl, hs, hbl, hr, (hcell k c hck).2⟩
theorem RepS.take {ad : Option Addr} {len cap : Nat} (h : RepS S w (.slice ad len cap) l) (k : Nat) (hk : k ≤ l.length) : RepS S w (.slice ad k cap) (l.take k) := by
 obtain ⟨css, ⟨a0, c0, hv, hl, hm, hc⟩, h2⟩ := h.open
 simp only [Value.slice.injEq] at hv
 obtain ⟨rfl, _, rfl⟩ := hv
 have hlen := h2.length
 simp at hlen
 refine RepS.mk (css := css.take k) ⟨ad, cap, by rw [List.length_take]; congr 1; omega, by rw [List.length_take]; omega, hm, fun hne => ?_⟩ (by rw [List.map_take]; exact h2.take k)
 obtain ⟨b, off, ha, hs, hbl, hcell⟩ := hc (by intro e; rw [e] at hne; simp at hne)
 refine ⟨b, off, ha, hs, hbl, fun i c hi => hcell i c ?_⟩
 rw [List.getElem?_take] at hi
 split at hi
 ·exact hi
 ·cases hi
theorem RepS.lit {css : List (List Value)} {B : Nat} {T : TypeId} {fr : Nat × Nat} (hB : w.heap[B]? = some (.cells css.flatten.toArray T fr)) (hr : RepL S w (l.map Enc.enc) css) (hm : l.length ≤ maxLen) (hs : S B) : RepS S w (.slice (some ⟨B, 0, none⟩) l.length l.length) l := by
 have hlen := hr.length
 simp at hlen
 have hz := hr.lens (sz := Enc.sz α) (by intro f hf; obtain ⟨a, _, rfl⟩ := List.mem_map.1 hf; exact Enc.len a)
 refine RepS.mk (css := css) ⟨_, _, by rw [hlen], by omega, hm, fun hne => ⟨B, 0, rfl, hs, (Array.getElem?_eq_some_iff.1 hB).1, fun i c hi => ⟨hz c (List.mem_of_getElem? hi), fun j x hx => ?_⟩⟩⟩ hr
 have := Qem hz i j c x hi hx
 simp only [World.cell?, hB]
 simpa using this
end
variable {S S' : Nat → Prop} {w w' : World}
def Own {α : Type} [Enc α] (S : Nat → Prop) (T : TypeId) (lo : Nat) (v : Value) (l : List α) (w : World) : Prop :=
 ∃ css, w.ownsRow lo T (Enc.sz α) v l.length css.flatten ∧ RepL (fun b => S b ∧ v.ownBlock ≠ some b) w (l.map Enc.enc) css
section
variable {α : Type} [Enc α] {T : TypeId} {lo : Nat} {v : Value} {l : List α}
theorem Own.nil : Own S T lo (.slice none 0 0) ([] : List α) w := ⟨[], World.ownsRow_nil _ _ _ _, by simp only [List.map_nil, RepL]⟩
theorem own_move {base e size : Nat} {n : Nat} {xs : List Value} (h : w.ownsRow base e size v n xs) (hF : ∀ b, base ≤ b → b < w.heap.size → v.ownBlock = some b → w'.heap[b]? = w.heap[b]?) : w'.ownsRow base e size v n xs := by
 have hl := h.lt
 refine ⟨h.1, ?_⟩
 rcases h.2 with h1 | ⟨g, cap, cur, h1, h2, h3, h4⟩
 ·exact .inl h1
 ·have hv : v.ownBlock = some g := by rw [h1]; rfl
  have := hl g hv
  exact .inr ⟨g, cap, cur, h1, h2, (hF g h2 this.2 hv).trans h3, h4⟩
theorem Own.later (h : Own S T lo v l w) (hb : Below w.heap.size w w') : Own S T lo v l w' := by
 obtain ⟨css, h1, h2⟩ := h
 exact ⟨css, own_move h1 fun b _ hl _ => hb.block b hl, h2.later hb⟩
theorem Own.move (h : Own S T lo v l w) (hF : ∀ b, S b ∨ lo ≤ b → b < w.heap.size → w'.heap[b]? = w.heap[b]?) : Own S T lo v l w' := by
 obtain ⟨css, h1, h2⟩ := h
 exact ⟨css, own_move h1 fun b hb hl _ => hF b (.inr hb) hl, h2.move fun b hb hl => ⟨hb, hF b (.inl hb.1) hl⟩⟩
theorem Own.sub (h : Own S T lo v l w) (hs : ∀ b, S b → b < w.heap.size → S' b) : Own S' T lo v l w := by
 obtain ⟨css, h1, h2⟩ := h
 exact ⟨css, h1, h2.sub fun b h hl => ⟨hs b h.1 hl, h.2⟩⟩
theorem Own.base {lo' : Nat} (h : Own S T lo v l w) (hl : lo' ≤ lo) : Own S T lo' v l w := by
 obtain ⟨css, h1, h2⟩ := h
 refine ⟨css, ⟨h1.1, ?_⟩, h2⟩
 rcases h1.2 with h3 | ⟨g, cap, cur, a, b, c⟩
 ·exact .inl h3
 ·exact .inr ⟨g, cap, cur, a, Nat.le_trans hl b, c⟩
theorem Own.lt (h : Own S T lo v l w) : ∀ k, v.ownBlock = some k → lo ≤ k ∧ k < w.heap.size := by
 obtain ⟨css, h1, h2⟩ := h; exact h1.lt
theorem Own.shape (h : Own S T lo v l w) : ∃ a cap, v = .slice a l.length cap := by
 obtain ⟨css, h1, h2⟩ := h
 rcases h1.2 with ⟨h3, h4⟩ | ⟨g, cap, cur, h1, _⟩
 ·exact ⟨none, 0, by rw [h3, h4]⟩
 ·exact ⟨_, _, h1⟩
theorem RepS.form {u : Value} (h : RepS S w u l) : ∃ a n c, u = .slice a n c := by
 obtain ⟨a, c, h, _⟩ := h.shape
 exact ⟨a, _, c, h⟩
theorem Own.some (h : Own S T lo v l w) (hn : l ≠ []) : ∃ g cap, v = .slice (some ⟨g, 0, none⟩) l.length cap ∧ lo ≤ g := by
 obtain ⟨css, h1, h2⟩ := h
 rcases h1.2 with ⟨h3, h4⟩ | ⟨g, cap, cur, h1, h5, _⟩
 ·exact absurd (List.eq_nil_of_length_eq_zero h4) hn
 ·exact ⟨_, _, h1, h5⟩
theorem Own.len (h : Own S T lo v l w) : l.length ≤ maxLen := by
 obtain ⟨css, h1, h2⟩ := h
 rcases h1.2 with ⟨h3, h4⟩ | ⟨g, cap, cur, h1, h5, _, h6, h7, _⟩
 ·omega
 ·omega
theorem Own.done (h : Own S T lo v l w) : RepS (fun b => S b ∨ lo ≤ b) w v l := by
 obtain ⟨css, h1, h2⟩ := h
 have hn := h2.length
 simp at hn
 have hsl := SlD.own h1 hn (h2.lens (by intro f hf; obtain ⟨a, _, rfl⟩ := List.mem_map.1 hf; exact Enc.len a))
 exact RepS.mk (hsl.move fun b hb _ => ⟨.inr (h1.lt b hb).1, rfl⟩) (h2.sub fun b hb _ => .inl hb.1)
theorem Rep.grown {a : α} {cs : List Value} (h : Rep S w a cs) (hg : w.grownBy w' v.ownBlock) (hs : ∀ b, S b → v.ownBlock ≠ some b) : Rep S w' a cs :=
 Rep.move (fun b hb hl => ⟨hb, hg.block b hl (fun e => hs b hb e.symm)⟩) h
theorem RepS.grown {u : Value} (h : RepS S w u l) (hg : w.grownBy w' v.ownBlock) (hs : ∀ b, S b → v.ownBlock ≠ some b) : RepS S w' u l :=
 RepS.move (fun b hb hl => ⟨hb, hg.block b hl (fun e => hs b hb e.symm)⟩) h
theorem RepS.one {a : α} {cs : List Value} {T : TypeId} (h : Rep S w a cs) : RepS (fun b => S b ∨ b = w.heap.size) (w.alloc (.cells cs.toArray T)) (.slice (some ⟨w.heap.size, 0, none⟩) 1 1) [a] := by
 refine RepS.lit (css := [cs]) (T := T) (fr := (0, 0)) ?_ ?_ (by simp [maxLen]) (.inr rfl)
 ·simpa using heap_alloc_new w _
 ·simp only [List.map_cons, List.map_nil, RepL]
  exact ⟨_, _, rfl, (RepF.later h ((Below.refl _ _).alloc (Nat.le_refl _) _)).sub fun b hb _ => .inl hb, rfl⟩
theorem RepS.two {a b : α} {cs ds : List Value} {T : TypeId} (h : Rep S w a cs) (h2 : Rep S w b ds) : RepS (fun b => S b ∨ b = w.heap.size) (w.alloc (.cells (cs ++ ds).toArray T)) (.slice (some ⟨w.heap.size, 0, none⟩) 2 2) [a, b] := by
 refine RepS.lit (css := [cs, ds]) (T := T) (fr := (0, 0)) ?_ ?_ (by simp [maxLen]) (.inr rfl)
 ·simpa using heap_alloc_new w _
 ·simp only [List.map_cons, List.map_nil, RepL]
  exact ⟨_, _, rfl, (RepF.later h ((Below.refl _ _).alloc (Nat.le_refl _) _)).sub fun b hb _ => .inl hb, _, _, rfl, (RepF.later h2 ((Below.refl _ _).alloc (Nat.le_refl _) _)).sub fun b hb _ => .inl hb, rfl⟩
end
instance : Enc ByteArray := ⟨1, fun s => [.str s], fun _ => rfl⟩
instance : Enc Int := ⟨1, fun n => [.v (.int .i64 n)], fun _ => rfl⟩
instance : Enc Bool := ⟨1, fun n => [.v (.bool n)], fun _ => rfl⟩
theorem rep_str {s : ByteArray} {cs : List Value} : Rep S w s cs ↔ cs = [.string s] ∧ s.size ≤ maxLen := by
 unfold Rep
 simp only [Enc.enc, RepF, RepV]
 constructor
 ·rintro ⟨c, cr, rfl, ⟨rfl, h⟩, rfl⟩; exact ⟨rfl, h⟩
 ·rintro ⟨rfl, h⟩; exact ⟨_, _, rfl, ⟨rfl, h⟩, rfl⟩
theorem rep_int {n : Int} {cs : List Value} : Rep S w n cs ↔ cs = [.int .i64 n] := by
 unfold Rep
 simp only [Enc.enc, RepF, RepV]
 constructor
 ·rintro ⟨c, cr, rfl, ⟨rfl, h⟩, rfl⟩; rfl
 ·rintro rfl; exact ⟨_, _, rfl, ⟨rfl, rfl⟩, rfl⟩
variable {S S' : Nat → Prop} {w w' : World}
mutual
def ndD : Nd → List Dt
 | .mk k a s n sub => [.v (.int .i64 k), .v (.int .i64 a), .str s, .v (.int .i64 n), .s 5 (ndDs sub)]
def ndDs : List Nd → List (List Dt)
 | [] => []
 | t :: ts => ndD t :: ndDs ts
end
theorem ndDs_map (l : List Nd) : ndDs l = l.map ndD := by
 induction l with
 | nil => rfl
 | cons t ts ih => simp only [ndDs, List.map_cons, ih]
instance : Enc Nd := ⟨5, ndD, fun a => by cases a; simp only [ndD]; rfl⟩
def Box5 (T : TypeId) (w : World) (B : Nat) (x y z u v : Value) : Prop := w.heap[B]? = some (.cells #[x, y, z, u, v] T)
theorem Box5.new (T : TypeId) (w : World) (x y z u v : Value) : Box5 T (w.alloc (.cells #[x, y, z, u, v] T)) w.heap.size x y z u v := heap_alloc_new w _
theorem Box5.later {T : TypeId} {w w' : World} {B n : Nat} {x y z u v : Value} (h : Box5 T w B x y z u v) (hb : Below n w w') (hB : B < n) : Box5 T w' B x y z u v := (hb.block _ hB).trans h
theorem Box5.lt {T : TypeId} {w : World} {B : Nat} {x y z u v : Value} (h : Box5 T w B x y z u v) : B < w.heap.size := by
 unfold Box5 at h
 obtain ⟨h1, _⟩ := Array.getElem?_eq_some_iff.1 h; exact h1
theorem Box5.cells {T : TypeId} {w : World} {B : Nat} {x y z u v : Value} (h : Box5 T w B x y z u v) : w.cell? ⟨B, 0, none⟩ = some x ∧ w.cell? ⟨B, 1, none⟩ = some y ∧ w.cell? ⟨B, 2, none⟩ = some z ∧ w.cell? ⟨B, 3, none⟩ = some u ∧ w.cell? ⟨B, 4, none⟩ = some v := by
 unfold Box5 at h
 refine ⟨?_, ?_, ?_, ?_, ?_⟩ <;> · rw [cell_of_row w B _ _ _ _ h]; rfl
theorem Box5.free {T : TypeId} {w : World} {B : Nat} {x y z u v : Value} (h : Box5 T w B x y z u v) (i : Nat) : w.frozen? ⟨B, i, none⟩ = false := by
 unfold Box5 at h
 unfold World.frozen?; rw [h]; simp
theorem set_block {w : World} {B : Nat} {c : Array Value} {e : TypeId} {fr : Nat × Nat} (h : w.heap[B]? = some (.cells c e fr)) (i : Nat) (u : Value) : (w.setCell ⟨B, i, none⟩ u).heap[B]? = some (.cells (c.setIfInBounds i u) e fr) := by
 unfold World.setCell
 simp [Array.getElem?_modify, h]
def set5 (w : World) (B : Nat) (x y z u v : Value) : World := ((((w.setCell ⟨B, 0, none⟩ x).setCell ⟨B, 1, none⟩ y).setCell ⟨B, 2, none⟩ z).setCell ⟨B, 3, none⟩ u).setCell ⟨B, 4, none⟩ v
theorem Box5.set {T : TypeId} {w : World} {B : Nat} {x y z u v : Value} (h : Box5 T w B x y z u v) (x' y' z' u' v' : Value) : Box5 T (set5 w B x' y' z' u' v') B x' y' z' u' v' :=
 set_block (set_block (set_block (set_block (set_block h 0 x') 1 y') 2 z') 3 u') 4 v'
theorem boxes1 (w : World) (c1 : Array Value) (T1 : TypeId) : (w.alloc (.cells c1 T1)).heap[w.heap.size]? = some (.cells c1 T1) ∧ Below w.heap.size w (w.alloc (.cells c1 T1)) ∧ w.heap.size + 1 ≤ (w.alloc (.cells c1 T1)).heap.size :=
 ⟨heap_alloc_new w _, (Below.refl _ _).alloc (Nat.le_refl _) _, by simp⟩
theorem Qdq {w : World} {B : Nat} {c : Array Value} {e : TypeId} {fr : Nat × Nat} (h : w.heap[B]? = some (.cells c e fr)) (i : Nat) : w.cell? ⟨B, i, none⟩ = c[i]? := by simp [World.cell?, h]
variable {S S' : Nat → Prop} {w w' : World}
structure Bd where
 name : ByteArray
 at_ : Int
 ty : Nd
structure Rw where
 at_ : Int
 pats : List Nd
 has : Bool
 body : Nd
structure Dc where
 kind : Int
 at_ : Int
 name : ByteArray
 tele : List Bd
 ty : Nd
 cons : List Bd
 rows : List Rw
theorem ndD_len (t : Nd) : (ndD t).length = 5 := by cases t; simp only [ndD]; rfl
instance : Enc Bd := ⟨7, fun b => [.str b.name, .v (.int .i64 b.at_)] ++ ndD b.ty, fun b => by simp [ndD_len]⟩
instance : Enc Rw := ⟨8, fun r => [.v (.int .i64 r.at_), .s 5 (r.pats.map ndD), .v (.bool r.has)] ++ ndD r.body, fun r => by simp [ndD_len]⟩
instance : Enc Dc := ⟨11, fun d => [.v (.int .i64 d.kind), .v (.int .i64 d.at_), .str d.name, .s 7 (d.tele.map Enc.enc)] ++ (ndD d.ty ++ [.s 7 (d.cons.map Enc.enc), .s 8 (d.rows.map Enc.enc)]), fun d => by simp [ndD_len]⟩
theorem repF_app {a b : List Dt} {cs : List Value} : RepF S w (a ++ b) cs ↔ ∃ ca cb, cs = ca ++ cb ∧ RepF S w a ca ∧ RepF S w b cb := by
  induction a generalizing cs with
  | nil =>
    simp only [List.nil_append, RepF]
    constructor
    · intro h; exact ⟨[], cs, rfl, rfl, h⟩
    · rintro ⟨ca, cb, rfl, rfl, h⟩; exact h
  | cons d ds ih =>
    simp only [List.cons_append, RepF]
    constructor
    · rintro ⟨c, cr, rfl, h1, h2⟩
      obtain ⟨ca, cb, rfl, h3, h4⟩ := ih.1 h2
      exact ⟨c :: ca, cb, rfl, ⟨c, ca, rfl, h1, h3⟩, h4⟩
    · rintro ⟨ca, cb, rfl, ⟨c, cr, rfl, h1, h2⟩, h3⟩
      exact ⟨c, cr ++ cb, rfl, h1, ih.2 ⟨cr, cb, rfl, h2, h3⟩⟩
theorem Qgl {α : Type} {n : Nat} {Q : Nat → α → Prop} (h : ∀ i, i < n → ∃ x, Q i x) : ∃ xs : List α, xs.length = n ∧ ∀ (i : Nat) (hi : i < xs.length), Q i xs[i] := by
  induction n with
  | zero => exact ⟨[], rfl, fun i hi => by simp at hi⟩
  | succ n ih =>
    obtain ⟨xs, hl, hx⟩ := ih fun i hi => h i (by omega)
    obtain ⟨x, hx'⟩ := h n (by omega)
    refine ⟨xs ++ [x], by simp [hl], fun i hi => ?_⟩
    simp at hi
    by_cases hin : i < n
    · rw [List.getElem_append_left (by omega)]; exact hx i (by omega)
    · have : i = n := by omega
      subst this
      rw [List.getElem_append_right (by omega)]; simpa [hl] using hx'
theorem Qcy {S : Nat → Prop} {w : World} {ds es : List Dt} {cs : List Value} {o n m : Nat} (hm : o + n = m) (h1 : RepF S w ds ((cs.drop o).take n)) (h2 : RepF S w es (cs.drop m)) : RepF S w (ds ++ es) (cs.drop o) := by
  subst hm
  rw [← List.take_append_drop n (cs.drop o), List.drop_drop]
  generalize (cs.drop o).take n = a at h1
  generalize cs.drop (o + n) = b at h2
  clear cs
  induction ds generalizing a with
  | nil => simp only [RepF] at h1; subst h1; simpa using h2
  | cons d ds ih =>
    simp only [RepF] at h1
    obtain ⟨c, cr, rfl, h3, h4⟩ := h1
    simp only [List.cons_append, RepF]
    exact ⟨_, _, rfl, h3, ih _ h4⟩
section
variable {H : Type} {enc : TypeId × Value → H} {w : World} {base : Nat} {spare : Nat → Bool} {held : Bool}
def OpnAt (α : Type) [Enc α] (enc : TypeId × Value → H) (w : World) (base : Nat) (spare : Nat → Bool) (held : Bool) (T : TypeId) (n : Nat) : Prop :=
 ∀ (cs : List Value) (x : DataW H × List MemPlace), DataW.trod enc Try.prog w base spare held n T cs = some x → ∃ a : α, Rep (fun _ => True) w a cs
theorem Qcx {T : TypeId} (ht : Try.prog.underlying T = some (.int .i64)) (n : Nat) : OpnAt Int enc w base spare held T n := fun cs x h => by
 obtain ⟨k, hk, _, _⟩ := DataW.trod_int ht h
 exact ⟨k, rep_int.2 hk⟩
theorem opn_str {T : TypeId} (ht : Try.prog.underlying T = some .string) (n : Nat) : OpnAt ByteArray enc w base spare held T n := fun cs x h => by
 obtain ⟨k, hk, _, hs⟩ := DataW.trod_string ht h
 exact ⟨k, rep_str.2 ⟨hk, hs⟩⟩
theorem opn_slice {α : Type} [Enc α] {T e : TypeId} {n : Nat} (ht : Try.prog.underlying T = some (.slice e)) (hc : Try.prog.cellsOf e = Enc.sz α) (hpos : 0 < Enc.sz α)
  (ih : ∀ m, m < n → OpnAt α enc w base spare held e m) {cs : List Value} {x : DataW H × List MemPlace} (h : DataW.trod enc Try.prog w base spare held n T cs = some x) : ∃ (v : Value) (l : List α), cs = [v] ∧ RepS (fun _ => True) w v l := by
 rcases DataW.trod_slice ht h with ⟨rfl, _⟩ | ⟨a, len, cap, elems, rest, m, rfl, rfl, _, _, hl, hm, hlen, hel, _, _⟩
 ·exact ⟨_, [], rfl, RepS.nil⟩
 ·rw [hc] at hel
  have each : ∀ i, i < len → ∃ p : List Value × α, w.cells? base (a.add (i * Enc.sz α)) (Enc.sz α) = some p.1 ∧ Rep (fun _ => True) w p.2 p.1 := by
   intro i hi
   have h1 := hel i hi
   rw [List.getElem?_eq_getElem (by omega)] at h1
   obtain ⟨cs', h2, h3⟩ := Option.bind_eq_some_iff.1 h1
   obtain ⟨t, ht⟩ := ih m (by omega) cs' _ h3
   exact ⟨(cs', t), h2, ht⟩
  obtain ⟨ps, hpl, hp⟩ := Qgl (Q := fun i (p : List Value × α) => w.cells? base (a.add (i * Enc.sz α)) (Enc.sz α) = some p.1 ∧ Rep (fun _ => True) w p.2 p.1) each
  refine ⟨_, ps.map (·.2), rfl, RepS.mk (css := ps.map (·.1)) ?_ ?_⟩
  ·refine ⟨some a, cap, by simp [hpl], by simpa [hpl] using hl, hm, fun hne => ?_⟩
   have hl0 : 0 < ps.length := by
    cases ps with
    | nil => exact absurd rfl hne
    | cons _ _ => simp
   obtain ⟨_, hcl0, hcell0⟩ := World.cells?_some (hp 0 hl0).1
   have h0 := hcell0 0 hpos
   simp only [Nat.zero_mul, Addr.add, if_true] at h0
   rw [List.getElem?_eq_getElem (by omega)] at h0
   have hs : a.spot = none := Qgk h0
   refine ⟨a.block, a.off, by cases a; simp_all, trivial, World.block_lt_of_cell? w _ h0, fun i c hic => ?_⟩
   simp only [List.getElem?_map, Option.map_eq_some_iff] at hic
   obtain ⟨p, hpi, rfl⟩ := hic
   obtain ⟨hi, hpe⟩ := List.getElem?_eq_some_iff.1 hpi
   have hpp := (hp i hi).1
   rw [hpe] at hpp
   obtain ⟨_, hcl, hcell⟩ := World.cells?_some hpp
   refine ⟨hcl, fun j u hu => ?_⟩
   have hj : j < Enc.sz α := by
    have := (List.getElem?_eq_some_iff.1 hu).1; omega
   have := hcell j hj
   rw [hu, Qdp (x := a) hs, Qdp rfl] at this
   simpa [Nat.add_assoc] using this
  ·refine RepL.mk (by simp) fun i hi => ?_
   have hi' : i < ps.length := by simpa using hi
   exact ⟨ps[i].1, by simp [hi'], by have h := (hp i hi').2; unfold Rep at h; simpa using h⟩
theorem repF_slice {α : Type} [Enc α] {S : Nat → Prop} {v : Value} {l : List α} (h : RepS S w v l) : RepF S w [.s (Enc.sz α) (l.map Enc.enc)] [v] := by
 simp only [RepF]; exact ⟨_, _, rfl, h, rfl⟩
end
end Go.Proofs.Ytpaifjlikgnlfaa
