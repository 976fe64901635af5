import Derived.Test.YtackepdhcigdlaaK2
namespace Go.Proofs.Ytackepdhcigdlaa
open Go.RowKit
/-- a term of the core -/
inductive Tm where
  | mk (kind n : Int) (sub : List Tm)
mutual
/-- three cells hold a term -/
def TmC (w : World) : Tm → List Value → Prop
  | .mk k n sub, cs => ∃ s css, cs = [.int .i64 k, .int .i64 n, s] ∧ SlN w 3 s css ∧ TmCs w sub css
def TmCs (w : World) : List Tm → List (List Value) → Prop
  | [], css => css = []
  | t :: ts, css => ∃ c cr, css = c :: cr ∧ TmC w t c ∧ TmCs w ts cr
end
theorem Tm.ind {P : Tm → Prop} (h : ∀ k n sub, (∀ s ∈ sub, P s) → P (.mk k n sub)) : ∀ t, P t := by
  intro t
  exact Tm.rec (motive_1 := P) (motive_2 := fun l => ∀ s ∈ l, P s) (fun k n sub ih => h k n sub ih) (fun s hs => by cases hs) (fun t ts h1 h2 s hs => by
    cases hs with
    | head => exact h1
    | tail _ hm => exact h2 s hm) t
theorem TmCs.length {w : World} : ∀ {ts : List Tm} {css : List (List Value)}, TmCs w ts css → css.length = ts.length := by
  intro ts
  induction ts with
  | nil => intro css h; simp only [TmCs] at h; subst h; rfl
  | cons t ts ih => intro css h; simp only [TmCs] at h; obtain ⟨c, cr, rfl, _, h2⟩ := h; simp [ih h2]
theorem TmCs.get {w : World} : ∀ {ts : List Tm} {css : List (List Value)}, TmCs w ts css → ∀ (i : Nat) (h : i < ts.length), ∃ c, css[i]? = some c ∧ TmC w ts[i] c := by
  intro ts
  induction ts with
  | nil => intro css _ i h; simp at h
  | cons t ts ih =>
    intro css h i hi
    simp only [TmCs] at h
    obtain ⟨c, cr, rfl, h1, h2⟩ := h
    cases i with
    | zero => exact ⟨c, rfl, h1⟩
    | succ i =>
      obtain ⟨c', hc', h'⟩ := ih h2 i (by simpa using hi)
      exact ⟨c', by simpa using hc', by simpa using h'⟩
theorem TmCs.mk {w : World} : ∀ {ts : List Tm} {css : List (List Value)}, css.length = ts.length → (∀ (i : Nat) (h : i < ts.length), ∃ c, css[i]? = some c ∧ TmC w ts[i] c) → TmCs w ts css := by
  intro ts
  induction ts with
  | nil => intro css hl _; simp only [TmCs]; exact List.eq_nil_of_length_eq_zero hl
  | cons t ts ih =>
    intro css hl h
    match css, hl with
    | c :: cr, hl =>
      simp only [TmCs]
      obtain ⟨c0, e0, h0⟩ := h 0 (by simp)
      simp at e0; subst e0
      refine ⟨c, cr, rfl, h0, ih (by simpa using hl) fun i hi => ?_⟩
      obtain ⟨c', hc', h'⟩ := h (i + 1) (by simpa using hi)
      exact ⟨c', by simpa using hc', by simpa using h'⟩
theorem TmC.later {w w' : World} (hb : Below w.heap.size w w') : ∀ (t : Tm) (cs : List Value), TmC w t cs → TmC w' t cs := by
  refine Tm.ind ?_
  intro k n sub ih cs h
  simp only [TmC] at h ⊢
  obtain ⟨s, css, rfl, h1, h2⟩ := h
  refine ⟨s, css, rfl, h1.later hb, TmCs.mk h2.length fun i hi => ?_⟩
  obtain ⟨c, hc, h3⟩ := h2.get i hi
  exact ⟨c, hc, ih _ (List.getElem_mem hi) c h3⟩
theorem TmCs.later {w w' : World} (hb : Below w.heap.size w w') {ts : List Tm} {css : List (List Value)} (h : TmCs w ts css) : TmCs w' ts css :=
  TmCs.mk h.length fun i hi => by
    obtain ⟨c, hc, h3⟩ := h.get i hi
    exact ⟨c, hc, h3.later hb⟩
/-- a slice of terms -/
def TmS (w : World) (v : Value) (ts : List Tm) : Prop := ∃ css, SlN w 3 v css ∧ TmCs w ts css
theorem TmS.later {w w' : World} {v : Value} {ts : List Tm} (h : TmS w v ts) (hb : Below w.heap.size w w') : TmS w' v ts := by
  obtain ⟨css, h1, h2⟩ := h
  exact ⟨css, h1.later hb, h2.later hb⟩
theorem TmC.iff {w : World} {k n : Int} {sub : List Tm} {cs : List Value} : TmC w (.mk k n sub) cs ↔ ∃ s, cs = [.int .i64 k, .int .i64 n, s] ∧ TmS w s sub := by
  simp only [TmC]
  constructor
  · rintro ⟨s, css, rfl, h1, h2⟩; exact ⟨s, rfl, css, h1, h2⟩
  · rintro ⟨s, rfl, css, h1, h2⟩; exact ⟨s, css, rfl, h1, h2⟩
/-- the fields -/
def Tm.kind : Tm → Int | .mk k _ _ => k
def Tm.num : Tm → Int | .mk _ n _ => n
def Tm.sub : Tm → List Tm | .mk _ _ s => s
theorem TmC.open {w : World} {t : Tm} {cs : List Value} (h : TmC w t cs) : ∃ s, cs = [.int .i64 t.kind, .int .i64 t.num, s] ∧ TmS w s t.sub := by
  cases t; exact TmC.iff.1 h
theorem TmC.shut {w : World} {t : Tm} {s : Value} (h : TmS w s t.sub) : TmC w t [.int .i64 t.kind, .int .i64 t.num, s] := by
  cases t; exact TmC.iff.2 ⟨s, rfl, h⟩
/-- a slice of terms as a value: its shape, and its elements' cells -/
theorem TmS.open {w : World} {v : Value} {ts : List Tm} (h : TmS w v ts) : ∃ a cap, v = .slice a ts.length cap ∧ ts.length ≤ cap ∧ cap ≤ maxLen ∧
    (ts ≠ [] → ∃ b off, a = some ⟨b, off, none⟩ ∧ ∀ (i : Nat) (hi : i < ts.length), ∃ s, w.cell? ⟨b, off + i * 3, none⟩ = some (.int .i64 ts[i].kind) ∧ w.cell? ⟨b, off + i * 3 + 1, none⟩ = some (.int .i64 ts[i].num) ∧ w.cell? ⟨b, off + i * 3 + 2, none⟩ = some s ∧ TmS w s ts[i].sub) := by
  obtain ⟨css, ⟨a, cap, hv, hl, hm, hc⟩, h2⟩ := h
  have hlen := h2.length
  rw [hlen] at hv hl
  refine ⟨a, cap, hv, hl, hm, fun hne => ?_⟩
  obtain ⟨b, off, ha, hcell⟩ := hc (by intro e; rw [e] at hlen; simp at hlen; exact hne (List.eq_nil_of_length_eq_zero hlen.symm))
  refine ⟨b, off, ha, fun i hi => ?_⟩
  obtain ⟨c, hci, htm⟩ := h2.get i hi
  obtain ⟨s, hs, hsub⟩ := htm.open
  have hx := (hcell i c hci).2
  subst hs
  exact ⟨s, by simpa using hx 0 _ rfl, hx 1 _ rfl, hx 2 _ rfl, hsub⟩
end Go.Proofs.Ytackepdhcigdlaa
