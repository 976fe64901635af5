import Derived.Test.YtpaifjlikgnlfaaBK
set_option linter.unusedSimpArgs false
set_option linter.unusedVariables false
set_option maxHeartbeats 16000000
set_option maxRecDepth 100000
namespace Go.Proofs.Ytpaifjlikgnlfaa
open Go.RowKit
inductive Nd where
 | mk (kind at_ : Int) (name : ByteArray) (n : Int) (sub : List Nd)
mutual
def NdC (w : World) : Nd → List Value → Prop
 | .mk k a s n sub, cs => ∃ v css, cs = [.int .i64 k, .int .i64 a, .string s, .int .i64 n, v] ∧ s.size ≤ maxLen ∧ SlN w 5 v css ∧ NdCs w sub css
def NdCs (w : World) : List Nd → List (List Value) → Prop
 | [], css => css = []
 | t :: ts, css => ∃ c cr, css = c :: cr ∧ NdC w t c ∧ NdCs w ts cr
end
theorem Nd.ind {P : Nd → Prop} (h : ∀ k a s n sub, (∀ s ∈ sub, P s) → P (.mk k a s n sub)) : ∀ t, P t := by
 intro t
 exact Nd.rec (motive_1 := P) (motive_2 := fun l => ∀ s ∈ l, P s) (fun k a s n sub ih => h k a s n sub ih) (fun s hs => by cases hs) (fun t ts h1 h2 s hs => by
  cases hs with
  | head => exact h1
  | tail _ hm => exact h2 s hm) t
theorem NdCs.length {w : World} : ∀ {ts : List Nd} {css : List (List Value)}, NdCs w ts css → css.length = ts.length := by
 intro ts
 induction ts with
 | nil => intro css h; simp only [NdCs] at h; subst h; rfl
 | cons t ts ih => intro css h; simp only [NdCs] at h; obtain ⟨c, cr, rfl, _, h2⟩ := h; simp [ih h2]
theorem NdCs.get {w : World} : ∀ {ts : List Nd} {css : List (List Value)}, NdCs w ts css → ∀ (i : Nat) (h : i < ts.length), ∃ c, css[i]? = some c ∧ NdC w ts[i] c := by
  intro ts
  induction ts with
  | nil => intro css _ i h; simp at h
  | cons t ts ih =>
    intro css h i hi
    simp only [NdCs] at h
    obtain ⟨c, cr, rfl, h1, h2⟩ := h
    cases i with
    | zero => exact ⟨c, rfl, h1⟩
    | succ i =>
      obtain ⟨c', hc', h'⟩ := ih h2 i (by simpa using hi)
      exact ⟨c', by simpa using hc', by simpa using h'⟩
theorem NdCs.mk {w : World} : ∀ {ts : List Nd} {css : List (List Value)}, css.length = ts.length → (∀ (i : Nat) (h : i < ts.length), ∃ c, css[i]? = some c ∧ NdC w ts[i] c) → NdCs w ts css := by
  intro ts
  induction ts with
  | nil => intro css hl _; simp only [NdCs]; exact List.eq_nil_of_length_eq_zero hl
  | cons t ts ih =>
    intro css hl h
    match css, hl with
    | c :: cr, hl =>
      simp only [NdCs]
      obtain ⟨c0, e0, h0⟩ := h 0 (by simp)
      simp at e0; subst e0
      refine ⟨c, cr, rfl, h0, ih (by simpa using hl) fun i hi => ?_⟩
      obtain ⟨c', hc', h'⟩ := h (i + 1) (by simpa using hi)
      exact ⟨c', by simpa using hc', by simpa using h'⟩
theorem NdC.later {w w' : World} (hb : Below w.heap.size w w') : ∀ (t : Nd) (cs : List Value), NdC w t cs → NdC w' t cs := by
 refine Nd.ind ?_
 intro k a sn n sub ih cs h
 simp only [NdC] at h ⊢
 obtain ⟨s, css, rfl, h0, h1, h2⟩ := h
 refine ⟨s, css, rfl, h0, h1.later hb, NdCs.mk h2.length fun i hi => ?_⟩
 obtain ⟨c, hc, h3⟩ := h2.get i hi
 exact ⟨c, hc, ih _ (List.getElem_mem hi) c h3⟩
theorem NdCs.later {w w' : World} (hb : Below w.heap.size w w') {ts : List Nd} {css : List (List Value)} (h : NdCs w ts css) : NdCs w' ts css :=
 NdCs.mk h.length fun i hi => by
  obtain ⟨c, hc, h3⟩ := h.get i hi
  exact ⟨c, hc, h3.later hb⟩
def NdS (w : World) (v : Value) (ts : List Nd) : Prop := ∃ css, SlN w 5 v css ∧ NdCs w ts css
theorem NdS.later {w w' : World} {v : Value} {ts : List Nd} (h : NdS w v ts) (hb : Below w.heap.size w w') : NdS w' v ts := by
 obtain ⟨css, h1, h2⟩ := h
 exact ⟨css, h1.later hb, h2.later hb⟩
theorem NdC.iff {w : World} {k a : Int} {sn : ByteArray} {n : Int} {sub : List Nd} {cs : List Value} : NdC w (.mk k a sn n sub) cs ↔ ∃ s, cs = [.int .i64 k, .int .i64 a, .string sn, .int .i64 n, s] ∧ sn.size ≤ maxLen ∧ NdS w s sub := by
 simp only [NdC]
 constructor
 ·rintro ⟨s, css, rfl, h0, h1, h2⟩; exact ⟨s, rfl, h0, css, h1, h2⟩
 ·rintro ⟨s, rfl, h0, css, h1, h2⟩; exact ⟨s, css, rfl, h0, h1, h2⟩
def Nd.kind : Nd → Int | .mk k _ _ _ _ => k
def Nd.at : Nd → Int | .mk _ a _ _ _ => a
def Nd.name : Nd → ByteArray | .mk _ _ s _ _ => s
def Nd.num : Nd → Int | .mk _ _ _ n _ => n
def Nd.sub : Nd → List Nd | .mk _ _ _ _ s => s
theorem NdC.open {w : World} {t : Nd} {cs : List Value} (h : NdC w t cs) : ∃ s, cs = [.int .i64 t.kind, .int .i64 t.at, .string t.name, .int .i64 t.num, s] ∧ t.name.size ≤ maxLen ∧ NdS w s t.sub := by
 cases t; exact NdC.iff.1 h
theorem NdC.shut {w : World} {t : Nd} {s : Value} (hn : t.name.size ≤ maxLen) (h : NdS w s t.sub) : NdC w t [.int .i64 t.kind, .int .i64 t.at, .string t.name, .int .i64 t.num, s] := by
 cases t; exact NdC.iff.2 ⟨s, rfl, hn, h⟩
theorem NdS.open {w : World} {v : Value} {ts : List Nd} (h : NdS w v ts) : ∃ a cap, v = .slice a ts.length cap ∧ ts.length ≤ cap ∧ cap ≤ maxLen ∧
  (ts ≠ [] → ∃ b off, a = some ⟨b, off, none⟩ ∧ ∀ (i : Nat) (hi : i < ts.length), ∃ s, w.cell? ⟨b, off + i * 5, none⟩ = some (.int .i64 ts[i].kind) ∧ w.cell? ⟨b, off + i * 5 + 1, none⟩ = some (.int .i64 ts[i].at) ∧ w.cell? ⟨b, off + i * 5 + 2, none⟩ = some (.string ts[i].name) ∧ w.cell? ⟨b, off + i * 5 + 3, none⟩ = some (.int .i64 ts[i].num) ∧ w.cell? ⟨b, off + i * 5 + 4, none⟩ = some s ∧ ts[i].name.size ≤ maxLen ∧ NdS w s ts[i].sub) := by
 obtain ⟨css, ⟨a, cap, hv, hl, hm, hc⟩, h2⟩ := h
 have hlen := h2.length
 rw [hlen] at hv hl
 refine ⟨a, cap, hv, hl, hm, fun hne => ?_⟩
 obtain ⟨b, off, ha, hcell⟩ := hc (by intro e; rw [e] at hlen; simp at hlen; exact hne (List.eq_nil_of_length_eq_zero hlen.symm))
 refine ⟨b, off, ha, fun i hi => ?_⟩
 obtain ⟨c, hci, htm⟩ := h2.get i hi
 obtain ⟨s, hs, hsz, hsub⟩ := htm.open
 have hx := (hcell i c hci).2
 subst hs
 exact ⟨s, by simpa using hx 0 _ rfl, hx 1 _ rfl, hx 2 _ rfl, hx 3 _ rfl, hx 4 _ rfl, hsz, hsub⟩
end Go.Proofs.Ytpaifjlikgnlfaa
