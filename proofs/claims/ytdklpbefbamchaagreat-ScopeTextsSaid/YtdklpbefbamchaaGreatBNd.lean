import Derived.Test.YtdklpbefbamchaaGreatBK
import Derived.Test.YtdklpbefbamchaaGreatRows
import Derived.StillTailTactics
import Derived.BigQuiet
import Derived.Deep.RegionHeld3
set_option linter.unusedSimpArgs false
set_option linter.unusedVariables false
set_option maxHeartbeats 16000000
set_option maxRecDepth 100000
namespace Go.Proofs.YtdklpbefbamchaaGreat
open Go.RowKit
inductive Nd where
 | mk (kind at_ : Int) (name : ByteArray) (n : Int) (sub : List Nd)
mutual
def NdC (w : World) : Nd → List Value → Prop
 | .mk k a s n sub, cs => ∃ v css, cs = [.int .i64 k, .int .i64 a, .string s, .int .i64 n, v] ∧ s.size ≤ maxLen ∧ SlN w 5 v css ∧ NdCs w sub css
def NdCs (w : World) : List Nd → List (List Value) → Prop
 | [], css => css = []
 | t :: ts, css => ∃ c cr, css = c :: cr ∧ NdC w t c ∧ NdCs w ts cr
end
theorem Nd.ind {P : Nd → Prop} (h : ∀ k a s n sub, (∀ s ∈ sub, P s) → P (.mk k a s n sub)) : ∀ t, P t := by
 intro t
 exact Nd.rec (motive_1 := P) (motive_2 := fun l => ∀ s ∈ l, P s) (fun k a s n sub ih => h k a s n sub ih) (fun s hs => by cases hs) (fun t ts h1 h2 s hs => by
  cases hs with
  | head => exact h1
  | tail _ hm => exact h2 s hm) t
theorem NdCs.length {w : World} : ∀ {ts : List Nd} {css : List (List Value)}, NdCs w ts css → css.length = ts.length := by
 intro ts
 induction ts with
 | nil => intro css h; simp only [NdCs] at h; subst h; rfl
 | cons t ts ih => intro css h; simp only [NdCs] at h; obtain ⟨c, cr, rfl, _, h2⟩ := h; simp [ih h2]
theorem NdCs.get {w : World} : ∀ {ts : List Nd} {css : List (List Value)}, NdCs w ts css → ∀ (i : Nat) (h : i < ts.length), ∃ c, css[i]? = some c ∧ NdC w ts[i] c := by
  intro ts
  induction ts with
  | nil => intro css _ i h; simp at h
  | cons t ts ih =>
    intro css h i hi
    simp only [NdCs] at h
    obtain ⟨c, cr, rfl, h1, h2⟩ := h
    cases i with
    | zero => exact ⟨c, rfl, h1⟩
    | succ i =>
      obtain ⟨c', hc', h'⟩ := ih h2 i (by simpa using hi)
      exact ⟨c', by simpa using hc', by simpa using h'⟩
theorem NdCs.mk {w : World} : ∀ {ts : List Nd} {css : List (List Value)}, css.length = ts.length → (∀ (i : Nat) (h : i < ts.length), ∃ c, css[i]? = some c ∧ NdC w ts[i] c) → NdCs w ts css := by
  intro ts
  induction ts with
  | nil => intro css hl _; simp only [NdCs]; exact List.eq_nil_of_length_eq_zero hl
  | cons t ts ih =>
    intro css hl h
    match css, hl with
    | c :: cr, hl =>
      simp only [NdCs]
      obtain ⟨c0, e0, h0⟩ := h 0 (by simp)
      simp at e0; subst e0
      refine ⟨c, cr, rfl, h0, ih (by simpa using hl) fun i hi => ?_⟩
      obtain ⟨c', hc', h'⟩ := h (i + 1) (by simpa using hi)
      exact ⟨c', by simpa using hc', by simpa using h'⟩
theorem NdC.later {w w' : World} (hb : Below w.heap.size w w') : ∀ (t : Nd) (cs : List Value), NdC w t cs → NdC w' t cs := by
 refine Nd.ind ?_
 intro k a sn n sub ih cs h
 simp only [NdC] at h ⊢
 obtain ⟨s, css, rfl, h0, h1, h2⟩ := h
 refine ⟨s, css, rfl, h0, h1.later hb, NdCs.mk h2.length fun i hi => ?_⟩
 obtain ⟨c, hc, h3⟩ := h2.get i hi
 exact ⟨c, hc, ih _ (List.getElem_mem hi) c h3⟩
theorem NdCs.later {w w' : World} (hb : Below w.heap.size w w') {ts : List Nd} {css : List (List Value)} (h : NdCs w ts css) : NdCs w' ts css :=
 NdCs.mk h.length fun i hi => by
  obtain ⟨c, hc, h3⟩ := h.get i hi
  exact ⟨c, hc, h3.later hb⟩
def NdS (w : World) (v : Value) (ts : List Nd) : Prop := ∃ css, SlN w 5 v css ∧ NdCs w ts css
theorem NdS.later {w w' : World} {v : Value} {ts : List Nd} (h : NdS w v ts) (hb : Below w.heap.size w w') : NdS w' v ts := by
 obtain ⟨css, h1, h2⟩ := h
 exact ⟨css, h1.later hb, h2.later hb⟩
theorem NdC.iff {w : World} {k a : Int} {sn : ByteArray} {n : Int} {sub : List Nd} {cs : List Value} : NdC w (.mk k a sn n sub) cs ↔ ∃ s, cs = [.int .i64 k, .int .i64 a, .string sn, .int .i64 n, s] ∧ sn.size ≤ maxLen ∧ NdS w s sub := by
 simp only [NdC]
 constructor
 ·rintro ⟨s, css, rfl, h0, h1, h2⟩; exact ⟨s, rfl, h0, css, h1, h2⟩
 ·rintro ⟨s, rfl, h0, css, h1, h2⟩; exact ⟨s, css, rfl, h0, h1, h2⟩
def Nd.kind : Nd → Int | .mk k _ _ _ _ => k
def Nd.at : Nd → Int | .mk _ a _ _ _ => a
def Nd.name : Nd → ByteArray | .mk _ _ s _ _ => s
def Nd.num : Nd → Int | .mk _ _ _ n _ => n
def Nd.sub : Nd → List Nd | .mk _ _ _ _ s => s
theorem NdC.open {w : World} {t : Nd} {cs : List Value} (h : NdC w t cs) : ∃ s, cs = [.int .i64 t.kind, .int .i64 t.at, .string t.name, .int .i64 t.num, s] ∧ t.name.size ≤ maxLen ∧ NdS w s t.sub := by
 cases t; exact NdC.iff.1 h
theorem NdC.shut {w : World} {t : Nd} {s : Value} (hn : t.name.size ≤ maxLen) (h : NdS w s t.sub) : NdC w t [.int .i64 t.kind, .int .i64 t.at, .string t.name, .int .i64 t.num, s] := by
 cases t; exact NdC.iff.2 ⟨s, rfl, hn, h⟩
theorem NdS.open {w : World} {v : Value} {ts : List Nd} (h : NdS w v ts) : ∃ a cap, v = .slice a ts.length cap ∧ ts.length ≤ cap ∧ cap ≤ maxLen ∧
  (ts ≠ [] → ∃ b off, a = some ⟨b, off, none⟩ ∧ ∀ (i : Nat) (hi : i < ts.length), ∃ s, w.cell? ⟨b, off + i * 5, none⟩ = some (.int .i64 ts[i].kind) ∧ w.cell? ⟨b, off + i * 5 + 1, none⟩ = some (.int .i64 ts[i].at) ∧ w.cell? ⟨b, off + i * 5 + 2, none⟩ = some (.string ts[i].name) ∧ w.cell? ⟨b, off + i * 5 + 3, none⟩ = some (.int .i64 ts[i].num) ∧ w.cell? ⟨b, off + i * 5 + 4, none⟩ = some s ∧ ts[i].name.size ≤ maxLen ∧ NdS w s ts[i].sub) := by
 obtain ⟨css, ⟨a, cap, hv, hl, hm, hc⟩, h2⟩ := h
 have hlen := h2.length
 rw [hlen] at hv hl
 refine ⟨a, cap, hv, hl, hm, fun hne => ?_⟩
 obtain ⟨b, off, ha, hcell⟩ := hc (by intro e; rw [e] at hlen; simp at hlen; exact hne (List.eq_nil_of_length_eq_zero hlen.symm))
 refine ⟨b, off, ha, fun i hi => ?_⟩
 obtain ⟨c, hci, htm⟩ := h2.get i hi
 obtain ⟨s, hs, hsz, hsub⟩ := htm.open
 have hx := (hcell i c hci).2
 subst hs
 exact ⟨s, by simpa using hx 0 _ rfl, hx 1 _ rfl, hx 2 _ rfl, hx 3 _ rfl, hx 4 _ rfl, hsz, hsub⟩
theorem sub_at {w wr : World} {a : Option Addr} {cap : Nat} {ts : List Nd} (h : NdS w (.slice a ts.length cap) ts) (hb : Below w.heap.size w wr) (k : Nat) (hlt : k < ts.length) :
  ∃ b off a' cap', a = some ⟨b, off, none⟩ ∧ wr.cell? ⟨b, off + k * 5, none⟩ = some (.int .i64 ts[k].kind) ∧ wr.cell? ⟨b, off + k * 5 + 1, none⟩ = some (.int .i64 ts[k].at) ∧ wr.cell? ⟨b, off + k * 5 + 2, none⟩ = some (.string ts[k].name) ∧ wr.cell? ⟨b, off + k * 5 + 3, none⟩ = some (.int .i64 ts[k].num) ∧
   wr.cell? ⟨b, off + k * 5 + 4, none⟩ = some (.slice a' ts[k].sub.length cap') ∧ NdC wr ts[k] [.int .i64 ts[k].kind, .int .i64 ts[k].at, .string ts[k].name, .int .i64 ts[k].num, .slice a' ts[k].sub.length cap'] := by
 obtain ⟨a0, c0, hv, _, _, hget⟩ := h.open
 simp only [Value.slice.injEq] at hv
 obtain ⟨rfl, _, rfl⟩ := hv
 obtain ⟨b, off, rfl, hgg⟩ := hget (by intro e; rw [e] at hlt; simp at hlt)
 obtain ⟨sv, c0, c1, c2, c3, c4, hsz, hsv⟩ := hgg k hlt
 obtain ⟨a', cap', rfl, -⟩ := hsv.open
 have mv : ∀ {a : Addr} {v : Value}, w.cell? a = some v → wr.cell? a = some v := fun c => (hb.cell (World.block_lt_of_cell? w _ c)).trans c
 exact ⟨b, off, a', cap', rfl, mv c0, mv c1, mv c2, mv c3, mv c4, (NdC.shut hsz hsv).later hb⟩
theorem Qcz {w : World} {t : Nd} {cs : List Value} (h : NdC w t cs) : ∃ a cap, cs = [.int .i64 t.kind, .int .i64 t.at, .string t.name, .int .i64 t.num, .slice a t.sub.length cap] ∧ NdS w (.slice a t.sub.length cap) t.sub ∧ t.sub.length ≤ 9223372036854775807 ∧ t.name.size ≤ maxLen := by
 obtain ⟨s, rfl, hsz, hs⟩ := h.open
 obtain ⟨a, cap, rfl, h1, h2, _⟩ := hs.open
 exact ⟨a, cap, rfl, hs, by unfold maxLen at h2; omega, hsz⟩
mutual
def szT : Nd → Int → Int
 | .mk _ _ _ _ sub, h => szL sub (h + 1)
def szL : List Nd → Int → Int
 | [], h => h
 | t :: ts, h => if 8192 < h then h else szL ts (szT t h)
end
theorem szL_big (ts : List Nd) (h : Int) (hb : 8192 < h) : szL ts h = h := by
 cases ts with
 | nil => rfl
 | cons t ts => simp only [szL]; rw [if_pos hb]
theorem sz_bd : ∀ (t : Nd) (h : Int), 0 ≤ h → h ≤ 8192 → h + 1 ≤ szT t h ∧ szT t h ≤ 8193 := by
  refine Nd.ind ?_
  intro k aa ss n sub ih h h0 h1
  have : ∀ (l : List Nd), (∀ s ∈ l, ∀ (h : Int), 0 ≤ h → h ≤ 8192 → h + 1 ≤ szT s h ∧ szT s h ≤ 8193) → ∀ h : Int, 0 ≤ h → h ≤ 8193 → h ≤ szL l h ∧ szL l h ≤ 8193 := by
    intro l
    induction l with
    | nil => intro _ h h0 h1; simp only [szL]; omega
    | cons t ts iht =>
      intro hl h h0 h1
      simp only [szL]
      by_cases hb : 8192 < h
      · rw [if_pos hb]; omega
      · rw [if_neg hb]
        have h3 := hl t (by simp) h h0 (by omega)
        have h4 := iht (fun s hs => hl s (by simp [hs])) (szT t h) (by omega) h3.2
        omega
  simp only [szT]
  have := this sub ih (h + 1) (by omega) (by omega)
  omega
mutual
def dpT : Nd → Int → Int
 | .mk _ _ _ _ sub, h => if 128 < h then h else dpL sub h h
def dpL : List Nd → Int → Int → Int
 | [], _, m => m
 | t :: ts, h, m => dpL ts h (max m (dpT t (h + 1)))
end
def sizeT (t : Nd) : Int := szT t 0
def Qdc (t : Nd) : Int := if 8192 < sizeT t then 129 else dpT t 1
theorem dp_bd : ∀ (t : Nd) (h : Int), h ≤ 129 → h ≤ dpT t h ∧ dpT t h ≤ 129 := by
  refine Nd.ind ?_
  intro k aa ss n sub ih h h1
  have : ∀ (l : List Nd), (∀ s ∈ l, ∀ (h : Int), h ≤ 129 → h ≤ dpT s h ∧ dpT s h ≤ 129) → ∀ h m : Int, h ≤ 128 → m ≤ 129 → m ≤ dpL l h m ∧ dpL l h m ≤ 129 := by
    intro l
    induction l with
    | nil => intro _ h m _ _; simp only [dpL]; omega
    | cons t ts iht =>
      intro hl h m h1 h2
      simp only [dpL]
      have h3 := hl t (by simp) (h + 1) (by omega)
      have h4 := iht (fun s hs => hl s (by simp [hs])) h (max m (dpT t (h + 1))) h1 (by omega)
      omega
  simp only [dpT]
  by_cases hb : 128 < h
  · rw [if_pos hb]; omega
  · rw [if_neg hb]; exact this sub ih h h (by omega) h1
theorem max_if (g x : Int) : max g x = if g < x then x else g := by split <;> omega
mutual
def ndT : Nd → Nat
 | .mk _ _ _ _ sub => ndL sub + 1
def ndL : List Nd → Nat
 | [] => 0
 | t :: ts => ndT t + ndL ts
end
theorem Qhk (a b : List Nd) : ndL (a ++ b) = ndL a + ndL b := by
 induction a with
 | nil => simp [ndL]
 | cons t ts ih => simp only [List.cons_append, ndL, ih]; omega
theorem ndT_pos (t : Nd) : 1 ≤ ndT t := by cases t; simp only [ndT]; omega
theorem ndL_len (a : List Nd) : a.length ≤ ndL a := by
 induction a with
 | nil => simp [ndL]
 | cons t ts ih => simp only [ndL, List.length_cons]; have := ndT_pos t; omega
theorem sz_nd : ∀ (t : Nd) (h : Int), 0 ≤ h → h ≤ 8192 → szT t h = min (h + ndT t) 8193 := by
  refine Nd.ind ?_
  intro k aa ss n sub ih h h0 h1
  have : ∀ (l : List Nd), (∀ s ∈ l, ∀ (h : Int), 0 ≤ h → h ≤ 8192 → szT s h = min (h + ndT s) 8193) → ∀ h : Int, 0 ≤ h → h ≤ 8193 → szL l h = min (h + ndL l) 8193 := by
    intro l
    induction l with
    | nil => intro _ h h0 h1; simp only [szL, ndL]; omega
    | cons t ts iht =>
      intro hl h h0 h1
      simp only [szL, ndL]
      have hp := ndT_pos t
      by_cases hb : 8192 < h
      · rw [if_pos hb]; omega
      · rw [if_neg hb, hl t (by simp) h h0 (by omega), iht (fun s hs => hl s (by simp [hs])) _ (by omega) (by omega)]
        omega
  simp only [szT, ndT]
  rw [this sub ih (h + 1) (by omega) (by omega)]; omega
mutual
def hgT : Nd → Nat
 | .mk _ _ _ _ sub => hgL sub + 1
def hgL : List Nd → Nat
 | [] => 0
 | t :: ts => max (hgT t) (hgL ts)
end
theorem dp_hg : ∀ (t : Nd) (h : Int), 0 ≤ h → h ≤ 129 → dpT t h = min (h + hgT t - 1) 129 := by
  refine Nd.ind ?_
  intro k aa ss n sub ih h h0 h1
  have : ∀ (l : List Nd), (∀ s ∈ l, ∀ (h : Int), 0 ≤ h → h ≤ 129 → dpT s h = min (h + hgT s - 1) 129) → ∀ h m : Int, 0 ≤ h → h ≤ 128 → h ≤ m → dpL l h m = max m (min (h + hgL l) 129) := by
    intro l
    induction l with
    | nil => intro _ h m _ _ _; simp only [dpL, hgL]; omega
    | cons t ts iht =>
      intro hl h m h0 h1 h2
      simp only [dpL, hgL]
      rw [hl t (by simp) (h + 1) (by omega) (by omega), iht (fun s hs => hl s (by simp [hs])) h _ h0 h1 (by omega)]
      omega
  simp only [dpT, hgT]
  by_cases hb : 128 < h
  · rw [if_pos hb]; omega
  · rw [if_neg hb, this sub ih h h h0 (by omega) (Int.le_refl _)]; omega
theorem hgL_append (a b : List Nd) : hgL (a ++ b) = max (hgL a) (hgL b) := by
 induction a with
 | nil => simp [hgL]
 | cons t ts ih => simp only [List.cons_append, hgL, ih]; omega
def lvl (ts : List Nd) : List Nd := ts.flatMap Nd.sub
theorem nd_sub (t : Nd) : ndT t = ndL t.sub + 1 := by cases t; simp only [ndT, Nd.sub]
theorem hg_sub (t : Nd) : hgT t = hgL t.sub + 1 := by cases t; simp only [hgT, Nd.sub]
theorem lvl_nd (ts : List Nd) : ndL (lvl ts) ≤ ndL ts := by
 unfold lvl
 induction ts with
 | nil => simp
 | cons t ts ih => rw [List.flatMap_cons, Qhk]; simp only [ndL]; rw [nd_sub t]; omega
theorem lvl_hg (ts : List Nd) (h : ts ≠ []) : hgL ts = hgL (lvl ts) + 1 := by
  unfold lvl
  induction ts with
  | nil => exact absurd rfl h
  | cons t ts ih =>
    rw [List.flatMap_cons, hgL_append]; simp only [hgL]; rw [hg_sub t]
    by_cases he : ts = []
    · subst he; simp [hgL]
    · rw [ih he]; omega
theorem lvl_take (ts : List Nd) (k : Nat) (h : k < ts.length) : lvl (ts.take (k + 1)) = lvl (ts.take k) ++ ts[k].sub := by
 unfold lvl; rw [List.take_succ_eq_append_getElem h]; simp only [List.flatMap_append, List.flatMap_cons, List.flatMap_nil, List.append_nil]
theorem ndL_take (ts : List Nd) (k : Nat) : ndL (ts.take k) ≤ ndL ts := by
 have := Qhk (ts.take k) (ts.drop k)
 rw [List.take_append_drop] at this; omega
theorem Qdk {w w1 : World} {x y z u v : Value} {T : TypeId} (hb : Below (w.heap.size + 1) (w.alloc (.cells #[x, y, z, u, v] T)) w1) :
  w1.cell? ⟨w.heap.size, 0, none⟩ = some x ∧ w1.cell? ⟨w.heap.size, 1, none⟩ = some y ∧ w1.cell? ⟨w.heap.size, 2, none⟩ = some z ∧ w1.cell? ⟨w.heap.size, 3, none⟩ = some u ∧ w1.cell? ⟨w.heap.size, 4, none⟩ = some v :=
 ⟨(hb.cell (by simp)).trans (by simp), (hb.cell (by simp)).trans (by simp), (hb.cell (by simp)).trans (by simp), (hb.cell (by simp)).trans (by simp), (hb.cell (by simp)).trans (by simp)⟩
theorem size_any : ∀ (t : Nd) (cs : List Value) (h : Int) (w : World), 0 ≤ h → h ≤ 8192 → NdC w t cs →
  Calls Tryz.prog 289 #[.agg cs.toArray, .int .i64 h] w fun e w' => e = .returned (.int .i64 (szT t h)) ∧ Below w.heap.size w w' := by
 refine Nd.ind ?_
 intro kk aa ss n sub ih cs h w h0 h1 ht
 obtain ⟨a, cap, rfl, hsub, hlen, hnsa⟩ := Qcz ht
 simp only [Nd.kind, Nd.at, Nd.name, Nd.num, Nd.sub] at *
 have IH := Lib.hid ih
 clear ht ih
 go_enter Tryz.func289, Tryz.ntmps289
 go_wp2_with fail
 go_loopw [1, 12] (fun x i wr => ∃ k : Nat, k ≤ sub.length ∧ i = .int .i64 k ∧ ∃ g : Int, x = .int .i64 g ∧ 0 ≤ g ∧ g ≤ 8193 ∧ Hid (szL (sub.drop k) g = szL sub (h + 1)) ∧ Below w.heap.size w wr) (fun _ i _ => sub.length - (intOf i).toNat)
 case atStart => exact ⟨0, Nat.zero_le _, rfl, h + 1, rfl, by omega, by omega, rfl, (Below.refl _ _).alloc (Nat.le_refl _) _⟩
 case round =>
  obtain ⟨k, hk, rfl, g, rfl, hg0, hg1, HG, hbel⟩ := hrel
  by_cases hlt : k < sub.length
  ·obtain ⟨b, off, a', cap', rfl, e0, e1, e2, e3, e4, hts⟩ := sub_at hsub hbel k hlt
   have hdrop := Lib.hid (List.drop_eq_getElem_cons hlt)
   by_cases hbig : 8192 < g
   ·have fin : Hid (g = szT (.mk kk aa ss n sub) h) := by
     have := HG.out
     rw [szL_big _ _ hbig] at this
     show g = _
     simp only [szT]; exact this
    go_wp2_with fail
    go_ret
    exact ⟨Qbl fin.out, (hbel.alloc hbel.size _)⟩
   ·have hg2 : g ≤ 8192 := by omega
    have hnext : Hid (szL (sub.drop (k + 1)) (szT sub[k] g) = szL sub (h + 1)) := by
     have := HG.out
     rw [hdrop.out] at this
     simp only [szL] at this
     rw [if_neg hbig] at this; exact this
    have hbd := sz_bd sub[k] g hg0 hg2
    clear hbig HG
    go_wp2_with fail
    have hd : Below wr.heap.size wr (wr.alloc (.cells #[.int .i64 sub[k].kind, .int .i64 sub[k].at, .string sub[k].name, .int .i64 sub[k].num, .slice a' sub[k].sub.length cap'] 68)) := (Below.refl _ _).alloc (Nat.le_refl _) _
    refine (IH.out _ (List.getElem_mem hlt) _ g _ hg0 hg2 (hts.later hd)).mono ?_
    rintro e w' ⟨rfl, hb2⟩
    have hbel2 := hbel.trans ((hd.trans (hb2.mono (by simp))).mono hbel.size)
    clear hb2 hts hd
    go_wp2_with fail
    go_roundw
    case rel => exact ⟨k + 1, by omega, by go_num, _, rfl, by omega, hbd.2, hnext, hbel2⟩
    case measure => simp [intOf]; omega
  ·have fin : Hid (g = szT (.mk kk aa ss n sub) h) := by
    have := HG.out
    rw [List.drop_of_length_le (by omega)] at this
    simp only [szL] at this
    show g = _
    simp only [szT]; exact this
   go_wp2_with fail
   go_ret
   exact ⟨Qbl fin.out, hbel⟩
theorem deep_any : ∀ (t : Nd) (cs : List Value) (h : Int) (w : World), 0 ≤ h → h ≤ 129 → NdC w t cs →
  Calls Tryz.prog 252 #[.agg cs.toArray, .int .i64 h] w fun e w' => e = .returned (.int .i64 (dpT t h)) ∧ Below w.heap.size w w' := by
 refine Nd.ind ?_
 intro kk aa ss n sub ih cs h w h0 h1 ht
 obtain ⟨a, cap, rfl, hsub, hlen, hnsa⟩ := Qcz ht
 simp only [Nd.kind, Nd.at, Nd.name, Nd.num, Nd.sub] at *
 have IH := Lib.hid ih
 clear ht ih
 by_cases hb : 128 < h
 ·have fin : Hid (dpT (.mk kk aa ss n sub) h = h) := by show _ = _; simp only [dpT]; rw [if_pos hb]
  go_enter Tryz.func252, Tryz.ntmps252
  go_wp2_with fail
  go_ret
  exact ⟨Qbl fin.out.symm, (Below.refl _ _).alloc (Nat.le_refl _) _⟩
 ·have fin : Hid (dpT (.mk kk aa ss n sub) h = dpL sub h h) := by show _ = _; simp only [dpT]; rw [if_neg hb]
  have hb2 : h ≤ 128 := by omega
  clear hb
  go_enter Tryz.func252, Tryz.ntmps252
  go_wp2_with fail
  go_loopw [5, 15] (fun x i wr => ∃ k : Nat, k ≤ sub.length ∧ i = .int .i64 k ∧ ∃ g : Int, x = .int .i64 g ∧ 0 ≤ g ∧ g ≤ 129 ∧ Hid (dpL (sub.drop k) h g = dpL sub h h) ∧ Below w.heap.size w wr) (fun _ i _ => sub.length - (intOf i).toNat)
  case atStart => exact ⟨0, Nat.zero_le _, rfl, h, rfl, by omega, by omega, rfl, (Below.refl _ _).alloc (Nat.le_refl _) _⟩
  case round =>
   obtain ⟨k, hk, rfl, g, rfl, hg0, hg1, HG, hbel⟩ := hrel
   by_cases hlt : k < sub.length
   ·obtain ⟨b, off, a', cap', rfl, e0, e1, e2, e3, e4, hts⟩ := sub_at hsub hbel k hlt
    have hnext : Hid (dpL (sub.drop (k + 1)) h (if g < dpT sub[k] (h + 1) then dpT sub[k] (h + 1) else g) = dpL sub h h) := by
     have := HG.out
     rw [List.drop_eq_getElem_cons hlt] at this
     simp only [dpL, max_if] at this; exact this
    have hbd := dp_bd sub[k] (h + 1) (by omega)
    go_wp2_with fail
    have hd : Below wr.heap.size wr (wr.alloc (.cells #[.int .i64 sub[k].kind, .int .i64 sub[k].at, .string sub[k].name, .int .i64 sub[k].num, .slice a' sub[k].sub.length cap'] 68)) := (Below.refl _ _).alloc (Nat.le_refl _) _
    refine (IH.out _ (List.getElem_mem hlt) _ (h + 1) _ (by omega) (by omega) (hts.later hd)).mono ?_
    rintro e w' ⟨rfl, hb3⟩
    have hbel2 := hbel.trans ((hd.trans (hb3.mono (by simp))).mono hbel.size)
    clear hb3 hts hd
    go_wp2_with fail
    go_roundw
    case rel => exact ⟨k + 1, by omega, by go_num, _, rfl, by omega, by omega, hnext, hbel2⟩
    case measure => simp [intOf]; omega
   ·have fin2 : Hid (g = dpL sub h h) := by
     have := HG.out
     rw [List.drop_of_length_le (by omega)] at this
     simp only [dpL] at this; exact this
    go_wp2_with fail
    go_ret
    exact ⟨Qbl (by rw [fin.out, fin2.out]), hbel⟩
theorem size0_any (t : Nd) (cs : List Value) (w : World) (ht : NdC w t cs) :
  Calls Tryz.prog 251 #[.agg cs.toArray] w fun e w' => e = .returned (.int .i64 (sizeT t)) ∧ Below w.heap.size w w' := by
 have ht0 := ht
 obtain ⟨a, cap, rfl, hsub, hlen, hnsa⟩ := Qcz ht
 have hd : Below w.heap.size w (w.alloc (.cells #[.int .i64 t.kind, .int .i64 t.at, .string t.name, .int .i64 t.num, .slice a t.sub.length cap] 68)) := (Below.refl _ _).alloc (Nat.le_refl _) _
 go_enter Tryz.func251, Tryz.ntmps251
 go_wp2_with fail
 refine (size_any t _ 0 _ (by omega) (by omega) (ht0.later hd)).mono ?_
 rintro e w1 ⟨rfl, hb1⟩
 go_wp2_with fail
 go_ret
 exact ⟨rfl, hd.trans (hb1.mono hd.size)⟩
theorem depth_any (t : Nd) (cs : List Value) (w : World) (ht : NdC w t cs) :
  Calls Tryz.prog 196 #[.agg cs.toArray] w fun e w' => e = .returned (.int .i64 (Qdc t)) ∧ Below w.heap.size w w' := by
 have ht0 := ht
 obtain ⟨a, cap, rfl, hsub, hlen, hnsa⟩ := Qcz ht
 have hd : Below w.heap.size w (w.alloc (.cells #[.int .i64 t.kind, .int .i64 t.at, .string t.name, .int .i64 t.num, .slice a t.sub.length cap] 68)) := (Below.refl _ _).alloc (Nat.le_refl _) _
 by_cases hb : 8192 < sizeT t
 ·have fin : Hid (Qdc t = 129) := if_pos hb
  go_enter Tryz.func196, Tryz.ntmps196
  go_wp2_with (go_at_call 251; refine (size0_any t _ _ (ht0.later hd)).mono ?_; rintro e w1 ⟨rfl, hb1⟩)
  go_ret
  exact ⟨Qbl fin.out.symm, hd.trans (hb1.mono hd.size)⟩
 ·have fin : Hid (Qdc t = dpT t 1) := if_neg hb
  go_enter Tryz.func196, Tryz.ntmps196
  go_wp2_with fail
  refine (size0_any t _ _ (ht0.later hd)).mono ?_
  rintro e w1 ⟨rfl, hb1⟩
  obtain ⟨c0, c1, c2, c3, c4⟩ := Qdk (by simpa using hb1)
  have hw1 := hd.trans (hb1.mono hd.size)
  clear hb1
  go_wp2_with fail
  refine (deep_any t _ 1 _ (by omega) (by omega) (ht0.later hw1)).mono ?_
  rintro e w2 ⟨rfl, hb2⟩
  go_wp2_with fail
  go_ret
  exact ⟨Qbl fin.out.symm, hw1.trans (hb2.mono hw1.size)⟩
def Qft (t : Nd) : Bool := decide (Qdc t ≤ 128)
theorem small_any (t : Nd) (cs : List Value) (w : World) (ht : NdC w t cs) :
  Calls Tryz.prog 138 #[.agg cs.toArray] w fun e w' => e = .returned (.bool (Qft t)) ∧ Below w.heap.size w w' := by
 have ht0 := ht
 obtain ⟨a, cap, rfl, hsub, hlen, hnsa⟩ := Qcz ht
 have hd : Below w.heap.size w (w.alloc (.cells #[.int .i64 t.kind, .int .i64 t.at, .string t.name, .int .i64 t.num, .slice a t.sub.length cap] 68)) := (Below.refl _ _).alloc (Nat.le_refl _) _
 go_enter Tryz.func138, Tryz.ntmps138
 go_wp2_with fail
 refine (depth_any t _ _ (ht0.later hd)).mono ?_
 rintro e w1 ⟨rfl, hb1⟩
 go_wp2_with fail
 go_ret
 exact ⟨rfl, hd.trans (hb1.mono hd.size)⟩
theorem Qgk (w : World) (q : Nat) : Below w.heap.size w (w.drewN q) := ⟨rfl, rfl, rfl, Nat.le_refl _, fun _ _ => rfl⟩
theorem info27 : (Tryz.prog.info? 64).map (fun i => (i.zero, i.size, i.bytes)) = some (some (.agg #[.int .i64 0, .int .i64 0, .string ByteArray.empty, .int .i64 0, .slice none 0 0]), 5, 64) := by kernel_rfl
theorem Qmo {w : World} {xs : List Value} {n size : Nat} (e : TypeId) (hn : xs.length = n * size) (hm : n ≤ maxLen) :
  (w.alloc (.cells xs.toArray e)).ownsRow w.heap.size e size (.slice (some ⟨w.heap.size, 0, none⟩) n n) n xs :=
 ⟨hn, .inr ⟨w.heap.size, n, xs.toArray, rfl, Nat.le_refl _, heap_alloc_new w _, Nat.le_refl _, hm, by simp; omega, by rw [← hn]; simp⟩⟩
theorem own_base {w : World} {base base' e size : Nat} {v : Value} {n : Nat} {xs : List Value} (h : w.ownsRow base e size v n xs) (hb : base' ≤ base) : w.ownsRow base' e size v n xs := by
 refine ⟨h.1, ?_⟩
 rcases h.2 with h2 | ⟨g, cap, cur, hv, hg, r⟩
 ·exact .inl h2
 ·exact .inr ⟨g, cap, cur, hv, by omega, r⟩
theorem Qfh {w : World} {ts : List Nd} {css : List (List Value)} (h : NdCs w ts css) : ∀ c ∈ css, c.length = 5 ∧ ∀ u ∈ c, u.oneCell' = true := by
 intro c hc
 obtain ⟨i, hi, rfl⟩ := List.getElem_of_mem hc
 obtain ⟨c', h1, h2⟩ := h.get i (by rw [← h.length]; exact hi)
 rw [List.getElem?_eq_getElem hi] at h1
 obtain rfl := Option.some.inj h1
 obtain ⟨a, cap, hcs, _⟩ := Qcz h2
 rw [hcs]
 refine ⟨rfl, ?_⟩
 intro u hu
 simp at hu
 rcases hu with rfl | rfl | rfl | rfl | rfl <;> rfl
theorem NdCs.append {w : World} : ∀ {a b : List Nd} {ca cb : List (List Value)}, NdCs w a ca → NdCs w b cb → NdCs w (a ++ b) (ca ++ cb) := by
  intro a
  induction a with
  | nil => intro b ca cb h1 h2; simp only [NdCs] at h1; subst h1; exact h2
  | cons t ts ih =>
    intro b ca cb h1 h2
    simp only [NdCs] at h1
    obtain ⟨c, cr, rfl, h3, h4⟩ := h1
    simp only [List.cons_append, NdCs]
    exact ⟨c, cr ++ cb, rfl, h3, ih h4 h2⟩
theorem NdCs.split {w : World} : ∀ {a b : List Nd} {css : List (List Value)}, NdCs w (a ++ b) css → ∃ ca cb, css = ca ++ cb ∧ NdCs w a ca ∧ NdCs w b cb := by
  intro a
  induction a with
  | nil => intro b css h; exact ⟨[], css, rfl, by simp only [NdCs], h⟩
  | cons t ts ih =>
    intro b css h
    simp only [List.cons_append, NdCs] at h
    obtain ⟨c, cr, rfl, h1, h2⟩ := h
    obtain ⟨ca, cb, rfl, h3, h4⟩ := ih h2
    exact ⟨c :: ca, cb, rfl, by simp only [NdCs]; exact ⟨c, ca, rfl, h1, h3⟩, h4⟩
theorem NdCs.take {w : World} {ts : List Nd} {css : List (List Value)} (h : NdCs w ts css) (k : Nat) : NdCs w (ts.take k) (css.take k) := by
 refine NdCs.mk (by rw [List.length_take, List.length_take, h.length]) fun i hi => ?_
 have hi2 : i < ts.length := by rw [List.length_take] at hi; omega
 have hik : i < k := by rw [List.length_take] at hi; omega
 obtain ⟨c, h1, h2⟩ := h.get i hi2
 exact ⟨c, by rw [List.getElem?_take, if_pos hik]; exact h1, by rw [List.getElem_take]; exact h2⟩
theorem rsize_any (t : Nd) (cs : List Value) (w : World) (ht : NdC w t cs) :
  Calls Tryz.prog 199 #[.agg cs.toArray] w fun e w' => e = .returned (.int .i64 (sizeT t)) ∧ Below w.heap.size w w' := by
 obtain ⟨i0, hi, hz0, hz1, hz2⟩ := info_parts info27
 have ht0 := ht
 obtain ⟨a, cap, rfl, hsub, hlen, hnsa⟩ := Qcz ht
 clear hsub ht
 go_enter Tryz.func199, Tryz.ntmps199
 go_wp2_with fail
 go_loopw [3, 4] (fun v g wr => ∃ (ts : List Nd) (css : List (List Value)) (k : Nat), k ≤ 8193 ∧ g = .int .i64 k ∧ NdCs w ts css ∧ wr.ownsRow w.heap.size 64 5 v ts.length css.flatten ∧ ts.length ≤ 8193 * k + 1 ∧ Hid (min (k + ndL ts) 8193 = min (ndT t) 8193) ∧ Below w.heap.size w wr) (fun _ g _ => 8193 - (intOf g).toNat)
 case atStart =>
  refine ⟨[t], [[.int .i64 t.kind, .int .i64 t.at, .string t.name, .int .i64 t.num, .slice a t.sub.length cap]], 0, by omega, rfl, ?_, ?_, by simp, ?_, ((Below.refl _ _).alloc (Nat.le_refl _) _).alloc (by simp) _⟩
  ·simp only [NdCs]; exact ⟨_, [], rfl, ht0, rfl⟩
  ·have h := own_base (base' := w.heap.size) (Qmo (w := w.alloc (.cells #[.int .i64 t.kind, .int .i64 t.at, .string t.name, .int .i64 t.num, .slice a t.sub.length cap] 64)) (xs := [.int .i64 t.kind, .int .i64 t.at, .string t.name, .int .i64 t.num, .slice a t.sub.length cap]) (n := 1) (size := 5) 64 rfl (by decide)) (by simp)
   simpa using h
  ·show _ = _; simp only [ndL]; congr 1; omega
 case round =>
  obtain ⟨ts, css, k, hk, rfl, hcs, hown, hlen2, HN, hbel⟩ := hrel
  by_cases hne : ts = []
  ·subst hne
   have fin : Hid ((k : Int) = sizeT t) := by
    have h1 := HN.out
    have h2 := sz_nd t 0 (by omega) (by omega)
    simp only [ndL] at h1
    show _ = szT t 0
    rw [h2]; omega
   obtain ⟨aB, capB, hB⟩ : ∃ aB capB, _ = Value.slice aB 0 capB := by
    obtain ⟨aB, capB, hv, _⟩ := (SlN.own hown hcs.length (fun c hc => (Qfh hcs c hc).1)).shape
    rw [hcs.length] at hv; exact ⟨aB, capB, hv⟩
   subst hB
   go_wp2_with fail
   go_ret
   exact ⟨Qbl fin.out, hbel⟩
  ·obtain ⟨ts0, x, rfl⟩ : ∃ ts0 x, ts = ts0 ++ [x] := ⟨ts.dropLast, ts.getLast hne, (List.dropLast_concat_getLast hne).symm⟩
   clear hne
   have H3 := Lib.hid (Qfh hcs)
   have hlc := Lib.hid hcs.length
   have hsl := SlN.own hown hcs.length (fun c hc => (H3.out c hc).1)
   obtain ⟨aB, capB, hB, hcap1, hcap2⟩ := hsl.shape
   rw [hlc.out, List.length_append, List.length_singleton] at hB hcap1
   subst hB
   by_cases hbig : 8192 < k
   ·have fin : Hid ((k : Int) = sizeT t) := by
     have h1 := HN.out
     have h2 := sz_nd t 0 (by omega) (by omega)
     show _ = szT t 0
     rw [h2]; omega
    go_wp2_with fail
    go_ret
    exact ⟨Qbl fin.out, hbel⟩
   ·have hk2 : k ≤ 8192 := by omega
    clear hbig
    obtain ⟨c0, c1, hcss, hc0, hc1⟩ := hcs.split
    simp only [NdCs] at hc1
    obtain ⟨cx, cr, rfl, hx, rfl⟩ := hc1
    obtain ⟨a', cap', rfl, hxs, hxlen⟩ := Qcz hx
    subst hcss
    have hl0 := hc0.length
    obtain ⟨g, off, ha, hget⟩ : ∃ g off, aB = some ⟨g, off, none⟩ ∧ ∀ j u, [Value.int .i64 x.kind, .int .i64 x.at, .string x.name, .int .i64 x.num, .slice a' x.sub.length cap'][j]? = some u → wr.cell? ⟨g, off + ts0.length * 5 + j, none⟩ = some u := by
     obtain ⟨a2, cap2, hv, _, _, hc⟩ := hsl
     simp only [Value.slice.injEq] at hv
     obtain ⟨rfl, _, rfl⟩ := hv
     obtain ⟨g, off, ha, hcell⟩ := hc (by simp)
     refine ⟨g, off, ha, (hcell ts0.length _ ?_).2⟩
     rw [← hl0, List.getElem?_append_right (Nat.le_refl _), Nat.sub_self]; rfl
    subst ha
    have e0 := hget 0 _ rfl
    have e1 := hget 1 _ rfl
    have e2 := hget 2 _ rfl
    have e3 := hget 3 _ rfl
    have e4 := hget 4 _ rfl
    rw [Nat.add_zero] at e0
    clear hget
    have hmb : ts0.length + 1 ≤ 67117057 := by rw [List.length_append, List.length_singleton] at hlen2; omega
    have hlen3 : ts0.length ≤ 8193 * k := by rw [List.length_append, List.length_singleton] at hlen2; omega
    generalize hm : ts0.length = m at *
    have HM := Lib.hid hm; clear hm
    have hw1 : IntKind.i64.wrap (m : Int) = m := by simp [IntKind.wrap, IntKind.bits, IntKind.signed]; omega
    have hw2 : IntKind.i64.wrap ((m : Int) + 1 - 1) = m := by rw [Int.add_sub_cancel]; exact hw1
    have hs1 := fun w => Qla (P := Tryz.prog) w 62 (some ⟨g, off, none⟩) (m + 1) capB m Tryz.underlying62 hi (by omega)
    have hcx : x.sub.length ≤ cap' ∧ cap' ≤ maxLen := by
     obtain ⟨a2, cap2, hv, h1, h2, _⟩ := hxs.open
     simp only [Value.slice.injEq] at hv
     obtain ⟨_, _, rfl⟩ := hv
     exact ⟨h1, h2⟩
    by_cases hshort : x.sub.length ≤ 8193
    ·have hmn : ((8193 : Int) < (x.sub.length : Int)) = False := by simp; omega
     have hs2 := fun w => Qla (P := Tryz.prog) w 62 a' x.sub.length cap' x.sub.length Tryz.underlying62 hi hcx.1
     have hW : Below w.heap.size w ((wr.alloc (.cells #[.int .i64 x.kind, .int .i64 x.at, .string x.name, .int .i64 x.num, .slice a' x.sub.length cap'] 64)).alloc (.cells #[] 64)).drew := ((hbel.alloc hbel.size _).alloc (by have := hbel.size; simp; omega) _).drew
     have hW0 : Below wr.heap.size wr ((wr.alloc (.cells #[.int .i64 x.kind, .int .i64 x.at, .string x.name, .int .i64 x.num, .slice a' x.sub.length cap'] 64)).alloc (.cells #[] 64)).drew := (((Below.refl _ _).alloc (Nat.le_refl _) _).alloc (by simp) _).drew
     have own0 : ((wr.alloc (.cells #[.int .i64 x.kind, .int .i64 x.at, .string x.name, .int .i64 x.num, .slice a' x.sub.length cap'] 64)).alloc (.cells #[] 64)).drew.ownsRow (wr.heap.size + 1) 64 5 (.slice (some ⟨wr.heap.size + 1, 0, none⟩) 0 0) 0 [] := by
      have h := (World.ownsRow_made (base := wr.heap.size + 1) (e := 64) (size := 5) (wr.alloc (.cells #[.int .i64 x.kind, .int .i64 x.at, .string x.name, .int .i64 x.num, .slice a' x.sub.length cap'] 64)) #[] 0 (by simp) (Nat.zero_le _) rfl)
      simpa using h.drew
     have src0 : SlN ((wr.alloc (.cells #[.int .i64 x.kind, .int .i64 x.at, .string x.name, .int .i64 x.num, .slice a' x.sub.length cap'] 64)).alloc (.cells #[] 64)).drew 5 (.slice (some ⟨g, off, none⟩) m capB) c0 := by
      have h := (hsl.take m (by simp; omega)).later hW0
      rw [List.take_append_of_le_length (by omega), List.take_of_length_le (by omega)] at h
      exact h
     have hc03 : ∀ c ∈ c0, c.length = 5 ∧ ∀ u ∈ c, u.oneCell' = true := Qfh hc0
     obtain ⟨cx, hxsl, hxcs⟩ := hxs
     have hcx3 : ∀ c ∈ cx, c.length = 5 ∧ ∀ u ∈ c, u.oneCell' = true := Qfh hxcs
     have hxl := hxcs.length
     go_wp2_with fail
     go_region_held3 (fun w' => w'.cell? ⟨wr.heap.size, 4, none⟩ = some (.slice a' x.sub.length cap')) (first | go_keep | exact (hb2.cell (by simp)).trans ((hb1.cell (by simp)).trans (by simp)) | exact (hb1.cell (by simp)).trans (by simp)) (first | (refine Qjj rfl (.tmp 21) (.tmp 26) 62 rfl (wr.heap.size + 1) 64 i0 (.agg #[.int .i64 0, .int .i64 0, .string ByteArray.empty, .int .i64 0, .slice none 0 0]) 5 64 Tryz.underlying62 hi hz0 hz1 hz2 rfl (by decide) _ _ _ own0 _ c0 src0 rfl rfl (fun c hc => (hc03 c hc).2) (fun c hc => (hc03 c hc).1) (by unfold maxLen; omega) (by omega) (by simp) ?_; intro v1 w1 hown1 hb1 hg1) | (refine Qjj rfl (.tmp 27) (.tmp 34) 62 rfl (wr.heap.size + 1) 64 i0 (.agg #[.int .i64 0, .int .i64 0, .string ByteArray.empty, .int .i64 0, .slice none 0 0]) 5 64 Tryz.underlying62 hi hz0 hz1 hz2 rfl (by decide) _ _ _ hown1 _ cx (hxsl.later (hW.trans (hb1.mono (by have := hbel.size; omega)))) rfl rfl (fun c hc => (hcx3 c hc).2) (fun c hc => (hcx3 c hc).1) (by unfold maxLen; omega) (by omega) (by have := hb1.size; simp at this; omega) ?_; intro v2 w2 hown2 hb2 hg2))
     all_goals
      go_wp2_with fail
      go_roundw
      case rel =>
       refine ⟨ts0 ++ x.sub, c0 ++ cx, k + 1, by omega, by go_num, hc0.append hxcs, ?_, ?_, ?_, hW.trans ((hb1.trans hb2).mono (by have := hbel.size; omega))⟩
       ·have h := own_base (base' := w.heap.size) hown2 (by have := hbel.size; omega)
        rw [List.flatten_append, List.length_append, HM.out, ← hl0, ← hxl]
        simpa using h
       ·rw [List.length_append, HM.out]; omega
       ·have h1 := HN.out
        rw [Qhk] at h1
        have h2 : ndL [x] = ndL x.sub + 1 := by cases x; simp only [ndL, ndT, Nd.sub]
        show min (k + 1 + ndL (ts0 ++ x.sub)) 8193 = _
        rw [Qhk, ← h1, h2]; omega
      case measure => simp [intOf]; omega
    ·have hmn : ((8193 : Int) < (x.sub.length : Int)) = True := by simp; omega
     have hs2 : ∀ w, (Instr.slice 62 (.slice a' x.sub.length cap') none (some (.int .i64 8193)) none).run Tryz.prog w = .ok (.slice a' 8193 cap') w := fun w => Qla (P := Tryz.prog) w 62 a' x.sub.length cap' 8193 Tryz.underlying62 hi (by omega)
     have hW : Below w.heap.size w ((wr.alloc (.cells #[.int .i64 x.kind, .int .i64 x.at, .string x.name, .int .i64 x.num, .slice a' x.sub.length cap'] 64)).alloc (.cells #[] 64)).drew := ((hbel.alloc hbel.size _).alloc (by have := hbel.size; simp; omega) _).drew
     have hW0 : Below wr.heap.size wr ((wr.alloc (.cells #[.int .i64 x.kind, .int .i64 x.at, .string x.name, .int .i64 x.num, .slice a' x.sub.length cap'] 64)).alloc (.cells #[] 64)).drew := (((Below.refl _ _).alloc (Nat.le_refl _) _).alloc (by simp) _).drew
     have own0 : ((wr.alloc (.cells #[.int .i64 x.kind, .int .i64 x.at, .string x.name, .int .i64 x.num, .slice a' x.sub.length cap'] 64)).alloc (.cells #[] 64)).drew.ownsRow (wr.heap.size + 1) 64 5 (.slice (some ⟨wr.heap.size + 1, 0, none⟩) 0 0) 0 [] := by
      have h := (World.ownsRow_made (base := wr.heap.size + 1) (e := 64) (size := 5) (wr.alloc (.cells #[.int .i64 x.kind, .int .i64 x.at, .string x.name, .int .i64 x.num, .slice a' x.sub.length cap'] 64)) #[] 0 (by simp) (Nat.zero_le _) rfl)
      simpa using h.drew
     have src0 : SlN ((wr.alloc (.cells #[.int .i64 x.kind, .int .i64 x.at, .string x.name, .int .i64 x.num, .slice a' x.sub.length cap'] 64)).alloc (.cells #[] 64)).drew 5 (.slice (some ⟨g, off, none⟩) m capB) c0 := by
      have h := (hsl.take m (by simp; omega)).later hW0
      rw [List.take_append_of_le_length (by omega), List.take_of_length_le (by omega)] at h
      exact h
     have hc03 : ∀ c ∈ c0, c.length = 5 ∧ ∀ u ∈ c, u.oneCell' = true := Qfh hc0
     obtain ⟨cx, hxsl, hxcs⟩ := hxs
     have hcx3 : ∀ c ∈ cx, c.length = 5 ∧ ∀ u ∈ c, u.oneCell' = true := Qfh hxcs
     have hxl0 := hxcs.length
     have hxl : (cx.take 8193).length = (x.sub.take 8193).length := (hxcs.take 8193).length
     have hxl1 : (x.sub.take 8193).length = 8193 := by rw [List.length_take]; omega
     have hxl2 : (cx.take 8193).length = 8193 := by rw [hxl, hxl1]
     go_wp2_with fail
     go_region_held3 (fun w' => w'.cell? ⟨wr.heap.size, 4, none⟩ = some (.slice a' x.sub.length cap')) (first | go_keep | exact (hb2.cell (by simp)).trans ((hb1.cell (by simp)).trans (by simp)) | exact (hb1.cell (by simp)).trans (by simp)) (first | (refine Qjj rfl (.tmp 21) (.tmp 26) 62 rfl (wr.heap.size + 1) 64 i0 (.agg #[.int .i64 0, .int .i64 0, .string ByteArray.empty, .int .i64 0, .slice none 0 0]) 5 64 Tryz.underlying62 hi hz0 hz1 hz2 rfl (by decide) _ _ _ own0 _ c0 src0 rfl rfl (fun c hc => (hc03 c hc).2) (fun c hc => (hc03 c hc).1) (by unfold maxLen; omega) (by omega) (by simp) ?_; intro v1 w1 hown1 hb1 hg1) | (refine Qjj rfl (.tmp 27) (.tmp 34) 62 rfl (wr.heap.size + 1) 64 i0 (.agg #[.int .i64 0, .int .i64 0, .string ByteArray.empty, .int .i64 0, .slice none 0 0]) 5 64 Tryz.underlying62 hi hz0 hz1 hz2 rfl (by decide) _ _ _ hown1 _ (cx.take 8193) ((hxsl.take 8193 (by omega)).later (hW.trans (hb1.mono (by have := hbel.size; omega)))) rfl rfl (fun c hc => (hcx3 c (List.mem_of_mem_take hc)).2) (fun c hc => (hcx3 c (List.mem_of_mem_take hc)).1) (by unfold maxLen; omega) (by omega) (by have := hb1.size; simp at this; omega) ?_; intro v2 w2 hown2 hb2 hg2))
     all_goals
      go_wp2_with fail
      go_roundw
      case rel =>
       refine ⟨ts0 ++ x.sub.take 8193, c0 ++ cx.take 8193, k + 1, by omega, by go_num, hc0.append (hxcs.take 8193), ?_, ?_, ?_, hW.trans ((hb1.trans hb2).mono (by have := hbel.size; omega))⟩
       ·have h := own_base (base' := w.heap.size) hown2 (by have := hbel.size; omega)
        rw [List.flatten_append, List.length_append, HM.out, ← hl0, ← hxl]
        simpa using h
       ·rw [List.length_append, HM.out]; omega
       ·have h1 := HN.out
        rw [Qhk] at h1
        have h2 : ndL [x] = ndL x.sub + 1 := by cases x; simp only [ndL, ndT, Nd.sub]
        show min (k + 1 + ndL (ts0 ++ x.sub.take 8193)) 8193 = _
        have h3 := ndL_len (x.sub.take 8193)
        have h4 := ndL_len x.sub
        rw [Qhk, ← h1, h2]; omega
      case measure => simp [intOf]; omega
theorem sub_at2 {w wo wr : World} {a : Option Addr} {cap : Nat} {ts : List Nd} {css : List (List Value)} (hsl : SlN wo 5 (.slice a ts.length cap) css) (hcs : NdCs w ts css) (hb : Below wo.heap.size wo wr) (k : Nat) (hlt : k < ts.length) :
  ∃ b off a' cap', a = some ⟨b, off, none⟩ ∧ wr.cell? ⟨b, off + k * 5, none⟩ = some (.int .i64 ts[k].kind) ∧ wr.cell? ⟨b, off + k * 5 + 3, none⟩ = some (.int .i64 ts[k].num) ∧
   wr.cell? ⟨b, off + k * 5 + 4, none⟩ = some (.slice a' ts[k].sub.length cap') ∧ NdC w ts[k] [.int .i64 ts[k].kind, .int .i64 ts[k].at, .string ts[k].name, .int .i64 ts[k].num, .slice a' ts[k].sub.length cap'] := by
 have hlen := hcs.length
 obtain ⟨a0, c0, hv, _, _, hget⟩ := hsl
 simp only [Value.slice.injEq] at hv
 obtain ⟨rfl, _, rfl⟩ := hv
 obtain ⟨b, off, rfl, hgg⟩ := hget (by intro e; rw [e] at hlen; simp at hlen; omega)
 obtain ⟨c, hck, htk⟩ := hcs.get k hlt
 obtain ⟨a', cap', rfl, -, -⟩ := Qcz htk
 have hx := (hgg k _ hck).2
 have c0 := hx 0 _ rfl
 have c1 := hx 3 _ rfl
 have c2 := hx 4 _ rfl
 refine ⟨b, off, a', cap', rfl, ?_, ?_, ?_, htk⟩
 ·rw [Nat.add_zero] at c0; exact (hb.cell (World.block_lt_of_cell? wo _ c0)).trans c0
 ·exact (hb.cell (World.block_lt_of_cell? wo _ c1)).trans c1
 ·exact (hb.cell (World.block_lt_of_cell? wo _ c2)).trans c2
theorem rdepth_any (t : Nd) (cs : List Value) (w : World) (ht : NdC w t cs) :
  Calls Tryz.prog 145 #[.agg cs.toArray] w fun e w' => e = .returned (.int .i64 (Qdc t)) ∧ Below w.heap.size w w' := by
 obtain ⟨i0, hi, hz0, hz1, hz2⟩ := info_parts info27
 have ht0 := ht
 obtain ⟨a, cap, rfl, hsub, hlen, hnsa⟩ := Qcz ht
 clear hsub ht
 have hd : Below w.heap.size w (w.alloc (.cells #[.int .i64 t.kind, .int .i64 t.at, .string t.name, .int .i64 t.num, .slice a t.sub.length cap] 64)) := (Below.refl _ _).alloc (Nat.le_refl _) _
 by_cases hb : 8192 < sizeT t
 ·have fin : Hid (Qdc t = 129) := if_pos hb
  go_enter Tryz.func145, Tryz.ntmps145
  go_wp2_with (go_at_call 199; refine (rsize_any t _ _ (ht0.later hd)).mono ?_; rintro e w1 ⟨rfl, hb1⟩)
  go_ret
  exact ⟨Qbl fin.out.symm, hd.trans (hb1.mono hd.size)⟩
 ·have hn : ndT t ≤ 8192 := by
   have := sz_nd t 0 (by omega) (by omega)
   unfold sizeT at hb; omega
  have fin : Hid (Qdc t = min (hgT t : Int) 129) := by
   have h1 : Qdc t = dpT t 1 := if_neg hb
   have h2 := dp_hg t 1 (by omega) (by omega)
   show _ = _; rw [h1, h2]; omega
  go_enter Tryz.func145, Tryz.ntmps145
  go_wp2_with fail
  refine (rsize_any t _ _ (ht0.later hd)).mono ?_
  rintro e w1 ⟨rfl, hb1⟩
  obtain ⟨c0, c1, c2, c3, c4⟩ := Qdk (by simpa using hb1)
  have hw1 := hd.trans (hb1.mono hd.size)
  clear hb1
  go_wp2_with fail
  clear c0 c1 c2 c3 c4
  go_loopw [3, 4] (fun v g wr => ∃ (ts : List Nd) (css : List (List Value)) (d : Nat), d ≤ 129 ∧ g = .int .i64 d ∧ NdCs w ts css ∧ SlN wr 5 v css ∧ ndL ts ≤ 8192 ∧ Hid (min (d + hgL ts) 129 = min (hgT t) 129) ∧ Below w.heap.size w wr) (fun _ g _ => 129 - (intOf g).toNat)
  case atStart =>
   refine ⟨[t], [[.int .i64 t.kind, .int .i64 t.at, .string t.name, .int .i64 t.num, .slice a t.sub.length cap]], 0, by omega, rfl, ?_, ?_, by simp only [ndL]; omega, ?_, hw1.alloc hw1.size _⟩
   ·simp only [NdCs]; exact ⟨_, [], rfl, ht0, rfl⟩
   ·have h := Qmo (w := w1) (xs := [.int .i64 t.kind, .int .i64 t.at, .string t.name, .int .i64 t.num, .slice a t.sub.length cap]) (n := 1) (size := 5) 64 rfl (by decide)
    exact SlN.own (css := [[.int .i64 t.kind, .int .i64 t.at, .string t.name, .int .i64 t.num, .slice a t.sub.length cap]]) h rfl (by intro c hc; simp at hc; subst hc; rfl)
   ·show _ = _; simp only [hgL]; congr 1; omega
  case round =>
   obtain ⟨ts, css, d, hd1, rfl, hcs, hsl, hnd, HN, hbel⟩ := hrel
   obtain ⟨aB, capB, hB, hcap1, hcap2⟩ := hsl.shape
   have hlc := hcs.length
   rw [hlc] at hB hcap1
   subst hB
   have hlen2 := ndL_len ts
   by_cases hne : ts = []
   ·subst hne
    have fin2 : Hid ((d : Int) = Qdc t) := by
     have h1 := HN.out
     simp only [hgL] at h1
     show _ = _; rw [fin.out]; omega
    go_wp2_with fail
    go_ret
    exact ⟨Qbl fin2.out, hbel⟩
   ·have hpos : 0 < ts.length := by rcases ts with _ | ⟨x, xs⟩; exact absurd rfl hne; simp
    by_cases hbig : d < 129
    ·have HNE := Lib.hid hne; clear hne
     obtain ⟨wo, rfl⟩ : ∃ wo : World, wo = wr := ⟨_, rfl⟩
     have hd129 : decide ((d : Int) < 129) = true := by simp; omega
     go_wp2_with fail
     go_loopw [5, 6] (fun v i wi => ∃ (k : Nat) (cn : List (List Value)), k ≤ ts.length ∧ i = .int .i64 k ∧ NdCs w (lvl (ts.take k)) cn ∧ wi.ownsRow wo.heap.size 64 5 v (lvl (ts.take k)).length cn.flatten ∧ Below wo.heap.size wo wi) (fun _ i _ => ts.length - (intOf i).toNat)
     case atStart =>
      refine ⟨0, [], by omega, rfl, by simp only [lvl, List.take_zero, List.flatMap_nil, NdCs], ?_, (Below.refl _ _).alloc (Nat.le_refl _) _⟩
      exact World.ownsRow_made wo #[] 0 (Nat.le_refl _) (Nat.zero_le _) rfl
     case round =>
      obtain ⟨k, cn, hk, rfl, hcn, hown, hbi⟩ := hrel
      by_cases hlt : k < ts.length
      ·obtain ⟨b, off, a', cap', rfl, e0, e1, e2, hts⟩ := sub_at2 hsl hcs hbi k hlt
       obtain ⟨s, hse, -, cx, hxsl0, hxcs⟩ := hts.open
       simp only [List.cons.injEq, true_and, and_true] at hse
       subst hse
       have hxsl := hxsl0.later (hbel.trans (hbi.mono hbel.size))
       clear hxsl0
       have hcx3 := Qfh hxcs
       have hxl := hxcs.length
       have hnl : (lvl (ts.take k)).length + ts[k].sub.length ≤ 8192 := by
        have h1 := lvl_take ts k hlt
        have h2 := lvl_nd (ts.take (k+1))
        have h3 := ndL_take ts (k+1)
        have h4 := ndL_len (lvl (ts.take (k+1)))
        rw [h1, List.length_append] at h4; rw [h1] at h2; omega
       clear e0 e1
       go_wp2_with (at_builtin; refine Qmx rfl _ _ 62 rfl wo.heap.size 64 i0 (.agg #[.int .i64 0, .int .i64 0, .string ByteArray.empty, .int .i64 0, .slice none 0 0]) 5 64 Tryz.underlying62 hi hz0 hz1 hz2 rfl (by decide) _ _ _ hown _ cx hxsl rfl rfl (fun c hc => (hcx3 c hc).2) (fun c hc => (hcx3 c hc).1) (by unfold maxLen; omega) (by omega) hbi.size ?_)
       intro v1 w2 hown1 hb2 _
       have hcn1 : NdCs w (lvl (ts.take (k + 1))) (cn ++ cx) := by rw [lvl_take ts k hlt]; exact hcn.append hxcs
       have hown2 : w2.ownsRow wo.heap.size 64 5 v1 (lvl (ts.take (k + 1))).length (cn ++ cx).flatten := by
        rw [lvl_take ts k hlt, List.length_append, List.flatten_append]; exact hown1
       have hbi2 := hbi.trans hb2
       clear hown1 hown hcn hbi hb2 hxsl hxcs
       go_wp2_with fail
       go_roundw
       case rel => exact ⟨k + 1, cn ++ cx, by omega, by go_num, hcn1, hown2, hbi2⟩
       case measure => simp [intOf]; omega
      ·rw [List.take_of_length_le (by omega)] at hcn hown
       have hsl2 := SlN.own hown hcn.length (fun c hc => (Qfh hcn c hc).1)
       have hnd2 : ndL (lvl ts) ≤ 8192 := Nat.le_trans (lvl_nd ts) hnd
       have HN2 : Hid (min (d + 1 + hgL (lvl ts)) 129 = min (hgT t) 129) := by
        have h1 := HN.out
        rw [lvl_hg ts HNE.out] at h1
        show _ = _; rw [← h1]; congr 1; omega
       go_wp2_with fail
       go_roundw
       case rel => exact ⟨lvl ts, cn, d + 1, by omega, by go_num, hcn, hsl2, hnd2, HN2, hbel.trans (hbi.mono hbel.size)⟩
       case measure => simp [intOf]; omega
    ·have fin2 : Hid ((d : Int) = Qdc t) := by
      have h1 := HN.out
      show _ = _; rw [fin.out]; omega
     go_wp2_with fail
     go_ret
     exact ⟨Qbl fin2.out, hbel⟩
end Go.Proofs.YtdklpbefbamchaaGreat
