import Derived.Test.YtahhgpafjiljfaaOBK
import Derived.Test.YtahhgpafjiljfaaRows
import Derived.StillTailTactics
import Derived.BigQuiet
import Derived.Deep.RegionHeld3
set_option linter.unusedSimpArgs false
set_option linter.unusedVariables false
set_option maxHeartbeats 16000000
set_option maxRecDepth 100000
namespace Go.Proofs.Ytahhgpafjiljfaa
open Go.RowKit
inductive Nd where
 | mk (kind at_ : Int) (name : ByteArray) (n : Int) (sub : List Nd)
mutual
def NdC (w : World) : Nd → List Value → Prop
 | .mk k a s n sub, cs => ∃ v css, cs = [.int .i64 k, .int .i64 a, .string s, .int .i64 n, v] ∧ s.size ≤ maxLen ∧ SlN w 5 v css ∧ NdCs w sub css
def NdCs (w : World) : List Nd → List (List Value) → Prop
 | [], css => css = []
 | t :: ts, css => ∃ c cr, css = c :: cr ∧ NdC w t c ∧ NdCs w ts cr
end
theorem Nd.ind {P : Nd → Prop} (h : ∀ k a s n sub, (∀ s ∈ sub, P s) → P (.mk k a s n sub)) : ∀ t, P t := by
 intro t
 exact Nd.rec (motive_1 := P) (motive_2 := fun l => ∀ s ∈ l, P s) (fun k a s n sub ih => h k a s n sub ih) (fun s hs => by cases hs) (fun t ts h1 h2 s hs => by
  cases hs with
  | head => exact h1
  | tail _ hm => exact h2 s hm) t
theorem NdCs.length {w : World} : ∀ {ts : List Nd} {css : List (List Value)}, NdCs w ts css → css.length = ts.length := by
 intro ts
 induction ts with
 | nil => intro css h; simp only [NdCs] at h; subst h; rfl
 | cons t ts ih => intro css h; simp only [NdCs] at h; obtain ⟨c, cr, rfl, _, h2⟩ := h; simp [ih h2]
theorem NdCs.get {w : World} : ∀ {ts : List Nd} {css : List (List Value)}, NdCs w ts css → ∀ (i : Nat) (h : i < ts.length), ∃ c, css[i]? = some c ∧ NdC w ts[i] c := by
  intro ts
  induction ts with
  | nil => intro css _ i h; simp at h
  | cons t ts ih =>
    intro css h i hi
    simp only [NdCs] at h
    obtain ⟨c, cr, rfl, h1, h2⟩ := h
    cases i with
    | zero => exact ⟨c, rfl, h1⟩
    | succ i =>
      obtain ⟨c', hc', h'⟩ := ih h2 i (by simpa using hi)
      exact ⟨c', by simpa using hc', by simpa using h'⟩
theorem NdCs.mk {w : World} : ∀ {ts : List Nd} {css : List (List Value)}, css.length = ts.length → (∀ (i : Nat) (h : i < ts.length), ∃ c, css[i]? = some c ∧ NdC w ts[i] c) → NdCs w ts css := by
  intro ts
  induction ts with
  | nil => intro css hl _; simp only [NdCs]; exact List.eq_nil_of_length_eq_zero hl
  | cons t ts ih =>
    intro css hl h
    match css, hl with
    | c :: cr, hl =>
      simp only [NdCs]
      obtain ⟨c0, e0, h0⟩ := h 0 (by simp)
      simp at e0; subst e0
      refine ⟨c, cr, rfl, h0, ih (by simpa using hl) fun i hi => ?_⟩
      obtain ⟨c', hc', h'⟩ := h (i + 1) (by simpa using hi)
      exact ⟨c', by simpa using hc', by simpa using h'⟩
theorem NdC.later {w w' : World} (hb : Below w.heap.size w w') : ∀ (t : Nd) (cs : List Value), NdC w t cs → NdC w' t cs := by
 refine Nd.ind ?_
 intro k a sn n sub ih cs h
 simp only [NdC] at h ⊢
 obtain ⟨s, css, rfl, h0, h1, h2⟩ := h
 refine ⟨s, css, rfl, h0, h1.later hb, NdCs.mk h2.length fun i hi => ?_⟩
 obtain ⟨c, hc, h3⟩ := h2.get i hi
 exact ⟨c, hc, ih _ (List.getElem_mem hi) c h3⟩
theorem NdCs.later {w w' : World} (hb : Below w.heap.size w w') {ts : List Nd} {css : List (List Value)} (h : NdCs w ts css) : NdCs w' ts css :=
 NdCs.mk h.length fun i hi => by
  obtain ⟨c, hc, h3⟩ := h.get i hi
  exact ⟨c, hc, h3.later hb⟩
def NdS (w : World) (v : Value) (ts : List Nd) : Prop := ∃ css, SlN w 5 v css ∧ NdCs w ts css
theorem NdS.later {w w' : World} {v : Value} {ts : List Nd} (h : NdS w v ts) (hb : Below w.heap.size w w') : NdS w' v ts := by
 obtain ⟨css, h1, h2⟩ := h
 exact ⟨css, h1.later hb, h2.later hb⟩
theorem NdC.iff {w : World} {k a : Int} {sn : ByteArray} {n : Int} {sub : List Nd} {cs : List Value} : NdC w (.mk k a sn n sub) cs ↔ ∃ s, cs = [.int .i64 k, .int .i64 a, .string sn, .int .i64 n, s] ∧ sn.size ≤ maxLen ∧ NdS w s sub := by
 simp only [NdC]
 constructor
 ·rintro ⟨s, css, rfl, h0, h1, h2⟩; exact ⟨s, rfl, h0, css, h1, h2⟩
 ·rintro ⟨s, rfl, h0, css, h1, h2⟩; exact ⟨s, css, rfl, h0, h1, h2⟩
def Nd.kind : Nd → Int | .mk k _ _ _ _ => k
def Nd.at : Nd → Int | .mk _ a _ _ _ => a
def Nd.name : Nd → ByteArray | .mk _ _ s _ _ => s
def Nd.num : Nd → Int | .mk _ _ _ n _ => n
def Nd.sub : Nd → List Nd | .mk _ _ _ _ s => s
theorem NdC.open {w : World} {t : Nd} {cs : List Value} (h : NdC w t cs) : ∃ s, cs = [.int .i64 t.kind, .int .i64 t.at, .string t.name, .int .i64 t.num, s] ∧ t.name.size ≤ maxLen ∧ NdS w s t.sub := by
 cases t; exact NdC.iff.1 h
theorem NdC.shut {w : World} {t : Nd} {s : Value} (hn : t.name.size ≤ maxLen) (h : NdS w s t.sub) : NdC w t [.int .i64 t.kind, .int .i64 t.at, .string t.name, .int .i64 t.num, s] := by
 cases t; exact NdC.iff.2 ⟨s, rfl, hn, h⟩
theorem NdS.open {w : World} {v : Value} {ts : List Nd} (h : NdS w v ts) : ∃ a cap, v = .slice a ts.length cap ∧ ts.length ≤ cap ∧ cap ≤ maxLen ∧
  (ts ≠ [] → ∃ b off, a = some ⟨b, off, none⟩ ∧ ∀ (i : Nat) (hi : i < ts.length), ∃ s, w.cell? ⟨b, off + i * 5, none⟩ = some (.int .i64 ts[i].kind) ∧ w.cell? ⟨b, off + i * 5 + 1, none⟩ = some (.int .i64 ts[i].at) ∧ w.cell? ⟨b, off + i * 5 + 2, none⟩ = some (.string ts[i].name) ∧ w.cell? ⟨b, off + i * 5 + 3, none⟩ = some (.int .i64 ts[i].num) ∧ w.cell? ⟨b, off + i * 5 + 4, none⟩ = some s ∧ ts[i].name.size ≤ maxLen ∧ NdS w s ts[i].sub) := by
 obtain ⟨css, ⟨a, cap, hv, hl, hm, hc⟩, h2⟩ := h
 have hlen := h2.length
 rw [hlen] at hv hl
 refine ⟨a, cap, hv, hl, hm, fun hne => ?_⟩
 obtain ⟨b, off, ha, hcell⟩ := hc (by intro e; rw [e] at hlen; simp at hlen; exact hne (List.eq_nil_of_length_eq_zero hlen.symm))
 refine ⟨b, off, ha, fun i hi => ?_⟩
 obtain ⟨c, hci, htm⟩ := h2.get i hi
 obtain ⟨s, hs, hsz, hsub⟩ := htm.open
 have hx := (hcell i c hci).2
 subst hs
 exact ⟨s, by simpa using hx 0 _ rfl, hx 1 _ rfl, hx 2 _ rfl, hx 3 _ rfl, hx 4 _ rfl, hsz, hsub⟩
theorem sub_at {w wr : World} {a : Option Addr} {cap : Nat} {ts : List Nd} (h : NdS w (.slice a ts.length cap) ts) (hb : Below w.heap.size w wr) (k : Nat) (hlt : k < ts.length) :
  ∃ b off a' cap', a = some ⟨b, off, none⟩ ∧ wr.cell? ⟨b, off + k * 5, none⟩ = some (.int .i64 ts[k].kind) ∧ wr.cell? ⟨b, off + k * 5 + 1, none⟩ = some (.int .i64 ts[k].at) ∧ wr.cell? ⟨b, off + k * 5 + 2, none⟩ = some (.string ts[k].name) ∧ wr.cell? ⟨b, off + k * 5 + 3, none⟩ = some (.int .i64 ts[k].num) ∧
   wr.cell? ⟨b, off + k * 5 + 4, none⟩ = some (.slice a' ts[k].sub.length cap') ∧ NdC wr ts[k] [.int .i64 ts[k].kind, .int .i64 ts[k].at, .string ts[k].name, .int .i64 ts[k].num, .slice a' ts[k].sub.length cap'] := by
 obtain ⟨a0, c0, hv, _, _, hget⟩ := h.open
 simp only [Value.slice.injEq] at hv
 obtain ⟨rfl, _, rfl⟩ := hv
 obtain ⟨b, off, rfl, hgg⟩ := hget (by intro e; rw [e] at hlt; simp at hlt)
 obtain ⟨sv, c0, c1, c2, c3, c4, hsz, hsv⟩ := hgg k hlt
 obtain ⟨a', cap', rfl, -⟩ := hsv.open
 have mv : ∀ {a : Addr} {v : Value}, w.cell? a = some v → wr.cell? a = some v := fun c => (hb.cell (World.block_lt_of_cell? w _ c)).trans c
 exact ⟨b, off, a', cap', rfl, mv c0, mv c1, mv c2, mv c3, mv c4, (NdC.shut hsz hsv).later hb⟩
theorem Qev {w : World} {t : Nd} {cs : List Value} (h : NdC w t cs) : ∃ a cap, cs = [.int .i64 t.kind, .int .i64 t.at, .string t.name, .int .i64 t.num, .slice a t.sub.length cap] ∧ NdS w (.slice a t.sub.length cap) t.sub ∧ t.sub.length ≤ 9223372036854775807 ∧ t.name.size ≤ maxLen := by
 obtain ⟨s, rfl, hsz, hs⟩ := h.open
 obtain ⟨a, cap, rfl, h1, h2, _⟩ := hs.open
 exact ⟨a, cap, rfl, hs, by unfold maxLen at h2; omega, hsz⟩
mutual
def szT : Nd → Int → Int
 | .mk _ _ _ _ sub, h => szL sub (h + 1)
def szL : List Nd → Int → Int
 | [], h => h
 | t :: ts, h => if 8192 < h then h else szL ts (szT t h)
end
theorem szL_big (ts : List Nd) (h : Int) (hb : 8192 < h) : szL ts h = h := by
 cases ts with
 | nil => rfl
 | cons t ts => simp only [szL]; rw [if_pos hb]
theorem sz_bd : ∀ (t : Nd) (h : Int), 0 ≤ h → h ≤ 8192 → h + 1 ≤ szT t h ∧ szT t h ≤ 8193 := by
  refine Nd.ind ?_
  intro k aa ss n sub ih h h0 h1
  have : ∀ (l : List Nd), (∀ s ∈ l, ∀ (h : Int), 0 ≤ h → h ≤ 8192 → h + 1 ≤ szT s h ∧ szT s h ≤ 8193) → ∀ h : Int, 0 ≤ h → h ≤ 8193 → h ≤ szL l h ∧ szL l h ≤ 8193 := by
    intro l
    induction l with
    | nil => intro _ h h0 h1; simp only [szL]; omega
    | cons t ts iht =>
      intro hl h h0 h1
      simp only [szL]
      by_cases hb : 8192 < h
      · rw [if_pos hb]; omega
      · rw [if_neg hb]
        have h3 := hl t (by simp) h h0 (by omega)
        have h4 := iht (fun s hs => hl s (by simp [hs])) (szT t h) (by omega) h3.2
        omega
  simp only [szT]
  have := this sub ih (h + 1) (by omega) (by omega)
  omega
mutual
def dpT : Nd → Int → Int
 | .mk _ _ _ _ sub, h => if 128 < h then h else dpL sub h h
def dpL : List Nd → Int → Int → Int
 | [], _, m => m
 | t :: ts, h, m => dpL ts h (max m (dpT t (h + 1)))
end
def sizeT (t : Nd) : Int := szT t 0
def Qcn (t : Nd) : Int := if 8192 < sizeT t then 129 else dpT t 1
theorem dp_bd : ∀ (t : Nd) (h : Int), h ≤ 129 → h ≤ dpT t h ∧ dpT t h ≤ 129 := by
  refine Nd.ind ?_
  intro k aa ss n sub ih h h1
  have : ∀ (l : List Nd), (∀ s ∈ l, ∀ (h : Int), h ≤ 129 → h ≤ dpT s h ∧ dpT s h ≤ 129) → ∀ h m : Int, h ≤ 128 → m ≤ 129 → m ≤ dpL l h m ∧ dpL l h m ≤ 129 := by
    intro l
    induction l with
    | nil => intro _ h m _ _; simp only [dpL]; omega
    | cons t ts iht =>
      intro hl h m h1 h2
      simp only [dpL]
      have h3 := hl t (by simp) (h + 1) (by omega)
      have h4 := iht (fun s hs => hl s (by simp [hs])) h (max m (dpT t (h + 1))) h1 (by omega)
      omega
  simp only [dpT]
  by_cases hb : 128 < h
  · rw [if_pos hb]; omega
  · rw [if_neg hb]; exact this sub ih h h (by omega) h1
theorem max_if (g x : Int) : max g x = if g < x then x else g := by split <;> omega
mutual
def ndT : Nd → Nat
 | .mk _ _ _ _ sub => ndL sub + 1
def ndL : List Nd → Nat
 | [] => 0
 | t :: ts => ndT t + ndL ts
end
theorem ndT_pos (t : Nd) : 1 ≤ ndT t := by cases t; simp only [ndT]; omega
theorem ndL_len (a : List Nd) : a.length ≤ ndL a := by
 induction a with
 | nil => simp [ndL]
 | cons t ts ih => simp only [ndL, List.length_cons]; have := ndT_pos t; omega
theorem sz_nd : ∀ (t : Nd) (h : Int), 0 ≤ h → h ≤ 8192 → szT t h = min (h + ndT t) 8193 := by
  refine Nd.ind ?_
  intro k aa ss n sub ih h h0 h1
  have : ∀ (l : List Nd), (∀ s ∈ l, ∀ (h : Int), 0 ≤ h → h ≤ 8192 → szT s h = min (h + ndT s) 8193) → ∀ h : Int, 0 ≤ h → h ≤ 8193 → szL l h = min (h + ndL l) 8193 := by
    intro l
    induction l with
    | nil => intro _ h h0 h1; simp only [szL, ndL]; omega
    | cons t ts iht =>
      intro hl h h0 h1
      simp only [szL, ndL]
      have hp := ndT_pos t
      by_cases hb : 8192 < h
      · rw [if_pos hb]; omega
      · rw [if_neg hb, hl t (by simp) h h0 (by omega), iht (fun s hs => hl s (by simp [hs])) _ (by omega) (by omega)]
        omega
  simp only [szT, ndT]
  rw [this sub ih (h + 1) (by omega) (by omega)]; omega
theorem nd_sub (t : Nd) : ndT t = ndL t.sub + 1 := by cases t; simp only [ndT, Nd.sub]
theorem Qhh {w w1 : World} {x y z u v : Value} {T : TypeId} (hb : Below (w.heap.size + 1) (w.alloc (.cells #[x, y, z, u, v] T)) w1) :
  w1.cell? ⟨w.heap.size, 0, none⟩ = some x ∧ w1.cell? ⟨w.heap.size, 1, none⟩ = some y ∧ w1.cell? ⟨w.heap.size, 2, none⟩ = some z ∧ w1.cell? ⟨w.heap.size, 3, none⟩ = some u ∧ w1.cell? ⟨w.heap.size, 4, none⟩ = some v :=
 ⟨(hb.cell (by simp)).trans (by simp), (hb.cell (by simp)).trans (by simp), (hb.cell (by simp)).trans (by simp), (hb.cell (by simp)).trans (by simp), (hb.cell (by simp)).trans (by simp)⟩
theorem size_any : ∀ (t : Nd) (cs : List Value) (h : Int) (w : World), 0 ≤ h → h ≤ 8192 → NdC w t cs →
  Calls Try.prog 108 #[.agg cs.toArray, .int .i64 h] w fun e w' => e = .returned (.int .i64 (szT t h)) ∧ Below w.heap.size w w' := by
 refine Nd.ind ?_
 intro kk aa ss n sub ih cs h w h0 h1 ht
 obtain ⟨a, cap, rfl, hsub, hlen, hnsa⟩ := Qev ht
 simp only [Nd.kind, Nd.at, Nd.name, Nd.num, Nd.sub] at *
 have IH := Lib.hid ih
 clear ht ih
 go_enter Try.func108, Try.ntmps108
 go_wp2_with fail
 go_loopw [1, 12] (fun x i wr => ∃ k : Nat, k ≤ sub.length ∧ i = .int .i64 k ∧ ∃ g : Int, x = .int .i64 g ∧ 0 ≤ g ∧ g ≤ 8193 ∧ Hid (szL (sub.drop k) g = szL sub (h + 1)) ∧ Below w.heap.size w wr) (fun _ i _ => sub.length - (intOf i).toNat)
 case atStart => exact ⟨0, Nat.zero_le _, rfl, h + 1, rfl, by omega, by omega, rfl, (Below.refl _ _).alloc (Nat.le_refl _) _⟩
 case round =>
  obtain ⟨k, hk, rfl, g, rfl, hg0, hg1, HG, hbel⟩ := hrel
  by_cases hlt : k < sub.length
  ·obtain ⟨b, off, a', cap', rfl, e0, e1, e2, e3, e4, hts⟩ := sub_at hsub hbel k hlt
   have hdrop := Lib.hid (List.drop_eq_getElem_cons hlt)
   by_cases hbig : 8192 < g
   ·have fin : Hid (g = szT (.mk kk aa ss n sub) h) := by
     have := HG.out
     rw [szL_big _ _ hbig] at this
     show g = _
     simp only [szT]; exact this
    go_wp2_with fail
    go_ret
    exact ⟨Qgj fin.out, (hbel.alloc hbel.size _)⟩
   ·have hg2 : g ≤ 8192 := by omega
    have hnext : Hid (szL (sub.drop (k + 1)) (szT sub[k] g) = szL sub (h + 1)) := by
     have := HG.out
     rw [hdrop.out] at this
     simp only [szL] at this
     rw [if_neg hbig] at this; exact this
    have hbd := sz_bd sub[k] g hg0 hg2
    clear hbig HG
    go_wp2_with fail
    have hd : Below wr.heap.size wr (wr.alloc (.cells #[.int .i64 sub[k].kind, .int .i64 sub[k].at, .string sub[k].name, .int .i64 sub[k].num, .slice a' sub[k].sub.length cap'] 31)) := (Below.refl _ _).alloc (Nat.le_refl _) _
    refine (IH.out _ (List.getElem_mem hlt) _ g _ hg0 hg2 (hts.later hd)).mono ?_
    rintro e w' ⟨rfl, hb2⟩
    have hbel2 := hbel.trans ((hd.trans (hb2.mono (by simp))).mono hbel.size)
    clear hb2 hts hd
    go_wp2_with fail
    go_roundw
    case rel => exact ⟨k + 1, by omega, by go_num, _, rfl, by omega, hbd.2, hnext, hbel2⟩
    case measure => simp [intOf]; omega
  ·have fin : Hid (g = szT (.mk kk aa ss n sub) h) := by
    have := HG.out
    rw [List.drop_of_length_le (by omega)] at this
    simp only [szL] at this
    show g = _
    simp only [szT]; exact this
   go_wp2_with fail
   go_ret
   exact ⟨Qgj fin.out, hbel⟩
theorem deep_any : ∀ (t : Nd) (cs : List Value) (h : Int) (w : World), 0 ≤ h → h ≤ 129 → NdC w t cs →
  Calls Try.prog 102 #[.agg cs.toArray, .int .i64 h] w fun e w' => e = .returned (.int .i64 (dpT t h)) ∧ Below w.heap.size w w' := by
 refine Nd.ind ?_
 intro kk aa ss n sub ih cs h w h0 h1 ht
 obtain ⟨a, cap, rfl, hsub, hlen, hnsa⟩ := Qev ht
 simp only [Nd.kind, Nd.at, Nd.name, Nd.num, Nd.sub] at *
 have IH := Lib.hid ih
 clear ht ih
 by_cases hb : 128 < h
 ·have fin : Hid (dpT (.mk kk aa ss n sub) h = h) := by show _ = _; simp only [dpT]; rw [if_pos hb]
  go_enter Try.func102, Try.ntmps102
  go_wp2_with fail
  go_ret
  exact ⟨Qgj fin.out.symm, (Below.refl _ _).alloc (Nat.le_refl _) _⟩
 ·have fin : Hid (dpT (.mk kk aa ss n sub) h = dpL sub h h) := by show _ = _; simp only [dpT]; rw [if_neg hb]
  have hb2 : h ≤ 128 := by omega
  clear hb
  go_enter Try.func102, Try.ntmps102
  go_wp2_with fail
  go_loopw [5, 15] (fun x i wr => ∃ k : Nat, k ≤ sub.length ∧ i = .int .i64 k ∧ ∃ g : Int, x = .int .i64 g ∧ 0 ≤ g ∧ g ≤ 129 ∧ Hid (dpL (sub.drop k) h g = dpL sub h h) ∧ Below w.heap.size w wr) (fun _ i _ => sub.length - (intOf i).toNat)
  case atStart => exact ⟨0, Nat.zero_le _, rfl, h, rfl, by omega, by omega, rfl, (Below.refl _ _).alloc (Nat.le_refl _) _⟩
  case round =>
   obtain ⟨k, hk, rfl, g, rfl, hg0, hg1, HG, hbel⟩ := hrel
   by_cases hlt : k < sub.length
   ·obtain ⟨b, off, a', cap', rfl, e0, e1, e2, e3, e4, hts⟩ := sub_at hsub hbel k hlt
    have hnext : Hid (dpL (sub.drop (k + 1)) h (if g < dpT sub[k] (h + 1) then dpT sub[k] (h + 1) else g) = dpL sub h h) := by
     have := HG.out
     rw [List.drop_eq_getElem_cons hlt] at this
     simp only [dpL, max_if] at this; exact this
    have hbd := dp_bd sub[k] (h + 1) (by omega)
    go_wp2_with fail
    have hd : Below wr.heap.size wr (wr.alloc (.cells #[.int .i64 sub[k].kind, .int .i64 sub[k].at, .string sub[k].name, .int .i64 sub[k].num, .slice a' sub[k].sub.length cap'] 31)) := (Below.refl _ _).alloc (Nat.le_refl _) _
    refine (IH.out _ (List.getElem_mem hlt) _ (h + 1) _ (by omega) (by omega) (hts.later hd)).mono ?_
    rintro e w' ⟨rfl, hb3⟩
    have hbel2 := hbel.trans ((hd.trans (hb3.mono (by simp))).mono hbel.size)
    clear hb3 hts hd
    go_wp2_with fail
    go_roundw
    case rel => exact ⟨k + 1, by omega, by go_num, _, rfl, by omega, by omega, hnext, hbel2⟩
    case measure => simp [intOf]; omega
   ·have fin2 : Hid (g = dpL sub h h) := by
     have := HG.out
     rw [List.drop_of_length_le (by omega)] at this
     simp only [dpL] at this; exact this
    go_wp2_with fail
    go_ret
    exact ⟨Qgj (by rw [fin.out, fin2.out]), hbel⟩
theorem size0_any (t : Nd) (cs : List Value) (w : World) (ht : NdC w t cs) :
  Calls Try.prog 101 #[.agg cs.toArray] w fun e w' => e = .returned (.int .i64 (sizeT t)) ∧ Below w.heap.size w w' := by
 have ht0 := ht
 obtain ⟨a, cap, rfl, hsub, hlen, hnsa⟩ := Qev ht
 have hd : Below w.heap.size w (w.alloc (.cells #[.int .i64 t.kind, .int .i64 t.at, .string t.name, .int .i64 t.num, .slice a t.sub.length cap] 31)) := (Below.refl _ _).alloc (Nat.le_refl _) _
 go_enter Try.func101, Try.ntmps101
 go_wp2_with fail
 refine (size_any t _ 0 _ (by omega) (by omega) (ht0.later hd)).mono ?_
 rintro e w1 ⟨rfl, hb1⟩
 go_wp2_with fail
 go_ret
 exact ⟨rfl, hd.trans (hb1.mono hd.size)⟩
theorem depth_any (t : Nd) (cs : List Value) (w : World) (ht : NdC w t cs) :
  Calls Try.prog 80 #[.agg cs.toArray] w fun e w' => e = .returned (.int .i64 (Qcn t)) ∧ Below w.heap.size w w' := by
 have ht0 := ht
 obtain ⟨a, cap, rfl, hsub, hlen, hnsa⟩ := Qev ht
 have hd : Below w.heap.size w (w.alloc (.cells #[.int .i64 t.kind, .int .i64 t.at, .string t.name, .int .i64 t.num, .slice a t.sub.length cap] 31)) := (Below.refl _ _).alloc (Nat.le_refl _) _
 by_cases hb : 8192 < sizeT t
 ·have fin : Hid (Qcn t = 129) := if_pos hb
  go_enter Try.func80, Try.ntmps80
  go_wp2_with (go_at_call 101; refine (size0_any t _ _ (ht0.later hd)).mono ?_; rintro e w1 ⟨rfl, hb1⟩)
  go_ret
  exact ⟨Qgj fin.out.symm, hd.trans (hb1.mono hd.size)⟩
 ·have fin : Hid (Qcn t = dpT t 1) := if_neg hb
  go_enter Try.func80, Try.ntmps80
  go_wp2_with fail
  refine (size0_any t _ _ (ht0.later hd)).mono ?_
  rintro e w1 ⟨rfl, hb1⟩
  obtain ⟨c0, c1, c2, c3, c4⟩ := Qhh (by simpa using hb1)
  have hw1 := hd.trans (hb1.mono hd.size)
  clear hb1
  go_wp2_with fail
  refine (deep_any t _ 1 _ (by omega) (by omega) (ht0.later hw1)).mono ?_
  rintro e w2 ⟨rfl, hb2⟩
  go_wp2_with fail
  go_ret
  exact ⟨Qgj fin.out.symm, hw1.trans (hb2.mono hw1.size)⟩
def Qey (t : Nd) : Bool := decide (Qcn t ≤ 128)
theorem small_any (t : Nd) (cs : List Value) (w : World) (ht : NdC w t cs) :
  Calls Try.prog 71 #[.agg cs.toArray] w fun e w' => e = .returned (.bool (Qey t)) ∧ Below w.heap.size w w' := by
 have ht0 := ht
 obtain ⟨a, cap, rfl, hsub, hlen, hnsa⟩ := Qev ht
 have hd : Below w.heap.size w (w.alloc (.cells #[.int .i64 t.kind, .int .i64 t.at, .string t.name, .int .i64 t.num, .slice a t.sub.length cap] 31)) := (Below.refl _ _).alloc (Nat.le_refl _) _
 go_enter Try.func71, Try.ntmps71
 go_wp2_with fail
 refine (depth_any t _ _ (ht0.later hd)).mono ?_
 rintro e w1 ⟨rfl, hb1⟩
 go_wp2_with fail
 go_ret
 exact ⟨rfl, hd.trans (hb1.mono hd.size)⟩
theorem NdCs.append {w : World} : ∀ {a b : List Nd} {ca cb : List (List Value)}, NdCs w a ca → NdCs w b cb → NdCs w (a ++ b) (ca ++ cb) := by
  intro a
  induction a with
  | nil => intro b ca cb h1 h2; simp only [NdCs] at h1; subst h1; exact h2
  | cons t ts ih =>
    intro b ca cb h1 h2
    simp only [NdCs] at h1
    obtain ⟨c, cr, rfl, h3, h4⟩ := h1
    simp only [List.cons_append, NdCs]
    exact ⟨c, cr ++ cb, rfl, h3, ih h4 h2⟩
theorem NdCs.split {w : World} : ∀ {a b : List Nd} {css : List (List Value)}, NdCs w (a ++ b) css → ∃ ca cb, css = ca ++ cb ∧ NdCs w a ca ∧ NdCs w b cb := by
  intro a
  induction a with
  | nil => intro b css h; exact ⟨[], css, rfl, by simp only [NdCs], h⟩
  | cons t ts ih =>
    intro b css h
    simp only [List.cons_append, NdCs] at h
    obtain ⟨c, cr, rfl, h1, h2⟩ := h
    obtain ⟨ca, cb, rfl, h3, h4⟩ := ih h2
    exact ⟨c :: ca, cb, rfl, by simp only [NdCs]; exact ⟨c, ca, rfl, h1, h3⟩, h4⟩
theorem NdCs.take {w : World} {ts : List Nd} {css : List (List Value)} (h : NdCs w ts css) (k : Nat) : NdCs w (ts.take k) (css.take k) := by
 refine NdCs.mk (by rw [List.length_take, List.length_take, h.length]) fun i hi => ?_
 have hi2 : i < ts.length := by rw [List.length_take] at hi; omega
 have hik : i < k := by rw [List.length_take] at hi; omega
 obtain ⟨c, h1, h2⟩ := h.get i hi2
 exact ⟨c, by rw [List.getElem?_take, if_pos hik]; exact h1, by rw [List.getElem_take]; exact h2⟩
end Go.Proofs.Ytahhgpafjiljfaa
