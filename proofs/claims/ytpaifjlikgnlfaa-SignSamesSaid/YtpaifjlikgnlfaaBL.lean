import Derived.Test.YtpaifjlikgnlfaaBE1
import Derived.Deep.RegionLaw
import Derived.Deep.RegionHeld3
import Derived.Deep.QuietTactic
import Derived.Deep.DeepCutAuto
import Derived.Deep.Cut
import Derived.Test.YtpaifjlikgnlfaaBE
import Derived.Test.YtpaifjlikgnlfaaBA3
import Derived.BigQuiet
import Derived.Test.YtpaifjlikgnlfaaBS
import Derived.Test.YtpaifjlikgnlfaaBS1
set_option linter.unusedSimpArgs false
set_option linter.unusedVariables false
set_option maxHeartbeats 16000000
set_option maxRecDepth 100000
namespace Go.Proofs.Ytpaifjlikgnlfaa
open Go.RowKit
variable {K : Nat → Nat → Prop}
theorem Box3.lt {w : World} {B : Nat} {x y z : Value} (h : Box3 w B x y z) : B < w.heap.size := (Array.getElem?_eq_some_iff.1 h).1
def RowS (S : Nat → Prop) (w : World) (v : Value) (n : Nat) (xs : List Value) : Prop :=
 (v = .slice none 0 0 ∧ n = 0 ∧ xs = []) ∨ ∃ g cap cur, v = .slice (some ⟨g, 0, none⟩) n cap ∧ S g ∧ w.heap[g]? = some (.cells cur 30 (0, 0)) ∧ n ≤ cap ∧ cap ≤ maxLen ∧ cur.size = cap * 3 ∧ cur.toList.take (n * 3) = xs
mutual
def ClT (S : Nat → Prop) (w : World) : Tm → List Value → Prop
 | .mk k n sub, cs => ∃ v css, cs = [.int .i64 k, .int .i64 n, v] ∧ RowS S w v sub.length css.flatten ∧ ClTs S w sub css
def ClTs (S : Nat → Prop) (w : World) : List Tm → List (List Value) → Prop
 | [], css => css = []
 | t :: ts, css => ∃ c cr, css = c :: cr ∧ ClT S w t c ∧ ClTs S w ts cr
end
theorem RowS.move {S S' : Nat → Prop} {w w' : World} {v : Value} {n : Nat} {xs : List Value} (h : RowS S w v n xs) (hS : ∀ b, S b → S' b ∧ w'.heap[b]? = w.heap[b]?) : RowS S' w' v n xs := by
 rcases h with h | ⟨g, cap, cur, h1, h2, h3, h4⟩
 ·exact .inl h
 ·exact .inr ⟨g, cap, cur, h1, (hS g h2).1, (hS g h2).2.trans h3, h4⟩
theorem ClTs.all {S S' : Nat → Prop} {w w' : World} {ts : List Tm} (hp : ∀ s ∈ ts, ∀ cs, ClT S w s cs → ClT S' w' s cs) : ∀ {css : List (List Value)}, ClTs S w ts css → ClTs S' w' ts css := by
  induction ts with
  | nil => intro css h; simpa only [ClTs] using h
  | cons t ts ih =>
    intro css h
    simp only [ClTs] at h ⊢
    obtain ⟨c, cr, rfl, h1, h2⟩ := h
    exact ⟨c, cr, rfl, hp t (by simp) c h1, ih (fun s hs => hp s (by simp [hs])) h2⟩
theorem ClT.move {S S' : Nat → Prop} {w w' : World} (hS : ∀ b, S b → S' b ∧ w'.heap[b]? = w.heap[b]?) : ∀ (t : Tm) (cs : List Value), ClT S w t cs → ClT S' w' t cs := by
 refine Tm.ind ?_
 intro k n sub ih cs h
 simp only [ClT] at h ⊢
 obtain ⟨s, css, rfl, h1, h2⟩ := h
 exact ⟨s, css, rfl, h1.move hS, ClTs.all ih h2⟩
theorem ClTs.move {S S' : Nat → Prop} {w w' : World} {ts : List Tm} {css : List (List Value)} (hS : ∀ b, S b → S' b ∧ w'.heap[b]? = w.heap[b]?) (h : ClTs S w ts css) : ClTs S' w' ts css :=
 ClTs.all (fun s _ => ClT.move hS s) h
theorem ClTs.length {S : Nat → Prop} {w : World} : ∀ {ts : List Tm} {css : List (List Value)}, ClTs S w ts css → css.length = ts.length := by
 intro ts
 induction ts with
 | nil => intro css h; simp only [ClTs] at h; subst h; rfl
 | cons t ts ih => intro css h; simp only [ClTs] at h; obtain ⟨c, cr, rfl, _, h2⟩ := h; simp [ih h2]
theorem ClTs.snoc {S : Nat → Prop} {w : World} {t : Tm} {c : List Value} (hc : ClT S w t c) : ∀ {ts : List Tm} {css : List (List Value)}, ClTs S w ts css → ClTs S w (ts ++ [t]) (css ++ [c]) := by
 intro ts
 induction ts with
 | nil => intro css h; simp only [ClTs] at h; subst h; simp only [List.nil_append, ClTs]; exact ⟨_, _, rfl, hc, rfl⟩
 | cons t' ts ih => intro css h; simp only [ClTs] at h; obtain ⟨c', cr, rfl, h1, h2⟩ := h; simp only [List.cons_append, ClTs]; exact ⟨_, _, rfl, h1, ih h2⟩
theorem ClT.three {S : Nat → Prop} {w : World} {t : Tm} {cs : List Value} (h : ClT S w t cs) : cs.length = 3 := by
 cases t; simp only [ClT] at h; obtain ⟨s, css, rfl, _⟩ := h; rfl
theorem ClTs.three {S : Nat → Prop} {w : World} : ∀ {ts : List Tm} {css : List (List Value)}, ClTs S w ts css → ∀ c ∈ css, c.length = 3 := by
  intro ts
  induction ts with
  | nil => intro css h c hc; simp only [ClTs] at h; subst h; cases hc
  | cons t ts ih =>
    intro css h c hc
    simp only [ClTs] at h
    obtain ⟨c0, cr, rfl, h1, h2⟩ := h
    cases hc with
    | head => exact h1.three
    | tail _ hm => exact ih h2 c hm
theorem RowS.cells {S : Nat → Prop} {w : World} {v : Value} {css : List (List Value)} {n : Nat} (h : RowS S w v n css.flatten) (hn : css.length = n) (h3 : ∀ c ∈ css, c.length = 3) : SlF S w 3 v css := by
 rcases h with ⟨rfl, rfl, _⟩ | ⟨g, cap, cur, rfl, hS, hB, hl, hm, hsz, htk⟩
 ·have : css = [] := List.eq_nil_of_length_eq_zero hn
  subst this
  exact ⟨none, 0, rfl, Nat.le_refl _, Nat.zero_le _, fun h => absurd rfl h⟩
 ·refine ⟨some ⟨g, 0, none⟩, cap, by rw [hn], by omega, hm, fun _ => ⟨g, 0, rfl, hS, fun i c hi => ⟨h3 c (List.mem_of_getElem? hi), fun j x hx => ?_⟩⟩⟩
  have hfl := Qem h3 i j c x hi hx
  have hlt : i * 3 + j < n * 3 := by
   have h1 := (List.getElem?_eq_some_iff.1 hi).1
   have h2 := (List.getElem?_eq_some_iff.1 hx).1
   have h4 := h3 c (List.mem_of_getElem? hi)
   have : (i + 1) * 3 ≤ n * 3 := Nat.mul_le_mul_right 3 (by omega)
   omega
  rw [← htk, List.getElem?_take_of_lt hlt] at hfl
  have e : cur = cur.toList.toArray := rfl
  rw [e] at hB
  rw [cell_of_row w g _ _ 30 (0, 0) hB]
  simpa using hfl
def SpD (S : Nat → Prop) (w : World) : Nat → List Value → Prop
 | 0, _ => False
 | d + 1, cs => ∃ k n a len cap, cs = [.int .i64 k, .int .i64 n, .slice a len cap] ∧ len ≤ maxLen ∧
   (0 < len → ∃ b cur, a = some ⟨b, 0, none⟩ ∧ S b ∧ w.heap[b]? = some (.cells cur 30 (0, 0)) ∧ len * 3 ≤ cur.size ∧
    ∀ i, i < len → SpD S w d [cur[i * 3]!, cur[i * 3 + 1]!, cur[i * 3 + 2]!])
structure CI (lo : Nat) (sub : List Tm) (k : Nat) (v : Value) (css : List (List Value)) (wr : World) : Prop where
 cl : ClTs (fun b => lo ≤ b ∧ b < wr.heap.size ∧ (k = 1 → v.ownBlock ≠ some b)) wr (sub.take k) css
 row : RowS (fun b => lo ≤ b ∧ b < wr.heap.size) wr v k css.flatten
 nil : k = 0 → v = .slice none 0 0
theorem CI.own {lo : Nat} {sub : List Tm} {k : Nat} {v : Value} {css : List (List Value)} {wr w2 : World} (h : CI lo sub k v css wr) (hk : k ≤ sub.length) (hb : Below wr.heap.size wr w2) (bs : Nat) (hbs : k = 0 ∨ bs = lo) :
  w2.ownsRow bs 30 3 v k css.flatten := by
 have hl : css.flatten.length = k * 3 := by
  rw [Qfb h.cl.three, h.cl.length, List.length_take, Nat.min_eq_left hk]
 refine ⟨hl, ?_⟩
 rcases h.row with ⟨h1, h2, _⟩ | ⟨g, cap, cur, h1, h2, h3, h4⟩
 ·exact .inl ⟨h1, h2⟩
 ·rcases hbs with h0 | rfl
  ·exact .inl ⟨h.nil h0, h0⟩
  ·exact .inr ⟨g, cap, cur, h1, h2.1, (hb.block g h2.2).trans h3, h4⟩
theorem CI.shape {lo : Nat} {sub : List Tm} {k : Nat} {v : Value} {css : List (List Value)} {wr : World} (h : CI lo sub k v css wr) : ∃ a cap, v = .slice a k cap := by
 rcases h.row with ⟨h1, h2, _⟩ | ⟨g, cap, cur, h1, _⟩
 ·exact ⟨none, 0, by rw [h1, h2]⟩
 ·exact ⟨_, _, h1⟩
theorem CI.step {lo B3 : Nat} {sub : List Tm} {k : Nat} {v v' : Value} {css : List (List Value)} {c : List Value} {wr w1 wl w2 wF : World} (h : CI lo sub k v css wr) (hk : k < sub.length) (hk2 : k < 2) (hlo : lo ≤ wr.heap.size) (hB3 : B3 < lo)
  (hb1 : Below wr.heap.size wr w1) (hc : ClT (fun b => wr.heap.size ≤ b ∧ b < w1.heap.size) w1 sub[k] c) (hbl : Below w1.heap.size w1 wl)
  (hown : w2.ownsRow (if k = 0 then wl.heap.size else lo) 30 3 v' (k + 1) (css.flatten ++ c)) (hg : wl.grownBy w2 v.ownBlock) (hF : ∀ b, b ≠ B3 → wF.heap[b]? = w2.heap[b]?) (hFs : wF.heap.size = w2.heap.size) :
  CI lo sub (k + 1) v' (css ++ [c]) wF := by
 have hs1 := hb1.size
 have hsl := hbl.size
 have hsg := hg.size
 rcases hown.2 with ⟨_, h0⟩ | ⟨g, cap, cur, hv, hg0, hgb, h4⟩
 ·omega
 have hglt : g < w2.heap.size := by obtain ⟨h1, _⟩ := Array.getElem?_eq_some_iff.1 hgb; exact h1
 have hglo : lo ≤ g := by split at hg0 <;> omega
 refine ⟨?_, ?_, fun h => by omega⟩
 ·rw [List.take_succ_eq_append_getElem hk]
  refine ClTs.snoc ?_ ?_
  ·refine ClT.move (fun b hb => ?_) _ _ hc
   have hne : some b ≠ v.ownBlock := by
    rcases h.row with ⟨h1, h2, _⟩ | ⟨g0, cap0, cur0, h1, h2, _⟩
    ·rw [h1]; simp [Value.ownBlock]
    ·rw [h1]; simp [Value.ownBlock]; omega
   refine ⟨⟨by omega, by omega, fun h1 => ?_⟩, ?_⟩
   ·have hk0 : k = 0 := by omega
    rw [if_pos hk0] at hg0
    rw [hv]; simp [Value.ownBlock]; omega
   ·rw [hF b (by omega), hg.block b (by omega) hne, hbl.block b hb.2]
  ·refine ClTs.move (fun b hb => ?_) h.cl
   have hne : some b ≠ v.ownBlock := by
    by_cases hk0 : k = 0
    ·rw [h.nil hk0]; simp [Value.ownBlock]
    ·exact fun e => hb.2.2 (by omega) e.symm
   refine ⟨⟨hb.1, by omega, fun h1 => ?_⟩, ?_⟩
   ·have hk0 : k = 0 := by omega
    rw [if_pos hk0] at hg0
    rw [hv]; simp [Value.ownBlock]; omega
   ·rw [hF b (by omega), hg.block b (by omega) hne, hbl.block b (by omega), hb1.block b hb.2.1]
 ·refine .inr ⟨g, cap, cur, hv, ⟨hglo, by omega⟩, (hF g (by omega)).trans hgb, h4.1, h4.2.1, h4.2.2.1, ?_⟩
  rw [h4.2.2.2]; simp
theorem CI.done {lo : Nat} {sub : List Tm} {k n : Int} {v : Value} {css : List (List Value)} {wr w' : World} {lo' : Nat} (h : CI lo sub sub.length v css wr) (hlo : lo' ≤ lo) (hsz : wr.heap.size ≤ w'.heap.size) (hF : ∀ b, lo ≤ b → b < wr.heap.size → w'.heap[b]? = wr.heap[b]?) :
  ClT (fun b => lo' ≤ b ∧ b < w'.heap.size) w' (.mk k n sub) [.int .i64 k, .int .i64 n, v] := by
 have hcl := h.cl
 rw [List.take_length] at hcl
 simp only [ClT]
 exact ⟨v, css, rfl, h.row.move fun b hb => ⟨⟨by omega, by omega⟩, hF b hb.1 hb.2⟩, hcl.move fun b hb => ⟨⟨by omega, by omega⟩, hF b hb.1 hb.2.1⟩⟩
theorem CI.start {lo : Nat} {sub : List Tm} {wr : World} : CI lo sub 0 (.slice none 0 0) [] wr :=
 ⟨by simp only [List.take_zero, ClTs], .inl ⟨rfl, rfl, rfl⟩, fun _ => rfl⟩
theorem set3_size (w : World) (B : Nat) (u v x : Value) : (((w.setCell ⟨B, 0, none⟩ u).setCell ⟨B, 1, none⟩ v).setCell ⟨B, 2, none⟩ x).heap.size = w.heap.size := by
 simp
variable {K : Nat → Nat → Prop}
theorem cloned_any : ∀ (t : Tm) (cs : List Value) (w : World), Qac t = true → TmC K w t cs →
    Calls Try.prog 30 #[.agg cs.toArray] w fun e w' => ∃ (k' n' : Int) (a : Option Addr) (len cap : Nat), e = .returned (.agg #[.int .i64 k', .int .i64 n', .slice a len cap]) ∧ ClT (fun b => w.heap.size ≤ b ∧ b < w'.heap.size) w' t [.int .i64 k', .int .i64 n', .slice a len cap] ∧ Below w.heap.size w w' := by
  obtain ⟨i0, hi, hz0, hz1, hz2⟩ := info_parts info24
  refine Tm.ind ?_
  intro kk n sub ih cs w hg ht
  have ht0 := ht
  obtain ⟨a, cap, rfl, hsub, hlen⟩ := Qff ht
  simp only [Tm.kind, Tm.num, Tm.sub] at *
  obtain ⟨hh, hgs⟩ := Qcs hg
  have hl2 : sub.length ≤ 2 := by
    have := (head_num hh).2.2.2.2
    have : Qao kk ≤ 2 := by unfold Qao; (repeat' split) <;> omega
    omega
  have IH := Hh ih
  have HGS := Hh hgs
  have HL2 := Hh hl2
  clear ht ih hg hh hgs hl2
  have BX0 : Hid (Box3 (((w.alloc (.cells #[.int .i64 kk, .int .i64 n, .slice a sub.length cap] 30)).alloc (.cells #[.int .i64 0, .int .i64 0, .slice none 0 0] 30)).alloc (.cells #[.int .i64 kk, .int .i64 n, .slice none 0 0] 30)) (w.heap.size + 1 + 1) (.int .i64 kk) (.int .i64 n) (.slice none 0 0)) := by
    have h := Box3.new ((w.alloc (.cells #[.int .i64 kk, .int .i64 n, .slice a sub.length cap] 30)).alloc (.cells #[.int .i64 0, .int .i64 0, .slice none 0 0] 30)) (.int .i64 kk) (.int .i64 n) (.slice none 0 0)
    simp at h
    exact h
  have BX1 : Hid (Box3 (((w.alloc (.cells #[.int .i64 kk, .int .i64 n, .slice a sub.length cap] 30)).alloc (.cells #[.int .i64 0, .int .i64 0, .slice none 0 0] 30)).alloc (.cells #[.int .i64 kk, .int .i64 n, .slice none 0 0] 30)) (w.heap.size + 1) (.int .i64 0) (.int .i64 0) (.slice none 0 0)) := by
    have h := Box3.new (w.alloc (.cells #[.int .i64 kk, .int .i64 n, .slice a sub.length cap] 30)) (.int .i64 0) (.int .i64 0) (.slice none 0 0)
    have h2 := h.later ((Below.refl _ _).alloc (Nat.le_refl _) (.cells #[.int .i64 kk, .int .i64 n, .slice none 0 0] 30)) (by simp)
    simp at h2
    exact h2
  have hd : Hid (Below w.heap.size w (((w.alloc (.cells #[.int .i64 kk, .int .i64 n, .slice a sub.length cap] 30)).alloc (.cells #[.int .i64 0, .int .i64 0, .slice none 0 0] 30)).alloc (.cells #[.int .i64 kk, .int .i64 n, .slice none 0 0] 30))) := (((Below.refl _ _).alloc (Nat.le_refl _) _).alloc (by simp) _).alloc (by simp; omega) _
  go_enter Try.func30, Try.ntmps30
  go_wp2_with fail
  go_loopw [14] (fun i wr => ∃ (k : Nat) (v : Value) (css : List (List Value)), k ≤ sub.length ∧ i = .int .i64 k ∧ Box3 wr (w.heap.size + 1 + 1) (.int .i64 kk) (.int .i64 n) v ∧ Box3 wr (w.heap.size + 1) (.int .i64 0) (.int .i64 0) (.slice none 0 0) ∧ CI (w.heap.size + 3) sub k v css wr ∧ Below w.heap.size w wr ∧ w.heap.size + 3 ≤ wr.heap.size) (fun i _ => sub.length - (intOf i).toNat)
  case atStart => exact ⟨0, _, [], Nat.zero_le _, rfl, BX0.out, BX1.out, CI.start, hd.out, by simp⟩
  case round =>
    obtain ⟨k, v, css, hk, rfl, BX, BR, hci, hbel, hlo⟩ := hrel
    by_cases hlt : k < sub.length
    · obtain ⟨bb, off, a', cap', rfl, e0, e1, e2, hts⟩ := csub_at hsub hbel k hlt
      obtain ⟨av, cv, rfl⟩ := hci.shape
      have hbA : Below wr.heap.size wr (wr.alloc (.cells #[.int .i64 sub[k].kind, .int .i64 sub[k].num, .slice a' sub[k].sub.length cap'] 30)) := (Below.refl _ _).alloc (Nat.le_refl _) _
      have hbAd : Below wr.heap.size wr (wr.alloc (.cells #[.int .i64 sub[k].kind, .int .i64 sub[k].num, .slice a' sub[k].sub.length cap'] 30)).drew := hbA.drew
      have HT2 := Hh (hts.later hbAd)
      have BXA := Hh (BX.later hbAd (by omega))
      have BRA := Hh (BR.later hbAd (by omega))
      obtain ⟨-, -, d2⟩ := BXA.out.cells
      have S0 : (wr.alloc (.cells #[.int .i64 sub[k].kind, .int .i64 sub[k].num, .slice a' sub[k].sub.length cap'] 30)).drew.cell? ⟨wr.heap.size, 0, none⟩ = some (.int .i64 sub[k].kind) ∧ (wr.alloc (.cells #[.int .i64 sub[k].kind, .int .i64 sub[k].num, .slice a' sub[k].sub.length cap'] 30)).drew.cell? ⟨wr.heap.size, 1, none⟩ = some (.int .i64 sub[k].num) ∧ (wr.alloc (.cells #[.int .i64 sub[k].kind, .int .i64 sub[k].num, .slice a' sub[k].sub.length cap'] 30)).drew.cell? ⟨wr.heap.size, 2, none⟩ = some (.slice a' sub[k].sub.length cap') := (Box3.new wr _ _ _).cells
      have hSz : (wr.alloc (.cells #[.int .i64 sub[k].kind, .int .i64 sub[k].num, .slice a' sub[k].sub.length cap'] 30)).drew.heap.size = wr.heap.size + 1 := by simp
      have HC := Hh hci
      have HG := Hh (HGS.out sub[k] (List.getElem_mem hlt))
      have HM := Hh (List.getElem_mem hlt)
      have HLT := Hh hlt
      have HBEL := Hh hbel
      have HSZ := Hh hSz
      have HS0 := Hh S0
      have BXh := Hh BX
      have BRh := Hh BR
      clear hci hts hbA BX BR hSz S0 hbel
      have HX : Hid (∀ w1, Below (wr.heap.size + 1) (wr.alloc (.cells #[.int .i64 sub[k].kind, .int .i64 sub[k].num, .slice a' sub[k].sub.length cap'] 30)).drew w1 → Box3 w1 wr.heap.size (.int .i64 sub[k].kind) (.int .i64 sub[k].num) (.slice a' sub[k].sub.length cap')) := by
        intro w1 hb
        have h : Box3 (wr.alloc (.cells #[.int .i64 sub[k].kind, .int .i64 sub[k].num, .slice a' sub[k].sub.length cap'] 30)).drew wr.heap.size (.int .i64 sub[k].kind) (.int .i64 sub[k].num) (.slice a' sub[k].sub.length cap') := Box3.new wr _ _ _
        exact h.later hb (Nat.lt_succ_self _)
      have HNE : Hid (some wr.heap.size ≠ (Value.slice av k cv).ownBlock) := by
        rcases HC.out.row with ⟨h1, h2, _⟩ | ⟨g0, cap0, cur0, h1, h2, _⟩
        · show _ ≠ _; rw [h1]; simp [Value.ownBlock]
        · show _ ≠ _; rw [h1]; simp [Value.ownBlock]; omega
      have HY : Hid (∀ w1, Below wr.heap.size wr w1 → w1.cell? ⟨w.heap.size + 1 + 1, 2, none⟩ = some (.slice av k cv) ∧ w1.frozen? ⟨w.heap.size + 1 + 1, 2, none⟩ = false) := fun w1 hb => ⟨(BXh.out.later hb (by omega)).cells.2.2, (BXh.out.later hb (by omega)).free 2⟩
      have CALL : Hid (Calls Try.prog 30 #[.agg #[.int .i64 sub[k].kind, .int .i64 sub[k].num, .slice a' sub[k].sub.length cap']] (wr.alloc (.cells #[.int .i64 sub[k].kind, .int .i64 sub[k].num, .slice a' sub[k].sub.length cap'] 30)).drew fun e w' => ∃ (k' n' : Int) (a : Option Addr) (len cap : Nat), e = .returned (.agg #[.int .i64 k', .int .i64 n', .slice a len cap]) ∧ ClT (fun b => wr.heap.size ≤ b ∧ b < w'.heap.size) w' sub[k] [.int .i64 k', .int .i64 n', .slice a len cap] ∧ Below (wr.heap.size + 1) (wr.alloc (.cells #[.int .i64 sub[k].kind, .int .i64 sub[k].num, .slice a' sub[k].sub.length cap'] 30)).drew w') := by
        refine (IH.out sub[k] HM.out _ _ HG.out HT2.out).mono ?_
        rintro e w1 ⟨k', n', a1, l1, c1, rfl, hcl1, hb1⟩
        rw [HSZ.out] at hb1
        exact ⟨k', n', a1, l1, c1, rfl, ClT.move (fun b hb => ⟨⟨by have := hb.1; rw [HSZ.out] at this; omega, hb.2⟩, rfl⟩) _ _ hcl1, hb1⟩
      have HBD := Hh hbAd
      have CALL2 : Hid (Calls Try.prog 30 #[.agg #[.int .i64 sub[k].kind, .int .i64 sub[k].num, .slice a' sub[k].sub.length cap']] (wr.alloc (.cells #[.int .i64 sub[k].kind, .int .i64 sub[k].num, .slice a' sub[k].sub.length cap'] 30)).drew fun e w1 => ∃ (k' n' : Int) (a1 : Option Addr) (l1 c1 : Nat), e = .returned (.agg #[.int .i64 k', .int .i64 n', .slice a1 l1 c1]) ∧ ClT (fun b => wr.heap.size ≤ b ∧ b < w1.heap.size) w1 sub[k] [.int .i64 k', .int .i64 n', .slice a1 l1 c1] ∧ Below (wr.heap.size + 1) (wr.alloc (.cells #[.int .i64 sub[k].kind, .int .i64 sub[k].num, .slice a' sub[k].sub.length cap'] 30)).drew w1 ∧ Below wr.heap.size wr w1 ∧
          (w1.alloc (.cells #[.int .i64 k', .int .i64 n', .slice a1 l1 c1] 30)).ownsRow (if k = 0 then (w1.alloc (.cells #[.int .i64 k', .int .i64 n', .slice a1 l1 c1] 30)).heap.size else w.heap.size + 3) 30 3 (.slice av k cv) k css.flatten ∧ SlN (w1.alloc (.cells #[.int .i64 k', .int .i64 n', .slice a1 l1 c1] 30)) 3 (.slice (some ⟨w1.heap.size, 0, none⟩) 1 1) [[.int .i64 k', .int .i64 n', .slice a1 l1 c1]] ∧ (if k = 0 then (w1.alloc (.cells #[.int .i64 k', .int .i64 n', .slice a1 l1 c1] 30)).heap.size else w.heap.size + 3) ≤ (w1.alloc (.cells #[.int .i64 k', .int .i64 n', .slice a1 l1 c1] 30)).heap.size ∧ w.heap.size + 1 + 1 < (if k = 0 then (w1.alloc (.cells #[.int .i64 k', .int .i64 n', .slice a1 l1 c1] 30)).heap.size else w.heap.size + 3)) := by
        refine CALL.out.mono ?_
        rintro e w1 ⟨k', n', a1, l1, c1, rfl, hcl1, hb1⟩
        have hb1' : Below wr.heap.size wr w1 := HBD.out.trans (hb1.mono (Nat.le_succ _))
        have h1s := hb1'.size
        have hlt0 := HLT.out
        have hl20 := HL2.out
        have HBS : w.heap.size + 1 + 1 < (if k = 0 then (w1.alloc (.cells #[.int .i64 k', .int .i64 n', .slice a1 l1 c1] 30)).heap.size else w.heap.size + 3) := by
          split
          · simp; omega
          · omega
        have hbz : (if k = 0 then (w1.alloc (.cells #[.int .i64 k', .int .i64 n', .slice a1 l1 c1] 30)).heap.size else w.heap.size + 3) ≤ (w1.alloc (.cells #[.int .i64 k', .int .i64 n', .slice a1 l1 c1] 30)).heap.size := by
          split
          · exact Nat.le_refl _
          · simp; omega
        have hown := HC.out.own (by omega) (hb1'.alloc h1s (.cells #[.int .i64 k', .int .i64 n', .slice a1 l1 c1] 30)) (if k = 0 then (w1.alloc (.cells #[.int .i64 k', .int .i64 n', .slice a1 l1 c1] 30)).heap.size else w.heap.size + 3) (Decidable.byCases (fun h : k = 0 => Or.inl h) (fun h => Or.inr (if_neg h)))
        have hsl : SlN (w1.alloc (.cells #[.int .i64 k', .int .i64 n', .slice a1 l1 c1] 30)) 3 (.slice (some ⟨w1.heap.size, 0, none⟩) 1 1) [[.int .i64 k', .int .i64 n', .slice a1 l1 c1]] :=
          SlN.own (own_litN (w := w1) (xs := [.int .i64 k', .int .i64 n', .slice a1 l1 c1]) (n := 1) (size := 3) 30 rfl (by decide)) rfl (by intro c hc; simp at hc; subst hc; rfl)
        exact ⟨k', n', a1, l1, c1, rfl, hcl1, hb1, hb1', hown, hsl, hbz, HBS⟩
      have HK2 : Hid (k ≤ 1) := by have := HLT.out; have := HL2.out; show _ ≤ _; omega
      obtain ⟨z0, z1, z2⟩ := HS0.out
      clear hbAd
      go_wp2_with fail
      go_region_law
        (first
          | (go_simp
             go_at_call 30
             refine CALL2.out.mono ?_
             rintro e w1 ⟨k', n', a1, l1, c1, rfl, hcl1, hb1, hb1', hown, hsl, hbz, HBS⟩
             have Y0 := Hh (HX.out w1 hb1)
             have d3 := (HY.out w1 hb1').1
             have g4 := Hh (HY.out _ (hb1'.alloc hb1'.size (.cells #[.int .i64 k', .int .i64 n', .slice a1 l1 c1] 30)))
             have d4 := g4.out.1
             replace hown := Hh hown
             replace hsl := Hh hsl
             replace hbz := Hh hbz
             replace HBS := Hh HBS
             replace hcl1 := Hh hcl1)
          | (refine step_app_sl rfl (.tmp 19) (.tmp 22) 28 rfl (if k = 0 then (w1.alloc (.cells #[.int .i64 k', .int .i64 n', .slice a1 l1 c1] 30)).heap.size else w.heap.size + 3) 30 i0 (.agg #[.int .i64 0, .int .i64 0, .slice none 0 0]) 3 40 Try.underlying28 hi hz0 hz1 hz2 rfl (by decide) _ _ _ hown.out _ _ hsl.out rfl rfl (by intro c hc u hu; simp at hc; subst hc; simp at hu; rcases hu with rfl | rfl | rfl <;> rfl) (by intro c hc; simp at hc; subst hc; rfl) (by have := HK2.out; unfold maxLen; simp; omega) (by have := HK2.out; simp; omega) hbz.out ?_
             intro v2 w2 hown2 hb2 hg2
             obtain ⟨g2, cap2, rfl⟩ := own_sh3 hown2 (by simp)
             have t0 := (hb2.cell (p := ⟨w.heap.size + 1 + 1, 2, none⟩) HBS.out).trans g4.out.1
             have t1 := (hb2.frozen (p := ⟨w.heap.size + 1 + 1, 2, none⟩) HBS.out).trans g4.out.2
             replace hown2 := Hh hown2
             replace hb2 := Hh hb2
             replace hg2 := Hh hg2))
      all_goals
        have h1w := hb1'.size
        have BX2 : Hid (Box3 w2 (w.heap.size + 1 + 1) (.int .i64 kk) (.int .i64 n) (.slice av k cv)) := (BXh.out.later (hb1'.alloc h1w (.cells #[.int .i64 k', .int .i64 n', .slice a1 l1 c1] 30)) (by omega)).later hb2.out HBS.out
        have BR2 : Hid (Box3 w2 (w.heap.size + 1) (.int .i64 0) (.int .i64 0) (.slice none 0 0)) := (BRh.out.later (hb1'.alloc h1w (.cells #[.int .i64 k', .int .i64 n', .slice a1 l1 c1] 30)) (by omega)).later hb2.out (Nat.lt_trans (Nat.lt_succ_self _) HBS.out)
        have hF : Below w.heap.size w (w2.setCell ⟨w.heap.size + 1 + 1, 2, none⟩ (.slice (some ⟨g2, 0, none⟩) (k + 1) cap2)) :=
          (((HBEL.out.trans (hb1'.mono HBEL.out.size)).alloc (by omega) _).trans (hb2.out.mono (Nat.le_of_lt (Nat.lt_trans (Nat.lt_trans (Nat.lt_succ_self _) (Nat.lt_succ_self _)) HBS.out)))).setCell (p := ⟨w.heap.size + 1 + 1, 2, none⟩) (show w.heap.size ≤ w.heap.size + 1 + 1 by omega) _
        have hsz2 := hg2.out.size
        have CIF := CI.step (B3 := w.heap.size + 1 + 1) (wF := w2.setCell ⟨w.heap.size + 1 + 1, 2, none⟩ (.slice (some ⟨g2, 0, none⟩) (k + 1) cap2)) HC.out HLT.out (by have := HK2.out; omega) hlo (by omega) hb1' hcl1.out ((Below.refl _ _).alloc (Nat.le_refl _) (.cells #[.int .i64 k', .int .i64 n', .slice a1 l1 c1] 30)) (by simpa using hown2.out) hg2.out (fun b hb => Below.heap_setCell _ _ _ _ hb) (by simp)
        clear hown2 hg2 hb2 hb1' hb1 hcl1 t0 t1 d2 d3 d4
        go_wp2_with fail
        go_roundw
        case rel => exact ⟨k + 1, _, _, HLT.out, by simp, set_block BX2.out 2 _, by
          have h := BR2.out
          unfold Box3 at h ⊢
          rw [Below.heap_setCell _ _ _ _ (show w.heap.size + 1 ≠ w.heap.size + 1 + 1 by omega)]; exact h, CIF, hF, by simp at hsz2 ⊢; omega⟩
        case measure => have := HLT.out; simp [intOf]; omega
    · obtain rfl : k = sub.length := by omega
      obtain ⟨av, cv, rfl⟩ := hci.shape
      obtain ⟨c0, c1, c2⟩ := BX.cells
      obtain ⟨q0, q1, q2⟩ := BR.cells
      have f0 := BR.free 0
      have f1 := BR.free 1
      have f2 := BR.free 2
      go_wp2_with fail
      have hres := CI.done (k := kk) (n := n) (lo' := w.heap.size) (w' := ((wr.setCell ⟨w.heap.size + 1, 0, none⟩ (.int .i64 kk)).setCell ⟨w.heap.size + 1, 1, none⟩ (.int .i64 n)).setCell ⟨w.heap.size + 1, 2, none⟩ (.slice av sub.length cv)) hci (by omega) (by simp) (fun b h1 h2 => Qej _ _ _ _ _ _ (by omega))
      exact bodyPost_ret (v := .agg #[.int .i64 kk, .int .i64 n, .slice av sub.length cv]) (by simp [results, Try.results30, go_sem, q0, q1, q2]) rfl ⟨kk, n, av, _, cv, rfl, hres, Qdy hbel (by omega) _ _ _⟩
variable {K : Nat → Nat → Prop}
theorem shaped_any (t : Tm) (cs : List Value) (w : World) (ht : TmC K w t cs) : Calls Try.prog 27 #[.agg cs.toArray] w fun e w' => e = .returned (.bool (Qad t)) ∧ Below w.heap.size w w' :=
 ((Qca t).mono fun _ _ h => h.1).top (Qav (rel_tmc (J := K0 w) (fun _ _ u _ h => ⟨u, h⟩) ht) (Qbz _ _))
theorem copy_any (t : Tm) (cs : List Value) (w : World) (ht : TmC K w t cs) :
  Calls Try.prog 19 #[.agg cs.toArray] w fun e w' => ∃ (k' n' : Int) (a : Option Addr) (len cap : Nat), e = .returned (.agg #[.int .i64 k', .int .i64 n', .slice a len cap]) ∧ Below w.heap.size w w' ∧
   (Qad t = true → ClT (fun b => w.heap.size ≤ b ∧ b < w'.heap.size) w' t [.int .i64 k', .int .i64 n', .slice a len cap]) ∧ (Qad t = false → k' = 0 ∧ n' = 0 ∧ a = none ∧ len = 0 ∧ cap = 0) := by
 have ht0 := ht
 obtain ⟨a, cap, rfl, hsub, hlen⟩ := Qff ht
 clear hsub ht
 have hd : Below w.heap.size w ((w.alloc (.cells #[.int .i64 t.kind, .int .i64 t.num, .slice a t.sub.length cap] 30)).alloc (.cells #[.int .i64 0, .int .i64 0, .slice none 0 0] 30)) := ((Below.refl _ _).alloc (Nat.le_refl _) _).alloc (by simp) _
 have BX0 : Box3 ((w.alloc (.cells #[.int .i64 t.kind, .int .i64 t.num, .slice a t.sub.length cap] 30)).alloc (.cells #[.int .i64 0, .int .i64 0, .slice none 0 0] 30)) w.heap.size (.int .i64 t.kind) (.int .i64 t.num) (.slice a t.sub.length cap) :=
  (Box3.new w _ _ _).later ((Below.refl _ _).alloc (Nat.le_refl _) _) (by simp)
 have BR0 : Box3 ((w.alloc (.cells #[.int .i64 t.kind, .int .i64 t.num, .slice a t.sub.length cap] 30)).alloc (.cells #[.int .i64 0, .int .i64 0, .slice none 0 0] 30)) (w.heap.size + 1) (.int .i64 0) (.int .i64 0) (.slice none 0 0) := by
  have h := Box3.new (w.alloc (.cells #[.int .i64 t.kind, .int .i64 t.num, .slice a t.sub.length cap] 30)) (.int .i64 0) (.int .i64 0) (.slice none 0 0)
  simp at h
  exact h
 go_enter Try.func19, Try.ntmps19
 go_wp2_with fail
 refine (shaped_any t _ _ (ht0.later hd)).mono ?_
 rintro e w1 ⟨rfl, hb1⟩
 have hw1 := hd.trans (hb1.mono hd.size)
 have hs1 := hb1.size
 simp at hs1
 have BX := BX0.later hb1 BX0.lt
 have BR := BR0.later hb1 BR0.lt
 obtain ⟨c0, c1, c2⟩ := BX.cells
 by_cases hs : Qad t = true
 ·have hg : Qac t = true := by
   have h := hs
   unfold Qad at h
   simp only [Bool.and_eq_true] at h
   exact h.2
  have HS := Hh hs
  rw [hs]
  clear hs
  go_wp2_with fail
  refine (cloned_any t _ _ hg (ht0.later hw1)).mono ?_
  rintro e w2 ⟨k', n', a', len, cap', rfl, hcl, hb2⟩
  have BR2 := BR.later hb2 BR.lt
  obtain ⟨q0, q1, q2⟩ := BR2.cells
  have f0 := BR2.free 0
  have f1 := BR2.free 1
  have f2 := BR2.free 2
  have hw2 := hw1.trans (hb2.mono hw1.size)
  have HC : Hid (∀ u v x, ClT (fun b => w.heap.size ≤ b ∧ b < (((w2.setCell ⟨w.heap.size + 1, 0, none⟩ u).setCell ⟨w.heap.size + 1, 1, none⟩ v).setCell ⟨w.heap.size + 1, 2, none⟩ x).heap.size) (((w2.setCell ⟨w.heap.size + 1, 0, none⟩ u).setCell ⟨w.heap.size + 1, 1, none⟩ v).setCell ⟨w.heap.size + 1, 2, none⟩ x) t [.int .i64 k', .int .i64 n', .slice a' len cap']) := by
   intro u v x
   refine ClT.move (fun b hb => ⟨⟨by omega, by rw [set3_size]; exact hb.2⟩, Qej _ _ _ _ _ _ (by omega)⟩) _ _ hcl
  clear hcl hb2 BR2 c0 c1 c2
  go_wp2_with fail
  exact bodyPost_ret (v := .agg #[.int .i64 k', .int .i64 n', .slice a' len cap']) (by simp [results, Try.results19, go_sem, q0, q1, q2]) rfl ⟨k', n', a', len, cap', rfl, Qdy hw2 (by omega) _ _ _, fun _ => HC.out _ _ _, fun h => by rw [HS.out] at h; cases h⟩
 ·have hs : Qad t = false := by simpa using hs
  have HS := Hh hs
  rw [hs]
  clear hs
  obtain ⟨q0, q1, q2⟩ := BR.cells
  have f0 := BR.free 0
  have f1 := BR.free 1
  have f2 := BR.free 2
  go_wp2_with fail
  exact bodyPost_ret (v := .agg #[.int .i64 0, .int .i64 0, .slice none 0 0]) (by simp [results, Try.results19, go_sem, q0, q1, q2]) rfl ⟨0, 0, none, 0, 0, rfl, Qdy hw1 (by omega) _ _ _, (fun h => by rw [HS.out] at h; cases h), fun _ => ⟨rfl, rfl, rfl, rfl, rfl⟩⟩
theorem SpD.leaf (S : Nat → Prop) (w : World) (d : Nat) (k n : Int) : SpD S w (d + 1) [.int .i64 k, .int .i64 n, .slice none 0 0] := by
 simp only [SpD]
 exact ⟨k, n, none, 0, 0, rfl, Nat.zero_le _, fun h => by omega⟩
theorem SpD.move {S : Nat → Prop} {w w' : World} (hS : ∀ b, S b → w'.heap[b]? = w.heap[b]?) : ∀ (d : Nat) (cs : List Value), SpD S w d cs → SpD S w' d cs := by
  intro d
  induction d with
  | zero => intro cs h; simp only [SpD] at h
  | succ d ih =>
    intro cs h
    simp only [SpD] at h ⊢
    obtain ⟨k, n, a, len, cap, rfl, hm, hr⟩ := h
    refine ⟨k, n, a, len, cap, rfl, hm, fun h0 => ?_⟩
    obtain ⟨b, cur, ha, hb, hB, hsz, hi⟩ := hr h0
    exact ⟨b, cur, ha, hb, (hS b hb).trans hB, hsz, fun i h => ih _ (hi i h)⟩
theorem SpD.put {S : Nat → Prop} {w w' : World} {b0 o : Nat} {cur0 cur1 : Array Value} {k0 n0 : Int} (h0 : w.heap[b0]? = some (.cells cur0 30 (0, 0))) (h1 : w'.heap[b0]? = some (.cells cur1 30 (0, 0))) (hs : cur1.size = cur0.size)
    (hat : cur1[o * 3]! = .int .i64 k0 ∧ cur1[o * 3 + 1]! = .int .i64 n0 ∧ cur1[o * 3 + 2]! = .slice none 0 0) (hne : ∀ i, i ≠ o → cur1[i * 3]! = cur0[i * 3]! ∧ cur1[i * 3 + 1]! = cur0[i * 3 + 1]! ∧ cur1[i * 3 + 2]! = cur0[i * 3 + 2]!)
    (hS : ∀ b, b ≠ b0 → S b → w'.heap[b]? = w.heap[b]?) : ∀ (d : Nat) (cs : List Value), SpD S w d cs → SpD S w' d cs := by
  intro d
  induction d with
  | zero => intro cs h; simp only [SpD] at h
  | succ d ih =>
    intro cs h
    simp only [SpD] at h ⊢
    obtain ⟨k, n, a, len, cap, rfl, hm, hr⟩ := h
    refine ⟨k, n, a, len, cap, rfl, hm, fun hl => ?_⟩
    obtain ⟨b, cur, ha, hb, hB, hsz, hi⟩ := hr hl
    by_cases hbb : b = b0
    · subst hbb
      rw [h0] at hB
      obtain rfl : cur0 = cur := by injection hB with h; injection h
      refine ⟨b, cur1, ha, hb, h1, by omega, fun i hlt => ?_⟩
      by_cases hio : i = o
      · subst hio
        rw [hat.1, hat.2.1, hat.2.2]
        cases d with
        | zero => have := hi i hlt; simp only [SpD] at this
        | succ d => exact SpD.leaf S w' d k0 n0
      · obtain ⟨e0, e1, e2⟩ := hne i hio
        rw [e0, e1, e2]
        exact ih _ (hi i hlt)
    · exact ⟨b, cur, ha, hb, (hS b hbb hb).trans hB, hsz, fun i h => ih _ (hi i h)⟩
theorem ClT.toSp {S : Nat → Prop} {w : World} : ∀ (t : Tm) (cs : List Value), ClT S w t cs → ∃ N, ∀ d, N ≤ d → SpD S w d cs := by
  refine Tm.ind ?_
  intro k n sub ih cs h
  simp only [ClT] at h
  obtain ⟨v, css, rfl, hrow, hcl⟩ := h
  have h3 := hcl.three
  have hl := hcl.length
  have hN : ∃ N, ∀ d, N ≤ d → ∀ c ∈ css, SpD S w d c := by
    clear hrow h3 hl
    induction sub generalizing css with
    | nil => simp only [ClTs] at hcl; subst hcl; exact ⟨0, fun d _ c hc => by cases hc⟩
    | cons t ts iht =>
      simp only [ClTs] at hcl
      obtain ⟨c, cr, rfl, h1, h2⟩ := hcl
      obtain ⟨N1, hN1⟩ := ih t (by simp) c h1
      obtain ⟨N2, hN2⟩ := iht (fun s hs => ih s (by simp [hs])) cr h2
      refine ⟨max N1 N2, fun d hd c' hc' => ?_⟩
      cases hc' with
      | head => exact hN1 d (by omega)
      | tail _ hm => exact hN2 d (by omega) c' hm
  obtain ⟨N, hN⟩ := hN
  refine ⟨N + 1, fun d hd => ?_⟩
  obtain ⟨d, rfl⟩ : ∃ d', d = d' + 1 := ⟨d - 1, by omega⟩
  simp only [SpD]
  rcases hrow with ⟨rfl, h0, _⟩ | ⟨g, cap, cur, rfl, hS, hB, hcap, hm, hsz, htk⟩
  · exact ⟨k, n, none, 0, 0, rfl, Nat.zero_le _, fun h => by omega⟩
  · refine ⟨k, n, some ⟨g, 0, none⟩, sub.length, cap, rfl, by omega, fun _ => ⟨g, cur, rfl, hS, hB, by rw [hsz]; exact Nat.mul_le_mul_right 3 hcap, fun i hi => ?_⟩⟩
    have hci : css[i]? = some css[i] := List.getElem?_eq_getElem (by omega)
    obtain ⟨c0, c1, c2, hc⟩ : ∃ a b c, css[i] = [a, b, c] := by
      have h := h3 css[i] (List.getElem_mem (by omega))
      match css[i], h with
      | [a, b, c], _ => exact ⟨a, b, c, rfl⟩
    have at' : ∀ j x, j < 3 → css[i][j]? = some x → cur[i * 3 + j]! = x := by
      intro j x hj hx
      have hf := Qem h3 i j css[i] x hci hx
      have hlt : i * 3 + j < sub.length * 3 := by omega
      rw [← htk, List.getElem?_take_of_lt hlt] at hf
      have : cur[i * 3 + j]? = some x := by simpa using hf
      rw [getElem!_def, this]
    have e0 := at' 0 c0 (by omega) (by rw [hc]; rfl)
    have e1 := at' 1 c1 (by omega) (by rw [hc]; rfl)
    have e2 := at' 2 c2 (by omega) (by rw [hc]; rfl)
    rw [Nat.add_zero] at e0
    rw [e0, e1, e2, ← hc]
    exact hN d (by omega) _ (List.getElem_mem (by omega))
theorem Qfr (w : World) (b k i j l : Nat) (u v x : Value) (h : k ≠ b) : (((w.setCell ⟨b, i, none⟩ u).setCell ⟨b, j, none⟩ v).setCell ⟨b, l, none⟩ x).heap[k]? = w.heap[k]? := by
 rw [Below.heap_setCell _ _ _ _ h, Below.heap_setCell _ _ _ _ h, Below.heap_setCell _ _ _ _ h]
theorem put_at {cur : Array Value} {j : Nat} {u v x : Value} (h : j * 3 + 2 < cur.size) :
  let c := ((cur.setIfInBounds (j * 3) u).setIfInBounds (j * 3 + 1) v).setIfInBounds (j * 3 + 2) x
  c.size = cur.size ∧ (c[j * 3]! = u ∧ c[j * 3 + 1]! = v ∧ c[j * 3 + 2]! = x) ∧ ∀ i, i ≠ j → c[i * 3]! = cur[i * 3]! ∧ c[i * 3 + 1]! = cur[i * 3 + 1]! ∧ c[i * 3 + 2]! = cur[i * 3 + 2]! := by
 intro c
 have hg : ∀ m : Nat, c[m]? = if m = j * 3 + 2 then some x else if m = j * 3 + 1 then some v else if m = j * 3 then some u else cur[m]? := by
  intro m
  simp only [c, Array.getElem?_setIfInBounds, Array.size_setIfInBounds]
  (repeat' split) <;> first | rfl | (exfalso; omega)
 refine ⟨by simp [c], ⟨?_, ?_, ?_⟩, fun i hi => ⟨?_, ?_, ?_⟩⟩
 ·rw [getElem!_def, hg, if_neg (by omega), if_neg (by omega), if_pos rfl]
 ·rw [getElem!_def, hg, if_neg (by omega), if_pos rfl]
 ·rw [getElem!_def, hg, if_pos rfl]
 ·rw [getElem!_def, getElem!_def, hg, if_neg (by omega), if_neg (by omega), if_neg (by omega)]
 ·rw [getElem!_def, getElem!_def, hg, if_neg (by omega), if_neg (by omega), if_neg (by omega)]
 ·rw [getElem!_def, getElem!_def, hg, if_neg (by omega), if_neg (by omega), if_neg (by omega)]
theorem spoil_any (S : Nat → Prop) (lo : Nat) (hlo : ∀ b, S b → lo ≤ b) : ∀ (d : Nat) (cs : List Value) (w : World), SpD S w d cs → (∀ b, S b → b < w.heap.size) → lo ≤ w.heap.size →
    Calls Try.prog 9 #[.agg cs.toArray] w fun e w' => e = .returned (.tuple #[]) ∧ Below lo w w' ∧ (∀ b, b < w.heap.size → ¬ S b → w'.heap[b]? = w.heap[b]?) ∧ (∀ d cs, SpD S w d cs → SpD S w' d cs) := by
  intro d
  induction d with
  | zero => intro cs w h; simp only [SpD] at h
  | succ d ih =>
    intro cs w h hS hl
    have h0 := h
    simp only [SpD] at h
    obtain ⟨k, n, a, len, cap, rfl, hm, hr⟩ := h
    have hlen : len ≤ 9223372036854775807 := by unfold maxLen at hm; omega
    go_enter Try.func9, Try.ntmps9
    go_wp2_with fail
    go_loopw [2] (fun i wr => ∃ j : Nat, j ≤ len ∧ i = .int .i64 j ∧ Box3 wr w.heap.size (.int .i64 k) (.int .i64 n) (.slice a len cap) ∧ Below lo w wr ∧ (∀ b, b < w.heap.size → ¬ S b → wr.heap[b]? = w.heap[b]?) ∧ (∀ d cs, SpD S w d cs → SpD S wr d cs)) (fun i _ => len - (intOf i).toNat)
    case atStart => exact ⟨0, Nat.zero_le _, rfl, Box3.new _ _ _ _, (Below.refl _ _).alloc hl _, fun b hb _ => ((Below.refl _ _).alloc (Nat.le_refl _) _).block b hb, fun d cs h => SpD.move (fun b hb => ((Below.refl _ _).alloc (Nat.le_refl _) _).block b (hS b hb)) d cs h⟩
    case round =>
      obtain ⟨j, hj, rfl, BX, hb, hF, hK⟩ := hrel
      obtain ⟨c0, c1, c2⟩ := BX.cells
      by_cases hlt : j < len
      · have hw := hK _ _ h0
        simp only [SpD] at hw
        obtain ⟨k', n', a', len', cap', he, _, hr'⟩ := hw
        simp only [List.cons.injEq, Value.int.injEq, Value.slice.injEq, true_and, and_true] at he
        obtain ⟨rfl, rfl, rfl, rfl, rfl⟩ := he
        obtain ⟨b, cur, rfl, hSb, hB, hsz, hi⟩ := hr' (by omega)
        have hij := hi j hlt
        obtain ⟨d', rfl⟩ : ∃ d', d = d' + 1 := by
          cases d with
          | zero => simp only [SpD] at hij
          | succ d' => exact ⟨d', rfl⟩
        have hij0 := hij
        simp only [SpD] at hij
        obtain ⟨k1, n1, a1, l1, p1, he, _, _⟩ := hij
        simp only [List.cons.injEq, and_true] at he
        obtain ⟨e0, e1, e2⟩ := he
        have cc : ∀ i x, i < cur.size → cur[i]! = x → wr.cell? ⟨b, i, none⟩ = some x := by
          intro i x hix hx
          have e : cur = cur.toList.toArray := rfl
          rw [e] at hB
          rw [cell_of_row wr b _ _ 30 (0, 0) hB, ← hx, getElem!_def]
          simp [hix]
        have z0 := cc _ _ (by omega) e0
        have z1 := cc _ _ (by omega) e1
        have z2 := cc _ _ (by omega) e2
        rw [e0, e1, e2] at hij0
        have HR := Hh hr
        have HH := Hh h0
        have HBX := Hh BX
        have HLT := Hh hlt
        clear hr h0 hr' hi e0 e1 e2 cc
        go_wp2_with fail
        refine (ih _ _ hij0 (fun b hb' => Nat.lt_of_lt_of_le (hS b hb') (by have := BX.lt; omega)) (Nat.le_trans hl (by have := BX.lt; omega))).mono ?_
        rintro e w2 ⟨rfl, hb2, hF2, hK2⟩
        have hlt2 := HBX.out.lt
        have hNS : ¬ S w.heap.size := fun h => Nat.lt_irrefl _ (hS _ h)
        have BX2 : Box3 w2 w.heap.size (.int .i64 k) (.int .i64 n) (.slice (some ⟨b, 0, none⟩) len cap) := (hF2 _ hlt2 hNS).trans HBX.out
        have hw := hK2 _ _ (hK _ _ HH.out)
        simp only [SpD] at hw
        obtain ⟨k', n', a', len', cap', he, _, hr'⟩ := hw
        simp only [List.cons.injEq, Value.int.injEq, Value.slice.injEq, true_and, and_true] at he
        obtain ⟨rfl, rfl, rfl, rfl, rfl⟩ := he
        obtain ⟨b', cur2, he', _, hB2, hsz2, hi2⟩ := hr' (by have := HLT.out; omega)
        simp only [Option.some.injEq, Addr.mk.injEq, and_true] at he'
        subst he'
        have cc : ∀ i, i < cur2.size → ∃ x, w2.cell? ⟨b, i, none⟩ = some x := by
          intro i hix
          have e : cur2 = cur2.toList.toArray := rfl
          rw [e] at hB2
          exact ⟨cur2[i], by rw [cell_of_row w2 b _ _ 30 (0, 0) hB2]; simp [hix]⟩
        have hjl := HLT.out
        obtain ⟨x0, q0⟩ := cc (j * 3) (by omega)
        obtain ⟨x1, q1⟩ := cc (j * 3 + 1) (by omega)
        obtain ⟨x2, q2⟩ := cc (j * 3 + 2) (by omega)
        have fz : ∀ i, w2.frozen? ⟨b, i, none⟩ = false := by
          intro i; unfold World.frozen?; rw [hB2]; simp
        have f0 := fz (j * 3)
        have f1 := fz (j * 3 + 1)
        have f2 := fz (j * 3 + 2)
        obtain ⟨c0, c1, c2⟩ := BX2.cells
        have HB2 := Hh hB2
        have HI2 := Hh hi2
        clear fz cc hr' hi2 hB2 z0 z1 z2
        have PUT := Hh (put_at (cur := cur2) (j := j) (u := .int .i64 (-7)) (v := .int .i64 (-7)) (x := .slice none 0 0) (by omega))
        have hNB : w.heap.size ≠ b := fun e => hNS (e ▸ hSb)
        go_wp2_with fail
        go_roundw
        case rel =>
          refine ⟨j + 1, hjl, by simp, (Qfr _ _ _ _ _ _ _ _ _ hNB).trans BX2, (((hb.trans hb2).setCell (p := ⟨b, j * 3, none⟩) (hlo b hSb) _).setCell (p := ⟨b, j * 3 + 1, none⟩) (hlo b hSb) _).setCell (p := ⟨b, j * 3 + 2, none⟩) (hlo b hSb) _, fun b1 h1 h2 => ?_, fun d cs h => ?_⟩
          · have hb1 : b1 ≠ b := fun e => h2 (e ▸ hSb)
            exact (Qfr _ _ _ _ _ _ _ _ _ hb1).trans ((hF2 b1 (Nat.lt_trans h1 hlt2) h2).trans (hF b1 h1 h2))
          · exact SpD.put HB2.out (set_block (set_block (set_block HB2.out _ _) _ _) _ _) PUT.out.1 PUT.out.2.1 PUT.out.2.2 (fun b1 h1 _ => Qfr _ _ _ _ _ _ _ _ _ h1) d cs (hK2 _ _ (hK _ _ h))
        case measure => simp [intOf]; omega
      · obtain rfl : j = len := by omega
        go_wp2_with fail
        exact bodyPost_end (v := .tuple #[]) (by simp [results, Try.results9, go_sem]) rfl ⟨rfl, hb, hF, hK⟩
theorem RowS.moveT {S S' : Nat → Prop} {w w' : World} {v : Value} {n : Nat} {xs : List Value} (h : RowS S w v n xs) (hS : ∀ b cur, S b → w.heap[b]? = some (.cells cur 30 (0, 0)) → S' b ∧ w'.heap[b]? = w.heap[b]?) : RowS S' w' v n xs := by
 rcases h with h | ⟨g, cap, cur, h1, h2, h3, h4⟩
 ·exact .inl h
 ·exact .inr ⟨g, cap, cur, h1, (hS g cur h2 h3).1, (hS g cur h2 h3).2.trans h3, h4⟩
theorem ClT.moveT {S S' : Nat → Prop} {w w' : World} (hS : ∀ b cur, S b → w.heap[b]? = some (.cells cur 30 (0, 0)) → S' b ∧ w'.heap[b]? = w.heap[b]?) : ∀ (t : Tm) (cs : List Value), ClT S w t cs → ClT S' w' t cs := by
 refine Tm.ind ?_
 intro k n sub ih cs h
 simp only [ClT] at h ⊢
 obtain ⟨s, css, rfl, h1, h2⟩ := h
 exact ⟨s, css, rfl, h1.moveT hS, ClTs.all ih h2⟩
def IntR (S : Nat → Prop) (w : World) (l : List Int) (v : Value) : Prop :=
 (∃ a c, v = .slice a 0 c ∧ l = [] ∧ c ≤ maxLen) ∨ ∃ g cap cur, v = .slice (some ⟨g, 0, none⟩) l.length cap ∧ S g ∧ w.heap[g]? = some (.cells cur 3 (0, 0)) ∧ l.length ≤ cap ∧ cap ≤ maxLen ∧ cur.size = cap ∧ cur.toList.take l.length = l.map (Value.int .i64)
theorem IntR.moveT {S S' : Nat → Prop} {w w' : World} {l : List Int} {v : Value} (h : IntR S w l v) (hS : ∀ b cur, S b → w.heap[b]? = some (.cells cur 3 (0, 0)) → S' b ∧ w'.heap[b]? = w.heap[b]?) : IntR S' w' l v := by
 rcases h with h | ⟨g, cap, cur, h1, h2, h3, h4⟩
 ·exact .inl h
 ·exact .inr ⟨g, cap, cur, h1, (hS g cur h2 h3).1, (hS g cur h2 h3).2.trans h3, h4⟩
def EnF (S : Nat → Prop) (w : World) (e : En) (c : List Value) : Prop :=
 ∃ v1 v2 vc vf, c = [.int .i64 e.kind, .string e.name, .int .i64 e.ty.kind, .int .i64 e.ty.num, v1, .int .i64 e.body.kind, .int .i64 e.body.num, v2, .int .i64 e.of_, .int .i64 e.place, .int .i64 e.pars, .int .i64 e.inds, .int .i64 e.level, vc, vf] ∧
  ClT S w e.ty [.int .i64 e.ty.kind, .int .i64 e.ty.num, v1] ∧ ClT S w e.body [.int .i64 e.body.kind, .int .i64 e.body.num, v2] ∧ IntR S w e.cons vc ∧ IntR S w e.fields vf ∧ e.name.size ≤ maxLen
theorem EnF.moveT {S S' : Nat → Prop} {w w' : World} {e : En} {c : List Value} (h : EnF S w e c) (hS : ∀ b cur E, E ≠ 33 → S b → w.heap[b]? = some (.cells cur E (0, 0)) → S' b ∧ w'.heap[b]? = w.heap[b]?) : EnF S' w' e c := by
 obtain ⟨v1, v2, vc, vf, rfl, h1, h2, h3, h4, h5⟩ := h
 exact ⟨v1, v2, vc, vf, rfl, ClT.moveT (fun b cur => hS b cur _ (by decide)) _ _ h1, ClT.moveT (fun b cur => hS b cur _ (by decide)) _ _ h2, h3.moveT fun b cur => hS b cur _ (by decide), h4.moveT fun b cur => hS b cur _ (by decide), h5⟩
structure EnsC (S : Nat → Prop) (w : World) (es : List En) (v : Value) (css : List (List Value)) : Prop where
 len : css.length = es.length
 at_ : ∀ (i : Nat) (e : En) (c : List Value), es[i]? = some e → css[i]? = some c → EnF S w e c
 row : (v = .slice none 0 0 ∧ es = []) ∨ ∃ g cap cur, v = .slice (some ⟨g, 0, none⟩) es.length cap ∧ S g ∧ w.heap[g]? = some (.cells cur 33 (0, 0)) ∧ es.length ≤ cap ∧ cap ≤ maxLen ∧ cur.size = cap * 15 ∧ cur.toList.take (es.length * 15) = css.flatten
theorem EnF.len {S : Nat → Prop} {w : World} {e : En} {c : List Value} (h : EnF S w e c) : c.length = 15 := by
 obtain ⟨_, _, _, _, rfl, _⟩ := h; rfl
theorem EnsC.len15 {S : Nat → Prop} {w : World} {es : List En} {v : Value} {css : List (List Value)} (h : EnsC S w es v css) : ∀ c ∈ css, c.length = 15 := by
 intro c hc
 obtain ⟨i, hi, rfl⟩ := List.mem_iff_getElem.1 hc
 exact (h.at_ i _ _ (List.getElem?_eq_getElem (by rw [← h.len]; exact hi)) (List.getElem?_eq_getElem hi)).len
theorem EnsC.shape {S : Nat → Prop} {w : World} {es : List En} {v : Value} {css : List (List Value)} (h : EnsC S w es v css) : ∃ a cap, v = .slice a es.length cap := by
 rcases h.row with ⟨h1, h2⟩ | ⟨g, cap, cur, h1, _⟩
 ·exact ⟨none, 0, by rw [h1, h2]; rfl⟩
 ·exact ⟨_, _, h1⟩
theorem EnsC.start {S : Nat → Prop} {w : World} : EnsC S w [] (.slice none 0 0) [] :=
 ⟨rfl, fun i e c h => by simp at h, .inl ⟨rfl, rfl⟩⟩
theorem EnsC.own {lo : Nat} {w w2 : World} {hi : Nat} {es : List En} {v : Value} {css : List (List Value)} (h : EnsC (fun b => lo ≤ b ∧ b < hi) w es v css) (hb : ∀ b, lo ≤ b → b < hi → w2.heap[b]? = w.heap[b]?) : w2.ownsRow lo 33 15 v es.length css.flatten := by
 have hl : css.flatten.length = es.length * 15 := by rw [Qfb h.len15, h.len]
 refine ⟨hl, ?_⟩
 rcases h.row with ⟨h1, h2⟩ | ⟨g, cap, cur, h1, h2, h3, h4⟩
 ·exact .inl ⟨h1, by rw [h2]; rfl⟩
 ·exact .inr ⟨g, cap, cur, h1, h2.1, (hb g h2.1 h2.2).trans h3, h4⟩
theorem EnsC.step {lo : Nat} {es : List En} {e : En} {v v' : Value} {css : List (List Value)} {c : List Value} {wr w1 wl w2 : World} (h : EnsC (fun b => lo ≤ b ∧ b < wr.heap.size) wr es v css) (hlo : lo ≤ wr.heap.size)
  (hb1 : Below wr.heap.size wr w1) (hc : EnF (fun b => wr.heap.size ≤ b ∧ b < w1.heap.size) w1 e c) (hbl : Below w1.heap.size w1 wl)
  (hown : w2.ownsRow lo 33 15 v' (es.length + 1) (css.flatten ++ c)) (hg : wl.grownBy w2 v.ownBlock) :
  EnsC (fun b => lo ≤ b ∧ b < w2.heap.size) w2 (es ++ [e]) v' (css ++ [c]) := by
 have hs1 := hb1.size
 have hsl := hbl.size
 have hsg := hg.size
 have hne : ∀ b cur E, E ≠ 33 → w1.heap[b]? = some (.cells cur E (0, 0)) → some b ≠ v.ownBlock := fun b cur E hE hb hv => by
  rcases h.row with ⟨h1, _⟩ | ⟨g, cap, cur', h1, h2, h3, _⟩
  ·rw [h1] at hv; simp [Value.ownBlock] at hv
  ·rw [h1] at hv
   simp [Value.ownBlock] at hv
   subst hv
   rw [hb1.block _ h2.2, h3] at hb
   injection hb with hb
   injection hb with _ hb _
   exact hE hb.symm
 have hmv : ∀ b cur E, E ≠ 33 → b < w1.heap.size → w1.heap[b]? = some (.cells cur E (0, 0)) → w2.heap[b]? = w1.heap[b]? := fun b cur E hE hl hb => by
  rw [hg.block b (by omega) (hne b cur E hE hb), hbl.block b hl]
 refine ⟨by simp [h.len], fun i e' c' hi hj => ?_, .inr ?_⟩
 ·by_cases hil : i < es.length
  ·rw [List.getElem?_append_left hil] at hi
   rw [List.getElem?_append_left (by rw [h.len]; exact hil)] at hj
   refine (h.at_ i e' c' hi hj).moveT fun b cur E hE hS hb => ⟨by omega, ?_⟩
   have hb' := (hb1.block b hS.2).trans hb
   rw [hmv b cur E hE (by omega) hb', hb1.block b hS.2]
  ·rw [List.getElem?_append_right (by omega)] at hi
   rw [List.getElem?_append_right (by rw [h.len]; omega), h.len] at hj
   have h0 : i - es.length = 0 := by
    have := (List.getElem?_eq_some_iff.1 hi).1
    simp at this; omega
   rw [h0] at hi hj
   cases hi; cases hj
   exact hc.moveT fun b cur E hE hS hb => ⟨by omega, hmv b cur E hE hS.2 hb⟩
 ·rcases hown.2 with ⟨_, h0⟩ | ⟨g, cap, cur, hv, hg0, hgb, h4⟩
  ·omega
  ·have hglt : g < w2.heap.size := (Array.getElem?_eq_some_iff.1 hgb).1
   refine ⟨g, cap, cur, by rw [hv]; simp, ⟨hg0, hglt⟩, hgb, by simpa using h4.1, h4.2.1, h4.2.2.1, ?_⟩
   have := h4.2.2.2
   simpa using this
theorem EnsC.move {S S' : Nat → Prop} {w w' : World} {es : List En} {v : Value} {css : List (List Value)} (h : EnsC S w es v css) (hS : ∀ b, S b → S' b ∧ w'.heap[b]? = w.heap[b]?) : EnsC S' w' es v css :=
 ⟨h.len, fun i e c hi hj => (h.at_ i e c hi hj).moveT fun b _ _ _ hb _ => hS b hb, h.row.imp id fun ⟨g, cap, cur, h1, h2, h3, h4⟩ => ⟨g, cap, cur, h1, (hS g h2).1, (hS g h2).2.trans h3, h4⟩⟩
theorem ClT.rep {S : Nat → Prop} {w : World} : ∀ (t : Tm) (cs : List Value), ClT S w t cs → RepF S w (tmD t) cs := by
  refine Tm.ind ?_
  intro k n sub ih cs h
  simp only [ClT] at h
  obtain ⟨v, css, rfl, hrow, hcl⟩ := h
  have h3 := hcl.three
  have hl := hcl.length
  have hL : RepL S w (tmDs sub) css := by
    clear hrow h3 hl
    induction sub generalizing css with
    | nil => simp only [ClTs] at hcl; subst hcl; simp only [tmDs, RepL]
    | cons t ts iht =>
      simp only [ClTs] at hcl
      obtain ⟨c, cr, rfl, h1, h2⟩ := hcl
      simp only [tmDs, RepL]
      exact ⟨c, cr, rfl, ih t (by simp) c h1, iht (fun s hs => ih s (by simp [hs])) cr h2⟩
  have hs := hrow.cells hl h3
  simp only [tmD, RepF, RepV]
  refine ⟨_, _, rfl, ⟨rfl, rfl⟩, _, _, rfl, ⟨rfl, rfl⟩, v, [], rfl, ⟨css, ?_, hL⟩, rfl⟩
  obtain ⟨a, cap, rfl, q1, q2, q3⟩ := hs
  refine ⟨a, cap, rfl, q1, q2, fun hne => ?_⟩
  obtain ⟨b, off, e1, e2, e3⟩ := q3 hne
  refine ⟨b, off, e1, e2, ?_, e3⟩
  have h0 : 0 < css.length := List.length_pos_iff.2 hne
  have := e3 0 css[0] (List.getElem?_eq_getElem h0)
  have hz : 0 < (css[0]).length := by rw [this.1]; decide
  exact World.block_lt_of_cell? w _ (this.2 0 _ (List.getElem?_eq_getElem hz))
theorem IntR.rep {S : Nat → Prop} {w : World} {l : List Int} {v : Value} (h : IntR S w l v) : RepV S w (.s 1 (l.map Enc.enc)) v := by
  simp only [RepV]
  rcases h with ⟨a, c, rfl, rfl, hc⟩ | ⟨g, cap, cur, rfl, h2, h3, h4, h5, h6, h7⟩
  · exact ⟨[], ⟨a, c, rfl, Nat.zero_le _, hc, fun h => absurd rfl h⟩, by simp only [List.map_nil, RepL]⟩
  · refine ⟨l.map fun x => [.int .i64 x], ⟨_, cap, by rw [List.length_map], by rw [List.length_map]; exact h4, h5, fun _ => ⟨g, 0, rfl, h2, (Array.getElem?_eq_some_iff.1 h3).1, fun i c hi => ?_⟩⟩, RepL.mk (by simp) fun i hi => ?_⟩
    · rw [List.getElem?_map] at hi
      obtain ⟨x, hx, rfl⟩ := Option.map_eq_some_iff.1 hi
      refine ⟨rfl, fun j y hj => ?_⟩
      cases j with
      | succ j => simp at hj
      | zero =>
        cases hj
        have hil := (List.getElem?_eq_some_iff.1 hx).1
        have e : cur = cur.toList.toArray := rfl
        rw [e] at h3
        have : cur.toList[i]? = some (.int .i64 x) := by
          rw [← List.getElem?_take_of_lt hil, h7, List.getElem?_map, hx]; rfl
        rw [show 0 + i * 1 + 0 = i by omega, cell_of_row w g _ _ 3 (0, 0) h3]
        simpa using this
    · have hil : i < l.length := by simpa using hi
      refine ⟨[.int .i64 l[i]], by rw [List.getElem?_map, List.getElem?_eq_getElem hil]; rfl, ?_⟩
      rw [List.getElem_map]
      simp only [Enc.enc, RepF, RepV]
      exact ⟨_, _, rfl, ⟨rfl, rfl⟩, rfl⟩
theorem EnF.rep {S : Nat → Prop} {w : World} {e : En} {c : List Value} (h : EnF S w e c) : Rep S w e c := by
 obtain ⟨v1, v2, vc, vf, rfl, h1, h2, h3, h4, h5⟩ := h
 have r1 := ClT.rep _ _ h1
 have r2 := ClT.rep _ _ h2
 unfold Rep
 simp only [Enc.enc, List.append_assoc]
 refine repF_app.2 ⟨[.int .i64 e.kind, .string e.name], _, rfl, ?_, repF_app.2 ⟨_, _, rfl, r1, repF_app.2 ⟨_, _, rfl, r2, ?_⟩⟩⟩
 ·simp only [RepF, RepV]
  exact ⟨_, _, rfl, ⟨rfl, rfl⟩, _, _, rfl, ⟨rfl, h5⟩, rfl⟩
 ·simp only [RepF]
  refine ⟨_, _, rfl, ?_, _, _, rfl, ?_, _, _, rfl, ?_, _, _, rfl, ?_, _, _, rfl, ?_, _, _, rfl, h3.rep, _, _, rfl, h4.rep, rfl⟩
  all_goals (simp only [RepV, Value.oneCell', and_self])
theorem EnsC.rep {S : Nat → Prop} {w : World} {es : List En} {v : Value} {css : List (List Value)} (h : EnsC S w es v css) : RepS S w v es := by
 unfold RepS
 simp only [RepV]
 have hL : RepL S w (es.map Enc.enc) css := RepL.mk (by simp [h.len]) fun i hi => by
  have hil : i < es.length := by simpa using hi
  have hcl : i < css.length := by rw [h.len]; exact hil
  refine ⟨css[i], List.getElem?_eq_getElem hcl, ?_⟩
  rw [List.getElem_map]
  exact (h.at_ i _ _ (List.getElem?_eq_getElem hil) (List.getElem?_eq_getElem hcl)).rep
 refine ⟨css, ?_, hL⟩
 rcases h.row with ⟨rfl, rfl⟩ | ⟨g, cap, cur, rfl, h2, h3, h4, h5, h6, h7⟩
 ·have : css = [] := List.eq_nil_of_length_eq_zero h.len
  subst this
  exact ⟨none, 0, rfl, Nat.zero_le _, Nat.zero_le _, fun h => absurd rfl h⟩
 ·refine ⟨_, cap, by rw [h.len], by rw [h.len]; exact h4, h5, fun _ => ⟨g, 0, rfl, h2, (Array.getElem?_eq_some_iff.1 h3).1, fun i c hi => ⟨h.len15 c (List.mem_of_getElem? hi), fun j x hx => ?_⟩⟩⟩
  have hf := Qem h.len15 i j c x hi hx
  have hil : i < es.length := by rw [← h.len]; exact (List.getElem?_eq_some_iff.1 hi).1
  have hjl : j < 15 := by rw [← h.len15 c (List.mem_of_getElem? hi)]; exact (List.getElem?_eq_some_iff.1 hx).1
  have e : cur = cur.toList.toArray := rfl
  rw [e] at h3
  show w.cell? ⟨g, 0 + i * 15 + j, none⟩ = some x
  rw [show 0 + i * 15 + j = i * 15 + j by omega, cell_of_row w g _ _ 33 (0, 0) h3]
  rw [← h7, List.getElem?_take_of_lt (by omega)] at hf
  simpa using hf
section
variable {P : Program} {n : Nat} {ops : Array Oper} {Q : PF → St → Prop} {rest : List Oper} {fr : PF} {st : St} {p : PV} {ty : TypeId} {pos : String} {after : Array Edge} {gd : Option (Nat × Bool)} {d : Nat}
theorem POps_appB {s x : Operand} {t xt : TypeId} {q : PV} {g : Nat} {rows rows' : List (List D)} {ts E es bytes : Nat} {ea : Option Bool} {T0 : Ty} {e0 : Nat × Nat} {c : TypeId × Nat × Nat} {st' : St} (n' : Nat) (hd : d < n) (hw : PF.wants fr ops ⟨some d, .call { callee := .builtin .append, args := #[s, x], argTypes := #[t, xt] }, ty, pos, after, gd⟩ = some true) (hs : fr.eval s = some q) (hq : q = .own g rows) (hx : fr.eval x = some p) (hp : p.src = some rows')
  (hT : tyOf P t = some T0) (hT2 : T0 = ⟨ts, .slice E es ea⟩) (hX : Qbp ((tyOf P xt).map (·.k)) = true) (hE : elOf P E = some e0) (hE2 : e0 = (es, bytes)) (hes : 0 < es) (htok : st.tok? g = some c) (hc : c = (E, es, rows.length)) (hn' : rows.length + rows'.length = n') (hs' : st.setTok g n' = st') (hl0 : ∀ row ∈ rows, row.length = es) (hl : ∀ row ∈ rows', row.length = es) (hm : n' ≤ maxLen) (hb : n' * bytes ≤ 140737488355328)
  (h : POps P n ops Q rest ((d, .own g (rows ++ rows')) :: fr) st') : POps P n ops Q (⟨some d, .call { callee := .builtin .append, args := #[s, x], argTypes := #[t, xt] }, ty, pos, after, gd⟩ :: rest) fr st := by
 subst hq; subst hc; subst hs'; subst hT2; subst hE2; subst hn'
 exact Qde hd hw (POp_append rfl hs hx hp hT rfl hX hE hes hl0 hl htok hm hb h)
end
theorem clone_own_p (l : List Int) (h0 : l ≠ []) (hl : l.length ≤ 17592186044416) : PCalls Try.prog 20 [.d (.sl (l.map encD))] [] fun p s => ∃ g, p = .own g (l.map encD) ∧ s = [.tok g 3 1 l.length] := by
 have HL := Hh hl
 clear hl
 refine pG Try.func20 Try.ntmps20 ?_
 refine Qfa (fun h => absurd (List.map_eq_nil_iff.1 h) h0) ?_
 refine go_ ?_
 refine Qfh ?_ (by decide) eD (by simp; rfl) (by rfl) (by simp; rfl) (by rfl) (by decide)
 intro g hg
 refine go_ ?_
 refine POps_appB l.length (by decide) rfl eQ (by rfl) eQ (by simp [PV.src, PV.rows]; rfl) (by simp; rfl) (by rfl) (by simp [Qbp]) (by simp; rfl) (by rfl) (by decide) eQ (by first | rfl | (simp; done) | (simp; omega) | fail) ?_ (by simp [St.setTok, *]; rfl) ?_ ?_ (by have := HL.out; unfold maxLen; omega) (by have := HL.out; omega) ?_
 ·simp
 ·simp
 ·exact rows1 _
 refine go_ ?_
 refine Qew (by simp) (by simp only [Try.results20]; rfl) (by simp [resP]; rfl) dR ⟨g, rfl, rfl⟩
theorem PCalls.world {P : Program} {f : FuncId} {args : List PV} {r : PV} (h : PCalls P f args [] fun p s => p = r ∧ s = []) {w : World} {vs : Array Value} (ha : RelVs (K0 w) w args vs) : Calls P f vs w fun e w' => ∃ v K', e = .returned v ∧ RelV K' w' r v ∧ Below w.heap.size w w' := by
 refine (h (F0 w) (K0 w) w vs (rel0 w) ha).mono ?_
 rintro e w' ⟨v, K', p, st', rfl, hx, hr, hv, rfl, rfl⟩
 exact ⟨v, K', rfl, hv, hx.os, hx.tape, hx.output, hx.size, fun k hk => hx.hp k hk⟩
theorem Qds {α : Type} [Enc α] [EncOk α] {w : World} {v : Value} {l : List α} (h0 : 0 < Enc.sz α) (h : RepS (fun _ => True) w v l) : RelV (K0 w) w (.d (.sl (l.map encD))) v :=
 .d (relS_of (K := (K0 w).cell) (fun b o v _ h => ⟨v, h⟩) h0 h)
theorem clone_w (l : List Int) (hl : l.length ≤ 17592186044416) (v : Value) (w : World) (h : RepS (fun _ => True) w v l) :
    Calls Try.prog 20 #[v] w fun e w' => ∃ a n c, e = .returned (.slice a n c) ∧ IntR (fun b => w.heap.size ≤ b ∧ b < w'.heap.size) w' l (.slice a n c) ∧ Below w.heap.size w w' := by
  have hr := Qav (Qds (α := Int) (by decide) h) (Qbz (K0 w) w)
  by_cases h0 : l = []
  · subst h0
    refine ((clone_int_p [] (by simp)).world hr).mono ?_
    rintro e w' ⟨u, K', rfl, hu, hb⟩
    cases hu with
    | d hu =>
      cases hu with
      | nil hc => exact ⟨_, _, _, rfl, .inl ⟨_, _, rfl, rfl, hc⟩, hb⟩
      | sl vals q1 q2 _ _ _ => exact ⟨_, _, _, rfl, .inl ⟨_, _, rfl, rfl, q2⟩, hb⟩
  · refine ((clone_own_p l h0 hl).ownI hr).mono ?_
    rintro e w' ⟨u, c, rfl, ho, hb⟩
    refine ⟨_, _, _, rfl, .inr ?_, hb⟩
    rcases ho.2 with ⟨h1, h2⟩ | ⟨g, cap, cur, h1, h2, h3, h4, h5, h6, h7⟩
    · exact absurd (List.eq_nil_of_length_eq_zero h2) h0
    · rw [h1]
      exact ⟨g, cap, cur, rfl, ⟨h2, (Array.getElem?_eq_some_iff.1 h3).1⟩, h3, h4, h5, by omega, by simpa using h7⟩
theorem en_open {w : World} {e : En} {c : List Value} (h : Rep (fun _ => True) w e c) : ∃ a1 n1 c1 a2 n2 c2 a3 n3 c3 a4 n4 c4, c = [.int .i64 e.kind, .string e.name, .int .i64 e.ty.kind, .int .i64 e.ty.num, .slice a1 n1 c1, .int .i64 e.body.kind, .int .i64 e.body.num, .slice a2 n2 c2, .int .i64 e.of_, .int .i64 e.place, .int .i64 e.pars, .int .i64 e.inds, .int .i64 e.level, .slice a3 n3 c3, .slice a4 n4 c4] ∧
  Rep (fun _ => True) w e.ty [.int .i64 e.ty.kind, .int .i64 e.ty.num, .slice a1 n1 c1] ∧ Rep (fun _ => True) w e.body [.int .i64 e.body.kind, .int .i64 e.body.num, .slice a2 n2 c2] ∧ RepS (fun _ => True) w (.slice a3 n3 c3) e.cons ∧ RepS (fun _ => True) w (.slice a4 n4 c4) e.fields ∧ e.name.size ≤ maxLen := by
 obtain ⟨k, nm, ty, body, of_, pl, pa, ind, lv, co, fi⟩ := e
 cases ty with
 | mk k1 m1 s1 =>
 cases body with
 | mk k2 m2 s2 =>
 unfold Rep at h
 simp only [Enc.enc, tmD, List.cons_append, List.nil_append, RepF] at h
 obtain ⟨x0, _, rfl, h0, x1, _, rfl, h1, x2, _, rfl, h2, x3, _, rfl, h3, x4, _, rfl, h4, x5, _, rfl, h5, x6, _, rfl, h6, x7, _, rfl, h7, x8, _, rfl, h8, x9, _, rfl, h9, x10, _, rfl, h10, x11, _, rfl, h11, x12, _, rfl, h12, x13, _, rfl, h13, x14, _, rfl, h14, rfl⟩ := h
 have r13 : RepS (fun _ => True) w x13 co := h13
 have r14 : RepS (fun _ => True) w x14 fi := h14
 have h4' := h4
 have h7' := h7
 simp only [RepV] at h0 h1 h2 h3 h4 h5 h6 h7 h8 h9 h10 h11 h12 h13 h14
 obtain ⟨_, ⟨a1, c1, rfl, _⟩, _⟩ := h4
 obtain ⟨_, ⟨a2, c2, rfl, _⟩, _⟩ := h7
 obtain ⟨_, ⟨a3, c3, rfl, _⟩, _⟩ := h13
 obtain ⟨_, ⟨a4, c4, rfl, _⟩, _⟩ := h14
 obtain ⟨rfl, -⟩ := h0
 obtain ⟨rfl, h1⟩ := h1
 obtain ⟨rfl, -⟩ := h2
 obtain ⟨rfl, -⟩ := h3
 obtain ⟨rfl, -⟩ := h5
 obtain ⟨rfl, -⟩ := h6
 obtain ⟨rfl, -⟩ := h8
 obtain ⟨rfl, -⟩ := h9
 obtain ⟨rfl, -⟩ := h10
 obtain ⟨rfl, -⟩ := h11
 obtain ⟨rfl, -⟩ := h12
 refine ⟨a1, _, c1, a2, _, c2, a3, _, c3, a4, _, c4, rfl, ?_, ?_, r13, r14, h1⟩
 ·unfold Rep
  simp only [Enc.enc, tmD, RepF]
  exact ⟨_, _, rfl, by simp only [RepV]; exact ⟨rfl, rfl⟩, _, _, rfl, by simp only [RepV]; exact ⟨rfl, rfl⟩, _, _, rfl, h4', rfl⟩
 ·unfold Rep
  simp only [Enc.enc, tmD, RepF]
  exact ⟨_, _, rfl, by simp only [RepV]; exact ⟨rfl, rfl⟩, _, _, rfl, by simp only [RepV]; exact ⟨rfl, rfl⟩, _, _, rfl, h7', rfl⟩
theorem tmc_of {w : World} {t : Tm} {cs : List Value} (h : Rep (fun _ => True) w t cs) : TmC (fun _ _ => True) w t cs := by
 obtain ⟨cs', he, h'⟩ := tmc_rel (K := fun _ _ => True) (fun _ _ _ => trivial) (relK0 h)
 injection he with he
 have : cs = cs' := by simpa using he
 rw [this]; exact h'
theorem tcopy_w (t : Tm) (cs : List Value) (w : World) (h : Rep (fun _ => True) w t cs) :
    Calls Try.prog 19 #[.agg cs.toArray] w fun e w' => ∃ a n c, e = .returned (.agg #[.int .i64 (Qbc t).kind, .int .i64 (Qbc t).num, .slice a n c]) ∧ ClT (fun b => w.heap.size ≤ b ∧ b < w'.heap.size) w' (Qbc t) [.int .i64 (Qbc t).kind, .int .i64 (Qbc t).num, .slice a n c] ∧ Below w.heap.size w w' := by
  refine (copy_any t cs w (tmc_of h)).mono ?_
  rintro e w' ⟨k', n', a, len, cap, rfl, hb, h1, h2⟩
  unfold Qbc
  by_cases hs : Qad t = true
  · rw [if_pos hs]
    have hc := h1 hs
    cases t with
    | mk k n sub =>
      have hc' := hc
      simp only [ClT] at hc'
      obtain ⟨v, css, he, _⟩ := hc'
      simp only [List.cons.injEq, Value.int.injEq, true_and, and_true] at he
      obtain ⟨rfl, rfl, -⟩ := he
      exact ⟨a, len, cap, rfl, hc, hb⟩
  · rw [if_neg hs]
    obtain ⟨rfl, rfl, rfl, rfl, rfl⟩ := h2 (by simpa using hs)
    refine ⟨none, 0, 0, rfl, ?_, hb⟩
    simp only [Jv, Jw, ClT, ClTs]
    exact ⟨_, [], rfl, .inl ⟨rfl, rfl, rfl⟩, rfl⟩
theorem info33 : ∃ i z, Try.prog.info? 33 = some i ∧ i.zero = some z ∧ i.size = 15 ∧ i.bytes = 192 ∧ z.cells.size = 15 := by
 obtain ⟨i0, hi0, hs0, hb0⟩ : ∃ i0, Try.prog.info? 33 = some i0 ∧ i0.size = 15 ∧ i0.bytes = 192 := ⟨_, rfl, by kernel_rfl, by kernel_rfl⟩
 have h1 : (Try.prog.info? 33).map (fun i => i.zero.map fun z => z.cells.size) = some (some 15) := by kernel_rfl
 rw [hi0] at h1
 simp only [Option.map_some, Option.some.injEq] at h1
 obtain ⟨z, hz, hc⟩ := Option.map_eq_some_iff.1 h1
 exact ⟨i0, z, hi0, hz, hs0, hb0, hc⟩
theorem ens_at {w wr : World} {v : Value} {l : List En} (h : RepS (fun _ => True) w v l) (hb : Below w.heap.size w wr) (k : Nat) (hk : k < l.length) : ∃ b off cap a1 n1 c1 a2 n2 c2 a3 n3 c3 a4 n4 c4, v = .slice (some ⟨b, off, none⟩) l.length cap ∧
    (wr.cell? ⟨b, off + k * 15, none⟩ = some (.int .i64 l[k].kind) ∧ wr.cell? ⟨b, off + k * 15 + 1, none⟩ = some (.string l[k].name) ∧ wr.cell? ⟨b, off + k * 15 + 2, none⟩ = some (.int .i64 l[k].ty.kind) ∧ wr.cell? ⟨b, off + k * 15 + 3, none⟩ = some (.int .i64 l[k].ty.num) ∧ wr.cell? ⟨b, off + k * 15 + 4, none⟩ = some (.slice a1 n1 c1) ∧
     wr.cell? ⟨b, off + k * 15 + 5, none⟩ = some (.int .i64 l[k].body.kind) ∧ wr.cell? ⟨b, off + k * 15 + 6, none⟩ = some (.int .i64 l[k].body.num) ∧ wr.cell? ⟨b, off + k * 15 + 7, none⟩ = some (.slice a2 n2 c2) ∧ wr.cell? ⟨b, off + k * 15 + 8, none⟩ = some (.int .i64 l[k].of_) ∧ wr.cell? ⟨b, off + k * 15 + 9, none⟩ = some (.int .i64 l[k].place) ∧
     wr.cell? ⟨b, off + k * 15 + 10, none⟩ = some (.int .i64 l[k].pars) ∧ wr.cell? ⟨b, off + k * 15 + 11, none⟩ = some (.int .i64 l[k].inds) ∧ wr.cell? ⟨b, off + k * 15 + 12, none⟩ = some (.int .i64 l[k].level) ∧ wr.cell? ⟨b, off + k * 15 + 13, none⟩ = some (.slice a3 n3 c3) ∧ wr.cell? ⟨b, off + k * 15 + 14, none⟩ = some (.slice a4 n4 c4)) ∧
    Rep (fun _ => True) wr l[k].ty [.int .i64 l[k].ty.kind, .int .i64 l[k].ty.num, .slice a1 n1 c1] ∧ Rep (fun _ => True) wr l[k].body [.int .i64 l[k].body.kind, .int .i64 l[k].body.num, .slice a2 n2 c2] ∧ RepS (fun _ => True) wr (.slice a3 n3 c3) l[k].cons ∧ RepS (fun _ => True) wr (.slice a4 n4 c4) l[k].fields ∧ l[k].name.size ≤ maxLen := by
  have h0 := h.later hb
  unfold RepS at h0
  simp only [RepV] at h0
  obtain ⟨css, ⟨a, cap, rfl, q1, q2, q3⟩, hL⟩ := h0
  have hlen := hL.length
  rw [List.length_map] at hlen
  obtain ⟨b, off, rfl, -, -, hcell⟩ := q3 (by intro e; rw [e] at hlen; simp at hlen; omega)
  obtain ⟨c, hc, hr⟩ := hL.get k (by rw [List.length_map]; exact hk)
  rw [List.getElem_map] at hr
  obtain ⟨a1, n1, c1, a2, n2, c2, a3, n3, c3, a4, n4, c4, rfl, r1, r2, r3, r4, r5⟩ := en_open (e := l[k]) hr
  have hx := (hcell k _ hc).2
  exact ⟨b, off, cap, a1, n1, c1, a2, n2, c2, a3, n3, c3, a4, n4, c4, by rw [hlen], ⟨hx 0 _ rfl, hx 1 _ rfl, hx 2 _ rfl, hx 3 _ rfl, hx 4 _ rfl, hx 5 _ rfl, hx 6 _ rfl, hx 7 _ rfl, hx 8 _ rfl, hx 9 _ rfl, hx 10 _ rfl, hx 11 _ rfl, hx 12 _ rfl, hx 13 _ rfl, hx 14 _ rfl⟩, r1, r2, r3, r4, r5⟩
def Box15 (w : World) (B : Nat) (x0 x1 x2 x3 x4 x5 x6 x7 x8 x9 x10 x11 x12 x13 x14 : Value) : Prop := w.heap[B]? = some (.cells #[x0, x1, x2, x3, x4, x5, x6, x7, x8, x9, x10, x11, x12, x13, x14] 33)
section
variable {w w' : World} {B n : Nat} {x0 x1 x2 x3 x4 x5 x6 x7 x8 x9 x10 x11 x12 x13 x14 : Value}
theorem Box15.lt (h : Box15 w B x0 x1 x2 x3 x4 x5 x6 x7 x8 x9 x10 x11 x12 x13 x14) : B < w.heap.size := (Array.getElem?_eq_some_iff.1 h).1
theorem Box15.later (h : Box15 w B x0 x1 x2 x3 x4 x5 x6 x7 x8 x9 x10 x11 x12 x13 x14) (hb : Below n w w') (hB : B < n) : Box15 w' B x0 x1 x2 x3 x4 x5 x6 x7 x8 x9 x10 x11 x12 x13 x14 := (hb.block _ hB).trans h
theorem Box15.free (h : Box15 w B x0 x1 x2 x3 x4 x5 x6 x7 x8 x9 x10 x11 x12 x13 x14) (i : Nat) : w.frozen? ⟨B, i, none⟩ = false := by
 unfold Box15 at h
 unfold World.frozen?; rw [h]; simp
theorem Box15.cells (h : Box15 w B x0 x1 x2 x3 x4 x5 x6 x7 x8 x9 x10 x11 x12 x13 x14) : w.cell? ⟨B, 0, none⟩ = some x0 ∧ w.cell? ⟨B, 1, none⟩ = some x1 ∧ w.cell? ⟨B, 2, none⟩ = some x2 ∧ w.cell? ⟨B, 3, none⟩ = some x3 ∧ w.cell? ⟨B, 4, none⟩ = some x4 ∧ w.cell? ⟨B, 5, none⟩ = some x5 ∧ w.cell? ⟨B, 6, none⟩ = some x6 ∧ w.cell? ⟨B, 7, none⟩ = some x7 ∧ w.cell? ⟨B, 8, none⟩ = some x8 ∧ w.cell? ⟨B, 9, none⟩ = some x9 ∧ w.cell? ⟨B, 10, none⟩ = some x10 ∧ w.cell? ⟨B, 11, none⟩ = some x11 ∧ w.cell? ⟨B, 12, none⟩ = some x12 ∧ w.cell? ⟨B, 13, none⟩ = some x13 ∧ w.cell? ⟨B, 14, none⟩ = some x14 := by
 unfold Box15 at h
 refine ⟨?_, ?_, ?_, ?_, ?_, ?_, ?_, ?_, ?_, ?_, ?_, ?_, ?_, ?_, ?_⟩ <;> · rw [cell_of_row w B _ _ _ _ h]; rfl
theorem Box15.set6 (h : Box15 w B x0 x1 x2 x3 x4 x5 x6 x7 x8 x9 x10 x11 x12 x13 x14) (a b c d e f : Value) : Box15 ((((((w.setCell ⟨B, 2, none⟩ a).setCell ⟨B, 3, none⟩ b).setCell ⟨B, 4, none⟩ c).setCell ⟨B, 5, none⟩ d).setCell ⟨B, 6, none⟩ e).setCell ⟨B, 7, none⟩ f) B x0 x1 a b c d e f x8 x9 x10 x11 x12 x13 x14 :=
 set_block (set_block (set_block (set_block (set_block (set_block h 2 a) 3 b) 4 c) 5 d) 6 e) 7 f
theorem set6_heap (w : World) (B k : Nat) (a b c d e f : Value) (h : k ≠ B) : ((((((w.setCell ⟨B, 2, none⟩ a).setCell ⟨B, 3, none⟩ b).setCell ⟨B, 4, none⟩ c).setCell ⟨B, 5, none⟩ d).setCell ⟨B, 6, none⟩ e).setCell ⟨B, 7, none⟩ f).heap[k]? = w.heap[k]? := by
 rw [Below.heap_setCell _ _ _ _ h, Below.heap_setCell _ _ _ _ h, Below.heap_setCell _ _ _ _ h, Below.heap_setCell _ _ _ _ h, Below.heap_setCell _ _ _ _ h, Below.heap_setCell _ _ _ _ h]
theorem set6_size (w : World) (B : Nat) (a b c d e f : Value) : ((((((w.setCell ⟨B, 2, none⟩ a).setCell ⟨B, 3, none⟩ b).setCell ⟨B, 4, none⟩ c).setCell ⟨B, 5, none⟩ d).setCell ⟨B, 6, none⟩ e).setCell ⟨B, 7, none⟩ f).heap.size = w.heap.size := by simp
theorem set6_below {w0 : World} (h : Below n w0 w) (hB : n ≤ B) (a b c d e f : Value) : Below n w0 ((((((w.setCell ⟨B, 2, none⟩ a).setCell ⟨B, 3, none⟩ b).setCell ⟨B, 4, none⟩ c).setCell ⟨B, 5, none⟩ d).setCell ⟨B, 6, none⟩ e).setCell ⟨B, 7, none⟩ f) :=
 (((((h.setCell (p := ⟨B, 2, none⟩) hB _).setCell (p := ⟨B, 3, none⟩) hB _).setCell (p := ⟨B, 4, none⟩) hB _).setCell (p := ⟨B, 5, none⟩) hB _).setCell (p := ⟨B, 6, none⟩) hB _).setCell (p := ⟨B, 7, none⟩) hB _
theorem Qgi (w : World) (B k : Nat) (a b : Value) (h : k ≠ B) : ((w.setCell ⟨B, 13, none⟩ a).setCell ⟨B, 14, none⟩ b).heap[k]? = w.heap[k]? := by
 rw [Below.heap_setCell _ _ _ _ h, Below.heap_setCell _ _ _ _ h]
theorem Qez (w : World) (B : Nat) (a b : Value) : ((w.setCell ⟨B, 13, none⟩ a).setCell ⟨B, 14, none⟩ b).heap.size = w.heap.size := by simp
theorem set2_below {w0 : World} (h : Below n w0 w) (hB : n ≤ B) (a b : Value) : Below n w0 ((w.setCell ⟨B, 13, none⟩ a).setCell ⟨B, 14, none⟩ b) :=
 (h.setCell (p := ⟨B, 13, none⟩) hB _).setCell (p := ⟨B, 14, none⟩) hB _
theorem Box15.drew (h : Box15 w B x0 x1 x2 x3 x4 x5 x6 x7 x8 x9 x10 x11 x12 x13 x14) : Box15 w.drew B x0 x1 x2 x3 x4 x5 x6 x7 x8 x9 x10 x11 x12 x13 x14 := h
theorem two_steps {w1 w2 : World} (h1 : Below w.drew.heap.size w.drew w1) (h2 : Below w1.heap.size w1 w2) (u v : Value) (b : Nat) (hb : B + 1 ≤ b) (hl : b < w.heap.size) : ((w2.setCell ⟨B, 13, none⟩ u).setCell ⟨B, 14, none⟩ v).heap[b]? = w.heap[b]? := by
 have hs : w.heap.size ≤ w1.heap.size := h1.size
 rw [Qgi _ _ _ _ _ (by omega), h2.block b (by omega)]
 exact h1.block b hl
theorem Qgc : w.drew.heap.size = w.heap.size := rfl
theorem Box15.set2 (h : Box15 w B x0 x1 x2 x3 x4 x5 x6 x7 x8 x9 x10 x11 x12 x13 x14) (a b : Value) : Box15 ((w.setCell ⟨B, 13, none⟩ a).setCell ⟨B, 14, none⟩ b) B x0 x1 x2 x3 x4 x5 x6 x7 x8 x9 x10 x11 x12 a b :=
 set_block (set_block h 13 a) 14 b
end
theorem scopy_w (l : List En) (ho : ∀ e ∈ l, EnOk e) (hl : l.length ≤ 100000) (v : Value) (w : World) (h : RepS (fun _ => True) w v l) :
    Calls Try.prog 8 #[v] w fun e w' => ∃ u css, e = .returned u ∧ EnsC (fun b => w.heap.size ≤ b ∧ b < w'.heap.size) w' (l.map Qbj) u css ∧ Below w.heap.size w w' := by
  obtain ⟨a, cap, rfl, -⟩ := h.shape
  have HR := Hh h
  have HO := Hh ho
  clear h ho
  go_enter Try.func8, Try.ntmps8
  go_wp2_with fail
  go_loopw [3, 8] (fun u3 i wr => ∃ (k : Nat) (css : List (List Value)), k ≤ l.length ∧ i = .int .i64 k ∧ EnsC (fun b => w.heap.size ≤ b ∧ b < wr.heap.size) wr ((l.take k).map Qbj) u3 css ∧ Below w.heap.size w wr) (fun _ i _ => l.length - (intOf i).toNat)
  case atStart => exact ⟨0, [], Nat.zero_le _, rfl, EnsC.start, Below.refl _ _⟩
  case round =>
    obtain ⟨k, css, hk, rfl, hci, hbel⟩ := hrel
    by_cases hlt : k < l.length
    · obtain ⟨b, off, cap', a1, n1, c1, a2, n2, c2, a3, n3, c3, a4, n4, c4, he, ⟨x0, x1, x2, x3, x4, x5, x6, x7, x8, x9, x10, x11, x12, x13, x14⟩, r1, r2, r3, r4, r5⟩ := ens_at HR.out hbel k hlt
      simp only [Value.slice.injEq, true_and] at he
      obtain ⟨rfl, rfl⟩ := he
      have hlk : ((l.take k).map Qbj).length = k := by rw [List.length_map, List.length_take]; omega
      obtain ⟨au, cu, rfl⟩ : ∃ a c, u3 = .slice a k c := by
        obtain ⟨a, c, e⟩ := hci.shape
        exact ⟨a, c, by rw [e, hlk]⟩
      have HLK := Hh hlk
      clear hlk
      have HC := Hh hci
      have HLT := Hh hlt
      have HBEL := Hh hbel
      have R1 := Hh r1
      have R2 := Hh r2
      have R3 := Hh r3
      have R4 := Hh r4
      have R5 := Hh r5
      clear hci hbel r1 r2 r3 r4 r5
      have HO3 := Hh (HO.out _ (List.getElem_mem hlt))
      have HT : Hid ((l.take (k + 1)).map Qbj = (l.take k).map Qbj ++ [Qbj l[k]]) := by show _ = _; rw [List.take_succ_eq_append_getElem hlt, List.map_append]; rfl
      generalize l[k] = x at *
      have HCE := Hh (show Qbj x = ⟨x.kind, x.name, Qbc x.ty, Qbc x.body, x.of_, x.place, x.pars, x.inds, x.level, x.cons, x.fields⟩ from rfl)
      go_upto_region 5 with fail
      obtain ⟨W0, hW0⟩ : ∃ W0, W0 = wr.alloc (Obj.cells #[.int .i64 x.kind, .string x.name, .int .i64 x.ty.kind, .int .i64 x.ty.num, .slice a1 n1 c1, .int .i64 x.body.kind, .int .i64 x.body.num, .slice a2 n2 c2, .int .i64 x.of_, .int .i64 x.place, .int .i64 x.pars, .int .i64 x.inds, .int .i64 x.level, .slice a3 n3 c3, .slice a4 n4 c4] 33) := ⟨_, rfl⟩
      have HBW : Hid (Below wr.heap.size wr W0.drew) := by rw [hW0]; exact ((Below.refl _ _).alloc (Nat.le_refl _) _).drew
      have HBX : Hid (Box15 W0.drew wr.heap.size (.int .i64 x.kind) (.string x.name) (.int .i64 x.ty.kind) (.int .i64 x.ty.num) (.slice a1 n1 c1) (.int .i64 x.body.kind) (.int .i64 x.body.num) (.slice a2 n2 c2) (.int .i64 x.of_) (.int .i64 x.place) (.int .i64 x.pars) (.int .i64 x.inds) (.int .i64 x.level) (.slice a3 n3 c3) (.slice a4 n4 c4)) := by rw [hW0]; exact heap_alloc_new wr _
      have HSZ : Hid (W0.drew.heap.size = wr.heap.size + 1) := by show _ = _; rw [hW0]; simp
      rw [← hW0]
      clear hW0
      have CALL1 := Hh (tcopy_w x.ty _ _ (R1.out.later HBW.out))
      have CALL2 : Hid (∀ w1, Below (W0.drew).heap.size W0.drew w1 → Calls Try.prog 19 #[.agg #[.int .i64 x.body.kind, .int .i64 x.body.num, .slice a2 n2 c2]] w1 fun e w' => ∃ a n c, e = .returned (.agg #[.int .i64 (Qbc x.body).kind, .int .i64 (Qbc x.body).num, .slice a n c]) ∧ ClT (fun b => w1.heap.size ≤ b ∧ b < w'.heap.size) w' (Qbc x.body) [.int .i64 (Qbc x.body).kind, .int .i64 (Qbc x.body).num, .slice a n c] ∧ Below w1.heap.size w1 w') := fun w1 hb => tcopy_w x.body _ _ ((R2.out.later HBW.out).later hb)
      clear x0 x1 x2 x3 x4 x5 x6 x7 x8 x9 x10 x11 x12 x13 x14
      generalize Qbc x.ty = ct at *
      generalize Qbc x.body = cb at *
      go_cut [14] (fun s14 wx => ∃ a5 n5 c5 a6 n6 c6, s14 = .agg #[.int .i64 ct.kind, .int .i64 ct.num, .slice a5 n5 c5] ∧ Box15 wx wr.heap.size (.int .i64 x.kind) (.string x.name) (.int .i64 ct.kind) (.int .i64 ct.num) (.slice a5 n5 c5) (.int .i64 cb.kind) (.int .i64 cb.num) (.slice a6 n6 c6) (.int .i64 x.of_) (.int .i64 x.place) (.int .i64 x.pars) (.int .i64 x.inds) (.int .i64 x.level) (.slice a3 n3 c3) (.slice a4 n4 c4) ∧
        ClT (fun b => wr.heap.size + 1 ≤ b ∧ b < wx.heap.size) wx ct [.int .i64 ct.kind, .int .i64 ct.num, .slice a5 n5 c5] ∧ ClT (fun b => wr.heap.size + 1 ≤ b ∧ b < wx.heap.size) wx cb [.int .i64 cb.kind, .int .i64 cb.num, .slice a6 n6 c6] ∧ Below wr.heap.size wr wx)
      case first =>
        obtain ⟨z0, z1, z2, z3, z4, z5, z6, z7, z8, z9, z10, z11, z12, z13, z14⟩ := HBX.out.cells
        go_region_law
          (first
            | (go_simp
               go_at_call 19
               refine CALL1.out.mono ?_
               rintro e w1 ⟨a5, n5, c5, rfl, hcl1, hb1⟩
               have HB1 := Hh hb1
               have B1 := Hh (HBX.out.later hb1 (by rw [HSZ.out]; exact Nat.lt_succ_self _))
               obtain ⟨-, -, -, -, -, y5, y6, y7, -⟩ := B1.out.cells
               replace hcl1 := Hh hcl1
               clear hb1)
            | (go_simp
               go_at_call 19
               refine (CALL2.out w1 HB1.out).mono ?_
               rintro e w2 ⟨a6, n6, c6, rfl, hcl2, hb2⟩
               have HB2 := Hh hb2
               have B2 := Hh (B1.out.later hb2 B1.out.lt)
               obtain ⟨-, -, s2, s3, s4, s5, s6, s7, -⟩ := B2.out.cells
               have f2 := B2.out.free 2
               have f3 := B2.out.free 3
               have f4 := B2.out.free 4
               have f5 := B2.out.free 5
               have f6 := B2.out.free 6
               have f7 := B2.out.free 7
               replace hcl2 := Hh hcl2
               clear hb2))
        all_goals
          have h1s := HB1.out.size
          have h2s := HB2.out.size
          have hsz := HSZ.out
          clear z0 z1 z2 z3 z4 z5 z6 z7 z8 z9 z10 z11 z12 z13 z14 s2 s3 s4 s5 s6 s7 f2 f3 f4 f5 f6 f7
          go_wp2_with fail
          go_meet
          refine ⟨a5, n5, c5, a6, n6, c6, rfl, B2.out.set6 _ _ _ _ _ _, ClT.move (fun b hb => ⟨⟨by have := hb.1; omega, by rw [set6_size]; have := hb.2; omega⟩, ?_⟩) _ _ hcl1.out, ClT.move (fun b hb => ⟨⟨by have := hb.1; omega, by rw [set6_size]; exact hb.2⟩, ?_⟩) _ _ hcl2.out, set6_below (HBW.out.trans ((HB1.out.trans (HB2.out.mono h1s)).mono (by omega))) (Nat.le_refl _) _ _ _ _ _ _⟩
          · rw [set6_heap _ _ _ _ _ _ _ _ _ (by have := hb.1; omega), HB2.out.block b hb.2]
          · rw [set6_heap _ _ _ _ _ _ _ _ _ (by have := hb.1; omega)]
      case rest =>
        obtain ⟨a5, n5, c5, a6, n6, c6, rfl, BX, hct, hcb, hbx⟩ := hcut
        go_upto_region 6 with fail
        have hBl := BX.lt
        have HBX2 := Hh BX.drew
        have HBL := Hh hBl
        have HBW2 := Hh hbx.drew
        have CALL3 := Hh (clone_w x.cons HO3.out.1 _ _ (R3.out.later HBW2.out))
        have CALL4 := Hh fun w1 hb => clone_w x.fields HO3.out.2 _ w1 ((R4.out.later HBW2.out).later hb)
        have HCT := Hh hct
        have HCB := Hh hcb
        clear hct hcb hbx BX hBl HBX CALL1 CALL2 HSZ HBW
        go_cut [22] (fun s22 wy => ∃ a7 n7 c7 a8 n8 c8, s22 = .slice a7 n7 c7 ∧ Box15 wy wr.heap.size (.int .i64 x.kind) (.string x.name) (.int .i64 ct.kind) (.int .i64 ct.num) (.slice a5 n5 c5) (.int .i64 cb.kind) (.int .i64 cb.num) (.slice a6 n6 c6) (.int .i64 x.of_) (.int .i64 x.place) (.int .i64 x.pars) (.int .i64 x.inds) (.int .i64 x.level) (.slice a7 n7 c7) (.slice a8 n8 c8) ∧
          EnF (fun b => wr.heap.size + 1 ≤ b ∧ b < wy.heap.size) wy ⟨x.kind, x.name, ct, cb, x.of_, x.place, x.pars, x.inds, x.level, x.cons, x.fields⟩ [.int .i64 x.kind, .string x.name, .int .i64 ct.kind, .int .i64 ct.num, .slice a5 n5 c5, .int .i64 cb.kind, .int .i64 cb.num, .slice a6 n6 c6, .int .i64 x.of_, .int .i64 x.place, .int .i64 x.pars, .int .i64 x.inds, .int .i64 x.level, .slice a7 n7 c7, .slice a8 n8 c8] ∧ Below wr.heap.size wr wy)
        case first =>
          obtain ⟨z0, z1, z2, z3, z4, z5, z6, z7, z8, z9, z10, z11, z12, z13, z14⟩ := HBX2.out.cells
          go_region_law
            (first
              | (go_simp
                 go_at_call 20
                 refine CALL3.out.mono ?_
                 rintro e w1 ⟨a7, n7, c7, rfl, hcl1, hb1⟩
                 have HB1 := Hh hb1
                 have B1 := Hh (HBX2.out.later hb1 HBL.out)
                 obtain ⟨-, -, -, -, -, -, -, -, -, -, -, -, -, y13, y14⟩ := B1.out.cells
                 replace hcl1 := Hh hcl1
                 clear hb1)
              | (go_simp
                 go_at_call 20
                 refine (CALL4.out w1 HB1.out).mono ?_
                 rintro e w2 ⟨a8, n8, c8, rfl, hcl2, hb2⟩
                 have HB2 := Hh hb2
                 have B2 := Hh (B1.out.later hb2 B1.out.lt)
                 obtain ⟨-, -, -, -, -, -, -, -, -, -, -, -, -, s13, s14⟩ := B2.out.cells
                 have f13 := B2.out.free 13
                 have f14 := B2.out.free 14
                 replace hcl2 := Hh hcl2
                 clear hb2))
          all_goals
            have h1s := HB1.out.size
            have h2s := HB2.out.size
            rw [Qgc] at h1s
            have hbl := HBL.out
            clear z0 z1 z2 z3 z4 z5 z6 z7 z8 z9 z10 z11 z12 z13 z14 s13 s14 f13 f14
            go_wp2_with fail
            go_meet
            refine ⟨a7, n7, c7, a8, n8, c8, rfl, B2.out.set2 _ _, ⟨_, _, _, _, rfl, ClT.move (fun b hb => ⟨⟨hb.1, by rw [Qez]; have := hb.2; omega⟩, two_steps HB1.out HB2.out _ _ b hb.1 hb.2⟩) _ _ HCT.out, ClT.move (fun b hb => ⟨⟨hb.1, by rw [Qez]; have := hb.2; omega⟩, two_steps HB1.out HB2.out _ _ b hb.1 hb.2⟩) _ _ HCB.out, IntR.moveT hcl1.out fun b cur hb _ => ⟨⟨by have := hb.1; rw [Qgc] at this; omega, by rw [Qez]; have := hb.2; omega⟩, ?_⟩, IntR.moveT hcl2.out fun b cur hb _ => ⟨⟨by have := hb.1; omega, by rw [Qez]; exact hb.2⟩, ?_⟩, R5.out⟩, set2_below (HBW2.out.trans ((HB1.out.trans (HB2.out.mono HB1.out.size)).mono HBW2.out.size)) (Nat.le_refl _) _ _⟩
            · rw [Qgi _ _ _ _ _ (by have := hb.1; rw [Qgc] at this; omega), HB2.out.block b hb.2]
            · rw [Qgi _ _ _ _ _ (by have := hb.1; omega)]
        case rest =>
          obtain ⟨a7, n7, c7, a8, n8, c8, rfl, BX, hen, hby⟩ := hcut
          obtain ⟨z0, z1, z2, z3, z4, z5, z6, z7, z8, z9, z10, z11, z12, z13, z14⟩ := BX.cells
          obtain ⟨i0, zz, hi, hz0, hz1, hz2, hz3⟩ := info33
          have hA : Below wc.heap.size wc (wc.alloc (Obj.cells #[.int .i64 x.kind, .string x.name, .int .i64 ct.kind, .int .i64 ct.num, .slice a5 n5 c5, .int .i64 cb.kind, .int .i64 cb.num, .slice a6 n6 c6, .int .i64 x.of_, .int .i64 x.place, .int .i64 x.pars, .int .i64 x.inds, .int .i64 x.level, .slice a7 n7 c7, .slice a8 n8 c8] 33)) := (Below.refl _ _).alloc (Nat.le_refl _) _
          have hown : Hid ((wc.alloc (Obj.cells #[.int .i64 x.kind, .string x.name, .int .i64 ct.kind, .int .i64 ct.num, .slice a5 n5 c5, .int .i64 cb.kind, .int .i64 cb.num, .slice a6 n6 c6, .int .i64 x.of_, .int .i64 x.place, .int .i64 x.pars, .int .i64 x.inds, .int .i64 x.level, .slice a7 n7 c7, .slice a8 n8 c8] 33)).ownsRow w.heap.size 33 15 (.slice au k cu) k css.flatten) := by
            have := HC.out.own (w2 := wc.alloc (Obj.cells #[.int .i64 x.kind, .string x.name, .int .i64 ct.kind, .int .i64 ct.num, .slice a5 n5 c5, .int .i64 cb.kind, .int .i64 cb.num, .slice a6 n6 c6, .int .i64 x.of_, .int .i64 x.place, .int .i64 x.pars, .int .i64 x.inds, .int .i64 x.level, .slice a7 n7 c7, .slice a8 n8 c8] 33)) fun b h1 h2 => by
              have hbs := hby.size
              rw [hA.block b (by omega), hby.block b h2]
            rw [HLK.out] at this
            exact this
          have hsl : Hid (SlN (wc.alloc (Obj.cells #[.int .i64 x.kind, .string x.name, .int .i64 ct.kind, .int .i64 ct.num, .slice a5 n5 c5, .int .i64 cb.kind, .int .i64 cb.num, .slice a6 n6 c6, .int .i64 x.of_, .int .i64 x.place, .int .i64 x.pars, .int .i64 x.inds, .int .i64 x.level, .slice a7 n7 c7, .slice a8 n8 c8] 33)) 15 (.slice (some ⟨wc.heap.size, 0, none⟩) 1 1) [[.int .i64 x.kind, .string x.name, .int .i64 ct.kind, .int .i64 ct.num, .slice a5 n5 c5, .int .i64 cb.kind, .int .i64 cb.num, .slice a6 n6 c6, .int .i64 x.of_, .int .i64 x.place, .int .i64 x.pars, .int .i64 x.inds, .int .i64 x.level, .slice a7 n7 c7, .slice a8 n8 c8]]) :=
            SlN.own (own_litN (w := wc) (xs := [.int .i64 x.kind, .string x.name, .int .i64 ct.kind, .int .i64 ct.num, .slice a5 n5 c5, .int .i64 cb.kind, .int .i64 cb.num, .slice a6 n6 c6, .int .i64 x.of_, .int .i64 x.place, .int .i64 x.pars, .int .i64 x.inds, .int .i64 x.level, .slice a7 n7 c7, .slice a8 n8 c8]) (n := 1) (size := 15) 33 rfl (by decide)) rfl (by intro c hc; simp at hc; subst hc; rfl)
          have hbase : Hid (w.heap.size ≤ (wc.alloc (Obj.cells #[.int .i64 x.kind, .string x.name, .int .i64 ct.kind, .int .i64 ct.num, .slice a5 n5 c5, .int .i64 cb.kind, .int .i64 cb.num, .slice a6 n6 c6, .int .i64 x.of_, .int .i64 x.place, .int .i64 x.pars, .int .i64 x.inds, .int .i64 x.level, .slice a7 n7 c7, .slice a8 n8 c8] 33)).heap.size) := by
            have h1 := HBEL.out.size
            have h2 := hby.size
            show _ ≤ _
            simp; omega
          have HEN := Hh hen
          have HBY := Hh hby
          have HA := Hh hA
          clear hen hby BX hA HBX2 HBL HBW2 CALL3 CALL4 HCT HCB
          go_wp2_with (at_builtin; refine Qfz rfl _ _ 22 rfl w.heap.size 33 i0 zz 15 192 Try.underlying22 hi hz0 hz1 hz2 hz3 (by decide) _ _ _ hown.out _ _ hsl.out rfl rfl (by intro c hc u hu; simp at hc; subst hc; simp at hu; rcases hu with rfl | rfl | rfl | rfl | rfl | rfl | rfl | rfl | rfl | rfl | rfl | rfl | rfl | rfl | rfl <;> rfl) (by intro c hc; simp at hc; subst hc; rfl) (by unfold maxLen; simp; omega) (by simp; omega) hbase.out ?_)
          intro v2 w2 hown2 hb2 hg2
          have CEF := EnsC.step (e := Qbj x) HC.out HBEL.out.size HBY.out (by rw [HCE.out]; exact HEN.out.moveT fun b cur E _ hb _ => ⟨⟨by have := hb.1; omega, hb.2⟩, rfl⟩) HA.out (by rw [HLK.out]; simpa using hown2) hg2
          rw [← HT.out] at CEF
          have hBF : Below w.heap.size w w2 := (HBEL.out.trans (HBY.out.mono HBEL.out.size)).trans ((HA.out.mono (Nat.le_trans HBEL.out.size HBY.out.size)).trans hb2)
          have CEF2 := Hh CEF
          have HBF := Hh hBF
          clear hown2 hb2 hg2 CEF hBF z0 z1 z2 z3 z4 z5 z6 z7 z8 z9 z10 z11 z12 z13 z14
          go_wp2_with fail
          go_roundw
          case rel => exact ⟨k + 1, _, HLT.out, by simp, CEF2.out, HBF.out⟩
          case measure => have := HLT.out; simp [intOf]; omega
    · obtain rfl : k = l.length := by omega
      rw [List.take_length] at hci
      have HCI := Hh hci
      have HBB := Hh hbel
      clear hci hbel
      go_wp2_with fail
      exact bodyPost_ret (v := u3) (by simp [results, Try.results8, go_sem]) rfl ⟨u3, css, rfl, HCI.out, HBB.out⟩
theorem copyT_twice (t : Tm) : Qbc (Qbc t) = Qbc t := by
 unfold Qbc
 by_cases h : Qad t = true
 ·rw [if_pos h, if_pos h]
 ·rw [if_neg h]; split <;> rfl
theorem copyE_twice (x : En) : Qbj (Qbj x) = Qbj x := by
 unfold Qbj
 simp only [copyT_twice]
theorem sameTB_copy (t : Tm) : Qbb (Qbc t) t = true := by
 unfold Qbc
 by_cases h : Qad t = true
 ·rw [if_pos h]; exact Qfc t
 ·have h1 : Qad t = false := by simpa using h
  have h2 : Qad (.mk 0 0 []) = false := by decide +kernel
  rw [if_neg h]
  unfold Qbb
  rw [h1, h2]; rfl
theorem sameE_copy (x : En) : Qdd (Qbj x) x = true := by
 unfold Qdd Qbj
 simp only [sameTB_copy, Qge]
 simp
theorem sameS_copy (l : List En) : Qch (l.map Qbj) l = true := by
 have : ∀ l : List En, Qce (l.map Qbj) l = true := by
  intro l
  induction l with
  | nil => rfl
  | cons x l ih => simp only [List.map_cons, Qce, sameE_copy, ih]; rfl
 unfold Qch
 rw [this, List.length_map]; simp
def SB (W6 : World) (lo mid b : Nat) : Prop := lo ≤ b ∧ b < mid ∧ ∃ cur, W6.heap[b]? = some (.cells cur 30 (0, 0))
structure SI (w W6 : World) (lo mid hi : Nat) (wr : World) : Prop where
 old : Below w.heap.size w wr
 size : hi ≤ wr.heap.size
 new : ∀ b, mid ≤ b → b < hi → wr.heap[b]? = W6.heap[b]?
 ent : ∀ b cur, lo ≤ b → b < mid → W6.heap[b]? = some (.cells cur 33 (0, 0)) → wr.heap[b]? = W6.heap[b]?
 ints : ∀ b cur, lo ≤ b → b < mid → W6.heap[b]? = some (.cells cur 3 (0, 0)) → ∃ cur', wr.heap[b]? = some (.cells cur' 3 (0, 0)) ∧ cur'.size = cur.size
 tms : ∀ d cs, SpD (SB W6 lo mid) W6 d cs → SpD (SB W6 lo mid) wr d cs
theorem SI.start {w W6 : World} {lo mid hi : Nat} (h : Below w.heap.size w W6) (hh : hi ≤ W6.heap.size) : SI w W6 lo mid hi W6 :=
 ⟨h, hh, fun _ _ _ => rfl, fun _ _ _ _ _ => rfl, fun b cur _ _ hb => ⟨cur, hb, rfl⟩, fun _ _ h => h⟩
theorem SI.later {w W6 wr w2 : World} {lo mid hi : Nat} (h : SI w W6 lo mid hi wr) (hm : mid ≤ hi) (hw : w.heap.size ≤ lo) (hb : Below wr.heap.size wr w2) : SI w W6 lo mid hi w2 := by
 have hs := h.size
 refine ⟨h.old.trans (hb.mono h.old.size), Nat.le_trans hs hb.size, fun b h1 h2 => (hb.block b (by omega)).trans (h.new b h1 h2), fun b cur h1 h2 h3 => (hb.block b (by omega)).trans (h.ent b cur h1 h2 h3), fun b cur h1 h2 h3 => ?_, fun d cs hd => SpD.move (fun b hb' => hb.block b (by have := hb'.2.1; omega)) d cs (h.tms d cs hd)⟩
 obtain ⟨cur', h4, h5⟩ := h.ints b cur h1 h2 h3
 exact ⟨cur', (hb.block b (by omega)).trans h4, h5⟩
theorem SI.spoil {w W6 wr w2 : World} {lo mid hi : Nat} (h : SI w W6 lo mid hi wr) (hm : mid ≤ hi) (hw : w.heap.size ≤ lo) (hb : Below lo wr w2) (hF : ∀ b, b < wr.heap.size → ¬ SB W6 lo mid b → w2.heap[b]? = wr.heap[b]?) (hK : ∀ d cs, SpD (SB W6 lo mid) wr d cs → SpD (SB W6 lo mid) w2 d cs) : SI w W6 lo mid hi w2 := by
 have hs := h.size
 have hne : ∀ b cur E, E ≠ 30 → W6.heap[b]? = some (.cells cur E (0, 0)) → ¬ SB W6 lo mid b := fun b cur E hE hb hS => by
  obtain ⟨_, _, c2, hc⟩ := hS
  rw [hc] at hb
  injection hb with hb
  injection hb with _ hb _
  exact hE hb.symm
 refine ⟨h.old.trans (hb.mono hw), Nat.le_trans hs hb.size, fun b h1 h2 => (hF b (by omega) fun hS => by have := hS.2.1; omega).trans (h.new b h1 h2), fun b cur h1 h2 h3 => (hF b (by omega) (hne b cur _ (by decide) h3)).trans (h.ent b cur h1 h2 h3), fun b cur h1 h2 h3 => ?_, fun d cs hd => hK d cs (h.tms d cs hd)⟩
 obtain ⟨cur', h4, h5⟩ := h.ints b cur h1 h2 h3
 exact ⟨cur', (hF b (by omega) (hne b cur _ (by decide) h3)).trans h4, h5⟩
theorem SI.int {w W6 wr : World} {lo mid hi g o : Nat} {u : Value} {cur : Array Value} (h : SI w W6 lo mid hi wr) (hm : mid ≤ hi) (hw : w.heap.size ≤ lo) (h1 : lo ≤ g) (h2 : g < mid) (h3 : W6.heap[g]? = some (.cells cur 3 (0, 0))) : SI w W6 lo mid hi (wr.setCell ⟨g, o, none⟩ u) := by
 have hne : ∀ b c E, E ≠ 3 → W6.heap[b]? = some (.cells c E (0, 0)) → b ≠ g := fun b c E hE hb e => by
  subst e
  rw [h3] at hb
  injection hb with hb
  injection hb with _ hb _
  exact hE hb.symm
 refine ⟨h.old.setCell (p := ⟨g, o, none⟩) (Nat.le_trans hw h1) _, by simpa using h.size, fun b h4 h5 => (Below.heap_setCell _ _ _ _ (show b ≠ g by omega)).trans (h.new b h4 h5), fun b c h4 h5 h6 => (Below.heap_setCell _ _ _ _ (hne b c _ (by decide) h6)).trans (h.ent b c h4 h5 h6), fun b c h4 h5 h6 => ?_, fun d cs hd => SpD.move (fun b hb => Below.heap_setCell _ _ _ _ ?_) d cs (h.tms d cs hd)⟩
 ·obtain ⟨c', h7, h8⟩ := h.ints b c h4 h5 h6
  by_cases hbg : b = g
  ·subst hbg
   exact ⟨_, set_block h7 o u, by simpa using h8⟩
  ·exact ⟨c', (Below.heap_setCell _ _ _ _ hbg).trans h7, h8⟩
 ·obtain ⟨_, _, c2, hc⟩ := hb
  exact hne b c2 _ (by decide) hc
theorem SI.at_ {w W6 : World} {lo mid hi : Nat} {es : List En} {u : Value} {css : List (List Value)} (hc : EnsC (fun b => lo ≤ b ∧ b < mid) W6 es u css) (k : Nat) (hk : k < es.length) :
    ∃ (g cap : Nat) (k1 m1 : Int) (a1 : Option Addr) (n1 c1 : Nat) (k2 m2 : Int) (a2 : Option Addr) (n2 c2 : Nat) (a3 : Option Addr) (n3 c3 N1 N2 : Nat), u = .slice (some ⟨g, 0, none⟩) es.length cap ∧ n3 ≤ maxLen ∧ (∀ wr, SI w W6 lo mid hi wr →
      (wr.cell? ⟨g, k * 15 + 2, none⟩ = some (.int .i64 k1) ∧ wr.cell? ⟨g, k * 15 + 3, none⟩ = some (.int .i64 m1) ∧ wr.cell? ⟨g, k * 15 + 4, none⟩ = some (.slice a1 n1 c1)) ∧
      (wr.cell? ⟨g, k * 15 + 5, none⟩ = some (.int .i64 k2) ∧ wr.cell? ⟨g, k * 15 + 6, none⟩ = some (.int .i64 m2) ∧ wr.cell? ⟨g, k * 15 + 7, none⟩ = some (.slice a2 n2 c2)) ∧ wr.cell? ⟨g, k * 15 + 13, none⟩ = some (.slice a3 n3 c3) ∧
      SpD (SB W6 lo mid) wr N1 [.int .i64 k1, .int .i64 m1, .slice a1 n1 c1] ∧ SpD (SB W6 lo mid) wr N2 [.int .i64 k2, .int .i64 m2, .slice a2 n2 c2]) ∧
      (0 < n3 → ∃ g3 cur, a3 = some ⟨g3, 0, none⟩ ∧ lo ≤ g3 ∧ g3 < mid ∧ W6.heap[g3]? = some (.cells cur 3 (0, 0)) ∧ n3 ≤ cur.size) := by
  rcases hc.row with ⟨_, rfl⟩ | ⟨g, cap, cur, rfl, hg, hG, h4, h5, h6, h7⟩
  · simp at hk
  have hkc : k < css.length := by rw [hc.len]; exact hk
  have hci : css[k]? = some css[k] := List.getElem?_eq_getElem hkc
  obtain ⟨v1, v2, vc, vf, he, t1, t2, i1, _, _⟩ := hc.at_ k es[k] css[k] (List.getElem?_eq_getElem hk) hci
  have h15 := hc.len15
  have hcell : ∀ j x, css[k][j]? = some x → W6.cell? ⟨g, k * 15 + j, none⟩ = some x := fun j x hx => by
    have hf := Qem h15 k j css[k] x hci hx
    have hjl : j < 15 := by rw [← h15 css[k] (List.getElem_mem hkc)]; exact (List.getElem?_eq_some_iff.1 hx).1
    have e : cur = cur.toList.toArray := rfl
    rw [e] at hG
    rw [cell_of_row W6 g _ _ 33 (0, 0) hG]
    rw [← h7, List.getElem?_take_of_lt (by omega)] at hf
    simpa using hf
  rw [he] at hcell
  have hsp : ∀ t c, ClT (fun b => lo ≤ b ∧ b < mid) W6 t c → ∃ N, SpD (SB W6 lo mid) W6 N c := fun t c h => by
    obtain ⟨N, hN⟩ := ClT.toSp t c (ClT.moveT (S' := SB W6 lo mid) (w' := W6) (fun b cur hb hcb => ⟨⟨hb.1, hb.2, cur, hcb⟩, rfl⟩) _ _ h)
    exact ⟨N, hN N (Nat.le_refl _)⟩
  obtain ⟨N1, s1⟩ := hsp _ _ t1
  obtain ⟨N2, s2⟩ := hsp _ _ t2
  obtain ⟨a1, n1, c1, rfl⟩ : ∃ a n c, v1 = .slice a n c := by
    cases hes : es[k].ty with
    | mk q1 q2 q3 =>
      rw [hes] at t1
      simp only [ClT] at t1
      obtain ⟨v, css', he', hr, _⟩ := t1
      simp only [List.cons.injEq, and_true] at he'
      obtain ⟨_, _, rfl⟩ := he'
      rcases hr with ⟨rfl, _⟩ | ⟨_, _, _, rfl, _⟩ <;> exact ⟨_, _, _, rfl⟩
  obtain ⟨a2, n2, c2, rfl⟩ : ∃ a n c, v2 = .slice a n c := by
    cases hes : es[k].body with
    | mk q1 q2 q3 =>
      rw [hes] at t2
      simp only [ClT] at t2
      obtain ⟨v, css', he', hr, _⟩ := t2
      simp only [List.cons.injEq, and_true] at he'
      obtain ⟨_, _, rfl⟩ := he'
      rcases hr with ⟨rfl, _⟩ | ⟨_, _, _, rfl, _⟩ <;> exact ⟨_, _, _, rfl⟩
  obtain ⟨a3, n3, c3, rfl, hn3, hi3⟩ : ∃ a n c, vc = .slice a n c ∧ n ≤ maxLen ∧ (0 < n → ∃ g3 cur, a = some ⟨g3, 0, none⟩ ∧ lo ≤ g3 ∧ g3 < mid ∧ W6.heap[g3]? = some (.cells cur 3 (0, 0)) ∧ n ≤ cur.size) := by
    rcases i1 with ⟨a, c, rfl, h, _⟩ | ⟨g3, cap3, cur3, rfl, q1, q2, q3, q4, q5, _⟩
    · exact ⟨_, _, _, rfl, Nat.zero_le _, fun h => by omega⟩
    · exact ⟨_, _, _, rfl, by omega, fun _ => ⟨g3, cur3, rfl, q1.1, q1.2, q2, by omega⟩⟩
  refine ⟨g, cap, es[k].ty.kind, es[k].ty.num, a1, n1, c1, es[k].body.kind, es[k].body.num, a2, n2, c2, a3, n3, c3, N1, N2, rfl, hn3, fun wr hS => ?_, hi3⟩
  have hw : ∀ j x, W6.cell? ⟨g, k * 15 + j, none⟩ = some x → wr.cell? ⟨g, k * 15 + j, none⟩ = some x := fun j x hx => (World.cell?_of_block (w := W6) (a := ⟨g, k * 15 + j, none⟩) (hS.ent g cur hg.1 hg.2 hG)).trans hx
  exact ⟨⟨hw _ _ (hcell 2 _ rfl), hw _ _ (hcell 3 _ rfl), hw _ _ (hcell 4 _ rfl)⟩, ⟨hw _ _ (hcell 5 _ rfl), hw _ _ (hcell 6 _ rfl), hw _ _ (hcell 7 _ rfl)⟩, hw _ _ (hcell 13 _ rfl), hS.tms _ _ s1, hS.tms _ _ s2⟩
end Go.Proofs.Ytpaifjlikgnlfaa
