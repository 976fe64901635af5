import Derived.Test.YtackepdhcigdlaaTm2
import Derived.BigRegion
import Derived.RegionTactic
import Derived.ChangeAlike
namespace Go.Proofs.Ytackepdhcigdlaa
open Go.RowKit
theorem flat_set (y0 y1 y2 : Value) : ∀ (ds : List (List Value)) (k : Nat), (∀ c ∈ ds, c.length = 3) → k < ds.length → (ds.set k [y0, y1, y2]).flatten = ((ds.flatten.set (k * 3) y0).set (k * 3 + 1) y1).set (k * 3 + 2) y2 := by
  intro ds
  induction ds with
  | nil => intro k _ hk; simp at hk
  | cons c cr ih =>
    intro k h3 hk
    have hc := h3 c (by simp)
    match c, hc with
    | [a, b, d], _ =>
      cases k with
      | zero => simp
      | succ k =>
        have := ih k (fun c hc => h3 c (by simp [hc])) (by simpa using hk)
        simp only [List.set_cons_succ, List.flatten_cons, List.cons_append, List.nil_append]
        rw [this, show (k + 1) * 3 = k * 3 + 1 + 1 + 1 by omega]
        simp only [List.set_cons_succ, show k * 3 + 1 + 1 + 1 + 1 = (k * 3 + 1) + 1 + 1 + 1 from rfl, show k * 3 + 1 + 1 + 1 + 2 = (k * 3 + 2) + 1 + 1 + 1 from rfl]
theorem set_block' {w : World} {B : Nat} {c : Array Value} {e : TypeId} {fr : Nat × Nat} (h : w.heap[B]? = some (.cells c e fr)) (i : Nat) (u : Value) : (w.setCell ⟨B, i, none⟩ u).heap[B]? = some (.cells (c.setIfInBounds i u) e fr) := by
  unfold World.setCell
  simp [Array.getElem?_modify, h]
theorem row_set {w : World} {base : Nat} {g n cap : Nat} {ds : List (List Value)} (h : w.ownsRow base 24 3 (.slice (some ⟨g, 0, none⟩) n cap) n ds.flatten) (hn : ds.length = n) (h3 : ∀ c ∈ ds, c.length = 3) (k : Nat) (hk : k < n) (y0 y1 y2 : Value) :
    (((w.setCell ⟨g, k * 3, none⟩ y0).setCell ⟨g, k * 3 + 1, none⟩ y1).setCell ⟨g, k * 3 + 2, none⟩ y2).ownsRow base 24 3 (.slice (some ⟨g, 0, none⟩) n cap) n (ds.set k [y0, y1, y2]).flatten := by
  obtain ⟨h0, h1⟩ := h
  have hfl := flat_set y0 y1 y2 ds k h3 (by omega)
  refine ⟨by rw [hfl]; simpa using h0, .inr ?_⟩
  rcases h1 with ⟨h1, _⟩ | ⟨g', cap', cur, hv, hg, hh, hnc, hc, hsz, htk⟩
  · cases h1
  · simp only [Value.slice.injEq, Option.some.injEq, Addr.mk.injEq, and_true, true_and] at hv
    obtain ⟨rfl, rfl⟩ := hv
    refine ⟨g, cap, _, rfl, hg, set_block' (set_block' (set_block' hh (k * 3) y0) (k * 3 + 1) y1) (k * 3 + 2) y2, hnc, hc, by simpa using hsz, ?_⟩
    rw [hfl, ← htk]
    simp [List.take_set]
theorem row_drew {w : World} {base e sz n : Nat} {v : Value} {xs : List Value} (h : w.ownsRow base e sz v n xs) : w.drew.ownsRow base e sz v n xs := h
/-- the cells of a term, by their shape -/
def Cs3 (c : List Value) : Prop := ∃ (k n : Int) (a : Option Addr) (len cap : Nat), c = [.int .i64 k, .int .i64 n, .slice a len cap]
theorem Cs3.three {c : List Value} (h : Cs3 c) : c.length = 3 := by obtain ⟨_, _, _, _, _, rfl⟩ := h; rfl
set_option maxRecDepth 100000 in
set_option maxHeartbeats 2000000 in
theorem reverse_any (base : Nat) (v : Value) (css : List (List Value)) (w : World) (hown : w.ownsRow base 24 3 v css.length css.flatten) (h3 : ∀ c ∈ css, Cs3 c) :
    Calls Try.prog 57 #[v] w fun e w' => e = .returned (.tuple #[]) ∧ w'.ownsRow base 24 3 v css.length css.reverse.flatten ∧ Below base w w' := by
  obtain ⟨a, cap, rfl, hll⟩ : ∃ a cap, v = .slice a css.length cap ∧ css.length ≤ 9223372036854775807 := by
    rcases hown.2 with ⟨h1, h2⟩ | ⟨g, cap, cur, hv, _, _, h1, h2, _⟩
    · exact ⟨none, 0, by rw [h1, h2], by omega⟩
    · exact ⟨_, cap, hv, by unfold maxLen at h2; omega⟩
  have HO := Lib.hid hown
  have H3 := Lib.hid h3
  clear hown h3
  go_enter Try.func57, Try.ntmps57
  go_wp2_with fail
  go_loopw [2, 3] (fun i j wr => ∃ (k : Nat) (ds : List (List Value)), i = .int .i64 k ∧ j = .int .i64 ((css.length : Int) - 1 - k) ∧ 2 * k ≤ css.length ∧ Hid (ds.length = css.length) ∧ Hid (∀ c ∈ ds, Cs3 c) ∧ Hid (wr.ownsRow base 24 3 (.slice a css.length cap) css.length ds.flatten) ∧ Hid (∀ m, m < css.length → ds[m]? = if m < k ∨ css.length - k ≤ m then css[css.length - 1 - m]? else css[m]?) ∧ Hid (Below base w wr)) (fun i _ _ => css.length - (intOf i).toNat)
  case atStart => 
    exact ⟨0, css, rfl, by simp, by omega, rfl, H3.out, HO.out, (fun m hm => by rw [if_neg (by omega)]), Below.refl _ _⟩
  case round =>
    obtain ⟨k, ds, rfl, rfl, hk, hdl, hd3, hown, hds, hbel⟩ := hrel
    by_cases hlt : (k : Int) < (css.length : Int) - 1 - k
    · obtain ⟨m, hm⟩ : ∃ m : Nat, (css.length : Int) - 1 - k = m := ⟨css.length - 1 - k, by omega⟩
      have hmn : k + m + 1 = css.length := by omega
      obtain ⟨g, rfl, hgb⟩ : ∃ g, a = some ⟨g, 0, none⟩ ∧ base ≤ g := by
        rcases hown.out.2 with ⟨h1, h2⟩ | ⟨g, cap', cur, hv, h1, _⟩
        · omega
        · simp only [Value.slice.injEq] at hv
          exact ⟨g, hv.1, h1⟩
      obtain ⟨x0, x1, x2, xl, xc, hx⟩ := (hd3.out _ (List.getElem_mem (l := ds) (n := k) (by have := hdl.out; omega)))
      obtain ⟨y0, y1, y2, yl, yc, hy⟩ := (hd3.out _ (List.getElem_mem (l := ds) (n := m) (by have := hdl.out; omega)))
      have hsl := SlN.own hown.out hdl.out (fun c hc => (hd3.out c hc).three)
      have hcellk : ∀ (i : Nat) (hi : i < ds.length) (x0 x1 x2 : Value), ds[i] = [x0, x1, x2] → wr.cell? ⟨g, i * 3, none⟩ = some x0 ∧ wr.cell? ⟨g, i * 3 + 1, none⟩ = some x1 ∧ wr.cell? ⟨g, i * 3 + 2, none⟩ = some x2 := by
        intro i hi x0 x1 x2 he
        obtain ⟨a', cap', hv, _, _, hc⟩ := hsl
        simp only [Value.slice.injEq] at hv
        obtain ⟨b, off, hb, hcc⟩ := hc (by intro e; rw [e] at hi; simp at hi)
        rw [← hv.1] at hb
        simp only [Option.some.injEq, Addr.mk.injEq, and_true] at hb
        obtain ⟨rfl, rfl⟩ := hb
        have := (hcc i _ (by rw [List.getElem?_eq_getElem hi, he])).2
        have h0 := this 0 x0 rfl
        have h1 := this 1 x1 rfl
        have h2 := this 2 x2 rfl
        simp at h0 h1 h2
        exact ⟨h0, h1, h2⟩
      obtain ⟨c0, c1, c2⟩ := hcellk k (by have := hdl.out; omega) _ _ _ hx
      obtain ⟨d0, d1, d2⟩ := hcellk m (by have := hdl.out; omega) _ _ _ hy
      have hfr : ∀ i, wr.frozen? ⟨g, i, none⟩ = false := by
        intro i
        rcases hown.out.2 with ⟨h1, h2⟩ | ⟨g', cap', cur, hv, h1, hh, _⟩
        · cases h1
        · simp only [Value.slice.injEq, Option.some.injEq, Addr.mk.injEq, and_true] at hv
          obtain ⟨rfl, _⟩ := hv
          unfold World.frozen?; rw [hh]; simp
      have f0 := hfr (k * 3)
      have f1 := hfr (k * 3 + 1)
      have f2 := hfr (k * 3 + 2)
      have g0 := hfr (m * 3)
      have g1 := hfr (m * 3 + 1)
      have g2 := hfr (m * 3 + 2)
      have b0 : (0:Int) ≤ k := by omega
      have b1 : (0:Int) ≤ m := by omega
      have b2 : (k:Int) < css.length := by omega
      have b3 : (m:Int) < css.length := by omega
      have hkm : (k : Int) < m := by omega
      rw [hm]
      have F0 : wr.drew.frozen? ⟨g, k * 3, none⟩ = false := f0
      have F1 : wr.drew.frozen? ⟨g, k * 3 + 1, none⟩ = false := f1
      have F2 : wr.drew.frozen? ⟨g, k * 3 + 2, none⟩ = false := f2
      have G0 : wr.drew.frozen? ⟨g, m * 3, none⟩ = false := g0
      have G1 : wr.drew.frozen? ⟨g, m * 3 + 1, none⟩ = false := g1
      have G2 : wr.drew.frozen? ⟨g, m * 3 + 2, none⟩ = false := g2
      have C0 : wr.drew.cell? ⟨g, k * 3, none⟩ = some (.int .i64 x0) := c0
      have C1 : wr.drew.cell? ⟨g, k * 3 + 1, none⟩ = some (.int .i64 x1) := c1
      have C2 : wr.drew.cell? ⟨g, k * 3 + 2, none⟩ = some (.slice x2 xl xc) := c2
      clear hlt hcellk hfr hsl
      go_wp2_with fail
      go_region
      have hdl' := hdl.out
      have r1 := row_set hown.out hdl' (fun c hc => (hd3.out c hc).three) k (by omega) (.int .i64 y0) (.int .i64 y1) (.slice y2 yl yc)
      have r2 := row_set r1 (by simpa using hdl') (fun c hc => by
        rcases List.mem_or_eq_of_mem_set hc with h | h
        · exact (hd3.out c h).three
        · rw [h]; rfl) m (by omega) (.int .i64 x0) (.int .i64 x1) (.slice x2 xl xc)
      have hF : Hid (Below base w (((((((wr.setCell ⟨g, k * 3, none⟩ (.int .i64 y0)).setCell ⟨g, k * 3 + 1, none⟩ (.int .i64 y1)).setCell ⟨g, k * 3 + 2, none⟩ (.slice y2 yl yc)).setCell ⟨g, m * 3, none⟩ (.int .i64 x0)).setCell ⟨g, m * 3 + 1, none⟩ (.int .i64 x1)).setCell ⟨g, m * 3 + 2, none⟩ (.slice x2 xl xc)).drew)) :=
        ((((((hbel.out.setCell (p := ⟨g, k * 3, none⟩) hgb _).setCell (p := ⟨g, k * 3 + 1, none⟩) hgb _).setCell (p := ⟨g, k * 3 + 2, none⟩) hgb _).setCell (p := ⟨g, m * 3, none⟩) hgb _).setCell (p := ⟨g, m * 3 + 1, none⟩) hgb _).setCell (p := ⟨g, m * 3 + 2, none⟩) hgb _).drew
      have hR : Hid (((((((wr.setCell ⟨g, k * 3, none⟩ (.int .i64 y0)).setCell ⟨g, k * 3 + 1, none⟩ (.int .i64 y1)).setCell ⟨g, k * 3 + 2, none⟩ (.slice y2 yl yc)).setCell ⟨g, m * 3, none⟩ (.int .i64 x0)).setCell ⟨g, m * 3 + 1, none⟩ (.int .i64 x1)).setCell ⟨g, m * 3 + 2, none⟩ (.slice x2 xl xc)).drew.ownsRow base 24 3 (.slice (some ⟨g, 0, none⟩) css.length cap) css.length ((ds.set k [.int .i64 y0, .int .i64 y1, .slice y2 yl yc]).set m [.int .i64 x0, .int .i64 x1, .slice x2 xl xc]).flatten) := row_drew r2
      have hnew : Hid (∀ i, i < css.length → ((ds.set k [.int .i64 y0, .int .i64 y1, .slice y2 yl yc]).set m [.int .i64 x0, .int .i64 x1, .slice x2 xl xc])[i]? = if i < k + 1 ∨ css.length - (k + 1) ≤ i then css[css.length - 1 - i]? else css[i]?) := by
        intro i hi
        have ek := hds.out k (by omega)
        have em := hds.out m (by omega)
        rw [if_neg (by omega), List.getElem?_eq_getElem (by omega), hx] at ek
        rw [if_neg (by omega), List.getElem?_eq_getElem (by omega), hy] at em
        by_cases h1 : i = m
        · subst h1
          rw [List.getElem?_set_self (by simp; omega), if_pos (by omega), show css.length - 1 - i = k by omega]; exact ek
        · rw [List.getElem?_set_ne (by omega)]
          by_cases h2 : i = k
          · subst h2
            rw [List.getElem?_set_self (by omega), if_pos (by omega), show css.length - 1 - i = m by omega]; exact em
          · rw [List.getElem?_set_ne (by omega), hds.out i hi]
            by_cases h3 : i < k ∨ css.length - k ≤ i
            · rw [if_pos h3, if_pos (by omega)]
            · rw [if_neg h3, if_neg (by omega)]
      have hl2 : Hid (((ds.set k [.int .i64 y0, .int .i64 y1, .slice y2 yl yc]).set m [.int .i64 x0, .int .i64 x1, .slice x2 xl xc]).length = css.length) := by show _ = _; simpa using hdl'
      have h32 : Hid (∀ c ∈ ((ds.set k [.int .i64 y0, .int .i64 y1, .slice y2 yl yc]).set m [.int .i64 x0, .int .i64 x1, .slice x2 xl xc]), Cs3 c) := by
        intro c hc
        rcases List.mem_or_eq_of_mem_set hc with h | h
        · rcases List.mem_or_eq_of_mem_set h with h | h
          · exact hd3.out c h
          · exact ⟨_, _, _, _, _, h⟩
        · exact ⟨_, _, _, _, _, h⟩
      clear r1 r2 c0 c1 c2 d0 d1 d2 f0 f1 f2 g0 g1 g2 F0 F1 F2 G0 G1 G2 C0 C1 C2 hx hy hown hds hbel hd3 hdl
      go_wp2_with fail
      go_roundw
      case rel => exact ⟨k + 1, _, by simp, by simp; omega, by omega, hl2, h32, hR, hnew, hF⟩
      case measure => simp [intOf]; omega
    · go_wp2_with fail
      exact bodyPost_end (v := .tuple #[]) (by simp [results, Try.results57, go_sem]) rfl ⟨rfl, by
        have e : ds = css.reverse := by
          apply List.ext_getElem?
          intro i
          by_cases hi : i < css.length
          · rw [hds.out i hi, List.getElem?_reverse hi]
            by_cases hc : i < k ∨ css.length - k ≤ i
            · rw [if_pos hc]
            · rw [if_neg hc, show css.length - 1 - i = i by omega]
          · rw [List.getElem?_eq_none (by have := hdl.out; omega), List.getElem?_eq_none (by simp; omega)]
        rw [← e]; exact hown.out, hbel.out⟩
end Go.Proofs.Ytackepdhcigdlaa
