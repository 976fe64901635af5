import Derived.Test.YtackepdhcigdlaaTm22
namespace Go.Proofs.Ytackepdhcigdlaa
open Go.RowKit
/-- what stands at the head of a round of 'cloned' -/
structure CI (lo : Nat) (sub : List Tm) (k : Nat) (v : Value) (css : List (List Value)) (wr : World) : Prop where
  cl : ClTs (fun b => lo ≤ b ∧ b < wr.heap.size ∧ (k = 1 → v.ownBlock ≠ some b)) wr (sub.take k) css
  row : RowS (fun b => lo ≤ b ∧ b < wr.heap.size) wr v k css.flatten
  nil : k = 0 → v = .slice none 0 0
theorem CI.own {lo : Nat} {sub : List Tm} {k : Nat} {v : Value} {css : List (List Value)} {wr w2 : World} (h : CI lo sub k v css wr) (hk : k ≤ sub.length) (hb : Below wr.heap.size wr w2) (bs : Nat) (hbs : k = 0 ∨ bs = lo) :
    w2.ownsRow bs 24 3 v k css.flatten := by
  have hl : css.flatten.length = k * 3 := by
    rw [flat_length h.cl.three, h.cl.length, List.length_take, Nat.min_eq_left hk]
  refine ⟨hl, ?_⟩
  rcases h.row with ⟨h1, h2, _⟩ | ⟨g, cap, cur, h1, h2, h3, h4⟩
  · exact .inl ⟨h1, h2⟩
  · rcases hbs with h0 | rfl
    · exact .inl ⟨h.nil h0, h0⟩
    · exact .inr ⟨g, cap, cur, h1, h2.1, (hb.block g h2.2).trans h3, h4⟩
theorem CI.shape {lo : Nat} {sub : List Tm} {k : Nat} {v : Value} {css : List (List Value)} {wr : World} (h : CI lo sub k v css wr) : ∃ a cap, v = .slice a k cap := by
  rcases h.row with ⟨h1, h2, _⟩ | ⟨g, cap, cur, h1, _⟩
  · exact ⟨none, 0, by rw [h1, h2]⟩
  · exact ⟨_, _, h1⟩
theorem CI.step {lo B3 : Nat} {sub : List Tm} {k : Nat} {v v' : Value} {css : List (List Value)} {c : List Value} {wr w1 wl w2 wF : World} (h : CI lo sub k v css wr) (hk : k < sub.length) (hk2 : k < 2) (hlo : lo ≤ wr.heap.size) (hB3 : B3 < lo)
    (hb1 : Below wr.heap.size wr w1) (hc : ClT (fun b => wr.heap.size ≤ b ∧ b < w1.heap.size) w1 sub[k] c) (hbl : Below w1.heap.size w1 wl)
    (hown : w2.ownsRow (if k = 0 then wl.heap.size else lo) 24 3 v' (k + 1) (css.flatten ++ c)) (hg : wl.grownBy w2 v.ownBlock) (hF : ∀ b, b ≠ B3 → wF.heap[b]? = w2.heap[b]?) (hFs : wF.heap.size = w2.heap.size) :
    CI lo sub (k + 1) v' (css ++ [c]) wF := by
  have hs1 := hb1.size
  have hsl := hbl.size
  have hsg := hg.size
  rcases hown.2 with ⟨_, h0⟩ | ⟨g, cap, cur, hv, hg0, hgb, h4⟩
  · omega
  have hglt : g < w2.heap.size := by obtain ⟨h1, _⟩ := Array.getElem?_eq_some_iff.1 hgb; exact h1
  have hglo : lo ≤ g := by split at hg0 <;> omega
  refine ⟨?_, ?_, fun h => by omega⟩
  · rw [List.take_succ_eq_append_getElem hk]
    refine ClTs.snoc ?_ ?_
    · refine ClT.move (fun b hb => ?_) _ _ hc
      have hne : some b ≠ v.ownBlock := by
        rcases h.row with ⟨h1, h2, _⟩ | ⟨g0, cap0, cur0, h1, h2, _⟩
        · rw [h1]; simp [Value.ownBlock]
        · rw [h1]; simp [Value.ownBlock]; omega
      refine ⟨⟨by omega, by omega, fun h1 => ?_⟩, ?_⟩
      · have hk0 : k = 0 := by omega
        rw [if_pos hk0] at hg0
        rw [hv]; simp [Value.ownBlock]; omega
      · rw [hF b (by omega), hg.block b (by omega) hne, hbl.block b hb.2]
    · refine ClTs.move (fun b hb => ?_) h.cl
      have hne : some b ≠ v.ownBlock := by
        by_cases hk0 : k = 0
        · rw [h.nil hk0]; simp [Value.ownBlock]
        · exact fun e => hb.2.2 (by omega) e.symm
      refine ⟨⟨hb.1, by omega, fun h1 => ?_⟩, ?_⟩
      · have hk0 : k = 0 := by omega
        rw [if_pos hk0] at hg0
        rw [hv]; simp [Value.ownBlock]; omega
      · rw [hF b (by omega), hg.block b (by omega) hne, hbl.block b (by omega), hb1.block b hb.2.1]
  · refine .inr ⟨g, cap, cur, hv, ⟨hglo, by omega⟩, (hF g (by omega)).trans hgb, h4.1, h4.2.1, h4.2.2.1, ?_⟩
    rw [h4.2.2.2]; simp
theorem CI.done {lo : Nat} {sub : List Tm} {k n : Int} {v : Value} {css : List (List Value)} {wr w' : World} {lo' : Nat} (h : CI lo sub sub.length v css wr) (hlo : lo' ≤ lo) (hsz : wr.heap.size ≤ w'.heap.size) (hF : ∀ b, lo ≤ b → b < wr.heap.size → w'.heap[b]? = wr.heap[b]?) :
    ClT (fun b => lo' ≤ b ∧ b < w'.heap.size) w' (.mk k n sub) [.int .i64 k, .int .i64 n, v] := by
  have hcl := h.cl
  rw [List.take_length] at hcl
  simp only [ClT]
  exact ⟨v, css, rfl, h.row.move fun b hb => ⟨⟨by omega, by omega⟩, hF b hb.1 hb.2⟩, hcl.move fun b hb => ⟨⟨by omega, by omega⟩, hF b hb.1 hb.2.1⟩⟩
theorem CI.start {lo : Nat} {sub : List Tm} {wr : World} : CI lo sub 0 (.slice none 0 0) [] wr :=
  ⟨by simp only [List.take_zero, ClTs], .inl ⟨rfl, rfl, rfl⟩, fun _ => rfl⟩
end Go.Proofs.Ytackepdhcigdlaa
