import Derived.Test.YtackepdhcigdlaaTm26
namespace Go.Proofs.Ytackepdhcigdlaa
open Go.RowKit
theorem ClT.toSp {S : Nat → Prop} {w : World} : ∀ (t : Tm) (cs : List Value), ClT S w t cs → ∃ N, ∀ d, N ≤ d → SpD S w d cs := by
  refine Tm.ind ?_
  intro k n sub ih cs h
  simp only [ClT] at h
  obtain ⟨v, css, rfl, hrow, hcl⟩ := h
  have h3 := hcl.three
  have hl := hcl.length
  have hN : ∃ N, ∀ d, N ≤ d → ∀ c ∈ css, SpD S w d c := by
    clear hrow h3 hl
    induction sub generalizing css with
    | nil => simp only [ClTs] at hcl; subst hcl; exact ⟨0, fun d _ c hc => by cases hc⟩
    | cons t ts iht =>
      simp only [ClTs] at hcl
      obtain ⟨c, cr, rfl, h1, h2⟩ := hcl
      obtain ⟨N1, hN1⟩ := ih t (by simp) c h1
      obtain ⟨N2, hN2⟩ := iht (fun s hs => ih s (by simp [hs])) cr h2
      refine ⟨max N1 N2, fun d hd c' hc' => ?_⟩
      cases hc' with
      | head => exact hN1 d (by omega)
      | tail _ hm => exact hN2 d (by omega) c' hm
  obtain ⟨N, hN⟩ := hN
  refine ⟨N + 1, fun d hd => ?_⟩
  obtain ⟨d, rfl⟩ : ∃ d', d = d' + 1 := ⟨d - 1, by omega⟩
  simp only [SpD]
  rcases hrow with ⟨rfl, h0, _⟩ | ⟨g, cap, cur, rfl, hS, hB, hcap, hm, hsz, htk⟩
  · exact ⟨k, n, none, 0, 0, rfl, Nat.zero_le _, fun h => by omega⟩
  · refine ⟨k, n, some ⟨g, 0, none⟩, sub.length, cap, rfl, by omega, fun _ => ⟨g, cur, rfl, hS, hB, by rw [hsz]; exact Nat.mul_le_mul_right 3 hcap, fun i hi => ?_⟩⟩
    have hci : css[i]? = some css[i] := List.getElem?_eq_getElem (by omega)
    obtain ⟨c0, c1, c2, hc⟩ : ∃ a b c, css[i] = [a, b, c] := by
      have h := h3 css[i] (List.getElem_mem (by omega))
      match css[i], h with
      | [a, b, c], _ => exact ⟨a, b, c, rfl⟩
    have at' : ∀ j x, j < 3 → css[i][j]? = some x → cur[i * 3 + j]! = x := by
      intro j x hj hx
      have hf := flat_at h3 i j css[i] x hci hx
      have hlt : i * 3 + j < sub.length * 3 := by omega
      rw [← htk, List.getElem?_take_of_lt hlt] at hf
      have : cur[i * 3 + j]? = some x := by simpa using hf
      rw [getElem!_def, this]
    have e0 := at' 0 c0 (by omega) (by rw [hc]; rfl)
    have e1 := at' 1 c1 (by omega) (by rw [hc]; rfl)
    have e2 := at' 2 c2 (by omega) (by rw [hc]; rfl)
    rw [Nat.add_zero] at e0
    rw [e0, e1, e2, ← hc]
    exact hN d (by omega) _ (List.getElem_mem (by omega))
end Go.Proofs.Ytackepdhcigdlaa
