import Derived.Test.YtackepdhcigdlaaTm25
namespace Go.Proofs.Ytackepdhcigdlaa
open Go.RowKit
/-- a leaf leads nowhere -/
theorem SpD.leaf (S : Nat → Prop) (w : World) (d : Nat) (k n : Int) : SpD S w (d + 1) [.int .i64 k, .int .i64 n, .slice none 0 0] := by
  simp only [SpD]
  exact ⟨k, n, none, 0, 0, rfl, Nat.zero_le _, fun h => by omega⟩
theorem SpD.move {S : Nat → Prop} {w w' : World} (hS : ∀ b, S b → w'.heap[b]? = w.heap[b]?) : ∀ (d : Nat) (cs : List Value), SpD S w d cs → SpD S w' d cs := by
  intro d
  induction d with
  | zero => intro cs h; simp only [SpD] at h
  | succ d ih =>
    intro cs h
    simp only [SpD] at h ⊢
    obtain ⟨k, n, a, len, cap, rfl, hm, hr⟩ := h
    refine ⟨k, n, a, len, cap, rfl, hm, fun h0 => ?_⟩
    obtain ⟨b, cur, ha, hb, hB, hsz, hi⟩ := hr h0
    exact ⟨b, cur, ha, hb, (hS b hb).trans hB, hsz, fun i h => ih _ (hi i h)⟩
/-- a slot is overwritten by a leaf: all that led anywhere leads somewhere still -/
theorem SpD.put {S : Nat → Prop} {w w' : World} {b0 o : Nat} {cur0 cur1 : Array Value} {k0 n0 : Int} (h0 : w.heap[b0]? = some (.cells cur0 24 (0, 0))) (h1 : w'.heap[b0]? = some (.cells cur1 24 (0, 0))) (hs : cur1.size = cur0.size)
    (hat : cur1[o * 3]! = .int .i64 k0 ∧ cur1[o * 3 + 1]! = .int .i64 n0 ∧ cur1[o * 3 + 2]! = .slice none 0 0) (hne : ∀ i, i ≠ o → cur1[i * 3]! = cur0[i * 3]! ∧ cur1[i * 3 + 1]! = cur0[i * 3 + 1]! ∧ cur1[i * 3 + 2]! = cur0[i * 3 + 2]!)
    (hS : ∀ b, b ≠ b0 → S b → w'.heap[b]? = w.heap[b]?) : ∀ (d : Nat) (cs : List Value), SpD S w d cs → SpD S w' d cs := by
  intro d
  induction d with
  | zero => intro cs h; simp only [SpD] at h
  | succ d ih =>
    intro cs h
    simp only [SpD] at h ⊢
    obtain ⟨k, n, a, len, cap, rfl, hm, hr⟩ := h
    refine ⟨k, n, a, len, cap, rfl, hm, fun hl => ?_⟩
    obtain ⟨b, cur, ha, hb, hB, hsz, hi⟩ := hr hl
    by_cases hbb : b = b0
    · subst hbb
      rw [h0] at hB
      obtain rfl : cur0 = cur := by injection hB with h; injection h
      refine ⟨b, cur1, ha, hb, h1, by omega, fun i hlt => ?_⟩
      by_cases hio : i = o
      · subst hio
        rw [hat.1, hat.2.1, hat.2.2]
        cases d with
        | zero => have := hi i hlt; simp only [SpD] at this
        | succ d => exact SpD.leaf S w' d k0 n0
      · obtain ⟨e0, e1, e2⟩ := hne i hio
        rw [e0, e1, e2]
        exact ih _ (hi i hlt)
    · exact ⟨b, cur, ha, hb, (hS b hbb hb).trans hB, hsz, fun i h => ih _ (hi i h)⟩
end Go.Proofs.Ytackepdhcigdlaa
