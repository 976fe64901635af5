import Derived.Test.YtffgfjnbgplckaaK0
namespace Go.Proofs.Ytffgfjnbgplckaa
open Go.RowKit
/-- what is told of a slice of integers that came in -/
def IsRow (k : IntKind) (w : World) (a : Option Addr) (len cap : Nat) (zs : List Int) : Prop :=
  (a = none ∧ len = 0 ∧ cap = 0 ∧ zs = []) ∨
  ∃ x, a = some x ∧ len ≤ cap ∧ cap ≤ maxLen ∧ zs.length = cap ∧ (∀ i, i < zs.length → w.cell? (x.add i) = some (.int k (zs.getD i 0))) ∧ ∀ n ∈ zs, (Lit.int k n).wf = true
theorem spot_none {w : World} {x : Addr} {v : Value} (h : w.cell? x = some v) : x.spot = none := by
  unfold World.cell? at h
  split at h
  · cases hs : x.spot with
    | none => rfl
    | some s => rw [hs] at h; simp at h
  · cases h
theorem addr_add {x : Addr} (h : x.spot = none) (i : Nat) : x.add i = ⟨x.block, x.off + i, none⟩ := by
  unfold Addr.add
  split
  · rename_i h0; subst h0; cases x; simp_all
  · rfl
theorem IsRow.slc {k : IntKind} {w : World} {a : Option Addr} {len cap : Nat} {zs : List Int} (h : IsRow k w a len cap zs) : Slc w (.slice a len cap) ((zs.take len).map (Value.int k)) := by
  rcases h with ⟨rfl, rfl, rfl, rfl⟩ | ⟨x, rfl, hl, hc, hz, hcell, _⟩
  · exact Slc.nil w
  · have hlen : ((zs.take len).map (Value.int k)).length = len := by simp; omega
    refine ⟨some x, cap, by rw [hlen], by omega, fun hne => ?_⟩
    have hpos : 0 < len := by
      rcases Nat.eq_zero_or_pos len with h | h
      · subst h; simp at hne
      · exact h
    have h0 := hcell 0 (by omega)
    have e0 : x.add 0 = x := by unfold Addr.add; rw [if_pos rfl]
    rw [e0] at h0
    have hs := spot_none h0
    refine ⟨x.block, x.off, by cases x; simp_all, fun i hi => ?_⟩
    have := hcell i (by omega)
    rw [addr_add hs] at this
    rw [this, List.getElem?_map, List.getElem?_take, if_pos (by omega), List.getD_eq_getElem?_getD, List.getElem?_eq_getElem (by omega)]
    rfl
theorem IsRow.len_le {k : IntKind} {w : World} {a : Option Addr} {len cap : Nat} {zs : List Int} (h : IsRow k w a len cap zs) : len ≤ maxLen := by
  rcases h with ⟨_, rfl, _, _⟩ | ⟨_, _, hl, hc, _⟩
  · exact Nat.zero_le _
  · omega
end Go.Proofs.Ytffgfjnbgplckaa
