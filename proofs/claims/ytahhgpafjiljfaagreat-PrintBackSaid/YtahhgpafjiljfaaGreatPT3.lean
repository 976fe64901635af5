import Derived.Test.YtahhgpafjiljfaaGreatPBD
import Derived.Test.YtahhgpafjiljfaaGreatPBNd
set_option linter.unusedSimpArgs false
set_option linter.unusedVariables false
set_option maxHeartbeats 16000000
set_option maxRecDepth 100000
namespace Go.Proofs.YtahhgpafjiljfaaGreat
open Go.RowKit
theorem infoR : (Tryz.prog.info? 31).map (fun i => (i.zero, i.size, i.bytes)) = some (some (.agg #[.int .i64 0, .int .i64 0, .string ByteArray.empty, .int .i64 0, .slice none 0 0]), 5, 64) := by kernel_rfl
theorem budL_count : ∀ (ls : List Nd) (l : Int), ((budL ls l).1.length : Int) ≤ max 0 (l + 9000)
  | [], l => by simp only [budL, List.length_nil]; omega
  | t :: ts, l => by
    have h1 := budL_count ts (budT t l).2
    have h2 := (Qlz t l).1
    simp only [budL]
    split
    · simp only [List.length_cons]; omega
    · simp only [List.length_nil]; omega
theorem bud_kind (t : Nd) (l : Int) : (budT t l).1 = .mk t.kind t.at t.name t.num (budT t l).1.sub ∧ (budT t l).1.sub = (budL t.sub (l - 1)).1 ∧ (budT t l).2 = (budL t.sub (l - 1)).2 := by
 cases t; simp only [budT, Nd.kind, Nd.at, Nd.name, Nd.num, Nd.sub]; exact ⟨trivial, trivial, trivial⟩
theorem bud_lo : ∀ (t : Nd) (l : Int), -9000 < l → -9000 ≤ (budT t l).2 := by
  refine Nd.ind ?_
  intro kk aa ss n sub ih l hl
  have : ∀ (ls : List Nd), (∀ s ∈ ls, ∀ l, -9000 < l → -9000 ≤ (budT s l).2) → ∀ l, -9000 ≤ l → -9000 ≤ (budL ls l).2 := by
    intro ls
    induction ls with
    | nil => intro _ l h; simp only [budL]; exact h
    | cons t ts iht =>
      intro hs l h
      simp only [budL]
      split
      · rename_i h9
        exact iht (fun s h => hs s (by simp [h])) _ (hs t (by simp) l h9)
      · exact h
  simp only [budT]
  exact this sub ih (l - 1) (by omega)
end Go.Proofs.YtahhgpafjiljfaaGreat
