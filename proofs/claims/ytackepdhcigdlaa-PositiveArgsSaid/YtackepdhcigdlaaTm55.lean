import Derived.Test.YtackepdhcigdlaaTm54
import Derived.Test.YtackepdhcigdlaaTm15
namespace Go.Proofs.Ytackepdhcigdlaa
open Go.RowKit
section
variable {H : Type} {enc : TypeId × Value → H} {w : World} {base : Nat} {spare : Nat → Bool} {held : Bool}
theorem open_case {n : Nat} {cs : List Value} {x : DataW H × List MemPlace} (h : DataW.trod enc Try.prog w base spare held n 54 cs = some x) : ∃ d p i f : Int, cs = [.int .i64 d, .int .i64 p, .int .i64 i, .int .i64 f] := by
  obtain ⟨xs, m, rfl, _, hlen, hxs, hf⟩ := DataW.trod_struct Try.underlying54 h
  have hc54 : Try.prog.cellsOf 54 = 4 := by kernel_rfl
  have hc3 : Try.prog.cellsOf 3 = 1 := by kernel_rfl
  rw [hc54] at hlen
  obtain ⟨c0, c1, c2, c3, rfl⟩ : ∃ a b c d, cs = [a, b, c, d] := by
    match cs, hlen with
    | [a, b, c, d], _ => exact ⟨a, b, c, d, rfl⟩
  match xs, hxs with
  | [x0, x1, x2, x3], _ =>
    have h0 := hf 0 _ rfl
    have h1 := hf 1 _ rfl
    have h2 := hf 2 _ rfl
    have h3 := hf 3 _ rfl
    simp [hc3] at h0 h1 h2 h3
    obtain ⟨d, hd, _, _⟩ := DataW.trod_int (k := .i64) (by kernel_rfl) h0
    obtain ⟨p, hp, _, _⟩ := DataW.trod_int (k := .i64) (by kernel_rfl) h1
    obtain ⟨i, hi, _, _⟩ := DataW.trod_int (k := .i64) (by kernel_rfl) h2
    obtain ⟨f, hff, _, _⟩ := DataW.trod_int (k := .i64) (by kernel_rfl) h3
    simp at hd hp hi hff
    subst hd hp hi hff
    exact ⟨d, p, i, f, rfl⟩
end
theorem posargs_walk (v : Value) (l : List Tm) (d p i f : Int) (w : World) (hl : TmS w v l) :
    Calls Try.prog 10 #[v, .agg #[.int .i64 d, .int .i64 p, .int .i64 i, .int .i64 f]] w fun e w' => e = .returned (.bool true) ∧ Below w.heap.size w w' := posargs_law l v d p i f w hl
end Go.Proofs.Ytackepdhcigdlaa
