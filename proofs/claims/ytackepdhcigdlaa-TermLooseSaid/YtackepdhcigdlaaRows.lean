/-
  NARROWER THAN 'FOR EVERY INPUT', by the rows' own cells (each row's printed sentence says how): TermMakes: loops · TermSames: loops · TermCopies: loops · TermSpines: loops · TermNumbers: loops · TermLoose: loops · PositiveArgs: loops.
  DERIVED. THE GIVEN ROWS OF THIS SEAT. 8 by the template 'for every input the law returns true; each argument reads behind the call as it read before'; 0 by the template 'total and deterministic' (their statements: YtackepdhcigdlaaTotals.lean).
  GIVEN WITH THE SEED: the statements are not yours to turn. If you find one false, say at which input.
  Laid BY PROGRAM, IN A SANDBOX (cutbox-rows.mjs): the forced cells as the released guide's own fill.sh prints them over the translation f52b1e274cd528d7… (all of the seat's roots in one cut). By AI agents, Wed Nov 11 2026. No macro, syntax, notation, axiom, sorry.
-/
import Derived.Test.YtackepdhcigdlaaChecked
import GoSem.Claim
import GoSem.ClaimJoined
import GoSem.ClaimMapViews
import Derived.JoinedTies
import Derived.KernelRfl
namespace Go.Proofs.Ytackepdhcigdlaa
/- THE CELL 'sum', in the pinned program and in every row, IS THE sha256 OF THE DUMP (.gsa) THAT YtackepdhcigdlaaProg.lean LOADS. Nothing in Lean hashes anything: it is a label: what it is worth is what the hold of that sum in a sandbox is worth. -/
noncomputable def Try.pinned : Pinned := { name := "ytackepdhcigdlaa", sum := "f52b1e274cd528d715109ddbb07e0482b1b02623954347271f2a0f46e4480d0d", checked := Try.checked }
namespace Rows
def none {H : Type} : Left H := { results := [], args := [] }

/-- 'scholiumlaw07.TermLimits': WHATEVER THE INPUT: true; the input reads as it did. -/
def termLimitsSpec : ChangeSpec := { name := "termLimits", fn := fun _ => fun
  | [d] => { results := [.lit (.bool true)], args := [d] }
  | _ => none }
def termLimitsRow : OpenClaim := { program := "ytackepdhcigdlaa", sum := "f52b1e274cd528d715109ddbb07e0482b1b02623954347271f2a0f46e4480d0d", func := "scholium/scholiumlaw07.TermLimits", spec := "termLimits", recurses := true, apart := false }
def TermLimitsSaid : Prop := termLimitsRow.holds Try.pinned (OpenSpec.ofChange termLimitsSpec)

/-- ITS FALSE NEIGHBOUR: 'it returns false'. Refute it at one input. -/
def termLimitsWrong : ChangeSpec := { name := "termLimits", fn := fun _ => fun
  | [d] => { results := [.lit (.bool false)], args := [d] }
  | _ => none }
def TermLimitsWrongFalsely : Prop := termLimitsRow.holds Try.pinned (OpenSpec.ofChange termLimitsWrong)

/-- 'scholiumlaw07.TermMakes': WHATEVER THE INPUT: true; the input reads as it did. -/
def termMakesSpec : ChangeSpec := { name := "termMakes", fn := fun _ => fun
  | [d1, d2, d3] => { results := [.lit (.bool true)], args := [d1, d2, d3] }
  | _ => none }
def termMakesRow : OpenClaim := { program := "ytackepdhcigdlaa", sum := "f52b1e274cd528d715109ddbb07e0482b1b02623954347271f2a0f46e4480d0d", func := "scholium/scholiumlaw07.TermMakes", spec := "termMakes", recurses := true, loops := true, apart := false }
def TermMakesSaid : Prop := termMakesRow.holds Try.pinned (OpenSpec.ofChange termMakesSpec)

/-- ITS FALSE NEIGHBOUR: 'it returns false'. Refute it at one input. -/
def termMakesWrong : ChangeSpec := { name := "termMakes", fn := fun _ => fun
  | [d1, d2, d3] => { results := [.lit (.bool false)], args := [d1, d2, d3] }
  | _ => none }
def TermMakesWrongFalsely : Prop := termMakesRow.holds Try.pinned (OpenSpec.ofChange termMakesWrong)

/-- 'scholiumlaw07.TermSames': WHATEVER THE INPUT: true; the input reads as it did. -/
def termSamesSpec : ChangeSpec := { name := "termSames", fn := fun _ => fun
  | [d1, d2] => { results := [.lit (.bool true)], args := [d1, d2] }
  | _ => none }
def termSamesRow : OpenClaim := { program := "ytackepdhcigdlaa", sum := "f52b1e274cd528d715109ddbb07e0482b1b02623954347271f2a0f46e4480d0d", func := "scholium/scholiumlaw07.TermSames", spec := "termSames", recurses := true, loops := true, apart := false }
def TermSamesSaid : Prop := termSamesRow.holds Try.pinned (OpenSpec.ofChange termSamesSpec)

/-- ITS FALSE NEIGHBOUR: 'it returns false'. Refute it at one input. -/
def termSamesWrong : ChangeSpec := { name := "termSames", fn := fun _ => fun
  | [d1, d2] => { results := [.lit (.bool false)], args := [d1, d2] }
  | _ => none }
def TermSamesWrongFalsely : Prop := termSamesRow.holds Try.pinned (OpenSpec.ofChange termSamesWrong)

/-- 'scholiumlaw07.TermCopies': WHATEVER THE INPUT: true; the input reads as it did. -/
def termCopiesSpec : ChangeSpec := { name := "termCopies", fn := fun _ => fun
  | [d] => { results := [.lit (.bool true)], args := [d] }
  | _ => none }
def termCopiesRow : OpenClaim := { program := "ytackepdhcigdlaa", sum := "f52b1e274cd528d715109ddbb07e0482b1b02623954347271f2a0f46e4480d0d", func := "scholium/scholiumlaw07.TermCopies", spec := "termCopies", recurses := true, loops := true, apart := false }
def TermCopiesSaid : Prop := termCopiesRow.holds Try.pinned (OpenSpec.ofChange termCopiesSpec)

/-- ITS FALSE NEIGHBOUR: 'it returns false'. Refute it at one input. -/
def termCopiesWrong : ChangeSpec := { name := "termCopies", fn := fun _ => fun
  | [d] => { results := [.lit (.bool false)], args := [d] }
  | _ => none }
def TermCopiesWrongFalsely : Prop := termCopiesRow.holds Try.pinned (OpenSpec.ofChange termCopiesWrong)

/-- 'scholiumlaw07.TermSpines': WHATEVER THE INPUT: true; the input reads as it did. -/
def termSpinesSpec : ChangeSpec := { name := "termSpines", fn := fun _ => fun
  | [d1, d2] => { results := [.lit (.bool true)], args := [d1, d2] }
  | _ => none }
def termSpinesRow : OpenClaim := { program := "ytackepdhcigdlaa", sum := "f52b1e274cd528d715109ddbb07e0482b1b02623954347271f2a0f46e4480d0d", func := "scholium/scholiumlaw07.TermSpines", spec := "termSpines", recurses := true, loops := true, apart := false }
def TermSpinesSaid : Prop := termSpinesRow.holds Try.pinned (OpenSpec.ofChange termSpinesSpec)

/-- ITS FALSE NEIGHBOUR: 'it returns false'. Refute it at one input. -/
def termSpinesWrong : ChangeSpec := { name := "termSpines", fn := fun _ => fun
  | [d1, d2] => { results := [.lit (.bool false)], args := [d1, d2] }
  | _ => none }
def TermSpinesWrongFalsely : Prop := termSpinesRow.holds Try.pinned (OpenSpec.ofChange termSpinesWrong)

/-- 'scholiumlaw07.TermNumbers': WHATEVER THE INPUT: true; the input reads as it did. -/
def termNumbersSpec : ChangeSpec := { name := "termNumbers", fn := fun _ => fun
  | [d1, d2] => { results := [.lit (.bool true)], args := [d1, d2] }
  | _ => none }
def termNumbersRow : OpenClaim := { program := "ytackepdhcigdlaa", sum := "f52b1e274cd528d715109ddbb07e0482b1b02623954347271f2a0f46e4480d0d", func := "scholium/scholiumlaw07.TermNumbers", spec := "termNumbers", recurses := true, loops := true, apart := false }
def TermNumbersSaid : Prop := termNumbersRow.holds Try.pinned (OpenSpec.ofChange termNumbersSpec)

/-- ITS FALSE NEIGHBOUR: 'it returns false'. Refute it at one input. -/
def termNumbersWrong : ChangeSpec := { name := "termNumbers", fn := fun _ => fun
  | [d1, d2] => { results := [.lit (.bool false)], args := [d1, d2] }
  | _ => none }
def TermNumbersWrongFalsely : Prop := termNumbersRow.holds Try.pinned (OpenSpec.ofChange termNumbersWrong)

/-- 'scholiumlaw07.TermLoose': WHATEVER THE INPUT: true; the input reads as it did. -/
def termLooseSpec : ChangeSpec := { name := "termLoose", fn := fun _ => fun
  | [d1, d2] => { results := [.lit (.bool true)], args := [d1, d2] }
  | _ => none }
def termLooseRow : OpenClaim := { program := "ytackepdhcigdlaa", sum := "f52b1e274cd528d715109ddbb07e0482b1b02623954347271f2a0f46e4480d0d", func := "scholium/scholiumlaw07.TermLoose", spec := "termLoose", recurses := true, loops := true, apart := false }
def TermLooseSaid : Prop := termLooseRow.holds Try.pinned (OpenSpec.ofChange termLooseSpec)

/-- ITS FALSE NEIGHBOUR: 'it returns false'. Refute it at one input. -/
def termLooseWrong : ChangeSpec := { name := "termLoose", fn := fun _ => fun
  | [d1, d2] => { results := [.lit (.bool false)], args := [d1, d2] }
  | _ => none }
def TermLooseWrongFalsely : Prop := termLooseRow.holds Try.pinned (OpenSpec.ofChange termLooseWrong)

/-- 'scholiumlaw19.PositiveArgs': WHATEVER THE INPUT: true; the input reads as it did. -/
def positiveArgsSpec : ChangeSpec := { name := "positiveArgs", fn := fun _ => fun
  | [d1, d2] => { results := [.lit (.bool true)], args := [d1, d2] }
  | _ => none }
def positiveArgsRow : OpenClaim := { program := "ytackepdhcigdlaa", sum := "f52b1e274cd528d715109ddbb07e0482b1b02623954347271f2a0f46e4480d0d", func := "scholium/scholiumlaw19.PositiveArgs", spec := "positiveArgs", recurses := true, loops := true, apart := false }
def PositiveArgsSaid : Prop := positiveArgsRow.holds Try.pinned (OpenSpec.ofChange positiveArgsSpec)

/-- ITS FALSE NEIGHBOUR: 'it returns false'. Refute it at one input. -/
def positiveArgsWrong : ChangeSpec := { name := "positiveArgs", fn := fun _ => fun
  | [d1, d2] => { results := [.lit (.bool false)], args := [d1, d2] }
  | _ => none }
def PositiveArgsWrongFalsely : Prop := positiveArgsRow.holds Try.pinned (OpenSpec.ofChange positiveArgsWrong)

/- THE SECOND FORM. 'bulk': how many values and letters a reading holds, each counted each time it is reached (what is shared counts as often as it is met; a slice's spare places count too). A statement '..UptoSaid' is the law's where the arguments, and the package variables that the reading takes, are together of bulk at most 1048576: NARROWER than '..Said'. Prove '..Said' where nothing that the law and all that it calls make is longer than what came in: it says more and counts as full. Else prove '..UptoSaid'. A law counts once. -/
mutual
def uptoBulk {H : Type} : DataW H → Nat
  | .lit (.string bytes) => bytes.length + 1
  | .lit _ => 1
  | .nil => 1
  | .ptr d => uptoBulk d + 1
  | .slice elems spare => uptoBulkAll elems + uptoBulkAll spare + 1
  | .agg parts => uptoBulkAll parts + 1
  | .iface _ d => uptoBulk d + 1
  | .map entries => uptoBulkEntries entries + 1
  | .held _ => 1
def uptoBulkAll {H : Type} : List (DataW H) → Nat
  | [] => 0
  | d :: r => uptoBulk d + uptoBulkAll r
def uptoBulkEntries {H : Type} : List (Lit × DataW H) → Nat
  | [] => 0
  | x :: r => uptoBulkEntry x + uptoBulkEntries r
def uptoBulkEntry {H : Type} : Lit × DataW H → Nat
  | (.string bytes, d) => bytes.length + uptoBulk d + 1
  | (_, d) => uptoBulk d + 1
 end
def uptoSmall : (H : Type) → List (DataW H) → Bool := fun _ ds => decide (uptoBulkAll ds ≤ 1048576)
def OpenSpec.upto (s : _root_.Go.ChangeSpec) : _root_.Go.OpenSpec := { _root_.Go.OpenSpec.ofChange s with cond := some uptoSmall }

/-- 'scholiumlaw07.TermLimits', WHERE WHAT IT READS IS OF BULK AT MOST 1048576: true; the input reads as it did. -/
def termLimitsUptoRow : OpenClaim := { program := "ytackepdhcigdlaa", sum := "f52b1e274cd528d715109ddbb07e0482b1b02623954347271f2a0f46e4480d0d", func := "scholium/scholiumlaw07.TermLimits", spec := "termLimits", recurses := true, apart := false, narrowed := true }
def TermLimitsUptoSaid : Prop := termLimitsUptoRow.holds Try.pinned (OpenSpec.upto termLimitsSpec)

/-- 'scholiumlaw07.TermMakes', WHERE WHAT IT READS IS OF BULK AT MOST 1048576: true; the input reads as it did. -/
def termMakesUptoRow : OpenClaim := { program := "ytackepdhcigdlaa", sum := "f52b1e274cd528d715109ddbb07e0482b1b02623954347271f2a0f46e4480d0d", func := "scholium/scholiumlaw07.TermMakes", spec := "termMakes", recurses := true, loops := true, apart := false, narrowed := true }
def TermMakesUptoSaid : Prop := termMakesUptoRow.holds Try.pinned (OpenSpec.upto termMakesSpec)

/-- 'scholiumlaw07.TermSames', WHERE WHAT IT READS IS OF BULK AT MOST 1048576: true; the input reads as it did. -/
def termSamesUptoRow : OpenClaim := { program := "ytackepdhcigdlaa", sum := "f52b1e274cd528d715109ddbb07e0482b1b02623954347271f2a0f46e4480d0d", func := "scholium/scholiumlaw07.TermSames", spec := "termSames", recurses := true, loops := true, apart := false, narrowed := true }
def TermSamesUptoSaid : Prop := termSamesUptoRow.holds Try.pinned (OpenSpec.upto termSamesSpec)

/-- 'scholiumlaw07.TermCopies', WHERE WHAT IT READS IS OF BULK AT MOST 1048576: true; the input reads as it did. -/
def termCopiesUptoRow : OpenClaim := { program := "ytackepdhcigdlaa", sum := "f52b1e274cd528d715109ddbb07e0482b1b02623954347271f2a0f46e4480d0d", func := "scholium/scholiumlaw07.TermCopies", spec := "termCopies", recurses := true, loops := true, apart := false, narrowed := true }
def TermCopiesUptoSaid : Prop := termCopiesUptoRow.holds Try.pinned (OpenSpec.upto termCopiesSpec)

/-- 'scholiumlaw07.TermSpines', WHERE WHAT IT READS IS OF BULK AT MOST 1048576: true; the input reads as it did. -/
def termSpinesUptoRow : OpenClaim := { program := "ytackepdhcigdlaa", sum := "f52b1e274cd528d715109ddbb07e0482b1b02623954347271f2a0f46e4480d0d", func := "scholium/scholiumlaw07.TermSpines", spec := "termSpines", recurses := true, loops := true, apart := false, narrowed := true }
def TermSpinesUptoSaid : Prop := termSpinesUptoRow.holds Try.pinned (OpenSpec.upto termSpinesSpec)

/-- 'scholiumlaw07.TermNumbers', WHERE WHAT IT READS IS OF BULK AT MOST 1048576: true; the input reads as it did. -/
def termNumbersUptoRow : OpenClaim := { program := "ytackepdhcigdlaa", sum := "f52b1e274cd528d715109ddbb07e0482b1b02623954347271f2a0f46e4480d0d", func := "scholium/scholiumlaw07.TermNumbers", spec := "termNumbers", recurses := true, loops := true, apart := false, narrowed := true }
def TermNumbersUptoSaid : Prop := termNumbersUptoRow.holds Try.pinned (OpenSpec.upto termNumbersSpec)

/-- 'scholiumlaw07.TermLoose', WHERE WHAT IT READS IS OF BULK AT MOST 1048576: true; the input reads as it did. -/
def termLooseUptoRow : OpenClaim := { program := "ytackepdhcigdlaa", sum := "f52b1e274cd528d715109ddbb07e0482b1b02623954347271f2a0f46e4480d0d", func := "scholium/scholiumlaw07.TermLoose", spec := "termLoose", recurses := true, loops := true, apart := false, narrowed := true }
def TermLooseUptoSaid : Prop := termLooseUptoRow.holds Try.pinned (OpenSpec.upto termLooseSpec)

/-- 'scholiumlaw19.PositiveArgs', WHERE WHAT IT READS IS OF BULK AT MOST 1048576: true; the input reads as it did. -/
def positiveArgsUptoRow : OpenClaim := { program := "ytackepdhcigdlaa", sum := "f52b1e274cd528d715109ddbb07e0482b1b02623954347271f2a0f46e4480d0d", func := "scholium/scholiumlaw19.PositiveArgs", spec := "positiveArgs", recurses := true, loops := true, apart := false, narrowed := true }
def PositiveArgsUptoSaid : Prop := positiveArgsUptoRow.holds Try.pinned (OpenSpec.upto positiveArgsSpec)

end Rows
end Go.Proofs.Ytackepdhcigdlaa
