/-
  No cell of these rows narrows 'for every input' (looked for: loops, veiled, ifaces, maps, wideKeys, modest, calm, conditions, laid).
  DERIVED. THE GIVEN ROWS OF THIS SEAT. 5 by the template 'for every input the law returns true; each argument reads behind the call as it read before'; 0 by the template 'total and deterministic' (their statements: YtahhgpafjiljfaaTotals.lean).
  GIVEN WITH THE SEED: the statements are not yours to turn. If you find one false, say at which input.
  Laid BY PROGRAM, IN A SANDBOX (cutbox-rows.mjs): the forced cells as the released guide's own fill.sh prints them over the translation b31d7ecf1a4b2e84… (all of the seat's roots in one cut). By AI agents, Wed Nov 11 2026. No macro, syntax, notation, axiom, sorry.
-/
import Derived.Test.YtahhgpafjiljfaaChecked
import GoSem.Claim
import GoSem.ClaimJoined
import GoSem.ClaimMapViews
import Derived.JoinedTies
import Derived.KernelRfl
namespace Go.Proofs.Ytahhgpafjiljfaa
/- THE CELL 'sum', in the pinned program and in every row, IS THE sha256 OF THE DUMP (.gsa) THAT YtahhgpafjiljfaaProg.lean LOADS. Nothing in Lean hashes anything: it is a label: what it is worth is what the hold of that sum in a sandbox is worth. -/
noncomputable def Try.pinned : Pinned := { name := "ytahhgpafjiljfaa", sum := "b31d7ecf1a4b2e84bda56183ded7f4e505ed502f66add9fd6cb5c4df568c575e", checked := Try.checked }
namespace Rows
def none {H : Type} : Left H := { results := [], args := [] }

/-- 'scholiumlaw03.TokenNumbers': WHATEVER THE INPUT: true; the input reads as it did. -/
def tokenNumbersSpec : ChangeSpec := { name := "tokenNumbers", fn := fun _ => fun
  | [d] => { results := [.lit (.bool true)], args := [d] }
  | _ => none }
def tokenNumbersRow : OpenClaim := { program := "ytahhgpafjiljfaa", sum := "b31d7ecf1a4b2e84bda56183ded7f4e505ed502f66add9fd6cb5c4df568c575e", func := "scholium/scholiumlaw03.TokenNumbers", spec := "tokenNumbers", unfollowed := true, recurses := true, apart := false }
def TokenNumbersSaid : Prop := tokenNumbersRow.holds Try.pinned (OpenSpec.ofChange tokenNumbersSpec)

/-- ITS FALSE NEIGHBOUR: 'it returns false'. Refute it at one input. -/
def tokenNumbersWrong : ChangeSpec := { name := "tokenNumbers", fn := fun _ => fun
  | [d] => { results := [.lit (.bool false)], args := [d] }
  | _ => none }
def TokenNumbersWrongFalsely : Prop := tokenNumbersRow.holds Try.pinned (OpenSpec.ofChange tokenNumbersWrong)

/-- 'scholiumlaw03.TokenPlaces': WHATEVER THE INPUT: true; the input reads as it did. -/
def tokenPlacesSpec : ChangeSpec := { name := "tokenPlaces", fn := fun _ => fun
  | [d1, d2] => { results := [.lit (.bool true)], args := [d1, d2] }
  | _ => none }
def tokenPlacesRow : OpenClaim := { program := "ytahhgpafjiljfaa", sum := "b31d7ecf1a4b2e84bda56183ded7f4e505ed502f66add9fd6cb5c4df568c575e", func := "scholium/scholiumlaw03.TokenPlaces", spec := "tokenPlaces", unfollowed := true, recurses := true, apart := false }
def TokenPlacesSaid : Prop := tokenPlacesRow.holds Try.pinned (OpenSpec.ofChange tokenPlacesSpec)

/-- ITS FALSE NEIGHBOUR: 'it returns false'. Refute it at one input. -/
def tokenPlacesWrong : ChangeSpec := { name := "tokenPlaces", fn := fun _ => fun
  | [d1, d2] => { results := [.lit (.bool false)], args := [d1, d2] }
  | _ => none }
def TokenPlacesWrongFalsely : Prop := tokenPlacesRow.holds Try.pinned (OpenSpec.ofChange tokenPlacesWrong)

/-- 'scholiumlaw05.ParseLimits': WHATEVER THE INPUT: true; the input reads as it did. -/
def parseLimitsSpec : ChangeSpec := { name := "parseLimits", fn := fun _ => fun
  | [d] => { results := [.lit (.bool true)], args := [d] }
  | _ => none }
def parseLimitsRow : OpenClaim := { program := "ytahhgpafjiljfaa", sum := "b31d7ecf1a4b2e84bda56183ded7f4e505ed502f66add9fd6cb5c4df568c575e", func := "scholium/scholiumlaw05.ParseLimits", spec := "parseLimits", unfollowed := true, recurses := true, apart := false }
def ParseLimitsSaid : Prop := parseLimitsRow.holds Try.pinned (OpenSpec.ofChange parseLimitsSpec)

/-- ITS FALSE NEIGHBOUR: 'it returns false'. Refute it at one input. -/
def parseLimitsWrong : ChangeSpec := { name := "parseLimits", fn := fun _ => fun
  | [d] => { results := [.lit (.bool false)], args := [d] }
  | _ => none }
def ParseLimitsWrongFalsely : Prop := parseLimitsRow.holds Try.pinned (OpenSpec.ofChange parseLimitsWrong)

/-- 'scholiumlaw05.ParseBlanks': WHATEVER THE INPUT: true; the input reads as it did. -/
def parseBlanksSpec : ChangeSpec := { name := "parseBlanks", fn := fun _ => fun
  | [d] => { results := [.lit (.bool true)], args := [d] }
  | _ => none }
def parseBlanksRow : OpenClaim := { program := "ytahhgpafjiljfaa", sum := "b31d7ecf1a4b2e84bda56183ded7f4e505ed502f66add9fd6cb5c4df568c575e", func := "scholium/scholiumlaw05.ParseBlanks", spec := "parseBlanks", unfollowed := true, recurses := true, apart := false }
def ParseBlanksSaid : Prop := parseBlanksRow.holds Try.pinned (OpenSpec.ofChange parseBlanksSpec)

/-- ITS FALSE NEIGHBOUR: 'it returns false'. Refute it at one input. -/
def parseBlanksWrong : ChangeSpec := { name := "parseBlanks", fn := fun _ => fun
  | [d] => { results := [.lit (.bool false)], args := [d] }
  | _ => none }
def ParseBlanksWrongFalsely : Prop := parseBlanksRow.holds Try.pinned (OpenSpec.ofChange parseBlanksWrong)

/-- 'scholiumlaw06.PrintOnce': WHATEVER THE INPUT: true; the input reads as it did. -/
def printOnceSpec : ChangeSpec := { name := "printOnce", fn := fun _ => fun
  | [d] => { results := [.lit (.bool true)], args := [d] }
  | _ => none }
def printOnceRow : OpenClaim := { program := "ytahhgpafjiljfaa", sum := "b31d7ecf1a4b2e84bda56183ded7f4e505ed502f66add9fd6cb5c4df568c575e", func := "scholium/scholiumlaw06.PrintOnce", spec := "printOnce", unfollowed := true, recurses := true, apart := false }
def PrintOnceSaid : Prop := printOnceRow.holds Try.pinned (OpenSpec.ofChange printOnceSpec)

/-- ITS FALSE NEIGHBOUR: 'it returns false'. Refute it at one input. -/
def printOnceWrong : ChangeSpec := { name := "printOnce", fn := fun _ => fun
  | [d] => { results := [.lit (.bool false)], args := [d] }
  | _ => none }
def PrintOnceWrongFalsely : Prop := printOnceRow.holds Try.pinned (OpenSpec.ofChange printOnceWrong)

/- THE SECOND FORM. 'bulk': how many values and letters a reading holds, each counted each time it is reached (what is shared counts as often as it is met; a slice's spare places count too). A statement '..UptoSaid' is the law's where the arguments, and the package variables that the reading takes, are together of bulk at most 1048576: NARROWER than '..Said'. Prove '..Said' where nothing that the law and all that it calls make is longer than what came in: it says more and counts as full. Else prove '..UptoSaid'. A law counts once. -/
mutual
def uptoBulk {H : Type} : DataW H → Nat
  | .lit (.string bytes) => bytes.length + 1
  | .lit _ => 1
  | .nil => 1
  | .ptr d => uptoBulk d + 1
  | .slice elems spare => uptoBulkAll elems + uptoBulkAll spare + 1
  | .agg parts => uptoBulkAll parts + 1
  | .iface _ d => uptoBulk d + 1
  | .map entries => uptoBulkEntries entries + 1
  | .held _ => 1
def uptoBulkAll {H : Type} : List (DataW H) → Nat
  | [] => 0
  | d :: r => uptoBulk d + uptoBulkAll r
def uptoBulkEntries {H : Type} : List (Lit × DataW H) → Nat
  | [] => 0
  | x :: r => uptoBulkEntry x + uptoBulkEntries r
def uptoBulkEntry {H : Type} : Lit × DataW H → Nat
  | (.string bytes, d) => bytes.length + uptoBulk d + 1
  | (_, d) => uptoBulk d + 1
 end
def uptoSmall : (H : Type) → List (DataW H) → Bool := fun _ ds => decide (uptoBulkAll ds ≤ 1048576)
def OpenSpec.upto (s : _root_.Go.ChangeSpec) : _root_.Go.OpenSpec := { _root_.Go.OpenSpec.ofChange s with cond := some uptoSmall }

/-- 'scholiumlaw03.TokenNumbers', WHERE WHAT IT READS IS OF BULK AT MOST 1048576: true; the input reads as it did. -/
def tokenNumbersUptoRow : OpenClaim := { program := "ytahhgpafjiljfaa", sum := "b31d7ecf1a4b2e84bda56183ded7f4e505ed502f66add9fd6cb5c4df568c575e", func := "scholium/scholiumlaw03.TokenNumbers", spec := "tokenNumbers", unfollowed := true, recurses := true, apart := false, narrowed := true }
def TokenNumbersUptoSaid : Prop := tokenNumbersUptoRow.holds Try.pinned (OpenSpec.upto tokenNumbersSpec)

/-- 'scholiumlaw03.TokenPlaces', WHERE WHAT IT READS IS OF BULK AT MOST 1048576: true; the input reads as it did. -/
def tokenPlacesUptoRow : OpenClaim := { program := "ytahhgpafjiljfaa", sum := "b31d7ecf1a4b2e84bda56183ded7f4e505ed502f66add9fd6cb5c4df568c575e", func := "scholium/scholiumlaw03.TokenPlaces", spec := "tokenPlaces", unfollowed := true, recurses := true, apart := false, narrowed := true }
def TokenPlacesUptoSaid : Prop := tokenPlacesUptoRow.holds Try.pinned (OpenSpec.upto tokenPlacesSpec)

/-- 'scholiumlaw05.ParseLimits', WHERE WHAT IT READS IS OF BULK AT MOST 1048576: true; the input reads as it did. -/
def parseLimitsUptoRow : OpenClaim := { program := "ytahhgpafjiljfaa", sum := "b31d7ecf1a4b2e84bda56183ded7f4e505ed502f66add9fd6cb5c4df568c575e", func := "scholium/scholiumlaw05.ParseLimits", spec := "parseLimits", unfollowed := true, recurses := true, apart := false, narrowed := true }
def ParseLimitsUptoSaid : Prop := parseLimitsUptoRow.holds Try.pinned (OpenSpec.upto parseLimitsSpec)

/-- 'scholiumlaw05.ParseBlanks', WHERE WHAT IT READS IS OF BULK AT MOST 1048576: true; the input reads as it did. -/
def parseBlanksUptoRow : OpenClaim := { program := "ytahhgpafjiljfaa", sum := "b31d7ecf1a4b2e84bda56183ded7f4e505ed502f66add9fd6cb5c4df568c575e", func := "scholium/scholiumlaw05.ParseBlanks", spec := "parseBlanks", unfollowed := true, recurses := true, apart := false, narrowed := true }
def ParseBlanksUptoSaid : Prop := parseBlanksUptoRow.holds Try.pinned (OpenSpec.upto parseBlanksSpec)

/-- 'scholiumlaw06.PrintOnce', WHERE WHAT IT READS IS OF BULK AT MOST 1048576: true; the input reads as it did. -/
def printOnceUptoRow : OpenClaim := { program := "ytahhgpafjiljfaa", sum := "b31d7ecf1a4b2e84bda56183ded7f4e505ed502f66add9fd6cb5c4df568c575e", func := "scholium/scholiumlaw06.PrintOnce", spec := "printOnce", unfollowed := true, recurses := true, apart := false, narrowed := true }
def PrintOnceUptoSaid : Prop := printOnceUptoRow.holds Try.pinned (OpenSpec.upto printOnceSpec)

end Rows
end Go.Proofs.Ytahhgpafjiljfaa
