/-
  NARROWER THAN 'FOR EVERY INPUT', by the rows' own cells (each row's printed sentence says how): SignBegins: loops · PositiveRecs: loops · PositiveCons: loops.
  DERIVED. THE GIVEN ROWS OF THIS SEAT. 3 by the template 'for every input the law returns true; each argument reads behind the call as it read before'; 0 by the template 'total and deterministic' (their statements: YtfnfbbmegdkhjaaGreatTotals.lean).
  GIVEN WITH THE SEED: the statements are not yours to turn. If you find one false, say at which input.
  Laid BY PROGRAM, IN A SANDBOX (cutbox-rows.mjs): the forced cells as the released guide's own fill.sh prints them over the translation ca0a131c3c923989… (all of the seat's roots in one cut). By AI agents, Wed Nov 11 2026. No macro, syntax, notation, axiom, sorry.
-/
import Derived.Test.YtfnfbbmegdkhjaaGreatChecked
import GoSem.Claim
import GoSem.ClaimJoined
import GoSem.ClaimMapViews
import Derived.JoinedTies
import Derived.KernelRfl
namespace Go.Proofs.YtfnfbbmegdkhjaaGreat
/- THE CELL 'sum', in the pinned program and in every row, IS THE sha256 OF THE DUMP (.gsa) THAT YtfnfbbmegdkhjaaGreatProg.lean LOADS. Nothing in Lean hashes anything: it is a label: what it is worth is what the hold of that sum in a sandbox is worth. -/
noncomputable def Tryz.pinned : Pinned := { name := "ytfnfbbmegdkhjaagreat", sum := "ca0a131c3c923989c66cbd566b01e51831a81118e27e01c1e4175668b495e90d", checked := Tryz.checked }
namespace Rows
def none {H : Type} : Left H := { results := [], args := [] }

/-- 'scholiumlaw12.SignBegins': WHATEVER THE INPUT: true; the input reads as it did. -/
def signBeginsSpec : ChangeSpec := { name := "signBegins", fn := fun _ => fun
  | [d1, d2] => { results := [.lit (.bool true)], args := [d1, d2] }
  | _ => none }
def signBeginsRow : OpenClaim := { program := "ytfnfbbmegdkhjaagreat", sum := "ca0a131c3c923989c66cbd566b01e51831a81118e27e01c1e4175668b495e90d", func := "scholium/scholiumlaw12.SignBegins", spec := "signBegins", recurses := true, loops := true, apart := false }
def SignBeginsSaid : Prop := signBeginsRow.holds Tryz.pinned (OpenSpec.ofChange signBeginsSpec)

/-- ITS FALSE NEIGHBOUR: 'it returns false'. Refute it at one input. -/
def signBeginsWrong : ChangeSpec := { name := "signBegins", fn := fun _ => fun
  | [d1, d2] => { results := [.lit (.bool false)], args := [d1, d2] }
  | _ => none }
def SignBeginsWrongFalsely : Prop := signBeginsRow.holds Tryz.pinned (OpenSpec.ofChange signBeginsWrong)

/-- 'scholiumlaw19.PositiveRecs': WHATEVER THE INPUT: true; the input reads as it did. -/
def positiveRecsSpec : ChangeSpec := { name := "positiveRecs", fn := fun _ => fun
  | [d1, d2] => { results := [.lit (.bool true)], args := [d1, d2] }
  | _ => none }
def positiveRecsRow : OpenClaim := { program := "ytfnfbbmegdkhjaagreat", sum := "ca0a131c3c923989c66cbd566b01e51831a81118e27e01c1e4175668b495e90d", func := "scholium/scholiumlaw19.PositiveRecs", spec := "positiveRecs", recurses := true, loops := true, apart := false }
def PositiveRecsSaid : Prop := positiveRecsRow.holds Tryz.pinned (OpenSpec.ofChange positiveRecsSpec)

/-- ITS FALSE NEIGHBOUR: 'it returns false'. Refute it at one input. -/
def positiveRecsWrong : ChangeSpec := { name := "positiveRecs", fn := fun _ => fun
  | [d1, d2] => { results := [.lit (.bool false)], args := [d1, d2] }
  | _ => none }
def PositiveRecsWrongFalsely : Prop := positiveRecsRow.holds Tryz.pinned (OpenSpec.ofChange positiveRecsWrong)

/-- 'scholiumlaw19.PositiveCons': WHATEVER THE INPUT: true; the input reads as it did. -/
def positiveConsSpec : ChangeSpec := { name := "positiveCons", fn := fun _ => fun
  | [d1, d2] => { results := [.lit (.bool true)], args := [d1, d2] }
  | _ => none }
def positiveConsRow : OpenClaim := { program := "ytfnfbbmegdkhjaagreat", sum := "ca0a131c3c923989c66cbd566b01e51831a81118e27e01c1e4175668b495e90d", func := "scholium/scholiumlaw19.PositiveCons", spec := "positiveCons", recurses := true, loops := true, apart := false }
def PositiveConsSaid : Prop := positiveConsRow.holds Tryz.pinned (OpenSpec.ofChange positiveConsSpec)

/-- ITS FALSE NEIGHBOUR: 'it returns false'. Refute it at one input. -/
def positiveConsWrong : ChangeSpec := { name := "positiveCons", fn := fun _ => fun
  | [d1, d2] => { results := [.lit (.bool false)], args := [d1, d2] }
  | _ => none }
def PositiveConsWrongFalsely : Prop := positiveConsRow.holds Tryz.pinned (OpenSpec.ofChange positiveConsWrong)

/- THE SECOND FORM. 'bulk': how many values and letters a reading holds, each counted each time it is reached (what is shared counts as often as it is met; a slice's spare places count too). A statement '..UptoSaid' is the law's where the arguments, and the package variables that the reading takes, are together of bulk at most 1048576: NARROWER than '..Said'. Prove '..Said' where nothing that the law and all that it calls make is longer than what came in: it says more and counts as full. Else prove '..UptoSaid'. A law counts once. -/
mutual
def uptoBulk {H : Type} : DataW H → Nat
  | .lit (.string bytes) => bytes.length + 1
  | .lit _ => 1
  | .nil => 1
  | .ptr d => uptoBulk d + 1
  | .slice elems spare => uptoBulkAll elems + uptoBulkAll spare + 1
  | .agg parts => uptoBulkAll parts + 1
  | .iface _ d => uptoBulk d + 1
  | .map entries => uptoBulkEntries entries + 1
  | .held _ => 1
def uptoBulkAll {H : Type} : List (DataW H) → Nat
  | [] => 0
  | d :: r => uptoBulk d + uptoBulkAll r
def uptoBulkEntries {H : Type} : List (Lit × DataW H) → Nat
  | [] => 0
  | x :: r => uptoBulkEntry x + uptoBulkEntries r
def uptoBulkEntry {H : Type} : Lit × DataW H → Nat
  | (.string bytes, d) => bytes.length + uptoBulk d + 1
  | (_, d) => uptoBulk d + 1
 end
def uptoSmall : (H : Type) → List (DataW H) → Bool := fun _ ds => decide (uptoBulkAll ds ≤ 1048576)
def OpenSpec.upto (s : _root_.Go.ChangeSpec) : _root_.Go.OpenSpec := { _root_.Go.OpenSpec.ofChange s with cond := some uptoSmall }

/-- 'scholiumlaw12.SignBegins', WHERE WHAT IT READS IS OF BULK AT MOST 1048576: true; the input reads as it did. -/
def signBeginsUptoRow : OpenClaim := { program := "ytfnfbbmegdkhjaagreat", sum := "ca0a131c3c923989c66cbd566b01e51831a81118e27e01c1e4175668b495e90d", func := "scholium/scholiumlaw12.SignBegins", spec := "signBegins", recurses := true, loops := true, apart := false, narrowed := true }
def SignBeginsUptoSaid : Prop := signBeginsUptoRow.holds Tryz.pinned (OpenSpec.upto signBeginsSpec)

/-- 'scholiumlaw19.PositiveRecs', WHERE WHAT IT READS IS OF BULK AT MOST 1048576: true; the input reads as it did. -/
def positiveRecsUptoRow : OpenClaim := { program := "ytfnfbbmegdkhjaagreat", sum := "ca0a131c3c923989c66cbd566b01e51831a81118e27e01c1e4175668b495e90d", func := "scholium/scholiumlaw19.PositiveRecs", spec := "positiveRecs", recurses := true, loops := true, apart := false, narrowed := true }
def PositiveRecsUptoSaid : Prop := positiveRecsUptoRow.holds Tryz.pinned (OpenSpec.upto positiveRecsSpec)

/-- 'scholiumlaw19.PositiveCons', WHERE WHAT IT READS IS OF BULK AT MOST 1048576: true; the input reads as it did. -/
def positiveConsUptoRow : OpenClaim := { program := "ytfnfbbmegdkhjaagreat", sum := "ca0a131c3c923989c66cbd566b01e51831a81118e27e01c1e4175668b495e90d", func := "scholium/scholiumlaw19.PositiveCons", spec := "positiveCons", recurses := true, loops := true, apart := false, narrowed := true }
def PositiveConsUptoSaid : Prop := positiveConsUptoRow.holds Tryz.pinned (OpenSpec.upto positiveConsSpec)

end Rows
end Go.Proofs.YtfnfbbmegdkhjaaGreat
