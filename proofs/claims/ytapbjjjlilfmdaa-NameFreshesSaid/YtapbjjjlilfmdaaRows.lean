/-
  No cell of these rows narrows 'for every input' (looked for: loops, veiled, ifaces, maps, wideKeys, modest, calm, conditions, laid).
  DERIVED. THE GIVEN ROWS OF THIS SEAT. 8 by the template 'for every input the law returns true; each argument reads behind the call as it read before'; 0 by the template 'total and deterministic' (their statements: YtapbjjjlilfmdaaTotals.lean).
  GIVEN WITH THE SEED: the statements are not yours to turn. If you find one false, say at which input.
  Laid BY PROGRAM, IN A SANDBOX (cutbox-rows.mjs): the forced cells as the released guide's own fill.sh prints them over the translation 2d4f391eac95ee80… (all of the seat's roots in one cut). By AI agents, Wed Nov 11 2026. No macro, syntax, notation, axiom, sorry.
-/
import Derived.Test.YtapbjjjlilfmdaaChecked
import GoSem.Claim
import GoSem.ClaimJoined
import GoSem.ClaimMapViews
import Derived.JoinedTies
import Derived.KernelRfl
namespace Go.Proofs.Ytapbjjjlilfmdaa
/- THE CELL 'sum', in the pinned program and in every row, IS THE sha256 OF THE DUMP (.gsa) THAT YtapbjjjlilfmdaaProg.lean LOADS. Nothing in Lean hashes anything: it is a label: what it is worth is what the hold of that sum in a sandbox is worth. -/
noncomputable def Try.pinned : Pinned := { name := "ytapbjjjlilfmdaa", sum := "2d4f391eac95ee80184d579dfccc7f10e02a6c41370ed327ca8bf410db9d5756", checked := Try.checked }
namespace Rows
def none {H : Type} : Left H := { results := [], args := [] }

/-- 'scholiumlaw02.NameRights': WHATEVER THE INPUT: true; the input reads as it did. -/
def nameRightsSpec : ChangeSpec := { name := "nameRights", fn := fun _ => fun
  | [d] => { results := [.lit (.bool true)], args := [d] }
  | _ => none }
def nameRightsRow : OpenClaim := { program := "ytapbjjjlilfmdaa", sum := "2d4f391eac95ee80184d579dfccc7f10e02a6c41370ed327ca8bf410db9d5756", func := "scholium/scholiumlaw02.NameRights", spec := "nameRights", recurses := true, apart := false }
def NameRightsSaid : Prop := nameRightsRow.holds Try.pinned (OpenSpec.ofChange nameRightsSpec)

/-- ITS FALSE NEIGHBOUR: 'it returns false'. Refute it at one input. -/
def nameRightsWrong : ChangeSpec := { name := "nameRights", fn := fun _ => fun
  | [d] => { results := [.lit (.bool false)], args := [d] }
  | _ => none }
def NameRightsWrongFalsely : Prop := nameRightsRow.holds Try.pinned (OpenSpec.ofChange nameRightsWrong)

/-- 'scholiumlaw02.NameFreshes': WHATEVER THE INPUT: true; the input reads as it did. -/
def nameFreshesSpec : ChangeSpec := { name := "nameFreshes", fn := fun _ => fun
  | [d1, d2] => { results := [.lit (.bool true)], args := [d1, d2] }
  | _ => none }
def nameFreshesRow : OpenClaim := { program := "ytapbjjjlilfmdaa", sum := "2d4f391eac95ee80184d579dfccc7f10e02a6c41370ed327ca8bf410db9d5756", func := "scholium/scholiumlaw02.NameFreshes", spec := "nameFreshes", recurses := true, apart := false }
def NameFreshesSaid : Prop := nameFreshesRow.holds Try.pinned (OpenSpec.ofChange nameFreshesSpec)

/-- ITS FALSE NEIGHBOUR: 'it returns false'. Refute it at one input. -/
def nameFreshesWrong : ChangeSpec := { name := "nameFreshes", fn := fun _ => fun
  | [d1, d2] => { results := [.lit (.bool false)], args := [d1, d2] }
  | _ => none }
def NameFreshesWrongFalsely : Prop := nameFreshesRow.holds Try.pinned (OpenSpec.ofChange nameFreshesWrong)

/-- 'scholiumlaw02.NameFresh': WHATEVER THE INPUT: true; the input reads as it did. -/
def nameFreshSpec : ChangeSpec := { name := "nameFresh", fn := fun _ => fun
  | [d1, d2] => { results := [.lit (.bool true)], args := [d1, d2] }
  | _ => none }
def nameFreshRow : OpenClaim := { program := "ytapbjjjlilfmdaa", sum := "2d4f391eac95ee80184d579dfccc7f10e02a6c41370ed327ca8bf410db9d5756", func := "scholium/scholiumlaw02.NameFresh", spec := "nameFresh", recurses := true, apart := false }
def NameFreshSaid : Prop := nameFreshRow.holds Try.pinned (OpenSpec.ofChange nameFreshSpec)

/-- ITS FALSE NEIGHBOUR: 'it returns false'. Refute it at one input. -/
def nameFreshWrong : ChangeSpec := { name := "nameFresh", fn := fun _ => fun
  | [d1, d2] => { results := [.lit (.bool false)], args := [d1, d2] }
  | _ => none }
def NameFreshWrongFalsely : Prop := nameFreshRow.holds Try.pinned (OpenSpec.ofChange nameFreshWrong)

/-- 'scholiumlaw02.NameMany': WHATEVER THE INPUT: true; the input reads as it did. -/
def nameManySpec : ChangeSpec := { name := "nameMany", fn := fun _ => fun
  | [d1, d2] => { results := [.lit (.bool true)], args := [d1, d2] }
  | _ => none }
def nameManyRow : OpenClaim := { program := "ytapbjjjlilfmdaa", sum := "2d4f391eac95ee80184d579dfccc7f10e02a6c41370ed327ca8bf410db9d5756", func := "scholium/scholiumlaw02.NameMany", spec := "nameMany", recurses := true, apart := false }
def NameManySaid : Prop := nameManyRow.holds Try.pinned (OpenSpec.ofChange nameManySpec)

/-- ITS FALSE NEIGHBOUR: 'it returns false'. Refute it at one input. -/
def nameManyWrong : ChangeSpec := { name := "nameMany", fn := fun _ => fun
  | [d1, d2] => { results := [.lit (.bool false)], args := [d1, d2] }
  | _ => none }
def NameManyWrongFalsely : Prop := nameManyRow.holds Try.pinned (OpenSpec.ofChange nameManyWrong)

/-- 'scholiumlaw02.NameKinds': WHATEVER THE INPUT: true; the input reads as it did. -/
def nameKindsSpec : ChangeSpec := { name := "nameKinds", fn := fun _ => fun
  | [d] => { results := [.lit (.bool true)], args := [d] }
  | _ => none }
def nameKindsRow : OpenClaim := { program := "ytapbjjjlilfmdaa", sum := "2d4f391eac95ee80184d579dfccc7f10e02a6c41370ed327ca8bf410db9d5756", func := "scholium/scholiumlaw02.NameKinds", spec := "nameKinds", recurses := true, apart := false }
def NameKindsSaid : Prop := nameKindsRow.holds Try.pinned (OpenSpec.ofChange nameKindsSpec)

/-- ITS FALSE NEIGHBOUR: 'it returns false'. Refute it at one input. -/
def nameKindsWrong : ChangeSpec := { name := "nameKinds", fn := fun _ => fun
  | [d] => { results := [.lit (.bool false)], args := [d] }
  | _ => none }
def NameKindsWrongFalsely : Prop := nameKindsRow.holds Try.pinned (OpenSpec.ofChange nameKindsWrong)

/-- 'scholiumlaw02.NamePlaces': WHATEVER THE INPUT: true; the input reads as it did. -/
def namePlacesSpec : ChangeSpec := { name := "namePlaces", fn := fun _ => fun
  | [d1, d2] => { results := [.lit (.bool true)], args := [d1, d2] }
  | _ => none }
def namePlacesRow : OpenClaim := { program := "ytapbjjjlilfmdaa", sum := "2d4f391eac95ee80184d579dfccc7f10e02a6c41370ed327ca8bf410db9d5756", func := "scholium/scholiumlaw02.NamePlaces", spec := "namePlaces", recurses := true, apart := false }
def NamePlacesSaid : Prop := namePlacesRow.holds Try.pinned (OpenSpec.ofChange namePlacesSpec)

/-- ITS FALSE NEIGHBOUR: 'it returns false'. Refute it at one input. -/
def namePlacesWrong : ChangeSpec := { name := "namePlaces", fn := fun _ => fun
  | [d1, d2] => { results := [.lit (.bool false)], args := [d1, d2] }
  | _ => none }
def NamePlacesWrongFalsely : Prop := namePlacesRow.holds Try.pinned (OpenSpec.ofChange namePlacesWrong)

/-- 'scholiumlaw03.TokenNumbers': WHATEVER THE INPUT: true; the input reads as it did. -/
def tokenNumbersSpec : ChangeSpec := { name := "tokenNumbers", fn := fun _ => fun
  | [d] => { results := [.lit (.bool true)], args := [d] }
  | _ => none }
def tokenNumbersRow : OpenClaim := { program := "ytapbjjjlilfmdaa", sum := "2d4f391eac95ee80184d579dfccc7f10e02a6c41370ed327ca8bf410db9d5756", func := "scholium/scholiumlaw03.TokenNumbers", spec := "tokenNumbers", unfollowed := true, recurses := true, apart := false }
def TokenNumbersSaid : Prop := tokenNumbersRow.holds Try.pinned (OpenSpec.ofChange tokenNumbersSpec)

/-- ITS FALSE NEIGHBOUR: 'it returns false'. Refute it at one input. -/
def tokenNumbersWrong : ChangeSpec := { name := "tokenNumbers", fn := fun _ => fun
  | [d] => { results := [.lit (.bool false)], args := [d] }
  | _ => none }
def TokenNumbersWrongFalsely : Prop := tokenNumbersRow.holds Try.pinned (OpenSpec.ofChange tokenNumbersWrong)

/-- 'scholiumlaw03.TokenPlaces': WHATEVER THE INPUT: true; the input reads as it did. -/
def tokenPlacesSpec : ChangeSpec := { name := "tokenPlaces", fn := fun _ => fun
  | [d1, d2] => { results := [.lit (.bool true)], args := [d1, d2] }
  | _ => none }
def tokenPlacesRow : OpenClaim := { program := "ytapbjjjlilfmdaa", sum := "2d4f391eac95ee80184d579dfccc7f10e02a6c41370ed327ca8bf410db9d5756", func := "scholium/scholiumlaw03.TokenPlaces", spec := "tokenPlaces", unfollowed := true, recurses := true, apart := false }
def TokenPlacesSaid : Prop := tokenPlacesRow.holds Try.pinned (OpenSpec.ofChange tokenPlacesSpec)

/-- ITS FALSE NEIGHBOUR: 'it returns false'. Refute it at one input. -/
def tokenPlacesWrong : ChangeSpec := { name := "tokenPlaces", fn := fun _ => fun
  | [d1, d2] => { results := [.lit (.bool false)], args := [d1, d2] }
  | _ => none }
def TokenPlacesWrongFalsely : Prop := tokenPlacesRow.holds Try.pinned (OpenSpec.ofChange tokenPlacesWrong)

/- THE SECOND FORM. 'bulk': how many values and letters a reading holds, each counted each time it is reached (what is shared counts as often as it is met; a slice's spare places count too). A statement '..UptoSaid' is the law's where the arguments, and the package variables that the reading takes, are together of bulk at most 1048576: NARROWER than '..Said'. Prove '..Said' where nothing that the law and all that it calls make is longer than what came in: it says more and counts as full. Else prove '..UptoSaid'. A law counts once. -/
mutual
def uptoBulk {H : Type} : DataW H → Nat
  | .lit (.string bytes) => bytes.length + 1
  | .lit _ => 1
  | .nil => 1
  | .ptr d => uptoBulk d + 1
  | .slice elems spare => uptoBulkAll elems + uptoBulkAll spare + 1
  | .agg parts => uptoBulkAll parts + 1
  | .iface _ d => uptoBulk d + 1
  | .map entries => uptoBulkEntries entries + 1
  | .held _ => 1
def uptoBulkAll {H : Type} : List (DataW H) → Nat
  | [] => 0
  | d :: r => uptoBulk d + uptoBulkAll r
def uptoBulkEntries {H : Type} : List (Lit × DataW H) → Nat
  | [] => 0
  | x :: r => uptoBulkEntry x + uptoBulkEntries r
def uptoBulkEntry {H : Type} : Lit × DataW H → Nat
  | (.string bytes, d) => bytes.length + uptoBulk d + 1
  | (_, d) => uptoBulk d + 1
 end
def uptoSmall : (H : Type) → List (DataW H) → Bool := fun _ ds => decide (uptoBulkAll ds ≤ 1048576)
def OpenSpec.upto (s : _root_.Go.ChangeSpec) : _root_.Go.OpenSpec := { _root_.Go.OpenSpec.ofChange s with cond := some uptoSmall }

/-- 'scholiumlaw02.NameRights', WHERE WHAT IT READS IS OF BULK AT MOST 1048576: true; the input reads as it did. -/
def nameRightsUptoRow : OpenClaim := { program := "ytapbjjjlilfmdaa", sum := "2d4f391eac95ee80184d579dfccc7f10e02a6c41370ed327ca8bf410db9d5756", func := "scholium/scholiumlaw02.NameRights", spec := "nameRights", recurses := true, apart := false, narrowed := true }
def NameRightsUptoSaid : Prop := nameRightsUptoRow.holds Try.pinned (OpenSpec.upto nameRightsSpec)

/-- 'scholiumlaw02.NameFreshes', WHERE WHAT IT READS IS OF BULK AT MOST 1048576: true; the input reads as it did. -/
def nameFreshesUptoRow : OpenClaim := { program := "ytapbjjjlilfmdaa", sum := "2d4f391eac95ee80184d579dfccc7f10e02a6c41370ed327ca8bf410db9d5756", func := "scholium/scholiumlaw02.NameFreshes", spec := "nameFreshes", recurses := true, apart := false, narrowed := true }
def NameFreshesUptoSaid : Prop := nameFreshesUptoRow.holds Try.pinned (OpenSpec.upto nameFreshesSpec)

/-- 'scholiumlaw02.NameFresh', WHERE WHAT IT READS IS OF BULK AT MOST 1048576: true; the input reads as it did. -/
def nameFreshUptoRow : OpenClaim := { program := "ytapbjjjlilfmdaa", sum := "2d4f391eac95ee80184d579dfccc7f10e02a6c41370ed327ca8bf410db9d5756", func := "scholium/scholiumlaw02.NameFresh", spec := "nameFresh", recurses := true, apart := false, narrowed := true }
def NameFreshUptoSaid : Prop := nameFreshUptoRow.holds Try.pinned (OpenSpec.upto nameFreshSpec)

/-- 'scholiumlaw02.NameMany', WHERE WHAT IT READS IS OF BULK AT MOST 1048576: true; the input reads as it did. -/
def nameManyUptoRow : OpenClaim := { program := "ytapbjjjlilfmdaa", sum := "2d4f391eac95ee80184d579dfccc7f10e02a6c41370ed327ca8bf410db9d5756", func := "scholium/scholiumlaw02.NameMany", spec := "nameMany", recurses := true, apart := false, narrowed := true }
def NameManyUptoSaid : Prop := nameManyUptoRow.holds Try.pinned (OpenSpec.upto nameManySpec)

/-- 'scholiumlaw02.NameKinds', WHERE WHAT IT READS IS OF BULK AT MOST 1048576: true; the input reads as it did. -/
def nameKindsUptoRow : OpenClaim := { program := "ytapbjjjlilfmdaa", sum := "2d4f391eac95ee80184d579dfccc7f10e02a6c41370ed327ca8bf410db9d5756", func := "scholium/scholiumlaw02.NameKinds", spec := "nameKinds", recurses := true, apart := false, narrowed := true }
def NameKindsUptoSaid : Prop := nameKindsUptoRow.holds Try.pinned (OpenSpec.upto nameKindsSpec)

/-- 'scholiumlaw02.NamePlaces', WHERE WHAT IT READS IS OF BULK AT MOST 1048576: true; the input reads as it did. -/
def namePlacesUptoRow : OpenClaim := { program := "ytapbjjjlilfmdaa", sum := "2d4f391eac95ee80184d579dfccc7f10e02a6c41370ed327ca8bf410db9d5756", func := "scholium/scholiumlaw02.NamePlaces", spec := "namePlaces", recurses := true, apart := false, narrowed := true }
def NamePlacesUptoSaid : Prop := namePlacesUptoRow.holds Try.pinned (OpenSpec.upto namePlacesSpec)

/-- 'scholiumlaw03.TokenNumbers', WHERE WHAT IT READS IS OF BULK AT MOST 1048576: true; the input reads as it did. -/
def tokenNumbersUptoRow : OpenClaim := { program := "ytapbjjjlilfmdaa", sum := "2d4f391eac95ee80184d579dfccc7f10e02a6c41370ed327ca8bf410db9d5756", func := "scholium/scholiumlaw03.TokenNumbers", spec := "tokenNumbers", unfollowed := true, recurses := true, apart := false, narrowed := true }
def TokenNumbersUptoSaid : Prop := tokenNumbersUptoRow.holds Try.pinned (OpenSpec.upto tokenNumbersSpec)

/-- 'scholiumlaw03.TokenPlaces', WHERE WHAT IT READS IS OF BULK AT MOST 1048576: true; the input reads as it did. -/
def tokenPlacesUptoRow : OpenClaim := { program := "ytapbjjjlilfmdaa", sum := "2d4f391eac95ee80184d579dfccc7f10e02a6c41370ed327ca8bf410db9d5756", func := "scholium/scholiumlaw03.TokenPlaces", spec := "tokenPlaces", unfollowed := true, recurses := true, apart := false, narrowed := true }
def TokenPlacesUptoSaid : Prop := tokenPlacesUptoRow.holds Try.pinned (OpenSpec.upto tokenPlacesSpec)

end Rows
end Go.Proofs.Ytapbjjjlilfmdaa
