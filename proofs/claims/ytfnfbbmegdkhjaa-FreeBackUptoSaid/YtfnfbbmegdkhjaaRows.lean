/-
  NARROWER THAN 'FOR EVERY INPUT', by the rows' own cells (each row's printed sentence says how): FreeFreshes: loops · FreeOrders: loops · FreeRights: loops · FreeArounds: loops · FreePuts: loops · FreeBack: loops · SignSames: loops.
  DERIVED. THE GIVEN ROWS OF THIS SEAT. 7 by the template 'for every input the law returns true; each argument reads behind the call as it read before'; 0 by the template 'total and deterministic' (their statements: YtfnfbbmegdkhjaaTotals.lean).
  GIVEN WITH THE SEED: the statements are not yours to turn. If you find one false, say at which input.
  Laid BY PROGRAM, IN A SANDBOX (cutbox-rows.mjs): the forced cells as the released guide's own fill.sh prints them over the translation 526fe04ef4eabf56… (all of the seat's roots in one cut). By AI agents, Wed Nov 11 2026. No macro, syntax, notation, axiom, sorry.
-/
import Derived.Test.YtfnfbbmegdkhjaaChecked
import GoSem.Claim
import GoSem.ClaimJoined
import GoSem.ClaimMapViews
import Derived.JoinedTies
import Derived.KernelRfl
namespace Go.Proofs.Ytfnfbbmegdkhjaa
/- THE CELL 'sum', in the pinned program and in every row, IS THE sha256 OF THE DUMP (.gsa) THAT YtfnfbbmegdkhjaaProg.lean LOADS. Nothing in Lean hashes anything: it is a label: what it is worth is what the hold of that sum in a sandbox is worth. -/
noncomputable def Try.pinned : Pinned := { name := "ytfnfbbmegdkhjaa", sum := "526fe04ef4eabf568530ece77be869b1a222f9f85917f640b56e0945b20f4643", checked := Try.checked }
namespace Rows
def none {H : Type} : Left H := { results := [], args := [] }

/-- 'scholiumlaw22.FreeFreshes': WHATEVER THE INPUT: true; the input reads as it did. -/
def freeFreshesSpec : ChangeSpec := { name := "freeFreshes", fn := fun _ => fun
  | [d1, d2, d3] => { results := [.lit (.bool true)], args := [d1, d2, d3] }
  | _ => none }
def freeFreshesRow : OpenClaim := { program := "ytfnfbbmegdkhjaa", sum := "526fe04ef4eabf568530ece77be869b1a222f9f85917f640b56e0945b20f4643", func := "scholium/scholiumlaw22.FreeFreshes", spec := "freeFreshes", unfollowed := true, recurses := true, loops := true, apart := false }
def FreeFreshesSaid : Prop := freeFreshesRow.holds Try.pinned (OpenSpec.ofChange freeFreshesSpec)

/-- ITS FALSE NEIGHBOUR: 'it returns false'. Refute it at one input. -/
def freeFreshesWrong : ChangeSpec := { name := "freeFreshes", fn := fun _ => fun
  | [d1, d2, d3] => { results := [.lit (.bool false)], args := [d1, d2, d3] }
  | _ => none }
def FreeFreshesWrongFalsely : Prop := freeFreshesRow.holds Try.pinned (OpenSpec.ofChange freeFreshesWrong)

/-- 'scholiumlaw22.FreeOrders': WHATEVER THE INPUT: true; the input reads as it did. -/
def freeOrdersSpec : ChangeSpec := { name := "freeOrders", fn := fun _ => fun
  | [d] => { results := [.lit (.bool true)], args := [d] }
  | _ => none }
def freeOrdersRow : OpenClaim := { program := "ytfnfbbmegdkhjaa", sum := "526fe04ef4eabf568530ece77be869b1a222f9f85917f640b56e0945b20f4643", func := "scholium/scholiumlaw22.FreeOrders", spec := "freeOrders", unfollowed := true, recurses := true, loops := true, apart := false }
def FreeOrdersSaid : Prop := freeOrdersRow.holds Try.pinned (OpenSpec.ofChange freeOrdersSpec)

/-- ITS FALSE NEIGHBOUR: 'it returns false'. Refute it at one input. -/
def freeOrdersWrong : ChangeSpec := { name := "freeOrders", fn := fun _ => fun
  | [d] => { results := [.lit (.bool false)], args := [d] }
  | _ => none }
def FreeOrdersWrongFalsely : Prop := freeOrdersRow.holds Try.pinned (OpenSpec.ofChange freeOrdersWrong)

/-- 'scholiumlaw22.FreeRights': WHATEVER THE INPUT: true; the input reads as it did. -/
def freeRightsSpec : ChangeSpec := { name := "freeRights", fn := fun _ => fun
  | [d1, d2] => { results := [.lit (.bool true)], args := [d1, d2] }
  | _ => none }
def freeRightsRow : OpenClaim := { program := "ytfnfbbmegdkhjaa", sum := "526fe04ef4eabf568530ece77be869b1a222f9f85917f640b56e0945b20f4643", func := "scholium/scholiumlaw22.FreeRights", spec := "freeRights", unfollowed := true, recurses := true, loops := true, apart := false }
def FreeRightsSaid : Prop := freeRightsRow.holds Try.pinned (OpenSpec.ofChange freeRightsSpec)

/-- ITS FALSE NEIGHBOUR: 'it returns false'. Refute it at one input. -/
def freeRightsWrong : ChangeSpec := { name := "freeRights", fn := fun _ => fun
  | [d1, d2] => { results := [.lit (.bool false)], args := [d1, d2] }
  | _ => none }
def FreeRightsWrongFalsely : Prop := freeRightsRow.holds Try.pinned (OpenSpec.ofChange freeRightsWrong)

/-- 'scholiumlaw22.FreeArounds': WHATEVER THE INPUT: true; the input reads as it did. -/
def freeAroundsSpec : ChangeSpec := { name := "freeArounds", fn := fun _ => fun
  | [d1, d2] => { results := [.lit (.bool true)], args := [d1, d2] }
  | _ => none }
def freeAroundsRow : OpenClaim := { program := "ytfnfbbmegdkhjaa", sum := "526fe04ef4eabf568530ece77be869b1a222f9f85917f640b56e0945b20f4643", func := "scholium/scholiumlaw22.FreeArounds", spec := "freeArounds", unfollowed := true, recurses := true, loops := true, apart := false }
def FreeAroundsSaid : Prop := freeAroundsRow.holds Try.pinned (OpenSpec.ofChange freeAroundsSpec)

/-- ITS FALSE NEIGHBOUR: 'it returns false'. Refute it at one input. -/
def freeAroundsWrong : ChangeSpec := { name := "freeArounds", fn := fun _ => fun
  | [d1, d2] => { results := [.lit (.bool false)], args := [d1, d2] }
  | _ => none }
def FreeAroundsWrongFalsely : Prop := freeAroundsRow.holds Try.pinned (OpenSpec.ofChange freeAroundsWrong)

/-- 'scholiumlaw22.FreePuts': WHATEVER THE INPUT: true; the input reads as it did. -/
def freePutsSpec : ChangeSpec := { name := "freePuts", fn := fun _ => fun
  | [d1, d2, d3] => { results := [.lit (.bool true)], args := [d1, d2, d3] }
  | _ => none }
def freePutsRow : OpenClaim := { program := "ytfnfbbmegdkhjaa", sum := "526fe04ef4eabf568530ece77be869b1a222f9f85917f640b56e0945b20f4643", func := "scholium/scholiumlaw22.FreePuts", spec := "freePuts", unfollowed := true, recurses := true, loops := true, apart := false }
def FreePutsSaid : Prop := freePutsRow.holds Try.pinned (OpenSpec.ofChange freePutsSpec)

/-- ITS FALSE NEIGHBOUR: 'it returns false'. Refute it at one input. -/
def freePutsWrong : ChangeSpec := { name := "freePuts", fn := fun _ => fun
  | [d1, d2, d3] => { results := [.lit (.bool false)], args := [d1, d2, d3] }
  | _ => none }
def FreePutsWrongFalsely : Prop := freePutsRow.holds Try.pinned (OpenSpec.ofChange freePutsWrong)

/-- 'scholiumlaw22.FreeBack': WHATEVER THE INPUT: true; the input reads as it did. -/
def freeBackSpec : ChangeSpec := { name := "freeBack", fn := fun _ => fun
  | [d1, d2] => { results := [.lit (.bool true)], args := [d1, d2] }
  | _ => none }
def freeBackRow : OpenClaim := { program := "ytfnfbbmegdkhjaa", sum := "526fe04ef4eabf568530ece77be869b1a222f9f85917f640b56e0945b20f4643", func := "scholium/scholiumlaw22.FreeBack", spec := "freeBack", unfollowed := true, recurses := true, loops := true, apart := false }
def FreeBackSaid : Prop := freeBackRow.holds Try.pinned (OpenSpec.ofChange freeBackSpec)

/-- ITS FALSE NEIGHBOUR: 'it returns false'. Refute it at one input. -/
def freeBackWrong : ChangeSpec := { name := "freeBack", fn := fun _ => fun
  | [d1, d2] => { results := [.lit (.bool false)], args := [d1, d2] }
  | _ => none }
def FreeBackWrongFalsely : Prop := freeBackRow.holds Try.pinned (OpenSpec.ofChange freeBackWrong)

/-- 'scholiumlaw12.SignSames': WHATEVER THE INPUT: true; the input reads as it did. -/
def signSamesSpec : ChangeSpec := { name := "signSames", fn := fun _ => fun
  | [d1, d2] => { results := [.lit (.bool true)], args := [d1, d2] }
  | _ => none }
def signSamesRow : OpenClaim := { program := "ytfnfbbmegdkhjaa", sum := "526fe04ef4eabf568530ece77be869b1a222f9f85917f640b56e0945b20f4643", func := "scholium/scholiumlaw12.SignSames", spec := "signSames", unfollowed := true, recurses := true, loops := true, apart := false }
def SignSamesSaid : Prop := signSamesRow.holds Try.pinned (OpenSpec.ofChange signSamesSpec)

/-- ITS FALSE NEIGHBOUR: 'it returns false'. Refute it at one input. -/
def signSamesWrong : ChangeSpec := { name := "signSames", fn := fun _ => fun
  | [d1, d2] => { results := [.lit (.bool false)], args := [d1, d2] }
  | _ => none }
def SignSamesWrongFalsely : Prop := signSamesRow.holds Try.pinned (OpenSpec.ofChange signSamesWrong)

/- THE SECOND FORM. 'bulk': how many values and letters a reading holds, each counted each time it is reached (what is shared counts as often as it is met; a slice's spare places count too). A statement '..UptoSaid' is the law's where the arguments, and the package variables that the reading takes, are together of bulk at most 1048576: NARROWER than '..Said'. Prove '..Said' where nothing that the law and all that it calls make is longer than what came in: it says more and counts as full. Else prove '..UptoSaid'. A law counts once. -/
mutual
def uptoBulk {H : Type} : DataW H → Nat
  | .lit (.string bytes) => bytes.length + 1
  | .lit _ => 1
  | .nil => 1
  | .ptr d => uptoBulk d + 1
  | .slice elems spare => uptoBulkAll elems + uptoBulkAll spare + 1
  | .agg parts => uptoBulkAll parts + 1
  | .iface _ d => uptoBulk d + 1
  | .map entries => uptoBulkEntries entries + 1
  | .held _ => 1
def uptoBulkAll {H : Type} : List (DataW H) → Nat
  | [] => 0
  | d :: r => uptoBulk d + uptoBulkAll r
def uptoBulkEntries {H : Type} : List (Lit × DataW H) → Nat
  | [] => 0
  | x :: r => uptoBulkEntry x + uptoBulkEntries r
def uptoBulkEntry {H : Type} : Lit × DataW H → Nat
  | (.string bytes, d) => bytes.length + uptoBulk d + 1
  | (_, d) => uptoBulk d + 1
 end
def uptoSmall : (H : Type) → List (DataW H) → Bool := fun _ ds => decide (uptoBulkAll ds ≤ 1048576)
def OpenSpec.upto (s : _root_.Go.ChangeSpec) : _root_.Go.OpenSpec := { _root_.Go.OpenSpec.ofChange s with cond := some uptoSmall }

/-- 'scholiumlaw22.FreeFreshes', WHERE WHAT IT READS IS OF BULK AT MOST 1048576: true; the input reads as it did. -/
def freeFreshesUptoRow : OpenClaim := { program := "ytfnfbbmegdkhjaa", sum := "526fe04ef4eabf568530ece77be869b1a222f9f85917f640b56e0945b20f4643", func := "scholium/scholiumlaw22.FreeFreshes", spec := "freeFreshes", unfollowed := true, recurses := true, loops := true, apart := false, narrowed := true }
def FreeFreshesUptoSaid : Prop := freeFreshesUptoRow.holds Try.pinned (OpenSpec.upto freeFreshesSpec)

/-- 'scholiumlaw22.FreeOrders', WHERE WHAT IT READS IS OF BULK AT MOST 1048576: true; the input reads as it did. -/
def freeOrdersUptoRow : OpenClaim := { program := "ytfnfbbmegdkhjaa", sum := "526fe04ef4eabf568530ece77be869b1a222f9f85917f640b56e0945b20f4643", func := "scholium/scholiumlaw22.FreeOrders", spec := "freeOrders", unfollowed := true, recurses := true, loops := true, apart := false, narrowed := true }
def FreeOrdersUptoSaid : Prop := freeOrdersUptoRow.holds Try.pinned (OpenSpec.upto freeOrdersSpec)

/-- 'scholiumlaw22.FreeRights', WHERE WHAT IT READS IS OF BULK AT MOST 1048576: true; the input reads as it did. -/
def freeRightsUptoRow : OpenClaim := { program := "ytfnfbbmegdkhjaa", sum := "526fe04ef4eabf568530ece77be869b1a222f9f85917f640b56e0945b20f4643", func := "scholium/scholiumlaw22.FreeRights", spec := "freeRights", unfollowed := true, recurses := true, loops := true, apart := false, narrowed := true }
def FreeRightsUptoSaid : Prop := freeRightsUptoRow.holds Try.pinned (OpenSpec.upto freeRightsSpec)

/-- 'scholiumlaw22.FreeArounds', WHERE WHAT IT READS IS OF BULK AT MOST 1048576: true; the input reads as it did. -/
def freeAroundsUptoRow : OpenClaim := { program := "ytfnfbbmegdkhjaa", sum := "526fe04ef4eabf568530ece77be869b1a222f9f85917f640b56e0945b20f4643", func := "scholium/scholiumlaw22.FreeArounds", spec := "freeArounds", unfollowed := true, recurses := true, loops := true, apart := false, narrowed := true }
def FreeAroundsUptoSaid : Prop := freeAroundsUptoRow.holds Try.pinned (OpenSpec.upto freeAroundsSpec)

/-- 'scholiumlaw22.FreePuts', WHERE WHAT IT READS IS OF BULK AT MOST 1048576: true; the input reads as it did. -/
def freePutsUptoRow : OpenClaim := { program := "ytfnfbbmegdkhjaa", sum := "526fe04ef4eabf568530ece77be869b1a222f9f85917f640b56e0945b20f4643", func := "scholium/scholiumlaw22.FreePuts", spec := "freePuts", unfollowed := true, recurses := true, loops := true, apart := false, narrowed := true }
def FreePutsUptoSaid : Prop := freePutsUptoRow.holds Try.pinned (OpenSpec.upto freePutsSpec)

/-- 'scholiumlaw22.FreeBack', WHERE WHAT IT READS IS OF BULK AT MOST 1048576: true; the input reads as it did. -/
def freeBackUptoRow : OpenClaim := { program := "ytfnfbbmegdkhjaa", sum := "526fe04ef4eabf568530ece77be869b1a222f9f85917f640b56e0945b20f4643", func := "scholium/scholiumlaw22.FreeBack", spec := "freeBack", unfollowed := true, recurses := true, loops := true, apart := false, narrowed := true }
def FreeBackUptoSaid : Prop := freeBackUptoRow.holds Try.pinned (OpenSpec.upto freeBackSpec)

/-- 'scholiumlaw12.SignSames', WHERE WHAT IT READS IS OF BULK AT MOST 1048576: true; the input reads as it did. -/
def signSamesUptoRow : OpenClaim := { program := "ytfnfbbmegdkhjaa", sum := "526fe04ef4eabf568530ece77be869b1a222f9f85917f640b56e0945b20f4643", func := "scholium/scholiumlaw12.SignSames", spec := "signSames", unfollowed := true, recurses := true, loops := true, apart := false, narrowed := true }
def SignSamesUptoSaid : Prop := signSamesUptoRow.holds Try.pinned (OpenSpec.upto signSamesSpec)

end Rows
end Go.Proofs.Ytfnfbbmegdkhjaa
