/-
  No cell of these rows narrows 'for every input' (looked for: loops, veiled, ifaces, maps, wideKeys, modest, calm, conditions, laid).
  DERIVED. THE GIVEN ROWS OF THIS SEAT. 6 by the template 'for every input the law returns true; each argument reads behind the call as it read before'; 0 by the template 'total and deterministic' (their statements: YtkdcjbgmodfmdaaTotals.lean).
  GIVEN WITH THE SEED: the statements are not yours to turn. If you find one false, say at which input.
  Laid BY PROGRAM, IN A SANDBOX (cutbox-rows.mjs): the forced cells as the released guide's own fill.sh prints them over the translation a9aeefde369eca5b… (all of the seat's roots in one cut). By AI agents, Wed Nov 11 2026. No macro, syntax, notation, axiom, sorry.
-/
import Derived.Test.YtkdcjbgmodfmdaaChecked
import GoSem.Claim
import GoSem.ClaimJoined
import GoSem.ClaimMapViews
import Derived.JoinedTies
import Derived.KernelRfl
namespace Go.Proofs.Ytkdcjbgmodfmdaa
/- THE CELL 'sum', in the pinned program and in every row, IS THE sha256 OF THE DUMP (.gsa) THAT YtkdcjbgmodfmdaaProg.lean LOADS. Nothing in Lean hashes anything: it is a label: what it is worth is what the hold of that sum in a sandbox is worth. -/
noncomputable def Try.pinned : Pinned := { name := "ytkdcjbgmodfmdaa", sum := "a9aeefde369eca5b3de5bc6de2bbb68afe7e11e2e25790d2034a65b2075bc974", checked := Try.checked }
namespace Rows
def none {H : Type} : Left H := { results := [], args := [] }

/-- 'scholiumlaw01.UtfNexts': WHATEVER THE INPUT: true; the input reads as it did. -/
def utfNextsSpec : ChangeSpec := { name := "utfNexts", fn := fun _ => fun
  | [d1, d2] => { results := [.lit (.bool true)], args := [d1, d2] }
  | _ => none }
def utfNextsRow : OpenClaim := { program := "ytkdcjbgmodfmdaa", sum := "a9aeefde369eca5b3de5bc6de2bbb68afe7e11e2e25790d2034a65b2075bc974", func := "scholium/scholiumlaw01.UtfNexts", spec := "utfNexts", apart := false }
def UtfNextsSaid : Prop := utfNextsRow.holds Try.pinned (OpenSpec.ofChange utfNextsSpec)

/-- ITS FALSE NEIGHBOUR: 'it returns false'. Refute it at one input. -/
def utfNextsWrong : ChangeSpec := { name := "utfNexts", fn := fun _ => fun
  | [d1, d2] => { results := [.lit (.bool false)], args := [d1, d2] }
  | _ => none }
def UtfNextsWrongFalsely : Prop := utfNextsRow.holds Try.pinned (OpenSpec.ofChange utfNextsWrong)

/-- 'scholiumlaw01.UtfPuts': WHATEVER THE INPUT: true; the input reads as it did. -/
def utfPutsSpec : ChangeSpec := { name := "utfPuts", fn := fun _ => fun
  | [d] => { results := [.lit (.bool true)], args := [d] }
  | _ => none }
def utfPutsRow : OpenClaim := { program := "ytkdcjbgmodfmdaa", sum := "a9aeefde369eca5b3de5bc6de2bbb68afe7e11e2e25790d2034a65b2075bc974", func := "scholium/scholiumlaw01.UtfPuts", spec := "utfPuts", apart := false }
def UtfPutsSaid : Prop := utfPutsRow.holds Try.pinned (OpenSpec.ofChange utfPutsSpec)

/-- ITS FALSE NEIGHBOUR: 'it returns false'. Refute it at one input. -/
def utfPutsWrong : ChangeSpec := { name := "utfPuts", fn := fun _ => fun
  | [d] => { results := [.lit (.bool false)], args := [d] }
  | _ => none }
def UtfPutsWrongFalsely : Prop := utfPutsRow.holds Try.pinned (OpenSpec.ofChange utfPutsWrong)

/-- 'scholiumlaw01.UtfOrders': WHATEVER THE INPUT: true; the input reads as it did. -/
def utfOrdersSpec : ChangeSpec := { name := "utfOrders", fn := fun _ => fun
  | [d1, d2] => { results := [.lit (.bool true)], args := [d1, d2] }
  | _ => none }
def utfOrdersRow : OpenClaim := { program := "ytkdcjbgmodfmdaa", sum := "a9aeefde369eca5b3de5bc6de2bbb68afe7e11e2e25790d2034a65b2075bc974", func := "scholium/scholiumlaw01.UtfOrders", spec := "utfOrders", apart := false }
def UtfOrdersSaid : Prop := utfOrdersRow.holds Try.pinned (OpenSpec.ofChange utfOrdersSpec)

/-- ITS FALSE NEIGHBOUR: 'it returns false'. Refute it at one input. -/
def utfOrdersWrong : ChangeSpec := { name := "utfOrders", fn := fun _ => fun
  | [d1, d2] => { results := [.lit (.bool false)], args := [d1, d2] }
  | _ => none }
def UtfOrdersWrongFalsely : Prop := utfOrdersRow.holds Try.pinned (OpenSpec.ofChange utfOrdersWrong)

/-- 'scholiumlaw01.UtfAlls': WHATEVER THE INPUT: true; the input reads as it did. -/
def utfAllsSpec : ChangeSpec := { name := "utfAlls", fn := fun _ => fun
  | [d] => { results := [.lit (.bool true)], args := [d] }
  | _ => none }
def utfAllsRow : OpenClaim := { program := "ytkdcjbgmodfmdaa", sum := "a9aeefde369eca5b3de5bc6de2bbb68afe7e11e2e25790d2034a65b2075bc974", func := "scholium/scholiumlaw01.UtfAlls", spec := "utfAlls", apart := false }
def UtfAllsSaid : Prop := utfAllsRow.holds Try.pinned (OpenSpec.ofChange utfAllsSpec)

/-- ITS FALSE NEIGHBOUR: 'it returns false'. Refute it at one input. -/
def utfAllsWrong : ChangeSpec := { name := "utfAlls", fn := fun _ => fun
  | [d] => { results := [.lit (.bool false)], args := [d] }
  | _ => none }
def UtfAllsWrongFalsely : Prop := utfAllsRow.holds Try.pinned (OpenSpec.ofChange utfAllsWrong)

/-- 'scholiumlaw01.UtfJoins': WHATEVER THE INPUT: true; the input reads as it did. -/
def utfJoinsSpec : ChangeSpec := { name := "utfJoins", fn := fun _ => fun
  | [d] => { results := [.lit (.bool true)], args := [d] }
  | _ => none }
def utfJoinsRow : OpenClaim := { program := "ytkdcjbgmodfmdaa", sum := "a9aeefde369eca5b3de5bc6de2bbb68afe7e11e2e25790d2034a65b2075bc974", func := "scholium/scholiumlaw01.UtfJoins", spec := "utfJoins", apart := false }
def UtfJoinsSaid : Prop := utfJoinsRow.holds Try.pinned (OpenSpec.ofChange utfJoinsSpec)

/-- ITS FALSE NEIGHBOUR: 'it returns false'. Refute it at one input. -/
def utfJoinsWrong : ChangeSpec := { name := "utfJoins", fn := fun _ => fun
  | [d] => { results := [.lit (.bool false)], args := [d] }
  | _ => none }
def UtfJoinsWrongFalsely : Prop := utfJoinsRow.holds Try.pinned (OpenSpec.ofChange utfJoinsWrong)

/-- 'scholiumlaw01.UtfBack': WHATEVER THE INPUT: true; the input reads as it did. -/
def utfBackSpec : ChangeSpec := { name := "utfBack", fn := fun _ => fun
  | [d1, d2] => { results := [.lit (.bool true)], args := [d1, d2] }
  | _ => none }
def utfBackRow : OpenClaim := { program := "ytkdcjbgmodfmdaa", sum := "a9aeefde369eca5b3de5bc6de2bbb68afe7e11e2e25790d2034a65b2075bc974", func := "scholium/scholiumlaw01.UtfBack", spec := "utfBack", apart := false }
def UtfBackSaid : Prop := utfBackRow.holds Try.pinned (OpenSpec.ofChange utfBackSpec)

/-- ITS FALSE NEIGHBOUR: 'it returns false'. Refute it at one input. -/
def utfBackWrong : ChangeSpec := { name := "utfBack", fn := fun _ => fun
  | [d1, d2] => { results := [.lit (.bool false)], args := [d1, d2] }
  | _ => none }
def UtfBackWrongFalsely : Prop := utfBackRow.holds Try.pinned (OpenSpec.ofChange utfBackWrong)

/- THE SECOND FORM. 'bulk': how many values and letters a reading holds, each counted each time it is reached (what is shared counts as often as it is met; a slice's spare places count too). A statement '..UptoSaid' is the law's where the arguments, and the package variables that the reading takes, are together of bulk at most 1048576: NARROWER than '..Said'. Prove '..Said' where nothing that the law and all that it calls make is longer than what came in: it says more and counts as full. Else prove '..UptoSaid'. A law counts once. -/
mutual
def uptoBulk {H : Type} : DataW H → Nat
  | .lit (.string bytes) => bytes.length + 1
  | .lit _ => 1
  | .nil => 1
  | .ptr d => uptoBulk d + 1
  | .slice elems spare => uptoBulkAll elems + uptoBulkAll spare + 1
  | .agg parts => uptoBulkAll parts + 1
  | .iface _ d => uptoBulk d + 1
  | .map entries => uptoBulkEntries entries + 1
  | .held _ => 1
def uptoBulkAll {H : Type} : List (DataW H) → Nat
  | [] => 0
  | d :: r => uptoBulk d + uptoBulkAll r
def uptoBulkEntries {H : Type} : List (Lit × DataW H) → Nat
  | [] => 0
  | x :: r => uptoBulkEntry x + uptoBulkEntries r
def uptoBulkEntry {H : Type} : Lit × DataW H → Nat
  | (.string bytes, d) => bytes.length + uptoBulk d + 1
  | (_, d) => uptoBulk d + 1
 end
def uptoSmall : (H : Type) → List (DataW H) → Bool := fun _ ds => decide (uptoBulkAll ds ≤ 1048576)
def OpenSpec.upto (s : _root_.Go.ChangeSpec) : _root_.Go.OpenSpec := { _root_.Go.OpenSpec.ofChange s with cond := some uptoSmall }

/-- 'scholiumlaw01.UtfNexts', WHERE WHAT IT READS IS OF BULK AT MOST 1048576: true; the input reads as it did. -/
def utfNextsUptoRow : OpenClaim := { program := "ytkdcjbgmodfmdaa", sum := "a9aeefde369eca5b3de5bc6de2bbb68afe7e11e2e25790d2034a65b2075bc974", func := "scholium/scholiumlaw01.UtfNexts", spec := "utfNexts", apart := false, narrowed := true }
def UtfNextsUptoSaid : Prop := utfNextsUptoRow.holds Try.pinned (OpenSpec.upto utfNextsSpec)

/-- 'scholiumlaw01.UtfPuts', WHERE WHAT IT READS IS OF BULK AT MOST 1048576: true; the input reads as it did. -/
def utfPutsUptoRow : OpenClaim := { program := "ytkdcjbgmodfmdaa", sum := "a9aeefde369eca5b3de5bc6de2bbb68afe7e11e2e25790d2034a65b2075bc974", func := "scholium/scholiumlaw01.UtfPuts", spec := "utfPuts", apart := false, narrowed := true }
def UtfPutsUptoSaid : Prop := utfPutsUptoRow.holds Try.pinned (OpenSpec.upto utfPutsSpec)

/-- 'scholiumlaw01.UtfOrders', WHERE WHAT IT READS IS OF BULK AT MOST 1048576: true; the input reads as it did. -/
def utfOrdersUptoRow : OpenClaim := { program := "ytkdcjbgmodfmdaa", sum := "a9aeefde369eca5b3de5bc6de2bbb68afe7e11e2e25790d2034a65b2075bc974", func := "scholium/scholiumlaw01.UtfOrders", spec := "utfOrders", apart := false, narrowed := true }
def UtfOrdersUptoSaid : Prop := utfOrdersUptoRow.holds Try.pinned (OpenSpec.upto utfOrdersSpec)

/-- 'scholiumlaw01.UtfAlls', WHERE WHAT IT READS IS OF BULK AT MOST 1048576: true; the input reads as it did. -/
def utfAllsUptoRow : OpenClaim := { program := "ytkdcjbgmodfmdaa", sum := "a9aeefde369eca5b3de5bc6de2bbb68afe7e11e2e25790d2034a65b2075bc974", func := "scholium/scholiumlaw01.UtfAlls", spec := "utfAlls", apart := false, narrowed := true }
def UtfAllsUptoSaid : Prop := utfAllsUptoRow.holds Try.pinned (OpenSpec.upto utfAllsSpec)

/-- 'scholiumlaw01.UtfJoins', WHERE WHAT IT READS IS OF BULK AT MOST 1048576: true; the input reads as it did. -/
def utfJoinsUptoRow : OpenClaim := { program := "ytkdcjbgmodfmdaa", sum := "a9aeefde369eca5b3de5bc6de2bbb68afe7e11e2e25790d2034a65b2075bc974", func := "scholium/scholiumlaw01.UtfJoins", spec := "utfJoins", apart := false, narrowed := true }
def UtfJoinsUptoSaid : Prop := utfJoinsUptoRow.holds Try.pinned (OpenSpec.upto utfJoinsSpec)

/-- 'scholiumlaw01.UtfBack', WHERE WHAT IT READS IS OF BULK AT MOST 1048576: true; the input reads as it did. -/
def utfBackUptoRow : OpenClaim := { program := "ytkdcjbgmodfmdaa", sum := "a9aeefde369eca5b3de5bc6de2bbb68afe7e11e2e25790d2034a65b2075bc974", func := "scholium/scholiumlaw01.UtfBack", spec := "utfBack", apart := false, narrowed := true }
def UtfBackUptoSaid : Prop := utfBackUptoRow.holds Try.pinned (OpenSpec.upto utfBackSpec)

end Rows
end Go.Proofs.Ytkdcjbgmodfmdaa
