/-
  NARROWER THAN 'FOR EVERY INPUT', by the rows' own cells (each row's printed sentence says how): TreeSames: loops · TreeNodes: loops · TreeCopies: loops · TreeNames: loops · TreeDecls: loops · PrintExprs: loops · PrintFiles: loops.
  DERIVED. THE GIVEN ROWS OF THIS SEAT. 9 by the template 'for every input the law returns true; each argument reads behind the call as it read before'; 0 by the template 'total and deterministic' (their statements: YtffgfjnbgplckaaTotals.lean).
  GIVEN WITH THE SEED: the statements are not yours to turn. If you find one false, say at which input.
  Laid BY PROGRAM, IN A SANDBOX (cutbox-rows.mjs): the forced cells as the released guide's own fill.sh prints them over the translation a0e51b1942f2e924… (all of the seat's roots in one cut). By AI agents, Wed Nov 11 2026. No macro, syntax, notation, axiom, sorry.
-/
import Derived.Test.YtffgfjnbgplckaaChecked
import GoSem.Claim
import GoSem.ClaimJoined
import GoSem.ClaimMapViews
import Derived.JoinedTies
import Derived.KernelRfl
namespace Go.Proofs.Ytffgfjnbgplckaa
/- THE CELL 'sum', in the pinned program and in every row, IS THE sha256 OF THE DUMP (.gsa) THAT YtffgfjnbgplckaaProg.lean LOADS. Nothing in Lean hashes anything: it is a label: what it is worth is what the hold of that sum in a sandbox is worth. -/
noncomputable def Try.pinned : Pinned := { name := "ytffgfjnbgplckaa", sum := "a0e51b1942f2e924d2e438a467aeef13c3b2dc8bcd37fad2db5b914e22d5a0f1", checked := Try.checked }
namespace Rows
def none {H : Type} : Left H := { results := [], args := [] }

/-- 'scholiumlaw04.TreeSames': WHATEVER THE INPUT: true; the input reads as it did. -/
def treeSamesSpec : ChangeSpec := { name := "treeSames", fn := fun _ => fun
  | [d1, d2] => { results := [.lit (.bool true)], args := [d1, d2] }
  | _ => none }
def treeSamesRow : OpenClaim := { program := "ytffgfjnbgplckaa", sum := "a0e51b1942f2e924d2e438a467aeef13c3b2dc8bcd37fad2db5b914e22d5a0f1", func := "scholium/scholiumlaw04.TreeSames", spec := "treeSames", recurses := true, loops := true, apart := false }
def TreeSamesSaid : Prop := treeSamesRow.holds Try.pinned (OpenSpec.ofChange treeSamesSpec)

/-- ITS FALSE NEIGHBOUR: 'it returns false'. Refute it at one input. -/
def treeSamesWrong : ChangeSpec := { name := "treeSames", fn := fun _ => fun
  | [d1, d2] => { results := [.lit (.bool false)], args := [d1, d2] }
  | _ => none }
def TreeSamesWrongFalsely : Prop := treeSamesRow.holds Try.pinned (OpenSpec.ofChange treeSamesWrong)

/-- 'scholiumlaw04.TreeNodes': WHATEVER THE INPUT: true; the input reads as it did. -/
def treeNodesSpec : ChangeSpec := { name := "treeNodes", fn := fun _ => fun
  | [d] => { results := [.lit (.bool true)], args := [d] }
  | _ => none }
def treeNodesRow : OpenClaim := { program := "ytffgfjnbgplckaa", sum := "a0e51b1942f2e924d2e438a467aeef13c3b2dc8bcd37fad2db5b914e22d5a0f1", func := "scholium/scholiumlaw04.TreeNodes", spec := "treeNodes", recurses := true, loops := true, apart := false }
def TreeNodesSaid : Prop := treeNodesRow.holds Try.pinned (OpenSpec.ofChange treeNodesSpec)

/-- ITS FALSE NEIGHBOUR: 'it returns false'. Refute it at one input. -/
def treeNodesWrong : ChangeSpec := { name := "treeNodes", fn := fun _ => fun
  | [d] => { results := [.lit (.bool false)], args := [d] }
  | _ => none }
def TreeNodesWrongFalsely : Prop := treeNodesRow.holds Try.pinned (OpenSpec.ofChange treeNodesWrong)

/-- 'scholiumlaw04.TreeLimits': WHATEVER THE INPUT: true; the input reads as it did. -/
def treeLimitsSpec : ChangeSpec := { name := "treeLimits", fn := fun _ => fun
  | [d] => { results := [.lit (.bool true)], args := [d] }
  | _ => none }
def treeLimitsRow : OpenClaim := { program := "ytffgfjnbgplckaa", sum := "a0e51b1942f2e924d2e438a467aeef13c3b2dc8bcd37fad2db5b914e22d5a0f1", func := "scholium/scholiumlaw04.TreeLimits", spec := "treeLimits", recurses := true, apart := false }
def TreeLimitsSaid : Prop := treeLimitsRow.holds Try.pinned (OpenSpec.ofChange treeLimitsSpec)

/-- ITS FALSE NEIGHBOUR: 'it returns false'. Refute it at one input. -/
def treeLimitsWrong : ChangeSpec := { name := "treeLimits", fn := fun _ => fun
  | [d] => { results := [.lit (.bool false)], args := [d] }
  | _ => none }
def TreeLimitsWrongFalsely : Prop := treeLimitsRow.holds Try.pinned (OpenSpec.ofChange treeLimitsWrong)

/-- 'scholiumlaw04.TreeCopies': WHATEVER THE INPUT: true; the input reads as it did. -/
def treeCopiesSpec : ChangeSpec := { name := "treeCopies", fn := fun _ => fun
  | [d] => { results := [.lit (.bool true)], args := [d] }
  | _ => none }
def treeCopiesRow : OpenClaim := { program := "ytffgfjnbgplckaa", sum := "a0e51b1942f2e924d2e438a467aeef13c3b2dc8bcd37fad2db5b914e22d5a0f1", func := "scholium/scholiumlaw04.TreeCopies", spec := "treeCopies", recurses := true, loops := true, apart := false }
def TreeCopiesSaid : Prop := treeCopiesRow.holds Try.pinned (OpenSpec.ofChange treeCopiesSpec)

/-- ITS FALSE NEIGHBOUR: 'it returns false'. Refute it at one input. -/
def treeCopiesWrong : ChangeSpec := { name := "treeCopies", fn := fun _ => fun
  | [d] => { results := [.lit (.bool false)], args := [d] }
  | _ => none }
def TreeCopiesWrongFalsely : Prop := treeCopiesRow.holds Try.pinned (OpenSpec.ofChange treeCopiesWrong)

/-- 'scholiumlaw04.TreeNames': WHATEVER THE INPUT: true; the input reads as it did. -/
def treeNamesSpec : ChangeSpec := { name := "treeNames", fn := fun _ => fun
  | [d1, d2] => { results := [.lit (.bool true)], args := [d1, d2] }
  | _ => none }
def treeNamesRow : OpenClaim := { program := "ytffgfjnbgplckaa", sum := "a0e51b1942f2e924d2e438a467aeef13c3b2dc8bcd37fad2db5b914e22d5a0f1", func := "scholium/scholiumlaw04.TreeNames", spec := "treeNames", recurses := true, loops := true, apart := false }
def TreeNamesSaid : Prop := treeNamesRow.holds Try.pinned (OpenSpec.ofChange treeNamesSpec)

/-- ITS FALSE NEIGHBOUR: 'it returns false'. Refute it at one input. -/
def treeNamesWrong : ChangeSpec := { name := "treeNames", fn := fun _ => fun
  | [d1, d2] => { results := [.lit (.bool false)], args := [d1, d2] }
  | _ => none }
def TreeNamesWrongFalsely : Prop := treeNamesRow.holds Try.pinned (OpenSpec.ofChange treeNamesWrong)

/-- 'scholiumlaw04.TreeDecls': WHATEVER THE INPUT: true; the input reads as it did. -/
def treeDeclsSpec : ChangeSpec := { name := "treeDecls", fn := fun _ => fun
  | [d1, d2] => { results := [.lit (.bool true)], args := [d1, d2] }
  | _ => none }
def treeDeclsRow : OpenClaim := { program := "ytffgfjnbgplckaa", sum := "a0e51b1942f2e924d2e438a467aeef13c3b2dc8bcd37fad2db5b914e22d5a0f1", func := "scholium/scholiumlaw04.TreeDecls", spec := "treeDecls", recurses := true, loops := true, apart := false }
def TreeDeclsSaid : Prop := treeDeclsRow.holds Try.pinned (OpenSpec.ofChange treeDeclsSpec)

/-- ITS FALSE NEIGHBOUR: 'it returns false'. Refute it at one input. -/
def treeDeclsWrong : ChangeSpec := { name := "treeDecls", fn := fun _ => fun
  | [d1, d2] => { results := [.lit (.bool false)], args := [d1, d2] }
  | _ => none }
def TreeDeclsWrongFalsely : Prop := treeDeclsRow.holds Try.pinned (OpenSpec.ofChange treeDeclsWrong)

/-- 'scholiumlaw06.PrintNumbers': WHATEVER THE INPUT: true; the input reads as it did. -/
def printNumbersSpec : ChangeSpec := { name := "printNumbers", fn := fun _ => fun
  | [d] => { results := [.lit (.bool true)], args := [d] }
  | _ => none }
def printNumbersRow : OpenClaim := { program := "ytffgfjnbgplckaa", sum := "a0e51b1942f2e924d2e438a467aeef13c3b2dc8bcd37fad2db5b914e22d5a0f1", func := "scholium/scholiumlaw06.PrintNumbers", spec := "printNumbers", unfollowed := true, recurses := true, apart := false }
def PrintNumbersSaid : Prop := printNumbersRow.holds Try.pinned (OpenSpec.ofChange printNumbersSpec)

/-- ITS FALSE NEIGHBOUR: 'it returns false'. Refute it at one input. -/
def printNumbersWrong : ChangeSpec := { name := "printNumbers", fn := fun _ => fun
  | [d] => { results := [.lit (.bool false)], args := [d] }
  | _ => none }
def PrintNumbersWrongFalsely : Prop := printNumbersRow.holds Try.pinned (OpenSpec.ofChange printNumbersWrong)

/-- 'scholiumlaw06.PrintExprs': WHATEVER THE INPUT: true; the input reads as it did. -/
def printExprsSpec : ChangeSpec := { name := "printExprs", fn := fun _ => fun
  | [d] => { results := [.lit (.bool true)], args := [d] }
  | _ => none }
def printExprsRow : OpenClaim := { program := "ytffgfjnbgplckaa", sum := "a0e51b1942f2e924d2e438a467aeef13c3b2dc8bcd37fad2db5b914e22d5a0f1", func := "scholium/scholiumlaw06.PrintExprs", spec := "printExprs", unfollowed := true, recurses := true, loops := true, apart := false }
def PrintExprsSaid : Prop := printExprsRow.holds Try.pinned (OpenSpec.ofChange printExprsSpec)

/-- ITS FALSE NEIGHBOUR: 'it returns false'. Refute it at one input. -/
def printExprsWrong : ChangeSpec := { name := "printExprs", fn := fun _ => fun
  | [d] => { results := [.lit (.bool false)], args := [d] }
  | _ => none }
def PrintExprsWrongFalsely : Prop := printExprsRow.holds Try.pinned (OpenSpec.ofChange printExprsWrong)

/-- 'scholiumlaw06.PrintFiles': WHATEVER THE INPUT: true; the input reads as it did. -/
def printFilesSpec : ChangeSpec := { name := "printFiles", fn := fun _ => fun
  | [d] => { results := [.lit (.bool true)], args := [d] }
  | _ => none }
def printFilesRow : OpenClaim := { program := "ytffgfjnbgplckaa", sum := "a0e51b1942f2e924d2e438a467aeef13c3b2dc8bcd37fad2db5b914e22d5a0f1", func := "scholium/scholiumlaw06.PrintFiles", spec := "printFiles", unfollowed := true, recurses := true, loops := true, apart := false }
def PrintFilesSaid : Prop := printFilesRow.holds Try.pinned (OpenSpec.ofChange printFilesSpec)

/-- ITS FALSE NEIGHBOUR: 'it returns false'. Refute it at one input. -/
def printFilesWrong : ChangeSpec := { name := "printFiles", fn := fun _ => fun
  | [d] => { results := [.lit (.bool false)], args := [d] }
  | _ => none }
def PrintFilesWrongFalsely : Prop := printFilesRow.holds Try.pinned (OpenSpec.ofChange printFilesWrong)

/- THE SECOND FORM. 'bulk': how many values and letters a reading holds, each counted each time it is reached (what is shared counts as often as it is met; a slice's spare places count too). A statement '..UptoSaid' is the law's where the arguments, and the package variables that the reading takes, are together of bulk at most 1048576: NARROWER than '..Said'. Prove '..Said' where nothing that the law and all that it calls make is longer than what came in: it says more and counts as full. Else prove '..UptoSaid'. A law counts once. -/
mutual
def uptoBulk {H : Type} : DataW H → Nat
  | .lit (.string bytes) => bytes.length + 1
  | .lit _ => 1
  | .nil => 1
  | .ptr d => uptoBulk d + 1
  | .slice elems spare => uptoBulkAll elems + uptoBulkAll spare + 1
  | .agg parts => uptoBulkAll parts + 1
  | .iface _ d => uptoBulk d + 1
  | .map entries => uptoBulkEntries entries + 1
  | .held _ => 1
def uptoBulkAll {H : Type} : List (DataW H) → Nat
  | [] => 0
  | d :: r => uptoBulk d + uptoBulkAll r
def uptoBulkEntries {H : Type} : List (Lit × DataW H) → Nat
  | [] => 0
  | x :: r => uptoBulkEntry x + uptoBulkEntries r
def uptoBulkEntry {H : Type} : Lit × DataW H → Nat
  | (.string bytes, d) => bytes.length + uptoBulk d + 1
  | (_, d) => uptoBulk d + 1
 end
def uptoSmall : (H : Type) → List (DataW H) → Bool := fun _ ds => decide (uptoBulkAll ds ≤ 1048576)
def OpenSpec.upto (s : _root_.Go.ChangeSpec) : _root_.Go.OpenSpec := { _root_.Go.OpenSpec.ofChange s with cond := some uptoSmall }

/-- 'scholiumlaw04.TreeSames', WHERE WHAT IT READS IS OF BULK AT MOST 1048576: true; the input reads as it did. -/
def treeSamesUptoRow : OpenClaim := { program := "ytffgfjnbgplckaa", sum := "a0e51b1942f2e924d2e438a467aeef13c3b2dc8bcd37fad2db5b914e22d5a0f1", func := "scholium/scholiumlaw04.TreeSames", spec := "treeSames", recurses := true, loops := true, apart := false, narrowed := true }
def TreeSamesUptoSaid : Prop := treeSamesUptoRow.holds Try.pinned (OpenSpec.upto treeSamesSpec)

/-- 'scholiumlaw04.TreeNodes', WHERE WHAT IT READS IS OF BULK AT MOST 1048576: true; the input reads as it did. -/
def treeNodesUptoRow : OpenClaim := { program := "ytffgfjnbgplckaa", sum := "a0e51b1942f2e924d2e438a467aeef13c3b2dc8bcd37fad2db5b914e22d5a0f1", func := "scholium/scholiumlaw04.TreeNodes", spec := "treeNodes", recurses := true, loops := true, apart := false, narrowed := true }
def TreeNodesUptoSaid : Prop := treeNodesUptoRow.holds Try.pinned (OpenSpec.upto treeNodesSpec)

/-- 'scholiumlaw04.TreeLimits', WHERE WHAT IT READS IS OF BULK AT MOST 1048576: true; the input reads as it did. -/
def treeLimitsUptoRow : OpenClaim := { program := "ytffgfjnbgplckaa", sum := "a0e51b1942f2e924d2e438a467aeef13c3b2dc8bcd37fad2db5b914e22d5a0f1", func := "scholium/scholiumlaw04.TreeLimits", spec := "treeLimits", recurses := true, apart := false, narrowed := true }
def TreeLimitsUptoSaid : Prop := treeLimitsUptoRow.holds Try.pinned (OpenSpec.upto treeLimitsSpec)

/-- 'scholiumlaw04.TreeCopies', WHERE WHAT IT READS IS OF BULK AT MOST 1048576: true; the input reads as it did. -/
def treeCopiesUptoRow : OpenClaim := { program := "ytffgfjnbgplckaa", sum := "a0e51b1942f2e924d2e438a467aeef13c3b2dc8bcd37fad2db5b914e22d5a0f1", func := "scholium/scholiumlaw04.TreeCopies", spec := "treeCopies", recurses := true, loops := true, apart := false, narrowed := true }
def TreeCopiesUptoSaid : Prop := treeCopiesUptoRow.holds Try.pinned (OpenSpec.upto treeCopiesSpec)

/-- 'scholiumlaw04.TreeNames', WHERE WHAT IT READS IS OF BULK AT MOST 1048576: true; the input reads as it did. -/
def treeNamesUptoRow : OpenClaim := { program := "ytffgfjnbgplckaa", sum := "a0e51b1942f2e924d2e438a467aeef13c3b2dc8bcd37fad2db5b914e22d5a0f1", func := "scholium/scholiumlaw04.TreeNames", spec := "treeNames", recurses := true, loops := true, apart := false, narrowed := true }
def TreeNamesUptoSaid : Prop := treeNamesUptoRow.holds Try.pinned (OpenSpec.upto treeNamesSpec)

/-- 'scholiumlaw04.TreeDecls', WHERE WHAT IT READS IS OF BULK AT MOST 1048576: true; the input reads as it did. -/
def treeDeclsUptoRow : OpenClaim := { program := "ytffgfjnbgplckaa", sum := "a0e51b1942f2e924d2e438a467aeef13c3b2dc8bcd37fad2db5b914e22d5a0f1", func := "scholium/scholiumlaw04.TreeDecls", spec := "treeDecls", recurses := true, loops := true, apart := false, narrowed := true }
def TreeDeclsUptoSaid : Prop := treeDeclsUptoRow.holds Try.pinned (OpenSpec.upto treeDeclsSpec)

/-- 'scholiumlaw06.PrintNumbers', WHERE WHAT IT READS IS OF BULK AT MOST 1048576: true; the input reads as it did. -/
def printNumbersUptoRow : OpenClaim := { program := "ytffgfjnbgplckaa", sum := "a0e51b1942f2e924d2e438a467aeef13c3b2dc8bcd37fad2db5b914e22d5a0f1", func := "scholium/scholiumlaw06.PrintNumbers", spec := "printNumbers", unfollowed := true, recurses := true, apart := false, narrowed := true }
def PrintNumbersUptoSaid : Prop := printNumbersUptoRow.holds Try.pinned (OpenSpec.upto printNumbersSpec)

/-- 'scholiumlaw06.PrintExprs', WHERE WHAT IT READS IS OF BULK AT MOST 1048576: true; the input reads as it did. -/
def printExprsUptoRow : OpenClaim := { program := "ytffgfjnbgplckaa", sum := "a0e51b1942f2e924d2e438a467aeef13c3b2dc8bcd37fad2db5b914e22d5a0f1", func := "scholium/scholiumlaw06.PrintExprs", spec := "printExprs", unfollowed := true, recurses := true, loops := true, apart := false, narrowed := true }
def PrintExprsUptoSaid : Prop := printExprsUptoRow.holds Try.pinned (OpenSpec.upto printExprsSpec)

/-- 'scholiumlaw06.PrintFiles', WHERE WHAT IT READS IS OF BULK AT MOST 1048576: true; the input reads as it did. -/
def printFilesUptoRow : OpenClaim := { program := "ytffgfjnbgplckaa", sum := "a0e51b1942f2e924d2e438a467aeef13c3b2dc8bcd37fad2db5b914e22d5a0f1", func := "scholium/scholiumlaw06.PrintFiles", spec := "printFiles", unfollowed := true, recurses := true, loops := true, apart := false, narrowed := true }
def PrintFilesUptoSaid : Prop := printFilesUptoRow.holds Try.pinned (OpenSpec.upto printFilesSpec)

end Rows
end Go.Proofs.Ytffgfjnbgplckaa
