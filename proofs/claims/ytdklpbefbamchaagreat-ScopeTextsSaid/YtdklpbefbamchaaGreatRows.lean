/-
  NARROWER THAN 'FOR EVERY INPUT', by the rows' own cells (each row's printed sentence says how): PatternTerms: loops · PatternBack: loops · PatternReads: loops · CallsParts: loops · CallsSmaller: loops · CallsStands: loops · ScopeTerms: loops · ScopeExprs: loops · ScopeBack: loops.
  DERIVED. THE GIVEN ROWS OF THIS SEAT. 10 by the template 'for every input the law returns true; each argument reads behind the call as it read before'; 0 by the template 'total and deterministic' (their statements: YtdklpbefbamchaaGreatTotals.lean).
  GIVEN WITH THE SEED: the statements are not yours to turn. If you find one false, say at which input.
  Laid BY PROGRAM, IN A SANDBOX (cutbox-rows.mjs): the forced cells as the released guide's own fill.sh prints them over the translation bea9a4ccf9f01ffd… (all of the seat's roots in one cut). By AI agents, Wed Nov 11 2026. No macro, syntax, notation, axiom, sorry.
-/
import Derived.Test.YtdklpbefbamchaaGreatChecked
import GoSem.Claim
import GoSem.ClaimJoined
import GoSem.ClaimMapViews
import Derived.JoinedTies
import Derived.KernelRfl
namespace Go.Proofs.YtdklpbefbamchaaGreat
/- THE CELL 'sum', in the pinned program and in every row, IS THE sha256 OF THE DUMP (.gsa) THAT YtdklpbefbamchaaGreatProg.lean LOADS. Nothing in Lean hashes anything: it is a label: what it is worth is what the hold of that sum in a sandbox is worth. -/
noncomputable def Tryz.pinned : Pinned := { name := "ytdklpbefbamchaagreat", sum := "bea9a4ccf9f01ffdfeded586bb49942eb6ee1dd754b377b8f91eda05e8f63b84", checked := Tryz.checked }
namespace Rows
def none {H : Type} : Left H := { results := [], args := [] }

/-- 'scholiumlaw24.PatternTerms': WHATEVER THE INPUT: true; the input reads as it did. -/
def patternTermsSpec : ChangeSpec := { name := "patternTerms", fn := fun _ => fun
  | [d1, d2, d3] => { results := [.lit (.bool true)], args := [d1, d2, d3] }
  | _ => none }
def patternTermsRow : OpenClaim := { program := "ytdklpbefbamchaagreat", sum := "bea9a4ccf9f01ffdfeded586bb49942eb6ee1dd754b377b8f91eda05e8f63b84", func := "scholium/scholiumlaw24.PatternTerms", spec := "patternTerms", unfollowed := true, recurses := true, loops := true, apart := false }
def PatternTermsSaid : Prop := patternTermsRow.holds Tryz.pinned (OpenSpec.ofChange patternTermsSpec)

/-- ITS FALSE NEIGHBOUR: 'it returns false'. Refute it at one input. -/
def patternTermsWrong : ChangeSpec := { name := "patternTerms", fn := fun _ => fun
  | [d1, d2, d3] => { results := [.lit (.bool false)], args := [d1, d2, d3] }
  | _ => none }
def PatternTermsWrongFalsely : Prop := patternTermsRow.holds Tryz.pinned (OpenSpec.ofChange patternTermsWrong)

/-- 'scholiumlaw24.PatternBack': WHATEVER THE INPUT: true; the input reads as it did. -/
def patternBackSpec : ChangeSpec := { name := "patternBack", fn := fun _ => fun
  | [d1, d2] => { results := [.lit (.bool true)], args := [d1, d2] }
  | _ => none }
def patternBackRow : OpenClaim := { program := "ytdklpbefbamchaagreat", sum := "bea9a4ccf9f01ffdfeded586bb49942eb6ee1dd754b377b8f91eda05e8f63b84", func := "scholium/scholiumlaw24.PatternBack", spec := "patternBack", unfollowed := true, recurses := true, loops := true, apart := false }
def PatternBackSaid : Prop := patternBackRow.holds Tryz.pinned (OpenSpec.ofChange patternBackSpec)

/-- ITS FALSE NEIGHBOUR: 'it returns false'. Refute it at one input. -/
def patternBackWrong : ChangeSpec := { name := "patternBack", fn := fun _ => fun
  | [d1, d2] => { results := [.lit (.bool false)], args := [d1, d2] }
  | _ => none }
def PatternBackWrongFalsely : Prop := patternBackRow.holds Tryz.pinned (OpenSpec.ofChange patternBackWrong)

/-- 'scholiumlaw24.PatternReads': WHATEVER THE INPUT: true; the input reads as it did. -/
def patternReadsSpec : ChangeSpec := { name := "patternReads", fn := fun _ => fun
  | [d1, d2] => { results := [.lit (.bool true)], args := [d1, d2] }
  | _ => none }
def patternReadsRow : OpenClaim := { program := "ytdklpbefbamchaagreat", sum := "bea9a4ccf9f01ffdfeded586bb49942eb6ee1dd754b377b8f91eda05e8f63b84", func := "scholium/scholiumlaw24.PatternReads", spec := "patternReads", unfollowed := true, recurses := true, loops := true, apart := false }
def PatternReadsSaid : Prop := patternReadsRow.holds Tryz.pinned (OpenSpec.ofChange patternReadsSpec)

/-- ITS FALSE NEIGHBOUR: 'it returns false'. Refute it at one input. -/
def patternReadsWrong : ChangeSpec := { name := "patternReads", fn := fun _ => fun
  | [d1, d2] => { results := [.lit (.bool false)], args := [d1, d2] }
  | _ => none }
def PatternReadsWrongFalsely : Prop := patternReadsRow.holds Tryz.pinned (OpenSpec.ofChange patternReadsWrong)

/-- 'scholiumlaw29.CallsParts': WHATEVER THE INPUT: true; the input reads as it did. -/
def callsPartsSpec : ChangeSpec := { name := "callsParts", fn := fun _ => fun
  | [d] => { results := [.lit (.bool true)], args := [d] }
  | _ => none }
def callsPartsRow : OpenClaim := { program := "ytdklpbefbamchaagreat", sum := "bea9a4ccf9f01ffdfeded586bb49942eb6ee1dd754b377b8f91eda05e8f63b84", func := "scholium/scholiumlaw29.CallsParts", spec := "callsParts", unfollowed := true, recurses := true, loops := true, apart := false }
def CallsPartsSaid : Prop := callsPartsRow.holds Tryz.pinned (OpenSpec.ofChange callsPartsSpec)

/-- ITS FALSE NEIGHBOUR: 'it returns false'. Refute it at one input. -/
def callsPartsWrong : ChangeSpec := { name := "callsParts", fn := fun _ => fun
  | [d] => { results := [.lit (.bool false)], args := [d] }
  | _ => none }
def CallsPartsWrongFalsely : Prop := callsPartsRow.holds Tryz.pinned (OpenSpec.ofChange callsPartsWrong)

/-- 'scholiumlaw29.CallsSmaller': WHATEVER THE INPUT: true; the input reads as it did. -/
def callsSmallerSpec : ChangeSpec := { name := "callsSmaller", fn := fun _ => fun
  | [d1, d2, d3] => { results := [.lit (.bool true)], args := [d1, d2, d3] }
  | _ => none }
def callsSmallerRow : OpenClaim := { program := "ytdklpbefbamchaagreat", sum := "bea9a4ccf9f01ffdfeded586bb49942eb6ee1dd754b377b8f91eda05e8f63b84", func := "scholium/scholiumlaw29.CallsSmaller", spec := "callsSmaller", unfollowed := true, recurses := true, loops := true, apart := false }
def CallsSmallerSaid : Prop := callsSmallerRow.holds Tryz.pinned (OpenSpec.ofChange callsSmallerSpec)

/-- ITS FALSE NEIGHBOUR: 'it returns false'. Refute it at one input. -/
def callsSmallerWrong : ChangeSpec := { name := "callsSmaller", fn := fun _ => fun
  | [d1, d2, d3] => { results := [.lit (.bool false)], args := [d1, d2, d3] }
  | _ => none }
def CallsSmallerWrongFalsely : Prop := callsSmallerRow.holds Tryz.pinned (OpenSpec.ofChange callsSmallerWrong)

/-- 'scholiumlaw29.CallsStands': WHATEVER THE INPUT: true; the input reads as it did. -/
def callsStandsSpec : ChangeSpec := { name := "callsStands", fn := fun _ => fun
  | [d1, d2, d3] => { results := [.lit (.bool true)], args := [d1, d2, d3] }
  | _ => none }
def callsStandsRow : OpenClaim := { program := "ytdklpbefbamchaagreat", sum := "bea9a4ccf9f01ffdfeded586bb49942eb6ee1dd754b377b8f91eda05e8f63b84", func := "scholium/scholiumlaw29.CallsStands", spec := "callsStands", unfollowed := true, recurses := true, loops := true, apart := false }
def CallsStandsSaid : Prop := callsStandsRow.holds Tryz.pinned (OpenSpec.ofChange callsStandsSpec)

/-- ITS FALSE NEIGHBOUR: 'it returns false'. Refute it at one input. -/
def callsStandsWrong : ChangeSpec := { name := "callsStands", fn := fun _ => fun
  | [d1, d2, d3] => { results := [.lit (.bool false)], args := [d1, d2, d3] }
  | _ => none }
def CallsStandsWrongFalsely : Prop := callsStandsRow.holds Tryz.pinned (OpenSpec.ofChange callsStandsWrong)

/-- 'scholiumlaw18.ScopeTerms': WHATEVER THE INPUT: true; the input reads as it did. -/
def scopeTermsSpec : ChangeSpec := { name := "scopeTerms", fn := fun _ => fun
  | [d1, d2, d3] => { results := [.lit (.bool true)], args := [d1, d2, d3] }
  | _ => none }
def scopeTermsRow : OpenClaim := { program := "ytdklpbefbamchaagreat", sum := "bea9a4ccf9f01ffdfeded586bb49942eb6ee1dd754b377b8f91eda05e8f63b84", func := "scholium/scholiumlaw18.ScopeTerms", spec := "scopeTerms", recurses := true, loops := true, apart := false }
def ScopeTermsSaid : Prop := scopeTermsRow.holds Tryz.pinned (OpenSpec.ofChange scopeTermsSpec)

/-- ITS FALSE NEIGHBOUR: 'it returns false'. Refute it at one input. -/
def scopeTermsWrong : ChangeSpec := { name := "scopeTerms", fn := fun _ => fun
  | [d1, d2, d3] => { results := [.lit (.bool false)], args := [d1, d2, d3] }
  | _ => none }
def ScopeTermsWrongFalsely : Prop := scopeTermsRow.holds Tryz.pinned (OpenSpec.ofChange scopeTermsWrong)

/-- 'scholiumlaw18.ScopeExprs': WHATEVER THE INPUT: true; the input reads as it did. -/
def scopeExprsSpec : ChangeSpec := { name := "scopeExprs", fn := fun _ => fun
  | [d1, d2, d3] => { results := [.lit (.bool true)], args := [d1, d2, d3] }
  | _ => none }
def scopeExprsRow : OpenClaim := { program := "ytdklpbefbamchaagreat", sum := "bea9a4ccf9f01ffdfeded586bb49942eb6ee1dd754b377b8f91eda05e8f63b84", func := "scholium/scholiumlaw18.ScopeExprs", spec := "scopeExprs", recurses := true, loops := true, apart := false }
def ScopeExprsSaid : Prop := scopeExprsRow.holds Tryz.pinned (OpenSpec.ofChange scopeExprsSpec)

/-- ITS FALSE NEIGHBOUR: 'it returns false'. Refute it at one input. -/
def scopeExprsWrong : ChangeSpec := { name := "scopeExprs", fn := fun _ => fun
  | [d1, d2, d3] => { results := [.lit (.bool false)], args := [d1, d2, d3] }
  | _ => none }
def ScopeExprsWrongFalsely : Prop := scopeExprsRow.holds Tryz.pinned (OpenSpec.ofChange scopeExprsWrong)

/-- 'scholiumlaw18.ScopeBack': WHATEVER THE INPUT: true; the input reads as it did. -/
def scopeBackSpec : ChangeSpec := { name := "scopeBack", fn := fun _ => fun
  | [d1, d2, d3] => { results := [.lit (.bool true)], args := [d1, d2, d3] }
  | _ => none }
def scopeBackRow : OpenClaim := { program := "ytdklpbefbamchaagreat", sum := "bea9a4ccf9f01ffdfeded586bb49942eb6ee1dd754b377b8f91eda05e8f63b84", func := "scholium/scholiumlaw18.ScopeBack", spec := "scopeBack", recurses := true, loops := true, apart := false }
def ScopeBackSaid : Prop := scopeBackRow.holds Tryz.pinned (OpenSpec.ofChange scopeBackSpec)

/-- ITS FALSE NEIGHBOUR: 'it returns false'. Refute it at one input. -/
def scopeBackWrong : ChangeSpec := { name := "scopeBack", fn := fun _ => fun
  | [d1, d2, d3] => { results := [.lit (.bool false)], args := [d1, d2, d3] }
  | _ => none }
def ScopeBackWrongFalsely : Prop := scopeBackRow.holds Tryz.pinned (OpenSpec.ofChange scopeBackWrong)

/-- 'scholiumlaw18.ScopeTexts': WHATEVER THE INPUT: true; the input reads as it did. -/
def scopeTextsSpec : ChangeSpec := { name := "scopeTexts", fn := fun _ => fun
  | [d1, d2] => { results := [.lit (.bool true)], args := [d1, d2] }
  | _ => none }
def scopeTextsRow : OpenClaim := { program := "ytdklpbefbamchaagreat", sum := "bea9a4ccf9f01ffdfeded586bb49942eb6ee1dd754b377b8f91eda05e8f63b84", func := "scholium/scholiumlaw18.ScopeTexts", spec := "scopeTexts", unfollowed := true, recurses := true, apart := false }
def ScopeTextsSaid : Prop := scopeTextsRow.holds Tryz.pinned (OpenSpec.ofChange scopeTextsSpec)

/-- ITS FALSE NEIGHBOUR: 'it returns false'. Refute it at one input. -/
def scopeTextsWrong : ChangeSpec := { name := "scopeTexts", fn := fun _ => fun
  | [d1, d2] => { results := [.lit (.bool false)], args := [d1, d2] }
  | _ => none }
def ScopeTextsWrongFalsely : Prop := scopeTextsRow.holds Tryz.pinned (OpenSpec.ofChange scopeTextsWrong)

/- THE SECOND FORM. 'bulk': how many values and letters a reading holds, each counted each time it is reached (what is shared counts as often as it is met; a slice's spare places count too). A statement '..UptoSaid' is the law's where the arguments, and the package variables that the reading takes, are together of bulk at most 1048576: NARROWER than '..Said'. Prove '..Said' where nothing that the law and all that it calls make is longer than what came in: it says more and counts as full. Else prove '..UptoSaid'. A law counts once. -/
mutual
def uptoBulk {H : Type} : DataW H → Nat
  | .lit (.string bytes) => bytes.length + 1
  | .lit _ => 1
  | .nil => 1
  | .ptr d => uptoBulk d + 1
  | .slice elems spare => uptoBulkAll elems + uptoBulkAll spare + 1
  | .agg parts => uptoBulkAll parts + 1
  | .iface _ d => uptoBulk d + 1
  | .map entries => uptoBulkEntries entries + 1
  | .held _ => 1
def uptoBulkAll {H : Type} : List (DataW H) → Nat
  | [] => 0
  | d :: r => uptoBulk d + uptoBulkAll r
def uptoBulkEntries {H : Type} : List (Lit × DataW H) → Nat
  | [] => 0
  | x :: r => uptoBulkEntry x + uptoBulkEntries r
def uptoBulkEntry {H : Type} : Lit × DataW H → Nat
  | (.string bytes, d) => bytes.length + uptoBulk d + 1
  | (_, d) => uptoBulk d + 1
 end
def uptoSmall : (H : Type) → List (DataW H) → Bool := fun _ ds => decide (uptoBulkAll ds ≤ 1048576)
def OpenSpec.upto (s : _root_.Go.ChangeSpec) : _root_.Go.OpenSpec := { _root_.Go.OpenSpec.ofChange s with cond := some uptoSmall }

/-- 'scholiumlaw24.PatternTerms', WHERE WHAT IT READS IS OF BULK AT MOST 1048576: true; the input reads as it did. -/
def patternTermsUptoRow : OpenClaim := { program := "ytdklpbefbamchaagreat", sum := "bea9a4ccf9f01ffdfeded586bb49942eb6ee1dd754b377b8f91eda05e8f63b84", func := "scholium/scholiumlaw24.PatternTerms", spec := "patternTerms", unfollowed := true, recurses := true, loops := true, apart := false, narrowed := true }
def PatternTermsUptoSaid : Prop := patternTermsUptoRow.holds Tryz.pinned (OpenSpec.upto patternTermsSpec)

/-- 'scholiumlaw24.PatternBack', WHERE WHAT IT READS IS OF BULK AT MOST 1048576: true; the input reads as it did. -/
def patternBackUptoRow : OpenClaim := { program := "ytdklpbefbamchaagreat", sum := "bea9a4ccf9f01ffdfeded586bb49942eb6ee1dd754b377b8f91eda05e8f63b84", func := "scholium/scholiumlaw24.PatternBack", spec := "patternBack", unfollowed := true, recurses := true, loops := true, apart := false, narrowed := true }
def PatternBackUptoSaid : Prop := patternBackUptoRow.holds Tryz.pinned (OpenSpec.upto patternBackSpec)

/-- 'scholiumlaw24.PatternReads', WHERE WHAT IT READS IS OF BULK AT MOST 1048576: true; the input reads as it did. -/
def patternReadsUptoRow : OpenClaim := { program := "ytdklpbefbamchaagreat", sum := "bea9a4ccf9f01ffdfeded586bb49942eb6ee1dd754b377b8f91eda05e8f63b84", func := "scholium/scholiumlaw24.PatternReads", spec := "patternReads", unfollowed := true, recurses := true, loops := true, apart := false, narrowed := true }
def PatternReadsUptoSaid : Prop := patternReadsUptoRow.holds Tryz.pinned (OpenSpec.upto patternReadsSpec)

/-- 'scholiumlaw29.CallsParts', WHERE WHAT IT READS IS OF BULK AT MOST 1048576: true; the input reads as it did. -/
def callsPartsUptoRow : OpenClaim := { program := "ytdklpbefbamchaagreat", sum := "bea9a4ccf9f01ffdfeded586bb49942eb6ee1dd754b377b8f91eda05e8f63b84", func := "scholium/scholiumlaw29.CallsParts", spec := "callsParts", unfollowed := true, recurses := true, loops := true, apart := false, narrowed := true }
def CallsPartsUptoSaid : Prop := callsPartsUptoRow.holds Tryz.pinned (OpenSpec.upto callsPartsSpec)

/-- 'scholiumlaw29.CallsSmaller', WHERE WHAT IT READS IS OF BULK AT MOST 1048576: true; the input reads as it did. -/
def callsSmallerUptoRow : OpenClaim := { program := "ytdklpbefbamchaagreat", sum := "bea9a4ccf9f01ffdfeded586bb49942eb6ee1dd754b377b8f91eda05e8f63b84", func := "scholium/scholiumlaw29.CallsSmaller", spec := "callsSmaller", unfollowed := true, recurses := true, loops := true, apart := false, narrowed := true }
def CallsSmallerUptoSaid : Prop := callsSmallerUptoRow.holds Tryz.pinned (OpenSpec.upto callsSmallerSpec)

/-- 'scholiumlaw29.CallsStands', WHERE WHAT IT READS IS OF BULK AT MOST 1048576: true; the input reads as it did. -/
def callsStandsUptoRow : OpenClaim := { program := "ytdklpbefbamchaagreat", sum := "bea9a4ccf9f01ffdfeded586bb49942eb6ee1dd754b377b8f91eda05e8f63b84", func := "scholium/scholiumlaw29.CallsStands", spec := "callsStands", unfollowed := true, recurses := true, loops := true, apart := false, narrowed := true }
def CallsStandsUptoSaid : Prop := callsStandsUptoRow.holds Tryz.pinned (OpenSpec.upto callsStandsSpec)

/-- 'scholiumlaw18.ScopeTerms', WHERE WHAT IT READS IS OF BULK AT MOST 1048576: true; the input reads as it did. -/
def scopeTermsUptoRow : OpenClaim := { program := "ytdklpbefbamchaagreat", sum := "bea9a4ccf9f01ffdfeded586bb49942eb6ee1dd754b377b8f91eda05e8f63b84", func := "scholium/scholiumlaw18.ScopeTerms", spec := "scopeTerms", recurses := true, loops := true, apart := false, narrowed := true }
def ScopeTermsUptoSaid : Prop := scopeTermsUptoRow.holds Tryz.pinned (OpenSpec.upto scopeTermsSpec)

/-- 'scholiumlaw18.ScopeExprs', WHERE WHAT IT READS IS OF BULK AT MOST 1048576: true; the input reads as it did. -/
def scopeExprsUptoRow : OpenClaim := { program := "ytdklpbefbamchaagreat", sum := "bea9a4ccf9f01ffdfeded586bb49942eb6ee1dd754b377b8f91eda05e8f63b84", func := "scholium/scholiumlaw18.ScopeExprs", spec := "scopeExprs", recurses := true, loops := true, apart := false, narrowed := true }
def ScopeExprsUptoSaid : Prop := scopeExprsUptoRow.holds Tryz.pinned (OpenSpec.upto scopeExprsSpec)

/-- 'scholiumlaw18.ScopeBack', WHERE WHAT IT READS IS OF BULK AT MOST 1048576: true; the input reads as it did. -/
def scopeBackUptoRow : OpenClaim := { program := "ytdklpbefbamchaagreat", sum := "bea9a4ccf9f01ffdfeded586bb49942eb6ee1dd754b377b8f91eda05e8f63b84", func := "scholium/scholiumlaw18.ScopeBack", spec := "scopeBack", recurses := true, loops := true, apart := false, narrowed := true }
def ScopeBackUptoSaid : Prop := scopeBackUptoRow.holds Tryz.pinned (OpenSpec.upto scopeBackSpec)

/-- 'scholiumlaw18.ScopeTexts', WHERE WHAT IT READS IS OF BULK AT MOST 1048576: true; the input reads as it did. -/
def scopeTextsUptoRow : OpenClaim := { program := "ytdklpbefbamchaagreat", sum := "bea9a4ccf9f01ffdfeded586bb49942eb6ee1dd754b377b8f91eda05e8f63b84", func := "scholium/scholiumlaw18.ScopeTexts", spec := "scopeTexts", unfollowed := true, recurses := true, apart := false, narrowed := true }
def ScopeTextsUptoSaid : Prop := scopeTextsUptoRow.holds Tryz.pinned (OpenSpec.upto scopeTextsSpec)

end Rows
end Go.Proofs.YtdklpbefbamchaaGreat
