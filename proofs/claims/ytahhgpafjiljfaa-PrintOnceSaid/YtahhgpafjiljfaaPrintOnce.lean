import Derived.Test.YtahhgpafjiljfaaRows
import Derived.Test.YtahhgpafjiljfaaOBJ1
import Derived.WalkKit
import Derived.ProofKit
import Derived.OpenShut
import Derived.ShutString
import Derived.ChangeOld
import Derived.Below
import Derived.SizedLaws
/-
  'scholium/scholiumlaw06.PrintOnce': for every input the call returns true, and each argument reads behind it as it read before. No condition.
-/
namespace Go.Proofs.Ytahhgpafjiljfaa.printOnce
open Go.ChangeShapes Go.WideShapes Go.ChangeAt Go.RowKit
open Go.ChangeMaps (open_string shut_string)
set_option linter.unusedVariables false

theorem own : ownKnob Try.prog.godebug = none := by kernel_rfl
theorem laidOut : laidOutB Try.prog = true := by kernel_rfl
theorem q1 : Try.prog.mayEnter = true := by kernel_rfl
theorem q2 : (Rows.printOnceRow.lifted == Try.prog.liftsFinal) = true := by kernel_rfl
theorem q3 : (Rows.printOnceRow.inPlace == Try.prog.inPlace 7) = true := by kernel_rfl
theorem q4 : (Rows.printOnceRow.unfollowed == Try.prog.unfollowed 7) = true := by kernel_rfl
theorem q5 : (Rows.printOnceRow.recurses == Try.prog.recurses 7) = true := by kernel_rfl
theorem q6 : (Rows.printOnceRow.named == Try.prog.varsNamed 7) = true := by kernel_rfl
theorem q7 : (Rows.printOnceRow.plainKeys == Try.prog.plainKeys) = true := by kernel_rfl
theorem q8 : Try.prog.stopsHeard = true := by kernel_rfl
theorem facts : joinedFacts Try.prog 7 Try.f7 Rows.printOnceSpec Rows.printOnceRow = true := by
  unfold joinedFacts
  rw [laidOut, q1, q2, q3, q4, q5, q6, q7, q8]
  kernel_rfl

set_option maxRecDepth 100000 in
theorem lifted (os : Os) (started : os.Started) (H : Type) (enc : TypeId × Value → H) :
    ReturnsInHanded {} Try.checked os 7 .any (Rows.printOnceSpec.pre6 enc Try.prog Try.f7 Rows.printOnceRow.domain false) (Rows.printOnceSpec.post enc Try.prog Try.f7 false true false false) := by
  refine returnsInHanded_of_change_sized (C := Try.checked) own started (by kernel_rfl) Try.func7
    (ChangeSpec.witness6 (enc := enc) (C := Try.checked) false ⟨#[], #[.string ByteArray.empty], []⟩ 8 (by kernel_rfl) (by kernel_rfl) (by kernel_rfl) (by kernel_rfl)) ?_
  intro W base args ds gs before hval0 hW hcnd hsz _
  have hval : ∀ (j : Nat) t v, Try.f7.params[j]? = some t → args[j]? = some v → Value.okWide Try.prog W .any base t v := hval0
  have hW' := hW
  obtain ⟨p, q, hA0, hV, rfl, hfz, hnd⟩ := hW
  have hA : DataW.TrodAll enc Try.prog W 0 (fun _ => true) true Try.f7.params.toList args.toList ds p := hA0
  rw [Try.params7] at hA hval
  obtain ⟨v0, vs0, d0, ds0, p0, q0, hargs, rfl, rfl, h0, r0⟩ := trodAll_cons hA
  obtain ⟨rfl, rfl, rfl⟩ := trodAll_nil r0
  obtain rfl : args = #[v0] := by cases args; simp_all
  obtain ⟨rfl, rfl⟩ := trodVars_none hV
  obtain ⟨a0, rfl, rfl, rfl, w0⟩ := open_string Try.underlying9 (hval 0 9 v0 rfl rfl) h0
  clear hA0 hval0
  refine (printOnce_walk a0 w0 W ).mono fun e W' ⟨he, bel⟩ => ?_
  subst he
  exact ⟨_, rfl, _, _, _, [], _, [], hW', trodAll_mk1 (shut_bool Try.underlying4 _), (trodAll_cons_mk (shut_string Try.underlying9 w0) trodAll_mk0), rfl, bel.frame _, fun h => by cases h⟩

theorem over : Rows.printOnceRow.holds Try.pinned (OpenSpec.ofChange Rows.printOnceSpec) :=
  OpenClaim.holds_of_wide 7 Try.f7 rfl rfl rfl rfl rfl rfl rfl ⟨rfl, rfl, rfl, rfl, rfl⟩ rfl rfl rfl rfl rfl (by kernel_rfl) Try.func7 facts
    (of_decide_eq_true (by kernel_rfl)) (by unfold Func.isWrapper; first | (rw [if_pos (by decide +kernel)]; kernel_rfl) | (rw [if_neg (by decide +kernel)]; exact ⟨rfl, rfl⟩))
    (fun os started H enc _ => lifted os started H enc)

theorem proved : Rows.PrintOnceSaid := over
#print axioms proved
end Go.Proofs.Ytahhgpafjiljfaa.printOnce
