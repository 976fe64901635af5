import Derived.Test.YtahhgpafjiljfaaGreatRows
import Derived.Test.YtahhgpafjiljfaaGreatEBM1
import Derived.WalkKit
import Derived.ProofKit
import Derived.OpenShut
import Derived.ShutString
import Derived.ChangeOld
import Derived.Below
import Derived.SizedLaws
/-
  'scholium/scholiumlaw05.ParseExprs': for every input the call returns true, and each argument reads behind it as it read before. No condition.
-/
namespace Go.Proofs.YtahhgpafjiljfaaGreat.parseExprs
open Go.ChangeShapes Go.WideShapes Go.ChangeAt Go.RowKit
open Go.ChangeMaps (open_string shut_string)
set_option linter.unusedVariables false

theorem own : ownKnob Tryz.prog.godebug = none := by kernel_rfl
theorem laidOut : laidOutB Tryz.prog = true := by kernel_rfl
theorem q1 : Tryz.prog.mayEnter = true := by kernel_rfl
theorem q2 : (Rows.parseExprsRow.lifted == Tryz.prog.liftsFinal) = true := by kernel_rfl
theorem q3 : (Rows.parseExprsRow.inPlace == Tryz.prog.inPlace 3) = true := by kernel_rfl
theorem q4 : (Rows.parseExprsRow.unfollowed == Tryz.prog.unfollowed 3) = true := by kernel_rfl
theorem q5 : (Rows.parseExprsRow.recurses == Tryz.prog.recurses 3) = true := by kernel_rfl
theorem q6 : (Rows.parseExprsRow.named == Tryz.prog.varsNamed 3) = true := by kernel_rfl
theorem q7 : (Rows.parseExprsRow.plainKeys == Tryz.prog.plainKeys) = true := by kernel_rfl
theorem q8 : Tryz.prog.stopsHeard = true := by kernel_rfl
theorem facts : joinedFacts Tryz.prog 3 Tryz.f3 Rows.parseExprsSpec Rows.parseExprsRow = true := by
  unfold joinedFacts
  rw [laidOut, q1, q2, q3, q4, q5, q6, q7, q8]
  kernel_rfl

set_option maxRecDepth 100000 in
theorem lifted (os : Os) (started : os.Started) (H : Type) (enc : TypeId × Value → H) :
    ReturnsInHanded {} Tryz.checked os 3 .any (Rows.parseExprsSpec.pre6 enc Tryz.prog Tryz.f3 Rows.parseExprsRow.domain false) (Rows.parseExprsSpec.post enc Tryz.prog Tryz.f3 false true false false) := by
  refine returnsInHanded_of_change_sized (C := Tryz.checked) own started (by kernel_rfl) Tryz.func3
    (ChangeSpec.witness6 (enc := enc) (C := Tryz.checked) false ⟨#[], #[.string ByteArray.empty], []⟩ 8 (by kernel_rfl) (by kernel_rfl) (by kernel_rfl) (by kernel_rfl)) ?_
  intro W base args ds gs before hval0 hW hcnd hsz _
  have hval : ∀ (j : Nat) t v, Tryz.f3.params[j]? = some t → args[j]? = some v → Value.okWide Tryz.prog W .any base t v := hval0
  have hW' := hW
  obtain ⟨p, q, hA0, hV, rfl, hfz, hnd⟩ := hW
  have hA : DataW.TrodAll enc Tryz.prog W 0 (fun _ => true) true Tryz.f3.params.toList args.toList ds p := hA0
  rw [Tryz.params3] at hA hval
  obtain ⟨v0, vs0, d0, ds0, p0, q0, hargs, rfl, rfl, h0, r0⟩ := trodAll_cons hA
  obtain ⟨rfl, rfl, rfl⟩ := trodAll_nil r0
  obtain rfl : args = #[v0] := by cases args; simp_all
  obtain ⟨rfl, rfl⟩ := trodVars_none hV
  obtain ⟨a0, rfl, rfl, rfl, w0⟩ := open_string Tryz.underlying9 (hval 0 9 v0 rfl rfl) h0
  clear hA0 hval0
  refine (parseExprs_walk a0 w0 W ).mono fun e W' ⟨he, bel⟩ => ?_
  subst he
  exact ⟨_, rfl, _, _, _, [], _, [], hW', trodAll_mk1 (shut_bool Tryz.underlying4 _), (trodAll_cons_mk (shut_string Tryz.underlying9 w0) trodAll_mk0), rfl, bel.frame _, fun h => by cases h⟩

theorem over : Rows.parseExprsRow.holds Tryz.pinned (OpenSpec.ofChange Rows.parseExprsSpec) :=
  OpenClaim.holds_of_wide 3 Tryz.f3 rfl rfl rfl rfl rfl rfl rfl ⟨rfl, rfl, rfl, rfl, rfl⟩ rfl rfl rfl rfl rfl (by kernel_rfl) Tryz.func3 facts
    (of_decide_eq_true (by kernel_rfl)) (by unfold Func.isWrapper; first | (rw [if_pos (by decide +kernel)]; kernel_rfl) | (rw [if_neg (by decide +kernel)]; exact ⟨rfl, rfl⟩))
    (fun os started H enc _ => lifted os started H enc)

theorem proved : Rows.ParseExprsSaid := over
#print axioms proved
end Go.Proofs.YtahhgpafjiljfaaGreat.parseExprs
