import Derived.Test.YtdklpbefbamchaaGreatRows
import Derived.Test.YtdklpbefbamchaaGreatDBH3
import Derived.WalkKit
import Derived.ProofKit
import Derived.OpenShut
import Derived.ShutString
import Derived.ChangeOld
import Derived.Below
import Derived.SizedLaws
/-
  'scholium/scholiumlaw29.CallsParts': for every input the call returns true, and each argument reads behind it as it read before. No condition.
-/
namespace Go.Proofs.YtdklpbefbamchaaGreat.callsParts
open Go.ChangeShapes Go.WideShapes Go.ChangeAt Go.RowKit
open Go.ChangeMaps (open_string shut_string)
set_option linter.unusedVariables false

theorem own : ownKnob Tryz.prog.godebug = none := by kernel_rfl
theorem laidOut : laidOutB Tryz.prog = true := by kernel_rfl
theorem q1 : Tryz.prog.mayEnter = true := by kernel_rfl
theorem q2 : (Rows.callsPartsRow.lifted == Tryz.prog.liftsFinal) = true := by kernel_rfl
theorem q3 : (Rows.callsPartsRow.inPlace == Tryz.prog.inPlace 6) = true := by kernel_rfl
theorem q4 : (Rows.callsPartsRow.unfollowed == Tryz.prog.unfollowed 6) = true := by kernel_rfl
theorem q5 : (Rows.callsPartsRow.recurses == Tryz.prog.recurses 6) = true := by kernel_rfl
theorem q6 : (Rows.callsPartsRow.named == Tryz.prog.varsNamed 6) = true := by kernel_rfl
theorem q7 : (Rows.callsPartsRow.plainKeys == Tryz.prog.plainKeys) = true := by kernel_rfl
theorem q8 : Tryz.prog.stopsHeard = true := by kernel_rfl
theorem facts : joinedFacts Tryz.prog 6 Tryz.f6 Rows.callsPartsSpec Rows.callsPartsRow = true := by
  unfold joinedFacts
  rw [laidOut, q1, q2, q3, q4, q5, q6, q7, q8]
  kernel_rfl

set_option maxRecDepth 100000 in
theorem lifted (os : Os) (started : os.Started) (H : Type) (enc : TypeId × Value → H) :
    ReturnsInHanded {} Tryz.checked os 6 .any (Rows.callsPartsSpec.pre6 enc Tryz.prog Tryz.f6 Rows.callsPartsRow.domain false) (Rows.callsPartsSpec.post enc Tryz.prog Tryz.f6 false true false false) := by
  refine returnsInHanded_of_change_sized (C := Tryz.checked) own started (by kernel_rfl) Tryz.func6
    (ChangeSpec.witness6 (enc := enc) (C := Tryz.checked) false ⟨#[], #[.agg #[.int .i64 0, .int .i64 0, .int .i64 0, .slice none 0 0, .int .i64 0, .int .i64 0, .slice none 0 0]], []⟩ 8 (by kernel_rfl) (by kernel_rfl) (by kernel_rfl) (by kernel_rfl)) ?_
  intro W base args ds gs before hval0 hW hcnd hsz _
  have hval : ∀ (j : Nat) t v, Tryz.f6.params[j]? = some t → args[j]? = some v → Value.okWide Tryz.prog W .any base t v := hval0
  have hW' := hW
  obtain ⟨p, q, hA0, hV, rfl, hfz, hnd⟩ := hW
  have hA : DataW.TrodAll enc Tryz.prog W 0 (fun _ => true) true Tryz.f6.params.toList args.toList ds p := hA0
  rw [Tryz.params6] at hA hval
  obtain ⟨v0, vs0, d0, ds0, p0, q0, hargs, rfl, rfl, h0, r0⟩ := trodAll_cons hA
  obtain ⟨rfl, rfl, rfl⟩ := trodAll_nil r0
  obtain rfl : args = #[v0] := by cases args; simp_all
  obtain ⟨rfl, rfl⟩ := trodVars_none hV
  obtain ⟨cc0, rfl, sz0⟩ := okWide_struct Tryz.underlying28 (hval 0 28 v0 rfl rfl)
  have k0 := h0
  have lt0 : ∀ x ∈ p0, x.block < W.heap.size := by obtain ⟨m, hm⟩ := k0; exact DataW.trod_lt m _ _ _ hm
  obtain ⟨a0, w0⟩ : ∃ t, PtC W t cc0.toList := by
    obtain ⟨fuel, hf⟩ := h0
    exact open_pt fuel _ _ hf
  clear hA0 hval0
  refine (parts_walk a0 _ W w0).mono fun e W' ⟨he, bel⟩ => ?_
  subst he
  exact ⟨_, rfl, _, _, _, [], _, [], hW', trodAll_mk1 (shut_bool Tryz.underlying4 _), (trodAll_cons_mk (Below.trod laidOut (by kernel_rfl) (of_decide_eq_true (by kernel_rfl)) k0 bel lt0) trodAll_mk0), rfl, bel.frame _, fun h => by cases h⟩

theorem over : Rows.callsPartsRow.holds Tryz.pinned (OpenSpec.ofChange Rows.callsPartsSpec) :=
  OpenClaim.holds_of_wide 6 Tryz.f6 rfl rfl rfl rfl rfl rfl rfl ⟨rfl, rfl, rfl, rfl, rfl⟩ rfl rfl rfl rfl rfl (by kernel_rfl) Tryz.func6 facts
    (of_decide_eq_true (by kernel_rfl)) (by unfold Func.isWrapper; first | (rw [if_pos (by decide +kernel)]; kernel_rfl) | (rw [if_neg (by decide +kernel)]; exact ⟨rfl, rfl⟩))
    (fun os started H enc _ => lifted os started H enc)

theorem proved : Rows.CallsPartsSaid := over
#print axioms proved
end Go.Proofs.YtdklpbefbamchaaGreat.callsParts
