import Derived.Test.YtpaifjlikgnlfaaRows
import Derived.Test.YtpaifjlikgnlfaaBL1
import Derived.Test.YtpaifjlikgnlfaaBS
import Derived.WalkKit
import Derived.ProofKit
import Derived.OpenShut
import Derived.ShutString
import Derived.ChangeOld
import Derived.Below
import Derived.SizedLaws
/-
  'scholium/scholiumlaw12.SignSames': for every input the call returns true, and each argument reads behind it as it read before. No condition.
-/
namespace Go.Proofs.Ytpaifjlikgnlfaa.signSames
open Go.ChangeShapes Go.WideShapes Go.ChangeAt Go.RowKit
open Go.ChangeMaps (open_string shut_string)
set_option linter.unusedVariables false

theorem own : ownKnob Try.prog.godebug = none := by kernel_rfl
theorem laidOut : laidOutB Try.prog = true := by kernel_rfl
theorem q1 : Try.prog.mayEnter = true := by kernel_rfl
theorem q2 : (Rows.signSamesRow.lifted == Try.prog.liftsFinal) = true := by kernel_rfl
theorem q3 : (Rows.signSamesRow.inPlace == Try.prog.inPlace 3) = true := by kernel_rfl
theorem q4 : (Rows.signSamesRow.unfollowed == Try.prog.unfollowed 3) = true := by kernel_rfl
theorem q5 : (Rows.signSamesRow.recurses == Try.prog.recurses 3) = true := by kernel_rfl
theorem q6 : (Rows.signSamesRow.named == Try.prog.varsNamed 3) = true := by kernel_rfl
theorem q7 : (Rows.signSamesRow.plainKeys == Try.prog.plainKeys) = true := by kernel_rfl
theorem q8 : Try.prog.stopsHeard = true := by kernel_rfl
theorem facts : joinedFacts Try.prog 3 Try.f3 Rows.signSamesSpec Rows.signSamesRow = true := by
  unfold joinedFacts
  rw [laidOut, q1, q2, q3, q4, q5, q6, q7, q8]
  kernel_rfl

set_option maxRecDepth 100000 in
theorem lifted (os : Os) (started : os.Started) (H : Type) (enc : TypeId × Value → H) :
    ReturnsInHanded {} Try.checked os 3 .any (Rows.signSamesSpec.pre6 enc Try.prog Try.f3 Rows.signSamesRow.domain false) (Rows.signSamesSpec.post enc Try.prog Try.f3 false true false false) := by
  refine returnsInHanded_of_change_sized (C := Try.checked) own started (by kernel_rfl) Try.func3
    (ChangeSpec.witness6 (enc := enc) (C := Try.checked) false ⟨#[], #[.slice none 0 0, .slice none 0 0], []⟩ 8 (by kernel_rfl) (by kernel_rfl) (by kernel_rfl) (by kernel_rfl)) ?_
  intro W base args ds gs before hval0 hW hcnd hsz _
  have hval : ∀ (j : Nat) t v, Try.f3.params[j]? = some t → args[j]? = some v → Value.okWide Try.prog W .any base t v := hval0
  have hW' := hW
  obtain ⟨p, q, hA0, hV, rfl, hfz, hnd⟩ := hW
  have hA : DataW.TrodAll enc Try.prog W 0 (fun _ => true) true Try.f3.params.toList args.toList ds p := hA0
  rw [Try.params3] at hA hval
  obtain ⟨v0, vs0, d0, ds0, p0, q0, hargs, rfl, rfl, h0, r0⟩ := trodAll_cons hA
  obtain ⟨v1, vs1, d1, ds1, p1, q1, rfl, rfl, rfl, h1, r1⟩ := trodAll_cons r0
  obtain ⟨rfl, rfl, rfl⟩ := trodAll_nil r1
  obtain rfl : args = #[v0, v1] := by cases args; simp_all
  obtain ⟨rfl, rfl⟩ := trodVars_none hV
  obtain ⟨a0, len0, cap0, rfl⟩ := okWide_slice Try.underlying22 (hval 0 22 v0 rfl rfl)
  have k0 := h0
  have lt0 : ∀ x ∈ p0, x.block < W.heap.size := by obtain ⟨m, hm⟩ := k0; exact DataW.trod_lt m _ _ _ hm
  obtain ⟨z0, w0⟩ : ∃ ts, EnS W (.slice a0 len0 cap0) ts := by
    obtain ⟨fuel, hf⟩ := h0
    obtain ⟨b1, b2, b3, ts, he, hts⟩ := open_ens hf (wl_arg hsz (j := 0) (t := 22) (by kernel_rfl) rfl)
    simp [Value.cells] at he
    obtain ⟨rfl, rfl, rfl⟩ := he
    exact ⟨ts, hts⟩
  obtain ⟨a1, len1, cap1, rfl⟩ := okWide_slice Try.underlying22 (hval 1 22 v1 rfl rfl)
  have k1 := h1
  have lt1 : ∀ x ∈ p1, x.block < W.heap.size := by obtain ⟨m, hm⟩ := k1; exact DataW.trod_lt m _ _ _ hm
  obtain ⟨z1, w1⟩ : ∃ ts, EnS W (.slice a1 len1 cap1) ts := by
    obtain ⟨fuel, hf⟩ := h1
    obtain ⟨b1, b2, b3, ts, he, hts⟩ := open_ens hf (wl_arg hsz (j := 1) (t := 22) (by kernel_rfl) rfl)
    simp [Value.cells] at he
    obtain ⟨rfl, rfl, rfl⟩ := he
    exact ⟨ts, hts⟩
  clear hA0 hval0
  refine (sames_walk _ z0 _ z1 W w0 w1).mono fun e W' ⟨he, bel⟩ => ?_
  subst he
  exact ⟨_, rfl, _, _, _, [], _, [], hW', trodAll_mk1 (shut_bool Try.underlying4 _), (trodAll_cons_mk (Below.trod laidOut (by kernel_rfl) (of_decide_eq_true (by kernel_rfl)) k0 bel lt0) (trodAll_cons_mk (Below.trod laidOut (by kernel_rfl) (of_decide_eq_true (by kernel_rfl)) k1 bel lt1) trodAll_mk0)), rfl, bel.frame _, fun h => by cases h⟩

theorem over : Rows.signSamesRow.holds Try.pinned (OpenSpec.ofChange Rows.signSamesSpec) :=
  OpenClaim.holds_of_wide 3 Try.f3 rfl rfl rfl rfl rfl rfl rfl ⟨rfl, rfl, rfl, rfl, rfl⟩ rfl rfl rfl rfl rfl (by kernel_rfl) Try.func3 facts
    (of_decide_eq_true (by kernel_rfl)) (by unfold Func.isWrapper; first | (rw [if_pos (by decide +kernel)]; kernel_rfl) | (rw [if_neg (by decide +kernel)]; exact ⟨rfl, rfl⟩))
    (fun os started H enc _ => lifted os started H enc)

theorem proved : Rows.SignSamesSaid := over
#print axioms proved
end Go.Proofs.Ytpaifjlikgnlfaa.signSames
