import Derived.Test.YtdklpbefbamchaaGreatRows
import Derived.Test.YtdklpbefbamchaaGreatBI
import Derived.WalkKit
import Derived.ProofKit
import Derived.OpenShut
import Derived.ShutString
import Derived.ChangeOld
import Derived.Below
import Derived.SizedLaws
/-
  'scholium/scholiumlaw18.ScopeTexts': for every input the call returns true, and each argument reads behind it as it read before. No condition.
-/
namespace Go.Proofs.YtdklpbefbamchaaGreat.scopeTexts
open Go.ChangeShapes Go.WideShapes Go.ChangeAt Go.RowKit
open Go.ChangeMaps (open_string shut_string)
set_option linter.unusedVariables false

theorem own : ownKnob Tryz.prog.godebug = none := by kernel_rfl
theorem laidOut : laidOutB Tryz.prog = true := by kernel_rfl
theorem q1 : Tryz.prog.mayEnter = true := by kernel_rfl
theorem q2 : (Rows.scopeTextsRow.lifted == Tryz.prog.liftsFinal) = true := by kernel_rfl
theorem q3 : (Rows.scopeTextsRow.inPlace == Tryz.prog.inPlace 12) = true := by kernel_rfl
theorem q4 : (Rows.scopeTextsRow.unfollowed == Tryz.prog.unfollowed 12) = true := by kernel_rfl
theorem q5 : (Rows.scopeTextsRow.recurses == Tryz.prog.recurses 12) = true := by kernel_rfl
theorem q6 : (Rows.scopeTextsRow.named == Tryz.prog.varsNamed 12) = true := by kernel_rfl
theorem q7 : (Rows.scopeTextsRow.plainKeys == Tryz.prog.plainKeys) = true := by kernel_rfl
theorem q8 : Tryz.prog.stopsHeard = true := by kernel_rfl
theorem facts : joinedFacts Tryz.prog 12 Tryz.f12 Rows.scopeTextsSpec Rows.scopeTextsRow = true := by
  unfold joinedFacts
  rw [laidOut, q1, q2, q3, q4, q5, q6, q7, q8]
  kernel_rfl

set_option maxRecDepth 100000 in
theorem lifted (os : Os) (started : os.Started) (H : Type) (enc : TypeId × Value → H) :
    ReturnsInHanded {} Tryz.checked os 12 .any (Rows.scopeTextsSpec.pre6 enc Tryz.prog Tryz.f12 Rows.scopeTextsRow.domain false) (Rows.scopeTextsSpec.post enc Tryz.prog Tryz.f12 false true false false) := by
  refine returnsInHanded_of_change_sized (C := Tryz.checked) own started (by kernel_rfl) Tryz.func12
    (ChangeSpec.witness6 (enc := enc) (C := Tryz.checked) false ⟨#[], #[.string ByteArray.empty, .slice none 0 0], []⟩ 8 (by kernel_rfl) (by kernel_rfl) (by kernel_rfl) (by kernel_rfl)) ?_
  intro W base args ds gs before hval0 hW hcnd hsz _
  have hval : ∀ (j : Nat) t v, Tryz.f12.params[j]? = some t → args[j]? = some v → Value.okWide Tryz.prog W .any base t v := hval0
  have hW' := hW
  obtain ⟨p, q, hA0, hV, rfl, hfz, hnd⟩ := hW
  have hA : DataW.TrodAll enc Tryz.prog W 0 (fun _ => true) true Tryz.f12.params.toList args.toList ds p := hA0
  rw [Tryz.params12] at hA hval
  obtain ⟨v0, vs0, d0, ds0, p0, q0, hargs, rfl, rfl, h0, r0⟩ := trodAll_cons hA
  obtain ⟨v1, vs1, d1, ds1, p1, q1, rfl, rfl, rfl, h1, r1⟩ := trodAll_cons r0
  obtain ⟨rfl, rfl, rfl⟩ := trodAll_nil r1
  obtain rfl : args = #[v0, v1] := by cases args; simp_all
  obtain ⟨rfl, rfl⟩ := trodVars_none hV
  obtain ⟨a0, rfl, rfl, rfl, w0⟩ := open_string Tryz.underlying9 (hval 0 9 v0 rfl rfl) h0
  obtain ⟨a1, len1, cap1, rfl⟩ := okWide_slice Tryz.underlying69 (hval 1 69 v1 rfl rfl)
  have k1 := h1
  have lt1 : ∀ x ∈ p1, x.block < W.heap.size := by obtain ⟨m, hm⟩ := k1; exact DataW.trod_lt m _ _ _ hm
  obtain ⟨z1, w1⟩ : ∃ ts, StS W (.slice a1 len1 cap1) ts := by
    obtain ⟨fuel, hf⟩ := h1
    obtain ⟨b1, b2, b3, ts, he, hts⟩ := open_sts hf (wl_arg hsz (j := 1) (t := 69) (by kernel_rfl) rfl)
    simp [Value.cells] at he
    obtain ⟨rfl, rfl, rfl⟩ := he
    exact ⟨ts, hts⟩
  clear hA0 hval0
  refine (scopeTexts_walk a0 _ z1 w0 W w1).mono fun e W' ⟨he, bel⟩ => ?_
  subst he
  exact ⟨_, rfl, _, _, _, [], _, [], hW', trodAll_mk1 (shut_bool Tryz.underlying4 _), (trodAll_cons_mk (shut_string Tryz.underlying9 w0) (trodAll_cons_mk (Below.trod laidOut (by kernel_rfl) (of_decide_eq_true (by kernel_rfl)) k1 bel lt1) trodAll_mk0)), rfl, bel.frame _, fun h => by cases h⟩

theorem over : Rows.scopeTextsRow.holds Tryz.pinned (OpenSpec.ofChange Rows.scopeTextsSpec) :=
  OpenClaim.holds_of_wide 12 Tryz.f12 rfl rfl rfl rfl rfl rfl rfl ⟨rfl, rfl, rfl, rfl, rfl⟩ rfl rfl rfl rfl rfl (by kernel_rfl) Tryz.func12 facts
    (of_decide_eq_true (by kernel_rfl)) (by unfold Func.isWrapper; first | (rw [if_pos (by decide +kernel)]; kernel_rfl) | (rw [if_neg (by decide +kernel)]; exact ⟨rfl, rfl⟩))
    (fun os started H enc _ => lifted os started H enc)

theorem proved : Rows.ScopeTextsSaid := over
#print axioms proved
end Go.Proofs.YtdklpbefbamchaaGreat.scopeTexts
