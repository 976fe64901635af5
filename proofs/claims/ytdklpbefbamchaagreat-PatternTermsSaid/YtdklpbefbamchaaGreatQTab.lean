import Derived.Test.YtdklpbefbamchaaGreatDTab
set_option linter.unusedSimpArgs false
set_option linter.unusedVariables false
set_option maxHeartbeats 16000000
set_option maxRecDepth 100000
namespace Go.Proofs.YtdklpbefbamchaaGreat
open Go.RowKit
@[simp] theorem ty_4 : tyOf Tryz.prog 4 = some ⟨1, .bool⟩ := by kernel_rfl
@[simp] theorem ty_56 : tyOf Tryz.prog 56 = some ⟨4, .struct [⟨0, 1, (some false)⟩, ⟨1, 1, (some false)⟩, ⟨2, 1, (some false)⟩, ⟨3, 1, (some false)⟩]⟩ := by kernel_rfl
@[simp] theorem ze_56 : Qdl Tryz.prog 56 = some [.d (.v (.bool false)), .d (.v (.bool false)), .nils, .nils] := by kernel_rfl
@[simp] theorem ty_130 : tyOf Tryz.prog 130 = some ⟨6, .struct [⟨0, 1, (some false)⟩, ⟨1, 4, (some true)⟩, ⟨5, 1, (some false)⟩]⟩ := by kernel_rfl
@[simp] theorem ze_130 : Qdl Tryz.prog 130 = some [.nils, .d (.v (.bool false)), .d (.v (.bool false)), .nils, .nils, .d (.v (.bool false))] := by kernel_rfl
end Go.Proofs.YtdklpbefbamchaaGreat
