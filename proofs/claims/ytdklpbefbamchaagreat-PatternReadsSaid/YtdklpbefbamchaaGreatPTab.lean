import Derived.Test.YtdklpbefbamchaaGreatDTab
set_option linter.unusedSimpArgs false
set_option linter.unusedVariables false
set_option maxHeartbeats 16000000
set_option maxRecDepth 100000
namespace Go.Proofs.YtdklpbefbamchaaGreat
open Go.RowKit
@[simp] theorem ty_4 : tyOf Tryz.prog 4 = some ⟨1, .bool⟩ := by kernel_rfl
@[simp] theorem ty_56 : tyOf Tryz.prog 56 = some ⟨4, .struct [⟨0, 1, (some false)⟩, ⟨1, 1, (some false)⟩, ⟨2, 1, (some false)⟩, ⟨3, 1, (some false)⟩]⟩ := by kernel_rfl
@[simp] theorem ze_56 : Qdl Tryz.prog 56 = some [.d (.v (.bool false)), .d (.v (.bool false)), .nils, .nils] := by kernel_rfl
@[simp] theorem ty_61 : tyOf Tryz.prog 61 = some ⟨1, .slice 68 5 (some true)⟩ := by kernel_rfl
@[simp] theorem ty_62 : tyOf Tryz.prog 62 = some ⟨1, .slice 64 5 (some true)⟩ := by kernel_rfl
@[simp] theorem ty_64 : tyOf Tryz.prog 64 = some ⟨5, .struct [⟨0, 1, (some false)⟩, ⟨1, 1, (some false)⟩, ⟨2, 1, (some false)⟩, ⟨3, 1, (some false)⟩, ⟨4, 1, (some false)⟩]⟩ := by kernel_rfl
@[simp] theorem el_64 : elOf Tryz.prog 64 = some (5, 64) := by kernel_rfl
@[simp] theorem ze_64 : Qdl Tryz.prog 64 = some [.d (.v (.int .i64 0)), .d (.v (.int .i64 0)), .d (.v (.string ByteArray.empty)), .d (.v (.int .i64 0)), .nils] := by kernel_rfl
@[simp] theorem ty_68 : tyOf Tryz.prog 68 = some ⟨5, .struct [⟨0, 1, (some false)⟩, ⟨1, 1, (some false)⟩, ⟨2, 1, (some false)⟩, ⟨3, 1, (some false)⟩, ⟨4, 1, (some false)⟩]⟩ := by kernel_rfl
@[simp] theorem ze_68 : Qdl Tryz.prog 68 = some [.d (.v (.int .i64 0)), .d (.v (.int .i64 0)), .d (.v (.string ByteArray.empty)), .d (.v (.int .i64 0)), .nils] := by kernel_rfl
@[simp] theorem ty_73 : tyOf Tryz.prog 73 = some ⟨4, .struct [⟨0, 1, (some false)⟩, ⟨1, 1, (some false)⟩, ⟨2, 1, (some false)⟩, ⟨3, 1, (some false)⟩]⟩ := by kernel_rfl
@[simp] theorem ze_73 : Qdl Tryz.prog 73 = some [.nils, .nils, .d (.v (.int .i64 0)), .d (.v (.int .i64 0))] := by kernel_rfl
@[simp] theorem ty_130 : tyOf Tryz.prog 130 = some ⟨6, .struct [⟨0, 1, (some false)⟩, ⟨1, 4, (some true)⟩, ⟨5, 1, (some false)⟩]⟩ := by kernel_rfl
@[simp] theorem ze_130 : Qdl Tryz.prog 130 = some [.nils, .d (.v (.bool false)), .d (.v (.bool false)), .nils, .nils, .d (.v (.bool false))] := by kernel_rfl
@[simp] theorem ty_135 : tyOf Tryz.prog 135 = some ⟨4, .struct [⟨0, 1, (some false)⟩, ⟨1, 1, (some false)⟩, ⟨2, 1, (some false)⟩, ⟨3, 1, (some false)⟩]⟩ := by kernel_rfl
@[simp] theorem ze_135 : Qdl Tryz.prog 135 = some [.nils, .nils, .d (.v (.int .i64 0)), .d (.v (.int .i64 0))] := by kernel_rfl
@[simp] theorem ty_139 : tyOf Tryz.prog 139 = some ⟨10, .struct [⟨0, 7, (some true)⟩, ⟨7, 1, (some false)⟩, ⟨8, 1, (some false)⟩, ⟨9, 1, (some false)⟩]⟩ := by kernel_rfl
@[simp] theorem ze_139 : Qdl Tryz.prog 139 = some [.d (.v (.int .i64 0)), .d (.v (.int .i64 0)), .d (.v (.int .i64 0)), .nils, .d (.v (.int .i64 0)), .d (.v (.int .i64 0)), .nils, .nils, .d (.v (.int .i64 0)), .d (.v (.int .i64 0))] := by kernel_rfl
end Go.Proofs.YtdklpbefbamchaaGreat
