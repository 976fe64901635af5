import Derived.Test.YtdklpbefbamchaaGreatBA2
import Derived.Test.YtdklpbefbamchaaGreatProg
set_option linter.unusedSimpArgs false
set_option linter.unusedVariables false
set_option maxHeartbeats 16000000
set_option maxRecDepth 100000
namespace Go.Proofs.YtdklpbefbamchaaGreat
open Go.RowKit
@[simp] theorem ty_3 : tyOf Tryz.prog 3 = some ⟨1, .int .i64⟩ := by kernel_rfl
@[simp] theorem el_3 : elOf Tryz.prog 3 = some (1, 8) := by kernel_rfl
@[simp] theorem ty_4 : tyOf Tryz.prog 4 = some ⟨1, .bool⟩ := by kernel_rfl
@[simp] theorem ty_9 : tyOf Tryz.prog 9 = some ⟨1, .str⟩ := by kernel_rfl
@[simp] theorem el_9 : elOf Tryz.prog 9 = some (1, 16) := by kernel_rfl
@[simp] theorem ty_22 : tyOf Tryz.prog 22 = some ⟨1, .slice 40 15 (some true)⟩ := by kernel_rfl
@[simp] theorem ze_22 : Qda Tryz.prog 22 = some [.nils] := by kernel_rfl
@[simp] theorem ty_23 : tyOf Tryz.prog 23 = some ⟨1, .slice 28 7 (some true)⟩ := by kernel_rfl
@[simp] theorem ty_24 : tyOf Tryz.prog 24 = some ⟨1, .slice 26 3 (some true)⟩ := by kernel_rfl
@[simp] theorem ze_24 : Qda Tryz.prog 24 = some [.nils] := by kernel_rfl
@[simp] theorem ty_26 : tyOf Tryz.prog 26 = some ⟨3, .struct [⟨0, 1, (some false)⟩, ⟨1, 1, (some false)⟩, ⟨2, 1, (some false)⟩]⟩ := by kernel_rfl
@[simp] theorem el_26 : elOf Tryz.prog 26 = some (3, 40) := by kernel_rfl
@[simp] theorem ze_26 : Qda Tryz.prog 26 = some [.d (.v (.int .i64 0)), .d (.v (.int .i64 0)), .nils] := by kernel_rfl
@[simp] theorem ty_28 : tyOf Tryz.prog 28 = some ⟨7, .struct [⟨0, 1, (some false)⟩, ⟨1, 1, (some false)⟩, ⟨2, 1, (some false)⟩, ⟨3, 1, (some false)⟩, ⟨4, 3, (some true)⟩]⟩ := by kernel_rfl
@[simp] theorem el_28 : elOf Tryz.prog 28 = some (7, 88) := by kernel_rfl
@[simp] theorem ze_28 : Qda Tryz.prog 28 = some [.d (.v (.int .i64 0)), .d (.v (.int .i64 0)), .d (.v (.int .i64 0)), .nils, .d (.v (.int .i64 0)), .d (.v (.int .i64 0)), .nils] := by kernel_rfl
@[simp] theorem ty_29 : tyOf Tryz.prog 29 = some ⟨1, .slice 44 7 (some true)⟩ := by kernel_rfl
@[simp] theorem ty_38 : tyOf Tryz.prog 38 = some ⟨1, .slice 3 1 (some false)⟩ := by kernel_rfl
@[simp] theorem ty_40 : tyOf Tryz.prog 40 = some ⟨15, .struct [⟨0, 1, (some false)⟩, ⟨1, 1, (some false)⟩, ⟨2, 3, (some true)⟩, ⟨5, 3, (some true)⟩, ⟨8, 1, (some false)⟩, ⟨9, 1, (some false)⟩, ⟨10, 1, (some false)⟩, ⟨11, 1, (some false)⟩, ⟨12, 1, (some false)⟩, ⟨13, 1, (some false)⟩, ⟨14, 1, (some false)⟩]⟩ := by kernel_rfl
@[simp] theorem el_40 : elOf Tryz.prog 40 = some (15, 192) := by kernel_rfl
@[simp] theorem ze_40 : Qda Tryz.prog 40 = some [.d (.v (.int .i64 0)), .d (.v (.string ByteArray.empty)), .d (.v (.int .i64 0)), .d (.v (.int .i64 0)), .nils, .d (.v (.int .i64 0)), .d (.v (.int .i64 0)), .nils, .d (.v (.int .i64 0)), .d (.v (.int .i64 0)), .d (.v (.int .i64 0)), .d (.v (.int .i64 0)), .d (.v (.int .i64 0)), .nils, .nils] := by kernel_rfl
@[simp] theorem ty_44 : tyOf Tryz.prog 44 = some ⟨7, .struct [⟨0, 1, (some false)⟩, ⟨1, 1, (some false)⟩, ⟨2, 1, (some false)⟩, ⟨3, 1, (some false)⟩, ⟨4, 3, (some true)⟩]⟩ := by kernel_rfl
@[simp] theorem el_44 : elOf Tryz.prog 44 = some (7, 88) := by kernel_rfl
@[simp] theorem ze_44 : Qda Tryz.prog 44 = some [.d (.v (.int .i64 0)), .d (.v (.int .i64 0)), .d (.v (.int .i64 0)), .nils, .d (.v (.int .i64 0)), .d (.v (.int .i64 0)), .nils] := by kernel_rfl
@[simp] theorem ty_56 : tyOf Tryz.prog 56 = some ⟨4, .struct [⟨0, 1, (some false)⟩, ⟨1, 1, (some false)⟩, ⟨2, 1, (some false)⟩, ⟨3, 1, (some false)⟩]⟩ := by kernel_rfl
@[simp] theorem ze_56 : Qda Tryz.prog 56 = some [.d (.v (.bool false)), .d (.v (.bool false)), .nils, .nils] := by kernel_rfl
@[simp] theorem ty_69 : tyOf Tryz.prog 69 = some ⟨1, .slice 9 1 (some false)⟩ := by kernel_rfl
@[simp] theorem ty_130 : tyOf Tryz.prog 130 = some ⟨6, .struct [⟨0, 1, (some false)⟩, ⟨1, 4, (some true)⟩, ⟨5, 1, (some false)⟩]⟩ := by kernel_rfl
@[simp] theorem ze_130 : Qda Tryz.prog 130 = some [.nils, .d (.v (.bool false)), .d (.v (.bool false)), .nils, .nils, .d (.v (.bool false))] := by kernel_rfl
@[simp] theorem ty_252 : tyOf Tryz.prog 252 = some ⟨9, .array 9 1 (some false)⟩ := by kernel_rfl
@[simp] theorem ze_252 : Qda Tryz.prog 252 = some [.d (.v (.int .i64 0)), .d (.v (.int .i64 0)), .d (.v (.int .i64 0)), .d (.v (.int .i64 0)), .d (.v (.int .i64 0)), .d (.v (.int .i64 0)), .d (.v (.int .i64 0)), .d (.v (.int .i64 0)), .d (.v (.int .i64 0))] := by kernel_rfl
end Go.Proofs.YtdklpbefbamchaaGreat
