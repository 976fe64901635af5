import Derived.Test.YtpaifjlikgnlfaaBA1
import Derived.Test.YtpaifjlikgnlfaaProg
set_option linter.unusedSimpArgs false
set_option linter.unusedVariables false
set_option maxHeartbeats 16000000
set_option maxRecDepth 100000
namespace Go.Proofs.Ytpaifjlikgnlfaa
open Go.RowKit
@[simp] theorem ty_3 : tyOf Try.prog 3 = some ⟨1, .int .i64⟩ := by kernel_rfl
@[simp] theorem el_3 : elOf Try.prog 3 = some (1, 8) := by kernel_rfl
@[simp] theorem ty_4 : tyOf Try.prog 4 = some ⟨1, .bool⟩ := by kernel_rfl
@[simp] theorem ty_9 : tyOf Try.prog 9 = some ⟨1, .str⟩ := by kernel_rfl
@[simp] theorem el_9 : elOf Try.prog 9 = some (1, 16) := by kernel_rfl
@[simp] theorem ty_22 : tyOf Try.prog 22 = some ⟨1, .slice 33 15 (some true)⟩ := by kernel_rfl
@[simp] theorem ty_28 : tyOf Try.prog 28 = some ⟨1, .slice 30 3 (some true)⟩ := by kernel_rfl
@[simp] theorem ty_30 : tyOf Try.prog 30 = some ⟨3, .struct [⟨0, 1, (some false)⟩, ⟨1, 1, (some false)⟩, ⟨2, 1, (some false)⟩]⟩ := by kernel_rfl
@[simp] theorem el_30 : elOf Try.prog 30 = some (3, 40) := by kernel_rfl
@[simp] theorem ze_30 : Qci Try.prog 30 = some [.d (.v (.int .i64 0)), .d (.v (.int .i64 0)), .nils] := by kernel_rfl
@[simp] theorem ty_31 : tyOf Try.prog 31 = some ⟨1, .slice 3 1 (some false)⟩ := by kernel_rfl
@[simp] theorem ty_33 : tyOf Try.prog 33 = some ⟨15, .struct [⟨0, 1, (some false)⟩, ⟨1, 1, (some false)⟩, ⟨2, 3, (some true)⟩, ⟨5, 3, (some true)⟩, ⟨8, 1, (some false)⟩, ⟨9, 1, (some false)⟩, ⟨10, 1, (some false)⟩, ⟨11, 1, (some false)⟩, ⟨12, 1, (some false)⟩, ⟨13, 1, (some false)⟩, ⟨14, 1, (some false)⟩]⟩ := by kernel_rfl
@[simp] theorem el_33 : elOf Try.prog 33 = some (15, 192) := by kernel_rfl
@[simp] theorem ze_33 : Qci Try.prog 33 = some [.d (.v (.int .i64 0)), .d (.v (.string ByteArray.empty)), .d (.v (.int .i64 0)), .d (.v (.int .i64 0)), .nils, .d (.v (.int .i64 0)), .d (.v (.int .i64 0)), .nils, .d (.v (.int .i64 0)), .d (.v (.int .i64 0)), .d (.v (.int .i64 0)), .d (.v (.int .i64 0)), .d (.v (.int .i64 0)), .nils, .nils] := by kernel_rfl
@[simp] theorem ty_34 : tyOf Try.prog 34 = some ⟨1, .slice 42 3 (some true)⟩ := by kernel_rfl
@[simp] theorem ty_36 : tyOf Try.prog 36 = some ⟨3, .struct [⟨0, 1, (some false)⟩, ⟨1, 1, (some false)⟩, ⟨2, 1, (some false)⟩]⟩ := by kernel_rfl
@[simp] theorem ze_36 : Qci Try.prog 36 = some [.nils, .nils, .nils] := by kernel_rfl
@[simp] theorem ty_42 : tyOf Try.prog 42 = some ⟨3, .struct [⟨0, 1, (some false)⟩, ⟨1, 1, (some false)⟩, ⟨2, 1, (some false)⟩]⟩ := by kernel_rfl
@[simp] theorem el_42 : elOf Try.prog 42 = some (3, 56) := by kernel_rfl
@[simp] theorem ze_42 : Qci Try.prog 42 = some [.d (.v (.bool false)), .nils, .nils] := by kernel_rfl
@[simp] theorem ty_52 : tyOf Try.prog 52 = some ⟨1, .slice 9 1 (some false)⟩ := by kernel_rfl
@[simp] theorem ty_80 : tyOf Try.prog 80 = some ⟨9, .array 9 1 (some false)⟩ := by kernel_rfl
@[simp] theorem ze_80 : Qci Try.prog 80 = some [.d (.v (.int .i64 0)), .d (.v (.int .i64 0)), .d (.v (.int .i64 0)), .d (.v (.int .i64 0)), .d (.v (.int .i64 0)), .d (.v (.int .i64 0)), .d (.v (.int .i64 0)), .d (.v (.int .i64 0)), .d (.v (.int .i64 0))] := by kernel_rfl
end Go.Proofs.Ytpaifjlikgnlfaa
