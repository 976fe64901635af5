import Derived.Test.YtahhgpafjiljfaaOBA1
import Derived.Test.YtahhgpafjiljfaaProg
set_option linter.unusedSimpArgs false
set_option linter.unusedVariables false
set_option maxHeartbeats 16000000
set_option maxRecDepth 100000
namespace Go.Proofs.Ytahhgpafjiljfaa
open Go.RowKit
@[simp] theorem ty_3 : tyOf Try.prog 3 = some ⟨1, .int .i64⟩ := by kernel_rfl
@[simp] theorem el_3 : elOf Try.prog 3 = some (1, 8) := by kernel_rfl
@[simp] theorem ty_4 : tyOf Try.prog 4 = some ⟨1, .bool⟩ := by kernel_rfl
@[simp] theorem ty_5 : tyOf Try.prog 5 = some ⟨1, .int .u8⟩ := by kernel_rfl
@[simp] theorem el_5 : elOf Try.prog 5 = some (1, 1) := by kernel_rfl
@[simp] theorem ty_9 : tyOf Try.prog 9 = some ⟨1, .str⟩ := by kernel_rfl
@[simp] theorem el_9 : elOf Try.prog 9 = some (1, 16) := by kernel_rfl
@[simp] theorem ty_21 : tyOf Try.prog 21 = some ⟨1, .int .i32⟩ := by kernel_rfl
@[simp] theorem ty_29 : tyOf Try.prog 29 = some ⟨1, .slice 31 5 (some true)⟩ := by kernel_rfl
@[simp] theorem ty_31 : tyOf Try.prog 31 = some ⟨5, .struct [⟨0, 1, (some false)⟩, ⟨1, 1, (some false)⟩, ⟨2, 1, (some false)⟩, ⟨3, 1, (some false)⟩, ⟨4, 1, (some false)⟩]⟩ := by kernel_rfl
@[simp] theorem el_31 : elOf Try.prog 31 = some (5, 64) := by kernel_rfl
@[simp] theorem ze_31 : Qdh Try.prog 31 = some [.d (.v (.int .i64 0)), .d (.v (.int .i64 0)), .d (.v (.string ByteArray.empty)), .d (.v (.int .i64 0)), .nils] := by kernel_rfl
@[simp] theorem ty_32 : tyOf Try.prog 32 = some ⟨1, .int .i64⟩ := by kernel_rfl
@[simp] theorem ty_37 : tyOf Try.prog 37 = some ⟨1, .slice 43 11 (some true)⟩ := by kernel_rfl
@[simp] theorem ty_40 : tyOf Try.prog 40 = some ⟨1, .slice 109 7 (some true)⟩ := by kernel_rfl
@[simp] theorem ty_41 : tyOf Try.prog 41 = some ⟨1, .slice 66 8 (some true)⟩ := by kernel_rfl
@[simp] theorem ty_43 : tyOf Try.prog 43 = some ⟨11, .struct [⟨0, 1, (some false)⟩, ⟨1, 1, (some false)⟩, ⟨2, 1, (some false)⟩, ⟨3, 1, (some false)⟩, ⟨4, 5, (some true)⟩, ⟨9, 1, (some false)⟩, ⟨10, 1, (some false)⟩]⟩ := by kernel_rfl
@[simp] theorem el_43 : elOf Try.prog 43 = some (11, 168) := by kernel_rfl
@[simp] theorem ze_43 : Qdh Try.prog 43 = some [.d (.v (.int .i64 0)), .d (.v (.int .i64 0)), .d (.v (.string ByteArray.empty)), .nils, .d (.v (.int .i64 0)), .d (.v (.int .i64 0)), .d (.v (.string ByteArray.empty)), .d (.v (.int .i64 0)), .nils, .nils, .nils] := by kernel_rfl
@[simp] theorem ty_45 : tyOf Try.prog 45 = some ⟨1, .slice 49 3 (some true)⟩ := by kernel_rfl
@[simp] theorem ty_49 : tyOf Try.prog 49 = some ⟨3, .struct [⟨0, 1, (some false)⟩, ⟨1, 1, (some false)⟩, ⟨2, 1, (some false)⟩]⟩ := by kernel_rfl
@[simp] theorem el_49 : elOf Try.prog 49 = some (3, 32) := by kernel_rfl
@[simp] theorem ze_49 : Qdh Try.prog 49 = some [.d (.v (.int .i64 0)), .d (.v (.string ByteArray.empty)), .d (.v (.int .i64 0))] := by kernel_rfl
@[simp] theorem ty_56 : tyOf Try.prog 56 = some ⟨1, .slice 5 1 (some false)⟩ := by kernel_rfl
@[simp] theorem ty_61 : tyOf Try.prog 61 = some ⟨4, .struct [⟨0, 1, (some false)⟩, ⟨1, 1, (some false)⟩, ⟨2, 1, (some false)⟩, ⟨3, 1, (some false)⟩]⟩ := by kernel_rfl
@[simp] theorem ze_61 : Qdh Try.prog 61 = some [.nils, .d (.v (.int .i64 0)), .d (.v (.int .i64 0)), .d (.v (.int .i64 0))] := by kernel_rfl
@[simp] theorem ty_66 : tyOf Try.prog 66 = some ⟨8, .struct [⟨0, 1, (some false)⟩, ⟨1, 1, (some false)⟩, ⟨2, 1, (some false)⟩, ⟨3, 5, (some true)⟩]⟩ := by kernel_rfl
@[simp] theorem el_66 : elOf Try.prog 66 = some (8, 104) := by kernel_rfl
@[simp] theorem ze_66 : Qdh Try.prog 66 = some [.d (.v (.int .i64 0)), .nils, .d (.v (.bool false)), .d (.v (.int .i64 0)), .d (.v (.int .i64 0)), .d (.v (.string ByteArray.empty)), .d (.v (.int .i64 0)), .nils] := by kernel_rfl
@[simp] theorem ty_67 : tyOf Try.prog 67 = some ⟨1, .slice 3 1 (some false)⟩ := by kernel_rfl
@[simp] theorem ty_73 : tyOf Try.prog 73 = some ⟨3, .struct [⟨0, 1, (some false)⟩, ⟨1, 1, (some false)⟩, ⟨2, 1, (some false)⟩]⟩ := by kernel_rfl
@[simp] theorem ze_73 : Qdh Try.prog 73 = some [.nils, .nils, .d (.v (.int .i64 0))] := by kernel_rfl
@[simp] theorem ty_86 : tyOf Try.prog 86 = some ⟨2, .struct [⟨0, 1, (some false)⟩, ⟨1, 1, (some false)⟩]⟩ := by kernel_rfl
@[simp] theorem ty_88 : tyOf Try.prog 88 = some ⟨2, .struct [⟨0, 2, (some true)⟩]⟩ := by kernel_rfl
@[simp] theorem ze_88 : Qdh Try.prog 88 = some [.nils, .d (.v (.bool false))] := by kernel_rfl
@[simp] theorem ty_109 : tyOf Try.prog 109 = some ⟨7, .struct [⟨0, 1, (some false)⟩, ⟨1, 1, (some false)⟩, ⟨2, 5, (some true)⟩]⟩ := by kernel_rfl
@[simp] theorem el_109 : elOf Try.prog 109 = some (7, 88) := by kernel_rfl
@[simp] theorem ze_109 : Qdh Try.prog 109 = some [.d (.v (.string ByteArray.empty)), .d (.v (.int .i64 0)), .d (.v (.int .i64 0)), .d (.v (.int .i64 0)), .d (.v (.string ByteArray.empty)), .d (.v (.int .i64 0)), .nils] := by kernel_rfl
@[simp] theorem ty_115 : tyOf Try.prog 115 = some ⟨4, .array 4 1 (some false)⟩ := by kernel_rfl
@[simp] theorem ze_115 : Qdh Try.prog 115 = some [.d (.v (.string ByteArray.empty)), .d (.v (.string ByteArray.empty)), .d (.v (.string ByteArray.empty)), .d (.v (.string ByteArray.empty))] := by kernel_rfl
@[simp] theorem ty_129 : tyOf Try.prog 129 = some ⟨1, .slice 9 1 (some false)⟩ := by kernel_rfl
end Go.Proofs.Ytahhgpafjiljfaa
