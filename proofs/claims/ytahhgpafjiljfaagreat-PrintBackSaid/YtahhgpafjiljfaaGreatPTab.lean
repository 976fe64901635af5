import Derived.Test.YtahhgpafjiljfaaGreatPBA1
import Derived.Test.YtahhgpafjiljfaaGreatProg
set_option linter.unusedSimpArgs false
set_option linter.unusedVariables false
set_option maxHeartbeats 16000000
set_option maxRecDepth 100000
namespace Go.Proofs.YtahhgpafjiljfaaGreat
open Go.RowKit
@[simp] theorem ty_3 : tyOf Tryz.prog 3 = some ⟨1, .int .i64⟩ := by kernel_rfl
@[simp] theorem el_3 : elOf Tryz.prog 3 = some (1, 8) := by kernel_rfl
@[simp] theorem ty_4 : tyOf Tryz.prog 4 = some ⟨1, .bool⟩ := by kernel_rfl
@[simp] theorem ty_5 : tyOf Tryz.prog 5 = some ⟨1, .int .u8⟩ := by kernel_rfl
@[simp] theorem el_5 : elOf Tryz.prog 5 = some (1, 1) := by kernel_rfl
@[simp] theorem ty_9 : tyOf Tryz.prog 9 = some ⟨1, .str⟩ := by kernel_rfl
@[simp] theorem el_9 : elOf Tryz.prog 9 = some (1, 16) := by kernel_rfl
@[simp] theorem ty_21 : tyOf Tryz.prog 21 = some ⟨1, .int .i32⟩ := by kernel_rfl
@[simp] theorem ty_23 : tyOf Tryz.prog 23 = some ⟨1, .slice 25 5 (some true)⟩ := by kernel_rfl
@[simp] theorem ty_25 : tyOf Tryz.prog 25 = some ⟨5, .struct [⟨0, 1, (some false)⟩, ⟨1, 1, (some false)⟩, ⟨2, 1, (some false)⟩, ⟨3, 1, (some false)⟩, ⟨4, 1, (some false)⟩]⟩ := by kernel_rfl
@[simp] theorem el_25 : elOf Tryz.prog 25 = some (5, 64) := by kernel_rfl
@[simp] theorem ze_25 : Qcp Tryz.prog 25 = some [.d (.v (.int .i64 0)), .d (.v (.int .i64 0)), .d (.v (.string ByteArray.empty)), .d (.v (.int .i64 0)), .nils] := by kernel_rfl
@[simp] theorem ty_26 : tyOf Tryz.prog 26 = some ⟨1, .int .i64⟩ := by kernel_rfl
@[simp] theorem ty_29 : tyOf Tryz.prog 29 = some ⟨1, .slice 31 5 (some true)⟩ := by kernel_rfl
@[simp] theorem ty_31 : tyOf Tryz.prog 31 = some ⟨5, .struct [⟨0, 1, (some false)⟩, ⟨1, 1, (some false)⟩, ⟨2, 1, (some false)⟩, ⟨3, 1, (some false)⟩, ⟨4, 1, (some false)⟩]⟩ := by kernel_rfl
@[simp] theorem el_31 : elOf Tryz.prog 31 = some (5, 64) := by kernel_rfl
@[simp] theorem ze_31 : Qcp Tryz.prog 31 = some [.d (.v (.int .i64 0)), .d (.v (.int .i64 0)), .d (.v (.string ByteArray.empty)), .d (.v (.int .i64 0)), .nils] := by kernel_rfl
@[simp] theorem ty_37 : tyOf Tryz.prog 37 = some ⟨1, .slice 120 7 (some true)⟩ := by kernel_rfl
@[simp] theorem ty_38 : tyOf Tryz.prog 38 = some ⟨1, .slice 62 8 (some true)⟩ := by kernel_rfl
@[simp] theorem ty_40 : tyOf Tryz.prog 40 = some ⟨11, .struct [⟨0, 1, (some false)⟩, ⟨1, 1, (some false)⟩, ⟨2, 1, (some false)⟩, ⟨3, 1, (some false)⟩, ⟨4, 5, (some true)⟩, ⟨9, 1, (some false)⟩, ⟨10, 1, (some false)⟩]⟩ := by kernel_rfl
@[simp] theorem el_40 : elOf Tryz.prog 40 = some (11, 168) := by kernel_rfl
@[simp] theorem ze_40 : Qcp Tryz.prog 40 = some [.d (.v (.int .i64 0)), .d (.v (.int .i64 0)), .d (.v (.string ByteArray.empty)), .nils, .d (.v (.int .i64 0)), .d (.v (.int .i64 0)), .d (.v (.string ByteArray.empty)), .d (.v (.int .i64 0)), .nils, .nils, .nils] := by kernel_rfl
@[simp] theorem ty_44 : tyOf Tryz.prog 44 = some ⟨1, .slice 84 8 (some true)⟩ := by kernel_rfl
@[simp] theorem ty_46 : tyOf Tryz.prog 46 = some ⟨11, .struct [⟨0, 1, (some false)⟩, ⟨1, 1, (some false)⟩, ⟨2, 1, (some false)⟩, ⟨3, 1, (some false)⟩, ⟨4, 5, (some true)⟩, ⟨9, 1, (some false)⟩, ⟨10, 1, (some false)⟩]⟩ := by kernel_rfl
@[simp] theorem ze_46 : Qcp Tryz.prog 46 = some [.d (.v (.int .i64 0)), .d (.v (.int .i64 0)), .d (.v (.string ByteArray.empty)), .nils, .d (.v (.int .i64 0)), .d (.v (.int .i64 0)), .d (.v (.string ByteArray.empty)), .d (.v (.int .i64 0)), .nils, .nils, .nils] := by kernel_rfl
@[simp] theorem ty_56 : tyOf Tryz.prog 56 = some ⟨1, .slice 40 11 (some true)⟩ := by kernel_rfl
@[simp] theorem ty_62 : tyOf Tryz.prog 62 = some ⟨8, .struct [⟨0, 1, (some false)⟩, ⟨1, 1, (some false)⟩, ⟨2, 1, (some false)⟩, ⟨3, 5, (some true)⟩]⟩ := by kernel_rfl
@[simp] theorem el_62 : elOf Tryz.prog 62 = some (8, 104) := by kernel_rfl
@[simp] theorem ze_62 : Qcp Tryz.prog 62 = some [.d (.v (.int .i64 0)), .nils, .d (.v (.bool false)), .d (.v (.int .i64 0)), .d (.v (.int .i64 0)), .d (.v (.string ByteArray.empty)), .d (.v (.int .i64 0)), .nils] := by kernel_rfl
@[simp] theorem ty_66 : tyOf Tryz.prog 66 = some ⟨1, .slice 102 3 (some true)⟩ := by kernel_rfl
@[simp] theorem ty_68 : tyOf Tryz.prog 68 = some ⟨4, .struct [⟨0, 1, (some false)⟩, ⟨1, 1, (some false)⟩, ⟨2, 1, (some false)⟩, ⟨3, 1, (some false)⟩]⟩ := by kernel_rfl
@[simp] theorem ze_68 : Qcp Tryz.prog 68 = some [.nils, .d (.v (.int .i64 0)), .d (.v (.int .i64 0)), .d (.v (.int .i64 0))] := by kernel_rfl
@[simp] theorem ty_84 : tyOf Tryz.prog 84 = some ⟨8, .struct [⟨0, 1, (some false)⟩, ⟨1, 1, (some false)⟩, ⟨2, 1, (some false)⟩, ⟨3, 5, (some true)⟩]⟩ := by kernel_rfl
@[simp] theorem el_84 : elOf Tryz.prog 84 = some (8, 104) := by kernel_rfl
@[simp] theorem ze_84 : Qcp Tryz.prog 84 = some [.d (.v (.int .i64 0)), .nils, .d (.v (.bool false)), .d (.v (.int .i64 0)), .d (.v (.int .i64 0)), .d (.v (.string ByteArray.empty)), .d (.v (.int .i64 0)), .nils] := by kernel_rfl
@[simp] theorem ty_90 : tyOf Tryz.prog 90 = some ⟨1, .slice 5 1 (some false)⟩ := by kernel_rfl
@[simp] theorem ty_92 : tyOf Tryz.prog 92 = some ⟨2, .struct [⟨0, 1, (some false)⟩, ⟨1, 1, (some false)⟩]⟩ := by kernel_rfl
@[simp] theorem ty_94 : tyOf Tryz.prog 94 = some ⟨2, .struct [⟨0, 2, (some true)⟩]⟩ := by kernel_rfl
@[simp] theorem ze_94 : Qcp Tryz.prog 94 = some [.nils, .d (.v (.bool false))] := by kernel_rfl
@[simp] theorem ty_102 : tyOf Tryz.prog 102 = some ⟨3, .struct [⟨0, 1, (some false)⟩, ⟨1, 1, (some false)⟩, ⟨2, 1, (some false)⟩]⟩ := by kernel_rfl
@[simp] theorem el_102 : elOf Tryz.prog 102 = some (3, 32) := by kernel_rfl
@[simp] theorem ze_102 : Qcp Tryz.prog 102 = some [.d (.v (.int .i64 0)), .d (.v (.string ByteArray.empty)), .d (.v (.int .i64 0))] := by kernel_rfl
@[simp] theorem ty_109 : tyOf Tryz.prog 109 = some ⟨1, .slice 3 1 (some false)⟩ := by kernel_rfl
@[simp] theorem ty_120 : tyOf Tryz.prog 120 = some ⟨7, .struct [⟨0, 1, (some false)⟩, ⟨1, 1, (some false)⟩, ⟨2, 5, (some true)⟩]⟩ := by kernel_rfl
@[simp] theorem el_120 : elOf Tryz.prog 120 = some (7, 88) := by kernel_rfl
@[simp] theorem ze_120 : Qcp Tryz.prog 120 = some [.d (.v (.string ByteArray.empty)), .d (.v (.int .i64 0)), .d (.v (.int .i64 0)), .d (.v (.int .i64 0)), .d (.v (.string ByteArray.empty)), .d (.v (.int .i64 0)), .nils] := by kernel_rfl
@[simp] theorem ty_133 : tyOf Tryz.prog 133 = some ⟨3, .struct [⟨0, 1, (some false)⟩, ⟨1, 1, (some false)⟩, ⟨2, 1, (some false)⟩]⟩ := by kernel_rfl
@[simp] theorem ze_133 : Qcp Tryz.prog 133 = some [.nils, .nils, .d (.v (.int .i64 0))] := by kernel_rfl
@[simp] theorem ty_155 : tyOf Tryz.prog 155 = some ⟨1, .slice 9 1 (some false)⟩ := by kernel_rfl
@[simp] theorem ty_159 : tyOf Tryz.prog 159 = some ⟨4, .array 4 1 (some false)⟩ := by kernel_rfl
@[simp] theorem ze_159 : Qcp Tryz.prog 159 = some [.d (.v (.string ByteArray.empty)), .d (.v (.string ByteArray.empty)), .d (.v (.string ByteArray.empty)), .d (.v (.string ByteArray.empty))] := by kernel_rfl
end Go.Proofs.YtahhgpafjiljfaaGreat
