import Derived.Test.YtdklpbefbamchaaGreatBA1
import Derived.Test.YtdklpbefbamchaaGreatProg
set_option linter.unusedSimpArgs false
set_option linter.unusedVariables false
set_option maxHeartbeats 16000000
set_option maxRecDepth 100000
namespace Go.Proofs.YtdklpbefbamchaaGreat
open Go.RowKit
@[simp] theorem ty_3 : tyOf Tryz.prog 3 = some ⟨1, .int .i64⟩ := by kernel_rfl
@[simp] theorem el_3 : elOf Tryz.prog 3 = some (1, 8) := by kernel_rfl
@[simp] theorem ty_5 : tyOf Tryz.prog 5 = some ⟨1, .int .u8⟩ := by kernel_rfl
@[simp] theorem el_5 : elOf Tryz.prog 5 = some (1, 1) := by kernel_rfl
@[simp] theorem ty_9 : tyOf Tryz.prog 9 = some ⟨1, .str⟩ := by kernel_rfl
@[simp] theorem el_9 : elOf Tryz.prog 9 = some (1, 16) := by kernel_rfl
@[simp] theorem ty_21 : tyOf Tryz.prog 21 = some ⟨1, .int .i32⟩ := by kernel_rfl
@[simp] theorem ty_22 : tyOf Tryz.prog 22 = some ⟨1, .slice 40 15 (some true)⟩ := by kernel_rfl
@[simp] theorem ty_24 : tyOf Tryz.prog 24 = some ⟨1, .slice 26 3 (some true)⟩ := by kernel_rfl
@[simp] theorem ty_26 : tyOf Tryz.prog 26 = some ⟨3, .struct [⟨0, 1, (some false)⟩, ⟨1, 1, (some false)⟩, ⟨2, 1, (some false)⟩]⟩ := by kernel_rfl
@[simp] theorem el_26 : elOf Tryz.prog 26 = some (3, 40) := by kernel_rfl
@[simp] theorem ze_26 : Qcw Tryz.prog 26 = some [.d (.v (.int .i64 0)), .d (.v (.int .i64 0)), .nils] := by kernel_rfl
@[simp] theorem ty_35 : tyOf Tryz.prog 35 = some ⟨1, .int .i64⟩ := by kernel_rfl
@[simp] theorem ty_38 : tyOf Tryz.prog 38 = some ⟨1, .slice 3 1 (some false)⟩ := by kernel_rfl
@[simp] theorem ty_40 : tyOf Tryz.prog 40 = some ⟨15, .struct [⟨0, 1, (some false)⟩, ⟨1, 1, (some false)⟩, ⟨2, 3, (some true)⟩, ⟨5, 3, (some true)⟩, ⟨8, 1, (some false)⟩, ⟨9, 1, (some false)⟩, ⟨10, 1, (some false)⟩, ⟨11, 1, (some false)⟩, ⟨12, 1, (some false)⟩, ⟨13, 1, (some false)⟩, ⟨14, 1, (some false)⟩]⟩ := by kernel_rfl
@[simp] theorem el_40 : elOf Tryz.prog 40 = some (15, 192) := by kernel_rfl
@[simp] theorem ze_40 : Qcw Tryz.prog 40 = some [.d (.v (.int .i64 0)), .d (.v (.string ByteArray.empty)), .d (.v (.int .i64 0)), .d (.v (.int .i64 0)), .nils, .d (.v (.int .i64 0)), .d (.v (.int .i64 0)), .nils, .d (.v (.int .i64 0)), .d (.v (.int .i64 0)), .d (.v (.int .i64 0)), .d (.v (.int .i64 0)), .d (.v (.int .i64 0)), .nils, .nils] := by kernel_rfl
@[simp] theorem ty_61 : tyOf Tryz.prog 61 = some ⟨1, .slice 68 5 (some true)⟩ := by kernel_rfl
@[simp] theorem ty_62 : tyOf Tryz.prog 62 = some ⟨1, .slice 64 5 (some true)⟩ := by kernel_rfl
@[simp] theorem ty_64 : tyOf Tryz.prog 64 = some ⟨5, .struct [⟨0, 1, (some false)⟩, ⟨1, 1, (some false)⟩, ⟨2, 1, (some false)⟩, ⟨3, 1, (some false)⟩, ⟨4, 1, (some false)⟩]⟩ := by kernel_rfl
@[simp] theorem el_64 : elOf Tryz.prog 64 = some (5, 64) := by kernel_rfl
@[simp] theorem ze_64 : Qcw Tryz.prog 64 = some [.d (.v (.int .i64 0)), .d (.v (.int .i64 0)), .d (.v (.string ByteArray.empty)), .d (.v (.int .i64 0)), .nils] := by kernel_rfl
@[simp] theorem ty_68 : tyOf Tryz.prog 68 = some ⟨5, .struct [⟨0, 1, (some false)⟩, ⟨1, 1, (some false)⟩, ⟨2, 1, (some false)⟩, ⟨3, 1, (some false)⟩, ⟨4, 1, (some false)⟩]⟩ := by kernel_rfl
@[simp] theorem el_68 : elOf Tryz.prog 68 = some (5, 64) := by kernel_rfl
@[simp] theorem ze_68 : Qcw Tryz.prog 68 = some [.d (.v (.int .i64 0)), .d (.v (.int .i64 0)), .d (.v (.string ByteArray.empty)), .d (.v (.int .i64 0)), .nils] := by kernel_rfl
@[simp] theorem ty_69 : tyOf Tryz.prog 69 = some ⟨1, .slice 9 1 (some false)⟩ := by kernel_rfl
@[simp] theorem ty_99 : tyOf Tryz.prog 99 = some ⟨5, .struct [⟨0, 3, (some true)⟩, ⟨3, 1, (some false)⟩, ⟨4, 1, (some false)⟩]⟩ := by kernel_rfl
@[simp] theorem ze_99 : Qcw Tryz.prog 99 = some [.d (.v (.int .i64 0)), .d (.v (.int .i64 0)), .nils, .d (.v (.int .i64 0)), .d (.v (.int .i64 0))] := by kernel_rfl
@[simp] theorem ty_157 : tyOf Tryz.prog 157 = some ⟨3, .struct [⟨0, 1, (some false)⟩, ⟨1, 1, (some false)⟩, ⟨2, 1, (some false)⟩]⟩ := by kernel_rfl
@[simp] theorem ze_157 : Qcw Tryz.prog 157 = some [.nils, .d (.v (.int .i64 0)), .d (.v (.int .i64 0))] := by kernel_rfl
@[simp] theorem ty_163 : tyOf Tryz.prog 163 = some ⟨1, .slice 209 3 (some true)⟩ := by kernel_rfl
@[simp] theorem ty_165 : tyOf Tryz.prog 165 = some ⟨4, .struct [⟨0, 1, (some false)⟩, ⟨1, 1, (some false)⟩, ⟨2, 1, (some false)⟩, ⟨3, 1, (some false)⟩]⟩ := by kernel_rfl
@[simp] theorem ze_165 : Qcw Tryz.prog 165 = some [.nils, .d (.v (.int .i64 0)), .d (.v (.int .i64 0)), .d (.v (.int .i64 0))] := by kernel_rfl
@[simp] theorem ty_166 : tyOf Tryz.prog 166 = some ⟨1, .slice 173 3 (some true)⟩ := by kernel_rfl
@[simp] theorem ty_170 : tyOf Tryz.prog 170 = some ⟨8, .struct [⟨0, 5, (some true)⟩, ⟨5, 1, (some false)⟩, ⟨6, 1, (some false)⟩, ⟨7, 1, (some false)⟩]⟩ := by kernel_rfl
@[simp] theorem ze_170 : Qcw Tryz.prog 170 = some [.d (.v (.int .i64 0)), .d (.v (.int .i64 0)), .d (.v (.string ByteArray.empty)), .d (.v (.int .i64 0)), .nils, .d (.v (.int .i64 0)), .d (.v (.int .i64 0)), .d (.v (.int .i64 0))] := by kernel_rfl
@[simp] theorem ty_173 : tyOf Tryz.prog 173 = some ⟨3, .struct [⟨0, 1, (some false)⟩, ⟨1, 1, (some false)⟩, ⟨2, 1, (some false)⟩]⟩ := by kernel_rfl
@[simp] theorem el_173 : elOf Tryz.prog 173 = some (3, 32) := by kernel_rfl
@[simp] theorem ze_173 : Qcw Tryz.prog 173 = some [.d (.v (.int .i64 0)), .d (.v (.string ByteArray.empty)), .d (.v (.int .i64 0))] := by kernel_rfl
@[simp] theorem ty_209 : tyOf Tryz.prog 209 = some ⟨3, .struct [⟨0, 1, (some false)⟩, ⟨1, 1, (some false)⟩, ⟨2, 1, (some false)⟩]⟩ := by kernel_rfl
@[simp] theorem el_209 : elOf Tryz.prog 209 = some (3, 32) := by kernel_rfl
@[simp] theorem ze_209 : Qcw Tryz.prog 209 = some [.d (.v (.int .i64 0)), .d (.v (.string ByteArray.empty)), .d (.v (.int .i64 0))] := by kernel_rfl
@[simp] theorem ty_237 : tyOf Tryz.prog 237 = some ⟨3, .struct [⟨0, 1, (some false)⟩, ⟨1, 1, (some false)⟩, ⟨2, 1, (some false)⟩]⟩ := by kernel_rfl
@[simp] theorem ze_237 : Qcw Tryz.prog 237 = some [.nils, .nils, .d (.v (.int .i64 0))] := by kernel_rfl
@[simp] theorem ty_252 : tyOf Tryz.prog 252 = some ⟨9, .array 9 1 (some false)⟩ := by kernel_rfl
@[simp] theorem ze_252 : Qcw Tryz.prog 252 = some [.d (.v (.int .i64 0)), .d (.v (.int .i64 0)), .d (.v (.int .i64 0)), .d (.v (.int .i64 0)), .d (.v (.int .i64 0)), .d (.v (.int .i64 0)), .d (.v (.int .i64 0)), .d (.v (.int .i64 0)), .d (.v (.int .i64 0))] := by kernel_rfl
@[simp] theorem ty_276 : tyOf Tryz.prog 276 = some ⟨1, .slice 5 1 (some false)⟩ := by kernel_rfl
end Go.Proofs.YtdklpbefbamchaaGreat
