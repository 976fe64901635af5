import Derived.Test.YtfnfbbmegdkhjaaGreatBA
import Derived.Test.YtfnfbbmegdkhjaaGreatProg
namespace Go.Proofs.YtfnfbbmegdkhjaaGreat
open Go.RowKit
@[simp] theorem ty_0 : tyOf Tryz.prog 0 = some ⟨1, .other⟩ := by kernel_rfl
@[simp] theorem el_0 : elOf Tryz.prog 0 = some (1, 0) := by kernel_rfl
@[simp] theorem ty_1 : tyOf Tryz.prog 1 = some ⟨1, .other⟩ := by kernel_rfl
@[simp] theorem el_1 : elOf Tryz.prog 1 = some (1, 8) := by kernel_rfl
@[simp] theorem ze_1 : zeroOf Tryz.prog 1 = some [.d (.v .nilFunc)] := by kernel_rfl
@[simp] theorem ty_2 : tyOf Tryz.prog 2 = some ⟨1, .int .i64⟩ := by kernel_rfl
@[simp] theorem el_2 : elOf Tryz.prog 2 = some (1, 8) := by kernel_rfl
@[simp] theorem ze_2 : zeroOf Tryz.prog 2 = some [.d (.v (.int .i64 0))] := by kernel_rfl
@[simp] theorem ty_3 : tyOf Tryz.prog 3 = some ⟨1, .int .i64⟩ := by kernel_rfl
@[simp] theorem el_3 : elOf Tryz.prog 3 = some (1, 8) := by kernel_rfl
@[simp] theorem ze_3 : zeroOf Tryz.prog 3 = some [.d (.v (.int .i64 0))] := by kernel_rfl
@[simp] theorem ty_4 : tyOf Tryz.prog 4 = some ⟨1, .bool⟩ := by kernel_rfl
@[simp] theorem el_4 : elOf Tryz.prog 4 = some (1, 1) := by kernel_rfl
@[simp] theorem ze_4 : zeroOf Tryz.prog 4 = some [.d (.v (.bool false))] := by kernel_rfl
@[simp] theorem ty_5 : tyOf Tryz.prog 5 = some ⟨1, .int .u8⟩ := by kernel_rfl
@[simp] theorem el_5 : elOf Tryz.prog 5 = some (1, 1) := by kernel_rfl
@[simp] theorem ze_5 : zeroOf Tryz.prog 5 = some [.d (.v (.int .u8 0))] := by kernel_rfl
@[simp] theorem ty_6 : tyOf Tryz.prog 6 = some ⟨1, .int .u8⟩ := by kernel_rfl
@[simp] theorem el_6 : elOf Tryz.prog 6 = some (1, 1) := by kernel_rfl
@[simp] theorem ze_6 : zeroOf Tryz.prog 6 = some [.d (.v (.int .u8 0))] := by kernel_rfl
@[simp] theorem ty_7 : tyOf Tryz.prog 7 = some ⟨4, .struct [⟨0, 1, (some false)⟩, ⟨1, 1, (some false)⟩, ⟨2, 1, (some false)⟩, ⟨3, 1, (some false)⟩]⟩ := by kernel_rfl
@[simp] theorem el_7 : elOf Tryz.prog 7 = some (4, 24) := by kernel_rfl
@[simp] theorem ze_7 : zeroOf Tryz.prog 7 = some [.d (.v (.int .i64 0)), .d (.v (.int .i64 0)), .d (.v (.bool false)), .d (.v (.int .u8 0))] := by kernel_rfl
@[simp] theorem ty_8 : tyOf Tryz.prog 8 = some ⟨4, .struct [⟨0, 1, (some false)⟩, ⟨1, 1, (some false)⟩, ⟨2, 1, (some false)⟩, ⟨3, 1, (some false)⟩]⟩ := by kernel_rfl
@[simp] theorem el_8 : elOf Tryz.prog 8 = some (4, 24) := by kernel_rfl
@[simp] theorem ze_8 : zeroOf Tryz.prog 8 = some [.d (.v (.int .i64 0)), .d (.v (.int .i64 0)), .d (.v (.bool false)), .d (.v (.int .u8 0))] := by kernel_rfl
@[simp] theorem ty_9 : tyOf Tryz.prog 9 = some ⟨1, .str⟩ := by kernel_rfl
@[simp] theorem el_9 : elOf Tryz.prog 9 = some (1, 16) := by kernel_rfl
@[simp] theorem ze_9 : zeroOf Tryz.prog 9 = some [.d (.v (.string ByteArray.empty))] := by kernel_rfl
@[simp] theorem ty_10 : tyOf Tryz.prog 10 = some ⟨1, .str⟩ := by kernel_rfl
@[simp] theorem el_10 : elOf Tryz.prog 10 = some (1, 16) := by kernel_rfl
@[simp] theorem ze_10 : zeroOf Tryz.prog 10 = some [.d (.v (.string ByteArray.empty))] := by kernel_rfl
@[simp] theorem ty_11 : tyOf Tryz.prog 11 = some ⟨1, .str⟩ := by kernel_rfl
@[simp] theorem el_11 : elOf Tryz.prog 11 = some (1, 16) := by kernel_rfl
@[simp] theorem ze_11 : zeroOf Tryz.prog 11 = some [.d (.v (.string ByteArray.empty))] := by kernel_rfl
@[simp] theorem ty_12 : tyOf Tryz.prog 12 = some ⟨1, .int .u64⟩ := by kernel_rfl
@[simp] theorem el_12 : elOf Tryz.prog 12 = some (1, 8) := by kernel_rfl
@[simp] theorem ze_12 : zeroOf Tryz.prog 12 = some [.d (.v (.int .u64 0))] := by kernel_rfl
@[simp] theorem ty_13 : tyOf Tryz.prog 13 = some ⟨2, .struct [⟨0, 1, (some false)⟩, ⟨1, 1, (some false)⟩]⟩ := by kernel_rfl
@[simp] theorem el_13 : elOf Tryz.prog 13 = some (2, 24) := by kernel_rfl
@[simp] theorem ze_13 : zeroOf Tryz.prog 13 = some [.d (.v (.string ByteArray.empty)), .d (.v (.int .u64 0))] := by kernel_rfl
@[simp] theorem ty_14 : tyOf Tryz.prog 14 = some ⟨2, .struct [⟨0, 1, (some false)⟩, ⟨1, 1, (some false)⟩]⟩ := by kernel_rfl
@[simp] theorem el_14 : elOf Tryz.prog 14 = some (2, 24) := by kernel_rfl
@[simp] theorem ze_14 : zeroOf Tryz.prog 14 = some [.d (.v (.string ByteArray.empty)), .d (.v (.int .u64 0))] := by kernel_rfl
@[simp] theorem ty_15 : tyOf Tryz.prog 15 = some ⟨1, .other⟩ := by kernel_rfl
@[simp] theorem el_15 : elOf Tryz.prog 15 = some (1, 8) := by kernel_rfl
@[simp] theorem ze_15 : zeroOf Tryz.prog 15 = some [.d (.v (.pointer none))] := by kernel_rfl
@[simp] theorem ty_16 : tyOf Tryz.prog 16 = some ⟨1, .other⟩ := by kernel_rfl
@[simp] theorem el_16 : elOf Tryz.prog 16 = some (1, 8) := by kernel_rfl
@[simp] theorem ze_16 : zeroOf Tryz.prog 16 = some [.d (.v (.pointer none))] := by kernel_rfl
@[simp] theorem ty_17 : tyOf Tryz.prog 17 = some ⟨1, .other⟩ := by kernel_rfl
@[simp] theorem el_17 : elOf Tryz.prog 17 = some (1, 8) := by kernel_rfl
@[simp] theorem ze_17 : zeroOf Tryz.prog 17 = some [.d (.v (.pointer none))] := by kernel_rfl
@[simp] theorem ty_18 : tyOf Tryz.prog 18 = some ⟨1, .struct [⟨0, 1, (some false)⟩]⟩ := by kernel_rfl
@[simp] theorem el_18 : elOf Tryz.prog 18 = some (1, 8) := by kernel_rfl
@[simp] theorem ze_18 : zeroOf Tryz.prog 18 = some [.d (.v (.pointer none))] := by kernel_rfl
@[simp] theorem ty_19 : tyOf Tryz.prog 19 = some ⟨1, .struct [⟨0, 1, (some false)⟩]⟩ := by kernel_rfl
@[simp] theorem el_19 : elOf Tryz.prog 19 = some (1, 8) := by kernel_rfl
@[simp] theorem ze_19 : zeroOf Tryz.prog 19 = some [.d (.v (.pointer none))] := by kernel_rfl
@[simp] theorem ty_20 : tyOf Tryz.prog 20 = some ⟨1, .other⟩ := by kernel_rfl
@[simp] theorem el_20 : elOf Tryz.prog 20 = some (1, 16) := by kernel_rfl
@[simp] theorem ze_20 : zeroOf Tryz.prog 20 = some [.d (.v .nilIface)] := by kernel_rfl
@[simp] theorem ty_21 : tyOf Tryz.prog 21 = some ⟨1, .int .i32⟩ := by kernel_rfl
@[simp] theorem el_21 : elOf Tryz.prog 21 = some (1, 4) := by kernel_rfl
@[simp] theorem ze_21 : zeroOf Tryz.prog 21 = some [.d (.v (.int .i32 0))] := by kernel_rfl
@[simp] theorem ty_22 : tyOf Tryz.prog 22 = some ⟨1, .slice 30 15 (some true)⟩ := by kernel_rfl
@[simp] theorem el_22 : elOf Tryz.prog 22 = some (1, 24) := by kernel_rfl
@[simp] theorem ze_22 : zeroOf Tryz.prog 22 = some [.nils] := by kernel_rfl
@[simp] theorem ty_23 : tyOf Tryz.prog 23 = some ⟨1, .other⟩ := by kernel_rfl
@[simp] theorem el_23 : elOf Tryz.prog 23 = some (1, 8) := by kernel_rfl
@[simp] theorem ze_23 : zeroOf Tryz.prog 23 = some [.d (.v .nilFunc)] := by kernel_rfl
@[simp] theorem ty_24 : tyOf Tryz.prog 24 = some ⟨1, .other⟩ := by kernel_rfl
@[simp] theorem el_24 : elOf Tryz.prog 24 = some (1, 8) := by kernel_rfl
@[simp] theorem ze_24 : zeroOf Tryz.prog 24 = some [.d (.v .nilFunc)] := by kernel_rfl
@[simp] theorem ty_25 : tyOf Tryz.prog 25 = some ⟨1, .slice 27 3 (some true)⟩ := by kernel_rfl
@[simp] theorem el_25 : elOf Tryz.prog 25 = some (1, 24) := by kernel_rfl
@[simp] theorem ze_25 : zeroOf Tryz.prog 25 = some [.nils] := by kernel_rfl
@[simp] theorem ty_26 : tyOf Tryz.prog 26 = some ⟨3, .struct [⟨0, 1, (some false)⟩, ⟨1, 1, (some false)⟩, ⟨2, 1, (some false)⟩]⟩ := by kernel_rfl
@[simp] theorem el_26 : elOf Tryz.prog 26 = some (3, 40) := by kernel_rfl
@[simp] theorem ze_26 : zeroOf Tryz.prog 26 = some [.d (.v (.int .i64 0)), .d (.v (.int .i64 0)), .nils] := by kernel_rfl
@[simp] theorem ty_27 : tyOf Tryz.prog 27 = some ⟨3, .struct [⟨0, 1, (some false)⟩, ⟨1, 1, (some false)⟩, ⟨2, 1, (some false)⟩]⟩ := by kernel_rfl
@[simp] theorem el_27 : elOf Tryz.prog 27 = some (3, 40) := by kernel_rfl
@[simp] theorem ze_27 : zeroOf Tryz.prog 27 = some [.d (.v (.int .i64 0)), .d (.v (.int .i64 0)), .nils] := by kernel_rfl
@[simp] theorem ty_28 : tyOf Tryz.prog 28 = some ⟨1, .slice 3 1 (some false)⟩ := by kernel_rfl
@[simp] theorem el_28 : elOf Tryz.prog 28 = some (1, 24) := by kernel_rfl
@[simp] theorem ze_28 : zeroOf Tryz.prog 28 = some [.nils] := by kernel_rfl
@[simp] theorem ty_29 : tyOf Tryz.prog 29 = some ⟨15, .struct [⟨0, 1, (some false)⟩, ⟨1, 1, (some false)⟩, ⟨2, 3, (some true)⟩, ⟨5, 3, (some true)⟩, ⟨8, 1, (some false)⟩, ⟨9, 1, (some false)⟩, ⟨10, 1, (some false)⟩, ⟨11, 1, (some false)⟩, ⟨12, 1, (some false)⟩, ⟨13, 1, (some false)⟩, ⟨14, 1, (some false)⟩]⟩ := by kernel_rfl
@[simp] theorem el_29 : elOf Tryz.prog 29 = some (15, 192) := by kernel_rfl
@[simp] theorem ze_29 : zeroOf Tryz.prog 29 = some [.d (.v (.int .i64 0)), .d (.v (.string ByteArray.empty)), .d (.v (.int .i64 0)), .d (.v (.int .i64 0)), .nils, .d (.v (.int .i64 0)), .d (.v (.int .i64 0)), .nils, .d (.v (.int .i64 0)), .d (.v (.int .i64 0)), .d (.v (.int .i64 0)), .d (.v (.int .i64 0)), .d (.v (.int .i64 0)), .nils, .nils] := by kernel_rfl
@[simp] theorem ty_30 : tyOf Tryz.prog 30 = some ⟨15, .struct [⟨0, 1, (some false)⟩, ⟨1, 1, (some false)⟩, ⟨2, 3, (some true)⟩, ⟨5, 3, (some true)⟩, ⟨8, 1, (some false)⟩, ⟨9, 1, (some false)⟩, ⟨10, 1, (some false)⟩, ⟨11, 1, (some false)⟩, ⟨12, 1, (some false)⟩, ⟨13, 1, (some false)⟩, ⟨14, 1, (some false)⟩]⟩ := by kernel_rfl
@[simp] theorem el_30 : elOf Tryz.prog 30 = some (15, 192) := by kernel_rfl
@[simp] theorem ze_30 : zeroOf Tryz.prog 30 = some [.d (.v (.int .i64 0)), .d (.v (.string ByteArray.empty)), .d (.v (.int .i64 0)), .d (.v (.int .i64 0)), .nils, .d (.v (.int .i64 0)), .d (.v (.int .i64 0)), .nils, .d (.v (.int .i64 0)), .d (.v (.int .i64 0)), .d (.v (.int .i64 0)), .d (.v (.int .i64 0)), .d (.v (.int .i64 0)), .nils, .nils] := by kernel_rfl
@[simp] theorem ty_31 : tyOf Tryz.prog 31 = some ⟨1, .int .i64⟩ := by kernel_rfl
@[simp] theorem el_31 : elOf Tryz.prog 31 = some (1, 8) := by kernel_rfl
@[simp] theorem ze_31 : zeroOf Tryz.prog 31 = some [.d (.v (.int .i64 0))] := by kernel_rfl
@[simp] theorem ty_32 : tyOf Tryz.prog 32 = some ⟨1, .other⟩ := by kernel_rfl
@[simp] theorem el_32 : elOf Tryz.prog 32 = some (1, 0) := by kernel_rfl
@[simp] theorem ty_33 : tyOf Tryz.prog 33 = some ⟨1, .other⟩ := by kernel_rfl
@[simp] theorem el_33 : elOf Tryz.prog 33 = some (1, 8) := by kernel_rfl
@[simp] theorem ze_33 : zeroOf Tryz.prog 33 = some [.d (.v .nilFunc)] := by kernel_rfl
@[simp] theorem ty_34 : tyOf Tryz.prog 34 = some ⟨1, .other⟩ := by kernel_rfl
@[simp] theorem el_34 : elOf Tryz.prog 34 = some (1, 8) := by kernel_rfl
@[simp] theorem ze_34 : zeroOf Tryz.prog 34 = some [.d (.v .nilFunc)] := by kernel_rfl
@[simp] theorem ty_35 : tyOf Tryz.prog 35 = some ⟨1, .other⟩ := by kernel_rfl
@[simp] theorem el_35 : elOf Tryz.prog 35 = some (1, 0) := by kernel_rfl
@[simp] theorem ty_36 : tyOf Tryz.prog 36 = some ⟨1, .other⟩ := by kernel_rfl
@[simp] theorem el_36 : elOf Tryz.prog 36 = some (1, 8) := by kernel_rfl
@[simp] theorem ze_36 : zeroOf Tryz.prog 36 = some [.d (.v .nilFunc)] := by kernel_rfl
@[simp] theorem ty_37 : tyOf Tryz.prog 37 = some ⟨1, .other⟩ := by kernel_rfl
@[simp] theorem el_37 : elOf Tryz.prog 37 = some (1, 8) := by kernel_rfl
@[simp] theorem ze_37 : zeroOf Tryz.prog 37 = some [.d (.v .nilFunc)] := by kernel_rfl
@[simp] theorem ty_38 : tyOf Tryz.prog 38 = some ⟨1, .other⟩ := by kernel_rfl
@[simp] theorem el_38 : elOf Tryz.prog 38 = some (1, 8) := by kernel_rfl
@[simp] theorem ze_38 : zeroOf Tryz.prog 38 = some [.d (.v .nilFunc)] := by kernel_rfl
@[simp] theorem ty_39 : tyOf Tryz.prog 39 = some ⟨1, .slice 47 3 (some true)⟩ := by kernel_rfl
@[simp] theorem el_39 : elOf Tryz.prog 39 = some (1, 24) := by kernel_rfl
@[simp] theorem ze_39 : zeroOf Tryz.prog 39 = some [.nils] := by kernel_rfl
@[simp] theorem ty_40 : tyOf Tryz.prog 40 = some ⟨3, .struct [⟨0, 1, (some false)⟩, ⟨1, 1, (some false)⟩, ⟨2, 1, (some false)⟩]⟩ := by kernel_rfl
@[simp] theorem el_40 : elOf Tryz.prog 40 = some (3, 72) := by kernel_rfl
@[simp] theorem ze_40 : zeroOf Tryz.prog 40 = some [.nils, .nils, .nils] := by kernel_rfl
@[simp] theorem ty_41 : tyOf Tryz.prog 41 = some ⟨3, .struct [⟨0, 1, (some false)⟩, ⟨1, 1, (some false)⟩, ⟨2, 1, (some false)⟩]⟩ := by kernel_rfl
@[simp] theorem el_41 : elOf Tryz.prog 41 = some (3, 72) := by kernel_rfl
@[simp] theorem ze_41 : zeroOf Tryz.prog 41 = some [.nils, .nils, .nils] := by kernel_rfl
@[simp] theorem ty_42 : tyOf Tryz.prog 42 = some ⟨1, .other⟩ := by kernel_rfl
@[simp] theorem el_42 : elOf Tryz.prog 42 = some (1, 0) := by kernel_rfl
@[simp] theorem ty_43 : tyOf Tryz.prog 43 = some ⟨1, .other⟩ := by kernel_rfl
@[simp] theorem el_43 : elOf Tryz.prog 43 = some (1, 8) := by kernel_rfl
@[simp] theorem ze_43 : zeroOf Tryz.prog 43 = some [.d (.v .nilFunc)] := by kernel_rfl
@[simp] theorem ty_44 : tyOf Tryz.prog 44 = some ⟨1, .other⟩ := by kernel_rfl
@[simp] theorem el_44 : elOf Tryz.prog 44 = some (1, 8) := by kernel_rfl
@[simp] theorem ze_44 : zeroOf Tryz.prog 44 = some [.d (.v .nilFunc)] := by kernel_rfl
@[simp] theorem ty_45 : tyOf Tryz.prog 45 = some ⟨1, .other⟩ := by kernel_rfl
@[simp] theorem el_45 : elOf Tryz.prog 45 = some (1, 8) := by kernel_rfl
@[simp] theorem ze_45 : zeroOf Tryz.prog 45 = some [.d (.v .nilFunc)] := by kernel_rfl
@[simp] theorem ty_46 : tyOf Tryz.prog 46 = some ⟨3, .struct [⟨0, 1, (some false)⟩, ⟨1, 1, (some false)⟩, ⟨2, 1, (some false)⟩]⟩ := by kernel_rfl
@[simp] theorem el_46 : elOf Tryz.prog 46 = some (3, 56) := by kernel_rfl
@[simp] theorem ze_46 : zeroOf Tryz.prog 46 = some [.d (.v (.bool false)), .nils, .nils] := by kernel_rfl
@[simp] theorem ty_47 : tyOf Tryz.prog 47 = some ⟨3, .struct [⟨0, 1, (some false)⟩, ⟨1, 1, (some false)⟩, ⟨2, 1, (some false)⟩]⟩ := by kernel_rfl
@[simp] theorem el_47 : elOf Tryz.prog 47 = some (3, 56) := by kernel_rfl
@[simp] theorem ze_47 : zeroOf Tryz.prog 47 = some [.d (.v (.bool false)), .nils, .nils] := by kernel_rfl
@[simp] theorem ty_48 : tyOf Tryz.prog 48 = some ⟨1, .other⟩ := by kernel_rfl
@[simp] theorem el_48 : elOf Tryz.prog 48 = some (1, 8) := by kernel_rfl
@[simp] theorem ze_48 : zeroOf Tryz.prog 48 = some [.d (.v .nilFunc)] := by kernel_rfl
@[simp] theorem ty_49 : tyOf Tryz.prog 49 = some ⟨1, .other⟩ := by kernel_rfl
@[simp] theorem el_49 : elOf Tryz.prog 49 = some (1, 8) := by kernel_rfl
@[simp] theorem ze_49 : zeroOf Tryz.prog 49 = some [.d (.v .nilFunc)] := by kernel_rfl
@[simp] theorem ty_50 : tyOf Tryz.prog 50 = some ⟨1, .other⟩ := by kernel_rfl
@[simp] theorem el_50 : elOf Tryz.prog 50 = some (1, 8) := by kernel_rfl
@[simp] theorem ze_50 : zeroOf Tryz.prog 50 = some [.d (.v .nilFunc)] := by kernel_rfl
@[simp] theorem ty_51 : tyOf Tryz.prog 51 = some ⟨1, .other⟩ := by kernel_rfl
@[simp] theorem el_51 : elOf Tryz.prog 51 = some (1, 8) := by kernel_rfl
@[simp] theorem ze_51 : zeroOf Tryz.prog 51 = some [.d (.v .nilFunc)] := by kernel_rfl
@[simp] theorem ty_52 : tyOf Tryz.prog 52 = some ⟨1, .slice 9 1 (some false)⟩ := by kernel_rfl
@[simp] theorem el_52 : elOf Tryz.prog 52 = some (1, 24) := by kernel_rfl
@[simp] theorem ze_52 : zeroOf Tryz.prog 52 = some [.nils] := by kernel_rfl
@[simp] theorem ty_53 : tyOf Tryz.prog 53 = some ⟨1, .other⟩ := by kernel_rfl
@[simp] theorem el_53 : elOf Tryz.prog 53 = some (1, 8) := by kernel_rfl
@[simp] theorem ze_53 : zeroOf Tryz.prog 53 = some [.d (.v .nilFunc)] := by kernel_rfl
@[simp] theorem ty_54 : tyOf Tryz.prog 54 = some ⟨1, .other⟩ := by kernel_rfl
@[simp] theorem el_54 : elOf Tryz.prog 54 = some (1, 8) := by kernel_rfl
@[simp] theorem ze_54 : zeroOf Tryz.prog 54 = some [.d (.v .nilFunc)] := by kernel_rfl
@[simp] theorem ty_55 : tyOf Tryz.prog 55 = some ⟨1, .other⟩ := by kernel_rfl
@[simp] theorem el_55 : elOf Tryz.prog 55 = some (1, 8) := by kernel_rfl
@[simp] theorem ze_55 : zeroOf Tryz.prog 55 = some [.d (.v (.map none))] := by kernel_rfl
@[simp] theorem ty_56 : tyOf Tryz.prog 56 = some ⟨1, .other⟩ := by kernel_rfl
@[simp] theorem el_56 : elOf Tryz.prog 56 = some (1, 8) := by kernel_rfl
@[simp] theorem ze_56 : zeroOf Tryz.prog 56 = some [.d (.v .nilFunc)] := by kernel_rfl
@[simp] theorem ty_57 : tyOf Tryz.prog 57 = some ⟨1, .other⟩ := by kernel_rfl
@[simp] theorem el_57 : elOf Tryz.prog 57 = some (1, 8) := by kernel_rfl
@[simp] theorem ze_57 : zeroOf Tryz.prog 57 = some [.d (.v .nilFunc)] := by kernel_rfl
@[simp] theorem ty_58 : tyOf Tryz.prog 58 = some ⟨1, .other⟩ := by kernel_rfl
@[simp] theorem el_58 : elOf Tryz.prog 58 = some (1, 8) := by kernel_rfl
@[simp] theorem ze_58 : zeroOf Tryz.prog 58 = some [.d (.v .nilFunc)] := by kernel_rfl
@[simp] theorem ty_59 : tyOf Tryz.prog 59 = some ⟨1, .other⟩ := by kernel_rfl
@[simp] theorem el_59 : elOf Tryz.prog 59 = some (1, 8) := by kernel_rfl
@[simp] theorem ze_59 : zeroOf Tryz.prog 59 = some [.d (.v .nilFunc)] := by kernel_rfl
@[simp] theorem ty_60 : tyOf Tryz.prog 60 = some ⟨1, .other⟩ := by kernel_rfl
@[simp] theorem el_60 : elOf Tryz.prog 60 = some (1, 8) := by kernel_rfl
@[simp] theorem ze_60 : zeroOf Tryz.prog 60 = some [.d (.v .nilFunc)] := by kernel_rfl
@[simp] theorem ty_61 : tyOf Tryz.prog 61 = some ⟨1, .other⟩ := by kernel_rfl
@[simp] theorem el_61 : elOf Tryz.prog 61 = some (1, 8) := by kernel_rfl
@[simp] theorem ze_61 : zeroOf Tryz.prog 61 = some [.d (.v .nilFunc)] := by kernel_rfl
@[simp] theorem ty_62 : tyOf Tryz.prog 62 = some ⟨1, .other⟩ := by kernel_rfl
@[simp] theorem el_62 : elOf Tryz.prog 62 = some (1, 8) := by kernel_rfl
@[simp] theorem ze_62 : zeroOf Tryz.prog 62 = some [.d (.v .nilFunc)] := by kernel_rfl
@[simp] theorem ty_63 : tyOf Tryz.prog 63 = some ⟨1, .other⟩ := by kernel_rfl
@[simp] theorem el_63 : elOf Tryz.prog 63 = some (1, 8) := by kernel_rfl
@[simp] theorem ze_63 : zeroOf Tryz.prog 63 = some [.d (.v .nilFunc)] := by kernel_rfl
@[simp] theorem ty_64 : tyOf Tryz.prog 64 = some ⟨1, .other⟩ := by kernel_rfl
@[simp] theorem el_64 : elOf Tryz.prog 64 = some (1, 8) := by kernel_rfl
@[simp] theorem ze_64 : zeroOf Tryz.prog 64 = some [.d (.v .nilFunc)] := by kernel_rfl
@[simp] theorem ty_65 : tyOf Tryz.prog 65 = some ⟨1, .other⟩ := by kernel_rfl
@[simp] theorem el_65 : elOf Tryz.prog 65 = some (1, 8) := by kernel_rfl
@[simp] theorem ze_65 : zeroOf Tryz.prog 65 = some [.d (.v .nilFunc)] := by kernel_rfl
@[simp] theorem ty_66 : tyOf Tryz.prog 66 = some ⟨1, .other⟩ := by kernel_rfl
@[simp] theorem el_66 : elOf Tryz.prog 66 = some (1, 8) := by kernel_rfl
@[simp] theorem ze_66 : zeroOf Tryz.prog 66 = some [.d (.v .nilFunc)] := by kernel_rfl
@[simp] theorem ty_67 : tyOf Tryz.prog 67 = some ⟨1, .slice 91 3 (some true)⟩ := by kernel_rfl
@[simp] theorem el_67 : elOf Tryz.prog 67 = some (1, 24) := by kernel_rfl
@[simp] theorem ze_67 : zeroOf Tryz.prog 67 = some [.nils] := by kernel_rfl
@[simp] theorem ty_68 : tyOf Tryz.prog 68 = some ⟨3, .struct [⟨0, 1, (some false)⟩, ⟨1, 1, (some false)⟩, ⟨2, 1, (some false)⟩]⟩ := by kernel_rfl
@[simp] theorem el_68 : elOf Tryz.prog 68 = some (3, 72) := by kernel_rfl
@[simp] theorem ze_68 : zeroOf Tryz.prog 68 = some [.nils, .nils, .nils] := by kernel_rfl
@[simp] theorem ty_69 : tyOf Tryz.prog 69 = some ⟨3, .struct [⟨0, 1, (some false)⟩, ⟨1, 1, (some false)⟩, ⟨2, 1, (some false)⟩]⟩ := by kernel_rfl
@[simp] theorem el_69 : elOf Tryz.prog 69 = some (3, 72) := by kernel_rfl
@[simp] theorem ze_69 : zeroOf Tryz.prog 69 = some [.nils, .nils, .nils] := by kernel_rfl
@[simp] theorem ty_70 : tyOf Tryz.prog 70 = some ⟨1, .other⟩ := by kernel_rfl
@[simp] theorem el_70 : elOf Tryz.prog 70 = some (1, 8) := by kernel_rfl
@[simp] theorem ze_70 : zeroOf Tryz.prog 70 = some [.d (.v .nilFunc)] := by kernel_rfl
@[simp] theorem ty_71 : tyOf Tryz.prog 71 = some ⟨1, .other⟩ := by kernel_rfl
@[simp] theorem el_71 : elOf Tryz.prog 71 = some (1, 8) := by kernel_rfl
@[simp] theorem ze_71 : zeroOf Tryz.prog 71 = some [.d (.v .nilFunc)] := by kernel_rfl
@[simp] theorem ty_72 : tyOf Tryz.prog 72 = some ⟨1, .other⟩ := by kernel_rfl
@[simp] theorem el_72 : elOf Tryz.prog 72 = some (1, 8) := by kernel_rfl
@[simp] theorem ze_72 : zeroOf Tryz.prog 72 = some [.d (.v .nilFunc)] := by kernel_rfl
@[simp] theorem ty_73 : tyOf Tryz.prog 73 = some ⟨1, .other⟩ := by kernel_rfl
@[simp] theorem el_73 : elOf Tryz.prog 73 = some (1, 8) := by kernel_rfl
@[simp] theorem ze_73 : zeroOf Tryz.prog 73 = some [.d (.v .nilFunc)] := by kernel_rfl
@[simp] theorem ty_74 : tyOf Tryz.prog 74 = some ⟨1, .other⟩ := by kernel_rfl
@[simp] theorem el_74 : elOf Tryz.prog 74 = some (1, 8) := by kernel_rfl
@[simp] theorem ze_74 : zeroOf Tryz.prog 74 = some [.d (.v .nilFunc)] := by kernel_rfl
@[simp] theorem ty_75 : tyOf Tryz.prog 75 = some ⟨1, .other⟩ := by kernel_rfl
@[simp] theorem el_75 : elOf Tryz.prog 75 = some (1, 8) := by kernel_rfl
@[simp] theorem ze_75 : zeroOf Tryz.prog 75 = some [.d (.v .nilFunc)] := by kernel_rfl
@[simp] theorem ty_76 : tyOf Tryz.prog 76 = some ⟨1, .other⟩ := by kernel_rfl
@[simp] theorem el_76 : elOf Tryz.prog 76 = some (1, 8) := by kernel_rfl
@[simp] theorem ze_76 : zeroOf Tryz.prog 76 = some [.d (.v .nilFunc)] := by kernel_rfl
@[simp] theorem ty_77 : tyOf Tryz.prog 77 = some ⟨1, .slice 22 1 (some false)⟩ := by kernel_rfl
@[simp] theorem el_77 : elOf Tryz.prog 77 = some (1, 24) := by kernel_rfl
@[simp] theorem ze_77 : zeroOf Tryz.prog 77 = some [.nils] := by kernel_rfl
@[simp] theorem ty_78 : tyOf Tryz.prog 78 = some ⟨1, .other⟩ := by kernel_rfl
@[simp] theorem el_78 : elOf Tryz.prog 78 = some (1, 8) := by kernel_rfl
@[simp] theorem ze_78 : zeroOf Tryz.prog 78 = some [.d (.v .nilFunc)] := by kernel_rfl
@[simp] theorem ty_79 : tyOf Tryz.prog 79 = some ⟨1, .other⟩ := by kernel_rfl
@[simp] theorem el_79 : elOf Tryz.prog 79 = some (1, 8) := by kernel_rfl
@[simp] theorem ze_79 : zeroOf Tryz.prog 79 = some [.d (.v .nilFunc)] := by kernel_rfl
@[simp] theorem ty_80 : tyOf Tryz.prog 80 = some ⟨1, .other⟩ := by kernel_rfl
@[simp] theorem el_80 : elOf Tryz.prog 80 = some (1, 8) := by kernel_rfl
@[simp] theorem ze_80 : zeroOf Tryz.prog 80 = some [.d (.v .nilFunc)] := by kernel_rfl
@[simp] theorem ty_81 : tyOf Tryz.prog 81 = some ⟨1, .other⟩ := by kernel_rfl
@[simp] theorem el_81 : elOf Tryz.prog 81 = some (1, 8) := by kernel_rfl
@[simp] theorem ze_81 : zeroOf Tryz.prog 81 = some [.d (.v .nilFunc)] := by kernel_rfl
@[simp] theorem ty_82 : tyOf Tryz.prog 82 = some ⟨1, .other⟩ := by kernel_rfl
@[simp] theorem el_82 : elOf Tryz.prog 82 = some (1, 0) := by kernel_rfl
@[simp] theorem ty_83 : tyOf Tryz.prog 83 = some ⟨1, .other⟩ := by kernel_rfl
@[simp] theorem el_83 : elOf Tryz.prog 83 = some (1, 8) := by kernel_rfl
@[simp] theorem ze_83 : zeroOf Tryz.prog 83 = some [.d (.v .nilFunc)] := by kernel_rfl
@[simp] theorem ty_84 : tyOf Tryz.prog 84 = some ⟨1, .other⟩ := by kernel_rfl
@[simp] theorem el_84 : elOf Tryz.prog 84 = some (1, 0) := by kernel_rfl
@[simp] theorem ty_85 : tyOf Tryz.prog 85 = some ⟨1, .other⟩ := by kernel_rfl
@[simp] theorem el_85 : elOf Tryz.prog 85 = some (1, 8) := by kernel_rfl
@[simp] theorem ze_85 : zeroOf Tryz.prog 85 = some [.d (.v .nilFunc)] := by kernel_rfl
@[simp] theorem ty_86 : tyOf Tryz.prog 86 = some ⟨1, .other⟩ := by kernel_rfl
@[simp] theorem el_86 : elOf Tryz.prog 86 = some (1, 8) := by kernel_rfl
@[simp] theorem ze_86 : zeroOf Tryz.prog 86 = some [.d (.v .nilFunc)] := by kernel_rfl
@[simp] theorem ty_87 : tyOf Tryz.prog 87 = some ⟨1, .other⟩ := by kernel_rfl
@[simp] theorem el_87 : elOf Tryz.prog 87 = some (1, 8) := by kernel_rfl
@[simp] theorem ze_87 : zeroOf Tryz.prog 87 = some [.d (.v .nilFunc)] := by kernel_rfl
@[simp] theorem ty_88 : tyOf Tryz.prog 88 = some ⟨1, .other⟩ := by kernel_rfl
@[simp] theorem el_88 : elOf Tryz.prog 88 = some (1, 8) := by kernel_rfl
@[simp] theorem ze_88 : zeroOf Tryz.prog 88 = some [.d (.v .nilFunc)] := by kernel_rfl
@[simp] theorem ty_89 : tyOf Tryz.prog 89 = some ⟨1, .other⟩ := by kernel_rfl
@[simp] theorem el_89 : elOf Tryz.prog 89 = some (1, 8) := by kernel_rfl
@[simp] theorem ze_89 : zeroOf Tryz.prog 89 = some [.d (.v .nilFunc)] := by kernel_rfl
@[simp] theorem ty_90 : tyOf Tryz.prog 90 = some ⟨1, .other⟩ := by kernel_rfl
@[simp] theorem el_90 : elOf Tryz.prog 90 = some (1, 8) := by kernel_rfl
@[simp] theorem ze_90 : zeroOf Tryz.prog 90 = some [.d (.v .nilFunc)] := by kernel_rfl
@[simp] theorem ty_91 : tyOf Tryz.prog 91 = some ⟨3, .struct [⟨0, 1, (some false)⟩, ⟨1, 1, (some false)⟩, ⟨2, 1, (some false)⟩]⟩ := by kernel_rfl
@[simp] theorem el_91 : elOf Tryz.prog 91 = some (3, 56) := by kernel_rfl
@[simp] theorem ze_91 : zeroOf Tryz.prog 91 = some [.d (.v (.bool false)), .nils, .nils] := by kernel_rfl
@[simp] theorem ty_92 : tyOf Tryz.prog 92 = some ⟨1, .other⟩ := by kernel_rfl
@[simp] theorem el_92 : elOf Tryz.prog 92 = some (1, 0) := by kernel_rfl
@[simp] theorem ty_93 : tyOf Tryz.prog 93 = some ⟨1, .other⟩ := by kernel_rfl
@[simp] theorem el_93 : elOf Tryz.prog 93 = some (1, 8) := by kernel_rfl
@[simp] theorem ze_93 : zeroOf Tryz.prog 93 = some [.d (.v .nilFunc)] := by kernel_rfl
@[simp] theorem ty_94 : tyOf Tryz.prog 94 = some ⟨1, .other⟩ := by kernel_rfl
@[simp] theorem el_94 : elOf Tryz.prog 94 = some (1, 8) := by kernel_rfl
@[simp] theorem ze_94 : zeroOf Tryz.prog 94 = some [.d (.v .nilFunc)] := by kernel_rfl
@[simp] theorem ty_95 : tyOf Tryz.prog 95 = some ⟨1, .other⟩ := by kernel_rfl
@[simp] theorem el_95 : elOf Tryz.prog 95 = some (1, 8) := by kernel_rfl
@[simp] theorem ze_95 : zeroOf Tryz.prog 95 = some [.d (.v .nilFunc)] := by kernel_rfl
@[simp] theorem ty_96 : tyOf Tryz.prog 96 = some ⟨1, .other⟩ := by kernel_rfl
@[simp] theorem el_96 : elOf Tryz.prog 96 = some (1, 8) := by kernel_rfl
@[simp] theorem ze_96 : zeroOf Tryz.prog 96 = some [.d (.v .nilFunc)] := by kernel_rfl
@[simp] theorem ty_97 : tyOf Tryz.prog 97 = some ⟨1, .other⟩ := by kernel_rfl
@[simp] theorem el_97 : elOf Tryz.prog 97 = some (1, 8) := by kernel_rfl
@[simp] theorem ze_97 : zeroOf Tryz.prog 97 = some [.d (.v .nilFunc)] := by kernel_rfl
@[simp] theorem ty_98 : tyOf Tryz.prog 98 = some ⟨1, .other⟩ := by kernel_rfl
@[simp] theorem el_98 : elOf Tryz.prog 98 = some (1, 8) := by kernel_rfl
@[simp] theorem ze_98 : zeroOf Tryz.prog 98 = some [.d (.v .nilFunc)] := by kernel_rfl
@[simp] theorem ty_99 : tyOf Tryz.prog 99 = some ⟨1, .other⟩ := by kernel_rfl
@[simp] theorem el_99 : elOf Tryz.prog 99 = some (1, 8) := by kernel_rfl
@[simp] theorem ze_99 : zeroOf Tryz.prog 99 = some [.d (.v .nilFunc)] := by kernel_rfl
@[simp] theorem ty_100 : tyOf Tryz.prog 100 = some ⟨1, .other⟩ := by kernel_rfl
@[simp] theorem el_100 : elOf Tryz.prog 100 = some (1, 8) := by kernel_rfl
@[simp] theorem ze_100 : zeroOf Tryz.prog 100 = some [.d (.v .nilFunc)] := by kernel_rfl
@[simp] theorem ty_101 : tyOf Tryz.prog 101 = some ⟨1, .other⟩ := by kernel_rfl
@[simp] theorem el_101 : elOf Tryz.prog 101 = some (1, 8) := by kernel_rfl
@[simp] theorem ze_101 : zeroOf Tryz.prog 101 = some [.d (.v .nilFunc)] := by kernel_rfl
@[simp] theorem ty_102 : tyOf Tryz.prog 102 = some ⟨1, .other⟩ := by kernel_rfl
@[simp] theorem el_102 : elOf Tryz.prog 102 = some (1, 8) := by kernel_rfl
@[simp] theorem ze_102 : zeroOf Tryz.prog 102 = some [.d (.v .nilFunc)] := by kernel_rfl
@[simp] theorem ty_103 : tyOf Tryz.prog 103 = some ⟨1, .other⟩ := by kernel_rfl
@[simp] theorem el_103 : elOf Tryz.prog 103 = some (1, 8) := by kernel_rfl
@[simp] theorem ze_103 : zeroOf Tryz.prog 103 = some [.d (.v .nilFunc)] := by kernel_rfl
@[simp] theorem ty_104 : tyOf Tryz.prog 104 = some ⟨1, .other⟩ := by kernel_rfl
@[simp] theorem el_104 : elOf Tryz.prog 104 = some (1, 0) := by kernel_rfl
@[simp] theorem ty_105 : tyOf Tryz.prog 105 = some ⟨1, .other⟩ := by kernel_rfl
@[simp] theorem el_105 : elOf Tryz.prog 105 = some (1, 8) := by kernel_rfl
@[simp] theorem ze_105 : zeroOf Tryz.prog 105 = some [.d (.v .nilFunc)] := by kernel_rfl
@[simp] theorem ty_106 : tyOf Tryz.prog 106 = some ⟨1, .other⟩ := by kernel_rfl
@[simp] theorem el_106 : elOf Tryz.prog 106 = some (1, 0) := by kernel_rfl
@[simp] theorem ty_107 : tyOf Tryz.prog 107 = some ⟨1, .other⟩ := by kernel_rfl
@[simp] theorem el_107 : elOf Tryz.prog 107 = some (1, 8) := by kernel_rfl
@[simp] theorem ze_107 : zeroOf Tryz.prog 107 = some [.d (.v .nilFunc)] := by kernel_rfl
@[simp] theorem ty_108 : tyOf Tryz.prog 108 = some ⟨9, .array 9 1 (some false)⟩ := by kernel_rfl
@[simp] theorem el_108 : elOf Tryz.prog 108 = some (9, 72) := by kernel_rfl
@[simp] theorem ze_108 : zeroOf Tryz.prog 108 = some [.d (.v (.int .i64 0)), .d (.v (.int .i64 0)), .d (.v (.int .i64 0)), .d (.v (.int .i64 0)), .d (.v (.int .i64 0)), .d (.v (.int .i64 0)), .d (.v (.int .i64 0)), .d (.v (.int .i64 0)), .d (.v (.int .i64 0))] := by kernel_rfl
@[simp] theorem ty_109 : tyOf Tryz.prog 109 = some ⟨1, .other⟩ := by kernel_rfl
@[simp] theorem el_109 : elOf Tryz.prog 109 = some (1, 8) := by kernel_rfl
@[simp] theorem ze_109 : zeroOf Tryz.prog 109 = some [.d (.v .nilFunc)] := by kernel_rfl
@[simp] theorem ty_110 : tyOf Tryz.prog 110 = some ⟨1, .other⟩ := by kernel_rfl
@[simp] theorem el_110 : elOf Tryz.prog 110 = some (1, 0) := by kernel_rfl
@[simp] theorem ty_111 : tyOf Tryz.prog 111 = some ⟨1, .other⟩ := by kernel_rfl
@[simp] theorem el_111 : elOf Tryz.prog 111 = some (1, 8) := by kernel_rfl
@[simp] theorem ze_111 : zeroOf Tryz.prog 111 = some [.d (.v .nilFunc)] := by kernel_rfl
@[simp] theorem ty_112 : tyOf Tryz.prog 112 = some ⟨1, .int .u64⟩ := by kernel_rfl
@[simp] theorem el_112 : elOf Tryz.prog 112 = some (1, 8) := by kernel_rfl
@[simp] theorem ze_112 : zeroOf Tryz.prog 112 = some [.d (.v (.int .u64 0))] := by kernel_rfl
@[simp] theorem ty_113 : tyOf Tryz.prog 113 = some ⟨1, .other⟩ := by kernel_rfl
@[simp] theorem el_113 : elOf Tryz.prog 113 = some (1, 8) := by kernel_rfl
@[simp] theorem ze_113 : zeroOf Tryz.prog 113 = some [.d (.v .nilFunc)] := by kernel_rfl
@[simp] theorem ty_114 : tyOf Tryz.prog 114 = some ⟨1, .other⟩ := by kernel_rfl
@[simp] theorem el_114 : elOf Tryz.prog 114 = some (1, 8) := by kernel_rfl
@[simp] theorem ze_114 : zeroOf Tryz.prog 114 = some [.d (.v .nilFunc)] := by kernel_rfl
@[simp] theorem ty_115 : tyOf Tryz.prog 115 = some ⟨1, .other⟩ := by kernel_rfl
@[simp] theorem el_115 : elOf Tryz.prog 115 = some (1, 8) := by kernel_rfl
@[simp] theorem ze_115 : zeroOf Tryz.prog 115 = some [.d (.v .nilFunc)] := by kernel_rfl
@[simp] theorem ty_116 : tyOf Tryz.prog 116 = some ⟨1, .other⟩ := by kernel_rfl
@[simp] theorem el_116 : elOf Tryz.prog 116 = some (1, 8) := by kernel_rfl
@[simp] theorem ze_116 : zeroOf Tryz.prog 116 = some [.d (.v .nilFunc)] := by kernel_rfl
@[simp] theorem ty_117 : tyOf Tryz.prog 117 = some ⟨1, .other⟩ := by kernel_rfl
@[simp] theorem el_117 : elOf Tryz.prog 117 = some (1, 8) := by kernel_rfl
@[simp] theorem ze_117 : zeroOf Tryz.prog 117 = some [.d (.v .nilFunc)] := by kernel_rfl
@[simp] theorem ty_118 : tyOf Tryz.prog 118 = some ⟨1, .slice 5 1 (some false)⟩ := by kernel_rfl
@[simp] theorem el_118 : elOf Tryz.prog 118 = some (1, 24) := by kernel_rfl
@[simp] theorem ze_118 : zeroOf Tryz.prog 118 = some [.nils] := by kernel_rfl
@[simp] theorem ty_119 : tyOf Tryz.prog 119 = some ⟨1, .other⟩ := by kernel_rfl
@[simp] theorem el_119 : elOf Tryz.prog 119 = some (1, 8) := by kernel_rfl
@[simp] theorem ze_119 : zeroOf Tryz.prog 119 = some [.d (.v .nilFunc)] := by kernel_rfl
@[simp] theorem ty_120 : tyOf Tryz.prog 120 = some ⟨1, .other⟩ := by kernel_rfl
@[simp] theorem el_120 : elOf Tryz.prog 120 = some (1, 8) := by kernel_rfl
@[simp] theorem ze_120 : zeroOf Tryz.prog 120 = some [.d (.v .nilFunc)] := by kernel_rfl
@[simp] theorem ty_121 : tyOf Tryz.prog 121 = some ⟨1, .int .i64⟩ := by kernel_rfl
@[simp] theorem el_121 : elOf Tryz.prog 121 = some (1, 8) := by kernel_rfl
@[simp] theorem ze_121 : zeroOf Tryz.prog 121 = some [.d (.v (.int .i64 0))] := by kernel_rfl
@[simp] theorem ty_122 : tyOf Tryz.prog 122 = some ⟨1, .other⟩ := by kernel_rfl
@[simp] theorem el_122 : elOf Tryz.prog 122 = some (1, 0) := by kernel_rfl
@[simp] theorem ty_123 : tyOf Tryz.prog 123 = some ⟨1, .other⟩ := by kernel_rfl
@[simp] theorem el_123 : elOf Tryz.prog 123 = some (1, 8) := by kernel_rfl
@[simp] theorem ze_123 : zeroOf Tryz.prog 123 = some [.d (.v .nilFunc)] := by kernel_rfl
@[simp] theorem ty_124 : tyOf Tryz.prog 124 = some ⟨1, .other⟩ := by kernel_rfl
@[simp] theorem el_124 : elOf Tryz.prog 124 = some (1, 8) := by kernel_rfl
@[simp] theorem ze_124 : zeroOf Tryz.prog 124 = some [.d (.v .nilFunc)] := by kernel_rfl
@[simp] theorem ty_125 : tyOf Tryz.prog 125 = some ⟨1, .other⟩ := by kernel_rfl
@[simp] theorem el_125 : elOf Tryz.prog 125 = some (1, 8) := by kernel_rfl
@[simp] theorem ze_125 : zeroOf Tryz.prog 125 = some [.d (.v .nilFunc)] := by kernel_rfl
@[simp] theorem ty_126 : tyOf Tryz.prog 126 = some ⟨1, .other⟩ := by kernel_rfl
@[simp] theorem el_126 : elOf Tryz.prog 126 = some (1, 8) := by kernel_rfl
@[simp] theorem ze_126 : zeroOf Tryz.prog 126 = some [.d (.v .nilFunc)] := by kernel_rfl
@[simp] theorem ty_127 : tyOf Tryz.prog 127 = some ⟨1, .other⟩ := by kernel_rfl
@[simp] theorem el_127 : elOf Tryz.prog 127 = some (1, 0) := by kernel_rfl
@[simp] theorem ty_128 : tyOf Tryz.prog 128 = some ⟨1, .other⟩ := by kernel_rfl
@[simp] theorem el_128 : elOf Tryz.prog 128 = some (1, 8) := by kernel_rfl
@[simp] theorem ze_128 : zeroOf Tryz.prog 128 = some [.d (.v .nilFunc)] := by kernel_rfl
@[simp] theorem ty_129 : tyOf Tryz.prog 129 = some ⟨1, .other⟩ := by kernel_rfl
@[simp] theorem el_129 : elOf Tryz.prog 129 = some (1, 8) := by kernel_rfl
@[simp] theorem ze_129 : zeroOf Tryz.prog 129 = some [.d (.v .nilFunc)] := by kernel_rfl
@[simp] theorem ty_130 : tyOf Tryz.prog 130 = some ⟨1, .int .u32⟩ := by kernel_rfl
@[simp] theorem el_130 : elOf Tryz.prog 130 = some (1, 4) := by kernel_rfl
@[simp] theorem ze_130 : zeroOf Tryz.prog 130 = some [.d (.v (.int .u32 0))] := by kernel_rfl
@[simp] theorem ty_131 : tyOf Tryz.prog 131 = some ⟨1, .other⟩ := by kernel_rfl
@[simp] theorem el_131 : elOf Tryz.prog 131 = some (1, 8) := by kernel_rfl
@[simp] theorem ze_131 : zeroOf Tryz.prog 131 = some [.d (.v .nilFunc)] := by kernel_rfl
@[simp] theorem ty_132 : tyOf Tryz.prog 132 = some ⟨1, .int .u64⟩ := by kernel_rfl
@[simp] theorem el_132 : elOf Tryz.prog 132 = some (1, 8) := by kernel_rfl
@[simp] theorem ze_132 : zeroOf Tryz.prog 132 = some [.d (.v (.int .u64 0))] := by kernel_rfl
@[simp] theorem ty_133 : tyOf Tryz.prog 133 = some ⟨1, .int .u64⟩ := by kernel_rfl
@[simp] theorem el_133 : elOf Tryz.prog 133 = some (1, 8) := by kernel_rfl
@[simp] theorem ze_133 : zeroOf Tryz.prog 133 = some [.d (.v (.int .u64 0))] := by kernel_rfl
@[simp] theorem ty_134 : tyOf Tryz.prog 134 = some ⟨1, .other⟩ := by kernel_rfl
@[simp] theorem el_134 : elOf Tryz.prog 134 = some (1, 8) := by kernel_rfl
@[simp] theorem ze_134 : zeroOf Tryz.prog 134 = some [.d (.v .nilFunc)] := by kernel_rfl
@[simp] theorem ty_135 : tyOf Tryz.prog 135 = some ⟨1, .other⟩ := by kernel_rfl
@[simp] theorem el_135 : elOf Tryz.prog 135 = some (1, 8) := by kernel_rfl
@[simp] theorem ze_135 : zeroOf Tryz.prog 135 = some [.d (.v .nilFunc)] := by kernel_rfl
@[simp] theorem ty_136 : tyOf Tryz.prog 136 = some ⟨1, .other⟩ := by kernel_rfl
@[simp] theorem el_136 : elOf Tryz.prog 136 = some (1, 8) := by kernel_rfl
@[simp] theorem ze_136 : zeroOf Tryz.prog 136 = some [.d (.v .nilFunc)] := by kernel_rfl
@[simp] theorem ty_137 : tyOf Tryz.prog 137 = some ⟨1, .other⟩ := by kernel_rfl
@[simp] theorem el_137 : elOf Tryz.prog 137 = some (1, 8) := by kernel_rfl
@[simp] theorem ze_137 : zeroOf Tryz.prog 137 = some [.d (.v (.pointer none))] := by kernel_rfl
@[simp] theorem ty_138 : tyOf Tryz.prog 138 = some ⟨1, .other⟩ := by kernel_rfl
@[simp] theorem el_138 : elOf Tryz.prog 138 = some (1, 8) := by kernel_rfl
@[simp] theorem ze_138 : zeroOf Tryz.prog 138 = some [.d (.v .nilFunc)] := by kernel_rfl
@[simp] theorem ty_139 : tyOf Tryz.prog 139 = some ⟨1, .other⟩ := by kernel_rfl
@[simp] theorem el_139 : elOf Tryz.prog 139 = some (1, 8) := by kernel_rfl
@[simp] theorem ze_139 : zeroOf Tryz.prog 139 = some [.d (.v (.pointer none))] := by kernel_rfl
@[simp] theorem ty_140 : tyOf Tryz.prog 140 = some ⟨1, .other⟩ := by kernel_rfl
@[simp] theorem el_140 : elOf Tryz.prog 140 = some (1, 8) := by kernel_rfl
@[simp] theorem ze_140 : zeroOf Tryz.prog 140 = some [.d (.v .nilFunc)] := by kernel_rfl
@[simp] theorem ty_141 : tyOf Tryz.prog 141 = some ⟨1, .other⟩ := by kernel_rfl
@[simp] theorem el_141 : elOf Tryz.prog 141 = some (1, 8) := by kernel_rfl
@[simp] theorem ze_141 : zeroOf Tryz.prog 141 = some [.d (.v .nilFunc)] := by kernel_rfl
@[simp] theorem ty_142 : tyOf Tryz.prog 142 = some ⟨4, .struct [⟨0, 1, (some false)⟩, ⟨1, 1, (some false)⟩, ⟨2, 1, (some false)⟩, ⟨3, 1, (some false)⟩]⟩ := by kernel_rfl
@[simp] theorem el_142 : elOf Tryz.prog 142 = some (4, 40) := by kernel_rfl
@[simp] theorem ze_142 : zeroOf Tryz.prog 142 = some [.d (.v (.pointer none)), .d (.v (.pointer none)), .d (.v (.pointer none)), .d (.v (.string ByteArray.empty))] := by kernel_rfl
@[simp] theorem ty_143 : tyOf Tryz.prog 143 = some ⟨4, .struct [⟨0, 1, (some false)⟩, ⟨1, 1, (some false)⟩, ⟨2, 1, (some false)⟩, ⟨3, 1, (some false)⟩]⟩ := by kernel_rfl
@[simp] theorem el_143 : elOf Tryz.prog 143 = some (4, 40) := by kernel_rfl
@[simp] theorem ze_143 : zeroOf Tryz.prog 143 = some [.d (.v (.pointer none)), .d (.v (.pointer none)), .d (.v (.pointer none)), .d (.v (.string ByteArray.empty))] := by kernel_rfl
@[simp] theorem ty_144 : tyOf Tryz.prog 144 = some ⟨0, .array 0 1 (some false)⟩ := by kernel_rfl
@[simp] theorem el_144 : elOf Tryz.prog 144 = some (0, 0) := by kernel_rfl
@[simp] theorem ze_144 : zeroOf Tryz.prog 144 = some [] := by kernel_rfl
@[simp] theorem ty_145 : tyOf Tryz.prog 145 = some ⟨0, .struct [⟨0, 0, (some true)⟩]⟩ := by kernel_rfl
@[simp] theorem el_145 : elOf Tryz.prog 145 = some (0, 0) := by kernel_rfl
@[simp] theorem ze_145 : zeroOf Tryz.prog 145 = some [] := by kernel_rfl
@[simp] theorem ty_146 : tyOf Tryz.prog 146 = some ⟨0, .struct [⟨0, 0, (some true)⟩]⟩ := by kernel_rfl
@[simp] theorem el_146 : elOf Tryz.prog 146 = some (0, 0) := by kernel_rfl
@[simp] theorem ze_146 : zeroOf Tryz.prog 146 = some [] := by kernel_rfl
@[simp] theorem ty_147 : tyOf Tryz.prog 147 = some ⟨1, .other⟩ := by kernel_rfl
@[simp] theorem el_147 : elOf Tryz.prog 147 = some (1, 8) := by kernel_rfl
@[simp] theorem ze_147 : zeroOf Tryz.prog 147 = some [.d (.v .nilFunc)] := by kernel_rfl
@[simp] theorem ty_148 : tyOf Tryz.prog 148 = some ⟨1, .int .u8⟩ := by kernel_rfl
@[simp] theorem el_148 : elOf Tryz.prog 148 = some (1, 1) := by kernel_rfl
@[simp] theorem ze_148 : zeroOf Tryz.prog 148 = some [.d (.v (.int .u8 0))] := by kernel_rfl
@[simp] theorem ty_149 : tyOf Tryz.prog 149 = some ⟨1, .int .u8⟩ := by kernel_rfl
@[simp] theorem el_149 : elOf Tryz.prog 149 = some (1, 1) := by kernel_rfl
@[simp] theorem ze_149 : zeroOf Tryz.prog 149 = some [.d (.v (.int .u8 0))] := by kernel_rfl
@[simp] theorem ty_150 : tyOf Tryz.prog 150 = some ⟨1, .other⟩ := by kernel_rfl
@[simp] theorem el_150 : elOf Tryz.prog 150 = some (1, 8) := by kernel_rfl
@[simp] theorem ze_150 : zeroOf Tryz.prog 150 = some [.d (.v .nilFunc)] := by kernel_rfl
@[simp] theorem ty_151 : tyOf Tryz.prog 151 = some ⟨1, .other⟩ := by kernel_rfl
@[simp] theorem el_151 : elOf Tryz.prog 151 = some (1, 8) := by kernel_rfl
@[simp] theorem ze_151 : zeroOf Tryz.prog 151 = some [.d (.v (.pointer none))] := by kernel_rfl
@[simp] theorem ty_152 : tyOf Tryz.prog 152 = some ⟨1, .int .i32⟩ := by kernel_rfl
@[simp] theorem el_152 : elOf Tryz.prog 152 = some (1, 4) := by kernel_rfl
@[simp] theorem ze_152 : zeroOf Tryz.prog 152 = some [.d (.v (.int .i32 0))] := by kernel_rfl
@[simp] theorem ty_153 : tyOf Tryz.prog 153 = some ⟨1, .int .i32⟩ := by kernel_rfl
@[simp] theorem el_153 : elOf Tryz.prog 153 = some (1, 4) := by kernel_rfl
@[simp] theorem ze_153 : zeroOf Tryz.prog 153 = some [.d (.v (.int .i32 0))] := by kernel_rfl
@[simp] theorem ty_154 : tyOf Tryz.prog 154 = some ⟨11, .struct [⟨0, 1, (some false)⟩, ⟨1, 1, (some false)⟩, ⟨2, 1, (some false)⟩, ⟨3, 1, (some false)⟩, ⟨4, 1, (some false)⟩, ⟨5, 1, (some false)⟩, ⟨6, 1, (some false)⟩, ⟨7, 1, (some false)⟩, ⟨8, 1, (some false)⟩, ⟨9, 1, (some false)⟩, ⟨10, 1, (some false)⟩]⟩ := by kernel_rfl
@[simp] theorem el_154 : elOf Tryz.prog 154 = some (11, 48) := by kernel_rfl
@[simp] theorem ze_154 : zeroOf Tryz.prog 154 = some [.d (.v (.int .u64 0)), .d (.v (.int .u64 0)), .d (.v (.int .u32 0)), .d (.v (.int .u8 0)), .d (.v (.int .u8 0)), .d (.v (.int .u8 0)), .d (.v (.int .u8 0)), .d (.v .nilFunc), .d (.v (.pointer none)), .d (.v (.int .i32 0)), .d (.v (.int .i32 0))] := by kernel_rfl
@[simp] theorem ty_155 : tyOf Tryz.prog 155 = some ⟨11, .struct [⟨0, 1, (some false)⟩, ⟨1, 1, (some false)⟩, ⟨2, 1, (some false)⟩, ⟨3, 1, (some false)⟩, ⟨4, 1, (some false)⟩, ⟨5, 1, (some false)⟩, ⟨6, 1, (some false)⟩, ⟨7, 1, (some false)⟩, ⟨8, 1, (some false)⟩, ⟨9, 1, (some false)⟩, ⟨10, 1, (some false)⟩]⟩ := by kernel_rfl
@[simp] theorem el_155 : elOf Tryz.prog 155 = some (11, 48) := by kernel_rfl
@[simp] theorem ze_155 : zeroOf Tryz.prog 155 = some [.d (.v (.int .u64 0)), .d (.v (.int .u64 0)), .d (.v (.int .u32 0)), .d (.v (.int .u8 0)), .d (.v (.int .u8 0)), .d (.v (.int .u8 0)), .d (.v (.int .u8 0)), .d (.v .nilFunc), .d (.v (.pointer none)), .d (.v (.int .i32 0)), .d (.v (.int .i32 0))] := by kernel_rfl
@[simp] theorem ty_156 : tyOf Tryz.prog 156 = some ⟨1, .other⟩ := by kernel_rfl
@[simp] theorem el_156 : elOf Tryz.prog 156 = some (1, 8) := by kernel_rfl
@[simp] theorem ze_156 : zeroOf Tryz.prog 156 = some [.d (.v (.pointer none))] := by kernel_rfl
end Go.Proofs.YtfnfbbmegdkhjaaGreat
