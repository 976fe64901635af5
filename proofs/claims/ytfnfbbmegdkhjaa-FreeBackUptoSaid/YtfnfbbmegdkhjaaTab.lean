import Derived.Test.YtfnfbbmegdkhjaaBA
import Derived.Test.YtfnfbbmegdkhjaaProg
namespace Go.Proofs.Ytfnfbbmegdkhjaa
open Go.RowKit
@[simp] theorem ty_0 : tyOf Try.prog 0 = some ⟨1, .other⟩ := by kernel_rfl
@[simp] theorem el_0 : elOf Try.prog 0 = some (1, 0) := by kernel_rfl
@[simp] theorem ty_1 : tyOf Try.prog 1 = some ⟨1, .other⟩ := by kernel_rfl
@[simp] theorem el_1 : elOf Try.prog 1 = some (1, 8) := by kernel_rfl
@[simp] theorem ze_1 : zeroOf Try.prog 1 = some [.d (.v .nilFunc)] := by kernel_rfl
@[simp] theorem ty_2 : tyOf Try.prog 2 = some ⟨1, .int .i64⟩ := by kernel_rfl
@[simp] theorem el_2 : elOf Try.prog 2 = some (1, 8) := by kernel_rfl
@[simp] theorem ze_2 : zeroOf Try.prog 2 = some [.d (.v (.int .i64 0))] := by kernel_rfl
@[simp] theorem ty_3 : tyOf Try.prog 3 = some ⟨1, .int .i64⟩ := by kernel_rfl
@[simp] theorem el_3 : elOf Try.prog 3 = some (1, 8) := by kernel_rfl
@[simp] theorem ze_3 : zeroOf Try.prog 3 = some [.d (.v (.int .i64 0))] := by kernel_rfl
@[simp] theorem ty_4 : tyOf Try.prog 4 = some ⟨1, .bool⟩ := by kernel_rfl
@[simp] theorem el_4 : elOf Try.prog 4 = some (1, 1) := by kernel_rfl
@[simp] theorem ze_4 : zeroOf Try.prog 4 = some [.d (.v (.bool false))] := by kernel_rfl
@[simp] theorem ty_5 : tyOf Try.prog 5 = some ⟨1, .int .u8⟩ := by kernel_rfl
@[simp] theorem el_5 : elOf Try.prog 5 = some (1, 1) := by kernel_rfl
@[simp] theorem ze_5 : zeroOf Try.prog 5 = some [.d (.v (.int .u8 0))] := by kernel_rfl
@[simp] theorem ty_6 : tyOf Try.prog 6 = some ⟨1, .int .u8⟩ := by kernel_rfl
@[simp] theorem el_6 : elOf Try.prog 6 = some (1, 1) := by kernel_rfl
@[simp] theorem ze_6 : zeroOf Try.prog 6 = some [.d (.v (.int .u8 0))] := by kernel_rfl
@[simp] theorem ty_7 : tyOf Try.prog 7 = some ⟨4, .struct [⟨0, 1, (some false)⟩, ⟨1, 1, (some false)⟩, ⟨2, 1, (some false)⟩, ⟨3, 1, (some false)⟩]⟩ := by kernel_rfl
@[simp] theorem el_7 : elOf Try.prog 7 = some (4, 24) := by kernel_rfl
@[simp] theorem ze_7 : zeroOf Try.prog 7 = some [.d (.v (.int .i64 0)), .d (.v (.int .i64 0)), .d (.v (.bool false)), .d (.v (.int .u8 0))] := by kernel_rfl
@[simp] theorem ty_8 : tyOf Try.prog 8 = some ⟨4, .struct [⟨0, 1, (some false)⟩, ⟨1, 1, (some false)⟩, ⟨2, 1, (some false)⟩, ⟨3, 1, (some false)⟩]⟩ := by kernel_rfl
@[simp] theorem el_8 : elOf Try.prog 8 = some (4, 24) := by kernel_rfl
@[simp] theorem ze_8 : zeroOf Try.prog 8 = some [.d (.v (.int .i64 0)), .d (.v (.int .i64 0)), .d (.v (.bool false)), .d (.v (.int .u8 0))] := by kernel_rfl
@[simp] theorem ty_9 : tyOf Try.prog 9 = some ⟨1, .str⟩ := by kernel_rfl
@[simp] theorem el_9 : elOf Try.prog 9 = some (1, 16) := by kernel_rfl
@[simp] theorem ze_9 : zeroOf Try.prog 9 = some [.d (.v (.string ByteArray.empty))] := by kernel_rfl
@[simp] theorem ty_10 : tyOf Try.prog 10 = some ⟨1, .str⟩ := by kernel_rfl
@[simp] theorem el_10 : elOf Try.prog 10 = some (1, 16) := by kernel_rfl
@[simp] theorem ze_10 : zeroOf Try.prog 10 = some [.d (.v (.string ByteArray.empty))] := by kernel_rfl
@[simp] theorem ty_11 : tyOf Try.prog 11 = some ⟨1, .str⟩ := by kernel_rfl
@[simp] theorem el_11 : elOf Try.prog 11 = some (1, 16) := by kernel_rfl
@[simp] theorem ze_11 : zeroOf Try.prog 11 = some [.d (.v (.string ByteArray.empty))] := by kernel_rfl
@[simp] theorem ty_12 : tyOf Try.prog 12 = some ⟨1, .int .u64⟩ := by kernel_rfl
@[simp] theorem el_12 : elOf Try.prog 12 = some (1, 8) := by kernel_rfl
@[simp] theorem ze_12 : zeroOf Try.prog 12 = some [.d (.v (.int .u64 0))] := by kernel_rfl
@[simp] theorem ty_13 : tyOf Try.prog 13 = some ⟨2, .struct [⟨0, 1, (some false)⟩, ⟨1, 1, (some false)⟩]⟩ := by kernel_rfl
@[simp] theorem el_13 : elOf Try.prog 13 = some (2, 24) := by kernel_rfl
@[simp] theorem ze_13 : zeroOf Try.prog 13 = some [.d (.v (.string ByteArray.empty)), .d (.v (.int .u64 0))] := by kernel_rfl
@[simp] theorem ty_14 : tyOf Try.prog 14 = some ⟨2, .struct [⟨0, 1, (some false)⟩, ⟨1, 1, (some false)⟩]⟩ := by kernel_rfl
@[simp] theorem el_14 : elOf Try.prog 14 = some (2, 24) := by kernel_rfl
@[simp] theorem ze_14 : zeroOf Try.prog 14 = some [.d (.v (.string ByteArray.empty)), .d (.v (.int .u64 0))] := by kernel_rfl
@[simp] theorem ty_15 : tyOf Try.prog 15 = some ⟨1, .other⟩ := by kernel_rfl
@[simp] theorem el_15 : elOf Try.prog 15 = some (1, 8) := by kernel_rfl
@[simp] theorem ze_15 : zeroOf Try.prog 15 = some [.d (.v (.pointer none))] := by kernel_rfl
@[simp] theorem ty_16 : tyOf Try.prog 16 = some ⟨1, .other⟩ := by kernel_rfl
@[simp] theorem el_16 : elOf Try.prog 16 = some (1, 8) := by kernel_rfl
@[simp] theorem ze_16 : zeroOf Try.prog 16 = some [.d (.v (.pointer none))] := by kernel_rfl
@[simp] theorem ty_17 : tyOf Try.prog 17 = some ⟨1, .other⟩ := by kernel_rfl
@[simp] theorem el_17 : elOf Try.prog 17 = some (1, 8) := by kernel_rfl
@[simp] theorem ze_17 : zeroOf Try.prog 17 = some [.d (.v (.pointer none))] := by kernel_rfl
@[simp] theorem ty_18 : tyOf Try.prog 18 = some ⟨1, .struct [⟨0, 1, (some false)⟩]⟩ := by kernel_rfl
@[simp] theorem el_18 : elOf Try.prog 18 = some (1, 8) := by kernel_rfl
@[simp] theorem ze_18 : zeroOf Try.prog 18 = some [.d (.v (.pointer none))] := by kernel_rfl
@[simp] theorem ty_19 : tyOf Try.prog 19 = some ⟨1, .struct [⟨0, 1, (some false)⟩]⟩ := by kernel_rfl
@[simp] theorem el_19 : elOf Try.prog 19 = some (1, 8) := by kernel_rfl
@[simp] theorem ze_19 : zeroOf Try.prog 19 = some [.d (.v (.pointer none))] := by kernel_rfl
@[simp] theorem ty_20 : tyOf Try.prog 20 = some ⟨1, .other⟩ := by kernel_rfl
@[simp] theorem el_20 : elOf Try.prog 20 = some (1, 16) := by kernel_rfl
@[simp] theorem ze_20 : zeroOf Try.prog 20 = some [.d (.v .nilIface)] := by kernel_rfl
@[simp] theorem ty_21 : tyOf Try.prog 21 = some ⟨1, .int .i32⟩ := by kernel_rfl
@[simp] theorem el_21 : elOf Try.prog 21 = some (1, 4) := by kernel_rfl
@[simp] theorem ze_21 : zeroOf Try.prog 21 = some [.d (.v (.int .i32 0))] := by kernel_rfl
@[simp] theorem ty_22 : tyOf Try.prog 22 = some ⟨1, .slice 44 4 (some true)⟩ := by kernel_rfl
@[simp] theorem el_22 : elOf Try.prog 22 = some (1, 24) := by kernel_rfl
@[simp] theorem ze_22 : zeroOf Try.prog 22 = some [.nils] := by kernel_rfl
@[simp] theorem ty_23 : tyOf Try.prog 23 = some ⟨1, .slice 28 3 (some true)⟩ := by kernel_rfl
@[simp] theorem el_23 : elOf Try.prog 23 = some (1, 24) := by kernel_rfl
@[simp] theorem ze_23 : zeroOf Try.prog 23 = some [.nils] := by kernel_rfl
@[simp] theorem ty_24 : tyOf Try.prog 24 = some ⟨1, .other⟩ := by kernel_rfl
@[simp] theorem el_24 : elOf Try.prog 24 = some (1, 8) := by kernel_rfl
@[simp] theorem ze_24 : zeroOf Try.prog 24 = some [.d (.v .nilFunc)] := by kernel_rfl
@[simp] theorem ty_25 : tyOf Try.prog 25 = some ⟨1, .other⟩ := by kernel_rfl
@[simp] theorem el_25 : elOf Try.prog 25 = some (1, 8) := by kernel_rfl
@[simp] theorem ze_25 : zeroOf Try.prog 25 = some [.d (.v .nilFunc)] := by kernel_rfl
@[simp] theorem ty_26 : tyOf Try.prog 26 = some ⟨1, .other⟩ := by kernel_rfl
@[simp] theorem el_26 : elOf Try.prog 26 = some (1, 8) := by kernel_rfl
@[simp] theorem ze_26 : zeroOf Try.prog 26 = some [.d (.v .nilFunc)] := by kernel_rfl
@[simp] theorem ty_27 : tyOf Try.prog 27 = some ⟨3, .struct [⟨0, 1, (some false)⟩, ⟨1, 1, (some false)⟩, ⟨2, 1, (some false)⟩]⟩ := by kernel_rfl
@[simp] theorem el_27 : elOf Try.prog 27 = some (3, 40) := by kernel_rfl
@[simp] theorem ze_27 : zeroOf Try.prog 27 = some [.d (.v (.int .i64 0)), .d (.v (.int .i64 0)), .nils] := by kernel_rfl
@[simp] theorem ty_28 : tyOf Try.prog 28 = some ⟨3, .struct [⟨0, 1, (some false)⟩, ⟨1, 1, (some false)⟩, ⟨2, 1, (some false)⟩]⟩ := by kernel_rfl
@[simp] theorem el_28 : elOf Try.prog 28 = some (3, 40) := by kernel_rfl
@[simp] theorem ze_28 : zeroOf Try.prog 28 = some [.d (.v (.int .i64 0)), .d (.v (.int .i64 0)), .nils] := by kernel_rfl
@[simp] theorem ty_29 : tyOf Try.prog 29 = some ⟨1, .other⟩ := by kernel_rfl
@[simp] theorem el_29 : elOf Try.prog 29 = some (1, 8) := by kernel_rfl
@[simp] theorem ze_29 : zeroOf Try.prog 29 = some [.d (.v .nilFunc)] := by kernel_rfl
@[simp] theorem ty_30 : tyOf Try.prog 30 = some ⟨1, .other⟩ := by kernel_rfl
@[simp] theorem el_30 : elOf Try.prog 30 = some (1, 8) := by kernel_rfl
@[simp] theorem ze_30 : zeroOf Try.prog 30 = some [.d (.v .nilFunc)] := by kernel_rfl
@[simp] theorem ty_31 : tyOf Try.prog 31 = some ⟨1, .slice 89 4 (some true)⟩ := by kernel_rfl
@[simp] theorem el_31 : elOf Try.prog 31 = some (1, 24) := by kernel_rfl
@[simp] theorem ze_31 : zeroOf Try.prog 31 = some [.nils] := by kernel_rfl
@[simp] theorem ty_32 : tyOf Try.prog 32 = some ⟨1, .other⟩ := by kernel_rfl
@[simp] theorem el_32 : elOf Try.prog 32 = some (1, 8) := by kernel_rfl
@[simp] theorem ze_32 : zeroOf Try.prog 32 = some [.d (.v .nilFunc)] := by kernel_rfl
@[simp] theorem ty_33 : tyOf Try.prog 33 = some ⟨1, .other⟩ := by kernel_rfl
@[simp] theorem el_33 : elOf Try.prog 33 = some (1, 8) := by kernel_rfl
@[simp] theorem ze_33 : zeroOf Try.prog 33 = some [.d (.v .nilFunc)] := by kernel_rfl
@[simp] theorem ty_34 : tyOf Try.prog 34 = some ⟨1, .other⟩ := by kernel_rfl
@[simp] theorem el_34 : elOf Try.prog 34 = some (1, 8) := by kernel_rfl
@[simp] theorem ze_34 : zeroOf Try.prog 34 = some [.d (.v .nilFunc)] := by kernel_rfl
@[simp] theorem ty_35 : tyOf Try.prog 35 = some ⟨1, .other⟩ := by kernel_rfl
@[simp] theorem el_35 : elOf Try.prog 35 = some (1, 8) := by kernel_rfl
@[simp] theorem ze_35 : zeroOf Try.prog 35 = some [.d (.v .nilFunc)] := by kernel_rfl
@[simp] theorem ty_36 : tyOf Try.prog 36 = some ⟨1, .int .i64⟩ := by kernel_rfl
@[simp] theorem el_36 : elOf Try.prog 36 = some (1, 8) := by kernel_rfl
@[simp] theorem ze_36 : zeroOf Try.prog 36 = some [.d (.v (.int .i64 0))] := by kernel_rfl
@[simp] theorem ty_37 : tyOf Try.prog 37 = some ⟨1, .other⟩ := by kernel_rfl
@[simp] theorem el_37 : elOf Try.prog 37 = some (1, 0) := by kernel_rfl
@[simp] theorem ty_38 : tyOf Try.prog 38 = some ⟨1, .other⟩ := by kernel_rfl
@[simp] theorem el_38 : elOf Try.prog 38 = some (1, 8) := by kernel_rfl
@[simp] theorem ze_38 : zeroOf Try.prog 38 = some [.d (.v .nilFunc)] := by kernel_rfl
@[simp] theorem ty_39 : tyOf Try.prog 39 = some ⟨1, .other⟩ := by kernel_rfl
@[simp] theorem el_39 : elOf Try.prog 39 = some (1, 0) := by kernel_rfl
@[simp] theorem ty_40 : tyOf Try.prog 40 = some ⟨1, .other⟩ := by kernel_rfl
@[simp] theorem el_40 : elOf Try.prog 40 = some (1, 8) := by kernel_rfl
@[simp] theorem ze_40 : zeroOf Try.prog 40 = some [.d (.v .nilFunc)] := by kernel_rfl
@[simp] theorem ty_41 : tyOf Try.prog 41 = some ⟨1, .other⟩ := by kernel_rfl
@[simp] theorem el_41 : elOf Try.prog 41 = some (1, 8) := by kernel_rfl
@[simp] theorem ze_41 : zeroOf Try.prog 41 = some [.d (.v .nilFunc)] := by kernel_rfl
@[simp] theorem ty_42 : tyOf Try.prog 42 = some ⟨1, .other⟩ := by kernel_rfl
@[simp] theorem el_42 : elOf Try.prog 42 = some (1, 8) := by kernel_rfl
@[simp] theorem ze_42 : zeroOf Try.prog 42 = some [.d (.v .nilFunc)] := by kernel_rfl
@[simp] theorem ty_43 : tyOf Try.prog 43 = some ⟨4, .struct [⟨0, 1, (some false)⟩, ⟨1, 3, (some true)⟩]⟩ := by kernel_rfl
@[simp] theorem el_43 : elOf Try.prog 43 = some (4, 48) := by kernel_rfl
@[simp] theorem ze_43 : zeroOf Try.prog 43 = some [.d (.v (.int .i64 0)), .d (.v (.int .i64 0)), .d (.v (.int .i64 0)), .nils] := by kernel_rfl
@[simp] theorem ty_44 : tyOf Try.prog 44 = some ⟨4, .struct [⟨0, 1, (some false)⟩, ⟨1, 3, (some true)⟩]⟩ := by kernel_rfl
@[simp] theorem el_44 : elOf Try.prog 44 = some (4, 48) := by kernel_rfl
@[simp] theorem ze_44 : zeroOf Try.prog 44 = some [.d (.v (.int .i64 0)), .d (.v (.int .i64 0)), .d (.v (.int .i64 0)), .nils] := by kernel_rfl
@[simp] theorem ty_45 : tyOf Try.prog 45 = some ⟨1, .other⟩ := by kernel_rfl
@[simp] theorem el_45 : elOf Try.prog 45 = some (1, 8) := by kernel_rfl
@[simp] theorem ze_45 : zeroOf Try.prog 45 = some [.d (.v .nilFunc)] := by kernel_rfl
@[simp] theorem ty_46 : tyOf Try.prog 46 = some ⟨1, .other⟩ := by kernel_rfl
@[simp] theorem el_46 : elOf Try.prog 46 = some (1, 8) := by kernel_rfl
@[simp] theorem ze_46 : zeroOf Try.prog 46 = some [.d (.v .nilFunc)] := by kernel_rfl
@[simp] theorem ty_47 : tyOf Try.prog 47 = some ⟨1, .slice 3 1 (some false)⟩ := by kernel_rfl
@[simp] theorem el_47 : elOf Try.prog 47 = some (1, 24) := by kernel_rfl
@[simp] theorem ze_47 : zeroOf Try.prog 47 = some [.nils] := by kernel_rfl
@[simp] theorem ty_48 : tyOf Try.prog 48 = some ⟨1, .other⟩ := by kernel_rfl
@[simp] theorem el_48 : elOf Try.prog 48 = some (1, 8) := by kernel_rfl
@[simp] theorem ze_48 : zeroOf Try.prog 48 = some [.d (.v .nilFunc)] := by kernel_rfl
@[simp] theorem ty_49 : tyOf Try.prog 49 = some ⟨1, .other⟩ := by kernel_rfl
@[simp] theorem el_49 : elOf Try.prog 49 = some (1, 8) := by kernel_rfl
@[simp] theorem ze_49 : zeroOf Try.prog 49 = some [.d (.v .nilFunc)] := by kernel_rfl
@[simp] theorem ty_50 : tyOf Try.prog 50 = some ⟨1, .other⟩ := by kernel_rfl
@[simp] theorem el_50 : elOf Try.prog 50 = some (1, 8) := by kernel_rfl
@[simp] theorem ze_50 : zeroOf Try.prog 50 = some [.d (.v .nilFunc)] := by kernel_rfl
@[simp] theorem ty_51 : tyOf Try.prog 51 = some ⟨1, .other⟩ := by kernel_rfl
@[simp] theorem el_51 : elOf Try.prog 51 = some (1, 8) := by kernel_rfl
@[simp] theorem ze_51 : zeroOf Try.prog 51 = some [.d (.v .nilFunc)] := by kernel_rfl
@[simp] theorem ty_52 : tyOf Try.prog 52 = some ⟨1, .other⟩ := by kernel_rfl
@[simp] theorem el_52 : elOf Try.prog 52 = some (1, 8) := by kernel_rfl
@[simp] theorem ze_52 : zeroOf Try.prog 52 = some [.d (.v .nilFunc)] := by kernel_rfl
@[simp] theorem ty_53 : tyOf Try.prog 53 = some ⟨1, .other⟩ := by kernel_rfl
@[simp] theorem el_53 : elOf Try.prog 53 = some (1, 0) := by kernel_rfl
@[simp] theorem ty_54 : tyOf Try.prog 54 = some ⟨1, .other⟩ := by kernel_rfl
@[simp] theorem el_54 : elOf Try.prog 54 = some (1, 8) := by kernel_rfl
@[simp] theorem ze_54 : zeroOf Try.prog 54 = some [.d (.v .nilFunc)] := by kernel_rfl
@[simp] theorem ty_55 : tyOf Try.prog 55 = some ⟨1, .other⟩ := by kernel_rfl
@[simp] theorem el_55 : elOf Try.prog 55 = some (1, 8) := by kernel_rfl
@[simp] theorem ze_55 : zeroOf Try.prog 55 = some [.d (.v .nilFunc)] := by kernel_rfl
@[simp] theorem ty_56 : tyOf Try.prog 56 = some ⟨1, .other⟩ := by kernel_rfl
@[simp] theorem el_56 : elOf Try.prog 56 = some (1, 8) := by kernel_rfl
@[simp] theorem ze_56 : zeroOf Try.prog 56 = some [.d (.v .nilFunc)] := by kernel_rfl
@[simp] theorem ty_57 : tyOf Try.prog 57 = some ⟨1, .other⟩ := by kernel_rfl
@[simp] theorem el_57 : elOf Try.prog 57 = some (1, 8) := by kernel_rfl
@[simp] theorem ze_57 : zeroOf Try.prog 57 = some [.d (.v .nilFunc)] := by kernel_rfl
@[simp] theorem ty_58 : tyOf Try.prog 58 = some ⟨1, .other⟩ := by kernel_rfl
@[simp] theorem el_58 : elOf Try.prog 58 = some (1, 8) := by kernel_rfl
@[simp] theorem ze_58 : zeroOf Try.prog 58 = some [.d (.v .nilFunc)] := by kernel_rfl
@[simp] theorem ty_59 : tyOf Try.prog 59 = some ⟨1, .other⟩ := by kernel_rfl
@[simp] theorem el_59 : elOf Try.prog 59 = some (1, 8) := by kernel_rfl
@[simp] theorem ze_59 : zeroOf Try.prog 59 = some [.d (.v .nilFunc)] := by kernel_rfl
@[simp] theorem ty_60 : tyOf Try.prog 60 = some ⟨1, .other⟩ := by kernel_rfl
@[simp] theorem el_60 : elOf Try.prog 60 = some (1, 8) := by kernel_rfl
@[simp] theorem ze_60 : zeroOf Try.prog 60 = some [.d (.v .nilFunc)] := by kernel_rfl
@[simp] theorem ty_61 : tyOf Try.prog 61 = some ⟨1, .other⟩ := by kernel_rfl
@[simp] theorem el_61 : elOf Try.prog 61 = some (1, 8) := by kernel_rfl
@[simp] theorem ze_61 : zeroOf Try.prog 61 = some [.d (.v .nilFunc)] := by kernel_rfl
@[simp] theorem ty_62 : tyOf Try.prog 62 = some ⟨1, .other⟩ := by kernel_rfl
@[simp] theorem el_62 : elOf Try.prog 62 = some (1, 8) := by kernel_rfl
@[simp] theorem ze_62 : zeroOf Try.prog 62 = some [.d (.v .nilFunc)] := by kernel_rfl
@[simp] theorem ty_63 : tyOf Try.prog 63 = some ⟨1, .other⟩ := by kernel_rfl
@[simp] theorem el_63 : elOf Try.prog 63 = some (1, 8) := by kernel_rfl
@[simp] theorem ze_63 : zeroOf Try.prog 63 = some [.d (.v .nilFunc)] := by kernel_rfl
@[simp] theorem ty_64 : tyOf Try.prog 64 = some ⟨1, .other⟩ := by kernel_rfl
@[simp] theorem el_64 : elOf Try.prog 64 = some (1, 8) := by kernel_rfl
@[simp] theorem ze_64 : zeroOf Try.prog 64 = some [.d (.v .nilFunc)] := by kernel_rfl
@[simp] theorem ty_65 : tyOf Try.prog 65 = some ⟨1, .other⟩ := by kernel_rfl
@[simp] theorem el_65 : elOf Try.prog 65 = some (1, 8) := by kernel_rfl
@[simp] theorem ze_65 : zeroOf Try.prog 65 = some [.d (.v .nilFunc)] := by kernel_rfl
@[simp] theorem ty_66 : tyOf Try.prog 66 = some ⟨1, .other⟩ := by kernel_rfl
@[simp] theorem el_66 : elOf Try.prog 66 = some (1, 8) := by kernel_rfl
@[simp] theorem ze_66 : zeroOf Try.prog 66 = some [.d (.v .nilFunc)] := by kernel_rfl
@[simp] theorem ty_67 : tyOf Try.prog 67 = some ⟨1, .other⟩ := by kernel_rfl
@[simp] theorem el_67 : elOf Try.prog 67 = some (1, 8) := by kernel_rfl
@[simp] theorem ze_67 : zeroOf Try.prog 67 = some [.d (.v .nilFunc)] := by kernel_rfl
@[simp] theorem ty_68 : tyOf Try.prog 68 = some ⟨1, .other⟩ := by kernel_rfl
@[simp] theorem el_68 : elOf Try.prog 68 = some (1, 8) := by kernel_rfl
@[simp] theorem ze_68 : zeroOf Try.prog 68 = some [.d (.v .nilFunc)] := by kernel_rfl
@[simp] theorem ty_69 : tyOf Try.prog 69 = some ⟨1, .other⟩ := by kernel_rfl
@[simp] theorem el_69 : elOf Try.prog 69 = some (1, 8) := by kernel_rfl
@[simp] theorem ze_69 : zeroOf Try.prog 69 = some [.d (.v .nilFunc)] := by kernel_rfl
@[simp] theorem ty_70 : tyOf Try.prog 70 = some ⟨1, .other⟩ := by kernel_rfl
@[simp] theorem el_70 : elOf Try.prog 70 = some (1, 8) := by kernel_rfl
@[simp] theorem ze_70 : zeroOf Try.prog 70 = some [.d (.v .nilFunc)] := by kernel_rfl
@[simp] theorem ty_71 : tyOf Try.prog 71 = some ⟨1, .other⟩ := by kernel_rfl
@[simp] theorem el_71 : elOf Try.prog 71 = some (1, 8) := by kernel_rfl
@[simp] theorem ze_71 : zeroOf Try.prog 71 = some [.d (.v .nilFunc)] := by kernel_rfl
@[simp] theorem ty_72 : tyOf Try.prog 72 = some ⟨1, .other⟩ := by kernel_rfl
@[simp] theorem el_72 : elOf Try.prog 72 = some (1, 8) := by kernel_rfl
@[simp] theorem ze_72 : zeroOf Try.prog 72 = some [.d (.v .nilFunc)] := by kernel_rfl
@[simp] theorem ty_73 : tyOf Try.prog 73 = some ⟨1, .other⟩ := by kernel_rfl
@[simp] theorem el_73 : elOf Try.prog 73 = some (1, 8) := by kernel_rfl
@[simp] theorem ze_73 : zeroOf Try.prog 73 = some [.d (.v .nilFunc)] := by kernel_rfl
@[simp] theorem ty_74 : tyOf Try.prog 74 = some ⟨1, .slice 80 15 (some true)⟩ := by kernel_rfl
@[simp] theorem el_74 : elOf Try.prog 74 = some (1, 24) := by kernel_rfl
@[simp] theorem ze_74 : zeroOf Try.prog 74 = some [.nils] := by kernel_rfl
@[simp] theorem ty_75 : tyOf Try.prog 75 = some ⟨1, .other⟩ := by kernel_rfl
@[simp] theorem el_75 : elOf Try.prog 75 = some (1, 8) := by kernel_rfl
@[simp] theorem ze_75 : zeroOf Try.prog 75 = some [.d (.v .nilFunc)] := by kernel_rfl
@[simp] theorem ty_76 : tyOf Try.prog 76 = some ⟨1, .other⟩ := by kernel_rfl
@[simp] theorem el_76 : elOf Try.prog 76 = some (1, 8) := by kernel_rfl
@[simp] theorem ze_76 : zeroOf Try.prog 76 = some [.d (.v .nilFunc)] := by kernel_rfl
@[simp] theorem ty_77 : tyOf Try.prog 77 = some ⟨1, .other⟩ := by kernel_rfl
@[simp] theorem el_77 : elOf Try.prog 77 = some (1, 8) := by kernel_rfl
@[simp] theorem ze_77 : zeroOf Try.prog 77 = some [.d (.v .nilFunc)] := by kernel_rfl
@[simp] theorem ty_78 : tyOf Try.prog 78 = some ⟨1, .other⟩ := by kernel_rfl
@[simp] theorem el_78 : elOf Try.prog 78 = some (1, 8) := by kernel_rfl
@[simp] theorem ze_78 : zeroOf Try.prog 78 = some [.d (.v .nilFunc)] := by kernel_rfl
@[simp] theorem ty_79 : tyOf Try.prog 79 = some ⟨15, .struct [⟨0, 1, (some false)⟩, ⟨1, 1, (some false)⟩, ⟨2, 3, (some true)⟩, ⟨5, 3, (some true)⟩, ⟨8, 1, (some false)⟩, ⟨9, 1, (some false)⟩, ⟨10, 1, (some false)⟩, ⟨11, 1, (some false)⟩, ⟨12, 1, (some false)⟩, ⟨13, 1, (some false)⟩, ⟨14, 1, (some false)⟩]⟩ := by kernel_rfl
@[simp] theorem el_79 : elOf Try.prog 79 = some (15, 192) := by kernel_rfl
@[simp] theorem ze_79 : zeroOf Try.prog 79 = some [.d (.v (.int .i64 0)), .d (.v (.string ByteArray.empty)), .d (.v (.int .i64 0)), .d (.v (.int .i64 0)), .nils, .d (.v (.int .i64 0)), .d (.v (.int .i64 0)), .nils, .d (.v (.int .i64 0)), .d (.v (.int .i64 0)), .d (.v (.int .i64 0)), .d (.v (.int .i64 0)), .d (.v (.int .i64 0)), .nils, .nils] := by kernel_rfl
@[simp] theorem ty_80 : tyOf Try.prog 80 = some ⟨15, .struct [⟨0, 1, (some false)⟩, ⟨1, 1, (some false)⟩, ⟨2, 3, (some true)⟩, ⟨5, 3, (some true)⟩, ⟨8, 1, (some false)⟩, ⟨9, 1, (some false)⟩, ⟨10, 1, (some false)⟩, ⟨11, 1, (some false)⟩, ⟨12, 1, (some false)⟩, ⟨13, 1, (some false)⟩, ⟨14, 1, (some false)⟩]⟩ := by kernel_rfl
@[simp] theorem el_80 : elOf Try.prog 80 = some (15, 192) := by kernel_rfl
@[simp] theorem ze_80 : zeroOf Try.prog 80 = some [.d (.v (.int .i64 0)), .d (.v (.string ByteArray.empty)), .d (.v (.int .i64 0)), .d (.v (.int .i64 0)), .nils, .d (.v (.int .i64 0)), .d (.v (.int .i64 0)), .nils, .d (.v (.int .i64 0)), .d (.v (.int .i64 0)), .d (.v (.int .i64 0)), .d (.v (.int .i64 0)), .d (.v (.int .i64 0)), .nils, .nils] := by kernel_rfl
@[simp] theorem ty_81 : tyOf Try.prog 81 = some ⟨1, .other⟩ := by kernel_rfl
@[simp] theorem el_81 : elOf Try.prog 81 = some (1, 8) := by kernel_rfl
@[simp] theorem ze_81 : zeroOf Try.prog 81 = some [.d (.v (.map none))] := by kernel_rfl
@[simp] theorem ty_82 : tyOf Try.prog 82 = some ⟨1, .other⟩ := by kernel_rfl
@[simp] theorem el_82 : elOf Try.prog 82 = some (1, 8) := by kernel_rfl
@[simp] theorem ze_82 : zeroOf Try.prog 82 = some [.d (.v (.map none))] := by kernel_rfl
@[simp] theorem ty_83 : tyOf Try.prog 83 = some ⟨1, .other⟩ := by kernel_rfl
@[simp] theorem el_83 : elOf Try.prog 83 = some (1, 8) := by kernel_rfl
@[simp] theorem ze_83 : zeroOf Try.prog 83 = some [.d (.v .nilFunc)] := by kernel_rfl
@[simp] theorem ty_84 : tyOf Try.prog 84 = some ⟨1, .other⟩ := by kernel_rfl
@[simp] theorem el_84 : elOf Try.prog 84 = some (1, 8) := by kernel_rfl
@[simp] theorem ze_84 : zeroOf Try.prog 84 = some [.d (.v .nilFunc)] := by kernel_rfl
@[simp] theorem ty_85 : tyOf Try.prog 85 = some ⟨1, .other⟩ := by kernel_rfl
@[simp] theorem el_85 : elOf Try.prog 85 = some (1, 8) := by kernel_rfl
@[simp] theorem ze_85 : zeroOf Try.prog 85 = some [.d (.v .nilFunc)] := by kernel_rfl
@[simp] theorem ty_86 : tyOf Try.prog 86 = some ⟨1, .other⟩ := by kernel_rfl
@[simp] theorem el_86 : elOf Try.prog 86 = some (1, 8) := by kernel_rfl
@[simp] theorem ze_86 : zeroOf Try.prog 86 = some [.d (.v .nilFunc)] := by kernel_rfl
@[simp] theorem ty_87 : tyOf Try.prog 87 = some ⟨1, .other⟩ := by kernel_rfl
@[simp] theorem el_87 : elOf Try.prog 87 = some (1, 8) := by kernel_rfl
@[simp] theorem ze_87 : zeroOf Try.prog 87 = some [.d (.v .nilFunc)] := by kernel_rfl
@[simp] theorem ty_88 : tyOf Try.prog 88 = some ⟨1, .other⟩ := by kernel_rfl
@[simp] theorem el_88 : elOf Try.prog 88 = some (1, 8) := by kernel_rfl
@[simp] theorem ze_88 : zeroOf Try.prog 88 = some [.d (.v .nilFunc)] := by kernel_rfl
@[simp] theorem ty_89 : tyOf Try.prog 89 = some ⟨4, .struct [⟨0, 1, (some false)⟩, ⟨1, 3, (some true)⟩]⟩ := by kernel_rfl
@[simp] theorem el_89 : elOf Try.prog 89 = some (4, 48) := by kernel_rfl
@[simp] theorem ze_89 : zeroOf Try.prog 89 = some [.d (.v (.int .i64 0)), .d (.v (.int .i64 0)), .d (.v (.int .i64 0)), .nils] := by kernel_rfl
@[simp] theorem ty_90 : tyOf Try.prog 90 = some ⟨1, .other⟩ := by kernel_rfl
@[simp] theorem el_90 : elOf Try.prog 90 = some (1, 8) := by kernel_rfl
@[simp] theorem ze_90 : zeroOf Try.prog 90 = some [.d (.v .nilFunc)] := by kernel_rfl
@[simp] theorem ty_91 : tyOf Try.prog 91 = some ⟨1, .other⟩ := by kernel_rfl
@[simp] theorem el_91 : elOf Try.prog 91 = some (1, 8) := by kernel_rfl
@[simp] theorem ze_91 : zeroOf Try.prog 91 = some [.d (.v .nilFunc)] := by kernel_rfl
@[simp] theorem ty_92 : tyOf Try.prog 92 = some ⟨1, .other⟩ := by kernel_rfl
@[simp] theorem el_92 : elOf Try.prog 92 = some (1, 0) := by kernel_rfl
@[simp] theorem ty_93 : tyOf Try.prog 93 = some ⟨1, .other⟩ := by kernel_rfl
@[simp] theorem el_93 : elOf Try.prog 93 = some (1, 8) := by kernel_rfl
@[simp] theorem ze_93 : zeroOf Try.prog 93 = some [.d (.v .nilFunc)] := by kernel_rfl
@[simp] theorem ty_94 : tyOf Try.prog 94 = some ⟨1, .other⟩ := by kernel_rfl
@[simp] theorem el_94 : elOf Try.prog 94 = some (1, 8) := by kernel_rfl
@[simp] theorem ze_94 : zeroOf Try.prog 94 = some [.d (.v .nilFunc)] := by kernel_rfl
@[simp] theorem ty_95 : tyOf Try.prog 95 = some ⟨1, .other⟩ := by kernel_rfl
@[simp] theorem el_95 : elOf Try.prog 95 = some (1, 8) := by kernel_rfl
@[simp] theorem ze_95 : zeroOf Try.prog 95 = some [.d (.v .nilFunc)] := by kernel_rfl
@[simp] theorem ty_96 : tyOf Try.prog 96 = some ⟨1, .other⟩ := by kernel_rfl
@[simp] theorem el_96 : elOf Try.prog 96 = some (1, 8) := by kernel_rfl
@[simp] theorem ze_96 : zeroOf Try.prog 96 = some [.d (.v .nilFunc)] := by kernel_rfl
@[simp] theorem ty_97 : tyOf Try.prog 97 = some ⟨1, .other⟩ := by kernel_rfl
@[simp] theorem el_97 : elOf Try.prog 97 = some (1, 8) := by kernel_rfl
@[simp] theorem ze_97 : zeroOf Try.prog 97 = some [.d (.v .nilFunc)] := by kernel_rfl
@[simp] theorem ty_98 : tyOf Try.prog 98 = some ⟨1, .other⟩ := by kernel_rfl
@[simp] theorem el_98 : elOf Try.prog 98 = some (1, 8) := by kernel_rfl
@[simp] theorem ze_98 : zeroOf Try.prog 98 = some [.d (.v .nilFunc)] := by kernel_rfl
@[simp] theorem ty_99 : tyOf Try.prog 99 = some ⟨1, .other⟩ := by kernel_rfl
@[simp] theorem el_99 : elOf Try.prog 99 = some (1, 0) := by kernel_rfl
@[simp] theorem ty_100 : tyOf Try.prog 100 = some ⟨1, .other⟩ := by kernel_rfl
@[simp] theorem el_100 : elOf Try.prog 100 = some (1, 8) := by kernel_rfl
@[simp] theorem ze_100 : zeroOf Try.prog 100 = some [.d (.v .nilFunc)] := by kernel_rfl
@[simp] theorem ty_101 : tyOf Try.prog 101 = some ⟨1, .other⟩ := by kernel_rfl
@[simp] theorem el_101 : elOf Try.prog 101 = some (1, 8) := by kernel_rfl
@[simp] theorem ze_101 : zeroOf Try.prog 101 = some [.d (.v .nilFunc)] := by kernel_rfl
@[simp] theorem ty_102 : tyOf Try.prog 102 = some ⟨1, .other⟩ := by kernel_rfl
@[simp] theorem el_102 : elOf Try.prog 102 = some (1, 8) := by kernel_rfl
@[simp] theorem ze_102 : zeroOf Try.prog 102 = some [.d (.v .nilFunc)] := by kernel_rfl
@[simp] theorem ty_103 : tyOf Try.prog 103 = some ⟨1, .other⟩ := by kernel_rfl
@[simp] theorem el_103 : elOf Try.prog 103 = some (1, 8) := by kernel_rfl
@[simp] theorem ze_103 : zeroOf Try.prog 103 = some [.d (.v .nilFunc)] := by kernel_rfl
@[simp] theorem ty_104 : tyOf Try.prog 104 = some ⟨1, .other⟩ := by kernel_rfl
@[simp] theorem el_104 : elOf Try.prog 104 = some (1, 0) := by kernel_rfl
@[simp] theorem ty_105 : tyOf Try.prog 105 = some ⟨1, .other⟩ := by kernel_rfl
@[simp] theorem el_105 : elOf Try.prog 105 = some (1, 8) := by kernel_rfl
@[simp] theorem ze_105 : zeroOf Try.prog 105 = some [.d (.v .nilFunc)] := by kernel_rfl
@[simp] theorem ty_106 : tyOf Try.prog 106 = some ⟨1, .other⟩ := by kernel_rfl
@[simp] theorem el_106 : elOf Try.prog 106 = some (1, 8) := by kernel_rfl
@[simp] theorem ze_106 : zeroOf Try.prog 106 = some [.d (.v .nilFunc)] := by kernel_rfl
@[simp] theorem ty_107 : tyOf Try.prog 107 = some ⟨1, .other⟩ := by kernel_rfl
@[simp] theorem el_107 : elOf Try.prog 107 = some (1, 8) := by kernel_rfl
@[simp] theorem ze_107 : zeroOf Try.prog 107 = some [.d (.v .nilFunc)] := by kernel_rfl
@[simp] theorem ty_108 : tyOf Try.prog 108 = some ⟨1, .other⟩ := by kernel_rfl
@[simp] theorem el_108 : elOf Try.prog 108 = some (1, 8) := by kernel_rfl
@[simp] theorem ze_108 : zeroOf Try.prog 108 = some [.d (.v .nilFunc)] := by kernel_rfl
@[simp] theorem ty_109 : tyOf Try.prog 109 = some ⟨1, .other⟩ := by kernel_rfl
@[simp] theorem el_109 : elOf Try.prog 109 = some (1, 8) := by kernel_rfl
@[simp] theorem ze_109 : zeroOf Try.prog 109 = some [.d (.v .nilFunc)] := by kernel_rfl
@[simp] theorem ty_110 : tyOf Try.prog 110 = some ⟨1, .slice 117 3 (some true)⟩ := by kernel_rfl
@[simp] theorem el_110 : elOf Try.prog 110 = some (1, 24) := by kernel_rfl
@[simp] theorem ze_110 : zeroOf Try.prog 110 = some [.nils] := by kernel_rfl
@[simp] theorem ty_111 : tyOf Try.prog 111 = some ⟨3, .struct [⟨0, 1, (some false)⟩, ⟨1, 1, (some false)⟩, ⟨2, 1, (some false)⟩]⟩ := by kernel_rfl
@[simp] theorem el_111 : elOf Try.prog 111 = some (3, 72) := by kernel_rfl
@[simp] theorem ze_111 : zeroOf Try.prog 111 = some [.nils, .nils, .nils] := by kernel_rfl
@[simp] theorem ty_112 : tyOf Try.prog 112 = some ⟨3, .struct [⟨0, 1, (some false)⟩, ⟨1, 1, (some false)⟩, ⟨2, 1, (some false)⟩]⟩ := by kernel_rfl
@[simp] theorem el_112 : elOf Try.prog 112 = some (3, 72) := by kernel_rfl
@[simp] theorem ze_112 : zeroOf Try.prog 112 = some [.nils, .nils, .nils] := by kernel_rfl
@[simp] theorem ty_113 : tyOf Try.prog 113 = some ⟨1, .other⟩ := by kernel_rfl
@[simp] theorem el_113 : elOf Try.prog 113 = some (1, 0) := by kernel_rfl
@[simp] theorem ty_114 : tyOf Try.prog 114 = some ⟨1, .other⟩ := by kernel_rfl
@[simp] theorem el_114 : elOf Try.prog 114 = some (1, 8) := by kernel_rfl
@[simp] theorem ze_114 : zeroOf Try.prog 114 = some [.d (.v .nilFunc)] := by kernel_rfl
@[simp] theorem ty_115 : tyOf Try.prog 115 = some ⟨1, .other⟩ := by kernel_rfl
@[simp] theorem el_115 : elOf Try.prog 115 = some (1, 8) := by kernel_rfl
@[simp] theorem ze_115 : zeroOf Try.prog 115 = some [.d (.v .nilFunc)] := by kernel_rfl
@[simp] theorem ty_116 : tyOf Try.prog 116 = some ⟨3, .struct [⟨0, 1, (some false)⟩, ⟨1, 1, (some false)⟩, ⟨2, 1, (some false)⟩]⟩ := by kernel_rfl
@[simp] theorem el_116 : elOf Try.prog 116 = some (3, 56) := by kernel_rfl
@[simp] theorem ze_116 : zeroOf Try.prog 116 = some [.d (.v (.bool false)), .nils, .nils] := by kernel_rfl
@[simp] theorem ty_117 : tyOf Try.prog 117 = some ⟨3, .struct [⟨0, 1, (some false)⟩, ⟨1, 1, (some false)⟩, ⟨2, 1, (some false)⟩]⟩ := by kernel_rfl
@[simp] theorem el_117 : elOf Try.prog 117 = some (3, 56) := by kernel_rfl
@[simp] theorem ze_117 : zeroOf Try.prog 117 = some [.d (.v (.bool false)), .nils, .nils] := by kernel_rfl
@[simp] theorem ty_118 : tyOf Try.prog 118 = some ⟨1, .other⟩ := by kernel_rfl
@[simp] theorem el_118 : elOf Try.prog 118 = some (1, 8) := by kernel_rfl
@[simp] theorem ze_118 : zeroOf Try.prog 118 = some [.d (.v .nilFunc)] := by kernel_rfl
@[simp] theorem ty_119 : tyOf Try.prog 119 = some ⟨1, .other⟩ := by kernel_rfl
@[simp] theorem el_119 : elOf Try.prog 119 = some (1, 8) := by kernel_rfl
@[simp] theorem ze_119 : zeroOf Try.prog 119 = some [.d (.v .nilFunc)] := by kernel_rfl
@[simp] theorem ty_120 : tyOf Try.prog 120 = some ⟨1, .other⟩ := by kernel_rfl
@[simp] theorem el_120 : elOf Try.prog 120 = some (1, 8) := by kernel_rfl
@[simp] theorem ze_120 : zeroOf Try.prog 120 = some [.d (.v .nilFunc)] := by kernel_rfl
@[simp] theorem ty_121 : tyOf Try.prog 121 = some ⟨1, .other⟩ := by kernel_rfl
@[simp] theorem el_121 : elOf Try.prog 121 = some (1, 8) := by kernel_rfl
@[simp] theorem ze_121 : zeroOf Try.prog 121 = some [.d (.v .nilFunc)] := by kernel_rfl
@[simp] theorem ty_122 : tyOf Try.prog 122 = some ⟨1, .other⟩ := by kernel_rfl
@[simp] theorem el_122 : elOf Try.prog 122 = some (1, 8) := by kernel_rfl
@[simp] theorem ze_122 : zeroOf Try.prog 122 = some [.d (.v .nilFunc)] := by kernel_rfl
@[simp] theorem ty_123 : tyOf Try.prog 123 = some ⟨1, .other⟩ := by kernel_rfl
@[simp] theorem el_123 : elOf Try.prog 123 = some (1, 8) := by kernel_rfl
@[simp] theorem ze_123 : zeroOf Try.prog 123 = some [.d (.v .nilFunc)] := by kernel_rfl
@[simp] theorem ty_124 : tyOf Try.prog 124 = some ⟨1, .other⟩ := by kernel_rfl
@[simp] theorem el_124 : elOf Try.prog 124 = some (1, 8) := by kernel_rfl
@[simp] theorem ze_124 : zeroOf Try.prog 124 = some [.d (.v .nilFunc)] := by kernel_rfl
@[simp] theorem ty_125 : tyOf Try.prog 125 = some ⟨1, .other⟩ := by kernel_rfl
@[simp] theorem el_125 : elOf Try.prog 125 = some (1, 8) := by kernel_rfl
@[simp] theorem ze_125 : zeroOf Try.prog 125 = some [.d (.v .nilFunc)] := by kernel_rfl
@[simp] theorem ty_126 : tyOf Try.prog 126 = some ⟨1, .other⟩ := by kernel_rfl
@[simp] theorem el_126 : elOf Try.prog 126 = some (1, 8) := by kernel_rfl
@[simp] theorem ze_126 : zeroOf Try.prog 126 = some [.d (.v .nilFunc)] := by kernel_rfl
@[simp] theorem ty_127 : tyOf Try.prog 127 = some ⟨1, .other⟩ := by kernel_rfl
@[simp] theorem el_127 : elOf Try.prog 127 = some (1, 8) := by kernel_rfl
@[simp] theorem ze_127 : zeroOf Try.prog 127 = some [.d (.v .nilFunc)] := by kernel_rfl
@[simp] theorem ty_128 : tyOf Try.prog 128 = some ⟨1, .other⟩ := by kernel_rfl
@[simp] theorem el_128 : elOf Try.prog 128 = some (1, 8) := by kernel_rfl
@[simp] theorem ze_128 : zeroOf Try.prog 128 = some [.d (.v (.pointer none))] := by kernel_rfl
@[simp] theorem ty_129 : tyOf Try.prog 129 = some ⟨1, .other⟩ := by kernel_rfl
@[simp] theorem el_129 : elOf Try.prog 129 = some (1, 8) := by kernel_rfl
@[simp] theorem ze_129 : zeroOf Try.prog 129 = some [.d (.v .nilFunc)] := by kernel_rfl
@[simp] theorem ty_130 : tyOf Try.prog 130 = some ⟨1, .other⟩ := by kernel_rfl
@[simp] theorem el_130 : elOf Try.prog 130 = some (1, 8) := by kernel_rfl
@[simp] theorem ze_130 : zeroOf Try.prog 130 = some [.d (.v .nilFunc)] := by kernel_rfl
@[simp] theorem ty_131 : tyOf Try.prog 131 = some ⟨1, .other⟩ := by kernel_rfl
@[simp] theorem el_131 : elOf Try.prog 131 = some (1, 8) := by kernel_rfl
@[simp] theorem ze_131 : zeroOf Try.prog 131 = some [.d (.v .nilFunc)] := by kernel_rfl
@[simp] theorem ty_132 : tyOf Try.prog 132 = some ⟨1, .other⟩ := by kernel_rfl
@[simp] theorem el_132 : elOf Try.prog 132 = some (1, 8) := by kernel_rfl
@[simp] theorem ze_132 : zeroOf Try.prog 132 = some [.d (.v .nilFunc)] := by kernel_rfl
@[simp] theorem ty_133 : tyOf Try.prog 133 = some ⟨4, .struct [⟨0, 3, (some true)⟩, ⟨3, 1, (some false)⟩]⟩ := by kernel_rfl
@[simp] theorem el_133 : elOf Try.prog 133 = some (4, 48) := by kernel_rfl
@[simp] theorem ze_133 : zeroOf Try.prog 133 = some [.d (.v (.int .i64 0)), .d (.v (.int .i64 0)), .nils, .d (.v (.bool false))] := by kernel_rfl
@[simp] theorem ty_134 : tyOf Try.prog 134 = some ⟨4, .struct [⟨0, 3, (some true)⟩, ⟨3, 1, (some false)⟩]⟩ := by kernel_rfl
@[simp] theorem el_134 : elOf Try.prog 134 = some (4, 48) := by kernel_rfl
@[simp] theorem ze_134 : zeroOf Try.prog 134 = some [.d (.v (.int .i64 0)), .d (.v (.int .i64 0)), .nils, .d (.v (.bool false))] := by kernel_rfl
@[simp] theorem ty_135 : tyOf Try.prog 135 = some ⟨1, .other⟩ := by kernel_rfl
@[simp] theorem el_135 : elOf Try.prog 135 = some (1, 8) := by kernel_rfl
@[simp] theorem ze_135 : zeroOf Try.prog 135 = some [.d (.v .nilFunc)] := by kernel_rfl
@[simp] theorem ty_136 : tyOf Try.prog 136 = some ⟨1, .other⟩ := by kernel_rfl
@[simp] theorem el_136 : elOf Try.prog 136 = some (1, 8) := by kernel_rfl
@[simp] theorem ze_136 : zeroOf Try.prog 136 = some [.d (.v .nilFunc)] := by kernel_rfl
@[simp] theorem ty_137 : tyOf Try.prog 137 = some ⟨1, .other⟩ := by kernel_rfl
@[simp] theorem el_137 : elOf Try.prog 137 = some (1, 8) := by kernel_rfl
@[simp] theorem ze_137 : zeroOf Try.prog 137 = some [.d (.v .nilFunc)] := by kernel_rfl
@[simp] theorem ty_138 : tyOf Try.prog 138 = some ⟨1, .other⟩ := by kernel_rfl
@[simp] theorem el_138 : elOf Try.prog 138 = some (1, 8) := by kernel_rfl
@[simp] theorem ze_138 : zeroOf Try.prog 138 = some [.d (.v .nilFunc)] := by kernel_rfl
@[simp] theorem ty_139 : tyOf Try.prog 139 = some ⟨1, .other⟩ := by kernel_rfl
@[simp] theorem el_139 : elOf Try.prog 139 = some (1, 8) := by kernel_rfl
@[simp] theorem ze_139 : zeroOf Try.prog 139 = some [.d (.v .nilFunc)] := by kernel_rfl
@[simp] theorem ty_140 : tyOf Try.prog 140 = some ⟨1, .slice 9 1 (some false)⟩ := by kernel_rfl
@[simp] theorem el_140 : elOf Try.prog 140 = some (1, 24) := by kernel_rfl
@[simp] theorem ze_140 : zeroOf Try.prog 140 = some [.nils] := by kernel_rfl
@[simp] theorem ty_141 : tyOf Try.prog 141 = some ⟨1, .other⟩ := by kernel_rfl
@[simp] theorem el_141 : elOf Try.prog 141 = some (1, 8) := by kernel_rfl
@[simp] theorem ze_141 : zeroOf Try.prog 141 = some [.d (.v .nilFunc)] := by kernel_rfl
@[simp] theorem ty_142 : tyOf Try.prog 142 = some ⟨1, .other⟩ := by kernel_rfl
@[simp] theorem el_142 : elOf Try.prog 142 = some (1, 8) := by kernel_rfl
@[simp] theorem ze_142 : zeroOf Try.prog 142 = some [.d (.v .nilFunc)] := by kernel_rfl
@[simp] theorem ty_143 : tyOf Try.prog 143 = some ⟨1, .other⟩ := by kernel_rfl
@[simp] theorem el_143 : elOf Try.prog 143 = some (1, 8) := by kernel_rfl
@[simp] theorem ze_143 : zeroOf Try.prog 143 = some [.d (.v .nilFunc)] := by kernel_rfl
@[simp] theorem ty_144 : tyOf Try.prog 144 = some ⟨1, .other⟩ := by kernel_rfl
@[simp] theorem el_144 : elOf Try.prog 144 = some (1, 8) := by kernel_rfl
@[simp] theorem ze_144 : zeroOf Try.prog 144 = some [.d (.v .nilFunc)] := by kernel_rfl
@[simp] theorem ty_145 : tyOf Try.prog 145 = some ⟨1, .other⟩ := by kernel_rfl
@[simp] theorem el_145 : elOf Try.prog 145 = some (1, 8) := by kernel_rfl
@[simp] theorem ze_145 : zeroOf Try.prog 145 = some [.d (.v .nilFunc)] := by kernel_rfl
@[simp] theorem ty_146 : tyOf Try.prog 146 = some ⟨3, .struct [⟨0, 1, (some false)⟩, ⟨1, 1, (some false)⟩, ⟨2, 1, (some false)⟩]⟩ := by kernel_rfl
@[simp] theorem el_146 : elOf Try.prog 146 = some (3, 24) := by kernel_rfl
@[simp] theorem ze_146 : zeroOf Try.prog 146 = some [.d (.v (.int .i64 0)), .d (.v (.bool false)), .d (.v .nilFunc)] := by kernel_rfl
@[simp] theorem ty_147 : tyOf Try.prog 147 = some ⟨3, .struct [⟨0, 1, (some false)⟩, ⟨1, 1, (some false)⟩, ⟨2, 1, (some false)⟩]⟩ := by kernel_rfl
@[simp] theorem el_147 : elOf Try.prog 147 = some (3, 24) := by kernel_rfl
@[simp] theorem ze_147 : zeroOf Try.prog 147 = some [.d (.v (.int .i64 0)), .d (.v (.bool false)), .d (.v .nilFunc)] := by kernel_rfl
@[simp] theorem ty_148 : tyOf Try.prog 148 = some ⟨1, .other⟩ := by kernel_rfl
@[simp] theorem el_148 : elOf Try.prog 148 = some (1, 8) := by kernel_rfl
@[simp] theorem ze_148 : zeroOf Try.prog 148 = some [.d (.v .nilFunc)] := by kernel_rfl
@[simp] theorem ty_149 : tyOf Try.prog 149 = some ⟨1, .slice 134 4 (some true)⟩ := by kernel_rfl
@[simp] theorem el_149 : elOf Try.prog 149 = some (1, 24) := by kernel_rfl
@[simp] theorem ze_149 : zeroOf Try.prog 149 = some [.nils] := by kernel_rfl
@[simp] theorem ty_150 : tyOf Try.prog 150 = some ⟨1, .other⟩ := by kernel_rfl
@[simp] theorem el_150 : elOf Try.prog 150 = some (1, 8) := by kernel_rfl
@[simp] theorem ze_150 : zeroOf Try.prog 150 = some [.d (.v .nilFunc)] := by kernel_rfl
@[simp] theorem ty_151 : tyOf Try.prog 151 = some ⟨1, .other⟩ := by kernel_rfl
@[simp] theorem el_151 : elOf Try.prog 151 = some (1, 0) := by kernel_rfl
@[simp] theorem ty_152 : tyOf Try.prog 152 = some ⟨1, .other⟩ := by kernel_rfl
@[simp] theorem el_152 : elOf Try.prog 152 = some (1, 8) := by kernel_rfl
@[simp] theorem ze_152 : zeroOf Try.prog 152 = some [.d (.v .nilFunc)] := by kernel_rfl
@[simp] theorem ty_153 : tyOf Try.prog 153 = some ⟨1, .other⟩ := by kernel_rfl
@[simp] theorem el_153 : elOf Try.prog 153 = some (1, 0) := by kernel_rfl
@[simp] theorem ty_154 : tyOf Try.prog 154 = some ⟨1, .other⟩ := by kernel_rfl
@[simp] theorem el_154 : elOf Try.prog 154 = some (1, 8) := by kernel_rfl
@[simp] theorem ze_154 : zeroOf Try.prog 154 = some [.d (.v .nilFunc)] := by kernel_rfl
@[simp] theorem ty_155 : tyOf Try.prog 155 = some ⟨1, .other⟩ := by kernel_rfl
@[simp] theorem el_155 : elOf Try.prog 155 = some (1, 8) := by kernel_rfl
@[simp] theorem ze_155 : zeroOf Try.prog 155 = some [.d (.v .nilFunc)] := by kernel_rfl
@[simp] theorem ty_156 : tyOf Try.prog 156 = some ⟨1, .other⟩ := by kernel_rfl
@[simp] theorem el_156 : elOf Try.prog 156 = some (1, 8) := by kernel_rfl
@[simp] theorem ze_156 : zeroOf Try.prog 156 = some [.d (.v (.map none))] := by kernel_rfl
@[simp] theorem ty_157 : tyOf Try.prog 157 = some ⟨1, .other⟩ := by kernel_rfl
@[simp] theorem el_157 : elOf Try.prog 157 = some (1, 8) := by kernel_rfl
@[simp] theorem ze_157 : zeroOf Try.prog 157 = some [.d (.v .nilFunc)] := by kernel_rfl
@[simp] theorem ty_158 : tyOf Try.prog 158 = some ⟨1, .other⟩ := by kernel_rfl
@[simp] theorem el_158 : elOf Try.prog 158 = some (1, 8) := by kernel_rfl
@[simp] theorem ze_158 : zeroOf Try.prog 158 = some [.d (.v .nilFunc)] := by kernel_rfl
@[simp] theorem ty_159 : tyOf Try.prog 159 = some ⟨1, .other⟩ := by kernel_rfl
@[simp] theorem el_159 : elOf Try.prog 159 = some (1, 8) := by kernel_rfl
@[simp] theorem ze_159 : zeroOf Try.prog 159 = some [.d (.v .nilFunc)] := by kernel_rfl
@[simp] theorem ty_160 : tyOf Try.prog 160 = some ⟨1, .int .u64⟩ := by kernel_rfl
@[simp] theorem el_160 : elOf Try.prog 160 = some (1, 8) := by kernel_rfl
@[simp] theorem ze_160 : zeroOf Try.prog 160 = some [.d (.v (.int .u64 0))] := by kernel_rfl
@[simp] theorem ty_161 : tyOf Try.prog 161 = some ⟨9, .array 9 1 (some false)⟩ := by kernel_rfl
@[simp] theorem el_161 : elOf Try.prog 161 = some (9, 72) := by kernel_rfl
@[simp] theorem ze_161 : zeroOf Try.prog 161 = some [.d (.v (.int .i64 0)), .d (.v (.int .i64 0)), .d (.v (.int .i64 0)), .d (.v (.int .i64 0)), .d (.v (.int .i64 0)), .d (.v (.int .i64 0)), .d (.v (.int .i64 0)), .d (.v (.int .i64 0)), .d (.v (.int .i64 0))] := by kernel_rfl
@[simp] theorem ty_162 : tyOf Try.prog 162 = some ⟨1, .other⟩ := by kernel_rfl
@[simp] theorem el_162 : elOf Try.prog 162 = some (1, 8) := by kernel_rfl
@[simp] theorem ze_162 : zeroOf Try.prog 162 = some [.d (.v .nilFunc)] := by kernel_rfl
@[simp] theorem ty_163 : tyOf Try.prog 163 = some ⟨1, .other⟩ := by kernel_rfl
@[simp] theorem el_163 : elOf Try.prog 163 = some (1, 8) := by kernel_rfl
@[simp] theorem ze_163 : zeroOf Try.prog 163 = some [.d (.v .nilFunc)] := by kernel_rfl
@[simp] theorem ty_164 : tyOf Try.prog 164 = some ⟨1, .other⟩ := by kernel_rfl
@[simp] theorem el_164 : elOf Try.prog 164 = some (1, 8) := by kernel_rfl
@[simp] theorem ze_164 : zeroOf Try.prog 164 = some [.d (.v .nilFunc)] := by kernel_rfl
@[simp] theorem ty_165 : tyOf Try.prog 165 = some ⟨1, .other⟩ := by kernel_rfl
@[simp] theorem el_165 : elOf Try.prog 165 = some (1, 0) := by kernel_rfl
@[simp] theorem ty_166 : tyOf Try.prog 166 = some ⟨1, .other⟩ := by kernel_rfl
@[simp] theorem el_166 : elOf Try.prog 166 = some (1, 8) := by kernel_rfl
@[simp] theorem ze_166 : zeroOf Try.prog 166 = some [.d (.v .nilFunc)] := by kernel_rfl
@[simp] theorem ty_167 : tyOf Try.prog 167 = some ⟨1, .other⟩ := by kernel_rfl
@[simp] theorem el_167 : elOf Try.prog 167 = some (1, 8) := by kernel_rfl
@[simp] theorem ze_167 : zeroOf Try.prog 167 = some [.d (.v .nilFunc)] := by kernel_rfl
@[simp] theorem ty_168 : tyOf Try.prog 168 = some ⟨1, .other⟩ := by kernel_rfl
@[simp] theorem el_168 : elOf Try.prog 168 = some (1, 8) := by kernel_rfl
@[simp] theorem ze_168 : zeroOf Try.prog 168 = some [.d (.v .nilFunc)] := by kernel_rfl
@[simp] theorem ty_169 : tyOf Try.prog 169 = some ⟨1, .int .i64⟩ := by kernel_rfl
@[simp] theorem el_169 : elOf Try.prog 169 = some (1, 8) := by kernel_rfl
@[simp] theorem ze_169 : zeroOf Try.prog 169 = some [.d (.v (.int .i64 0))] := by kernel_rfl
@[simp] theorem ty_170 : tyOf Try.prog 170 = some ⟨1, .other⟩ := by kernel_rfl
@[simp] theorem el_170 : elOf Try.prog 170 = some (1, 0) := by kernel_rfl
@[simp] theorem ty_171 : tyOf Try.prog 171 = some ⟨1, .other⟩ := by kernel_rfl
@[simp] theorem el_171 : elOf Try.prog 171 = some (1, 8) := by kernel_rfl
@[simp] theorem ze_171 : zeroOf Try.prog 171 = some [.d (.v .nilFunc)] := by kernel_rfl
@[simp] theorem ty_172 : tyOf Try.prog 172 = some ⟨1, .other⟩ := by kernel_rfl
@[simp] theorem el_172 : elOf Try.prog 172 = some (1, 8) := by kernel_rfl
@[simp] theorem ze_172 : zeroOf Try.prog 172 = some [.d (.v .nilFunc)] := by kernel_rfl
@[simp] theorem ty_173 : tyOf Try.prog 173 = some ⟨1, .other⟩ := by kernel_rfl
@[simp] theorem el_173 : elOf Try.prog 173 = some (1, 8) := by kernel_rfl
@[simp] theorem ze_173 : zeroOf Try.prog 173 = some [.d (.v .nilFunc)] := by kernel_rfl
@[simp] theorem ty_174 : tyOf Try.prog 174 = some ⟨1, .other⟩ := by kernel_rfl
@[simp] theorem el_174 : elOf Try.prog 174 = some (1, 8) := by kernel_rfl
@[simp] theorem ze_174 : zeroOf Try.prog 174 = some [.d (.v .nilFunc)] := by kernel_rfl
@[simp] theorem ty_175 : tyOf Try.prog 175 = some ⟨1, .other⟩ := by kernel_rfl
@[simp] theorem el_175 : elOf Try.prog 175 = some (1, 8) := by kernel_rfl
@[simp] theorem ze_175 : zeroOf Try.prog 175 = some [.d (.v .nilFunc)] := by kernel_rfl
@[simp] theorem ty_176 : tyOf Try.prog 176 = some ⟨1, .other⟩ := by kernel_rfl
@[simp] theorem el_176 : elOf Try.prog 176 = some (1, 8) := by kernel_rfl
@[simp] theorem ze_176 : zeroOf Try.prog 176 = some [.d (.v .nilFunc)] := by kernel_rfl
@[simp] theorem ty_177 : tyOf Try.prog 177 = some ⟨1, .int .u32⟩ := by kernel_rfl
@[simp] theorem el_177 : elOf Try.prog 177 = some (1, 4) := by kernel_rfl
@[simp] theorem ze_177 : zeroOf Try.prog 177 = some [.d (.v (.int .u32 0))] := by kernel_rfl
@[simp] theorem ty_178 : tyOf Try.prog 178 = some ⟨1, .other⟩ := by kernel_rfl
@[simp] theorem el_178 : elOf Try.prog 178 = some (1, 8) := by kernel_rfl
@[simp] theorem ze_178 : zeroOf Try.prog 178 = some [.d (.v .nilFunc)] := by kernel_rfl
@[simp] theorem ty_179 : tyOf Try.prog 179 = some ⟨1, .int .u64⟩ := by kernel_rfl
@[simp] theorem el_179 : elOf Try.prog 179 = some (1, 8) := by kernel_rfl
@[simp] theorem ze_179 : zeroOf Try.prog 179 = some [.d (.v (.int .u64 0))] := by kernel_rfl
@[simp] theorem ty_180 : tyOf Try.prog 180 = some ⟨1, .other⟩ := by kernel_rfl
@[simp] theorem el_180 : elOf Try.prog 180 = some (1, 8) := by kernel_rfl
@[simp] theorem ze_180 : zeroOf Try.prog 180 = some [.d (.v .nilFunc)] := by kernel_rfl
@[simp] theorem ty_181 : tyOf Try.prog 181 = some ⟨1, .other⟩ := by kernel_rfl
@[simp] theorem el_181 : elOf Try.prog 181 = some (1, 8) := by kernel_rfl
@[simp] theorem ze_181 : zeroOf Try.prog 181 = some [.d (.v .nilFunc)] := by kernel_rfl
@[simp] theorem ty_182 : tyOf Try.prog 182 = some ⟨1, .other⟩ := by kernel_rfl
@[simp] theorem el_182 : elOf Try.prog 182 = some (1, 0) := by kernel_rfl
@[simp] theorem ty_183 : tyOf Try.prog 183 = some ⟨1, .other⟩ := by kernel_rfl
@[simp] theorem el_183 : elOf Try.prog 183 = some (1, 8) := by kernel_rfl
@[simp] theorem ze_183 : zeroOf Try.prog 183 = some [.d (.v .nilFunc)] := by kernel_rfl
@[simp] theorem ty_184 : tyOf Try.prog 184 = some ⟨1, .int .u64⟩ := by kernel_rfl
@[simp] theorem el_184 : elOf Try.prog 184 = some (1, 8) := by kernel_rfl
@[simp] theorem ze_184 : zeroOf Try.prog 184 = some [.d (.v (.int .u64 0))] := by kernel_rfl
@[simp] theorem ty_185 : tyOf Try.prog 185 = some ⟨1, .other⟩ := by kernel_rfl
@[simp] theorem el_185 : elOf Try.prog 185 = some (1, 8) := by kernel_rfl
@[simp] theorem ze_185 : zeroOf Try.prog 185 = some [.d (.v .nilFunc)] := by kernel_rfl
@[simp] theorem ty_186 : tyOf Try.prog 186 = some ⟨1, .other⟩ := by kernel_rfl
@[simp] theorem el_186 : elOf Try.prog 186 = some (1, 8) := by kernel_rfl
@[simp] theorem ze_186 : zeroOf Try.prog 186 = some [.d (.v .nilFunc)] := by kernel_rfl
@[simp] theorem ty_187 : tyOf Try.prog 187 = some ⟨1, .other⟩ := by kernel_rfl
@[simp] theorem el_187 : elOf Try.prog 187 = some (1, 8) := by kernel_rfl
@[simp] theorem ze_187 : zeroOf Try.prog 187 = some [.d (.v .nilFunc)] := by kernel_rfl
@[simp] theorem ty_188 : tyOf Try.prog 188 = some ⟨1, .other⟩ := by kernel_rfl
@[simp] theorem el_188 : elOf Try.prog 188 = some (1, 8) := by kernel_rfl
@[simp] theorem ze_188 : zeroOf Try.prog 188 = some [.d (.v (.pointer none))] := by kernel_rfl
@[simp] theorem ty_189 : tyOf Try.prog 189 = some ⟨1, .other⟩ := by kernel_rfl
@[simp] theorem el_189 : elOf Try.prog 189 = some (1, 8) := by kernel_rfl
@[simp] theorem ze_189 : zeroOf Try.prog 189 = some [.d (.v .nilFunc)] := by kernel_rfl
@[simp] theorem ty_190 : tyOf Try.prog 190 = some ⟨1, .other⟩ := by kernel_rfl
@[simp] theorem el_190 : elOf Try.prog 190 = some (1, 0) := by kernel_rfl
@[simp] theorem ty_191 : tyOf Try.prog 191 = some ⟨1, .other⟩ := by kernel_rfl
@[simp] theorem el_191 : elOf Try.prog 191 = some (1, 8) := by kernel_rfl
@[simp] theorem ze_191 : zeroOf Try.prog 191 = some [.d (.v .nilFunc)] := by kernel_rfl
@[simp] theorem ty_192 : tyOf Try.prog 192 = some ⟨1, .other⟩ := by kernel_rfl
@[simp] theorem el_192 : elOf Try.prog 192 = some (1, 8) := by kernel_rfl
@[simp] theorem ze_192 : zeroOf Try.prog 192 = some [.d (.v (.pointer none))] := by kernel_rfl
@[simp] theorem ty_193 : tyOf Try.prog 193 = some ⟨1, .other⟩ := by kernel_rfl
@[simp] theorem el_193 : elOf Try.prog 193 = some (1, 8) := by kernel_rfl
@[simp] theorem ze_193 : zeroOf Try.prog 193 = some [.d (.v .nilFunc)] := by kernel_rfl
@[simp] theorem ty_194 : tyOf Try.prog 194 = some ⟨1, .other⟩ := by kernel_rfl
@[simp] theorem el_194 : elOf Try.prog 194 = some (1, 8) := by kernel_rfl
@[simp] theorem ze_194 : zeroOf Try.prog 194 = some [.d (.v .nilFunc)] := by kernel_rfl
@[simp] theorem ty_195 : tyOf Try.prog 195 = some ⟨4, .struct [⟨0, 1, (some false)⟩, ⟨1, 1, (some false)⟩, ⟨2, 1, (some false)⟩, ⟨3, 1, (some false)⟩]⟩ := by kernel_rfl
@[simp] theorem el_195 : elOf Try.prog 195 = some (4, 40) := by kernel_rfl
@[simp] theorem ze_195 : zeroOf Try.prog 195 = some [.d (.v (.pointer none)), .d (.v (.pointer none)), .d (.v (.pointer none)), .d (.v (.string ByteArray.empty))] := by kernel_rfl
@[simp] theorem ty_196 : tyOf Try.prog 196 = some ⟨4, .struct [⟨0, 1, (some false)⟩, ⟨1, 1, (some false)⟩, ⟨2, 1, (some false)⟩, ⟨3, 1, (some false)⟩]⟩ := by kernel_rfl
@[simp] theorem el_196 : elOf Try.prog 196 = some (4, 40) := by kernel_rfl
@[simp] theorem ze_196 : zeroOf Try.prog 196 = some [.d (.v (.pointer none)), .d (.v (.pointer none)), .d (.v (.pointer none)), .d (.v (.string ByteArray.empty))] := by kernel_rfl
@[simp] theorem ty_197 : tyOf Try.prog 197 = some ⟨0, .array 0 1 (some false)⟩ := by kernel_rfl
@[simp] theorem el_197 : elOf Try.prog 197 = some (0, 0) := by kernel_rfl
@[simp] theorem ze_197 : zeroOf Try.prog 197 = some [] := by kernel_rfl
@[simp] theorem ty_198 : tyOf Try.prog 198 = some ⟨0, .struct [⟨0, 0, (some true)⟩]⟩ := by kernel_rfl
@[simp] theorem el_198 : elOf Try.prog 198 = some (0, 0) := by kernel_rfl
@[simp] theorem ze_198 : zeroOf Try.prog 198 = some [] := by kernel_rfl
@[simp] theorem ty_199 : tyOf Try.prog 199 = some ⟨0, .struct [⟨0, 0, (some true)⟩]⟩ := by kernel_rfl
@[simp] theorem el_199 : elOf Try.prog 199 = some (0, 0) := by kernel_rfl
@[simp] theorem ze_199 : zeroOf Try.prog 199 = some [] := by kernel_rfl
@[simp] theorem ty_200 : tyOf Try.prog 200 = some ⟨1, .other⟩ := by kernel_rfl
@[simp] theorem el_200 : elOf Try.prog 200 = some (1, 8) := by kernel_rfl
@[simp] theorem ze_200 : zeroOf Try.prog 200 = some [.d (.v .nilFunc)] := by kernel_rfl
@[simp] theorem ty_201 : tyOf Try.prog 201 = some ⟨1, .int .u8⟩ := by kernel_rfl
@[simp] theorem el_201 : elOf Try.prog 201 = some (1, 1) := by kernel_rfl
@[simp] theorem ze_201 : zeroOf Try.prog 201 = some [.d (.v (.int .u8 0))] := by kernel_rfl
@[simp] theorem ty_202 : tyOf Try.prog 202 = some ⟨1, .int .u8⟩ := by kernel_rfl
@[simp] theorem el_202 : elOf Try.prog 202 = some (1, 1) := by kernel_rfl
@[simp] theorem ze_202 : zeroOf Try.prog 202 = some [.d (.v (.int .u8 0))] := by kernel_rfl
@[simp] theorem ty_203 : tyOf Try.prog 203 = some ⟨1, .other⟩ := by kernel_rfl
@[simp] theorem el_203 : elOf Try.prog 203 = some (1, 8) := by kernel_rfl
@[simp] theorem ze_203 : zeroOf Try.prog 203 = some [.d (.v .nilFunc)] := by kernel_rfl
@[simp] theorem ty_204 : tyOf Try.prog 204 = some ⟨1, .other⟩ := by kernel_rfl
@[simp] theorem el_204 : elOf Try.prog 204 = some (1, 8) := by kernel_rfl
@[simp] theorem ze_204 : zeroOf Try.prog 204 = some [.d (.v (.pointer none))] := by kernel_rfl
@[simp] theorem ty_205 : tyOf Try.prog 205 = some ⟨1, .int .i32⟩ := by kernel_rfl
@[simp] theorem el_205 : elOf Try.prog 205 = some (1, 4) := by kernel_rfl
@[simp] theorem ze_205 : zeroOf Try.prog 205 = some [.d (.v (.int .i32 0))] := by kernel_rfl
@[simp] theorem ty_206 : tyOf Try.prog 206 = some ⟨1, .int .i32⟩ := by kernel_rfl
@[simp] theorem el_206 : elOf Try.prog 206 = some (1, 4) := by kernel_rfl
@[simp] theorem ze_206 : zeroOf Try.prog 206 = some [.d (.v (.int .i32 0))] := by kernel_rfl
@[simp] theorem ty_207 : tyOf Try.prog 207 = some ⟨11, .struct [⟨0, 1, (some false)⟩, ⟨1, 1, (some false)⟩, ⟨2, 1, (some false)⟩, ⟨3, 1, (some false)⟩, ⟨4, 1, (some false)⟩, ⟨5, 1, (some false)⟩, ⟨6, 1, (some false)⟩, ⟨7, 1, (some false)⟩, ⟨8, 1, (some false)⟩, ⟨9, 1, (some false)⟩, ⟨10, 1, (some false)⟩]⟩ := by kernel_rfl
@[simp] theorem el_207 : elOf Try.prog 207 = some (11, 48) := by kernel_rfl
@[simp] theorem ze_207 : zeroOf Try.prog 207 = some [.d (.v (.int .u64 0)), .d (.v (.int .u64 0)), .d (.v (.int .u32 0)), .d (.v (.int .u8 0)), .d (.v (.int .u8 0)), .d (.v (.int .u8 0)), .d (.v (.int .u8 0)), .d (.v .nilFunc), .d (.v (.pointer none)), .d (.v (.int .i32 0)), .d (.v (.int .i32 0))] := by kernel_rfl
@[simp] theorem ty_208 : tyOf Try.prog 208 = some ⟨11, .struct [⟨0, 1, (some false)⟩, ⟨1, 1, (some false)⟩, ⟨2, 1, (some false)⟩, ⟨3, 1, (some false)⟩, ⟨4, 1, (some false)⟩, ⟨5, 1, (some false)⟩, ⟨6, 1, (some false)⟩, ⟨7, 1, (some false)⟩, ⟨8, 1, (some false)⟩, ⟨9, 1, (some false)⟩, ⟨10, 1, (some false)⟩]⟩ := by kernel_rfl
@[simp] theorem el_208 : elOf Try.prog 208 = some (11, 48) := by kernel_rfl
@[simp] theorem ze_208 : zeroOf Try.prog 208 = some [.d (.v (.int .u64 0)), .d (.v (.int .u64 0)), .d (.v (.int .u32 0)), .d (.v (.int .u8 0)), .d (.v (.int .u8 0)), .d (.v (.int .u8 0)), .d (.v (.int .u8 0)), .d (.v .nilFunc), .d (.v (.pointer none)), .d (.v (.int .i32 0)), .d (.v (.int .i32 0))] := by kernel_rfl
@[simp] theorem ty_209 : tyOf Try.prog 209 = some ⟨1, .other⟩ := by kernel_rfl
@[simp] theorem el_209 : elOf Try.prog 209 = some (1, 8) := by kernel_rfl
@[simp] theorem ze_209 : zeroOf Try.prog 209 = some [.d (.v (.pointer none))] := by kernel_rfl
end Go.Proofs.Ytfnfbbmegdkhjaa
