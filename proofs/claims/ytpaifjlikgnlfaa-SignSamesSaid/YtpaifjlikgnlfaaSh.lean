import Derived.Shelf.Sort.Plain
import Derived.Ground.NamesProg
import Derived.Shelf.Slices.CompactI
import Derived.Ground.Names2Prog
import Derived.Test.YtpaifjlikgnlfaaProg
set_option linter.unusedSimpArgs false
set_option linter.unusedVariables false
set_option maxHeartbeats 16000000
set_option maxRecDepth 100000
namespace Go.Proofs.Ytpaifjlikgnlfaa
open Go.Shelf
def Try.lays189_ren : Go.Shelf.Ren := ⟨fun | 189 => 75 | 125 => 78 | 257 => 77 | 128 => 88 | 129 => 89 | 294 => 79 | 295 => 80 | 296 => 81 | 297 => 82 | 298 => 83 | 299 => 84 | 216 => 85 | 300 => 86 | 301 => 87 | 328 => 90 | 329 => 91 | 330 => 92 | 331 => 93 | 332 => 94 | 215 => 95 | 343 => 96 | n => n, fun | 28 => 31 | 3 => 3 | 46 => 83 | 0 => 0 | 51 => 98 | 53 => 100 | 4 => 4 | 183 => 90 | 182 => 89 | 131 => 95 | 5 => 5 | 9 => 9 | 218 => 101 | 222 => 105 | 228 => 107 | 229 => 81 | n => n, fun | n => n⟩
theorem Try.lays189 : Go.Proofs.Lays.n189 Try.prog Try.lays189_ren := {
 mixed := by kernel_rfl
 f125 := Try.func78.trans (congrArg some (by kernel_rfl))
 f128 := Try.func88.trans (congrArg some (by kernel_rfl))
 f129 := Try.func89.trans (congrArg some (by kernel_rfl))
 f189 := Try.func75.trans (congrArg some (by kernel_rfl))
 f215 := Try.func95.trans (congrArg some (by kernel_rfl))
 f216 := Try.func85.trans (congrArg some (by kernel_rfl))
 f257 := Try.func77.trans (congrArg some (by kernel_rfl))
 f294 := Try.func79.trans (congrArg some (by kernel_rfl))
 f295 := Try.func80.trans (congrArg some (by kernel_rfl))
 f296 := Try.func81.trans (congrArg some (by kernel_rfl))
 f297 := Try.func82.trans (congrArg some (by kernel_rfl))
 f298 := Try.func83.trans (congrArg some (by kernel_rfl))
 f299 := Try.func84.trans (congrArg some (by kernel_rfl))
 f300 := Try.func86.trans (congrArg some (by kernel_rfl))
 f301 := Try.func87.trans (congrArg some (by kernel_rfl))
 f328 := Try.func90.trans (congrArg some (by kernel_rfl))
 f329 := Try.func91.trans (congrArg some (by kernel_rfl))
 f330 := Try.func92.trans (congrArg some (by kernel_rfl))
 f331 := Try.func93.trans (congrArg some (by kernel_rfl))
 f332 := Try.func94.trans (congrArg some (by kernel_rfl))
 f343 := Try.func96.trans (congrArg some (by kernel_rfl))
 t0 := Try.underlying0
 a0 := Try.isAgg0
 z0 := Try.sizeOf0
 v0 := Try.zeroValue0
 t3 := Try.underlying3
 a3 := Try.isAgg3
 z3 := Try.sizeOf3
 v3 := Try.zeroValue3
 t4 := Try.underlying4
 a4 := Try.isAgg4
 z4 := Try.sizeOf4
 v4 := Try.zeroValue4
 t5 := Try.underlying5
 a5 := Try.isAgg5
 z5 := Try.sizeOf5
 v5 := Try.zeroValue5
 t9 := Try.underlying9
 a9 := Try.isAgg9
 z9 := Try.sizeOf9
 v9 := Try.zeroValue9
 t28 := Try.underlying31
 a28 := Try.isAgg31
 z28 := Try.sizeOf31
 v28 := Try.zeroValue31
 t46 := Try.underlying83
 a46 := Try.isAgg83
 z46 := Try.sizeOf83
 v46 := Try.zeroValue83
 t51 := Try.underlying98
 a51 := Try.isAgg98
 z51 := Try.sizeOf98
 v51 := Try.zeroValue98
 t53 := Try.underlying100
 a53 := Try.isAgg100
 z53 := Try.sizeOf100
 v53 := Try.zeroValue100
 t131 := Try.underlying95
 a131 := Try.isAgg95
 z131 := Try.sizeOf95
 v131 := Try.zeroValue95
 t182 := Try.underlying89
 a182 := Try.isAgg89
 z182 := Try.sizeOf89
 v182 := Try.zeroValue89
 t183 := Try.underlying90
 a183 := Try.isAgg90
 z183 := Try.sizeOf90
 v183 := Try.zeroValue90
 t218 := Try.underlying101
 a218 := Try.isAgg101
 z218 := Try.sizeOf101
 v218 := Try.zeroValue101
 t222 := Try.underlying105
 a222 := Try.isAgg105
 z222 := Try.sizeOf105
 v222 := Try.zeroValue105
 t228 := Try.underlying107
 a228 := Try.isAgg107
 z228 := Try.sizeOf107
 v228 := Try.zeroValue107
 t229 := Try.underlying81
 a229 := Try.isAgg81
 z229 := Try.sizeOf81
 v229 := Try.zeroValue81 }
def Try.laysNm220_ren : Go.Shelf.Ren := ⟨fun | 20 => 76 | n => n, fun | 22 => 31 | 3 => 3 | 4 => 4 | 0 => 0 | n => n, fun | n => n⟩
theorem Try.laysNm220 : Go.Proofs.Lays2.n20 Try.prog Try.laysNm220_ren := {
 mixed := by kernel_rfl
 f20 := Try.func76.trans (congrArg some (by kernel_rfl))
 t0 := Try.underlying0
 a0 := Try.isAgg0
 z0 := Try.sizeOf0
 v0 := Try.zeroValue0
 t3 := Try.underlying3
 a3 := Try.isAgg3
 z3 := Try.sizeOf3
 v3 := Try.zeroValue3
 t4 := Try.underlying4
 a4 := Try.isAgg4
 z4 := Try.sizeOf4
 v4 := Try.zeroValue4
 t22 := Try.underlying31
 a22 := Try.isAgg31
 z22 := Try.sizeOf31
 v22 := Try.zeroValue31
 i3 := by kernel_rfl }
end Go.Proofs.Ytpaifjlikgnlfaa
