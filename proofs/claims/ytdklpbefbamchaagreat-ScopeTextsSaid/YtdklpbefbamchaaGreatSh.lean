import Derived.Shelf.Sort.Plain
import Derived.Ground.NamesProg
import Derived.Shelf.Slices.CompactI
import Derived.Ground.Names2Prog
import Derived.Test.YtdklpbefbamchaaGreatProg
set_option linter.unusedSimpArgs false
set_option linter.unusedVariables false
set_option maxHeartbeats 16000000
set_option maxRecDepth 100000
namespace Go.Proofs.YtdklpbefbamchaaGreat
open Go.Shelf
def Tryz.lays189_ren : Go.Shelf.Ren := ⟨fun | 189 => 259 | 125 => 292 | 257 => 291 | 128 => 311 | 129 => 312 | 294 => 302 | 295 => 303 | 296 => 304 | 297 => 305 | 298 => 306 | 299 => 307 | 216 => 308 | 300 => 309 | 301 => 310 | 328 => 315 | 329 => 316 | 330 => 317 | 331 => 318 | 332 => 319 | 215 => 320 | 343 => 321 | n => n, fun | 28 => 38 | 3 => 3 | 46 => 274 | 0 => 0 | 51 => 287 | 53 => 289 | 4 => 4 | 183 => 281 | 182 => 280 | 131 => 214 | 5 => 5 | 9 => 9 | 218 => 291 | 222 => 295 | 228 => 297 | 229 => 277 | n => n, fun | n => n⟩
theorem Tryz.lays189 : Go.Proofs.Lays.n189 Tryz.prog Tryz.lays189_ren := {
 mixed := by kernel_rfl
 f125 := Tryz.func292.trans (congrArg some (by kernel_rfl))
 f128 := Tryz.func311.trans (congrArg some (by kernel_rfl))
 f129 := Tryz.func312.trans (congrArg some (by kernel_rfl))
 f189 := Tryz.func259.trans (congrArg some (by kernel_rfl))
 f215 := Tryz.func320.trans (congrArg some (by kernel_rfl))
 f216 := Tryz.func308.trans (congrArg some (by kernel_rfl))
 f257 := Tryz.func291.trans (congrArg some (by kernel_rfl))
 f294 := Tryz.func302.trans (congrArg some (by kernel_rfl))
 f295 := Tryz.func303.trans (congrArg some (by kernel_rfl))
 f296 := Tryz.func304.trans (congrArg some (by kernel_rfl))
 f297 := Tryz.func305.trans (congrArg some (by kernel_rfl))
 f298 := Tryz.func306.trans (congrArg some (by kernel_rfl))
 f299 := Tryz.func307.trans (congrArg some (by kernel_rfl))
 f300 := Tryz.func309.trans (congrArg some (by kernel_rfl))
 f301 := Tryz.func310.trans (congrArg some (by kernel_rfl))
 f328 := Tryz.func315.trans (congrArg some (by kernel_rfl))
 f329 := Tryz.func316.trans (congrArg some (by kernel_rfl))
 f330 := Tryz.func317.trans (congrArg some (by kernel_rfl))
 f331 := Tryz.func318.trans (congrArg some (by kernel_rfl))
 f332 := Tryz.func319.trans (congrArg some (by kernel_rfl))
 f343 := Tryz.func321.trans (congrArg some (by kernel_rfl))
 t0 := Tryz.underlying0
 a0 := Tryz.isAgg0
 z0 := Tryz.sizeOf0
 v0 := Tryz.zeroValue0
 t3 := Tryz.underlying3
 a3 := Tryz.isAgg3
 z3 := Tryz.sizeOf3
 v3 := Tryz.zeroValue3
 t4 := Tryz.underlying4
 a4 := Tryz.isAgg4
 z4 := Tryz.sizeOf4
 v4 := Tryz.zeroValue4
 t5 := Tryz.underlying5
 a5 := Tryz.isAgg5
 z5 := Tryz.sizeOf5
 v5 := Tryz.zeroValue5
 t9 := Tryz.underlying9
 a9 := Tryz.isAgg9
 z9 := Tryz.sizeOf9
 v9 := Tryz.zeroValue9
 t28 := Tryz.underlying38
 a28 := Tryz.isAgg38
 z28 := Tryz.sizeOf38
 v28 := Tryz.zeroValue38
 t46 := Tryz.underlying274
 a46 := Tryz.isAgg274
 z46 := Tryz.sizeOf274
 v46 := Tryz.zeroValue274
 t51 := Tryz.underlying287
 a51 := Tryz.isAgg287
 z51 := Tryz.sizeOf287
 v51 := Tryz.zeroValue287
 t53 := Tryz.underlying289
 a53 := Tryz.isAgg289
 z53 := Tryz.sizeOf289
 v53 := Tryz.zeroValue289
 t131 := Tryz.underlying214
 a131 := Tryz.isAgg214
 z131 := Tryz.sizeOf214
 v131 := Tryz.zeroValue214
 t182 := Tryz.underlying280
 a182 := Tryz.isAgg280
 z182 := Tryz.sizeOf280
 v182 := Tryz.zeroValue280
 t183 := Tryz.underlying281
 a183 := Tryz.isAgg281
 z183 := Tryz.sizeOf281
 v183 := Tryz.zeroValue281
 t218 := Tryz.underlying291
 a218 := Tryz.isAgg291
 z218 := Tryz.sizeOf291
 v218 := Tryz.zeroValue291
 t222 := Tryz.underlying295
 a222 := Tryz.isAgg295
 z222 := Tryz.sizeOf295
 v222 := Tryz.zeroValue295
 t228 := Tryz.underlying297
 a228 := Tryz.isAgg297
 z228 := Tryz.sizeOf297
 v228 := Tryz.zeroValue297
 t229 := Tryz.underlying277
 a229 := Tryz.isAgg277
 z229 := Tryz.sizeOf277
 v229 := Tryz.zeroValue277 }
def Tryz.laysNm220_ren : Go.Shelf.Ren := ⟨fun | 20 => 260 | n => n, fun | 22 => 38 | 3 => 3 | 4 => 4 | 0 => 0 | n => n, fun | n => n⟩
theorem Tryz.laysNm220 : Go.Proofs.Lays2.n20 Tryz.prog Tryz.laysNm220_ren := {
 mixed := by kernel_rfl
 f20 := Tryz.func260.trans (congrArg some (by kernel_rfl))
 t0 := Tryz.underlying0
 a0 := Tryz.isAgg0
 z0 := Tryz.sizeOf0
 v0 := Tryz.zeroValue0
 t3 := Tryz.underlying3
 a3 := Tryz.isAgg3
 z3 := Tryz.sizeOf3
 v3 := Tryz.zeroValue3
 t4 := Tryz.underlying4
 a4 := Tryz.isAgg4
 z4 := Tryz.sizeOf4
 v4 := Tryz.zeroValue4
 t22 := Tryz.underlying38
 a22 := Tryz.isAgg38
 z22 := Tryz.sizeOf38
 v22 := Tryz.zeroValue38
 i3 := by kernel_rfl }
end Go.Proofs.YtdklpbefbamchaaGreat
