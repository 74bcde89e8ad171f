/-
  Contracts of the kit's shelf, laid at this seat: slices.Sort, slices.Compact at lists of numbers: the table of numbers, and that the bodies are the shelf's.
-/
import Derived.Test.YtegpahamenjiaaaGreatAids
import Derived.Shelf.Sort.Plain
import Derived.Shelf.Slices.In.SortNone
import Derived.Shelf.Slices.CompactI
namespace Go.Proofs.YtegpahamenjiaaaGreat
open Go.Shelf
def lays189_ren : Go.Shelf.Ren := ⟨fun | 189 => 177 | 125 => 168 | 257 => 209 | 128 => 204 | 129 => 205 | 294 => 230 | 295 => 231 | 296 => 232 | 297 => 233 | 298 => 234 | 299 => 235 | 216 => 236 | 300 => 237 | 301 => 238 | 328 => 245 | 329 => 225 | 330 => 226 | 331 => 246 | 332 => 247 | 215 => 169 | 343 => 249 | n => n, fun | 28 => 23 | 3 => 3 | 46 => 245 | 0 => 0 | 51 => 268 | 53 => 35 | 4 => 4 | 183 => 262 | 182 => 261 | 131 => 61 | 5 => 5 | 9 => 9 | 218 => 278 | 222 => 282 | 228 => 295 | 229 => 296 | n => n, fun | n => n⟩
theorem lays189 : Go.Proofs.Lays.n189 Tryz.prog lays189_ren := {
  mixed := by kernel_rfl
  f125 := Tryz.func168.trans (congrArg some (by kernel_rfl))
  f128 := Tryz.func204.trans (congrArg some (by kernel_rfl))
  f129 := Tryz.func205.trans (congrArg some (by kernel_rfl))
  f189 := Tryz.func177.trans (congrArg some (by kernel_rfl))
  f215 := Tryz.func169.trans (congrArg some (by kernel_rfl))
  f216 := Tryz.func236.trans (congrArg some (by kernel_rfl))
  f257 := Tryz.func209.trans (congrArg some (by kernel_rfl))
  f294 := Tryz.func230.trans (congrArg some (by kernel_rfl))
  f295 := Tryz.func231.trans (congrArg some (by kernel_rfl))
  f296 := Tryz.func232.trans (congrArg some (by kernel_rfl))
  f297 := Tryz.func233.trans (congrArg some (by kernel_rfl))
  f298 := Tryz.func234.trans (congrArg some (by kernel_rfl))
  f299 := Tryz.func235.trans (congrArg some (by kernel_rfl))
  f300 := Tryz.func237.trans (congrArg some (by kernel_rfl))
  f301 := Tryz.func238.trans (congrArg some (by kernel_rfl))
  f328 := Tryz.func245.trans (congrArg some (by kernel_rfl))
  f329 := Tryz.func225.trans (congrArg some (by kernel_rfl))
  f330 := Tryz.func226.trans (congrArg some (by kernel_rfl))
  f331 := Tryz.func246.trans (congrArg some (by kernel_rfl))
  f332 := Tryz.func247.trans (congrArg some (by kernel_rfl))
  f343 := Tryz.func249.trans (congrArg some (by kernel_rfl))
  t0 := Tryz.underlying0
  a0 := Tryz.isAgg0
  z0 := Tryz.sizeOf0
  v0 := Tryz.zeroValue0
  t3 := Tryz.underlying3
  a3 := Tryz.isAgg3
  z3 := Tryz.sizeOf3
  v3 := Tryz.zeroValue3
  t4 := Tryz.underlying4
  a4 := Tryz.isAgg4
  z4 := Tryz.sizeOf4
  v4 := Tryz.zeroValue4
  t5 := Tryz.underlying5
  a5 := Tryz.isAgg5
  z5 := Tryz.sizeOf5
  v5 := Tryz.zeroValue5
  t9 := Tryz.underlying9
  a9 := Tryz.isAgg9
  z9 := Tryz.sizeOf9
  v9 := Tryz.zeroValue9
  t28 := Tryz.underlying23
  a28 := Tryz.isAgg23
  z28 := Tryz.sizeOf23
  v28 := Tryz.zeroValue23
  t46 := Tryz.underlying245
  a46 := Tryz.isAgg245
  z46 := Tryz.sizeOf245
  v46 := Tryz.zeroValue245
  t51 := Tryz.underlying268
  a51 := Tryz.isAgg268
  z51 := Tryz.sizeOf268
  v51 := Tryz.zeroValue268
  t53 := Tryz.underlying35
  a53 := Tryz.isAgg35
  z53 := Tryz.sizeOf35
  v53 := Tryz.zeroValue35
  t131 := Tryz.underlying61
  a131 := Tryz.isAgg61
  z131 := Tryz.sizeOf61
  v131 := Tryz.zeroValue61
  t182 := Tryz.underlying261
  a182 := Tryz.isAgg261
  z182 := Tryz.sizeOf261
  v182 := Tryz.zeroValue261
  t183 := Tryz.underlying262
  a183 := Tryz.isAgg262
  z183 := Tryz.sizeOf262
  v183 := Tryz.zeroValue262
  t218 := Tryz.underlying278
  a218 := Tryz.isAgg278
  z218 := Tryz.sizeOf278
  v218 := Tryz.zeroValue278
  t222 := Tryz.underlying282
  a222 := Tryz.isAgg282
  z222 := Tryz.sizeOf282
  v222 := Tryz.zeroValue282
  t228 := Tryz.underlying295
  a228 := Tryz.isAgg295
  z228 := Tryz.sizeOf295
  v228 := Tryz.zeroValue295
  t229 := Tryz.underlying296
  a229 := Tryz.isAgg296
  z229 := Tryz.sizeOf296
  v229 := Tryz.zeroValue296 }
def laysB20_ren : Go.Shelf.Ren := ⟨fun | 20 => 178 | n => n, fun | 22 => 23 | 3 => 3 | 4 => 4 | 0 => 0 | n => n, fun | n => n⟩
theorem laysB20 : Go.Proofs.Lays2.n20 Tryz.prog laysB20_ren := {
  mixed := by kernel_rfl
  f20 := Tryz.func178.trans (congrArg some (by kernel_rfl))
  t0 := Tryz.underlying0
  a0 := Tryz.isAgg0
  z0 := Tryz.sizeOf0
  v0 := Tryz.zeroValue0
  t3 := Tryz.underlying3
  a3 := Tryz.isAgg3
  z3 := Tryz.sizeOf3
  v3 := Tryz.zeroValue3
  t4 := Tryz.underlying4
  a4 := Tryz.isAgg4
  z4 := Tryz.sizeOf4
  v4 := Tryz.zeroValue4
  t22 := Tryz.underlying23
  a22 := Tryz.isAgg23
  z22 := Tryz.sizeOf23
  v22 := Tryz.zeroValue23
  i3 := by kernel_rfl }
end Go.Proofs.YtegpahamenjiaaaGreat
