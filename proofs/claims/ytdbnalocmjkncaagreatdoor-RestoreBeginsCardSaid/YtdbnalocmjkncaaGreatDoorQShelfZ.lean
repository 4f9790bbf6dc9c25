/-
  The contracts of maps.Keys and slices.Sorted, laid by the shelf over this translation.
-/
import Derived.Shelf.SlGeneric
import Derived.Shelf.SlIter.Nil
import Derived.Ground.GgzProg
import Derived.Test.YtdbnalocmjkncaaGreatDoorProg
namespace Go.Proofs
open Go.Shelf
def Tryz.keysA_ren : Go.Shelf.Ren := ⟨fun | 7 => 151 | 10 => 195 | n => n, fun | 23 => 79 | 26 => 9 | 3 => 77 | 28 => 229 | 0 => 0 | 27 => 228 | 33 => 61 | 4 => 4 | n => n, fun | n => n⟩
theorem Tryz.keysA : Go.Proofs.SlLaysZ.n7 Tryz.prog Tryz.keysA_ren := {
  mixed := by kernel_rfl
  f7 := ⟨Tryz.f151.name, by decide, Tryz.func151.trans (congrArg some (by kernel_rfl))⟩
  f10 := ⟨Tryz.f195.name, by decide, Tryz.func195.trans (congrArg some (by kernel_rfl))⟩
  t0 := Tryz.underlying0
  a0 := Tryz.isAgg0
  z0 := Tryz.sizeOf0
  v0 := Tryz.zeroValue0
  t4 := Tryz.underlying4
  a4 := Tryz.isAgg4
  z4 := Tryz.sizeOf4
  v4 := Tryz.zeroValue4
  t23 := Tryz.underlying79
  a23 := Tryz.isAgg79
  z23 := Tryz.sizeOf79
  v23 := Tryz.zeroValue79
  t26 := Tryz.underlying9
  a26 := Tryz.isAgg9
  z26 := Tryz.sizeOf9
  v26 := Tryz.zeroValue9
  t27 := Tryz.underlying228
  a27 := Tryz.isAgg228
  z27 := Tryz.sizeOf228
  v27 := Tryz.zeroValue228
  t28 := Tryz.underlying229
  a28 := Tryz.isAgg229
  z28 := Tryz.sizeOf229
  v28 := Tryz.zeroValue229
  t33 := Tryz.underlying61
  a33 := Tryz.isAgg61
  z33 := Tryz.sizeOf61
  v33 := Tryz.zeroValue61 }
def Tryz.sortedA_ren : Go.Shelf.Ren := ⟨fun | 6 => 150 | 8 => 193 | 9 => 194 | 11 => 235 | 13 => 237 | 12 => 236 | 23 => 263 | 24 => 264 | 14 => 254 | 15 => 255 | 16 => 256 | 17 => 257 | 18 => 258 | 19 => 259 | 20 => 260 | 21 => 261 | 22 => 262 | 25 => 272 | 26 => 273 | 27 => 274 | 28 => 275 | 29 => 276 | 30 => 277 | 31 => 279 | n => n, fun | 26 => 9 | 28 => 229 | 24 => 44 | 0 => 0 | 3 => 3 | 37 => 304 | 48 => 326 | 50 => 329 | 4 => 4 | 40 => 339 | 39 => 338 | 45 => 343 | 5 => 5 | 9 => 9 | 51 => 354 | 55 => 303 | 57 => 361 | 58 => 216 | 33 => 61 | n => n, fun | n => n⟩
theorem Tryz.sortedA : Go.Proofs.SlLaysZ.n6 Tryz.prog Tryz.sortedA_ren := {
  mixed := by kernel_rfl
  f6 := ⟨Tryz.f150.name, by decide, Tryz.func150.trans (congrArg some (by kernel_rfl))⟩
  f8 := ⟨Tryz.f193.name, by decide, Tryz.func193.trans (congrArg some (by kernel_rfl))⟩
  f11 := ⟨Tryz.f235.name, by decide, Tryz.func235.trans (congrArg some (by kernel_rfl))⟩
  t0 := Tryz.underlying0
  a0 := Tryz.isAgg0
  z0 := Tryz.sizeOf0
  v0 := Tryz.zeroValue0
  t24 := Tryz.underlying44
  a24 := Tryz.isAgg44
  z24 := Tryz.sizeOf44
  v24 := Tryz.zeroValue44
  t26 := Tryz.underlying9
  a26 := Tryz.isAgg9
  z26 := Tryz.sizeOf9
  v26 := Tryz.zeroValue9
  t28 := Tryz.underlying229
  a28 := Tryz.isAgg229
  z28 := Tryz.sizeOf229
  v28 := Tryz.zeroValue229
  i26 := by kernel_rfl }
end Go.Proofs
