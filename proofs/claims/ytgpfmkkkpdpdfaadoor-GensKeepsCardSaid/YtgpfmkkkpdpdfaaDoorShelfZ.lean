/-
  The contracts of maps.Keys and slices.Sorted, laid by the shelf over this translation.
-/
import Derived.Shelf.SlGeneric
import Derived.Shelf.SlIter.Nil
import Derived.Ground.GgzProg
import Derived.Test.YtgpfmkkkpdpdfaaDoorProg
namespace Go.Proofs
open Go.Shelf
def Tryd.keysA_ren : Go.Shelf.Ren := ⟨fun | 7 => 78 | 10 => 107 | n => n, fun | 23 => 86 | 26 => 9 | 3 => 84 | 28 => 124 | 0 => 0 | 27 => 123 | 33 => 61 | 4 => 4 | n => n, fun | n => n⟩
theorem Tryd.keysA : Go.Proofs.SlLaysZ.n7 Tryd.prog Tryd.keysA_ren := {
  mixed := by kernel_rfl
  f7 := ⟨Tryd.f78.name, by decide, Tryd.func78.trans (congrArg some (by kernel_rfl))⟩
  f10 := ⟨Tryd.f107.name, by decide, Tryd.func107.trans (congrArg some (by kernel_rfl))⟩
  t0 := Tryd.underlying0
  a0 := Tryd.isAgg0
  z0 := Tryd.sizeOf0
  v0 := Tryd.zeroValue0
  t4 := Tryd.underlying4
  a4 := Tryd.isAgg4
  z4 := Tryd.sizeOf4
  v4 := Tryd.zeroValue4
  t23 := Tryd.underlying86
  a23 := Tryd.isAgg86
  z23 := Tryd.sizeOf86
  v23 := Tryd.zeroValue86
  t26 := Tryd.underlying9
  a26 := Tryd.isAgg9
  z26 := Tryd.sizeOf9
  v26 := Tryd.zeroValue9
  t27 := Tryd.underlying123
  a27 := Tryd.isAgg123
  z27 := Tryd.sizeOf123
  v27 := Tryd.zeroValue123
  t28 := Tryd.underlying124
  a28 := Tryd.isAgg124
  z28 := Tryd.sizeOf124
  v28 := Tryd.zeroValue124
  t33 := Tryd.underlying61
  a33 := Tryd.isAgg61
  z33 := Tryd.sizeOf61
  v33 := Tryd.zeroValue61 }
def Tryd.sortedA_ren : Go.Shelf.Ren := ⟨fun | 6 => 77 | 8 => 105 | 9 => 106 | 11 => 124 | 13 => 126 | 12 => 125 | 23 => 144 | 24 => 145 | 14 => 135 | 15 => 136 | 16 => 137 | 17 => 138 | 18 => 139 | 19 => 140 | 20 => 141 | 21 => 142 | 22 => 143 | 25 => 151 | 26 => 152 | 27 => 153 | 28 => 154 | 29 => 155 | 30 => 156 | 31 => 157 | n => n, fun | 26 => 9 | 28 => 124 | 24 => 32 | 0 => 0 | 3 => 3 | 37 => 134 | 48 => 165 | 50 => 168 | 4 => 4 | 40 => 200 | 39 => 199 | 45 => 204 | 5 => 5 | 9 => 9 | 51 => 210 | 55 => 214 | 57 => 220 | 58 => 71 | 33 => 61 | n => n, fun | n => n⟩
theorem Tryd.sortedA : Go.Proofs.SlLaysZ.n6 Tryd.prog Tryd.sortedA_ren := {
  mixed := by kernel_rfl
  f6 := ⟨Tryd.f77.name, by decide, Tryd.func77.trans (congrArg some (by kernel_rfl))⟩
  f8 := ⟨Tryd.f105.name, by decide, Tryd.func105.trans (congrArg some (by kernel_rfl))⟩
  f11 := ⟨Tryd.f124.name, by decide, Tryd.func124.trans (congrArg some (by kernel_rfl))⟩
  t0 := Tryd.underlying0
  a0 := Tryd.isAgg0
  z0 := Tryd.sizeOf0
  v0 := Tryd.zeroValue0
  t24 := Tryd.underlying32
  a24 := Tryd.isAgg32
  z24 := Tryd.sizeOf32
  v24 := Tryd.zeroValue32
  t26 := Tryd.underlying9
  a26 := Tryd.isAgg9
  z26 := Tryd.sizeOf9
  v26 := Tryd.zeroValue9
  t28 := Tryd.underlying124
  a28 := Tryd.isAgg124
  z28 := Tryd.sizeOf124
  v28 := Tryd.zeroValue124
  i26 := by kernel_rfl }
end Go.Proofs
