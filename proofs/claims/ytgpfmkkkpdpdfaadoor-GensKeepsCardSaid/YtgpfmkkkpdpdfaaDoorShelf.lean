/-
  The contracts of the library, laid by the shelf over this translation.
-/
import Derived.Shelf.Strings.Builder1
import Derived.Shelf.Strings.Builder2
import Derived.Shelf.Strings.Trim
import Derived.Shelf.Small.Utf8
import Derived.Shelf.Small.Bits
import Derived.Shelf.Small.Strs
import Derived.Shelf.Strings.BuilderF
import Derived.Shelf.Strings.BuilderK
import Derived.Shelf.Strings.Builder2Cap
import Derived.Shelf.Strconv.Itoa0
import Derived.Shelf.Strings.Search1
import Derived.Shelf.Strings.Search2
import Derived.Shelf.Strings.Search3
import Derived.Shelf.LaysM
import Derived.Shelf.Strings.Shaped
import Derived.Shelf.Sort.Plain
import Derived.Shelf.Strings.Prefix
import Derived.Shelf.Unicode.Decode
import Derived.Shelf.Strings.Runes
import Derived.Shelf.Strings.AsciiSet
import Derived.Shelf.Bits.Mul64
import Derived.Shelf.Strings.Repeat
import Derived.Shelf.Unicode.DecodeSlow
import Derived.Shelf.Unicode.DecodeAny
import Derived.Shelf.Unicode.DecodeLast
import Derived.Shelf.Strings.BuilderCap
import Derived.Shelf.Slices.In.SortNone
import Derived.Test.YtgpfmkkkpdpdfaaDoorProg
namespace Go.Proofs
open Go.Shelf
def Tryd.lays190_ren : Go.Shelf.Ren := ⟨fun | 190 => 106 | 125 => 126 | 258 => 125 | 128 => 144 | 129 => 145 | 302 => 135 | 303 => 136 | 304 => 137 | 305 => 138 | 306 => 139 | 307 => 140 | 308 => 141 | 309 => 142 | 310 => 143 | 333 => 151 | 329 => 152 | 330 => 153 | 334 => 154 | 335 => 155 | 336 => 156 | 344 => 157 | n => n, fun | 31 => 32 | 9 => 9 | 3 => 3 | 46 => 134 | 0 => 0 | 51 => 165 | 53 => 168 | 4 => 4 | 183 => 200 | 182 => 199 | 131 => 204 | 5 => 5 | 218 => 210 | 222 => 214 | 228 => 220 | 229 => 71 | n => n, fun | n => n⟩
theorem Tryd.lays190 : Go.Proofs.Lays.n190 Tryd.prog Tryd.lays190_ren := {
  mixed := by kernel_rfl
  f125 := Tryd.func126.trans (congrArg some (by kernel_rfl))
  f128 := Tryd.func144.trans (congrArg some (by kernel_rfl))
  f129 := Tryd.func145.trans (congrArg some (by kernel_rfl))
  f190 := Tryd.func106.trans (congrArg some (by kernel_rfl))
  f258 := Tryd.func125.trans (congrArg some (by kernel_rfl))
  f302 := Tryd.func135.trans (congrArg some (by kernel_rfl))
  f303 := Tryd.func136.trans (congrArg some (by kernel_rfl))
  f304 := Tryd.func137.trans (congrArg some (by kernel_rfl))
  f305 := Tryd.func138.trans (congrArg some (by kernel_rfl))
  f306 := Tryd.func139.trans (congrArg some (by kernel_rfl))
  f307 := Tryd.func140.trans (congrArg some (by kernel_rfl))
  f308 := Tryd.func141.trans (congrArg some (by kernel_rfl))
  f309 := Tryd.func142.trans (congrArg some (by kernel_rfl))
  f310 := Tryd.func143.trans (congrArg some (by kernel_rfl))
  f329 := Tryd.func152.trans (congrArg some (by kernel_rfl))
  f330 := Tryd.func153.trans (congrArg some (by kernel_rfl))
  f333 := Tryd.func151.trans (congrArg some (by kernel_rfl))
  f334 := Tryd.func154.trans (congrArg some (by kernel_rfl))
  f335 := Tryd.func155.trans (congrArg some (by kernel_rfl))
  f336 := Tryd.func156.trans (congrArg some (by kernel_rfl))
  f344 := Tryd.func157.trans (congrArg some (by kernel_rfl))
  t0 := Tryd.underlying0
  a0 := Tryd.isAgg0
  z0 := Tryd.sizeOf0
  v0 := Tryd.zeroValue0
  t3 := Tryd.underlying3
  a3 := Tryd.isAgg3
  z3 := Tryd.sizeOf3
  v3 := Tryd.zeroValue3
  t4 := Tryd.underlying4
  a4 := Tryd.isAgg4
  z4 := Tryd.sizeOf4
  v4 := Tryd.zeroValue4
  t5 := Tryd.underlying5
  a5 := Tryd.isAgg5
  z5 := Tryd.sizeOf5
  v5 := Tryd.zeroValue5
  t9 := Tryd.underlying9
  a9 := Tryd.isAgg9
  z9 := Tryd.sizeOf9
  v9 := Tryd.zeroValue9
  t31 := Tryd.underlying32
  a31 := Tryd.isAgg32
  z31 := Tryd.sizeOf32
  v31 := Tryd.zeroValue32
  t46 := Tryd.underlying134
  a46 := Tryd.isAgg134
  z46 := Tryd.sizeOf134
  v46 := Tryd.zeroValue134
  t51 := Tryd.underlying165
  a51 := Tryd.isAgg165
  z51 := Tryd.sizeOf165
  v51 := Tryd.zeroValue165
  t53 := Tryd.underlying168
  a53 := Tryd.isAgg168
  z53 := Tryd.sizeOf168
  v53 := Tryd.zeroValue168
  t131 := Tryd.underlying204
  a131 := Tryd.isAgg204
  z131 := Tryd.sizeOf204
  v131 := Tryd.zeroValue204
  t182 := Tryd.underlying199
  a182 := Tryd.isAgg199
  z182 := Tryd.sizeOf199
  v182 := Tryd.zeroValue199
  t183 := Tryd.underlying200
  a183 := Tryd.isAgg200
  z183 := Tryd.sizeOf200
  v183 := Tryd.zeroValue200
  t218 := Tryd.underlying210
  a218 := Tryd.isAgg210
  z218 := Tryd.sizeOf210
  v218 := Tryd.zeroValue210
  t222 := Tryd.underlying214
  a222 := Tryd.isAgg214
  z222 := Tryd.sizeOf214
  v222 := Tryd.zeroValue214
  t228 := Tryd.underlying220
  a228 := Tryd.isAgg220
  z228 := Tryd.sizeOf220
  v228 := Tryd.zeroValue220
  t229 := Tryd.underlying71
  a229 := Tryd.isAgg71
  z229 := Tryd.sizeOf71
  v229 := Tryd.zeroValue71 }
open Go.Sort Go.RowKit in
theorem Tryd.slices_Sort_string (blk off cap : Nat) (ss : List (List UInt8)) (w : World) (hH : Holds encStr w blk off ss.toArray) (hblk : blk < w.heap.size) (hsz : ss.length < 4611686018427387904) :
    Calls Tryd.prog 106 #[.slice (some ⟨blk, off, none⟩) ss.length cap] w fun e w' =>
      e = .returned (.tuple #[]) ∧ ∃ n os, w' = grow (putRow encStr (Sort.ahead w n) blk off (ss.mergeSort fun x y => decide (x ≤ y)).toArray) os := Any.slices_Sort_string Tryd.lays190 blk off cap ss w hH hblk hsz
open Go.RowKit Go.Sort in
theorem Tryd.slices_Sort_string_none (p : Option Addr) (cap : Nat) (w : World) :
    Calls Tryd.prog 106 #[.slice p 0 cap] w fun e w' => e = .returned (.tuple #[]) ∧ w' = w := Any.slices_Sort_string_none Tryd.lays190 p cap w
end Go.Proofs
