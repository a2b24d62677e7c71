/- The contracts of the library functions that this seat uses: laid by the shelf's tools (lay-shelf, lay-plain). -/
import Derived.Shelf.Sort.Plain
import Derived.Shelf.Slices.In.SortNone
import Derived.Test.YtpehimjngofnkaaDoorProg
namespace Go.Proofs
open Go.Shelf
open Go.RowKit Go.Lib Go.Sort
def Tryd.lays189_ren : Go.Shelf.Ren := ⟨fun | 189 => 88 | 125 => 120 | 257 => 119 | 128 => 141 | 129 => 142 | 294 => 132 | 295 => 133 | 296 => 134 | 297 => 135 | 298 => 136 | 299 => 137 | 216 => 138 | 300 => 139 | 301 => 140 | 328 => 150 | 329 => 151 | 330 => 152 | 331 => 153 | 332 => 154 | 215 => 155 | 343 => 162 | n => n, fun | 28 => 22 | 3 => 3 | 46 => 36 | 0 => 0 | 51 => 129 | 53 => 131 | 4 => 4 | 183 => 122 | 182 => 121 | 131 => 100 | 5 => 5 | 9 => 9 | 218 => 142 | 222 => 146 | 228 => 152 | 229 => 153 | n => n, fun | n => n⟩
theorem Tryd.lays189 : Go.Proofs.Lays.n189 Tryd.prog Tryd.lays189_ren := {
  mixed := by kernel_rfl
  f125 := Tryd.func120.trans (congrArg some (by kernel_rfl))
  f128 := Tryd.func141.trans (congrArg some (by kernel_rfl))
  f129 := Tryd.func142.trans (congrArg some (by kernel_rfl))
  f189 := Tryd.func88.trans (congrArg some (by kernel_rfl))
  f215 := Tryd.func155.trans (congrArg some (by kernel_rfl))
  f216 := Tryd.func138.trans (congrArg some (by kernel_rfl))
  f257 := Tryd.func119.trans (congrArg some (by kernel_rfl))
  f294 := Tryd.func132.trans (congrArg some (by kernel_rfl))
  f295 := Tryd.func133.trans (congrArg some (by kernel_rfl))
  f296 := Tryd.func134.trans (congrArg some (by kernel_rfl))
  f297 := Tryd.func135.trans (congrArg some (by kernel_rfl))
  f298 := Tryd.func136.trans (congrArg some (by kernel_rfl))
  f299 := Tryd.func137.trans (congrArg some (by kernel_rfl))
  f300 := Tryd.func139.trans (congrArg some (by kernel_rfl))
  f301 := Tryd.func140.trans (congrArg some (by kernel_rfl))
  f328 := Tryd.func150.trans (congrArg some (by kernel_rfl))
  f329 := Tryd.func151.trans (congrArg some (by kernel_rfl))
  f330 := Tryd.func152.trans (congrArg some (by kernel_rfl))
  f331 := Tryd.func153.trans (congrArg some (by kernel_rfl))
  f332 := Tryd.func154.trans (congrArg some (by kernel_rfl))
  f343 := Tryd.func162.trans (congrArg some (by kernel_rfl))
  t0 := Tryd.underlying0
  a0 := Tryd.isAgg0
  z0 := Tryd.sizeOf0
  v0 := Tryd.zeroValue0
  t3 := Tryd.underlying3
  a3 := Tryd.isAgg3
  z3 := Tryd.sizeOf3
  v3 := Tryd.zeroValue3
  t4 := Tryd.underlying4
  a4 := Tryd.isAgg4
  z4 := Tryd.sizeOf4
  v4 := Tryd.zeroValue4
  t5 := Tryd.underlying5
  a5 := Tryd.isAgg5
  z5 := Tryd.sizeOf5
  v5 := Tryd.zeroValue5
  t9 := Tryd.underlying9
  a9 := Tryd.isAgg9
  z9 := Tryd.sizeOf9
  v9 := Tryd.zeroValue9
  t28 := Tryd.underlying22
  a28 := Tryd.isAgg22
  z28 := Tryd.sizeOf22
  v28 := Tryd.zeroValue22
  t46 := Tryd.underlying36
  a46 := Tryd.isAgg36
  z46 := Tryd.sizeOf36
  v46 := Tryd.zeroValue36
  t51 := Tryd.underlying129
  a51 := Tryd.isAgg129
  z51 := Tryd.sizeOf129
  v51 := Tryd.zeroValue129
  t53 := Tryd.underlying131
  a53 := Tryd.isAgg131
  z53 := Tryd.sizeOf131
  v53 := Tryd.zeroValue131
  t131 := Tryd.underlying100
  a131 := Tryd.isAgg100
  z131 := Tryd.sizeOf100
  v131 := Tryd.zeroValue100
  t182 := Tryd.underlying121
  a182 := Tryd.isAgg121
  z182 := Tryd.sizeOf121
  v182 := Tryd.zeroValue121
  t183 := Tryd.underlying122
  a183 := Tryd.isAgg122
  z183 := Tryd.sizeOf122
  v183 := Tryd.zeroValue122
  t218 := Tryd.underlying142
  a218 := Tryd.isAgg142
  z218 := Tryd.sizeOf142
  v218 := Tryd.zeroValue142
  t222 := Tryd.underlying146
  a222 := Tryd.isAgg146
  z222 := Tryd.sizeOf146
  v222 := Tryd.zeroValue146
  t228 := Tryd.underlying152
  a228 := Tryd.isAgg152
  z228 := Tryd.sizeOf152
  v228 := Tryd.zeroValue152
  t229 := Tryd.underlying153
  a229 := Tryd.isAgg153
  z229 := Tryd.sizeOf153
  v229 := Tryd.zeroValue153 }
theorem Tryd.slices_Sort_int (blk off cap : Nat) (zs : List Int) (w : World) (hH : Holds (Value.int .i64) w blk off zs.toArray) (hblk : blk < w.heap.size) (hsz : zs.length < 4611686018427387904) :
    Calls Tryd.prog 88 #[.slice (some ⟨blk, off, none⟩) zs.length cap] w fun e w' =>
      e = .returned (.tuple #[]) ∧ ∃ n os, w' = grow (putRow (Value.int .i64) (Sort.ahead w n) blk off (zs.mergeSort fun x y => decide (x ≤ y)).toArray) os := Any.slices_Sort_int Tryd.lays189 blk off cap zs w hH hblk hsz
theorem Tryd.slices_Sort_int_none (p : Option Addr) (cap : Nat) (w : World) :
    Calls Tryd.prog 88 #[.slice p 0 cap] w fun e w' => e = .returned (.tuple #[]) ∧ w' = w := Any.slices_Sort_int_none Tryd.lays189 p cap w
end Go.Proofs
