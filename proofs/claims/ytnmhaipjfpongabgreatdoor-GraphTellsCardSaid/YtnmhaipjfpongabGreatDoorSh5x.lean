/-
  DERIVED: THE SHELF's CONTRACTS AT THIS DUMP, IN PLAIN WORDS (tools/lay-plain.mjs out of 'YtnmhaipjfpongabGreatDoorSh5.lean', which tools/lay-shelf.mjs wrote): THE SAME DECLARATIONS UNDER THE SAME NAMES: 'import', 'namespace', 'open', 'def', 'theorem' AND NOTHING ELSE: no command of the shelf's: FOR A HAND-IN. Each laying: the table of numbers ('.._ren') and one theorem, a field a fact of the dump's own or the kernel's comparison; each contract: ONE APPLICATION.
-/
import Derived.Shelf.Sort.Plain
import Derived.Ground.Names2Prog
import Derived.Shelf.Slices.In.SortNone
import Derived.Ground.SlgnProg
import Derived.Test.YtnmhaipjfpongabGreatDoorProg
namespace Go.Proofs
open Go.Shelf
def Tryz.lays189_ren : Go.Shelf.Ren := ⟨fun | 189 => 179 | 125 => 181 | 257 => 240 | 128 => 250 | 129 => 251 | 294 => 299 | 295 => 300 | 296 => 301 | 297 => 302 | 298 => 303 | 299 => 304 | 216 => 305 | 300 => 306 | 301 => 307 | 328 => 344 | 329 => 309 | 330 => 310 | 331 => 345 | 332 => 346 | 215 => 347 | 343 => 361 | n => n, fun | 28 => 63 | 3 => 3 | 46 => 244 | 0 => 0 | 51 => 278 | 53 => 275 | 4 => 4 | 183 => 306 | 182 => 305 | 131 => 234 | 5 => 5 | 9 => 9 | 218 => 363 | 222 => 366 | 228 => 397 | 229 => 136 | n => n, fun | n => n⟩
theorem Tryz.lays189 : Go.Proofs.Lays.n189 Tryz.prog Tryz.lays189_ren := {
  mixed := by kernel_rfl
  f125 := Tryz.func181.trans (congrArg some (by kernel_rfl))
  f128 := Tryz.func250.trans (congrArg some (by kernel_rfl))
  f129 := Tryz.func251.trans (congrArg some (by kernel_rfl))
  f189 := Tryz.func179.trans (congrArg some (by kernel_rfl))
  f215 := Tryz.func347.trans (congrArg some (by kernel_rfl))
  f216 := Tryz.func305.trans (congrArg some (by kernel_rfl))
  f257 := Tryz.func240.trans (congrArg some (by kernel_rfl))
  f294 := Tryz.func299.trans (congrArg some (by kernel_rfl))
  f295 := Tryz.func300.trans (congrArg some (by kernel_rfl))
  f296 := Tryz.func301.trans (congrArg some (by kernel_rfl))
  f297 := Tryz.func302.trans (congrArg some (by kernel_rfl))
  f298 := Tryz.func303.trans (congrArg some (by kernel_rfl))
  f299 := Tryz.func304.trans (congrArg some (by kernel_rfl))
  f300 := Tryz.func306.trans (congrArg some (by kernel_rfl))
  f301 := Tryz.func307.trans (congrArg some (by kernel_rfl))
  f328 := Tryz.func344.trans (congrArg some (by kernel_rfl))
  f329 := Tryz.func309.trans (congrArg some (by kernel_rfl))
  f330 := Tryz.func310.trans (congrArg some (by kernel_rfl))
  f331 := Tryz.func345.trans (congrArg some (by kernel_rfl))
  f332 := Tryz.func346.trans (congrArg some (by kernel_rfl))
  f343 := Tryz.func361.trans (congrArg some (by kernel_rfl))
  t0 := Tryz.underlying0
  a0 := Tryz.isAgg0
  z0 := Tryz.sizeOf0
  v0 := Tryz.zeroValue0
  t3 := Tryz.underlying3
  a3 := Tryz.isAgg3
  z3 := Tryz.sizeOf3
  v3 := Tryz.zeroValue3
  t4 := Tryz.underlying4
  a4 := Tryz.isAgg4
  z4 := Tryz.sizeOf4
  v4 := Tryz.zeroValue4
  t5 := Tryz.underlying5
  a5 := Tryz.isAgg5
  z5 := Tryz.sizeOf5
  v5 := Tryz.zeroValue5
  t9 := Tryz.underlying9
  a9 := Tryz.isAgg9
  z9 := Tryz.sizeOf9
  v9 := Tryz.zeroValue9
  t28 := Tryz.underlying63
  a28 := Tryz.isAgg63
  z28 := Tryz.sizeOf63
  v28 := Tryz.zeroValue63
  t46 := Tryz.underlying244
  a46 := Tryz.isAgg244
  z46 := Tryz.sizeOf244
  v46 := Tryz.zeroValue244
  t51 := Tryz.underlying278
  a51 := Tryz.isAgg278
  z51 := Tryz.sizeOf278
  v51 := Tryz.zeroValue278
  t53 := Tryz.underlying275
  a53 := Tryz.isAgg275
  z53 := Tryz.sizeOf275
  v53 := Tryz.zeroValue275
  t131 := Tryz.underlying234
  a131 := Tryz.isAgg234
  z131 := Tryz.sizeOf234
  v131 := Tryz.zeroValue234
  t182 := Tryz.underlying305
  a182 := Tryz.isAgg305
  z182 := Tryz.sizeOf305
  v182 := Tryz.zeroValue305
  t183 := Tryz.underlying306
  a183 := Tryz.isAgg306
  z183 := Tryz.sizeOf306
  v183 := Tryz.zeroValue306
  t218 := Tryz.underlying363
  a218 := Tryz.isAgg363
  z218 := Tryz.sizeOf363
  v218 := Tryz.zeroValue363
  t222 := Tryz.underlying366
  a222 := Tryz.isAgg366
  z222 := Tryz.sizeOf366
  v222 := Tryz.zeroValue366
  t228 := Tryz.underlying397
  a228 := Tryz.isAgg397
  z228 := Tryz.sizeOf397
  v228 := Tryz.zeroValue397
  t229 := Tryz.underlying136
  a229 := Tryz.isAgg136
  z229 := Tryz.sizeOf136
  v229 := Tryz.zeroValue136 }
open Go.Sort Go.RowKit in
theorem Tryz.slices_Sort_int (blk off cap : Nat) (zs : List Int) (w : World) (hH : Holds (Value.int .i64) w blk off zs.toArray) (hblk : blk < w.heap.size) (hsz : zs.length < 4611686018427387904) :
    Calls Tryz.prog 179 #[.slice (some ⟨blk, off, none⟩) zs.length cap] w fun e w' =>
      e = .returned (.tuple #[]) ∧ ∃ n os, w' = grow (putRow (Value.int .i64) (Sort.ahead w n) blk off (zs.mergeSort fun x y => decide (x ≤ y)).toArray) os := Any.slices_Sort_int Tryz.lays189 blk off cap zs w hH hblk hsz
open Go.RowKit Go.Sort in
/-- .. and plain. -/
theorem Tryz.slices_Sort_int_none (p : Option Addr) (cap : Nat) (w : World) :
    Calls Tryz.prog 179 #[.slice p 0 cap] w fun e w' => e = .returned (.tuple #[]) ∧ w' = w := Any.slices_Sort_int_none Tryz.lays189 p cap w
end Go.Proofs
