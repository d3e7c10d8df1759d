/-
  DERIVED: THE SHELF's CONTRACTS AT THIS DUMP, IN PLAIN WORDS (tools/lay-plain.mjs out of 'YtnmhaipjfpongacGreatDoorSh5.lean', which tools/lay-shelf.mjs wrote): THE SAME DECLARATIONS UNDER THE SAME NAMES: 'import', 'namespace', 'open', 'def', 'theorem' AND NOTHING ELSE: no command of the shelf's: FOR A HAND-IN. Each laying: the table of numbers ('.._ren') and one theorem, a field a fact of the dump's own or the kernel's comparison; each contract: ONE APPLICATION.
-/
import Derived.Shelf.Sort.Plain
import Derived.Ground.Names2Prog
import Derived.Shelf.Slices.In.SortNone
import Derived.Ground.SlgnProg
import Derived.Test.YtnmhaipjfpongacGreatDoorProg
namespace Go.Proofs
open Go.Shelf
def Tryz.lays189_ren : Go.Shelf.Ren := ⟨fun | 189 => 118 | 125 => 181 | 257 => 184 | 128 => 240 | 129 => 241 | 294 => 243 | 295 => 244 | 296 => 245 | 297 => 246 | 298 => 247 | 299 => 248 | 216 => 249 | 300 => 250 | 301 => 251 | 328 => 295 | 329 => 290 | 330 => 291 | 331 => 296 | 332 => 297 | 215 => 298 | 343 => 318 | n => n, fun | 28 => 46 | 3 => 3 | 46 => 248 | 0 => 0 | 51 => 307 | 53 => 309 | 4 => 4 | 183 => 301 | 182 => 300 | 131 => 182 | 5 => 5 | 9 => 9 | 218 => 347 | 222 => 351 | 228 => 362 | 229 => 157 | n => n, fun | n => n⟩
theorem Tryz.lays189 : Go.Proofs.Lays.n189 Tryz.prog Tryz.lays189_ren := {
  mixed := by kernel_rfl
  f125 := Tryz.func181.trans (congrArg some (by kernel_rfl))
  f128 := Tryz.func240.trans (congrArg some (by kernel_rfl))
  f129 := Tryz.func241.trans (congrArg some (by kernel_rfl))
  f189 := Tryz.func118.trans (congrArg some (by kernel_rfl))
  f215 := Tryz.func298.trans (congrArg some (by kernel_rfl))
  f216 := Tryz.func249.trans (congrArg some (by kernel_rfl))
  f257 := Tryz.func184.trans (congrArg some (by kernel_rfl))
  f294 := Tryz.func243.trans (congrArg some (by kernel_rfl))
  f295 := Tryz.func244.trans (congrArg some (by kernel_rfl))
  f296 := Tryz.func245.trans (congrArg some (by kernel_rfl))
  f297 := Tryz.func246.trans (congrArg some (by kernel_rfl))
  f298 := Tryz.func247.trans (congrArg some (by kernel_rfl))
  f299 := Tryz.func248.trans (congrArg some (by kernel_rfl))
  f300 := Tryz.func250.trans (congrArg some (by kernel_rfl))
  f301 := Tryz.func251.trans (congrArg some (by kernel_rfl))
  f328 := Tryz.func295.trans (congrArg some (by kernel_rfl))
  f329 := Tryz.func290.trans (congrArg some (by kernel_rfl))
  f330 := Tryz.func291.trans (congrArg some (by kernel_rfl))
  f331 := Tryz.func296.trans (congrArg some (by kernel_rfl))
  f332 := Tryz.func297.trans (congrArg some (by kernel_rfl))
  f343 := Tryz.func318.trans (congrArg some (by kernel_rfl))
  t0 := Tryz.underlying0
  a0 := Tryz.isAgg0
  z0 := Tryz.sizeOf0
  v0 := Tryz.zeroValue0
  t3 := Tryz.underlying3
  a3 := Tryz.isAgg3
  z3 := Tryz.sizeOf3
  v3 := Tryz.zeroValue3
  t4 := Tryz.underlying4
  a4 := Tryz.isAgg4
  z4 := Tryz.sizeOf4
  v4 := Tryz.zeroValue4
  t5 := Tryz.underlying5
  a5 := Tryz.isAgg5
  z5 := Tryz.sizeOf5
  v5 := Tryz.zeroValue5
  t9 := Tryz.underlying9
  a9 := Tryz.isAgg9
  z9 := Tryz.sizeOf9
  v9 := Tryz.zeroValue9
  t28 := Tryz.underlying46
  a28 := Tryz.isAgg46
  z28 := Tryz.sizeOf46
  v28 := Tryz.zeroValue46
  t46 := Tryz.underlying248
  a46 := Tryz.isAgg248
  z46 := Tryz.sizeOf248
  v46 := Tryz.zeroValue248
  t51 := Tryz.underlying307
  a51 := Tryz.isAgg307
  z51 := Tryz.sizeOf307
  v51 := Tryz.zeroValue307
  t53 := Tryz.underlying309
  a53 := Tryz.isAgg309
  z53 := Tryz.sizeOf309
  v53 := Tryz.zeroValue309
  t131 := Tryz.underlying182
  a131 := Tryz.isAgg182
  z131 := Tryz.sizeOf182
  v131 := Tryz.zeroValue182
  t182 := Tryz.underlying300
  a182 := Tryz.isAgg300
  z182 := Tryz.sizeOf300
  v182 := Tryz.zeroValue300
  t183 := Tryz.underlying301
  a183 := Tryz.isAgg301
  z183 := Tryz.sizeOf301
  v183 := Tryz.zeroValue301
  t218 := Tryz.underlying347
  a218 := Tryz.isAgg347
  z218 := Tryz.sizeOf347
  v218 := Tryz.zeroValue347
  t222 := Tryz.underlying351
  a222 := Tryz.isAgg351
  z222 := Tryz.sizeOf351
  v222 := Tryz.zeroValue351
  t228 := Tryz.underlying362
  a228 := Tryz.isAgg362
  z228 := Tryz.sizeOf362
  v228 := Tryz.zeroValue362
  t229 := Tryz.underlying157
  a229 := Tryz.isAgg157
  z229 := Tryz.sizeOf157
  v229 := Tryz.zeroValue157 }
open Go.Sort Go.RowKit in
theorem Tryz.slices_Sort_int (blk off cap : Nat) (zs : List Int) (w : World) (hH : Holds (Value.int .i64) w blk off zs.toArray) (hblk : blk < w.heap.size) (hsz : zs.length < 4611686018427387904) :
    Calls Tryz.prog 118 #[.slice (some ⟨blk, off, none⟩) zs.length cap] w fun e w' =>
      e = .returned (.tuple #[]) ∧ ∃ n os, w' = grow (putRow (Value.int .i64) (Sort.ahead w n) blk off (zs.mergeSort fun x y => decide (x ≤ y)).toArray) os := Any.slices_Sort_int Tryz.lays189 blk off cap zs w hH hblk hsz
open Go.RowKit Go.Sort in
/-- .. and plain. -/
theorem Tryz.slices_Sort_int_none (p : Option Addr) (cap : Nat) (w : World) :
    Calls Tryz.prog 118 #[.slice p 0 cap] w fun e w' => e = .returned (.tuple #[]) ∧ w' = w := Any.slices_Sort_int_none Tryz.lays189 p cap w
end Go.Proofs
