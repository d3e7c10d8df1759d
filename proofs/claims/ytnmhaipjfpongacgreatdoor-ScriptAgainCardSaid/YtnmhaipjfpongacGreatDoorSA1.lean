/- Texts of this seat laid together for one claim: Sh2, C1. No condition of its own: what each proves stands with its theorems. -/
import Derived.Ground.Names2Prog
import Derived.Ground.SlgnProg
import Derived.Shelf.LaysC
import Derived.Shelf.LaysM
import Derived.Shelf.Slices.Cells
import Derived.Shelf.Slices.Clone
import Derived.Shelf.Slices.CompactS
import Derived.Shelf.Slices.Delete
import Derived.Shelf.Slices.Empties
import Derived.Shelf.Slices.In.SortNone
import Derived.Shelf.Slices.SearchI
import Derived.Shelf.SlicesE.Clone
import Derived.Shelf.Small.Bits
import Derived.Shelf.Sort.Plain
import Derived.Shelf.Strconv.Atoi
import Derived.Shelf.Strconv.AtoiAll
import Derived.Shelf.Strconv.AtoiErrFast
import Derived.Shelf.Strconv.AtoiFail
import Derived.Shelf.Strconv.AtoiInnerAll
import Derived.Shelf.Strconv.AtoiLong
import Derived.Shelf.Strconv.Clone
import Derived.Shelf.Strconv.ErrVarAll
import Derived.Shelf.Strconv.Itoa0
import Derived.Shelf.Strconv.Itoa1
import Derived.Shelf.Strconv.Itoa2
import Derived.Shelf.Strconv.Itoa3
import Derived.Shelf.Strconv.Lower
import Derived.Shelf.Strconv.ParseInt10
import Derived.Shelf.Strconv.ParseIntEmpty
import Derived.Shelf.Strconv.ParseUint10
import Derived.Shelf.Strconv.ParseUint10Any
import Derived.Shelf.Strconv.ParseUint10Empty
import Derived.Shelf.Strconv.RangeError
import Derived.Shelf.Strconv.SyntaxError
import Derived.Shelf.Strconv.ToError
import Derived.Shelf.Strconv.ToErrorRange
import Derived.Shelf.Strings.Builder1
import Derived.Shelf.Strings.Builder2
import Derived.Shelf.Strings.Builder2Cap
import Derived.Shelf.Strings.BuilderCap
import Derived.Shelf.Strings.BuilderF
import Derived.Shelf.Strings.BuilderK
import Derived.Shelf.Strings.Count
import Derived.Shelf.Strings.Cut
import Derived.Shelf.Strings.Explode
import Derived.Shelf.Strings.OnBuilder
import Derived.Shelf.Strings.Replace
import Derived.Shelf.Strings.Search1
import Derived.Shelf.Strings.Search2
import Derived.Shelf.Strings.Search3
import Derived.Shelf.Strings.Shaped
import Derived.Shelf.Strings.Split
import Derived.Shelf.Strings.SplitShaped
import Derived.Test.YtnmhaipjfpongacGreatDoorProg
import Derived.Deep.LoopGhost
import Derived.Lib.Hide
import Derived.Sort.OwnSorted
import Derived.WalkLawsBesides
import Derived.WalkSpells
import Derived.Test.YtnmhaipjfpongacGreatDoorSA0
namespace Go.Proofs
open Go.Shelf
def Tryz.lays169_ren : Go.Shelf.Ren := ⟨fun | 169 => 108 | n => n, fun | 70 => 166 | 9 => 9 | 0 => 0 | 72 => 169 | 37 => 167 | 127 => 245 | 3 => 3 | 5 => 5 | n => n, fun | n => n⟩
theorem Tryz.lays169 : Go.Proofs.Lays.n169 Tryz.prog Tryz.lays169_ren := {
 mixed := by kernel_rfl
 f169 := Tryz.func108.trans (congrArg some (by kernel_rfl))
 t0 := Tryz.underlying0
 a0 := Tryz.isAgg0
 z0 := Tryz.sizeOf0
 v0 := Tryz.zeroValue0
 t3 := Tryz.underlying3
 a3 := Tryz.isAgg3
 z3 := Tryz.sizeOf3
 v3 := Tryz.zeroValue3
 t9 := Tryz.underlying9
 a9 := Tryz.isAgg9
 z9 := Tryz.sizeOf9
 v9 := Tryz.zeroValue9
 t37 := Tryz.underlying167
 a37 := Tryz.isAgg167
 z37 := Tryz.sizeOf167
 v37 := Tryz.zeroValue167
 t70 := Tryz.underlying166
 a70 := Tryz.isAgg166
 z70 := Tryz.sizeOf166
 v70 := Tryz.zeroValue166
 t72 := Tryz.underlying169
 a72 := Tryz.isAgg169
 z72 := Tryz.sizeOf169
 v72 := Tryz.zeroValue169
 t127 := Tryz.underlying245
 a127 := Tryz.isAgg245
 z127 := Tryz.sizeOf245
 v127 := Tryz.zeroValue245 }
theorem Tryz.Builder_Extra_169 : Builder.Extra Tryz.prog Tryz.lays169_ren := {
 sizeBuilder := by kernel_rfl
 liesBuilder := by kernel_rfl
 t5 := Tryz.underlying5
 a5 := Tryz.isAgg5
 z5 := Tryz.sizeOf5
 v5 := Tryz.zeroValue5
 infoByte := by kernel_rfl
 cellsByte := by kernel_rfl
 sizeByte := by kernel_rfl
 neB5 := by decide }
open Go.RowKit in
theorem Tryz.Builder_String_any (B b : Nat) (l : List UInt8) (w : World) (h : Lib.IsBuilder 169 5 B b (Lib.byteCells l) w) (hBw : B ≤ w.heap.size) :
  Calls Tryz.prog 108 #[.pointer (some ⟨b, 0, none⟩)] w fun e w' => e = .returned (.string ⟨l.toArray⟩) ∧ Below B w w' := Any.Builder_String_any Tryz.lays169 Tryz.Builder_Extra_169 B b l w h hBw
def Tryz.lays156_ren : Go.Shelf.Ren := ⟨fun | 156 => 144 | 165 => 196 | 166 => 106 | 169 => 108 | 240 => 175 | 241 => 268 | 276 => 226 | 277 => 306 | n => n, fun | 31 => 53 | 9 => 9 | 3 => 3 | 4 => 4 | 0 => 0 | 20 => 20 | 72 => 169 | 76 => 80 | 70 => 166 | 37 => 167 | 75 => 32 | 127 => 245 | 164 => 277 | 5 => 5 | 80 => 57 | n => n, fun | n => n⟩
theorem Tryz.lays156 : Go.Proofs.Lays.n156 Tryz.prog Tryz.lays156_ren := {
 mixed := by kernel_rfl
 f156 := Tryz.func144.trans (congrArg some (by kernel_rfl))
 f165 := Tryz.func196.trans (congrArg some (by kernel_rfl))
 f166 := Tryz.func106.trans (congrArg some (by kernel_rfl))
 f169 := Tryz.func108.trans (congrArg some (by kernel_rfl))
 f240 := Tryz.func175.trans (congrArg some (by kernel_rfl))
 f241 := Tryz.func268.trans (congrArg some (by kernel_rfl))
 f276 := Tryz.func226.trans (congrArg some (by kernel_rfl))
 f277 := Tryz.func306.trans (congrArg some (by kernel_rfl))
 t0 := Tryz.underlying0
 a0 := Tryz.isAgg0
 z0 := Tryz.sizeOf0
 v0 := Tryz.zeroValue0
 t3 := Tryz.underlying3
 a3 := Tryz.isAgg3
 z3 := Tryz.sizeOf3
 v3 := Tryz.zeroValue3
 t4 := Tryz.underlying4
 a4 := Tryz.isAgg4
 z4 := Tryz.sizeOf4
 v4 := Tryz.zeroValue4
 t9 := Tryz.underlying9
 a9 := Tryz.isAgg9
 z9 := Tryz.sizeOf9
 v9 := Tryz.zeroValue9
 t20 := Tryz.underlying20
 a20 := Tryz.isAgg20
 z20 := Tryz.sizeOf20
 v20 := Tryz.zeroValue20
 t31 := Tryz.underlying53
 a31 := Tryz.isAgg53
 z31 := Tryz.sizeOf53
 v31 := Tryz.zeroValue53
 t37 := Tryz.underlying167
 a37 := Tryz.isAgg167
 z37 := Tryz.sizeOf167
 v37 := Tryz.zeroValue167
 t70 := Tryz.underlying166
 a70 := Tryz.isAgg166
 z70 := Tryz.sizeOf166
 v70 := Tryz.zeroValue166
 t72 := Tryz.underlying169
 a72 := Tryz.isAgg169
 z72 := Tryz.sizeOf169
 v72 := Tryz.zeroValue169
 t75 := Tryz.underlying32
 a75 := Tryz.isAgg32
 z75 := Tryz.sizeOf32
 v75 := Tryz.zeroValue32
 t76 := Tryz.underlying80
 a76 := Tryz.isAgg80
 z76 := Tryz.sizeOf80
 v76 := Tryz.zeroValue80
 t127 := Tryz.underlying245
 a127 := Tryz.isAgg245
 z127 := Tryz.sizeOf245
 v127 := Tryz.zeroValue245
 t164 := Tryz.underlying277
 a164 := Tryz.isAgg277
 z164 := Tryz.sizeOf277
 v164 := Tryz.zeroValue277 }
theorem Tryz.Builder_Extra_156 : Builder.Extra Tryz.prog Tryz.lays156_ren := {
 sizeBuilder := by kernel_rfl
 liesBuilder := by kernel_rfl
 t5 := Tryz.underlying5
 a5 := Tryz.isAgg5
 z5 := Tryz.sizeOf5
 v5 := Tryz.zeroValue5
 infoByte := by kernel_rfl
 cellsByte := by kernel_rfl
 sizeByte := by kernel_rfl
 neB5 := by decide }
open Go.RowKit in
theorem Tryz.strings_Join_none (a : Option Addr) (c : Nat) (sep : ByteArray) (w : World) :
  Calls Tryz.prog 144 #[.slice a 0 c, .string sep] w fun e w' => e = .returned (.string ⟨#[]⟩) ∧ w' = w := Any.strings_Join_none Tryz.lays156 Tryz.Builder_Extra_156 a c sep w
open Go.RowKit in
theorem Tryz.strings_Join (bk o c : Nat) (xs : List ByteArray) (sep : ByteArray) (w : World) (hcells : ∀ (j : Nat) x, xs[j]? = some x → w.cell? ⟨bk, o + j, none⟩ = some (.string x)) (hbk : bk < w.heap.size) (hN : xs.length ≤ 140737488355328) (hcap : xs.length ≤ c) (hlen : (Lib.join (xs.map (·.data.toList)) sep.data.toList).length ≤ 140737488355328) :
  Calls Tryz.prog 144 #[.slice (some ⟨bk, o, none⟩) xs.length c, .string sep] w fun e w' => e = .returned (.string ⟨(Lib.join (xs.map (·.data.toList)) sep.data.toList).toArray⟩) ∧ Below w.heap.size w w' := Any.strings_Join Tryz.lays156 Tryz.Builder_Extra_156 bk o c xs sep w hcells hbk hN hcap hlen
open Go.RowKit in
theorem Tryz.Builder_String_any_k (B b : Nat) (l : List UInt8) (w : World) (h : Lib.IsBuilderF 169 5 B b (Lib.byteCells l) w) (hBw : B ≤ w.heap.size) :
  Calls Tryz.prog 108 #[.pointer (some ⟨b, 0, none⟩)] w fun e w' => e = .returned (.string ⟨l.toArray⟩) ∧ (Lib.IsBuilderF 169 5 B b (Lib.byteCells l) w' ∧ Below B w w' ∧ Lib.OthersKept 5 (some b) w w') := Any.Builder_String_any_k Tryz.lays169 Tryz.Builder_Extra_169 B b l w h hBw
def Tryz.laysM171_ren : Go.Shelf.Ren := ⟨fun | 171 => 107 | 243 => 176 | 246 => 227 | 283 => 281 | 284 => 282 | 285 => 283 | 286 => 284 | 129 => 241 | 317 => 312 | 318 => 313 | 319 => 314 | 320 => 315 | 337 => 330 | 338 => 331 | n => n, fun | 3 => 3 | 9 => 9 | 2 => 2 | 4 => 4 | 171 => 340 | 0 => 0 | 53 => 309 | 37 => 167 | 5 => 5 | 173 => 342 | 212 => 359 | 51 => 307 | 20 => 20 | 213 => 360 | 46 => 248 | 232 => 379 | 233 => 380 | n => n, fun | 17 => 13 | 18 => 15 | 19 => 16 | n => n⟩
theorem Tryz.laysM171 : Go.Proofs.LaysM.n171 Tryz.prog Tryz.laysM171_ren := {
 mixed := by kernel_rfl
 f129 := Tryz.func241.trans (congrArg some (by kernel_rfl))
 f171 := Tryz.func107.trans (congrArg some (by kernel_rfl))
 f243 := Tryz.func176.trans (congrArg some (by kernel_rfl))
 f246 := Tryz.func227.trans (congrArg some (by kernel_rfl))
 f283 := Tryz.func281.trans (congrArg some (by kernel_rfl))
 f284 := Tryz.func282.trans (congrArg some (by kernel_rfl))
 f285 := Tryz.func283.trans (congrArg some (by kernel_rfl))
 f286 := Tryz.func284.trans (congrArg some (by kernel_rfl))
 f317 := Tryz.func312.trans (congrArg some (by kernel_rfl))
 f318 := Tryz.func313.trans (congrArg some (by kernel_rfl))
 f319 := Tryz.func314.trans (congrArg some (by kernel_rfl))
 f320 := Tryz.func315.trans (congrArg some (by kernel_rfl))
 f337 := Tryz.func330.trans (congrArg some (by kernel_rfl))
 f338 := Tryz.func331.trans (congrArg some (by kernel_rfl))
 t0 := Tryz.underlying0
 a0 := Tryz.isAgg0
 z0 := Tryz.sizeOf0
 v0 := Tryz.zeroValue0
 t2 := Tryz.underlying2
 a2 := Tryz.isAgg2
 z2 := Tryz.sizeOf2
 v2 := Tryz.zeroValue2
 t3 := Tryz.underlying3
 a3 := Tryz.isAgg3
 z3 := Tryz.sizeOf3
 v3 := Tryz.zeroValue3
 t4 := Tryz.underlying4
 a4 := Tryz.isAgg4
 z4 := Tryz.sizeOf4
 v4 := Tryz.zeroValue4
 t5 := Tryz.underlying5
 a5 := Tryz.isAgg5
 z5 := Tryz.sizeOf5
 v5 := Tryz.zeroValue5
 t9 := Tryz.underlying9
 a9 := Tryz.isAgg9
 z9 := Tryz.sizeOf9
 v9 := Tryz.zeroValue9
 t20 := Tryz.underlying20
 a20 := Tryz.isAgg20
 z20 := Tryz.sizeOf20
 v20 := Tryz.zeroValue20
 t37 := Tryz.underlying167
 a37 := Tryz.isAgg167
 z37 := Tryz.sizeOf167
 v37 := Tryz.zeroValue167
 t46 := Tryz.underlying248
 a46 := Tryz.isAgg248
 z46 := Tryz.sizeOf248
 v46 := Tryz.zeroValue248
 t51 := Tryz.underlying307
 a51 := Tryz.isAgg307
 z51 := Tryz.sizeOf307
 v51 := Tryz.zeroValue307
 t53 := Tryz.underlying309
 a53 := Tryz.isAgg309
 z53 := Tryz.sizeOf309
 v53 := Tryz.zeroValue309
 t171 := Tryz.underlying340
 a171 := Tryz.isAgg340
 z171 := Tryz.sizeOf340
 v171 := Tryz.zeroValue340
 t173 := Tryz.underlying342
 a173 := Tryz.isAgg342
 z173 := Tryz.sizeOf342
 v173 := Tryz.zeroValue342
 t212 := Tryz.underlying359
 a212 := Tryz.isAgg359
 z212 := Tryz.sizeOf359
 v212 := Tryz.zeroValue359
 t213 := Tryz.underlying360
 a213 := Tryz.isAgg360
 z213 := Tryz.sizeOf360
 t232 := Tryz.underlying379
 a232 := Tryz.isAgg379
 z232 := Tryz.sizeOf379
 v232 := Tryz.zeroValue379
 t233 := Tryz.underlying380
 a233 := Tryz.isAgg380
 z233 := Tryz.sizeOf380
 v233 := Tryz.zeroValue380
 g17 := by kernel_rfl
 g18 := by kernel_rfl
 g19 := by kernel_rfl
 i0 := by kernel_rfl
 i2 := by kernel_rfl
 i3 := by kernel_rfl
 i4 := by kernel_rfl
 i5 := by kernel_rfl
 i9 := by kernel_rfl
 i20 := by kernel_rfl
 i37 := by kernel_rfl
 i46 := by kernel_rfl
 i51 := by kernel_rfl
 i53 := by kernel_rfl
 i171 := by kernel_rfl
 i173 := by kernel_rfl
 i212 := by kernel_rfl
 i232 := by kernel_rfl
 i233 := by kernel_rfl
 m17 := by kernel_rfl
 m18 := by kernel_rfl
 m19 := by kernel_rfl }
open Go.RowKit Go.Sort Go.Lib in
theorem Tryz.strconv_Itoa (n : Int) (h0 : -9223372036854775808 ≤ n) (h1 : n ≤ 9223372036854775807) (w : World) (htab : Lib.TabIs Tryz.prog w "internal/strconv.uint64pow10" .u64 Lib.pow10Tab) :
  Calls Tryz.prog 107 #[.int .i64 n] w fun e w' => e = .returned (.string ⟨(Lib.itoa n).toArray⟩) ∧ ∃ k os, w' = grow (w.drewN k) os := Any.strconv_Itoa Tryz.laysM171 n h0 h1 w htab
def Tryz.laysC172_ren : Go.Shelf.Ren := ⟨fun | 172 => 305 | 244 => 321 | 245 => 322 | 247 => 332 | 279 => 333 | 280 => 334 | 281 => 335 | 282 => 336 | 287 => 341 | 316 => 342 | 171 => 107 | 205 => 343 | 321 => 344 | 322 => 345 | 243 => 176 | 246 => 227 | 283 => 281 | 284 => 282 | 285 => 283 | 286 => 284 | 129 => 241 | 317 => 312 | 318 => 313 | 319 => 314 | 320 => 315 | 337 => 330 | 338 => 331 | n => n, fun | 9 => 9 | 3 => 3 | 75 => 32 | 76 => 80 | 4 => 4 | 5 => 5 | 167 => 371 | 37 => 167 | 0 => 0 | 85 => 372 | 2 => 2 | 168 => 374 | 53 => 309 | 175 => 381 | 46 => 248 | 210 => 384 | 127 => 245 | 145 => 392 | 143 => 390 | 21 => 21 | 171 => 340 | 173 => 342 | 212 => 359 | 51 => 307 | 20 => 20 | 213 => 360 | 232 => 379 | 233 => 380 | 80 => 57 | n => n, fun | 15 => 17 | 16 => 18 | 17 => 13 | 18 => 15 | 19 => 16 | n => n⟩
theorem Tryz.laysC172 : Go.Proofs.LaysC.n172 Tryz.prog Tryz.laysC172_ren := {
 mixed := by kernel_rfl
 f129 := Tryz.func241.trans (congrArg some (by kernel_rfl))
 f171 := Tryz.func107.trans (congrArg some (by kernel_rfl))
 f172 := Tryz.func305.trans (congrArg some (by kernel_rfl))
 f205 := Tryz.func343.trans (congrArg some (by kernel_rfl))
 f243 := Tryz.func176.trans (congrArg some (by kernel_rfl))
 f244 := Tryz.func321.trans (congrArg some (by kernel_rfl))
 f245 := Tryz.func322.trans (congrArg some (by kernel_rfl))
 f246 := Tryz.func227.trans (congrArg some (by kernel_rfl))
 f247 := Tryz.func332.trans (congrArg some (by kernel_rfl))
 f279 := Tryz.func333.trans (congrArg some (by kernel_rfl))
 f280 := Tryz.func334.trans (congrArg some (by kernel_rfl))
 f281 := Tryz.func335.trans (congrArg some (by kernel_rfl))
 f282 := Tryz.func336.trans (congrArg some (by kernel_rfl))
 f283 := Tryz.func281.trans (congrArg some (by kernel_rfl))
 f284 := Tryz.func282.trans (congrArg some (by kernel_rfl))
 f285 := Tryz.func283.trans (congrArg some (by kernel_rfl))
 f286 := Tryz.func284.trans (congrArg some (by kernel_rfl))
 f287 := Tryz.func341.trans (congrArg some (by kernel_rfl))
 f316 := Tryz.func342.trans (congrArg some (by kernel_rfl))
 f317 := Tryz.func312.trans (congrArg some (by kernel_rfl))
 f318 := Tryz.func313.trans (congrArg some (by kernel_rfl))
 f319 := Tryz.func314.trans (congrArg some (by kernel_rfl))
 f320 := Tryz.func315.trans (congrArg some (by kernel_rfl))
 f321 := Tryz.func344.trans (congrArg some (by kernel_rfl))
 f322 := Tryz.func345.trans (congrArg some (by kernel_rfl))
 f337 := Tryz.func330.trans (congrArg some (by kernel_rfl))
 f338 := Tryz.func331.trans (congrArg some (by kernel_rfl))
 t0 := Tryz.underlying0
 a0 := Tryz.isAgg0
 z0 := Tryz.sizeOf0
 v0 := Tryz.zeroValue0
 t2 := Tryz.underlying2
 a2 := Tryz.isAgg2
 z2 := Tryz.sizeOf2
 v2 := Tryz.zeroValue2
 t3 := Tryz.underlying3
 a3 := Tryz.isAgg3
 z3 := Tryz.sizeOf3
 v3 := Tryz.zeroValue3
 t4 := Tryz.underlying4
 a4 := Tryz.isAgg4
 z4 := Tryz.sizeOf4
 v4 := Tryz.zeroValue4
 t5 := Tryz.underlying5
 a5 := Tryz.isAgg5
 z5 := Tryz.sizeOf5
 v5 := Tryz.zeroValue5
 t9 := Tryz.underlying9
 a9 := Tryz.isAgg9
 z9 := Tryz.sizeOf9
 v9 := Tryz.zeroValue9
 t20 := Tryz.underlying20
 a20 := Tryz.isAgg20
 z20 := Tryz.sizeOf20
 v20 := Tryz.zeroValue20
 t21 := Tryz.underlying21
 a21 := Tryz.isAgg21
 z21 := Tryz.sizeOf21
 v21 := Tryz.zeroValue21
 t37 := Tryz.underlying167
 a37 := Tryz.isAgg167
 z37 := Tryz.sizeOf167
 v37 := Tryz.zeroValue167
 t46 := Tryz.underlying248
 a46 := Tryz.isAgg248
 z46 := Tryz.sizeOf248
 v46 := Tryz.zeroValue248
 t51 := Tryz.underlying307
 a51 := Tryz.isAgg307
 z51 := Tryz.sizeOf307
 v51 := Tryz.zeroValue307
 t53 := Tryz.underlying309
 a53 := Tryz.isAgg309
 z53 := Tryz.sizeOf309
 v53 := Tryz.zeroValue309
 t75 := Tryz.underlying32
 a75 := Tryz.isAgg32
 z75 := Tryz.sizeOf32
 v75 := Tryz.zeroValue32
 t76 := Tryz.underlying80
 a76 := Tryz.isAgg80
 z76 := Tryz.sizeOf80
 v76 := Tryz.zeroValue80
 t85 := Tryz.underlying372
 a85 := Tryz.isAgg372
 z85 := Tryz.sizeOf372
 v85 := Tryz.zeroValue372
 t127 := Tryz.underlying245
 a127 := Tryz.isAgg245
 z127 := Tryz.sizeOf245
 v127 := Tryz.zeroValue245
 t143 := Tryz.underlying390
 a143 := Tryz.isAgg390
 z143 := Tryz.sizeOf390
 v143 := Tryz.zeroValue390
 t145 := Tryz.underlying392
 a145 := Tryz.isAgg392
 z145 := Tryz.sizeOf392
 v145 := Tryz.zeroValue392
 t167 := Tryz.underlying371
 a167 := Tryz.isAgg371
 z167 := Tryz.sizeOf371
 v167 := Tryz.zeroValue371
 t168 := Tryz.underlying374
 a168 := Tryz.isAgg374
 z168 := Tryz.sizeOf374
 v168 := Tryz.zeroValue374
 t171 := Tryz.underlying340
 a171 := Tryz.isAgg340
 z171 := Tryz.sizeOf340
 v171 := Tryz.zeroValue340
 t173 := Tryz.underlying342
 a173 := Tryz.isAgg342
 z173 := Tryz.sizeOf342
 v173 := Tryz.zeroValue342
 t175 := Tryz.underlying381
 a175 := Tryz.isAgg381
 z175 := Tryz.sizeOf381
 v175 := Tryz.zeroValue381
 t210 := Tryz.underlying384
 a210 := Tryz.isAgg384
 z210 := Tryz.sizeOf384
 v210 := Tryz.zeroValue384
 t212 := Tryz.underlying359
 a212 := Tryz.isAgg359
 z212 := Tryz.sizeOf359
 v212 := Tryz.zeroValue359
 t213 := Tryz.underlying360
 a213 := Tryz.isAgg360
 z213 := Tryz.sizeOf360
 t232 := Tryz.underlying379
 a232 := Tryz.isAgg379
 z232 := Tryz.sizeOf379
 v232 := Tryz.zeroValue379
 t233 := Tryz.underlying380
 a233 := Tryz.isAgg380
 z233 := Tryz.sizeOf380
 v233 := Tryz.zeroValue380
 g15 := by kernel_rfl
 g16 := by kernel_rfl
 g17 := by kernel_rfl
 g18 := by kernel_rfl
 g19 := by kernel_rfl
 t80 := Tryz.underlying57
 a80 := Tryz.isAgg57
 z80 := Tryz.sizeOf57
 v80 := Tryz.zeroValue57
 i0 := by kernel_rfl
 i2 := by kernel_rfl
 i3 := by kernel_rfl
 i4 := by kernel_rfl
 i5 := by kernel_rfl
 i9 := by kernel_rfl
 i20 := by kernel_rfl
 i21 := by kernel_rfl
 i37 := by kernel_rfl
 i46 := by kernel_rfl
 i51 := by kernel_rfl
 i53 := by kernel_rfl
 i75 := by kernel_rfl
 i76 := by kernel_rfl
 i80 := by kernel_rfl
 i85 := by kernel_rfl
 i127 := by kernel_rfl
 i143 := by kernel_rfl
 i145 := by kernel_rfl
 i167 := by kernel_rfl
 i168 := by kernel_rfl
 i171 := by kernel_rfl
 i173 := by kernel_rfl
 i175 := by kernel_rfl
 i210 := by kernel_rfl
 i212 := by kernel_rfl
 i232 := by kernel_rfl
 i233 := by kernel_rfl
 m15 := by kernel_rfl
 m16 := by kernel_rfl
 m17 := by kernel_rfl
 m18 := by kernel_rfl
 m19 := by kernel_rfl
 c0 := by kernel_rfl
 c2 := by kernel_rfl
 c3 := by kernel_rfl
 c4 := by kernel_rfl
 c5 := by kernel_rfl
 c9 := by kernel_rfl
 c20 := by kernel_rfl
 c21 := by kernel_rfl
 c37 := by kernel_rfl
 c46 := by kernel_rfl
 c51 := by kernel_rfl
 c53 := by kernel_rfl
 c75 := by kernel_rfl
 c76 := by kernel_rfl
 c80 := by kernel_rfl
 c85 := by kernel_rfl
 c127 := by kernel_rfl
 c143 := by kernel_rfl
 c145 := by kernel_rfl
 c167 := by kernel_rfl
 c168 := by kernel_rfl
 c171 := by kernel_rfl
 c173 := by kernel_rfl
 c175 := by kernel_rfl
 c210 := by kernel_rfl
 c212 := by kernel_rfl
 c213 := by kernel_rfl
 c232 := by kernel_rfl
 c233 := by kernel_rfl }
open Go.RowKit in
theorem Tryz.strconv_Atoi_ok (s : ByteArray) (hmax : s.size ≤ 9223372036854775806) (v : Int) (h : Lib.atoiAll s.data.toList = .ok v) (w : World) :
  Calls Tryz.prog 305 #[.string s] w fun e w' => e = .returned (.tuple #[.int .i64 v, .nilIface]) ∧ (w' = w ∨ ∃ t, w' = Lib.bytesWorld w 5 t) := Any.strconv_Atoi_ok Tryz.laysC172 s hmax v h w
open Go.RowKit in
theorem Tryz.strconv_Atoi_range (s : ByteArray) (hlim : s.size ≤ 281474976710656) (h : Lib.atoiAll s.data.toList = .range) (ev : Value) (w : World) (hv : w.cell? ⟨18, 0, none⟩ = some ev) (hev : ev = .nilIface ∨ ∃ te pe, ev = .iface te pe) :
  Calls Tryz.prog 305 #[.string s] w fun e w' => ∃ N, e = .returned (.tuple #[.int .i64 (Lib.atoiSat s.data.toList), .iface 374 (.pointer (some ⟨N, 0, none⟩))]) ∧ w.heap.size ≤ N ∧ w'.heap[N]? = some (.cells #[.string ⟨#[65, 116, 111, 105]⟩, .string s, ev] 384 (0, 0)) ∧ Below w.heap.size w w' := Any.strconv_Atoi_range Tryz.laysC172 s hlim h ev w hv hev
def Tryz.lays144_ren : Go.Shelf.Ren := ⟨fun | 144 => 302 | 143 => 311 | 219 => 307 | 217 => 323 | 225 => 324 | 224 => 325 | 267 => 326 | 266 => 337 | 314 => 338 | n => n, fun | 9 => 9 | 4 => 4 | 3 => 3 | 5 => 5 | 46 => 248 | 146 => 377 | 51 => 307 | n => n, fun | 1 => 14 | n => n⟩
theorem Tryz.lays144 : Go.Proofs.Lays.n144 Tryz.prog Tryz.lays144_ren := {
 mixed := by kernel_rfl
 f143 := Tryz.func311.trans (congrArg some (by kernel_rfl))
 f144 := Tryz.func302.trans (congrArg some (by kernel_rfl))
 f217 := Tryz.func323.trans (congrArg some (by kernel_rfl))
 f219 := Tryz.func307.trans (congrArg some (by kernel_rfl))
 f224 := Tryz.func325.trans (congrArg some (by kernel_rfl))
 f225 := Tryz.func324.trans (congrArg some (by kernel_rfl))
 f266 := Tryz.func337.trans (congrArg some (by kernel_rfl))
 f267 := Tryz.func326.trans (congrArg some (by kernel_rfl))
 f314 := Tryz.func338.trans (congrArg some (by kernel_rfl))
 t3 := Tryz.underlying3
 a3 := Tryz.isAgg3
 z3 := Tryz.sizeOf3
 v3 := Tryz.zeroValue3
 t4 := Tryz.underlying4
 a4 := Tryz.isAgg4
 z4 := Tryz.sizeOf4
 v4 := Tryz.zeroValue4
 t5 := Tryz.underlying5
 a5 := Tryz.isAgg5
 z5 := Tryz.sizeOf5
 v5 := Tryz.zeroValue5
 t9 := Tryz.underlying9
 a9 := Tryz.isAgg9
 z9 := Tryz.sizeOf9
 v9 := Tryz.zeroValue9
 t46 := Tryz.underlying248
 a46 := Tryz.isAgg248
 z46 := Tryz.sizeOf248
 v46 := Tryz.zeroValue248
 t51 := Tryz.underlying307
 a51 := Tryz.isAgg307
 z51 := Tryz.sizeOf307
 v51 := Tryz.zeroValue307
 t146 := Tryz.underlying377
 a146 := Tryz.isAgg377
 z146 := Tryz.sizeOf377
 v146 := Tryz.zeroValue377
 g1 := by kernel_rfl }
open Go.RowKit Go.Lib in
theorem Tryz.strings_Contains (s sub : ByteArray) (m : Int) (w : World) (hs : s.size < 4294967281) (hm : w.cell? ⟨14, 0, none⟩ = some (.int .i64 m)) :
  Calls Tryz.prog 302 #[.string s, .string sub] w fun e w' => e = .returned (.bool (Lib.contains s.data.toList sub.data.toList)) ∧ w' = w := Any.strings_Contains Tryz.lays144 s sub m w hs hm
def Tryz.lays145_ren : Go.Shelf.Ren := ⟨fun | 145 => 203 | 220 => 271 | 219 => 307 | 217 => 323 | 225 => 324 | 224 => 325 | 267 => 326 | 266 => 337 | 314 => 338 | n => n, fun | 9 => 9 | 4 => 4 | 59 => 267 | 3 => 3 | 5 => 5 | 46 => 248 | 146 => 377 | 51 => 307 | n => n, fun | 1 => 14 | n => n⟩
theorem Tryz.lays145 : Go.Proofs.Lays.n145 Tryz.prog Tryz.lays145_ren := {
 mixed := by kernel_rfl
 f145 := Tryz.func203.trans (congrArg some (by kernel_rfl))
 f217 := Tryz.func323.trans (congrArg some (by kernel_rfl))
 f219 := Tryz.func307.trans (congrArg some (by kernel_rfl))
 f220 := Tryz.func271.trans (congrArg some (by kernel_rfl))
 f224 := Tryz.func325.trans (congrArg some (by kernel_rfl))
 f225 := Tryz.func324.trans (congrArg some (by kernel_rfl))
 f266 := Tryz.func337.trans (congrArg some (by kernel_rfl))
 f267 := Tryz.func326.trans (congrArg some (by kernel_rfl))
 f314 := Tryz.func338.trans (congrArg some (by kernel_rfl))
 t3 := Tryz.underlying3
 a3 := Tryz.isAgg3
 z3 := Tryz.sizeOf3
 v3 := Tryz.zeroValue3
 t4 := Tryz.underlying4
 a4 := Tryz.isAgg4
 z4 := Tryz.sizeOf4
 v4 := Tryz.zeroValue4
 t5 := Tryz.underlying5
 a5 := Tryz.isAgg5
 z5 := Tryz.sizeOf5
 v5 := Tryz.zeroValue5
 t9 := Tryz.underlying9
 a9 := Tryz.isAgg9
 z9 := Tryz.sizeOf9
 v9 := Tryz.zeroValue9
 t46 := Tryz.underlying248
 a46 := Tryz.isAgg248
 z46 := Tryz.sizeOf248
 v46 := Tryz.zeroValue248
 t51 := Tryz.underlying307
 a51 := Tryz.isAgg307
 z51 := Tryz.sizeOf307
 v51 := Tryz.zeroValue307
 t59 := Tryz.underlying267
 a59 := Tryz.isAgg267
 z59 := Tryz.sizeOf267
 v59 := Tryz.zeroValue267
 t146 := Tryz.underlying377
 a146 := Tryz.isAgg377
 z146 := Tryz.sizeOf377
 v146 := Tryz.zeroValue377
 g1 := by kernel_rfl }
open Go.RowKit Go.Lib in
theorem Tryz.strings_Cut (s sep : ByteArray) (m : Int) (w : World) (hs : s.size < 4294967281) (hm : w.cell? ⟨14, 0, none⟩ = some (.int .i64 m)) :
  Calls Tryz.prog 203 #[.string s, .string sep] w fun e w' => e = .returned (.tuple #[.string ⟨(Lib.cut s.data.toList sep.data.toList).1.toArray⟩, .string ⟨(Lib.cut s.data.toList sep.data.toList).2.1.toArray⟩, .bool (Lib.cut s.data.toList sep.data.toList).2.2]) ∧ ∃ n, w' = w.drewN n := Any.strings_Cut Tryz.lays145 s sep m w hs hm
def Tryz.lays138_ren : Go.Shelf.Ren := ⟨fun | 138 => 304 | 195 => 319 | 218 => 320 | 143 => 311 | 219 => 307 | 217 => 323 | 225 => 324 | 224 => 325 | 267 => 326 | 266 => 337 | 314 => 338 | n => n, fun | 9 => 9 | 3 => 3 | 4 => 4 | 5 => 5 | 0 => 0 | 46 => 248 | 146 => 377 | 51 => 307 | n => n, fun | 1 => 14 | n => n⟩
theorem Tryz.lays138 : Go.Proofs.Lays.n138 Tryz.prog Tryz.lays138_ren := {
 mixed := by kernel_rfl
 f138 := Tryz.func304.trans (congrArg some (by kernel_rfl))
 f143 := Tryz.func311.trans (congrArg some (by kernel_rfl))
 f195 := Tryz.func319.trans (congrArg some (by kernel_rfl))
 f217 := Tryz.func323.trans (congrArg some (by kernel_rfl))
 f218 := Tryz.func320.trans (congrArg some (by kernel_rfl))
 f219 := Tryz.func307.trans (congrArg some (by kernel_rfl))
 f224 := Tryz.func325.trans (congrArg some (by kernel_rfl))
 f225 := Tryz.func324.trans (congrArg some (by kernel_rfl))
 f266 := Tryz.func337.trans (congrArg some (by kernel_rfl))
 f267 := Tryz.func326.trans (congrArg some (by kernel_rfl))
 f314 := Tryz.func338.trans (congrArg some (by kernel_rfl))
 t0 := Tryz.underlying0
 a0 := Tryz.isAgg0
 z0 := Tryz.sizeOf0
 v0 := Tryz.zeroValue0
 t3 := Tryz.underlying3
 a3 := Tryz.isAgg3
 z3 := Tryz.sizeOf3
 v3 := Tryz.zeroValue3
 t4 := Tryz.underlying4
 a4 := Tryz.isAgg4
 z4 := Tryz.sizeOf4
 v4 := Tryz.zeroValue4
 t5 := Tryz.underlying5
 a5 := Tryz.isAgg5
 z5 := Tryz.sizeOf5
 v5 := Tryz.zeroValue5
 t9 := Tryz.underlying9
 a9 := Tryz.isAgg9
 z9 := Tryz.sizeOf9
 v9 := Tryz.zeroValue9
 t46 := Tryz.underlying248
 a46 := Tryz.isAgg248
 z46 := Tryz.sizeOf248
 v46 := Tryz.zeroValue248
 t51 := Tryz.underlying307
 a51 := Tryz.isAgg307
 z51 := Tryz.sizeOf307
 v51 := Tryz.zeroValue307
 t146 := Tryz.underlying377
 a146 := Tryz.isAgg377
 z146 := Tryz.sizeOf377
 v146 := Tryz.zeroValue377
 g1 := by kernel_rfl }
open Go.RowKit Go.Lib in
theorem Tryz.strings_Count_one (s : ByteArray) (c : UInt8) (w : World) :
  Calls Tryz.prog 304 #[.string s, .string ⟨#[c]⟩] w fun e w' => e = .returned (.int .i64 (Lib.countByte s.data.toList c)) ∧ w' = w := Any.strings_Count_one Tryz.lays138 s c w
def Tryz.lays190_ren : Go.Shelf.Ren := ⟨fun | 190 => 115 | 125 => 181 | 258 => 180 | 128 => 240 | 129 => 241 | 302 => 231 | 303 => 232 | 304 => 233 | 305 => 234 | 306 => 235 | 307 => 236 | 308 => 237 | 309 => 238 | 310 => 239 | 333 => 289 | 329 => 290 | 330 => 291 | 334 => 292 | 335 => 293 | 336 => 294 | 344 => 317 | n => n, fun | 31 => 53 | 9 => 9 | 3 => 3 | 46 => 248 | 0 => 0 | 51 => 307 | 53 => 309 | 4 => 4 | 183 => 301 | 182 => 300 | 131 => 182 | 5 => 5 | 218 => 347 | 222 => 351 | 228 => 362 | 229 => 157 | n => n, fun | n => n⟩
theorem Tryz.lays190 : Go.Proofs.Lays.n190 Tryz.prog Tryz.lays190_ren := {
 mixed := by kernel_rfl
 f125 := Tryz.func181.trans (congrArg some (by kernel_rfl))
 f128 := Tryz.func240.trans (congrArg some (by kernel_rfl))
 f129 := Tryz.func241.trans (congrArg some (by kernel_rfl))
 f190 := Tryz.func115.trans (congrArg some (by kernel_rfl))
 f258 := Tryz.func180.trans (congrArg some (by kernel_rfl))
 f302 := Tryz.func231.trans (congrArg some (by kernel_rfl))
 f303 := Tryz.func232.trans (congrArg some (by kernel_rfl))
 f304 := Tryz.func233.trans (congrArg some (by kernel_rfl))
 f305 := Tryz.func234.trans (congrArg some (by kernel_rfl))
 f306 := Tryz.func235.trans (congrArg some (by kernel_rfl))
 f307 := Tryz.func236.trans (congrArg some (by kernel_rfl))
 f308 := Tryz.func237.trans (congrArg some (by kernel_rfl))
 f309 := Tryz.func238.trans (congrArg some (by kernel_rfl))
 f310 := Tryz.func239.trans (congrArg some (by kernel_rfl))
 f329 := Tryz.func290.trans (congrArg some (by kernel_rfl))
 f330 := Tryz.func291.trans (congrArg some (by kernel_rfl))
 f333 := Tryz.func289.trans (congrArg some (by kernel_rfl))
 f334 := Tryz.func292.trans (congrArg some (by kernel_rfl))
 f335 := Tryz.func293.trans (congrArg some (by kernel_rfl))
 f336 := Tryz.func294.trans (congrArg some (by kernel_rfl))
 f344 := Tryz.func317.trans (congrArg some (by kernel_rfl))
 t0 := Tryz.underlying0
 a0 := Tryz.isAgg0
 z0 := Tryz.sizeOf0
 v0 := Tryz.zeroValue0
 t3 := Tryz.underlying3
 a3 := Tryz.isAgg3
 z3 := Tryz.sizeOf3
 v3 := Tryz.zeroValue3
 t4 := Tryz.underlying4
 a4 := Tryz.isAgg4
 z4 := Tryz.sizeOf4
 v4 := Tryz.zeroValue4
 t5 := Tryz.underlying5
 a5 := Tryz.isAgg5
 z5 := Tryz.sizeOf5
 v5 := Tryz.zeroValue5
 t9 := Tryz.underlying9
 a9 := Tryz.isAgg9
 z9 := Tryz.sizeOf9
 v9 := Tryz.zeroValue9
 t31 := Tryz.underlying53
 a31 := Tryz.isAgg53
 z31 := Tryz.sizeOf53
 v31 := Tryz.zeroValue53
 t46 := Tryz.underlying248
 a46 := Tryz.isAgg248
 z46 := Tryz.sizeOf248
 v46 := Tryz.zeroValue248
 t51 := Tryz.underlying307
 a51 := Tryz.isAgg307
 z51 := Tryz.sizeOf307
 v51 := Tryz.zeroValue307
 t53 := Tryz.underlying309
 a53 := Tryz.isAgg309
 z53 := Tryz.sizeOf309
 v53 := Tryz.zeroValue309
 t131 := Tryz.underlying182
 a131 := Tryz.isAgg182
 z131 := Tryz.sizeOf182
 v131 := Tryz.zeroValue182
 t182 := Tryz.underlying300
 a182 := Tryz.isAgg300
 z182 := Tryz.sizeOf300
 v182 := Tryz.zeroValue300
 t183 := Tryz.underlying301
 a183 := Tryz.isAgg301
 z183 := Tryz.sizeOf301
 v183 := Tryz.zeroValue301
 t218 := Tryz.underlying347
 a218 := Tryz.isAgg347
 z218 := Tryz.sizeOf347
 v218 := Tryz.zeroValue347
 t222 := Tryz.underlying351
 a222 := Tryz.isAgg351
 z222 := Tryz.sizeOf351
 v222 := Tryz.zeroValue351
 t228 := Tryz.underlying362
 a228 := Tryz.isAgg362
 z228 := Tryz.sizeOf362
 v228 := Tryz.zeroValue362
 t229 := Tryz.underlying157
 a229 := Tryz.isAgg157
 z229 := Tryz.sizeOf157
 v229 := Tryz.zeroValue157 }
open Go.Sort Go.RowKit in
theorem Tryz.slices_Sort_string (blk off cap : Nat) (ss : List (List UInt8)) (w : World) (hH : Holds encStr w blk off ss.toArray) (hblk : blk < w.heap.size) (hsz : ss.length < 4611686018427387904) :
  Calls Tryz.prog 115 #[.slice (some ⟨blk, off, none⟩) ss.length cap] w fun e w' =>
   e = .returned (.tuple #[]) ∧ ∃ n os, w' = grow (putRow encStr (Sort.ahead w n) blk off (ss.mergeSort fun x y => decide (x ≤ y)).toArray) os := Any.slices_Sort_string Tryz.lays190 blk off cap ss w hH hblk hsz
def Tryz.lays146_ren : Go.Shelf.Ren := ⟨fun | 146 => 207 | 221 => 276 | 268 => 310 | 138 => 304 | 143 => 311 | 195 => 319 | 197 => 327 | 218 => 320 | 219 => 307 | 260 => 339 | 217 => 323 | 225 => 324 | 224 => 325 | 267 => 326 | 266 => 337 | 314 => 338 | n => n, fun | 9 => 9 | 31 => 53 | 3 => 3 | 4 => 4 | 0 => 0 | 105 => 367 | 21 => 21 | 5 => 5 | 46 => 248 | 119 => 385 | 139 => 388 | 138 => 387 | 146 => 377 | 51 => 307 | n => n, fun | 1 => 14 | 3 => 19 | 4 => 20 | n => n⟩
theorem Tryz.lays146 : Go.Proofs.Lays.n146 Tryz.prog Tryz.lays146_ren := {
 mixed := by kernel_rfl
 f138 := Tryz.func304.trans (congrArg some (by kernel_rfl))
 f143 := Tryz.func311.trans (congrArg some (by kernel_rfl))
 f146 := Tryz.func207.trans (congrArg some (by kernel_rfl))
 f195 := Tryz.func319.trans (congrArg some (by kernel_rfl))
 f197 := Tryz.func327.trans (congrArg some (by kernel_rfl))
 f217 := Tryz.func323.trans (congrArg some (by kernel_rfl))
 f218 := Tryz.func320.trans (congrArg some (by kernel_rfl))
 f219 := Tryz.func307.trans (congrArg some (by kernel_rfl))
 f221 := Tryz.func276.trans (congrArg some (by kernel_rfl))
 f224 := Tryz.func325.trans (congrArg some (by kernel_rfl))
 f225 := Tryz.func324.trans (congrArg some (by kernel_rfl))
 f260 := Tryz.func339.trans (congrArg some (by kernel_rfl))
 f266 := Tryz.func337.trans (congrArg some (by kernel_rfl))
 f267 := Tryz.func326.trans (congrArg some (by kernel_rfl))
 f268 := Tryz.func310.trans (congrArg some (by kernel_rfl))
 f314 := Tryz.func338.trans (congrArg some (by kernel_rfl))
 t0 := Tryz.underlying0
 a0 := Tryz.isAgg0
 z0 := Tryz.sizeOf0
 v0 := Tryz.zeroValue0
 t3 := Tryz.underlying3
 a3 := Tryz.isAgg3
 z3 := Tryz.sizeOf3
 v3 := Tryz.zeroValue3
 t4 := Tryz.underlying4
 a4 := Tryz.isAgg4
 z4 := Tryz.sizeOf4
 v4 := Tryz.zeroValue4
 t5 := Tryz.underlying5
 a5 := Tryz.isAgg5
 z5 := Tryz.sizeOf5
 v5 := Tryz.zeroValue5
 t9 := Tryz.underlying9
 a9 := Tryz.isAgg9
 z9 := Tryz.sizeOf9
 v9 := Tryz.zeroValue9
 t21 := Tryz.underlying21
 a21 := Tryz.isAgg21
 z21 := Tryz.sizeOf21
 v21 := Tryz.zeroValue21
 t31 := Tryz.underlying53
 a31 := Tryz.isAgg53
 z31 := Tryz.sizeOf53
 v31 := Tryz.zeroValue53
 t46 := Tryz.underlying248
 a46 := Tryz.isAgg248
 z46 := Tryz.sizeOf248
 v46 := Tryz.zeroValue248
 t51 := Tryz.underlying307
 a51 := Tryz.isAgg307
 z51 := Tryz.sizeOf307
 v51 := Tryz.zeroValue307
 t105 := Tryz.underlying367
 a105 := Tryz.isAgg367
 z105 := Tryz.sizeOf367
 v105 := Tryz.zeroValue367
 t119 := Tryz.underlying385
 a119 := Tryz.isAgg385
 z119 := Tryz.sizeOf385
 t138 := Tryz.underlying387
 a138 := Tryz.isAgg387
 z138 := Tryz.sizeOf387
 v138 := Tryz.zeroValue387
 t139 := Tryz.underlying388
 a139 := Tryz.isAgg388
 z139 := Tryz.sizeOf388
 v139 := Tryz.zeroValue388
 t146 := Tryz.underlying377
 a146 := Tryz.isAgg377
 z146 := Tryz.sizeOf377
 v146 := Tryz.zeroValue377
 g1 := by kernel_rfl
 g3 := by kernel_rfl
 g4 := by kernel_rfl }
open Go.RowKit Go.Lib in
theorem Tryz.strings_Split (s sep : ByteArray) (m : Int) (w : World) (hs : s.size < 4294967281) (hm : w.cell? ⟨14, 0, none⟩ = some (.int .i64 m)) (h1 : 1 ≤ sep.size) :
  Calls Tryz.prog 207 #[.string s, .string sep] w fun e w' =>
   e = .returned (.slice (some ⟨w.heap.size, 0, none⟩) (Lib.countB s sep + 1) (Lib.countB s sep + 1)) ∧ w' = w.alloc (.cells ((Lib.splitB sep 0 (Lib.countB s sep) s).map Value.string).toArray 9) := Any.strings_Split Tryz.lays146 (by kernel_rfl) s sep m w hs hm h1
def Tryz.lays155_ren : Go.Shelf.Ren := ⟨fun | 155 => 272 | 154 => 308 | 138 => 304 | 165 => 196 | 143 => 311 | 166 => 106 | 197 => 327 | 169 => 108 | 195 => 319 | 218 => 320 | 240 => 175 | 241 => 268 | 219 => 307 | 260 => 339 | 276 => 226 | 277 => 306 | 217 => 323 | 225 => 324 | 224 => 325 | 267 => 326 | 266 => 337 | 314 => 338 | n => n, fun | 9 => 9 | 3 => 3 | 4 => 4 | 72 => 169 | 0 => 0 | 76 => 80 | 105 => 367 | 21 => 21 | 5 => 5 | 70 => 166 | 20 => 20 | 37 => 167 | 75 => 32 | 127 => 245 | 164 => 277 | 46 => 248 | 119 => 385 | 139 => 388 | 138 => 387 | 146 => 377 | 51 => 307 | 80 => 57 | n => n, fun | 1 => 14 | 3 => 19 | 4 => 20 | n => n⟩
theorem Tryz.lays155 : Go.Proofs.Lays.n155 Tryz.prog Tryz.lays155_ren := {
 mixed := by kernel_rfl
 f138 := Tryz.func304.trans (congrArg some (by kernel_rfl))
 f143 := Tryz.func311.trans (congrArg some (by kernel_rfl))
 f154 := Tryz.func308.trans (congrArg some (by kernel_rfl))
 f155 := Tryz.func272.trans (congrArg some (by kernel_rfl))
 f165 := Tryz.func196.trans (congrArg some (by kernel_rfl))
 f166 := Tryz.func106.trans (congrArg some (by kernel_rfl))
 f169 := Tryz.func108.trans (congrArg some (by kernel_rfl))
 f195 := Tryz.func319.trans (congrArg some (by kernel_rfl))
 f197 := Tryz.func327.trans (congrArg some (by kernel_rfl))
 f217 := Tryz.func323.trans (congrArg some (by kernel_rfl))
 f218 := Tryz.func320.trans (congrArg some (by kernel_rfl))
 f219 := Tryz.func307.trans (congrArg some (by kernel_rfl))
 f224 := Tryz.func325.trans (congrArg some (by kernel_rfl))
 f225 := Tryz.func324.trans (congrArg some (by kernel_rfl))
 f240 := Tryz.func175.trans (congrArg some (by kernel_rfl))
 f241 := Tryz.func268.trans (congrArg some (by kernel_rfl))
 f260 := Tryz.func339.trans (congrArg some (by kernel_rfl))
 f266 := Tryz.func337.trans (congrArg some (by kernel_rfl))
 f267 := Tryz.func326.trans (congrArg some (by kernel_rfl))
 f276 := Tryz.func226.trans (congrArg some (by kernel_rfl))
 f277 := Tryz.func306.trans (congrArg some (by kernel_rfl))
 f314 := Tryz.func338.trans (congrArg some (by kernel_rfl))
 t0 := Tryz.underlying0
 a0 := Tryz.isAgg0
 z0 := Tryz.sizeOf0
 v0 := Tryz.zeroValue0
 t3 := Tryz.underlying3
 a3 := Tryz.isAgg3
 z3 := Tryz.sizeOf3
 v3 := Tryz.zeroValue3
 t4 := Tryz.underlying4
 a4 := Tryz.isAgg4
 z4 := Tryz.sizeOf4
 v4 := Tryz.zeroValue4
 t5 := Tryz.underlying5
 a5 := Tryz.isAgg5
 z5 := Tryz.sizeOf5
 v5 := Tryz.zeroValue5
 t9 := Tryz.underlying9
 a9 := Tryz.isAgg9
 z9 := Tryz.sizeOf9
 v9 := Tryz.zeroValue9
 t20 := Tryz.underlying20
 a20 := Tryz.isAgg20
 z20 := Tryz.sizeOf20
 v20 := Tryz.zeroValue20
 t21 := Tryz.underlying21
 a21 := Tryz.isAgg21
 z21 := Tryz.sizeOf21
 v21 := Tryz.zeroValue21
 t37 := Tryz.underlying167
 a37 := Tryz.isAgg167
 z37 := Tryz.sizeOf167
 v37 := Tryz.zeroValue167
 t46 := Tryz.underlying248
 a46 := Tryz.isAgg248
 z46 := Tryz.sizeOf248
 v46 := Tryz.zeroValue248
 t51 := Tryz.underlying307
 a51 := Tryz.isAgg307
 z51 := Tryz.sizeOf307
 v51 := Tryz.zeroValue307
 t70 := Tryz.underlying166
 a70 := Tryz.isAgg166
 z70 := Tryz.sizeOf166
 v70 := Tryz.zeroValue166
 t72 := Tryz.underlying169
 a72 := Tryz.isAgg169
 z72 := Tryz.sizeOf169
 v72 := Tryz.zeroValue169
 t75 := Tryz.underlying32
 a75 := Tryz.isAgg32
 z75 := Tryz.sizeOf32
 v75 := Tryz.zeroValue32
 t76 := Tryz.underlying80
 a76 := Tryz.isAgg80
 z76 := Tryz.sizeOf80
 v76 := Tryz.zeroValue80
 t105 := Tryz.underlying367
 a105 := Tryz.isAgg367
 z105 := Tryz.sizeOf367
 v105 := Tryz.zeroValue367
 t119 := Tryz.underlying385
 a119 := Tryz.isAgg385
 z119 := Tryz.sizeOf385
 t127 := Tryz.underlying245
 a127 := Tryz.isAgg245
 z127 := Tryz.sizeOf245
 v127 := Tryz.zeroValue245
 t138 := Tryz.underlying387
 a138 := Tryz.isAgg387
 z138 := Tryz.sizeOf387
 v138 := Tryz.zeroValue387
 t139 := Tryz.underlying388
 a139 := Tryz.isAgg388
 z139 := Tryz.sizeOf388
 v139 := Tryz.zeroValue388
 t146 := Tryz.underlying377
 a146 := Tryz.isAgg377
 z146 := Tryz.sizeOf377
 v146 := Tryz.zeroValue377
 t164 := Tryz.underlying277
 a164 := Tryz.isAgg277
 z164 := Tryz.sizeOf277
 v164 := Tryz.zeroValue277
 g1 := by kernel_rfl
 g3 := by kernel_rfl
 g4 := by kernel_rfl }
theorem Tryz.Builder_Extra_155 : Builder.Extra Tryz.prog Tryz.lays155_ren := {
 sizeBuilder := by kernel_rfl
 liesBuilder := by kernel_rfl
 t5 := Tryz.underlying5
 a5 := Tryz.isAgg5
 z5 := Tryz.sizeOf5
 v5 := Tryz.zeroValue5
 infoByte := by kernel_rfl
 cellsByte := by kernel_rfl
 sizeByte := by kernel_rfl
 neB5 := by decide }
open Go.RowKit Go.Lib in
theorem Tryz.strings_ReplaceAll (s old new : ByteArray) (m : Int) (w : World) (hs : s.size < 4294967281) (hm : w.cell? ⟨14, 0, none⟩ = some (.int .i64 m)) (h1 : 1 ≤ old.size) (hlen : s.size + Lib.countB s old * new.size ≤ 140737488355328) :
  Calls Tryz.prog 272 #[.string s, .string old, .string new] w fun e w' =>
   e = .returned (.string ⟨(Lib.replaceAll s.data.toList old.data.toList new.data.toList).toArray⟩) ∧ Below w.heap.size w w' := Any.strings_ReplaceAll Tryz.lays155 Tryz.Builder_Extra_155 s old new m w hs hm h1 hlen
def Tryz.laysNm216_ren : Go.Shelf.Ren := ⟨fun | 16 => 111 | n => n, fun | 24 => 53 | 9 => 9 | 4 => 4 | n => n, fun | n => n⟩
theorem Tryz.laysNm216 : Go.Proofs.Lays2.n16 Tryz.prog Tryz.laysNm216_ren := {
 mixed := by kernel_rfl
 f16 := Tryz.func111.trans (congrArg some (by kernel_rfl))
 t4 := Tryz.underlying4
 a4 := Tryz.isAgg4
 z4 := Tryz.sizeOf4
 v4 := Tryz.zeroValue4
 t9 := Tryz.underlying9
 a9 := Tryz.isAgg9
 z9 := Tryz.sizeOf9
 v9 := Tryz.zeroValue9
 t24 := Tryz.underlying53
 a24 := Tryz.isAgg53
 z24 := Tryz.sizeOf53
 v24 := Tryz.zeroValue53
 i9 := by kernel_rfl }
open Go.RowKit Go.Lib in
theorem Tryz.slices_Clone_string (b off n c : Nat) (zs : List ByteArray) (w : World) (hz : n ≤ zs.length) (hbig : n * 16 ≤ 140737488355328) (hc : ∀ j, j < zs.length → w.cell? ⟨b, off + j, none⟩ = some (.string (zs.getD j ByteArray.empty))) :
  Calls Tryz.prog 111 #[.slice (some ⟨b, off, none⟩) n c] w fun e w' => ∃ v', e = .returned v' ∧ w'.ownsRow w.heap.size 9 1 v' n ((zs.take n).map (Value.string)) ∧ v' ≠ .slice none 0 0 ∧ Below w.heap.size w w' := Any.slices_Clone_string Tryz.laysNm216 b off n c zs w hz hbig hc
open Go.RowKit Go.Lib in
theorem Tryz.slices_Clone_string_nil (n c : Nat) (w : World) :
  Calls Tryz.prog 111 #[.slice none n c] w fun e w' => e = .returned (.slice none 0 0) ∧ w' = w := Any.slices_Clone_string_nil Tryz.laysNm216 n c w
open Go.RowKit Go.Lib in
theorem Tryz.slices_Clone_string_zero (a : Addr) (c : Nat) (w : World) :
  Calls Tryz.prog 111 #[.slice (some a) 0 c] w fun e w' => ∃ v', e = .returned v' ∧ w'.ownsRow w.heap.size 9 1 v' 0 [] ∧ v' ≠ .slice none 0 0 ∧ Below w.heap.size w w' := Any.slices_Clone_string_zero Tryz.laysNm216 a c w
def Tryz.lays194_ren : Go.Shelf.Ren := ⟨fun | 194 => 270 | n => n, fun | 31 => 53 | 9 => 9 | 3 => 3 | 4 => 4 | 0 => 0 | n => n, fun | n => n⟩
theorem Tryz.lays194 : Go.Proofs.Lays.n194 Tryz.prog Tryz.lays194_ren := {
 mixed := by kernel_rfl
 f194 := Tryz.func270.trans (congrArg some (by kernel_rfl))
 t0 := Tryz.underlying0
 a0 := Tryz.isAgg0
 z0 := Tryz.sizeOf0
 v0 := Tryz.zeroValue0
 t3 := Tryz.underlying3
 a3 := Tryz.isAgg3
 z3 := Tryz.sizeOf3
 v3 := Tryz.zeroValue3
 t4 := Tryz.underlying4
 a4 := Tryz.isAgg4
 z4 := Tryz.sizeOf4
 v4 := Tryz.zeroValue4
 t9 := Tryz.underlying9
 a9 := Tryz.isAgg9
 z9 := Tryz.sizeOf9
 v9 := Tryz.zeroValue9
 t31 := Tryz.underlying53
 a31 := Tryz.isAgg53
 z31 := Tryz.sizeOf53
 v31 := Tryz.zeroValue53 }
open Go.RowKit Go.Lib Go.Sort in
theorem Tryz.slices_Compact_string (blk off cap : Nat) (zs : List (List UInt8)) (w : World) (hH : Holds encStr w blk off zs.toArray) (hsz : zs.length ≤ 9223372036854775807) (hcap : zs.length ≤ cap) :
  Calls Tryz.prog 270 #[.slice (some ⟨blk, off, none⟩) zs.length cap] w fun e w' => e = .returned (.slice (some ⟨blk, off, none⟩) (Lib.compact zs).length cap) ∧ ∃ q, w' = putRow encStr (Sort.ahead w q) blk off (Lib.compact zs ++ List.replicate (zs.length - (Lib.compact zs).length) []).toArray := Any.slices_Compact_string Tryz.lays194 blk off cap zs w hH hsz hcap
open Go.RowKit Go.Lib Go.Sort in
theorem Tryz.slices_Compact_string_empty (a : Option Addr) (cap : Nat) (w : World) :
  Calls Tryz.prog 270 #[.slice a 0 cap] w fun e w' => e = .returned (.slice a 0 cap) ∧ w' = w := Any.slices_Compact_string_empty Tryz.lays194 a cap w
def Tryz.laysNm224_ren : Go.Shelf.Ren := ⟨fun | 24 => 193 | n => n, fun | 24 => 53 | 9 => 9 | 3 => 3 | 4 => 4 | 0 => 0 | n => n, fun | n => n⟩
theorem Tryz.laysNm224 : Go.Proofs.Lays2.n24 Tryz.prog Tryz.laysNm224_ren := {
 mixed := by kernel_rfl
 f24 := Tryz.func193.trans (congrArg some (by kernel_rfl))
 t0 := Tryz.underlying0
 a0 := Tryz.isAgg0
 z0 := Tryz.sizeOf0
 v0 := Tryz.zeroValue0
 t3 := Tryz.underlying3
 a3 := Tryz.isAgg3
 z3 := Tryz.sizeOf3
 v3 := Tryz.zeroValue3
 t4 := Tryz.underlying4
 a4 := Tryz.isAgg4
 z4 := Tryz.sizeOf4
 v4 := Tryz.zeroValue4
 t9 := Tryz.underlying9
 a9 := Tryz.isAgg9
 z9 := Tryz.sizeOf9
 v9 := Tryz.zeroValue9
 t24 := Tryz.underlying53
 a24 := Tryz.isAgg53
 z24 := Tryz.sizeOf53
 v24 := Tryz.zeroValue53
 i9 := by kernel_rfl }
open Go.RowKit Go.Lib Go.Sort in
theorem Tryz.slices_Delete_string (blk off cap i j : Nat) (zs : List (List UInt8)) (w : World) (hH : Holds encStr w blk off zs.toArray) (hcap : zs.length ≤ cap) (hm : cap ≤ 9223372036854775807) (hij : i ≤ j) (hj : j ≤ zs.length) :
  Calls Tryz.prog 193 #[.slice (some ⟨blk, off, none⟩) zs.length cap, .int .i64 i, .int .i64 j] w fun e w' => e = .returned (.slice (some ⟨blk, off, none⟩) (zs.length - (j - i)) cap) ∧ ∃ q, w' = putRow encStr (Sort.ahead w q) blk off (zs.take i ++ zs.drop j ++ List.replicate (j - i) []).toArray := Any.slices_Delete_string Tryz.laysNm224 blk off cap i j zs w hH hcap hm hij hj
open Go.RowKit Go.Sort in
theorem Tryz.slices_Sort_string_none (p : Option Addr) (cap : Nat) (w : World) :
  Calls Tryz.prog 115 #[.slice p 0 cap] w fun e w' => e = .returned (.tuple #[]) ∧ w' = w := Any.slices_Sort_string_none Tryz.lays190 p cap w
end Go.Proofs

namespace Go.Proofs.YtnmhaipjfpongacGreatDoor
open Go.ChangeShapes Go.WideShapes Go.ChangeAt Go.RowKit

def Tests (g : Nat) (caps : Array Value) (p : B → Bool) (w : World) : Prop :=
 ∀ x, Calls Tryz.prog g (#[S x] ++ caps) w fun e w' => e = .returned (.bool (p x)) ∧ w = w'

def TestsOn (l : List B) (g : Nat) (caps : Array Value) (p : B → Bool) (w : World) : Prop :=
 ∀ x, x ∈ l → Calls Tryz.prog g (#[S x] ++ caps) w fun e w' => e = .returned (.bool (p x)) ∧ w = w'
theorem Tests.on {g : Nat} {caps : Array Value} {p : B → Bool} {w : World} (h : Tests g caps p w) (l : List B) : TestsOn l g caps p w := fun x _ => h x
theorem getD_mem {l : List B} {k : Nat} (h : k < l.length) : l.getD k [] ∈ l := by
 rw [List.getD_eq_getElem?_getD, List.getElem?_eq_getElem h]
 exact List.getElem_mem h

theorem getElem?_getD {α : Type} {l : List α} {i : Nat} (d : α) (h : i < l.length) : l[i]? = some (l.getD i d) := by
 rw [List.getD_eq_getElem?_getD, List.getElem?_eq_getElem h]; rfl

set_option maxHeartbeats 400000 in
theorem indexFunc_on (g : Nat) (x0 : Value) (p : B → Bool) (w : World) (v : Value) (l : List B) (n : Nat) (hv : Rd S w v l) (hn : n ≤ l.length)
  (h1 : ∀ j, j < n → p (l.getD j []) = false) (h2 : n < l.length → p (l.getD n []) = true) (eg : ∀ args w, (callFunc g args).run Tryz.prog w = .ok (.enter g args) w) (hp : TestsOn l g #[x0] p w) :
  Calls Tryz.prog 285 #[v, .func (.func g) #[] #[x0]] w fun e w' => e = .returned (I (if n < l.length then (n : Int) else -1)) ∧ w = w' := by
 obtain ⟨a, cap, rfl, hcap, hm, hc⟩ := hv
 have hm' : l.length ≤ 9223372036854775807 := by unfold maxLen at hm; omega
 clear hm
 go_enter Tryz.func285, Tryz.ntmps285
 go_wp2
 go_loop [8] (fun i => ∃ k : Nat, k ≤ n ∧ i = .int .i64 k) (fun i => n + 1 - (intOf i).toNat)
 case atStart => exact ⟨0, Nat.zero_le _, rfl⟩
 case round =>
  obtain ⟨k, hk, rfl⟩ := hrel
  by_cases hlt : k < l.length
  ·obtain ⟨b, off, rfl, hcell⟩ := hc (by intro h; rw [h] at hlt; simp at hlt)
   have hcl := hcell k _ (getElem?_getD [] hlt)
   have hp1 := hp (l.getD k []) (getD_mem hlt)
   clear hcell hc hp
   by_cases hkn : k < n
   ·rw [h1 k hkn] at hp1
    have H2 := Lib.hid h2; have H1 := Lib.hid h1
    clear h1 h2
    generalize l.getD k [] = x at *
    have HP := Lib.hid hp1
    clear hp1
    go_wp2_with fail
    refine HP.out.mono ?_
    rintro e w' ⟨rfl, rfl⟩
    go_wp2
    go_round
    case rel => exact ⟨k + 1, by omega, by go_num⟩
    case measure => simp [intOf]; omega
   ·have hkn : k = n := by omega
    subst hkn
    rw [h2 hlt] at hp1
    clear h1 h2
    generalize l.getD k [] = x at *
    have HP := Lib.hid hp1
    clear hp1
    go_wp2_with fail
    refine HP.out.mono ?_
    rintro e w' ⟨rfl, rfl⟩
    go_wp2
    go_ret
    exact ⟨rfl, rfl⟩
  ·clear hc h1 h2 hp
   have : k = n := by omega
   subst this
   go_wp2
   go_ret
   exact ⟨rfl, rfl⟩
def Struck (p : B → Bool) (l : List B) (cur : Array Value) (k1 k2 : Nat) : Prop :=
 k1 < k2 ∧ k2 ≤ l.length ∧ l.length ≤ cur.size ∧ ((l.take k2).filter fun s => !p s).length = k1 ∧ cur.toList.take k1 = ((l.take k2).filter fun s => !p s).map S ∧ ∀ t, k2 ≤ t → t < l.length → cur[t]? = some (S (l.getD t []))

theorem take_succ_getD (l : List B) (k : Nat) (h : k < l.length) : l.take (k + 1) = l.take k ++ [l.getD k []] := by
 rw [List.take_succ_eq_append_getElem h, List.getD_eq_getElem?_getD, List.getElem?_eq_getElem h]; rfl

theorem Struck.start {p : B → Bool} {l : List B} {cur : Array Value} {n : Nat} (hn : n < l.length) (hs : l.length ≤ cur.size) (h1 : ∀ j, j < n → p (l.getD j []) = false) (h2 : p (l.getD n []) = true)
  (hc : ∀ t, t < l.length → cur[t]? = some (S (l.getD t []))) : Struck p l cur n (n + 1) := by
 have hf : (l.take n).filter (fun s => !p s) = l.take n := List.filter_eq_self.2 fun x hx => by
  obtain ⟨j, hj, rfl⟩ := List.mem_iff_getElem.1 hx
  simp at hj
  have := h1 j (by omega)
  rw [List.getD_eq_getElem?_getD, List.getElem?_eq_getElem (by omega)] at this
  simpa using this
 have hl : (l.take n).length = n := by simp; omega
 refine ⟨by omega, hn, hs, ?_, ?_, fun t _ ht => hc t ht⟩
 ·rw [take_succ_getD l n hn, List.filter_append, hf, List.filter_cons_of_neg (by simpa using h2)]; simpa using hl
 ·rw [take_succ_getD l n hn, List.filter_append, hf, List.filter_cons_of_neg (by simpa using h2), List.filter_nil, List.append_nil]
  apply List.ext_getElem?
  intro i
  rw [List.getElem?_take]
  split
  ·rename_i hi
   rw [Array.getElem?_toList, hc i (by omega), List.getElem?_map, List.getElem?_take, if_pos hi, List.getD_eq_getElem?_getD, List.getElem?_eq_getElem (by omega : i < l.length)]
   rfl
  ·rw [List.getElem?_eq_none]; simp; omega

theorem Struck.skip {p : B → Bool} {l : List B} {cur : Array Value} {k1 k2 : Nat} (h : Struck p l cur k1 k2) (hk : k2 < l.length) (hp : p (l.getD k2 []) = true) : Struck p l cur k1 (k2 + 1) := by
 obtain ⟨a, b, c, d, e, f⟩ := h
 have : (l.take (k2 + 1)).filter (fun s => !p s) = (l.take k2).filter (fun s => !p s) := by rw [take_succ_getD l k2 hk, List.filter_append, List.filter_cons_of_neg (by simpa using hp)]; simp
 exact ⟨by omega, hk, c, by rw [this, d], by rw [this, e], fun t h1 h2 => f t (by omega) h2⟩

theorem Struck.keep {p : B → Bool} {l : List B} {cur : Array Value} {k1 k2 : Nat} (h : Struck p l cur k1 k2) (hk : k2 < l.length) (hp : p (l.getD k2 []) = false) : Struck p l (cur.setIfInBounds k1 (S (l.getD k2 []))) (k1 + 1) (k2 + 1) := by
 obtain ⟨a, b, c, d, e, f⟩ := h
 have : (l.take (k2 + 1)).filter (fun s => !p s) = (l.take k2).filter (fun s => !p s) ++ [l.getD k2 []] := by rw [take_succ_getD l k2 hk, List.filter_append, List.filter_cons_of_pos (by simpa using hp)]; simp
 refine ⟨by omega, hk, by simpa using c, by rw [this]; simp [d], ?_, fun t h1 h2 => ?_⟩
 ·rw [this, List.map_append, ← e, Array.toList_setIfInBounds]
  apply List.ext_getElem?
  intro i
  rw [List.getElem?_take, List.getElem?_set]
  by_cases hi : i < k1
  ·rw [if_pos (by omega), if_neg (by omega), List.getElem?_append_left (by simp; omega), List.getElem?_take, if_pos hi]
  ·by_cases hi2 : i = k1
   ·subst hi2
    have hlt : i < cur.toList.length := by simp; omega
    simp only [Nat.lt_succ_self, if_true, hlt]
    rw [List.getElem?_append_right (by rw [List.length_take]; omega), List.length_take, Nat.min_eq_left (by omega)]
    simp
   ·have : k1 ≤ cur.toList.length := by simp; omega
    rw [if_neg (by omega), List.getElem?_append_right (by rw [List.length_take]; omega), List.getElem?_eq_none]
    rw [List.length_take]; simp; omega
 ·rw [Array.getElem?_setIfInBounds, if_neg (by omega)]
  exact f t (by omega) h2

theorem zeroStr : ∀ w, (zeroValue 9).run Tryz.prog w = .ok (.string ⟨#[]⟩) w := fun w => by kernel_rfl

def Deleted (w : World) (base : Nat) (v : Value) (l : List B) (e : Ending) (w' : World) : Prop :=
 ∃ v', e = .returned v' ∧ w'.ownsRow base 9 1 v' l.length (l.map S) ∧ Only (fun k => v.ownBlock = some k) w w' ∧ v'.ownBlock = v.ownBlock

set_option maxHeartbeats 1000000 in
theorem deleteFunc_on (g : Nat) (x0 : Value) (p : B → Bool) (w : World) (base : Nat) (v : Value) (l : List B) (hrow : w.ownsRow base 9 1 v l.length (l.map S))
  (eg : ∀ args w, (callFunc g args).run Tryz.prog w = .ok (.enter g args) w) (hp : ∀ w', Only (fun k => v.ownBlock = some k) w w' → TestsOn l g #[x0] p w') :
  Calls Tryz.prog 253 #[v, .func (.func g) #[] #[x0]] w (Deleted w base v (l.filter fun s => !p s)) := by
 have hrd := Rd.of_row hrow
 by_cases hall : ∀ j, j < l.length → p (l.getD j []) = false
 ·have hI := indexFunc_on g x0 p w v l l.length hrd (Nat.le_refl _) hall (fun h => absurd h (Nat.lt_irrefl _)) eg (hp w (Only.refl _ _))
  rw [if_neg (Nat.lt_irrefl _)] at hI
  have hf : l.filter (fun s => !p s) = l := List.filter_eq_self.2 fun x hx => by
   obtain ⟨j, hj, rfl⟩ := List.mem_iff_getElem.1 hx
   have := hall j hj
   rw [List.getD_eq_getElem?_getD, List.getElem?_eq_getElem hj] at this
   simpa using this
  rw [hf]
  have HI := Lib.hid hI
  have HR := Lib.hid hrow
  clear hI hall hp hrd hrow hf
  go_enter Tryz.func253, Tryz.ntmps253
  go_wp2_with (go_at_call 285; refine HI.out.mono ?_; rintro e w' ⟨rfl, rfl⟩)
  go_ret
  exact ⟨_, rfl, HR.out, Only.refl _ _, rfl⟩
 ·obtain ⟨n, hn, h1, h2⟩ : ∃ n, n < l.length ∧ (∀ j, j < n → p (l.getD j []) = false) ∧ p (l.getD n []) = true := by
   have : ∃ n, n < l.length ∧ p (l.getD n []) = true := by
    refine Classical.byContradiction fun h => hall fun j hj => ?_
    cases hpj : p (l.getD j []) with
    | false => rfl
    | true => exact absurd ⟨j, hj, hpj⟩ h
   obtain ⟨m, hm⟩ := this
   induction m using Nat.strongRecOn with
   | ind m ih =>
    by_cases hex : ∃ j, j < m ∧ p (l.getD j []) = true
    ·obtain ⟨j, hj, hpj⟩ := hex
     exact ih j hj ⟨by omega, hpj⟩
    ·refine ⟨m, hm.1, fun j hj => ?_, hm.2⟩
     cases hpj : p (l.getD j []) with
     | false => rfl
     | true => exact absurd ⟨j, hj, hpj⟩ hex
  have hI := indexFunc_on g x0 p w v l n hrd (by omega) h1 (fun _ => h2) eg (hp w (Only.refl _ _))
  rw [if_pos hn] at hI
  obtain ⟨hlen, hrow⟩ := hrow
  rcases hrow with ⟨rfl, h0⟩ | ⟨g0, cap, cur0, rfl, hg0, hh, hcap, hm, hsz, htk⟩
  ·omega
  have hm' : l.length ≤ 9223372036854775807 := by unfold maxLen at hm; omega
  have hcells : ∀ t, t < l.length → cur0[t]? = some (S (l.getD t [])) := fun t ht => by
   have : (cur0.toList.take (l.length * 1))[t]? = (l.map S)[t]? := by rw [htk]
   rw [List.getElem?_take, if_pos (by omega), Array.getElem?_toList] at this
   rw [this, List.getElem?_map, getElem?_getD [] ht]; rfl
  have hst := Struck.start (p := p) hn (by omega) h1 h2 hcells
  have HI := Lib.hid hI
  have HP := Lib.hid hp
  have HS := Lib.hid hst
  have HH := Lib.hid hh
  have HM := Lib.hid hm
  have HZ := Lib.hid hsz
  have EG := Lib.hid eg
  have hne1 : ((n : Int) == -1) = false := beq_eq_false_iff_ne.2 (by omega)
  clear hI hp hst hh hm hsz h1 h2 htk hcells hrd hlen hall
  go_enter Tryz.func253, Tryz.ntmps253
  go_wp2_with (go_at_call 285; refine HI.out.mono ?_; rintro e w' ⟨rfl, rfl⟩)
  clear EG
  go_loopw [5, 6] (fun a b wr => ∃ k1 k2 : Nat, k2 ≤ l.length ∧ a = .int .i64 k1 ∧ b = .int .i64 k2 ∧ ∃ cur : Array Value, wr.heap[g0]? = some (.cells cur 9 (0, 0)) ∧ cur.size = cap * 1 ∧ Only (fun k => k = g0) w wr ∧ Struck p l cur k1 k2) (fun _ b _ => l.length - (intOf b).toNat)
  case atStart => exact ⟨n, n + 1, by omega, rfl, by go_num, cur0, HH.out, HZ.out, Only.refl _ _, HS.out⟩
  case round =>
   obtain ⟨k1, k2, hk2, rfl, rfl, cur, hh, hsz, hon, hst⟩ := hrel
   have hst' := hst
   obtain ⟨s1, s2, s3, _, _, s6⟩ := hst'
   by_cases hlt : k2 < l.length
   ·have c2 : wr.cell? ⟨g0, k2, none⟩ = some (S (l.getD k2 [])) := (cell_of_heap hh k2).trans (s6 k2 (Nat.le_refl _) hlt)
    obtain ⟨old, c1⟩ : ∃ old, wr.cell? ⟨g0, k1, none⟩ = some old := ⟨cur[k1]'(by omega), by rw [cell_of_heap hh k1]; exact Array.getElem?_eq_getElem (by omega)⟩
    have f1 : wr.frozen? ⟨g0, k1, none⟩ = false := free_of_heap hh k1
    have hcall := HP.out wr (hon.mono fun k _ e => by rw [e]; rfl) (l.getD k2 []) (getD_mem hlt)
    have HO := Lib.hid hon
    have HH2 := Lib.hid hh
    have HZ2 := Lib.hid hsz
    have HST := Lib.hid hst
    clear hon hh hsz hst s6
    cases hq : p (l.getD k2 []) with
    | true =>
     rw [hq] at hcall
     have HQ := Lib.hid hq
     clear hq
     obtain ⟨x, HX⟩ : ∃ x, Hid (l.getD k2 [] = x) := ⟨_, Lib.hid rfl⟩
     rw [HX.out] at c2 hcall
     have HC := Lib.hid hcall
     clear hcall
     go_wp2_with fail
     refine HC.out.mono ?_
     rintro e w' ⟨rfl, rfl⟩
     go_wp2
     go_roundw
     case rel => exact ⟨k1, k2 + 1, by omega, rfl, by go_num, cur, HH2.out, HZ2.out, HO.out, HST.out.skip hlt HQ.out⟩
     case measure => simp [intOf]; omega
    | false =>
     rw [hq] at hcall
     have HQ := Lib.hid hq
     clear hq
     obtain ⟨x, HX⟩ : ∃ x, Hid (l.getD k2 [] = x) := ⟨_, Lib.hid rfl⟩
     rw [HX.out] at c2 hcall
     have HC := Lib.hid hcall
     clear hcall
     go_wp2_with fail
     refine HC.out.mono ?_
     rintro e w' ⟨rfl, rfl⟩
     go_wp2
     go_roundw
     case rel => exact ⟨k1 + 1, k2 + 1, by omega, by go_num, by go_num, _, heap_setCell_same HH2.out k1 _, by simpa using HZ2.out, HO.out.thenSet _ (.inl rfl), by rw [← HX.out]; exact HST.out.keep hlt HQ.out⟩
     case measure => simp [intOf]; omega
   ·have hk : k2 = l.length := by omega
    subst hk
    have hcl : ∀ ty, (Builtin.clear_ #[53] ty #[.slice (some ⟨g0, k1, none⟩) (l.length - k1) (cap - k1)]).run Tryz.prog wr = .ok (.tuple #[]) (wr.setCells g0 k1 (List.replicate (l.length - k1) (.string ⟨#[]⟩))) :=
     fun ty => Lib.run_clear_slice wr _ 9 ty _ Tryz.underlying53 zeroStr rfl rfl g0 k1 _ _ (by omega) (fun t ht => by rw [cell_of_heap hh, Array.getElem?_eq_getElem (by omega)]; rfl) (fun t ht => free_of_heap hh _)
    have HO := Lib.hid hon
    have HH2 := Lib.hid hh
    have HZ2 := Lib.hid hsz
    have HST := Lib.hid hst
    have hlt' : ¬ ((l.length : Int) < (l.length : Int)) := by omega
    clear hon hh hsz hst s6
    go_wp2
    go_ret
    obtain ⟨t1, t2, t3, t4, t5, _⟩ := HST.out
    rw [List.take_length] at t4 t5
    have hz := HZ2.out
    refine ⟨.slice (some ⟨g0, 0, none⟩) k1 cap, rfl, ⟨by simp, .inr ⟨g0, cap, _, by rw [t4], hg0, heap_setCells _ _ _ _ HH2.out, by omega, HM.out, by rw [size_putAll]; exact hz, ?_⟩⟩, ?_, rfl⟩
    ·rw [Nat.mul_one, t4, take_putAll _ _ _ _ (Nat.le_refl _), t5]
    ·exact (HO.out.then (only_setCells _ _ _ _)).mono fun k _ e => by rw [e]; rfl

theorem deleteFunc_str (g : Nat) (x0 : Value) (p : B → Bool) (w : World) (base : Nat) (v : Value) (l : List B) (hrow : w.ownsRow base 9 1 v l.length (l.map S))
  (eg : ∀ args w, (callFunc g args).run Tryz.prog w = .ok (.enter g args) w) (hp : ∀ w', Only (fun k => v.ownBlock = some k) w w' → Tests g #[x0] p w') :
  Calls Tryz.prog 253 #[v, .func (.func g) #[] #[x0]] w (Deleted w base v (l.filter fun s => !p s)) :=
 deleteFunc_on g x0 p w base v l hrow eg fun w' h => (hp w' h).on l

theorem delete_first (w : World) (base : Nat) (v : Value) (x : B) (l : List B) (hrow : w.ownsRow base 9 1 v (l.length + 1) ((x :: l).map S)) :
  Calls Tryz.prog 193 #[v, I 0, I 1] w (Deleted w base v l) := by
 obtain ⟨hlen, hrow⟩ := hrow
 rcases hrow with ⟨rfl, h0⟩ | ⟨g0, cap, cur0, rfl, hg0, hh, hcap, hm, hsz, htk⟩
 ·omega
 have hm' : cap ≤ 9223372036854775807 := by unfold maxLen at hm; omega
 have hH := holds_of_block (ss := x :: l) hh (by rw [← htk]; simp)
 have hc := Tryz.slices_Delete_string g0 0 cap 0 1 (x :: l) w hH hcap hm' (Nat.zero_le _) (by simp)
 refine hc.mono ?_
 rintro e w' ⟨rfl, q, rfl⟩
 have e1 : (List.take 0 (x :: l) ++ List.drop 1 (x :: l) ++ List.replicate (1 - 0) []) = l ++ [[]] := by simp
 rw [e1]
 have h := ownsRow_sorted (w := w) (n := q) (os := #[]) (base := base) (g := g0) (cap := cap) (e := 9) (cur := cur0) (ss := x :: l) (ts := l ++ [[]]) (by simp) hg0 hh hcap hm hsz
 have hb := grownBy_sorted (w := w) (g := g0) (n := q) (os := #[]) (l ++ [[]]).toArray
 rw [Go.Sort.grow_empty] at h hb
 refine ⟨_, rfl, ?_, (Only.of_grown hb).mono fun k _ e => e, rfl⟩
 exact row_take h l.length (by simp) (by simp)

theorem enters60 : ∀ args w, (callFunc 254 args).run Tryz.prog w = .ok (.enter 254 args) w := fun args w => by kernel_rfl

set_option maxHeartbeats 400000 in
theorem last1_tests (b : Nat) (k : B) (w : World) (h : w.cell? ⟨b, 0, none⟩ = some (S k)) : Tests 254 #[.pointer (some ⟨b, 0, none⟩)] (fun s => s == k) w := by
 intro x
 go_enter Tryz.func254, Tryz.ntmps254
 go_wp2
 go_ret
 exact ⟨rfl, rfl⟩
end Go.Proofs.YtnmhaipjfpongacGreatDoor
