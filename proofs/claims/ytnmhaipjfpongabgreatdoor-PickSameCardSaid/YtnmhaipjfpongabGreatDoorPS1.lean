/- Texts of this seat laid together for one claim: Sh2. No condition of its own: what each proves stands with its theorems. -/
import Derived.Ground.Names2Prog
import Derived.Ground.SlgnProg
import Derived.Shelf.Bits.Mul64
import Derived.Shelf.LaysC
import Derived.Shelf.LaysM
import Derived.Shelf.Slices.Cells
import Derived.Shelf.Slices.Clone
import Derived.Shelf.Slices.CompactS
import Derived.Shelf.Slices.Delete
import Derived.Shelf.Slices.Empties
import Derived.Shelf.Slices.In.SortNone
import Derived.Shelf.Slices.SearchI
import Derived.Shelf.SlicesE.Clone
import Derived.Shelf.Small.Bits
import Derived.Shelf.Sort.Plain
import Derived.Shelf.Strconv.Atoi
import Derived.Shelf.Strconv.AtoiAll
import Derived.Shelf.Strconv.AtoiErrFast
import Derived.Shelf.Strconv.AtoiFail
import Derived.Shelf.Strconv.AtoiInnerAll
import Derived.Shelf.Strconv.AtoiLong
import Derived.Shelf.Strconv.Clone
import Derived.Shelf.Strconv.ErrVarAll
import Derived.Shelf.Strconv.Itoa0
import Derived.Shelf.Strconv.Itoa1
import Derived.Shelf.Strconv.Itoa2
import Derived.Shelf.Strconv.Itoa3
import Derived.Shelf.Strconv.Lower
import Derived.Shelf.Strconv.ParseInt10
import Derived.Shelf.Strconv.ParseIntEmpty
import Derived.Shelf.Strconv.ParseUint10
import Derived.Shelf.Strconv.ParseUint10Any
import Derived.Shelf.Strconv.ParseUint10Empty
import Derived.Shelf.Strconv.RangeError
import Derived.Shelf.Strconv.SyntaxError
import Derived.Shelf.Strconv.ToError
import Derived.Shelf.Strconv.ToErrorRange
import Derived.Shelf.Strings.Builder1
import Derived.Shelf.Strings.Builder2
import Derived.Shelf.Strings.Builder2Cap
import Derived.Shelf.Strings.BuilderCap
import Derived.Shelf.Strings.BuilderF
import Derived.Shelf.Strings.BuilderK
import Derived.Shelf.Strings.Count
import Derived.Shelf.Strings.Cut
import Derived.Shelf.Strings.Explode
import Derived.Shelf.Strings.OnBuilder
import Derived.Shelf.Strings.Replace
import Derived.Shelf.Strings.Search1
import Derived.Shelf.Strings.Search2
import Derived.Shelf.Strings.Search3
import Derived.Shelf.Strings.Shaped
import Derived.Shelf.Strings.Split
import Derived.Shelf.Strings.SplitShaped
import Derived.Test.YtnmhaipjfpongabGreatDoorProg
namespace Go.Proofs
open Go.Shelf
def Tryz.lays169_ren : Go.Shelf.Ren := ⟨fun | 169 => 103 | n => n, fun | 70 => 149 | 9 => 9 | 0 => 0 | 72 => 152 | 37 => 150 | 127 => 240 | 3 => 3 | 5 => 5 | n => n, fun | n => n⟩
theorem Tryz.lays169 : Go.Proofs.Lays.n169 Tryz.prog Tryz.lays169_ren := {
 mixed := by kernel_rfl
 f169 := Tryz.func103.trans (congrArg some (by kernel_rfl))
 t0 := Tryz.underlying0
 a0 := Tryz.isAgg0
 z0 := Tryz.sizeOf0
 v0 := Tryz.zeroValue0
 t3 := Tryz.underlying3
 a3 := Tryz.isAgg3
 z3 := Tryz.sizeOf3
 v3 := Tryz.zeroValue3
 t9 := Tryz.underlying9
 a9 := Tryz.isAgg9
 z9 := Tryz.sizeOf9
 v9 := Tryz.zeroValue9
 t37 := Tryz.underlying150
 a37 := Tryz.isAgg150
 z37 := Tryz.sizeOf150
 v37 := Tryz.zeroValue150
 t70 := Tryz.underlying149
 a70 := Tryz.isAgg149
 z70 := Tryz.sizeOf149
 v70 := Tryz.zeroValue149
 t72 := Tryz.underlying152
 a72 := Tryz.isAgg152
 z72 := Tryz.sizeOf152
 v72 := Tryz.zeroValue152
 t127 := Tryz.underlying240
 a127 := Tryz.isAgg240
 z127 := Tryz.sizeOf240
 v127 := Tryz.zeroValue240 }
theorem Tryz.Builder_Extra_169 : Builder.Extra Tryz.prog Tryz.lays169_ren := {
 sizeBuilder := by kernel_rfl
 liesBuilder := by kernel_rfl
 t5 := Tryz.underlying5
 a5 := Tryz.isAgg5
 z5 := Tryz.sizeOf5
 v5 := Tryz.zeroValue5
 infoByte := by kernel_rfl
 cellsByte := by kernel_rfl
 sizeByte := by kernel_rfl
 neB5 := by decide }
open Go.RowKit in
theorem Tryz.Builder_String_any (B b : Nat) (l : List UInt8) (w : World) (h : Lib.IsBuilder 152 5 B b (Lib.byteCells l) w) (hBw : B ≤ w.heap.size) :
  Calls Tryz.prog 103 #[.pointer (some ⟨b, 0, none⟩)] w fun e w' => e = .returned (.string ⟨l.toArray⟩) ∧ Below B w w' := Any.Builder_String_any Tryz.lays169 Tryz.Builder_Extra_169 B b l w h hBw
def Tryz.lays156_ren : Go.Shelf.Ren := ⟨fun | 156 => 161 | 165 => 225 | 166 => 101 | 169 => 103 | 240 => 177 | 241 => 286 | 276 => 238 | 277 => 330 | n => n, fun | 31 => 24 | 9 => 9 | 3 => 3 | 4 => 4 | 0 => 0 | 20 => 20 | 72 => 152 | 76 => 154 | 70 => 149 | 37 => 150 | 75 => 34 | 127 => 240 | 164 => 284 | 5 => 5 | 80 => 59 | n => n, fun | n => n⟩
theorem Tryz.lays156 : Go.Proofs.Lays.n156 Tryz.prog Tryz.lays156_ren := {
 mixed := by kernel_rfl
 f156 := Tryz.func161.trans (congrArg some (by kernel_rfl))
 f165 := Tryz.func225.trans (congrArg some (by kernel_rfl))
 f166 := Tryz.func101.trans (congrArg some (by kernel_rfl))
 f169 := Tryz.func103.trans (congrArg some (by kernel_rfl))
 f240 := Tryz.func177.trans (congrArg some (by kernel_rfl))
 f241 := Tryz.func286.trans (congrArg some (by kernel_rfl))
 f276 := Tryz.func238.trans (congrArg some (by kernel_rfl))
 f277 := Tryz.func330.trans (congrArg some (by kernel_rfl))
 t0 := Tryz.underlying0
 a0 := Tryz.isAgg0
 z0 := Tryz.sizeOf0
 v0 := Tryz.zeroValue0
 t3 := Tryz.underlying3
 a3 := Tryz.isAgg3
 z3 := Tryz.sizeOf3
 v3 := Tryz.zeroValue3
 t4 := Tryz.underlying4
 a4 := Tryz.isAgg4
 z4 := Tryz.sizeOf4
 v4 := Tryz.zeroValue4
 t9 := Tryz.underlying9
 a9 := Tryz.isAgg9
 z9 := Tryz.sizeOf9
 v9 := Tryz.zeroValue9
 t20 := Tryz.underlying20
 a20 := Tryz.isAgg20
 z20 := Tryz.sizeOf20
 v20 := Tryz.zeroValue20
 t31 := Tryz.underlying24
 a31 := Tryz.isAgg24
 z31 := Tryz.sizeOf24
 v31 := Tryz.zeroValue24
 t37 := Tryz.underlying150
 a37 := Tryz.isAgg150
 z37 := Tryz.sizeOf150
 v37 := Tryz.zeroValue150
 t70 := Tryz.underlying149
 a70 := Tryz.isAgg149
 z70 := Tryz.sizeOf149
 v70 := Tryz.zeroValue149
 t72 := Tryz.underlying152
 a72 := Tryz.isAgg152
 z72 := Tryz.sizeOf152
 v72 := Tryz.zeroValue152
 t75 := Tryz.underlying34
 a75 := Tryz.isAgg34
 z75 := Tryz.sizeOf34
 v75 := Tryz.zeroValue34
 t76 := Tryz.underlying154
 a76 := Tryz.isAgg154
 z76 := Tryz.sizeOf154
 v76 := Tryz.zeroValue154
 t127 := Tryz.underlying240
 a127 := Tryz.isAgg240
 z127 := Tryz.sizeOf240
 v127 := Tryz.zeroValue240
 t164 := Tryz.underlying284
 a164 := Tryz.isAgg284
 z164 := Tryz.sizeOf284
 v164 := Tryz.zeroValue284 }
theorem Tryz.Builder_Extra_156 : Builder.Extra Tryz.prog Tryz.lays156_ren := {
 sizeBuilder := by kernel_rfl
 liesBuilder := by kernel_rfl
 t5 := Tryz.underlying5
 a5 := Tryz.isAgg5
 z5 := Tryz.sizeOf5
 v5 := Tryz.zeroValue5
 infoByte := by kernel_rfl
 cellsByte := by kernel_rfl
 sizeByte := by kernel_rfl
 neB5 := by decide }
open Go.RowKit in
theorem Tryz.strings_Join_none (a : Option Addr) (c : Nat) (sep : ByteArray) (w : World) :
  Calls Tryz.prog 161 #[.slice a 0 c, .string sep] w fun e w' => e = .returned (.string ⟨#[]⟩) ∧ w' = w := Any.strings_Join_none Tryz.lays156 Tryz.Builder_Extra_156 a c sep w
open Go.RowKit in
theorem Tryz.strings_Join (bk o c : Nat) (xs : List ByteArray) (sep : ByteArray) (w : World) (hcells : ∀ (j : Nat) x, xs[j]? = some x → w.cell? ⟨bk, o + j, none⟩ = some (.string x)) (hbk : bk < w.heap.size) (hN : xs.length ≤ 140737488355328) (hcap : xs.length ≤ c) (hlen : (Lib.join (xs.map (·.data.toList)) sep.data.toList).length ≤ 140737488355328) :
  Calls Tryz.prog 161 #[.slice (some ⟨bk, o, none⟩) xs.length c, .string sep] w fun e w' => e = .returned (.string ⟨(Lib.join (xs.map (·.data.toList)) sep.data.toList).toArray⟩) ∧ Below w.heap.size w w' := Any.strings_Join Tryz.lays156 Tryz.Builder_Extra_156 bk o c xs sep w hcells hbk hN hcap hlen
open Go.RowKit in
theorem Tryz.Builder_String_any_k (B b : Nat) (l : List UInt8) (w : World) (h : Lib.IsBuilderF 152 5 B b (Lib.byteCells l) w) (hBw : B ≤ w.heap.size) :
  Calls Tryz.prog 103 #[.pointer (some ⟨b, 0, none⟩)] w fun e w' => e = .returned (.string ⟨l.toArray⟩) ∧ (Lib.IsBuilderF 152 5 B b (Lib.byteCells l) w' ∧ Below B w w' ∧ Lib.OthersKept 5 (some b) w w') := Any.Builder_String_any_k Tryz.lays169 Tryz.Builder_Extra_169 B b l w h hBw
def Tryz.laysM171_ren : Go.Shelf.Ren := ⟨fun | 171 => 102 | 243 => 178 | 246 => 239 | 283 => 295 | 284 => 296 | 285 => 297 | 286 => 298 | 129 => 251 | 317 => 340 | 318 => 341 | 319 => 342 | 320 => 343 | 337 => 359 | 338 => 360 | n => n, fun | 3 => 3 | 9 => 9 | 2 => 2 | 4 => 4 | 171 => 353 | 0 => 0 | 53 => 275 | 37 => 150 | 5 => 5 | 173 => 355 | 212 => 393 | 51 => 278 | 20 => 20 | 213 => 394 | 46 => 244 | 232 => 416 | 233 => 417 | n => n, fun | 17 => 14 | 18 => 19 | 19 => 20 | n => n⟩
theorem Tryz.laysM171 : Go.Proofs.LaysM.n171 Tryz.prog Tryz.laysM171_ren := {
 mixed := by kernel_rfl
 f129 := Tryz.func251.trans (congrArg some (by kernel_rfl))
 f171 := Tryz.func102.trans (congrArg some (by kernel_rfl))
 f243 := Tryz.func178.trans (congrArg some (by kernel_rfl))
 f246 := Tryz.func239.trans (congrArg some (by kernel_rfl))
 f283 := Tryz.func295.trans (congrArg some (by kernel_rfl))
 f284 := Tryz.func296.trans (congrArg some (by kernel_rfl))
 f285 := Tryz.func297.trans (congrArg some (by kernel_rfl))
 f286 := Tryz.func298.trans (congrArg some (by kernel_rfl))
 f317 := Tryz.func340.trans (congrArg some (by kernel_rfl))
 f318 := Tryz.func341.trans (congrArg some (by kernel_rfl))
 f319 := Tryz.func342.trans (congrArg some (by kernel_rfl))
 f320 := Tryz.func343.trans (congrArg some (by kernel_rfl))
 f337 := Tryz.func359.trans (congrArg some (by kernel_rfl))
 f338 := Tryz.func360.trans (congrArg some (by kernel_rfl))
 t0 := Tryz.underlying0
 a0 := Tryz.isAgg0
 z0 := Tryz.sizeOf0
 v0 := Tryz.zeroValue0
 t2 := Tryz.underlying2
 a2 := Tryz.isAgg2
 z2 := Tryz.sizeOf2
 v2 := Tryz.zeroValue2
 t3 := Tryz.underlying3
 a3 := Tryz.isAgg3
 z3 := Tryz.sizeOf3
 v3 := Tryz.zeroValue3
 t4 := Tryz.underlying4
 a4 := Tryz.isAgg4
 z4 := Tryz.sizeOf4
 v4 := Tryz.zeroValue4
 t5 := Tryz.underlying5
 a5 := Tryz.isAgg5
 z5 := Tryz.sizeOf5
 v5 := Tryz.zeroValue5
 t9 := Tryz.underlying9
 a9 := Tryz.isAgg9
 z9 := Tryz.sizeOf9
 v9 := Tryz.zeroValue9
 t20 := Tryz.underlying20
 a20 := Tryz.isAgg20
 z20 := Tryz.sizeOf20
 v20 := Tryz.zeroValue20
 t37 := Tryz.underlying150
 a37 := Tryz.isAgg150
 z37 := Tryz.sizeOf150
 v37 := Tryz.zeroValue150
 t46 := Tryz.underlying244
 a46 := Tryz.isAgg244
 z46 := Tryz.sizeOf244
 v46 := Tryz.zeroValue244
 t51 := Tryz.underlying278
 a51 := Tryz.isAgg278
 z51 := Tryz.sizeOf278
 v51 := Tryz.zeroValue278
 t53 := Tryz.underlying275
 a53 := Tryz.isAgg275
 z53 := Tryz.sizeOf275
 v53 := Tryz.zeroValue275
 t171 := Tryz.underlying353
 a171 := Tryz.isAgg353
 z171 := Tryz.sizeOf353
 v171 := Tryz.zeroValue353
 t173 := Tryz.underlying355
 a173 := Tryz.isAgg355
 z173 := Tryz.sizeOf355
 v173 := Tryz.zeroValue355
 t212 := Tryz.underlying393
 a212 := Tryz.isAgg393
 z212 := Tryz.sizeOf393
 v212 := Tryz.zeroValue393
 t213 := Tryz.underlying394
 a213 := Tryz.isAgg394
 z213 := Tryz.sizeOf394
 t232 := Tryz.underlying416
 a232 := Tryz.isAgg416
 z232 := Tryz.sizeOf416
 v232 := Tryz.zeroValue416
 t233 := Tryz.underlying417
 a233 := Tryz.isAgg417
 z233 := Tryz.sizeOf417
 v233 := Tryz.zeroValue417
 g17 := by kernel_rfl
 g18 := by kernel_rfl
 g19 := by kernel_rfl
 i0 := by kernel_rfl
 i2 := by kernel_rfl
 i3 := by kernel_rfl
 i4 := by kernel_rfl
 i5 := by kernel_rfl
 i9 := by kernel_rfl
 i20 := by kernel_rfl
 i37 := by kernel_rfl
 i46 := by kernel_rfl
 i51 := by kernel_rfl
 i53 := by kernel_rfl
 i171 := by kernel_rfl
 i173 := by kernel_rfl
 i212 := by kernel_rfl
 i232 := by kernel_rfl
 i233 := by kernel_rfl
 m17 := by kernel_rfl
 m18 := by kernel_rfl
 m19 := by kernel_rfl }
open Go.RowKit Go.Sort Go.Lib in
theorem Tryz.strconv_Itoa (n : Int) (h0 : -9223372036854775808 ≤ n) (h1 : n ≤ 9223372036854775807) (w : World) (htab : Lib.TabIs Tryz.prog w "internal/strconv.uint64pow10" .u64 Lib.pow10Tab) :
  Calls Tryz.prog 102 #[.int .i64 n] w fun e w' => e = .returned (.string ⟨(Lib.itoa n).toArray⟩) ∧ ∃ k os, w' = grow (w.drewN k) os := Any.strconv_Itoa Tryz.laysM171 n h0 h1 w htab
def Tryz.laysC172_ren : Go.Shelf.Ren := ⟨fun | 172 => 234 | 244 => 291 | 245 => 292 | 247 => 331 | 279 => 332 | 280 => 333 | 281 => 334 | 282 => 335 | 287 => 354 | 316 => 355 | 171 => 102 | 205 => 356 | 321 => 362 | 322 => 363 | 243 => 178 | 246 => 239 | 283 => 295 | 284 => 296 | 285 => 297 | 286 => 298 | 129 => 251 | 317 => 340 | 318 => 341 | 319 => 342 | 320 => 343 | 337 => 359 | 338 => 360 | n => n, fun | 9 => 9 | 3 => 3 | 75 => 34 | 76 => 154 | 4 => 4 | 5 => 5 | 167 => 386 | 37 => 150 | 0 => 0 | 85 => 387 | 2 => 2 | 168 => 389 | 53 => 275 | 175 => 402 | 46 => 244 | 210 => 405 | 127 => 240 | 145 => 415 | 143 => 413 | 21 => 21 | 171 => 353 | 173 => 355 | 212 => 393 | 51 => 278 | 20 => 20 | 213 => 394 | 232 => 416 | 233 => 417 | 80 => 59 | n => n, fun | 15 => 15 | 16 => 16 | 17 => 14 | 18 => 19 | 19 => 20 | n => n⟩
theorem Tryz.laysC172 : Go.Proofs.LaysC.n172 Tryz.prog Tryz.laysC172_ren := {
 mixed := by kernel_rfl
 f129 := Tryz.func251.trans (congrArg some (by kernel_rfl))
 f171 := Tryz.func102.trans (congrArg some (by kernel_rfl))
 f172 := Tryz.func234.trans (congrArg some (by kernel_rfl))
 f205 := Tryz.func356.trans (congrArg some (by kernel_rfl))
 f243 := Tryz.func178.trans (congrArg some (by kernel_rfl))
 f244 := Tryz.func291.trans (congrArg some (by kernel_rfl))
 f245 := Tryz.func292.trans (congrArg some (by kernel_rfl))
 f246 := Tryz.func239.trans (congrArg some (by kernel_rfl))
 f247 := Tryz.func331.trans (congrArg some (by kernel_rfl))
 f279 := Tryz.func332.trans (congrArg some (by kernel_rfl))
 f280 := Tryz.func333.trans (congrArg some (by kernel_rfl))
 f281 := Tryz.func334.trans (congrArg some (by kernel_rfl))
 f282 := Tryz.func335.trans (congrArg some (by kernel_rfl))
 f283 := Tryz.func295.trans (congrArg some (by kernel_rfl))
 f284 := Tryz.func296.trans (congrArg some (by kernel_rfl))
 f285 := Tryz.func297.trans (congrArg some (by kernel_rfl))
 f286 := Tryz.func298.trans (congrArg some (by kernel_rfl))
 f287 := Tryz.func354.trans (congrArg some (by kernel_rfl))
 f316 := Tryz.func355.trans (congrArg some (by kernel_rfl))
 f317 := Tryz.func340.trans (congrArg some (by kernel_rfl))
 f318 := Tryz.func341.trans (congrArg some (by kernel_rfl))
 f319 := Tryz.func342.trans (congrArg some (by kernel_rfl))
 f320 := Tryz.func343.trans (congrArg some (by kernel_rfl))
 f321 := Tryz.func362.trans (congrArg some (by kernel_rfl))
 f322 := Tryz.func363.trans (congrArg some (by kernel_rfl))
 f337 := Tryz.func359.trans (congrArg some (by kernel_rfl))
 f338 := Tryz.func360.trans (congrArg some (by kernel_rfl))
 t0 := Tryz.underlying0
 a0 := Tryz.isAgg0
 z0 := Tryz.sizeOf0
 v0 := Tryz.zeroValue0
 t2 := Tryz.underlying2
 a2 := Tryz.isAgg2
 z2 := Tryz.sizeOf2
 v2 := Tryz.zeroValue2
 t3 := Tryz.underlying3
 a3 := Tryz.isAgg3
 z3 := Tryz.sizeOf3
 v3 := Tryz.zeroValue3
 t4 := Tryz.underlying4
 a4 := Tryz.isAgg4
 z4 := Tryz.sizeOf4
 v4 := Tryz.zeroValue4
 t5 := Tryz.underlying5
 a5 := Tryz.isAgg5
 z5 := Tryz.sizeOf5
 v5 := Tryz.zeroValue5
 t9 := Tryz.underlying9
 a9 := Tryz.isAgg9
 z9 := Tryz.sizeOf9
 v9 := Tryz.zeroValue9
 t20 := Tryz.underlying20
 a20 := Tryz.isAgg20
 z20 := Tryz.sizeOf20
 v20 := Tryz.zeroValue20
 t21 := Tryz.underlying21
 a21 := Tryz.isAgg21
 z21 := Tryz.sizeOf21
 v21 := Tryz.zeroValue21
 t37 := Tryz.underlying150
 a37 := Tryz.isAgg150
 z37 := Tryz.sizeOf150
 v37 := Tryz.zeroValue150
 t46 := Tryz.underlying244
 a46 := Tryz.isAgg244
 z46 := Tryz.sizeOf244
 v46 := Tryz.zeroValue244
 t51 := Tryz.underlying278
 a51 := Tryz.isAgg278
 z51 := Tryz.sizeOf278
 v51 := Tryz.zeroValue278
 t53 := Tryz.underlying275
 a53 := Tryz.isAgg275
 z53 := Tryz.sizeOf275
 v53 := Tryz.zeroValue275
 t75 := Tryz.underlying34
 a75 := Tryz.isAgg34
 z75 := Tryz.sizeOf34
 v75 := Tryz.zeroValue34
 t76 := Tryz.underlying154
 a76 := Tryz.isAgg154
 z76 := Tryz.sizeOf154
 v76 := Tryz.zeroValue154
 t85 := Tryz.underlying387
 a85 := Tryz.isAgg387
 z85 := Tryz.sizeOf387
 v85 := Tryz.zeroValue387
 t127 := Tryz.underlying240
 a127 := Tryz.isAgg240
 z127 := Tryz.sizeOf240
 v127 := Tryz.zeroValue240
 t143 := Tryz.underlying413
 a143 := Tryz.isAgg413
 z143 := Tryz.sizeOf413
 v143 := Tryz.zeroValue413
 t145 := Tryz.underlying415
 a145 := Tryz.isAgg415
 z145 := Tryz.sizeOf415
 v145 := Tryz.zeroValue415
 t167 := Tryz.underlying386
 a167 := Tryz.isAgg386
 z167 := Tryz.sizeOf386
 v167 := Tryz.zeroValue386
 t168 := Tryz.underlying389
 a168 := Tryz.isAgg389
 z168 := Tryz.sizeOf389
 v168 := Tryz.zeroValue389
 t171 := Tryz.underlying353
 a171 := Tryz.isAgg353
 z171 := Tryz.sizeOf353
 v171 := Tryz.zeroValue353
 t173 := Tryz.underlying355
 a173 := Tryz.isAgg355
 z173 := Tryz.sizeOf355
 v173 := Tryz.zeroValue355
 t175 := Tryz.underlying402
 a175 := Tryz.isAgg402
 z175 := Tryz.sizeOf402
 v175 := Tryz.zeroValue402
 t210 := Tryz.underlying405
 a210 := Tryz.isAgg405
 z210 := Tryz.sizeOf405
 v210 := Tryz.zeroValue405
 t212 := Tryz.underlying393
 a212 := Tryz.isAgg393
 z212 := Tryz.sizeOf393
 v212 := Tryz.zeroValue393
 t213 := Tryz.underlying394
 a213 := Tryz.isAgg394
 z213 := Tryz.sizeOf394
 t232 := Tryz.underlying416
 a232 := Tryz.isAgg416
 z232 := Tryz.sizeOf416
 v232 := Tryz.zeroValue416
 t233 := Tryz.underlying417
 a233 := Tryz.isAgg417
 z233 := Tryz.sizeOf417
 v233 := Tryz.zeroValue417
 g15 := by kernel_rfl
 g16 := by kernel_rfl
 g17 := by kernel_rfl
 g18 := by kernel_rfl
 g19 := by kernel_rfl
 t80 := Tryz.underlying59
 a80 := Tryz.isAgg59
 z80 := Tryz.sizeOf59
 v80 := Tryz.zeroValue59
 i0 := by kernel_rfl
 i2 := by kernel_rfl
 i3 := by kernel_rfl
 i4 := by kernel_rfl
 i5 := by kernel_rfl
 i9 := by kernel_rfl
 i20 := by kernel_rfl
 i21 := by kernel_rfl
 i37 := by kernel_rfl
 i46 := by kernel_rfl
 i51 := by kernel_rfl
 i53 := by kernel_rfl
 i75 := by kernel_rfl
 i76 := by kernel_rfl
 i80 := by kernel_rfl
 i85 := by kernel_rfl
 i127 := by kernel_rfl
 i143 := by kernel_rfl
 i145 := by kernel_rfl
 i167 := by kernel_rfl
 i168 := by kernel_rfl
 i171 := by kernel_rfl
 i173 := by kernel_rfl
 i175 := by kernel_rfl
 i210 := by kernel_rfl
 i212 := by kernel_rfl
 i232 := by kernel_rfl
 i233 := by kernel_rfl
 m15 := by kernel_rfl
 m16 := by kernel_rfl
 m17 := by kernel_rfl
 m18 := by kernel_rfl
 m19 := by kernel_rfl
 c0 := by kernel_rfl
 c2 := by kernel_rfl
 c3 := by kernel_rfl
 c4 := by kernel_rfl
 c5 := by kernel_rfl
 c9 := by kernel_rfl
 c20 := by kernel_rfl
 c21 := by kernel_rfl
 c37 := by kernel_rfl
 c46 := by kernel_rfl
 c51 := by kernel_rfl
 c53 := by kernel_rfl
 c75 := by kernel_rfl
 c76 := by kernel_rfl
 c80 := by kernel_rfl
 c85 := by kernel_rfl
 c127 := by kernel_rfl
 c143 := by kernel_rfl
 c145 := by kernel_rfl
 c167 := by kernel_rfl
 c168 := by kernel_rfl
 c171 := by kernel_rfl
 c173 := by kernel_rfl
 c175 := by kernel_rfl
 c210 := by kernel_rfl
 c212 := by kernel_rfl
 c213 := by kernel_rfl
 c232 := by kernel_rfl
 c233 := by kernel_rfl }
open Go.RowKit in
theorem Tryz.strconv_Atoi_ok (s : ByteArray) (hmax : s.size ≤ 9223372036854775806) (v : Int) (h : Lib.atoiAll s.data.toList = .ok v) (w : World) :
  Calls Tryz.prog 234 #[.string s] w fun e w' => e = .returned (.tuple #[.int .i64 v, .nilIface]) ∧ (w' = w ∨ ∃ t, w' = Lib.bytesWorld w 5 t) := Any.strconv_Atoi_ok Tryz.laysC172 s hmax v h w
open Go.RowKit in
theorem Tryz.strconv_Atoi_range (s : ByteArray) (hlim : s.size ≤ 281474976710656) (h : Lib.atoiAll s.data.toList = .range) (ev : Value) (w : World) (hv : w.cell? ⟨16, 0, none⟩ = some ev) (hev : ev = .nilIface ∨ ∃ te pe, ev = .iface te pe) :
  Calls Tryz.prog 234 #[.string s] w fun e w' => ∃ N, e = .returned (.tuple #[.int .i64 (Lib.atoiSat s.data.toList), .iface 389 (.pointer (some ⟨N, 0, none⟩))]) ∧ w.heap.size ≤ N ∧ w'.heap[N]? = some (.cells #[.string ⟨#[65, 116, 111, 105]⟩, .string s, ev] 405 (0, 0)) ∧ Below w.heap.size w w' := Any.strconv_Atoi_range Tryz.laysC172 s hlim h ev w hv hev
def Tryz.lays144_ren : Go.Shelf.Ren := ⟨fun | 144 => 230 | 143 => 261 | 219 => 293 | 217 => 336 | 225 => 337 | 224 => 338 | 267 => 339 | 266 => 357 | 314 => 358 | n => n, fun | 9 => 9 | 4 => 4 | 3 => 3 | 5 => 5 | 46 => 244 | 146 => 368 | 51 => 278 | n => n, fun | 1 => 13 | n => n⟩
theorem Tryz.lays144 : Go.Proofs.Lays.n144 Tryz.prog Tryz.lays144_ren := {
 mixed := by kernel_rfl
 f143 := Tryz.func261.trans (congrArg some (by kernel_rfl))
 f144 := Tryz.func230.trans (congrArg some (by kernel_rfl))
 f217 := Tryz.func336.trans (congrArg some (by kernel_rfl))
 f219 := Tryz.func293.trans (congrArg some (by kernel_rfl))
 f224 := Tryz.func338.trans (congrArg some (by kernel_rfl))
 f225 := Tryz.func337.trans (congrArg some (by kernel_rfl))
 f266 := Tryz.func357.trans (congrArg some (by kernel_rfl))
 f267 := Tryz.func339.trans (congrArg some (by kernel_rfl))
 f314 := Tryz.func358.trans (congrArg some (by kernel_rfl))
 t3 := Tryz.underlying3
 a3 := Tryz.isAgg3
 z3 := Tryz.sizeOf3
 v3 := Tryz.zeroValue3
 t4 := Tryz.underlying4
 a4 := Tryz.isAgg4
 z4 := Tryz.sizeOf4
 v4 := Tryz.zeroValue4
 t5 := Tryz.underlying5
 a5 := Tryz.isAgg5
 z5 := Tryz.sizeOf5
 v5 := Tryz.zeroValue5
 t9 := Tryz.underlying9
 a9 := Tryz.isAgg9
 z9 := Tryz.sizeOf9
 v9 := Tryz.zeroValue9
 t46 := Tryz.underlying244
 a46 := Tryz.isAgg244
 z46 := Tryz.sizeOf244
 v46 := Tryz.zeroValue244
 t51 := Tryz.underlying278
 a51 := Tryz.isAgg278
 z51 := Tryz.sizeOf278
 v51 := Tryz.zeroValue278
 t146 := Tryz.underlying368
 a146 := Tryz.isAgg368
 z146 := Tryz.sizeOf368
 v146 := Tryz.zeroValue368
 g1 := by kernel_rfl }
open Go.RowKit Go.Lib in
theorem Tryz.strings_Contains (s sub : ByteArray) (m : Int) (w : World) (hs : s.size < 4294967281) (hm : w.cell? ⟨13, 0, none⟩ = some (.int .i64 m)) :
  Calls Tryz.prog 230 #[.string s, .string sub] w fun e w' => e = .returned (.bool (Lib.contains s.data.toList sub.data.toList)) ∧ w' = w := Any.strings_Contains Tryz.lays144 s sub m w hs hm
def Tryz.lays145_ren : Go.Shelf.Ren := ⟨fun | 145 => 173 | 220 => 235 | 219 => 293 | 217 => 336 | 225 => 337 | 224 => 338 | 267 => 339 | 266 => 357 | 314 => 358 | n => n, fun | 9 => 9 | 4 => 4 | 59 => 232 | 3 => 3 | 5 => 5 | 46 => 244 | 146 => 368 | 51 => 278 | n => n, fun | 1 => 13 | n => n⟩
theorem Tryz.lays145 : Go.Proofs.Lays.n145 Tryz.prog Tryz.lays145_ren := {
 mixed := by kernel_rfl
 f145 := Tryz.func173.trans (congrArg some (by kernel_rfl))
 f217 := Tryz.func336.trans (congrArg some (by kernel_rfl))
 f219 := Tryz.func293.trans (congrArg some (by kernel_rfl))
 f220 := Tryz.func235.trans (congrArg some (by kernel_rfl))
 f224 := Tryz.func338.trans (congrArg some (by kernel_rfl))
 f225 := Tryz.func337.trans (congrArg some (by kernel_rfl))
 f266 := Tryz.func357.trans (congrArg some (by kernel_rfl))
 f267 := Tryz.func339.trans (congrArg some (by kernel_rfl))
 f314 := Tryz.func358.trans (congrArg some (by kernel_rfl))
 t3 := Tryz.underlying3
 a3 := Tryz.isAgg3
 z3 := Tryz.sizeOf3
 v3 := Tryz.zeroValue3
 t4 := Tryz.underlying4
 a4 := Tryz.isAgg4
 z4 := Tryz.sizeOf4
 v4 := Tryz.zeroValue4
 t5 := Tryz.underlying5
 a5 := Tryz.isAgg5
 z5 := Tryz.sizeOf5
 v5 := Tryz.zeroValue5
 t9 := Tryz.underlying9
 a9 := Tryz.isAgg9
 z9 := Tryz.sizeOf9
 v9 := Tryz.zeroValue9
 t46 := Tryz.underlying244
 a46 := Tryz.isAgg244
 z46 := Tryz.sizeOf244
 v46 := Tryz.zeroValue244
 t51 := Tryz.underlying278
 a51 := Tryz.isAgg278
 z51 := Tryz.sizeOf278
 v51 := Tryz.zeroValue278
 t59 := Tryz.underlying232
 a59 := Tryz.isAgg232
 z59 := Tryz.sizeOf232
 v59 := Tryz.zeroValue232
 t146 := Tryz.underlying368
 a146 := Tryz.isAgg368
 z146 := Tryz.sizeOf368
 v146 := Tryz.zeroValue368
 g1 := by kernel_rfl }
open Go.RowKit Go.Lib in
theorem Tryz.strings_Cut (s sep : ByteArray) (m : Int) (w : World) (hs : s.size < 4294967281) (hm : w.cell? ⟨13, 0, none⟩ = some (.int .i64 m)) :
  Calls Tryz.prog 173 #[.string s, .string sep] w fun e w' => e = .returned (.tuple #[.string ⟨(Lib.cut s.data.toList sep.data.toList).1.toArray⟩, .string ⟨(Lib.cut s.data.toList sep.data.toList).2.1.toArray⟩, .bool (Lib.cut s.data.toList sep.data.toList).2.2]) ∧ ∃ n, w' = w.drewN n := Any.strings_Cut Tryz.lays145 s sep m w hs hm
def Tryz.lays138_ren : Go.Shelf.Ren := ⟨fun | 138 => 232 | 195 => 288 | 218 => 289 | 143 => 261 | 219 => 293 | 217 => 336 | 225 => 337 | 224 => 338 | 267 => 339 | 266 => 357 | 314 => 358 | n => n, fun | 9 => 9 | 3 => 3 | 4 => 4 | 5 => 5 | 0 => 0 | 46 => 244 | 146 => 368 | 51 => 278 | n => n, fun | 1 => 13 | n => n⟩
theorem Tryz.lays138 : Go.Proofs.Lays.n138 Tryz.prog Tryz.lays138_ren := {
 mixed := by kernel_rfl
 f138 := Tryz.func232.trans (congrArg some (by kernel_rfl))
 f143 := Tryz.func261.trans (congrArg some (by kernel_rfl))
 f195 := Tryz.func288.trans (congrArg some (by kernel_rfl))
 f217 := Tryz.func336.trans (congrArg some (by kernel_rfl))
 f218 := Tryz.func289.trans (congrArg some (by kernel_rfl))
 f219 := Tryz.func293.trans (congrArg some (by kernel_rfl))
 f224 := Tryz.func338.trans (congrArg some (by kernel_rfl))
 f225 := Tryz.func337.trans (congrArg some (by kernel_rfl))
 f266 := Tryz.func357.trans (congrArg some (by kernel_rfl))
 f267 := Tryz.func339.trans (congrArg some (by kernel_rfl))
 f314 := Tryz.func358.trans (congrArg some (by kernel_rfl))
 t0 := Tryz.underlying0
 a0 := Tryz.isAgg0
 z0 := Tryz.sizeOf0
 v0 := Tryz.zeroValue0
 t3 := Tryz.underlying3
 a3 := Tryz.isAgg3
 z3 := Tryz.sizeOf3
 v3 := Tryz.zeroValue3
 t4 := Tryz.underlying4
 a4 := Tryz.isAgg4
 z4 := Tryz.sizeOf4
 v4 := Tryz.zeroValue4
 t5 := Tryz.underlying5
 a5 := Tryz.isAgg5
 z5 := Tryz.sizeOf5
 v5 := Tryz.zeroValue5
 t9 := Tryz.underlying9
 a9 := Tryz.isAgg9
 z9 := Tryz.sizeOf9
 v9 := Tryz.zeroValue9
 t46 := Tryz.underlying244
 a46 := Tryz.isAgg244
 z46 := Tryz.sizeOf244
 v46 := Tryz.zeroValue244
 t51 := Tryz.underlying278
 a51 := Tryz.isAgg278
 z51 := Tryz.sizeOf278
 v51 := Tryz.zeroValue278
 t146 := Tryz.underlying368
 a146 := Tryz.isAgg368
 z146 := Tryz.sizeOf368
 v146 := Tryz.zeroValue368
 g1 := by kernel_rfl }
open Go.RowKit Go.Lib in
theorem Tryz.strings_Count_one (s : ByteArray) (c : UInt8) (w : World) :
  Calls Tryz.prog 232 #[.string s, .string ⟨#[c]⟩] w fun e w' => e = .returned (.int .i64 (Lib.countByte s.data.toList c)) ∧ w' = w := Any.strings_Count_one Tryz.lays138 s c w
def Tryz.lays190_ren : Go.Shelf.Ren := ⟨fun | 190 => 109 | 125 => 181 | 258 => 180 | 128 => 250 | 129 => 251 | 302 => 241 | 303 => 242 | 304 => 243 | 305 => 244 | 306 => 245 | 307 => 246 | 308 => 247 | 309 => 248 | 310 => 249 | 333 => 308 | 329 => 309 | 330 => 310 | 334 => 311 | 335 => 312 | 336 => 313 | 344 => 348 | n => n, fun | 31 => 24 | 9 => 9 | 3 => 3 | 46 => 244 | 0 => 0 | 51 => 278 | 53 => 275 | 4 => 4 | 183 => 306 | 182 => 305 | 131 => 234 | 5 => 5 | 218 => 363 | 222 => 366 | 228 => 397 | 229 => 136 | n => n, fun | n => n⟩
theorem Tryz.lays190 : Go.Proofs.Lays.n190 Tryz.prog Tryz.lays190_ren := {
 mixed := by kernel_rfl
 f125 := Tryz.func181.trans (congrArg some (by kernel_rfl))
 f128 := Tryz.func250.trans (congrArg some (by kernel_rfl))
 f129 := Tryz.func251.trans (congrArg some (by kernel_rfl))
 f190 := Tryz.func109.trans (congrArg some (by kernel_rfl))
 f258 := Tryz.func180.trans (congrArg some (by kernel_rfl))
 f302 := Tryz.func241.trans (congrArg some (by kernel_rfl))
 f303 := Tryz.func242.trans (congrArg some (by kernel_rfl))
 f304 := Tryz.func243.trans (congrArg some (by kernel_rfl))
 f305 := Tryz.func244.trans (congrArg some (by kernel_rfl))
 f306 := Tryz.func245.trans (congrArg some (by kernel_rfl))
 f307 := Tryz.func246.trans (congrArg some (by kernel_rfl))
 f308 := Tryz.func247.trans (congrArg some (by kernel_rfl))
 f309 := Tryz.func248.trans (congrArg some (by kernel_rfl))
 f310 := Tryz.func249.trans (congrArg some (by kernel_rfl))
 f329 := Tryz.func309.trans (congrArg some (by kernel_rfl))
 f330 := Tryz.func310.trans (congrArg some (by kernel_rfl))
 f333 := Tryz.func308.trans (congrArg some (by kernel_rfl))
 f334 := Tryz.func311.trans (congrArg some (by kernel_rfl))
 f335 := Tryz.func312.trans (congrArg some (by kernel_rfl))
 f336 := Tryz.func313.trans (congrArg some (by kernel_rfl))
 f344 := Tryz.func348.trans (congrArg some (by kernel_rfl))
 t0 := Tryz.underlying0
 a0 := Tryz.isAgg0
 z0 := Tryz.sizeOf0
 v0 := Tryz.zeroValue0
 t3 := Tryz.underlying3
 a3 := Tryz.isAgg3
 z3 := Tryz.sizeOf3
 v3 := Tryz.zeroValue3
 t4 := Tryz.underlying4
 a4 := Tryz.isAgg4
 z4 := Tryz.sizeOf4
 v4 := Tryz.zeroValue4
 t5 := Tryz.underlying5
 a5 := Tryz.isAgg5
 z5 := Tryz.sizeOf5
 v5 := Tryz.zeroValue5
 t9 := Tryz.underlying9
 a9 := Tryz.isAgg9
 z9 := Tryz.sizeOf9
 v9 := Tryz.zeroValue9
 t31 := Tryz.underlying24
 a31 := Tryz.isAgg24
 z31 := Tryz.sizeOf24
 v31 := Tryz.zeroValue24
 t46 := Tryz.underlying244
 a46 := Tryz.isAgg244
 z46 := Tryz.sizeOf244
 v46 := Tryz.zeroValue244
 t51 := Tryz.underlying278
 a51 := Tryz.isAgg278
 z51 := Tryz.sizeOf278
 v51 := Tryz.zeroValue278
 t53 := Tryz.underlying275
 a53 := Tryz.isAgg275
 z53 := Tryz.sizeOf275
 v53 := Tryz.zeroValue275
 t131 := Tryz.underlying234
 a131 := Tryz.isAgg234
 z131 := Tryz.sizeOf234
 v131 := Tryz.zeroValue234
 t182 := Tryz.underlying305
 a182 := Tryz.isAgg305
 z182 := Tryz.sizeOf305
 v182 := Tryz.zeroValue305
 t183 := Tryz.underlying306
 a183 := Tryz.isAgg306
 z183 := Tryz.sizeOf306
 v183 := Tryz.zeroValue306
 t218 := Tryz.underlying363
 a218 := Tryz.isAgg363
 z218 := Tryz.sizeOf363
 v218 := Tryz.zeroValue363
 t222 := Tryz.underlying366
 a222 := Tryz.isAgg366
 z222 := Tryz.sizeOf366
 v222 := Tryz.zeroValue366
 t228 := Tryz.underlying397
 a228 := Tryz.isAgg397
 z228 := Tryz.sizeOf397
 v228 := Tryz.zeroValue397
 t229 := Tryz.underlying136
 a229 := Tryz.isAgg136
 z229 := Tryz.sizeOf136
 v229 := Tryz.zeroValue136 }
open Go.Sort Go.RowKit in
theorem Tryz.slices_Sort_string (blk off cap : Nat) (ss : List (List UInt8)) (w : World) (hH : Holds encStr w blk off ss.toArray) (hblk : blk < w.heap.size) (hsz : ss.length < 4611686018427387904) :
  Calls Tryz.prog 109 #[.slice (some ⟨blk, off, none⟩) ss.length cap] w fun e w' =>
   e = .returned (.tuple #[]) ∧ ∃ n os, w' = grow (putRow encStr (Sort.ahead w n) blk off (ss.mergeSort fun x y => decide (x ≤ y)).toArray) os := Any.slices_Sort_string Tryz.lays190 blk off cap ss w hH hblk hsz
def Tryz.lays146_ren : Go.Shelf.Ren := ⟨fun | 146 => 134 | 221 => 203 | 268 => 260 | 138 => 232 | 143 => 261 | 195 => 288 | 197 => 319 | 218 => 289 | 219 => 293 | 260 => 350 | 217 => 336 | 225 => 337 | 224 => 338 | 267 => 339 | 266 => 357 | 314 => 358 | n => n, fun | 9 => 9 | 31 => 24 | 3 => 3 | 4 => 4 | 0 => 0 | 105 => 374 | 21 => 21 | 5 => 5 | 46 => 244 | 119 => 408 | 139 => 411 | 138 => 410 | 146 => 368 | 51 => 278 | n => n, fun | 1 => 13 | 3 => 17 | 4 => 18 | n => n⟩
theorem Tryz.lays146 : Go.Proofs.Lays.n146 Tryz.prog Tryz.lays146_ren := {
 mixed := by kernel_rfl
 f138 := Tryz.func232.trans (congrArg some (by kernel_rfl))
 f143 := Tryz.func261.trans (congrArg some (by kernel_rfl))
 f146 := Tryz.func134.trans (congrArg some (by kernel_rfl))
 f195 := Tryz.func288.trans (congrArg some (by kernel_rfl))
 f197 := Tryz.func319.trans (congrArg some (by kernel_rfl))
 f217 := Tryz.func336.trans (congrArg some (by kernel_rfl))
 f218 := Tryz.func289.trans (congrArg some (by kernel_rfl))
 f219 := Tryz.func293.trans (congrArg some (by kernel_rfl))
 f221 := Tryz.func203.trans (congrArg some (by kernel_rfl))
 f224 := Tryz.func338.trans (congrArg some (by kernel_rfl))
 f225 := Tryz.func337.trans (congrArg some (by kernel_rfl))
 f260 := Tryz.func350.trans (congrArg some (by kernel_rfl))
 f266 := Tryz.func357.trans (congrArg some (by kernel_rfl))
 f267 := Tryz.func339.trans (congrArg some (by kernel_rfl))
 f268 := Tryz.func260.trans (congrArg some (by kernel_rfl))
 f314 := Tryz.func358.trans (congrArg some (by kernel_rfl))
 t0 := Tryz.underlying0
 a0 := Tryz.isAgg0
 z0 := Tryz.sizeOf0
 v0 := Tryz.zeroValue0
 t3 := Tryz.underlying3
 a3 := Tryz.isAgg3
 z3 := Tryz.sizeOf3
 v3 := Tryz.zeroValue3
 t4 := Tryz.underlying4
 a4 := Tryz.isAgg4
 z4 := Tryz.sizeOf4
 v4 := Tryz.zeroValue4
 t5 := Tryz.underlying5
 a5 := Tryz.isAgg5
 z5 := Tryz.sizeOf5
 v5 := Tryz.zeroValue5
 t9 := Tryz.underlying9
 a9 := Tryz.isAgg9
 z9 := Tryz.sizeOf9
 v9 := Tryz.zeroValue9
 t21 := Tryz.underlying21
 a21 := Tryz.isAgg21
 z21 := Tryz.sizeOf21
 v21 := Tryz.zeroValue21
 t31 := Tryz.underlying24
 a31 := Tryz.isAgg24
 z31 := Tryz.sizeOf24
 v31 := Tryz.zeroValue24
 t46 := Tryz.underlying244
 a46 := Tryz.isAgg244
 z46 := Tryz.sizeOf244
 v46 := Tryz.zeroValue244
 t51 := Tryz.underlying278
 a51 := Tryz.isAgg278
 z51 := Tryz.sizeOf278
 v51 := Tryz.zeroValue278
 t105 := Tryz.underlying374
 a105 := Tryz.isAgg374
 z105 := Tryz.sizeOf374
 v105 := Tryz.zeroValue374
 t119 := Tryz.underlying408
 a119 := Tryz.isAgg408
 z119 := Tryz.sizeOf408
 t138 := Tryz.underlying410
 a138 := Tryz.isAgg410
 z138 := Tryz.sizeOf410
 v138 := Tryz.zeroValue410
 t139 := Tryz.underlying411
 a139 := Tryz.isAgg411
 z139 := Tryz.sizeOf411
 v139 := Tryz.zeroValue411
 t146 := Tryz.underlying368
 a146 := Tryz.isAgg368
 z146 := Tryz.sizeOf368
 v146 := Tryz.zeroValue368
 g1 := by kernel_rfl
 g3 := by kernel_rfl
 g4 := by kernel_rfl }
open Go.RowKit Go.Lib in
theorem Tryz.strings_Split (s sep : ByteArray) (m : Int) (w : World) (hs : s.size < 4294967281) (hm : w.cell? ⟨13, 0, none⟩ = some (.int .i64 m)) (h1 : 1 ≤ sep.size) :
  Calls Tryz.prog 134 #[.string s, .string sep] w fun e w' =>
   e = .returned (.slice (some ⟨w.heap.size, 0, none⟩) (Lib.countB s sep + 1) (Lib.countB s sep + 1)) ∧ w' = w.alloc (.cells ((Lib.splitB sep 0 (Lib.countB s sep) s).map Value.string).toArray 9) := Any.strings_Split Tryz.lays146 (by kernel_rfl) s sep m w hs hm h1
def Tryz.lays155_ren : Go.Shelf.Ren := ⟨fun | 155 => 233 | 154 => 290 | 138 => 232 | 165 => 225 | 143 => 261 | 166 => 101 | 197 => 319 | 169 => 103 | 195 => 288 | 218 => 289 | 240 => 177 | 241 => 286 | 219 => 293 | 260 => 350 | 276 => 238 | 277 => 330 | 217 => 336 | 225 => 337 | 224 => 338 | 267 => 339 | 266 => 357 | 314 => 358 | n => n, fun | 9 => 9 | 3 => 3 | 4 => 4 | 72 => 152 | 0 => 0 | 76 => 154 | 105 => 374 | 21 => 21 | 5 => 5 | 70 => 149 | 20 => 20 | 37 => 150 | 75 => 34 | 127 => 240 | 164 => 284 | 46 => 244 | 119 => 408 | 139 => 411 | 138 => 410 | 146 => 368 | 51 => 278 | 80 => 59 | n => n, fun | 1 => 13 | 3 => 17 | 4 => 18 | n => n⟩
theorem Tryz.lays155 : Go.Proofs.Lays.n155 Tryz.prog Tryz.lays155_ren := {
 mixed := by kernel_rfl
 f138 := Tryz.func232.trans (congrArg some (by kernel_rfl))
 f143 := Tryz.func261.trans (congrArg some (by kernel_rfl))
 f154 := Tryz.func290.trans (congrArg some (by kernel_rfl))
 f155 := Tryz.func233.trans (congrArg some (by kernel_rfl))
 f165 := Tryz.func225.trans (congrArg some (by kernel_rfl))
 f166 := Tryz.func101.trans (congrArg some (by kernel_rfl))
 f169 := Tryz.func103.trans (congrArg some (by kernel_rfl))
 f195 := Tryz.func288.trans (congrArg some (by kernel_rfl))
 f197 := Tryz.func319.trans (congrArg some (by kernel_rfl))
 f217 := Tryz.func336.trans (congrArg some (by kernel_rfl))
 f218 := Tryz.func289.trans (congrArg some (by kernel_rfl))
 f219 := Tryz.func293.trans (congrArg some (by kernel_rfl))
 f224 := Tryz.func338.trans (congrArg some (by kernel_rfl))
 f225 := Tryz.func337.trans (congrArg some (by kernel_rfl))
 f240 := Tryz.func177.trans (congrArg some (by kernel_rfl))
 f241 := Tryz.func286.trans (congrArg some (by kernel_rfl))
 f260 := Tryz.func350.trans (congrArg some (by kernel_rfl))
 f266 := Tryz.func357.trans (congrArg some (by kernel_rfl))
 f267 := Tryz.func339.trans (congrArg some (by kernel_rfl))
 f276 := Tryz.func238.trans (congrArg some (by kernel_rfl))
 f277 := Tryz.func330.trans (congrArg some (by kernel_rfl))
 f314 := Tryz.func358.trans (congrArg some (by kernel_rfl))
 t0 := Tryz.underlying0
 a0 := Tryz.isAgg0
 z0 := Tryz.sizeOf0
 v0 := Tryz.zeroValue0
 t3 := Tryz.underlying3
 a3 := Tryz.isAgg3
 z3 := Tryz.sizeOf3
 v3 := Tryz.zeroValue3
 t4 := Tryz.underlying4
 a4 := Tryz.isAgg4
 z4 := Tryz.sizeOf4
 v4 := Tryz.zeroValue4
 t5 := Tryz.underlying5
 a5 := Tryz.isAgg5
 z5 := Tryz.sizeOf5
 v5 := Tryz.zeroValue5
 t9 := Tryz.underlying9
 a9 := Tryz.isAgg9
 z9 := Tryz.sizeOf9
 v9 := Tryz.zeroValue9
 t20 := Tryz.underlying20
 a20 := Tryz.isAgg20
 z20 := Tryz.sizeOf20
 v20 := Tryz.zeroValue20
 t21 := Tryz.underlying21
 a21 := Tryz.isAgg21
 z21 := Tryz.sizeOf21
 v21 := Tryz.zeroValue21
 t37 := Tryz.underlying150
 a37 := Tryz.isAgg150
 z37 := Tryz.sizeOf150
 v37 := Tryz.zeroValue150
 t46 := Tryz.underlying244
 a46 := Tryz.isAgg244
 z46 := Tryz.sizeOf244
 v46 := Tryz.zeroValue244
 t51 := Tryz.underlying278
 a51 := Tryz.isAgg278
 z51 := Tryz.sizeOf278
 v51 := Tryz.zeroValue278
 t70 := Tryz.underlying149
 a70 := Tryz.isAgg149
 z70 := Tryz.sizeOf149
 v70 := Tryz.zeroValue149
 t72 := Tryz.underlying152
 a72 := Tryz.isAgg152
 z72 := Tryz.sizeOf152
 v72 := Tryz.zeroValue152
 t75 := Tryz.underlying34
 a75 := Tryz.isAgg34
 z75 := Tryz.sizeOf34
 v75 := Tryz.zeroValue34
 t76 := Tryz.underlying154
 a76 := Tryz.isAgg154
 z76 := Tryz.sizeOf154
 v76 := Tryz.zeroValue154
 t105 := Tryz.underlying374
 a105 := Tryz.isAgg374
 z105 := Tryz.sizeOf374
 v105 := Tryz.zeroValue374
 t119 := Tryz.underlying408
 a119 := Tryz.isAgg408
 z119 := Tryz.sizeOf408
 t127 := Tryz.underlying240
 a127 := Tryz.isAgg240
 z127 := Tryz.sizeOf240
 v127 := Tryz.zeroValue240
 t138 := Tryz.underlying410
 a138 := Tryz.isAgg410
 z138 := Tryz.sizeOf410
 v138 := Tryz.zeroValue410
 t139 := Tryz.underlying411
 a139 := Tryz.isAgg411
 z139 := Tryz.sizeOf411
 v139 := Tryz.zeroValue411
 t146 := Tryz.underlying368
 a146 := Tryz.isAgg368
 z146 := Tryz.sizeOf368
 v146 := Tryz.zeroValue368
 t164 := Tryz.underlying284
 a164 := Tryz.isAgg284
 z164 := Tryz.sizeOf284
 v164 := Tryz.zeroValue284
 g1 := by kernel_rfl
 g3 := by kernel_rfl
 g4 := by kernel_rfl }
theorem Tryz.Builder_Extra_155 : Builder.Extra Tryz.prog Tryz.lays155_ren := {
 sizeBuilder := by kernel_rfl
 liesBuilder := by kernel_rfl
 t5 := Tryz.underlying5
 a5 := Tryz.isAgg5
 z5 := Tryz.sizeOf5
 v5 := Tryz.zeroValue5
 infoByte := by kernel_rfl
 cellsByte := by kernel_rfl
 sizeByte := by kernel_rfl
 neB5 := by decide }
open Go.RowKit Go.Lib in
theorem Tryz.strings_ReplaceAll (s old new : ByteArray) (m : Int) (w : World) (hs : s.size < 4294967281) (hm : w.cell? ⟨13, 0, none⟩ = some (.int .i64 m)) (h1 : 1 ≤ old.size) (hlen : s.size + Lib.countB s old * new.size ≤ 140737488355328) :
  Calls Tryz.prog 233 #[.string s, .string old, .string new] w fun e w' =>
   e = .returned (.string ⟨(Lib.replaceAll s.data.toList old.data.toList new.data.toList).toArray⟩) ∧ Below w.heap.size w w' := Any.strings_ReplaceAll Tryz.lays155 Tryz.Builder_Extra_155 s old new m w hs hm h1 hlen
def Tryz.laysNm216_ren : Go.Shelf.Ren := ⟨fun | 16 => 122 | n => n, fun | 24 => 24 | 9 => 9 | 4 => 4 | n => n, fun | n => n⟩
theorem Tryz.laysNm216 : Go.Proofs.Lays2.n16 Tryz.prog Tryz.laysNm216_ren := {
 mixed := by kernel_rfl
 f16 := Tryz.func122.trans (congrArg some (by kernel_rfl))
 t4 := Tryz.underlying4
 a4 := Tryz.isAgg4
 z4 := Tryz.sizeOf4
 v4 := Tryz.zeroValue4
 t9 := Tryz.underlying9
 a9 := Tryz.isAgg9
 z9 := Tryz.sizeOf9
 v9 := Tryz.zeroValue9
 t24 := Tryz.underlying24
 a24 := Tryz.isAgg24
 z24 := Tryz.sizeOf24
 v24 := Tryz.zeroValue24
 i9 := by kernel_rfl }
open Go.RowKit Go.Lib in
theorem Tryz.slices_Clone_string (b off n c : Nat) (zs : List ByteArray) (w : World) (hz : n ≤ zs.length) (hbig : n * 16 ≤ 140737488355328) (hc : ∀ j, j < zs.length → w.cell? ⟨b, off + j, none⟩ = some (.string (zs.getD j ByteArray.empty))) :
  Calls Tryz.prog 122 #[.slice (some ⟨b, off, none⟩) n c] w fun e w' => ∃ v', e = .returned v' ∧ w'.ownsRow w.heap.size 9 1 v' n ((zs.take n).map (Value.string)) ∧ v' ≠ .slice none 0 0 ∧ Below w.heap.size w w' := Any.slices_Clone_string Tryz.laysNm216 b off n c zs w hz hbig hc
open Go.RowKit Go.Lib in
theorem Tryz.slices_Clone_string_nil (n c : Nat) (w : World) :
  Calls Tryz.prog 122 #[.slice none n c] w fun e w' => e = .returned (.slice none 0 0) ∧ w' = w := Any.slices_Clone_string_nil Tryz.laysNm216 n c w
open Go.RowKit Go.Lib in
theorem Tryz.slices_Clone_string_zero (a : Addr) (c : Nat) (w : World) :
  Calls Tryz.prog 122 #[.slice (some a) 0 c] w fun e w' => ∃ v', e = .returned v' ∧ w'.ownsRow w.heap.size 9 1 v' 0 [] ∧ v' ≠ .slice none 0 0 ∧ Below w.heap.size w w' := Any.slices_Clone_string_zero Tryz.laysNm216 a c w
def Tryz.lays194_ren : Go.Shelf.Ren := ⟨fun | 194 => 110 | n => n, fun | 31 => 24 | 9 => 9 | 3 => 3 | 4 => 4 | 0 => 0 | n => n, fun | n => n⟩
theorem Tryz.lays194 : Go.Proofs.Lays.n194 Tryz.prog Tryz.lays194_ren := {
 mixed := by kernel_rfl
 f194 := Tryz.func110.trans (congrArg some (by kernel_rfl))
 t0 := Tryz.underlying0
 a0 := Tryz.isAgg0
 z0 := Tryz.sizeOf0
 v0 := Tryz.zeroValue0
 t3 := Tryz.underlying3
 a3 := Tryz.isAgg3
 z3 := Tryz.sizeOf3
 v3 := Tryz.zeroValue3
 t4 := Tryz.underlying4
 a4 := Tryz.isAgg4
 z4 := Tryz.sizeOf4
 v4 := Tryz.zeroValue4
 t9 := Tryz.underlying9
 a9 := Tryz.isAgg9
 z9 := Tryz.sizeOf9
 v9 := Tryz.zeroValue9
 t31 := Tryz.underlying24
 a31 := Tryz.isAgg24
 z31 := Tryz.sizeOf24
 v31 := Tryz.zeroValue24 }
open Go.RowKit Go.Lib Go.Sort in
theorem Tryz.slices_Compact_string (blk off cap : Nat) (zs : List (List UInt8)) (w : World) (hH : Holds encStr w blk off zs.toArray) (hsz : zs.length ≤ 9223372036854775807) (hcap : zs.length ≤ cap) :
  Calls Tryz.prog 110 #[.slice (some ⟨blk, off, none⟩) zs.length cap] w fun e w' => e = .returned (.slice (some ⟨blk, off, none⟩) (Lib.compact zs).length cap) ∧ ∃ q, w' = putRow encStr (Sort.ahead w q) blk off (Lib.compact zs ++ List.replicate (zs.length - (Lib.compact zs).length) []).toArray := Any.slices_Compact_string Tryz.lays194 blk off cap zs w hH hsz hcap
open Go.RowKit Go.Lib Go.Sort in
theorem Tryz.slices_Compact_string_empty (a : Option Addr) (cap : Nat) (w : World) :
  Calls Tryz.prog 110 #[.slice a 0 cap] w fun e w' => e = .returned (.slice a 0 cap) ∧ w' = w := Any.slices_Compact_string_empty Tryz.lays194 a cap w
open Go.RowKit Go.Sort in
theorem Tryz.slices_Sort_string_none (p : Option Addr) (cap : Nat) (w : World) :
  Calls Tryz.prog 109 #[.slice p 0 cap] w fun e w' => e = .returned (.tuple #[]) ∧ w' = w := Any.slices_Sort_string_none Tryz.lays190 p cap w
end Go.Proofs
