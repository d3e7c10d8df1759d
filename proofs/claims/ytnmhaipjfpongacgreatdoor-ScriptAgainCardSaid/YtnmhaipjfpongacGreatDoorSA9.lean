/- Texts of this seat laid together for one claim: Sh3, V5, V12, F0, W2, V15. No condition of its own: what each proves stands with its theorems. -/
import Derived.Ground.GgzProg
import Derived.Ground.SlgmProg
import Derived.Shelf.SlIter.Nil
import Derived.Shelf.SortM.Plain
import Derived.Shelf.SortM.SortNone
import Derived.Test.YtnmhaipjfpongacGreatDoorProg
import Derived.Test.YtnmhaipjfpongacGreatDoorSA6
import Derived.Test.YtnmhaipjfpongacGreatDoorSA8
import Derived.Test.YtnmhaipjfpongacGreatDoorSA5
import Derived.Lib.SlicesCompact
namespace Go.Proofs
open Go.Shelf
def Tryz.keys117_ren : Go.Shelf.Ren := ⟨fun | 7 => 117 | 10 => 183 | n => n, fun | 23 => 171 | 26 => 9 | 3 => 9 | 28 => 179 | 0 => 0 | 27 => 178 | 33 => 164 | 4 => 4 | n => n, fun | n => n⟩
theorem Tryz.keys117 : Go.Proofs.SlLaysZ.n7 Tryz.prog Tryz.keys117_ren := {
 mixed := by kernel_rfl
 f7 := ⟨Tryz.f117.name, by decide, Tryz.func117.trans (congrArg some (by kernel_rfl))⟩
 f10 := ⟨Tryz.f183.name, by decide, Tryz.func183.trans (congrArg some (by kernel_rfl))⟩
 t0 := Tryz.underlying0
 a0 := Tryz.isAgg0
 z0 := Tryz.sizeOf0
 v0 := Tryz.zeroValue0
 t4 := Tryz.underlying4
 a4 := Tryz.isAgg4
 z4 := Tryz.sizeOf4
 v4 := Tryz.zeroValue4
 t23 := Tryz.underlying171
 a23 := Tryz.isAgg171
 z23 := Tryz.sizeOf171
 v23 := Tryz.zeroValue171
 t26 := Tryz.underlying9
 a26 := Tryz.isAgg9
 z26 := Tryz.sizeOf9
 v26 := Tryz.zeroValue9
 t27 := Tryz.underlying178
 a27 := Tryz.isAgg178
 z27 := Tryz.sizeOf178
 v27 := Tryz.zeroValue178
 t28 := Tryz.underlying179
 a28 := Tryz.isAgg179
 z28 := Tryz.sizeOf179
 v28 := Tryz.zeroValue179
 t33 := Tryz.underlying164
 a33 := Tryz.isAgg164
 z33 := Tryz.sizeOf164
 v33 := Tryz.zeroValue164 }
def Tryz.sorted116_ren : Go.Shelf.Ren := ⟨fun | 6 => 116 | 8 => 182 | 9 => 115 | 11 => 242 | 13 => 181 | 12 => 180 | 23 => 240 | 24 => 241 | 14 => 231 | 15 => 232 | 16 => 233 | 17 => 234 | 18 => 235 | 19 => 236 | 20 => 237 | 21 => 238 | 22 => 239 | 25 => 289 | 26 => 290 | 27 => 291 | 28 => 292 | 29 => 293 | 30 => 294 | 31 => 317 | n => n, fun | 26 => 9 | 28 => 179 | 24 => 53 | 0 => 0 | 3 => 3 | 37 => 248 | 48 => 307 | 50 => 309 | 4 => 4 | 40 => 301 | 39 => 300 | 45 => 182 | 5 => 5 | 9 => 9 | 51 => 347 | 55 => 351 | 57 => 362 | 58 => 157 | 33 => 164 | n => n, fun | n => n⟩
theorem Tryz.sorted116 : Go.Proofs.SlLaysZ.n6 Tryz.prog Tryz.sorted116_ren := {
 mixed := by kernel_rfl
 f6 := ⟨Tryz.f116.name, by decide, Tryz.func116.trans (congrArg some (by kernel_rfl))⟩
 f8 := ⟨Tryz.f182.name, by decide, Tryz.func182.trans (congrArg some (by kernel_rfl))⟩
 f11 := ⟨Tryz.f242.name, by decide, Tryz.func242.trans (congrArg some (by kernel_rfl))⟩
 t0 := Tryz.underlying0
 a0 := Tryz.isAgg0
 z0 := Tryz.sizeOf0
 v0 := Tryz.zeroValue0
 t24 := Tryz.underlying53
 a24 := Tryz.isAgg53
 z24 := Tryz.sizeOf53
 v24 := Tryz.zeroValue53
 t26 := Tryz.underlying9
 a26 := Tryz.isAgg9
 z26 := Tryz.sizeOf9
 v26 := Tryz.zeroValue9
 t28 := Tryz.underlying179
 a28 := Tryz.isAgg179
 z28 := Tryz.sizeOf179
 v28 := Tryz.zeroValue179
 i26 := by kernel_rfl }
def Tryz.sort115_ren : Go.Shelf.Ren := ⟨fun | 6 => 115 | 8 => 181 | 9 => 180 | 19 => 240 | 20 => 241 | 21 => 231 | 22 => 232 | 23 => 233 | 24 => 234 | 25 => 235 | 26 => 236 | 27 => 237 | 28 => 238 | 29 => 239 | 36 => 289 | 31 => 290 | 32 => 291 | 37 => 292 | 38 => 293 | 39 => 294 | 41 => 317 | n => n, fun | 27 => 53 | 29 => 9 | 3 => 3 | 32 => 248 | 26 => 53 | 0 => 0 | 44 => 307 | 46 => 309 | 4 => 4 | 36 => 301 | 35 => 300 | 41 => 182 | 5 => 5 | 9 => 9 | 53 => 347 | 57 => 351 | 63 => 362 | 64 => 157 | n => n, fun | n => n⟩
theorem Tryz.sort115 : Go.Proofs.SlLaysM.n6 Tryz.prog Tryz.sort115_ren := {
 mixed := by kernel_rfl
 f6 := ⟨Tryz.f115.name, by decide, Tryz.func115.trans (congrArg some (by kernel_rfl))⟩
 f8 := Tryz.func181.trans (congrArg some (by kernel_rfl))
 f9 := ⟨Tryz.f180.name, by decide, Tryz.func180.trans (congrArg some (by kernel_rfl))⟩
 f19 := Tryz.func240.trans (congrArg some (by kernel_rfl))
 f20 := Tryz.func241.trans (congrArg some (by kernel_rfl))
 f21 := ⟨Tryz.f231.name, by decide, Tryz.func231.trans (congrArg some (by kernel_rfl))⟩
 f22 := ⟨Tryz.f232.name, by decide, Tryz.func232.trans (congrArg some (by kernel_rfl))⟩
 f23 := ⟨Tryz.f233.name, by decide, Tryz.func233.trans (congrArg some (by kernel_rfl))⟩
 f24 := ⟨Tryz.f234.name, by decide, Tryz.func234.trans (congrArg some (by kernel_rfl))⟩
 f25 := ⟨Tryz.f235.name, by decide, Tryz.func235.trans (congrArg some (by kernel_rfl))⟩
 f26 := ⟨Tryz.f236.name, by decide, Tryz.func236.trans (congrArg some (by kernel_rfl))⟩
 f27 := ⟨Tryz.f237.name, by decide, Tryz.func237.trans (congrArg some (by kernel_rfl))⟩
 f28 := ⟨Tryz.f238.name, by decide, Tryz.func238.trans (congrArg some (by kernel_rfl))⟩
 f29 := ⟨Tryz.f239.name, by decide, Tryz.func239.trans (congrArg some (by kernel_rfl))⟩
 f31 := Tryz.func290.trans (congrArg some (by kernel_rfl))
 f32 := Tryz.func291.trans (congrArg some (by kernel_rfl))
 f36 := ⟨Tryz.f289.name, by decide, Tryz.func289.trans (congrArg some (by kernel_rfl))⟩
 f37 := ⟨Tryz.f292.name, by decide, Tryz.func292.trans (congrArg some (by kernel_rfl))⟩
 f38 := ⟨Tryz.f293.name, by decide, Tryz.func293.trans (congrArg some (by kernel_rfl))⟩
 f39 := ⟨Tryz.f294.name, by decide, Tryz.func294.trans (congrArg some (by kernel_rfl))⟩
 f41 := ⟨Tryz.f317.name, by decide, Tryz.func317.trans (congrArg some (by kernel_rfl))⟩
 t0 := Tryz.underlying0
 a0 := Tryz.isAgg0
 z0 := Tryz.sizeOf0
 v0 := Tryz.zeroValue0
 t3 := Tryz.underlying3
 a3 := Tryz.isAgg3
 z3 := Tryz.sizeOf3
 v3 := Tryz.zeroValue3
 t4 := Tryz.underlying4
 a4 := Tryz.isAgg4
 z4 := Tryz.sizeOf4
 v4 := Tryz.zeroValue4
 t5 := Tryz.underlying5
 a5 := Tryz.isAgg5
 z5 := Tryz.sizeOf5
 v5 := Tryz.zeroValue5
 t9 := Tryz.underlying9
 a9 := Tryz.isAgg9
 z9 := Tryz.sizeOf9
 v9 := Tryz.zeroValue9
 t26 := Tryz.underlying53
 a26 := Tryz.isAgg53
 z26 := Tryz.sizeOf53
 v26 := Tryz.zeroValue53
 t27 := Tryz.underlying53
 a27 := Tryz.isAgg53
 z27 := Tryz.sizeOf53
 v27 := Tryz.zeroValue53
 t29 := Tryz.underlying9
 a29 := Tryz.isAgg9
 z29 := Tryz.sizeOf9
 v29 := Tryz.zeroValue9
 t32 := Tryz.underlying248
 a32 := Tryz.isAgg248
 z32 := Tryz.sizeOf248
 v32 := Tryz.zeroValue248
 t35 := Tryz.underlying300
 a35 := Tryz.isAgg300
 z35 := Tryz.sizeOf300
 v35 := Tryz.zeroValue300
 t36 := Tryz.underlying301
 a36 := Tryz.isAgg301
 z36 := Tryz.sizeOf301
 v36 := Tryz.zeroValue301
 t41 := Tryz.underlying182
 a41 := Tryz.isAgg182
 z41 := Tryz.sizeOf182
 v41 := Tryz.zeroValue182
 t44 := Tryz.underlying307
 a44 := Tryz.isAgg307
 z44 := Tryz.sizeOf307
 v44 := Tryz.zeroValue307
 t46 := Tryz.underlying309
 a46 := Tryz.isAgg309
 z46 := Tryz.sizeOf309
 v46 := Tryz.zeroValue309
 t53 := Tryz.underlying347
 a53 := Tryz.isAgg347
 z53 := Tryz.sizeOf347
 v53 := Tryz.zeroValue347
 t57 := Tryz.underlying351
 a57 := Tryz.isAgg351
 z57 := Tryz.sizeOf351
 v57 := Tryz.zeroValue351
 t63 := Tryz.underlying362
 a63 := Tryz.isAgg362
 z63 := Tryz.sizeOf362
 v63 := Tryz.zeroValue362
 t64 := Tryz.underlying157
 a64 := Tryz.isAgg157
 z64 := Tryz.sizeOf157
 v64 := Tryz.zeroValue157 }
open Go.RowKit Go.Maps Go.Sort Go.Shelf


theorem Tryz.sorts116 (m : Nat) : AnyZ.SortsIn Tryz.prog Tryz.sorted116_ren Fence.wide m :=
  ⟨fun blk off cap ss W hH hblk hsz => callsIn_wide.2 (AnyM.slices_Sort_string Tryz.sort115 blk off cap ss W hH hblk hsz),
   fun p cap W => callsIn_wide.2 (AnyM.slices_Sort_string_none Tryz.sort115 p cap W)⟩

theorem Tryz.maps_Keys_117 (mb : Option Nat) (W : World) : CallsIn Fence.wide 5 Tryz.prog 117 #[.map mb] W fun e w' => e = .returned (.func (.func 183) #[] #[.pointer (some ⟨W.heap.size, 0, none⟩)]) ∧ w' = W.alloc (.cells #[.map mb] 171) :=
 AnyZ.keys_in Tryz.keys117 Fence.wide 5 trivial rfl mb W

set_option maxHeartbeats 1000000 in
theorem Tryz.slices_Sorted_keys_116_117 {H : Type} (b nn : Nat) (D0 : DataW H) (R : Value → Option (DataW H × List MemPlace)) (w : World) (hown : w.ownsMap Tryz.prog 9 R b nn D0) (hmax : Maps.size D0 ≤ maxLen) (hbytes : Maps.size D0 * 16 ≤ 140737488355328) :
  CallsIn Fence.wide 5 Tryz.prog 116 #[.func (.func 183) #[] #[.pointer (some ⟨w.heap.size, 0, none⟩)]] (w.alloc (.cells #[.map (some b)] 171)) fun e w' => ∃ (v : Value) (ss : List (List UInt8)), e = .returned v ∧ ss.Perm (strKeys D0) ∧
   w'.ownsRow (w.alloc (.cells #[.map (some b)] 171)).heap.size 9 1 v ss.length ((ss.mergeSort (fun x y => decide (x ≤ y))).map encStr) ∧ (v = .slice none 0 0 ↔ ss = []) ∧ Below (w.alloc (.cells #[.map (some b)] 171)).heap.size (w.alloc (.cells #[.map (some b)] 171)) w' := by
 have hbl := hown.lt
 have hseq : SeqGives Fence.wide 2 Tryz.prog 183 #[.pointer (some ⟨w.heap.size, 0, none⟩)] encStr (fun ss => ss.Perm (strKeys D0)) (Maps.size D0) (w.alloc (.cells #[.map (some b)] 171)) :=
  AnyZ.keys_gives (ρ := Tryz.keys117_ren) { Tryz.keys117 with } Fence.wide _ trivial rfl (by omega) w.heap.size b nn D0 _ (by simp) (by simp) (by
   obtain ⟨es, clock, hb, Ft, hs, hD⟩ := hown
   exact ⟨es, clock, (Below.heap_alloc _ _ b hbl).trans hb, Ft, hs, hD⟩)
 exact AnyZ.sorted_in Tryz.sorted116 Fence.wide 5 trivial trivial trivial trivial rfl (by omega) (Tryz.sorts116 _) (enters_of Tryz.func115 (by kernel_rfl) rfl) 183 #[.pointer (some ⟨w.heap.size, 0, none⟩)] trivial (enters_of Tryz.func183 (by kernel_rfl) rfl) _ _ hmax hbytes _ hseq

end Go.Proofs

namespace Go.Proofs.YtnmhaipjfpongacGreatDoor
open Go.ChangeShapes Go.WideShapes Go.ChangeAt Go.RowKit

abbrev unitR : Value → Option (DataW Unit × List MemPlace) := fun _ => some (.nil, [])
def keyStr : Value → B
 | .string s => s.data.toList
 | _ => []

theorem perm_insert {H : Type} (x : Lit × DataW H) : ∀ l, (DataW.insert x l).Perm (x :: l)
 | [] => List.Perm.refl _
 | y :: r => by
  unfold DataW.insert
  split
  ·exact List.Perm.refl _
  ·exact ((perm_insert x r).cons y).trans (List.Perm.swap _ _ _)

theorem perm_inserts {H : Type} : ∀ l : List (Lit × DataW H), (l.foldr DataW.insert []).Perm l
 | [] => List.Perm.refl _
 | x :: r => (perm_insert x _).trans ((perm_inserts r).cons x)

theorem ownsMap_of {P : Program} {k : TypeId} (hk : P.underlying k = some .string) {w : World} {mb : Nat} {L : FL} (h : KMap .string S S w mb L) (hl : ∀ q ∈ L, q.1.length ≤ 1000000) (hn : L.length ≤ 1000000) :
  ∃ D0 : DataW Unit, w.ownsMap P k unitR mb L.length D0 ∧ Maps.size D0 = L.length ∧ (strKeys D0).Perm (L.map (·.1)) := by
 obtain ⟨es, clock, hb, hp, _, _, hst⟩ := h
 have hsz : es.size = L.length := by simpa using hp.length_eq
 have hkey : ∀ e ∈ es.toList, ∃ x : B, e.key = S x ∧ x.length ≤ 1000000 := fun e he => by
  have := hp.mem_iff.1 (List.mem_map.2 ⟨e, he, rfl⟩)
  obtain ⟨q, hq, e1⟩ := List.mem_map.1 this
  exact ⟨q.1, (Prod.mk.inj e1).1.symm, hl q hq⟩
 have hrd : ∀ e ∈ es.toList, WideElems.rd P k unitR e = some (.string (keyStr e.key), .nil) := fun e he => by
  obtain ⟨x, hx, hxl⟩ := hkey e he
  have hm : (⟨x.toArray⟩ : ByteArray).size ≤ maxLen := by
   show x.toArray.size ≤ maxLen
   rw [List.size_toArray]
   unfold maxLen
   omega
  unfold WideElems.rd
  rw [hx]
  simp [keyOf, hk, mapKey, keyStr, hm]
 have hrg : es.toList.map (WideElems.rg P k unitR) = es.toList.map fun e => ((.string (keyStr e.key), .nil) : Lit × DataW Unit) :=
  List.map_congr_left fun e he => by unfold WideElems.rg; rw [hrd e he]; rfl
 refine ⟨.map ((es.toList.map (WideElems.rg P k unitR)).foldr DataW.insert []), ⟨es, clock, hb, ⟨?_, hst, fun e he => ⟨_, hrd e he⟩⟩, by omega, rfl⟩, ?_, ?_⟩
 ·unfold maxLen; omega
 ·show (List.foldr DataW.insert [] _).length = _
  rw [(perm_inserts _).length_eq]
  simpa using hsz
 ·show (List.map _ (List.foldr DataW.insert [] _)).Perm _
  refine ((perm_inserts _).map _).trans ?_
  rw [hrg, List.map_map]
  have h1 := hp.map (fun q : Value × Value => keyStr q.1)
  rw [List.map_map, List.map_map] at h1
  have e2 : ((fun q : Value × Value => keyStr q.1) ∘ fun p : B × B => (S p.1, S p.2)) = (·.1) := by
   funext q
   simp [keyStr]
  rw [e2] at h1
  exact h1

theorem sortedKeys_any (w : World) (mb : Nat) (L : FL) (h : KMap .string S S w mb L) (hr : Rising L) (hl : ∀ q ∈ L, q.1.length ≤ 1000000) (hn : L.length ≤ 1000000) :
  Calls Tryz.prog 116 #[.func (.func 183) #[] #[.pointer (some ⟨w.heap.size, 0, none⟩)]] (w.alloc (.cells #[.map (some mb)] 171)) fun e w' =>
   ∃ v, e = .returned v ∧ Rd S w' v (L.map (·.1)) ∧ Ext w w' ∧ ∀ k, v.ownBlock = some k → ∃ cur, w'.heap[k]? = some (.cells cur 9 (0, 0)) := by
 obtain ⟨D0, hown, hsz, hperm⟩ := ownsMap_of (P := Tryz.prog) (k := 9) Tryz.underlying9 h hl hn
 have := Tryz.slices_Sorted_keys_116_117 mb _ D0 _ w hown (by rw [hsz]; unfold maxLen; omega) (by rw [hsz]; omega)
 refine (callsIn_wide.1 this).mono ?_
 rintro e w' ⟨v, ss, rfl, hss, hrow, _, hbel⟩
 have e1 := sorted_keys hr (hss.trans hperm)
 rw [e1] at hrow
 have e2 : ss.length = (L.map (·.1)).length := by rw [(hss.trans hperm).length_eq]
 rw [e2] at hrow
 refine ⟨v, rfl, Rd.of_row hrow, (Only.alloc _ _ _).then (Only.of_below hbel), fun k hk => ?_⟩
 rcases hrow.2 with ⟨rfl, _⟩ | ⟨g, cap, cur, rfl, _, hh, _⟩
 ·cases hk
 ·cases hk
  exact ⟨cur, hh⟩

theorem paths_any (w : World) (b mb : Nat) (L : FL) (h : TreeAt w b mb L) (hr : Rising L) (hl : ∀ q ∈ L, q.1.length ≤ 1000000) (hn : L.length ≤ 1000000) :
  Calls Tryz.prog 41 #[.pointer (some ⟨b, 0, none⟩)] w fun e w' => ∃ v, e = .returned v ∧ Rd S w' v (L.map (·.1)) ∧ Ext w w' ∧ ∀ k, v.ownBlock = some k → ∃ cur, w'.heap[k]? = some (.cells cur 9 (0, 0)) := by
 have c0 := h.mapCell
 have H1 := Lib.hid (callsIn_wide.1 (Tryz.maps_Keys_117 (some mb) w))
 have H2 := Lib.hid (sortedKeys_any w mb L h.map hr hl hn)
 clear h hr hl hn
 go_enter Tryz.func41, Tryz.ntmps41
 go_wp2_with (go_at_call 117; refine H1.out.mono ?_; rintro e w1 ⟨rfl, rfl⟩)
 go_wp2_with (go_at_call 116; refine H2.out.mono ?_; rintro e w1 ⟨v, rfl, hv, ho, ht⟩)
 go_ret
 exact ⟨v, rfl, hv, ho, ht⟩
end Go.Proofs.YtnmhaipjfpongacGreatDoor

namespace Go.Proofs.YtnmhaipjfpongacGreatDoor
open Go.ChangeShapes Go.WideShapes Go.ChangeAt Go.RowKit

abbrev IsBF (n0 b : Nat) (l : B) (w : World) : Prop := Lib.IsBuilderF 169 5 n0 b (Lib.byteCells l) w

theorem IsBF.fresh (w : World) : IsBF w.heap.size w.heap.size [] (w.alloc (.cells #[.pointer none, .slice none 0 0] 169 (0, 0))) :=
 .inl (Lib.BuilderAtF.of ⟨Nat.le_refl _, .slice none 0 0, (MapKept.heap_alloc w _).1, World.ownsRow_nil _ _ _ _, by intro h; cases h⟩)

theorem writeK_any (n0 b : Nat) (l s : B) (w : World) (h : IsBF n0 b l w) (hlen : l.length + s.length ≤ 140737488355328) (hBw : n0 ≤ w.heap.size) :
  Calls Tryz.prog 106 #[.pointer (some ⟨b, 0, none⟩), S s] w fun e w' => e = .returned (.tuple #[I s.length, .nilIface]) ∧ IsBF n0 b (l ++ s) w' ∧ Below n0 w w' ∧ Lib.OthersKept 5 (some b) w w' := by
 have hsz : (⟨s.toArray⟩ : ByteArray).size = s.length := by simp [ByteArray.size]
 refine (Any.Builder_WriteString_k { Tryz.lays156 with } Tryz.Builder_Extra_156 n0 b (Lib.byteCells l) ⟨s.toArray⟩ w h (by rw [Lib.byteCells_length, hsz]; exact hlen) hBw).mono ?_
 rintro e w' ⟨rfl, h1, h2, h3⟩
 refine ⟨by rw [hsz], .inr ?_, h2, h3⟩
 have e1 : Lib.byteCells l ++ Lib.strCells ⟨s.toArray⟩ = Lib.byteCells (l ++ s) := by rw [Lib.strCells_eq]; simp [Lib.byteCells]
 rw [← e1]
 exact h1

end Go.Proofs.YtnmhaipjfpongacGreatDoor

namespace Go.Proofs.YtnmhaipjfpongacGreatDoor
open Go.ChangeShapes Go.WideShapes Go.ChangeAt Go.RowKit

def RetE (v : Value) (w : World) (e : Ending) (w' : World) : Prop := e = .returned v ∧ Ext w w'
abbrev Row (base : Nat) (w : World) (v : Value) (l : List B) : Prop := w.ownsRow base 9 1 v l.length (l.map S)
def RetRow (l : List B) (w : World) (e : Ending) (w' : World) : Prop := ∃ v, e = .returned v ∧ Ext w w' ∧ Row w.heap.size w' v l

theorem Row.ext {base : Nat} {w w' : World} {v : Value} {l : List B} (h : Row base w v l) (ho : Ext w w') : Row base w' v l := ho.row h fun _ _ h => h
theorem Row.rd {base : Nat} {w : World} {v : Value} {l : List B} (h : Row base w v l) : Rd S w v l := Rd.of_row h
theorem Row.nil (base : Nat) (w : World) : Row base w (.slice none 0 0) [] := World.ownsRow_nil _ _ _ _
theorem Row.base {base : Nat} {w : World} {v : Value} {l : List B} (h : Row base w v l) : ∀ i, v.ownBlock = some i → base ≤ i := fun i hi => (h.lt i hi).1

theorem grown_ext {w0 wr w' : World} (I : Ext w0 wr) {v : Value} (hv : ∀ i, v.ownBlock = some i → w0.heap.size ≤ i) (hg : wr.grownBy w' v.ownBlock) : Ext w0 w' :=
 I.thenGrown hg fun i hi => .inr (hv i hi)

theorem addrAdd (b off j : Nat) : (⟨b, off, none⟩ : Addr).add j = ⟨b, off + j, none⟩ := by cases j <;> simp [Addr.add]

theorem wpText {P : Program} (hP : P = Tryz.prog) {ops : Array Oper} {rest : List Oper} {o : Oper} {a : Act} {Q : Exit → Act → World → Prop} (s x : Operand) (w0 : World) (base : Nat) (v : Value) (l : List B) (k : B) (W : World) (hgd : o.guard = none)
  (ho : o.op = .call { callee := .builtin .append, args := #[s, x], argTypes := #[53, 53] }) (hs : a.eval s = v) (hx : a.eval x = .slice (some ⟨W.heap.size, 0, none⟩) 1 1)
  (hrow : Row base W v l) (hl : l.length ≤ 1000000) (hbase : base ≤ W.heap.size) (hxt : Ext w0 W) (hb0 : w0.heap.size ≤ base)
  (hK : ∀ g cap w', Hid (Row base w' (.slice (some ⟨g, 0, none⟩) (l.length + 1) cap) (l ++ [k])) → Hid (Ext w0 w') → Hid (W.grownBy w' v.ownBlock) →
   wpList P ops Q rest (a.put o.dst (.slice (some ⟨g, 0, none⟩) (l.length + 1) cap)) w') :
  wpList P ops Q (o :: rest) a (W.alloc (.cells #[S k] 9 (0, 0))) := by
 subst hP
 refine wpList_appS (fun s => [S s]) 53 9 1 16 _ infoStr Tryz.underlying53 rfl (by decide) (fun _ => rfl) (fun _ u hu => by cases List.mem_singleton.1 hu; rfl) (by decide) s x base v l k W _ rfl hgd ho hs hx (by rw [flat_one]; exact hrow) hl hbase ?_
 intro g cap w' h1 h2 h3
 rw [flat_one] at h1
 refine hK g cap w' (Lib.hid ?_) (Lib.hid (grown_ext hxt (fun i hi => Nat.le_trans hb0 (hrow.base i hi)) h2)) (Lib.hid h2)
 show World.ownsRow _ _ _ _ _ (l ++ [k]).length _
 rw [List.length_append]
 exact h1

theorem wpTexts {P : Program} (hP : P = Tryz.prog) {ops : Array Oper} {rest : List Oper} {o : Oper} {a : Act} {Q : Exit → Act → World → Prop} (s x : Operand) (w0 : World) (base : Nat) (v vx : Value) (l k : List B) (W : World) (hgd : o.guard = none)
  (ho : o.op = .call { callee := .builtin .append, args := #[s, x], argTypes := #[53, 53] }) (hs : a.eval s = v) (hx : a.eval x = vx) (hrd : Rd S W vx k) (hnz : vx.ownBlock = none → vx = .slice none 0 0)
  (hrow : Row base W v l) (hl : l.length + k.length ≤ 1000000) (hbase : base ≤ W.heap.size) (hxt : Ext w0 W) (hb0 : w0.heap.size ≤ base)
  (hK : ∀ ao m cap w', m = (l ++ k).length → Hid (Row base w' (.slice ao m cap) (l ++ k)) → Hid (Ext w0 w') → Hid (W.grownBy w' v.ownBlock) →
   wpList P ops Q rest (a.put o.dst (.slice ao m cap)) w') :
  wpList P ops Q (o :: rest) a W := by
 subst hP
 obtain ⟨ao, c, rfl, hcap, hml, hc⟩ := hrd
 refine wpList_appL (fun s => [S s]) 53 9 1 16 _ infoStr Tryz.underlying53 rfl (by decide) (fun _ => rfl) (fun _ u hu => by cases List.mem_singleton.1 hu; rfl) (by decide) s x base v l k W hgd ho hs ao k.length c hx rfl ?_ (by rw [flat_one]; exact hrow) hl hbase ?_
 ·cases ao with
  | none =>
   have hz := hnz rfl
   cases k with
   | nil => cases hz; exact .inl ⟨rfl, rfl, rfl⟩
   | cons y k => obtain ⟨_, _, h, _⟩ := hc (by simp); cases h
  | some ad =>
   refine .inr ⟨ad, rfl, fun j u hu => ?_⟩
   cases k with
   | nil => simp at hu
   | cons y k =>
    obtain ⟨b, off, h, hcell⟩ := hc (by simp)
    cases h
    rw [flat_one, List.getElem?_map] at hu
    cases hq : (y :: k)[j]? with
    | none => rw [hq] at hu; cases hu
    | some z =>
     rw [hq] at hu
     cases hu
     rw [addrAdd]
     exact hcell j z hq
 ·intro ao' m' cap w' hm' h1 h2 h3
  rw [flat_one] at h1
  exact hK ao' m' cap w' hm' (Lib.hid h1) (Lib.hid (grown_ext hxt (fun i hi => Nat.le_trans hb0 (hrow.base i hi)) h2)) (Lib.hid h2)

theorem Row.nz {base : Nat} {w : World} {v : Value} {l : List B} (h : Row base w v l) : v.ownBlock = none → v = .slice none 0 0 := by
 intro hn
 rcases h.2 with ⟨h1, _⟩ | ⟨g, cap, cur, rfl, _⟩
 ·exact h1
 ·cases hn

def linesB (s : B) : List B := if (cutc 10 s).getLast? = some [] then (cutc 10 s).dropLast else cutc 10 s
def endedB (l : List B) : B := l.flatMap (· ++ [10])
def allB (l : List B) : List B := l.flatMap linesB

theorem ended_step {l : List B} {j : Nat} {x : B} (h : l[j]? = some x) : endedB (l.take (j + 1)) = endedB (l.take j) ++ (x ++ [10]) := by
 unfold endedB
 rw [List.take_add_one, h]
 simp
theorem all_step {l : List B} {j : Nat} {x : B} (h : l[j]? = some x) : allB (l.take (j + 1)) = allB (l.take j) ++ linesB x := by
 unfold allB
 rw [List.take_add_one, h]
 simp

theorem ended_cons (x : B) (l : List B) : endedB (x :: l) = x ++ [10] ++ endedB l := by simp [endedB]
theorem ended_app (a b : List B) : endedB (a ++ b) = endedB a ++ endedB b := by simp [endedB]
theorem ended_sub {a b : List B} (h : a.Sublist b) : (endedB a).length ≤ (endedB b).length := by
 induction h with
 | slnil => exact Nat.le_refl _
 | cons x _ ih => rw [ended_cons]; simp; omega
 | cons_cons x _ ih => rw [ended_cons, ended_cons]; simp; omega
theorem ended_mem {x : B} {l : List B} (h : x ∈ l) : x.length ≤ (endedB l).length := by
 have := ended_sub (List.singleton_sublist.2 h)
 rw [ended_cons] at this
 simp at this
 omega
theorem ended_perm {a b : List B} (h : a.Perm b) : (endedB a).length = (endedB b).length := by
 unfold endedB
 exact (h.flatMap_right _).length_eq
theorem ended_join : ∀ {l : List B}, l ≠ [] → endedB l = joinc 10 l ++ [10]
 | [x], _ => by simp [endedB, joinc_one]
 | x :: y :: l, _ => by rw [ended_cons, ended_join (l := y :: l) (by simp), joinc_cons]; simp
theorem ended_cut (s : B) : endedB (cutc 10 s) = s ++ [10] := by rw [ended_join (cutc_ne 10 s), join_cut_c]
theorem linesB_sub (s : B) : (linesB s).Sublist (cutc 10 s) := by
 unfold linesB
 split
 ·exact List.dropLast_sublist _
 ·exact List.Sublist.refl _
theorem ended_lines (s : B) : (endedB (linesB s)).length ≤ s.length + 1 := by
 have := ended_sub (linesB_sub s)
 rw [ended_cut] at this
 simpa using this
def sumLen (l : List B) : Nat := (l.map List.length).sum
theorem sum_cons (x : B) (l : List B) : sumLen (x :: l) = x.length + sumLen l := by simp [sumLen]
theorem sum_mem {x : B} : ∀ {l : List B}, x ∈ l → x.length ≤ sumLen l
 | y :: l, h => by
  rw [sum_cons]
  rcases List.mem_cons.1 h with rfl | h
  ·omega
  ·have := sum_mem h; omega
theorem sum_take (l : List B) : ∀ j, sumLen (l.take j) ≤ sumLen l := by
 induction l with
 | nil => intro j; simp [sumLen]
 | cons x l ih =>
  intro j
  cases j with
  | zero => simp [sumLen]
  | succ j => rw [List.take_succ_cons, sum_cons, sum_cons]; have := ih j; omega
theorem sum_step {l : List B} {j : Nat} {x : B} (h : l[j]? = some x) : sumLen (l.take (j + 1)) = sumLen (l.take j) + x.length := by
 unfold sumLen
 rw [List.take_add_one, h]
 simp
theorem ended_all : ∀ (l : List B), (endedB (allB l)).length ≤ sumLen l + l.length
 | [] => by simp [allB, endedB]
 | x :: l => by
  have := ended_all l
  have h2 := ended_lines x
  rw [show allB (x :: l) = linesB x ++ allB l from rfl, ended_app, List.length_append, sum_cons, List.length_cons]
  omega
theorem len_ended (l : List B) : l.length ≤ (endedB l).length := by
 induction l with
 | nil => exact Nat.le_refl _
 | cons x l ih => rw [ended_cons]; simp; omega

inductive Kd where
 | write | join | upper | lines | sort | count | swap | head
def kinds : List (B × Kd) := [([104, 101, 97, 100], .head), ([115, 119, 97, 112], .swap), ([99, 111, 117, 110, 116], .count), ([115, 111, 114, 116], .sort), ([108, 105, 110, 101, 115], .lines), ([117, 112, 112, 101, 114], .upper), ([106, 111, 105, 110], .join), ([119, 114, 105, 116, 101], .write)]

def Kd.least : Kd → Nat
 | .write => 0
 | _ => 1
def Kd.most : Kd → Nat
 | .write => 0
 | .join | .sort | .count => 8
 | _ => 1
def pairB (s : B) : Bool := s.count 61 == 1 && !(s.head? == some 61)
def Kd.word : Kd → B → Bool
 | .write, _ | .join, _ | .lines, _ => true
 | .upper, s | .count, s => s == []
 | .sort, s => s == [] || s == [111, 110, 99, 101]
 | .swap, s => pairB s
 | .head, s => (numB 3 s).isSome
def upB (c : UInt8) : UInt8 := if 97 ≤ c.toNat ∧ c.toNat ≤ 122 then c - 97 + 65 else c
def sortB (l : List B) : List B := l.mergeSort fun x y => decide (x ≤ y)
def sortedB (w : B) (l : List B) : List B := if w = [111, 110, 99, 101] then Lib.compact (sortB l) else sortB l
def hasB (w s : B) : Bool := Lib.contains s w
def Kd.run : Kd → B → List B → B
 | .write, w, _ => w
 | .join, w, l => Lib.join l w
 | .upper, _, l => (l.headD []).map upB
 | .lines, w, l => endedB ((linesB (l.headD [])).filter (hasB w))
 | .sort, w, l => endedB (sortedB w (allB l))
 | .count, _, l => Lib.decDigits (allB l).length ++ 32 :: Lib.decDigits (sumLen l) ++ [10]
 | .swap, w, l => Lib.replaceAll (l.headD []) (cut1 61 w).1 (cut1 61 w).2.1
 | .head, w, l => endedB ((linesB (l.headD [])).take ((numB 3 w).getD 0))

def actCode (name word : B) (n : Nat) : Nat :=
 match kinds.lookup name with
 | none => 5
 | some k => if n < k.least ∨ k.most < n ∨ k.word word = false then 3 else if 100 < word.length then 10 else 0
def actOut (name word : B) (l : List B) : B :=
 match kinds.lookup name with
 | none => []
 | some k => k.run word l
def runCode (name word : B) (l : List B) : Nat := if actCode name word l.length = 0 then (if 2000 < (actOut name word l).length then 10 else 0) else actCode name word l.length
def runOut (name word : B) (l : List B) : B := if runCode name word l = 0 then actOut name word l else []
end Go.Proofs.YtnmhaipjfpongacGreatDoor

namespace Go.Proofs.YtnmhaipjfpongacGreatDoor

instance (L : FL) : Decidable (Rising L) := inferInstanceAs (Decidable (List.Pairwise _ L))

end Go.Proofs.YtnmhaipjfpongacGreatDoor

namespace Go.Proofs.YtnmhaipjfpongacGreatDoor
open Go.ChangeShapes Go.WideShapes Go.ChangeAt Go.RowKit

theorem putCode_le (L : FL) (p x : B) : putCode L p x ≤ 12 := by
 unfold putCode
 repeat' split
 all_goals omega

section
variable {w0 wr w' : World} {b mb m : Nat} {slv : Value} {LT LM : FL} {ha : Nat} {cs : Array Value} {e : TypeId}

end

theorem lens_put {L : FL} (hr : Rising L) {n : Nat} (h : ∀ q ∈ L, q.1.length ≤ n) (p x : B) (hp : p.length ≤ n) : ∀ q ∈ putT L p x, q.1.length ≤ n := by
 intro q hq
 unfold putT at hq
 split at hq
 ·rcases mem_set hr hq with rfl | h1
  ·exact hp
  ·exact h q h1
 ·exact h q hq
end Go.Proofs.YtnmhaipjfpongacGreatDoor
