/- Texts of this seat laid together for one claim: V3, V4, Sh3, V5, V6. No condition of its own: what each proves stands with its theorems. -/
import Derived.Sort.Walk0
import Derived.Test.YtnmhaipjfpongacGreatDoorSR2
import Derived.Test.YtnmhaipjfpongacGreatDoorSR5
import Derived.Test.YtnmhaipjfpongacGreatDoorSR3
import Derived.Laws.IdiomRangeMap
import Derived.Maps.RangeRun
import Derived.Ground.GgzProg
import Derived.Ground.SlgmProg
import Derived.Shelf.SlIter.Nil
import Derived.Shelf.SortM.Plain
import Derived.Shelf.SortM.SortNone
import Derived.Test.YtnmhaipjfpongacGreatDoorProg
namespace Go.Proofs.YtnmhaipjfpongacGreatDoor
open Go.ChangeShapes Go.WideShapes Go.ChangeAt Go.RowKit

structure TreeAt (w : World) (b mb : Nat) (L : FL) : Prop where
 cells : w.heap[b]? = some (.cells #[.map (some mb)] 173 (0, 0))
 map : KMap .string S S w mb L

theorem TreeAt.later {p : Nat → Prop} {w w' : World} {b mb : Nat} {L : FL} (h : TreeAt w b mb L) (ho : Only p w w') (h1 : ¬ p b) (h2 : ¬ p mb) : TreeAt w' b mb L :=
 ⟨ho.heapOf h.cells h1, h.map.later ho h2⟩
theorem TreeAt.ext {w w' : World} {b mb : Nat} {L : FL} (h : TreeAt w b mb L) (ho : Ext w w') : TreeAt w' b mb L := h.later ho (fun h => h) (fun h => h)
theorem TreeAt.ne {w : World} {b mb : Nat} {L : FL} (h : TreeAt w b mb L) : b ≠ mb := heap_ne_map h.cells h.map
theorem TreeAt.mapCell {w : World} {b mb : Nat} {L : FL} (h : TreeAt w b mb L) : w.cell? ⟨b, 0, none⟩ = some (.map (some mb)) := (cell_of_heap h.cells 0).trans rfl
theorem TreeAt.stores {w w' : World} {b mb : Nat} {L L' : FL} (h : TreeAt w b mb L) (ho : Only (fun i => i = mb) w w') (hm : KMap .string S S w' mb L') : TreeAt w' b mb L' :=
 ⟨ho.heapOf h.cells h.ne, hm⟩

theorem treeNew_any (w : World) :
  Calls Tryz.prog 91 #[] w fun e w' => e = .returned (.pointer (some ⟨w.heap.size + 1, 0, none⟩)) ∧ TreeAt w' (w.heap.size + 1) w.heap.size [] ∧ Ext w w' ∧ w'.heap.size = w.heap.size + 2 := by
 have hmm := @run_makeMap Tryz.prog
 go_enter Tryz.func91, Tryz.ntmps91
 go_wp2
 go_ret
 refine ⟨rfl, ⟨?_, (KMap.made w .string S S).later (Only.alloc (fun _ => False) _ _) (fun h => h)⟩, (Only.alloc _ _ _).thenAlloc _, by simp⟩
 simpa using (MapKept.heap_alloc (w.alloc (.map #[] 0)) (.cells #[.map (some w.heap.size)] 173 (0, 0))).1

theorem treeGet_any (w : World) (b mb : Nat) (L : FL) (p : B) (h : TreeAt w b mb L) :
  Calls Tryz.prog 42 #[.pointer (some ⟨b, 0, none⟩), S p] w fun e w' => e = .returned (.tuple #[S ((L.lookup p).getD []), .bool (L.lookup p).isSome]) ∧ w = w' := by
 have c0 := h.mapCell
 have hlook := KMap.look (P := Tryz.prog) keyOk_str h.map Tryz.underlying171 Tryz.underlying9 (zeroStr w) p
 clear h
 cases hk : L.lookup p
 all_goals
  simp only [hk] at hlook
  clear hk
  go_enter Tryz.func42, Tryz.ntmps42
  go_wp2_with fail
  go_ret2
  exact ⟨rfl, rfl⟩

set_option maxRecDepth 100000 in
theorem treeRemove_any (w : World) (b mb : Nat) (L : FL) (p : B) (a : Addr) (h : TreeAt w b mb L) (he : w.cell? ⟨1, 0, none⟩ = some (errV a)) :
  Calls Tryz.prog 37 #[.pointer (some ⟨b, 0, none⟩), S p] w fun e w' => e = .returned (if (L.lookup p).isSome then .nilIface else errV a) ∧ TreeAt w' b mb (delT L p) ∧ Only (fun i => i = mb) w w' := by
 have c0 := h.mapCell
 have hlook := KMap.look (P := Tryz.prog) keyOk_str h.map Tryz.underlying171 Tryz.underlying9 (zeroStr w) p
 cases hk : L.lookup p with
 | none =>
  simp only [hk] at hlook
  have e1 : delT L p = L := filter_of_lookup_none hk
  rw [e1]
  have H := Lib.hid h
  clear hk h e1
  go_enter Tryz.func37, Tryz.ntmps37
  go_wp2_with fail
  go_ret
  exact ⟨rfl, H.out, Only.refl _ _⟩
 | some x =>
  simp only [hk] at hlook
  obtain ⟨w1, hrun, hm1, ho1, _⟩ := KMap.drop (P := Tryz.prog) keyOk_str h.map Tryz.underlying171 Tryz.underlying9 p 0
  have H := Lib.hid h
  clear hk h
  go_enter Tryz.func37, Tryz.ntmps37
  go_wp2_with fail
  go_ret
  exact ⟨rfl, H.out.stores ho1 hm1, ho1⟩

theorem prefix_take (p s : B) : p.isPrefixOf s = (decide (p.length ≤ s.length) && (s.take p.length == p)) := by
 rw [Bool.eq_iff_iff, List.isPrefixOf_iff_prefix, List.prefix_iff_eq_take]
 constructor
 ·intro h
  have := congrArg List.length h
  rw [List.length_take] at this
  simp [← h]; omega
 ·intro h
  simp at h
  exact h.2.symm

set_option maxHeartbeats 1000000 in
theorem hasPrefixL_any (w : World) (s p : B) : Calls Tryz.prog 179 #[S s, S p] w fun e w' => e = .returned (.bool (p.isPrefixOf s)) ∧ w = w' := by
 rw [prefix_take]
 cases h1 : decide (p.length ≤ s.length) with
 | false =>
  have hz : decide ((p.length : Int) ≤ (s.length : Int)) = false := decide_eq_false (by have := of_decide_eq_false h1; omega)
  have hz1 : ¬ ((p.length : Int) ≤ (s.length : Int)) := of_decide_eq_false hz
  clear h1
  go_enter Tryz.func179, Tryz.ntmps179
  go_wp2_with fail
  go_ret
  exact ⟨rfl, rfl⟩
 | true =>
  have hz : decide ((p.length : Int) ≤ (s.length : Int)) = true := decide_eq_true (by have := of_decide_eq_true h1; omega)
  have hz1 : (p.length : Int) ≤ (s.length : Int) := of_decide_eq_true hz
  have hm := ba_mid s 0 p.length
  rw [List.drop_zero] at hm
  cases h2 : (s.take p.length == p)
  all_goals
   clear h1
   go_enter Tryz.func179, Tryz.ntmps179
   go_wp2_with fail
   go_ret
   exact ⟨rfl, rfl⟩
theorem hasPrefix_any (w : World) (s p : B) : Calls Tryz.prog 113 #[S s, S p] w fun e w' => e = .returned (.bool (p.isPrefixOf s)) ∧ w = w' := by
 have H := Lib.hid (hasPrefixL_any w s p)
 generalize p.isPrefixOf s = r at H
 go_enter Tryz.func113, Tryz.ntmps113
 go_wp2_with (go_at_call 179; refine H.out.mono ?_; rintro e w1 ⟨rfl, rfl⟩)
 go_ret
 exact ⟨rfl, rfl⟩

end Go.Proofs.YtnmhaipjfpongacGreatDoor

namespace Go.Proofs.YtnmhaipjfpongacGreatDoor
open Go.ChangeShapes Go.WideShapes Go.ChangeAt Go.RowKit
open Go.MapKept (Stamped)
open Go.ChangeMaps (setBlock)

def errC (P : Nat → Addr) (c : Nat) : Value := if c = 0 then .nilIface else errV (P (c - 1))

def keyB : Value → B
 | .string s => s.data.toList
 | _ => []

def near (p s : B) : Bool := aboveB p s || aboveB s p

theorem clash_of {es : Array MapEntry} {L : FL} {p : B} (hp : (es.toList.map fun e => (e.key, e.val)).Perm (L.map fun q => (S q.1, S q.2))) : (es.toList.any fun e => near p (keyB e.key)) = clash L p := by
 have h1 : (es.toList.map fun e => keyB e.key).Perm (L.map (·.1)) := by
  have h1 := hp.map (fun q : Value × Value => keyB q.1)
  rw [List.map_map, List.map_map] at h1
  have e2 : ((fun q : Value × Value => keyB q.1) ∘ fun p : B × B => (S p.1, S p.2)) = (·.1) := by
   funext q
   simp [keyB]
  rw [e2] at h1
  exact h1
 have e1 : (es.toList.any fun e => near p (keyB e.key)) = (es.toList.map fun e => keyB e.key).any (near p) := by rw [List.any_map]; rfl
 have e2 : clash L p = (L.map (·.1)).any (near p) := by rw [List.any_map]; rfl
 rw [e1, e2, Bool.eq_iff_iff, List.any_eq_true, List.any_eq_true]
 constructor
 ·rintro ⟨x, hx, h⟩; exact ⟨x, h1.mem_iff.1 hx, h⟩
 ·rintro ⟨x, hx, h⟩; exact ⟨x, h1.mem_iff.2 hx, h⟩

theorem keyOf_entry {es : Array MapEntry} {L : FL} (hp : (es.toList.map fun e => (e.key, e.val)).Perm (L.map fun q => (S q.1, S q.2))) {e : MapEntry} (he : e ∈ es.toList) : ∃ q ∈ L, e.key = S q.1 ∧ e.val = S q.2 := by
 have := hp.mem_iff.1 (List.mem_map.2 ⟨e, he, rfl⟩)
 obtain ⟨q, hq, e1⟩ := List.mem_map.1 this
 exact ⟨q, hq, (Prod.mk.inj e1).1.symm, (Prod.mk.inj e1).2.symm⟩

theorem ba_slash (a : B) : ((⟨a.toArray⟩ : ByteArray) ++ ⟨#[47]⟩) = ⟨(a ++ [47]).toArray⟩ := by
 rw [show (⟨#[47]⟩ : ByteArray) = ⟨([47] : B).toArray⟩ from rfl]
 exact ba_app a [47]

theorem next_step {P : Program} {w0 w : World} (hx : Ext w0 w) {ty : TypeId} {r bm clock : Nat} (hr0 : w0.heap.size ≤ r) {seen : Array Nat} {es : Array MapEntry} (hr : w.heap[r]? = some (.mapIter (some bm) clock seen clock)) (hb : w.heap[bm]? = some (.map es clock)) (hbr : bm ≠ r) (hst : Stamped es clock) :
  ((leftOf es seen).size = 0 ∧ (Instr.next (.pointer (some ⟨r, 0, none⟩)) false ty).run P w = .ok (.tuple #[.bool false]) w) ∨
  ∃ e ∈ (leftOf es seen).toList, ∃ w1 : World, Ext w0 w1 ∧ w1.heap[r]? = some (.mapIter (some bm) clock (seen.push e.born) clock) ∧ w1.heap[bm]? = some (.map es clock) ∧
   (Instr.next (.pointer (some ⟨r, 0, none⟩)) false ty).run P w = .ok (.tuple #[.bool true, e.key, e.val]) w1 ∧ (Instr.entry (.pointer (some ⟨r, 0, none⟩))).run P w1 = .ok (.tuple #[e.key, e.val]) w1 := by
 rcases run_next_at (P := P) w ty r bm clock clock seen es clock hr hb hst.1 (Nat.le_refl _) with h | ⟨e, he, w1, hw, hrun⟩
 ·exact .inl h
 ·have hx1 : Ext w0 w1 := by rcases hw with rfl | rfl; exact hx; exact hx.thenDrew
  have hh1 : w1.heap = w.heap := by rcases hw with rfl | rfl <;> rfl
  have hlr : r < w1.heap.size := by rw [hh1]; exact lt_of_heap hr
  have hr1 : (setBlock w1 r (.mapIter (some bm) clock (seen.push e.born) clock)).heap[r]? = some (.mapIter (some bm) clock (seen.push e.born) clock) := by
   simp [setBlock, hlr]
  have hb1 : (setBlock w1 r (.mapIter (some bm) clock (seen.push e.born) clock)).heap[bm]? = some (.map es clock) := by
   have : w1.heap[bm]? = some (.map es clock) := by rw [hh1]; exact hb
   simp only [setBlock]
   rw [Array.getElem?_setIfInBounds_ne (Ne.symm hbr)]
   exact this
  refine .inr ⟨e, he, _, ?_, hr1, hb1, hrun, run_entry_at _ r bm clock seen es clock e hr1 hb1 (mem_left he).1 hst.2.1⟩
  exact hx1.trans (only_setBlock w1 r _) (fun _ _ h => h) (fun i hi h => absurd h (by omega))

theorem iterSeen_of {w : World} {r : Nat} {a : Option Nat} {b c : Nat} {s : Array Nat} (h : w.heap[r]? = some (.mapIter a b s c)) : w.iterSeen r = s := by
 unfold World.iterSeen
 rw [h]

def PutIs (w : World) (P : Nat → Addr) (b mb : Nat) (L : FL) (p x : B) (e : Ending) (w' : World) : Prop :=
 e = .returned (errC P (putCode L p x)) ∧ TreeAt w' b mb (putT L p x) ∧ Only (fun i => i = mb) w w'

theorem PutIs.fails {w w' : World} {P : Nat → Addr} {b mb : Nat} {L : FL} {p x : B} {c : Nat} (h : TreeAt w b mb L) (hc : putCode L p x = c) (h0 : c ≠ 0) (ho : Ext w w') : PutIs w P b mb L p x (.returned (errV (P (c - 1)))) w' := by
 refine ⟨by rw [hc]; unfold errC; rw [if_neg h0], ?_, Only.of_ext ho⟩
 have : putT L p x = L := by unfold putT; rw [hc, if_neg h0]
 rw [this]
 exact h.ext ho

set_option maxRecDepth 100000 in
set_option maxHeartbeats 1000000 in
theorem put_bad (w : World) (P : Nat → Addr) (b mb : Nat) (L : FL) (p x : B) (h : TreeAt w b mb L) (hs : Errs w P [1, 3, 6, 7]) (hm : HasMax w) (hp : p.length ≤ 999999) (hk : pathOk p = false) :
  Calls Tryz.prog 38 #[.pointer (some ⟨b, 0, none⟩), S p, S x] w (PutIs w P b mb L p x) := by
 have HC := check_any w p (P 3) (by omega) hm (hs.var 3 _ (by decide) rfl)
 rw [hk, if_neg (by decide)] at HC
 have HC := Lib.hid HC
 have hcode : putCode L p x = 4 := by unfold putCode; rw [hk, if_neg (by decide)]
 have HK := Lib.hid hcode
 have H := Lib.hid h
 clear h hs hm hp hk hcode
 go_enter Tryz.func38, Tryz.ntmps38
 go_wp2_with (go_at_call 112; refine HC.out.mono ?_; rintro e w1 ⟨rfl, ho⟩)
 go_ret
 exact PutIs.fails H.out HK.out (by decide) ho

set_option maxRecDepth 100000 in
set_option maxHeartbeats 1000000 in
theorem put_long (w : World) (P : Nat → Addr) (b mb : Nat) (L : FL) (p x : B) (h : TreeAt w b mb L) (hs : Errs w P [1, 3, 6, 7]) (hm : HasMax w) (hp : p.length ≤ 999999) (hk : pathOk p = true) (hx : 2000 < x.length) :
  Calls Tryz.prog 38 #[.pointer (some ⟨b, 0, none⟩), S p, S x] w (PutIs w P b mb L p x) := by
 have HC := check_any w p (P 3) (by omega) hm (hs.var 3 _ (by decide) rfl)
 rw [hk, if_pos rfl] at HC
 have HC := Lib.hid HC
 have hcode : putCode L p x = 2 := by unfold putCode; rw [hk, if_pos rfl, if_pos hx]
 have HK := Lib.hid hcode
 have H := Lib.hid h
 have HE := Lib.hid (hs.var 1 _ (by decide) rfl)
 have hz : (2000 : Int) < (x.length : Int) := by omega
 clear h hs hm hp hk hcode hx
 go_enter Tryz.func38, Tryz.ntmps38
 go_wp2_with fail
 refine HC.out.mono ?_
 rintro e w1 ⟨rfl, ho⟩
 have hE := ho.cellOf HE.out (fun h => h)
 have HO := Lib.hid ho
 clear ho
 go_wp2_with fail
 go_ret
 exact PutIs.fails H.out HK.out (by decide) HO.out
end Go.Proofs.YtnmhaipjfpongacGreatDoor

namespace Go.Proofs
open Go.Shelf
def Tryz.keys117_ren : Go.Shelf.Ren := ⟨fun | 7 => 117 | 10 => 183 | n => n, fun | 23 => 171 | 26 => 9 | 3 => 9 | 28 => 179 | 0 => 0 | 27 => 178 | 33 => 164 | 4 => 4 | n => n, fun | n => n⟩
theorem Tryz.keys117 : Go.Proofs.SlLaysZ.n7 Tryz.prog Tryz.keys117_ren := {
 mixed := by kernel_rfl
 f7 := ⟨Tryz.f117.name, by decide, Tryz.func117.trans (congrArg some (by kernel_rfl))⟩
 f10 := ⟨Tryz.f183.name, by decide, Tryz.func183.trans (congrArg some (by kernel_rfl))⟩
 t0 := Tryz.underlying0
 a0 := Tryz.isAgg0
 z0 := Tryz.sizeOf0
 v0 := Tryz.zeroValue0
 t4 := Tryz.underlying4
 a4 := Tryz.isAgg4
 z4 := Tryz.sizeOf4
 v4 := Tryz.zeroValue4
 t23 := Tryz.underlying171
 a23 := Tryz.isAgg171
 z23 := Tryz.sizeOf171
 v23 := Tryz.zeroValue171
 t26 := Tryz.underlying9
 a26 := Tryz.isAgg9
 z26 := Tryz.sizeOf9
 v26 := Tryz.zeroValue9
 t27 := Tryz.underlying178
 a27 := Tryz.isAgg178
 z27 := Tryz.sizeOf178
 v27 := Tryz.zeroValue178
 t28 := Tryz.underlying179
 a28 := Tryz.isAgg179
 z28 := Tryz.sizeOf179
 v28 := Tryz.zeroValue179
 t33 := Tryz.underlying164
 a33 := Tryz.isAgg164
 z33 := Tryz.sizeOf164
 v33 := Tryz.zeroValue164 }
def Tryz.sorted116_ren : Go.Shelf.Ren := ⟨fun | 6 => 116 | 8 => 182 | 9 => 115 | 11 => 242 | 13 => 181 | 12 => 180 | 23 => 240 | 24 => 241 | 14 => 231 | 15 => 232 | 16 => 233 | 17 => 234 | 18 => 235 | 19 => 236 | 20 => 237 | 21 => 238 | 22 => 239 | 25 => 289 | 26 => 290 | 27 => 291 | 28 => 292 | 29 => 293 | 30 => 294 | 31 => 317 | n => n, fun | 26 => 9 | 28 => 179 | 24 => 53 | 0 => 0 | 3 => 3 | 37 => 248 | 48 => 307 | 50 => 309 | 4 => 4 | 40 => 301 | 39 => 300 | 45 => 182 | 5 => 5 | 9 => 9 | 51 => 347 | 55 => 351 | 57 => 362 | 58 => 157 | 33 => 164 | n => n, fun | n => n⟩
theorem Tryz.sorted116 : Go.Proofs.SlLaysZ.n6 Tryz.prog Tryz.sorted116_ren := {
 mixed := by kernel_rfl
 f6 := ⟨Tryz.f116.name, by decide, Tryz.func116.trans (congrArg some (by kernel_rfl))⟩
 f8 := ⟨Tryz.f182.name, by decide, Tryz.func182.trans (congrArg some (by kernel_rfl))⟩
 f11 := ⟨Tryz.f242.name, by decide, Tryz.func242.trans (congrArg some (by kernel_rfl))⟩
 t0 := Tryz.underlying0
 a0 := Tryz.isAgg0
 z0 := Tryz.sizeOf0
 v0 := Tryz.zeroValue0
 t24 := Tryz.underlying53
 a24 := Tryz.isAgg53
 z24 := Tryz.sizeOf53
 v24 := Tryz.zeroValue53
 t26 := Tryz.underlying9
 a26 := Tryz.isAgg9
 z26 := Tryz.sizeOf9
 v26 := Tryz.zeroValue9
 t28 := Tryz.underlying179
 a28 := Tryz.isAgg179
 z28 := Tryz.sizeOf179
 v28 := Tryz.zeroValue179
 i26 := by kernel_rfl }
def Tryz.sort115_ren : Go.Shelf.Ren := ⟨fun | 6 => 115 | 8 => 181 | 9 => 180 | 19 => 240 | 20 => 241 | 21 => 231 | 22 => 232 | 23 => 233 | 24 => 234 | 25 => 235 | 26 => 236 | 27 => 237 | 28 => 238 | 29 => 239 | 36 => 289 | 31 => 290 | 32 => 291 | 37 => 292 | 38 => 293 | 39 => 294 | 41 => 317 | n => n, fun | 27 => 53 | 29 => 9 | 3 => 3 | 32 => 248 | 26 => 53 | 0 => 0 | 44 => 307 | 46 => 309 | 4 => 4 | 36 => 301 | 35 => 300 | 41 => 182 | 5 => 5 | 9 => 9 | 53 => 347 | 57 => 351 | 63 => 362 | 64 => 157 | n => n, fun | n => n⟩
theorem Tryz.sort115 : Go.Proofs.SlLaysM.n6 Tryz.prog Tryz.sort115_ren := {
 mixed := by kernel_rfl
 f6 := ⟨Tryz.f115.name, by decide, Tryz.func115.trans (congrArg some (by kernel_rfl))⟩
 f8 := Tryz.func181.trans (congrArg some (by kernel_rfl))
 f9 := ⟨Tryz.f180.name, by decide, Tryz.func180.trans (congrArg some (by kernel_rfl))⟩
 f19 := Tryz.func240.trans (congrArg some (by kernel_rfl))
 f20 := Tryz.func241.trans (congrArg some (by kernel_rfl))
 f21 := ⟨Tryz.f231.name, by decide, Tryz.func231.trans (congrArg some (by kernel_rfl))⟩
 f22 := ⟨Tryz.f232.name, by decide, Tryz.func232.trans (congrArg some (by kernel_rfl))⟩
 f23 := ⟨Tryz.f233.name, by decide, Tryz.func233.trans (congrArg some (by kernel_rfl))⟩
 f24 := ⟨Tryz.f234.name, by decide, Tryz.func234.trans (congrArg some (by kernel_rfl))⟩
 f25 := ⟨Tryz.f235.name, by decide, Tryz.func235.trans (congrArg some (by kernel_rfl))⟩
 f26 := ⟨Tryz.f236.name, by decide, Tryz.func236.trans (congrArg some (by kernel_rfl))⟩
 f27 := ⟨Tryz.f237.name, by decide, Tryz.func237.trans (congrArg some (by kernel_rfl))⟩
 f28 := ⟨Tryz.f238.name, by decide, Tryz.func238.trans (congrArg some (by kernel_rfl))⟩
 f29 := ⟨Tryz.f239.name, by decide, Tryz.func239.trans (congrArg some (by kernel_rfl))⟩
 f31 := Tryz.func290.trans (congrArg some (by kernel_rfl))
 f32 := Tryz.func291.trans (congrArg some (by kernel_rfl))
 f36 := ⟨Tryz.f289.name, by decide, Tryz.func289.trans (congrArg some (by kernel_rfl))⟩
 f37 := ⟨Tryz.f292.name, by decide, Tryz.func292.trans (congrArg some (by kernel_rfl))⟩
 f38 := ⟨Tryz.f293.name, by decide, Tryz.func293.trans (congrArg some (by kernel_rfl))⟩
 f39 := ⟨Tryz.f294.name, by decide, Tryz.func294.trans (congrArg some (by kernel_rfl))⟩
 f41 := ⟨Tryz.f317.name, by decide, Tryz.func317.trans (congrArg some (by kernel_rfl))⟩
 t0 := Tryz.underlying0
 a0 := Tryz.isAgg0
 z0 := Tryz.sizeOf0
 v0 := Tryz.zeroValue0
 t3 := Tryz.underlying3
 a3 := Tryz.isAgg3
 z3 := Tryz.sizeOf3
 v3 := Tryz.zeroValue3
 t4 := Tryz.underlying4
 a4 := Tryz.isAgg4
 z4 := Tryz.sizeOf4
 v4 := Tryz.zeroValue4
 t5 := Tryz.underlying5
 a5 := Tryz.isAgg5
 z5 := Tryz.sizeOf5
 v5 := Tryz.zeroValue5
 t9 := Tryz.underlying9
 a9 := Tryz.isAgg9
 z9 := Tryz.sizeOf9
 v9 := Tryz.zeroValue9
 t26 := Tryz.underlying53
 a26 := Tryz.isAgg53
 z26 := Tryz.sizeOf53
 v26 := Tryz.zeroValue53
 t27 := Tryz.underlying53
 a27 := Tryz.isAgg53
 z27 := Tryz.sizeOf53
 v27 := Tryz.zeroValue53
 t29 := Tryz.underlying9
 a29 := Tryz.isAgg9
 z29 := Tryz.sizeOf9
 v29 := Tryz.zeroValue9
 t32 := Tryz.underlying248
 a32 := Tryz.isAgg248
 z32 := Tryz.sizeOf248
 v32 := Tryz.zeroValue248
 t35 := Tryz.underlying300
 a35 := Tryz.isAgg300
 z35 := Tryz.sizeOf300
 v35 := Tryz.zeroValue300
 t36 := Tryz.underlying301
 a36 := Tryz.isAgg301
 z36 := Tryz.sizeOf301
 v36 := Tryz.zeroValue301
 t41 := Tryz.underlying182
 a41 := Tryz.isAgg182
 z41 := Tryz.sizeOf182
 v41 := Tryz.zeroValue182
 t44 := Tryz.underlying307
 a44 := Tryz.isAgg307
 z44 := Tryz.sizeOf307
 v44 := Tryz.zeroValue307
 t46 := Tryz.underlying309
 a46 := Tryz.isAgg309
 z46 := Tryz.sizeOf309
 v46 := Tryz.zeroValue309
 t53 := Tryz.underlying347
 a53 := Tryz.isAgg347
 z53 := Tryz.sizeOf347
 v53 := Tryz.zeroValue347
 t57 := Tryz.underlying351
 a57 := Tryz.isAgg351
 z57 := Tryz.sizeOf351
 v57 := Tryz.zeroValue351
 t63 := Tryz.underlying362
 a63 := Tryz.isAgg362
 z63 := Tryz.sizeOf362
 v63 := Tryz.zeroValue362
 t64 := Tryz.underlying157
 a64 := Tryz.isAgg157
 z64 := Tryz.sizeOf157
 v64 := Tryz.zeroValue157 }
open Go.RowKit Go.Maps Go.Sort Go.Shelf


theorem Tryz.sorts116 (m : Nat) : AnyZ.SortsIn Tryz.prog Tryz.sorted116_ren Fence.wide m :=
  ⟨fun blk off cap ss W hH hblk hsz => callsIn_wide.2 (AnyM.slices_Sort_string Tryz.sort115 blk off cap ss W hH hblk hsz),
   fun p cap W => callsIn_wide.2 (AnyM.slices_Sort_string_none Tryz.sort115 p cap W)⟩

theorem Tryz.maps_Keys_117 (mb : Option Nat) (W : World) : CallsIn Fence.wide 5 Tryz.prog 117 #[.map mb] W fun e w' => e = .returned (.func (.func 183) #[] #[.pointer (some ⟨W.heap.size, 0, none⟩)]) ∧ w' = W.alloc (.cells #[.map mb] 171) :=
 AnyZ.keys_in Tryz.keys117 Fence.wide 5 trivial rfl mb W

set_option maxHeartbeats 1000000 in
theorem Tryz.slices_Sorted_keys_116_117 {H : Type} (b nn : Nat) (D0 : DataW H) (R : Value → Option (DataW H × List MemPlace)) (w : World) (hown : w.ownsMap Tryz.prog 9 R b nn D0) (hmax : Maps.size D0 ≤ maxLen) (hbytes : Maps.size D0 * 16 ≤ 140737488355328) :
  CallsIn Fence.wide 5 Tryz.prog 116 #[.func (.func 183) #[] #[.pointer (some ⟨w.heap.size, 0, none⟩)]] (w.alloc (.cells #[.map (some b)] 171)) fun e w' => ∃ (v : Value) (ss : List (List UInt8)), e = .returned v ∧ ss.Perm (strKeys D0) ∧
   w'.ownsRow (w.alloc (.cells #[.map (some b)] 171)).heap.size 9 1 v ss.length ((ss.mergeSort (fun x y => decide (x ≤ y))).map encStr) ∧ (v = .slice none 0 0 ↔ ss = []) ∧ Below (w.alloc (.cells #[.map (some b)] 171)).heap.size (w.alloc (.cells #[.map (some b)] 171)) w' := by
 have hbl := hown.lt
 have hseq : SeqGives Fence.wide 2 Tryz.prog 183 #[.pointer (some ⟨w.heap.size, 0, none⟩)] encStr (fun ss => ss.Perm (strKeys D0)) (Maps.size D0) (w.alloc (.cells #[.map (some b)] 171)) :=
  AnyZ.keys_gives (ρ := Tryz.keys117_ren) { Tryz.keys117 with } Fence.wide _ trivial rfl (by omega) w.heap.size b nn D0 _ (by simp) (by simp) (by
   obtain ⟨es, clock, hb, Ft, hs, hD⟩ := hown
   exact ⟨es, clock, (Below.heap_alloc _ _ b hbl).trans hb, Ft, hs, hD⟩)
 exact AnyZ.sorted_in Tryz.sorted116 Fence.wide 5 trivial trivial trivial trivial rfl (by omega) (Tryz.sorts116 _) (enters_of Tryz.func115 (by kernel_rfl) rfl) 183 #[.pointer (some ⟨w.heap.size, 0, none⟩)] trivial (enters_of Tryz.func183 (by kernel_rfl) rfl) _ _ hmax hbytes _ hseq

end Go.Proofs

namespace Go.Proofs.YtnmhaipjfpongacGreatDoor
open Go.ChangeShapes Go.WideShapes Go.ChangeAt Go.RowKit

abbrev unitR : Value → Option (DataW Unit × List MemPlace) := fun _ => some (.nil, [])
def keyStr : Value → B
 | .string s => s.data.toList
 | _ => []

theorem perm_insert {H : Type} (x : Lit × DataW H) : ∀ l, (DataW.insert x l).Perm (x :: l)
 | [] => List.Perm.refl _
 | y :: r => by
  unfold DataW.insert
  split
  ·exact List.Perm.refl _
  ·exact ((perm_insert x r).cons y).trans (List.Perm.swap _ _ _)

theorem perm_inserts {H : Type} : ∀ l : List (Lit × DataW H), (l.foldr DataW.insert []).Perm l
 | [] => List.Perm.refl _
 | x :: r => (perm_insert x _).trans ((perm_inserts r).cons x)

theorem ownsMap_of {P : Program} {k : TypeId} (hk : P.underlying k = some .string) {w : World} {mb : Nat} {L : FL} (h : KMap .string S S w mb L) (hl : ∀ q ∈ L, q.1.length ≤ 1000000) (hn : L.length ≤ 1000000) :
  ∃ D0 : DataW Unit, w.ownsMap P k unitR mb L.length D0 ∧ Maps.size D0 = L.length ∧ (strKeys D0).Perm (L.map (·.1)) := by
 obtain ⟨es, clock, hb, hp, _, _, hst⟩ := h
 have hsz : es.size = L.length := by simpa using hp.length_eq
 have hkey : ∀ e ∈ es.toList, ∃ x : B, e.key = S x ∧ x.length ≤ 1000000 := fun e he => by
  have := hp.mem_iff.1 (List.mem_map.2 ⟨e, he, rfl⟩)
  obtain ⟨q, hq, e1⟩ := List.mem_map.1 this
  exact ⟨q.1, (Prod.mk.inj e1).1.symm, hl q hq⟩
 have hrd : ∀ e ∈ es.toList, WideElems.rd P k unitR e = some (.string (keyStr e.key), .nil) := fun e he => by
  obtain ⟨x, hx, hxl⟩ := hkey e he
  have hm : (⟨x.toArray⟩ : ByteArray).size ≤ maxLen := by
   show x.toArray.size ≤ maxLen
   rw [List.size_toArray]
   unfold maxLen
   omega
  unfold WideElems.rd
  rw [hx]
  simp [keyOf, hk, mapKey, keyStr, hm]
 have hrg : es.toList.map (WideElems.rg P k unitR) = es.toList.map fun e => ((.string (keyStr e.key), .nil) : Lit × DataW Unit) :=
  List.map_congr_left fun e he => by unfold WideElems.rg; rw [hrd e he]; rfl
 refine ⟨.map ((es.toList.map (WideElems.rg P k unitR)).foldr DataW.insert []), ⟨es, clock, hb, ⟨?_, hst, fun e he => ⟨_, hrd e he⟩⟩, by omega, rfl⟩, ?_, ?_⟩
 ·unfold maxLen; omega
 ·show (List.foldr DataW.insert [] _).length = _
  rw [(perm_inserts _).length_eq]
  simpa using hsz
 ·show (List.map _ (List.foldr DataW.insert [] _)).Perm _
  refine ((perm_inserts _).map _).trans ?_
  rw [hrg, List.map_map]
  have h1 := hp.map (fun q : Value × Value => keyStr q.1)
  rw [List.map_map, List.map_map] at h1
  have e2 : ((fun q : Value × Value => keyStr q.1) ∘ fun p : B × B => (S p.1, S p.2)) = (·.1) := by
   funext q
   simp [keyStr]
  rw [e2] at h1
  exact h1

theorem sortedKeys_any (w : World) (mb : Nat) (L : FL) (h : KMap .string S S w mb L) (hr : Rising L) (hl : ∀ q ∈ L, q.1.length ≤ 1000000) (hn : L.length ≤ 1000000) :
  Calls Tryz.prog 116 #[.func (.func 183) #[] #[.pointer (some ⟨w.heap.size, 0, none⟩)]] (w.alloc (.cells #[.map (some mb)] 171)) fun e w' =>
   ∃ v, e = .returned v ∧ Rd S w' v (L.map (·.1)) ∧ Ext w w' ∧ ∀ k, v.ownBlock = some k → ∃ cur, w'.heap[k]? = some (.cells cur 9 (0, 0)) := by
 obtain ⟨D0, hown, hsz, hperm⟩ := ownsMap_of (P := Tryz.prog) (k := 9) Tryz.underlying9 h hl hn
 have := Tryz.slices_Sorted_keys_116_117 mb _ D0 _ w hown (by rw [hsz]; unfold maxLen; omega) (by rw [hsz]; omega)
 refine (callsIn_wide.1 this).mono ?_
 rintro e w' ⟨v, ss, rfl, hss, hrow, _, hbel⟩
 have e1 := sorted_keys hr (hss.trans hperm)
 rw [e1] at hrow
 have e2 : ss.length = (L.map (·.1)).length := by rw [(hss.trans hperm).length_eq]
 rw [e2] at hrow
 refine ⟨v, rfl, Rd.of_row hrow, (Only.alloc _ _ _).then (Only.of_below hbel), fun k hk => ?_⟩
 rcases hrow.2 with ⟨rfl, _⟩ | ⟨g, cap, cur, rfl, _, hh, _⟩
 ·cases hk
 ·cases hk
  exact ⟨cur, hh⟩

theorem paths_any (w : World) (b mb : Nat) (L : FL) (h : TreeAt w b mb L) (hr : Rising L) (hl : ∀ q ∈ L, q.1.length ≤ 1000000) (hn : L.length ≤ 1000000) :
  Calls Tryz.prog 41 #[.pointer (some ⟨b, 0, none⟩)] w fun e w' => ∃ v, e = .returned v ∧ Rd S w' v (L.map (·.1)) ∧ Ext w w' ∧ ∀ k, v.ownBlock = some k → ∃ cur, w'.heap[k]? = some (.cells cur 9 (0, 0)) := by
 have c0 := h.mapCell
 have H1 := Lib.hid (callsIn_wide.1 (Tryz.maps_Keys_117 (some mb) w))
 have H2 := Lib.hid (sortedKeys_any w mb L h.map hr hl hn)
 clear h hr hl hn
 go_enter Tryz.func41, Tryz.ntmps41
 go_wp2_with (go_at_call 117; refine H1.out.mono ?_; rintro e w1 ⟨rfl, rfl⟩)
 go_wp2_with (go_at_call 116; refine H2.out.mono ?_; rintro e w1 ⟨v, rfl, hv, ho, ht⟩)
 go_ret
 exact ⟨v, rfl, hv, ho, ht⟩
end Go.Proofs.YtnmhaipjfpongacGreatDoor

namespace Go.Proofs.YtnmhaipjfpongacGreatDoor
open Go.ChangeShapes Go.WideShapes Go.ChangeAt Go.RowKit

theorem PutIs.done {w W w' : World} {P : Nat → Addr} {b mb : Nat} {L : FL} {p x : B} (_ : TreeAt w b mb L) (hr : Rising L) (hc : putCode L p x = 0) (hE : Ext w W) (hW : TreeAt W b mb L) (hm : KMap .string S S w' mb ((p, x) :: L.filter fun q => !(q.1 == p))) (ho : Only (fun i => i = mb) W w') :
  PutIs w P b mb L p x (.returned .nilIface) w' := by
 have e1 : putT L p x = setT L p x := by unfold putT; rw [if_pos hc]
 refine ⟨by rw [hc]; rfl, ?_, Only.after hE ho⟩
 rw [e1]
 exact hW.stores ho (hm.perm (set_perm hr p x))

set_option maxRecDepth 100000 in
set_option maxHeartbeats 4000000 in
theorem put_main (w : World) (P : Nat → Addr) (b mb : Nat) (L : FL) (p x : B) (h : TreeAt w b mb L) (hf : Fits L) (hs : Errs w P [1, 3, 6, 7]) (hm : HasMax w) (hp : p.length ≤ 999999) (hk : pathOk p = true) (hx : ¬ 2000 < x.length) (hq : ∀ q ∈ L, q.1.length ≤ 999999) :
  Calls Tryz.prog 38 #[.pointer (some ⟨b, 0, none⟩), S p, S x] w (PutIs w P b mb L p x) := by
 have HC := check_any w p (P 3) (by omega) hm (hs.var 3 _ (by decide) rfl)
 rw [hk, if_pos rfl] at HC
 have HC := Lib.hid HC
 have hcode : putCode L p x = if clash L p then 7 else if (L.lookup p).isNone && decide (60 ≤ L.length) then 8 else 0 := by unfold putCode; rw [hk, if_pos rfl, if_neg hx]
 have HK := Lib.hid hcode
 have H := Lib.hid h
 have HE := Lib.hid (hs.var 6 _ (by decide) rfl)
 have HF := Lib.hid (hs.var 7 _ (by decide) rfl)
 have HQ := Lib.hid hq
 have HFew := Lib.hid hf.few
 have hz : ¬ (2000 : Int) < (x.length : Int) := by omega
 have hbp := ba_slash p
 have hlp : ¬ 9223372036854775807 < p.length + 1 := by omega
 have hf := Lib.hid hf
 clear h hs hm hp hk hcode hx hq
 go_enter Tryz.func38, Tryz.ntmps38
 go_wp2_with fail
 refine HC.out.mono ?_
 rintro e w1 ⟨rfl, ho⟩
 have h1 := H.out.ext ho
 have c0 := h1.mapCell
 obtain ⟨es, clock, hb, hpm, _, _, hst⟩ := h1.map
 have hrg := run_range_map (P := Tryz.prog) w1 171 9 9 mb es clock Tryz.underlying171 hb
 have H1 := Lib.hid h1
 have HB := Lib.hid hb
 have HP := Lib.hid hpm
 have HS := Lib.hid hst
 have HO := Lib.hid ho
 clear h1 hb hpm hst ho
 go_wp2_with fail
 have hmr : mb ≠ w1.heap.size := Nat.ne_of_lt (lt_of_heap HB.out)
 go_loopw [] (fun w' => ∃ seen : Array Nat, Hid (Ext w1 w') ∧ Hid (w'.heap[w1.heap.size]? = some (.mapIter (some mb) clock seen clock)) ∧ Hid (∀ y ∈ es.toList, seen.contains y.born = true → near p (keyB y.key) = false)) (fun w' => (leftOf es (w'.iterSeen w1.heap.size)).size)
 case atStart => exact ⟨#[], Lib.hid (Only.alloc _ _ _), Lib.hid (MapKept.heap_alloc w1 _).1, Lib.hid fun y _ h => by simp at h⟩
 case round =>
  obtain ⟨seen, HX, HR, HN⟩ := hrel
  have law := next_step (P := Tryz.prog) (ty := 0) HX.out (Nat.le_refl _) HR.out (HX.out.heapOf HB.out (fun h => h)) hmr HS.out
  rcases law with ⟨h0, hrun⟩ | ⟨e, he, w3, hx3, hr3, hb3, hrun, hen⟩
  ·have hno : clash L p = false := by
    rw [← clash_of HP.out, List.any_eq_false]
    intro y hy
    rw [HN.out y hy (all_seen es seen h0 y hy)]
    decide
   have hcode := HK.out
   rw [hno, if_neg (by decide)] at hcode
   have hEW : Ext w wr := HO.out.then HX.out
   have hW : TreeAt wr b mb L := H.out.ext hEW
   clear h0 HN hno HR
   have c0W := hW.mapCell
   have hlook := KMap.look (P := Tryz.prog) keyOk_str hW.map Tryz.underlying171 Tryz.underlying9 (zeroStr wr) p
   have hlen := fun ty => MapAt.len (P := Tryz.prog) hW.map Tryz.underlying171 ty
   simp only [List.length_map] at hlen
   have hFull := hEW.cellOf HF.out (fun h => h)
   have HW := Lib.hid hW
   have HEW := Lib.hid hEW
   clear hW hEW hrg c0 HX
   cases hl : L.lookup p with
   | none =>
    simp only [hl] at hlook
    rw [hl] at hcode
    by_cases hfull : 60 ≤ L.length
    ·have hc8 : putCode L p x = 8 := by rw [hcode, if_pos (by simp [hfull])]
     have HC8 := Lib.hid hc8
     have hfz : (60 : Int) ≤ (L.length : Int) := by omega
     clear hcode hc8 hl hfull
     go_wp2_with fail
     go_ret
     exact PutIs.fails H.out HC8.out (by decide) HEW.out
    ·have hc0 : putCode L p x = 0 := by rw [hcode, if_neg (by simp [hfull])]
     have HC0 := Lib.hid hc0
     have hfz : ¬ (60 : Int) ≤ (L.length : Int) := by omega
     clear hcode hc0 hl hfull
     obtain ⟨w4, hrun4, hm4, ho4, _⟩ := KMap.store (P := Tryz.prog) keyOk_str HW.out.map Tryz.underlying171 Tryz.underlying9 p x
     go_wp2_with fail
     go_ret
     exact PutIs.done H.out hf.out.rising HC0.out HEW.out HW.out hm4 ho4
   | some y =>
    simp only [hl] at hlook
    rw [hl] at hcode
    have hc0 : putCode L p x = 0 := by rw [hcode, if_neg (by simp)]
    have HC0 := Lib.hid hc0
    clear hcode hc0 hl
    obtain ⟨w4, hrun4, hm4, ho4, _⟩ := KMap.store (P := Tryz.prog) keyOk_str HW.out.map Tryz.underlying171 Tryz.underlying9 p x
    go_wp2_with fail
    go_ret
    exact PutIs.done H.out hf.out.rising HC0.out HEW.out HW.out hm4 ho4
  ·obtain ⟨q, hqL, hqk, hqv⟩ := keyOf_entry HP.out (mem_left he).1
   have hql := HQ.out q hqL
   rw [hqk, hqv] at hrun hen
   have HE2 := Lib.hid he
   have HQK := Lib.hid hqk
   generalize q.1 = s at hrun hen hql HQK
   generalize q.2 = sv at hrun hen
   have hbs := ba_slash s
   have hls : ¬ 9223372036854775807 < s.length + 1 := by omega
   have hqc : near p s = true → clash L p = true := fun h => by
    rw [← clash_of HP.out, List.any_eq_true]
    exact ⟨e, (mem_left HE2.out).1, by rw [HQK.out]; simpa [keyB] using h⟩
   have HQC := Lib.hid hqc
   have HP1 := fun W => hasPrefix_any W s (p ++ [47])
   have HP2 := fun W => hasPrefix_any W p (s ++ [47])
   have hnear : near p s = ((p ++ [47]).isPrefixOf s || (s ++ [47]).isPrefixOf p) := rfl
   have HNE := Lib.hid hnear
   have HX3 := Lib.hid hx3
   have HR3 := Lib.hid hr3
   have hEW : Ext w w3 := HO.out.then hx3
   clear he hqk hqv hx3 hr3 hb3 hqL hql hqc hnear
   have hExist := hEW.cellOf HE.out (fun h => h)
   have HEW := Lib.hid hEW
   clear hEW
   generalize (p ++ [47]).isPrefixOf s = r1 at HP1 HNE
   generalize (s ++ [47]).isPrefixOf p = r2 at HP2 HNE
   have HP1 := Lib.hid HP1
   have HP2 := Lib.hid HP2
   cases r1 with
   | true =>
    go_wp2_with fail
    refine (HP1.out _).mono ?_
    rintro e1 w4 ⟨rfl, rfl⟩
    go_wp2_with fail
    go_ret
    exact PutIs.fails H.out (by rw [HK.out, if_pos (HQC.out HNE.out)]) (by decide) HEW.out
   | false =>
    cases r2 with
    | true =>
     go_wp2_with fail
     refine (HP1.out _).mono ?_
     rintro e1 w4 ⟨rfl, rfl⟩
     go_wp2_with fail
     refine (HP2.out _).mono ?_
     rintro e1 w4 ⟨rfl, rfl⟩
     go_wp2_with fail
     go_ret
     exact PutIs.fails H.out (by rw [HK.out, if_pos (HQC.out HNE.out)]) (by decide) HEW.out
    | false =>
     go_wp2_with fail
     refine (HP1.out _).mono ?_
     rintro e1 w4 ⟨rfl, rfl⟩
     go_wp2_with fail
     refine (HP2.out _).mono ?_
     rintro e1 w4 ⟨rfl, rfl⟩
     go_wp2_with fail
     go_roundw
     case rel =>
      refine ⟨seen.push e.born, HX3, HR3, Lib.hid fun y hy hc => ?_⟩
      rw [contains_push] at hc
      rcases Bool.or_eq_true _ _ ▸ hc with h1 | h1
      ·exact HN.out y hy h1
      ·have : y = e := born_inj HS.out.2.1 hy (mem_left HE2.out).1 (beq_iff_eq.1 h1)
       subst this
       rw [HQK.out]
       simpa [keyB] using HNE.out
     case measure =>
      rw [iterSeen_of HR3.out, iterSeen_of HR.out]
      exact left_shrinks es seen e HE2.out
theorem treePut_any (w : World) (P : Nat → Addr) (b mb : Nat) (L : FL) (p x : B) (h : TreeAt w b mb L) (hf : Fits L) (hs : Errs w P [1, 3, 6, 7]) (hm : HasMax w) (hp : p.length ≤ 999999) (hq : ∀ q ∈ L, q.1.length ≤ 999999) :
  Calls Tryz.prog 38 #[.pointer (some ⟨b, 0, none⟩), S p, S x] w (PutIs w P b mb L p x) := by
 cases hk : pathOk p with
 | false => exact put_bad w P b mb L p x h hs hm hp hk
 | true =>
  by_cases hx : 2000 < x.length
  ·exact put_long w P b mb L p x h hs hm hp hk hx
  ·exact put_main w P b mb L p x h hf hs hm hp hk hx hq
end Go.Proofs.YtnmhaipjfpongacGreatDoor
