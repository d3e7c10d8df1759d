/- Texts of this seat laid together for one claim: V3, V4, V7, V6. No condition of its own: what each proves stands with its theorems. -/
import Derived.Sort.Walk0
import Derived.Test.YtnmhaipjfpongacGreatDoorSA2
import Derived.Test.YtnmhaipjfpongacGreatDoorSA5
import Derived.Test.YtnmhaipjfpongacGreatDoorSA4
import Derived.Test.YtnmhaipjfpongacGreatDoorSA3
import Derived.Laws.IdiomRangeMap
import Derived.Maps.RangeRun
import Derived.Deep.AppendLies
import Derived.Laws.AppendOwnNone
import Derived.Test.YtnmhaipjfpongacGreatDoorSA0
namespace Go.Proofs.YtnmhaipjfpongacGreatDoor
open Go.ChangeShapes Go.WideShapes Go.ChangeAt Go.RowKit

structure TreeAt (w : World) (b mb : Nat) (L : FL) : Prop where
 cells : w.heap[b]? = some (.cells #[.map (some mb)] 173 (0, 0))
 map : KMap .string S S w mb L

theorem TreeAt.later {p : Nat → Prop} {w w' : World} {b mb : Nat} {L : FL} (h : TreeAt w b mb L) (ho : Only p w w') (h1 : ¬ p b) (h2 : ¬ p mb) : TreeAt w' b mb L :=
 ⟨ho.heapOf h.cells h1, h.map.later ho h2⟩
theorem TreeAt.ext {w w' : World} {b mb : Nat} {L : FL} (h : TreeAt w b mb L) (ho : Ext w w') : TreeAt w' b mb L := h.later ho (fun h => h) (fun h => h)
theorem TreeAt.ne {w : World} {b mb : Nat} {L : FL} (h : TreeAt w b mb L) : b ≠ mb := heap_ne_map h.cells h.map
theorem TreeAt.mapCell {w : World} {b mb : Nat} {L : FL} (h : TreeAt w b mb L) : w.cell? ⟨b, 0, none⟩ = some (.map (some mb)) := (cell_of_heap h.cells 0).trans rfl
theorem TreeAt.stores {w w' : World} {b mb : Nat} {L L' : FL} (h : TreeAt w b mb L) (ho : Only (fun i => i = mb) w w') (hm : KMap .string S S w' mb L') : TreeAt w' b mb L' :=
 ⟨ho.heapOf h.cells h.ne, hm⟩

theorem treeNew_any (w : World) :
  Calls Tryz.prog 91 #[] w fun e w' => e = .returned (.pointer (some ⟨w.heap.size + 1, 0, none⟩)) ∧ TreeAt w' (w.heap.size + 1) w.heap.size [] ∧ Ext w w' ∧ w'.heap.size = w.heap.size + 2 := by
 have hmm := @run_makeMap Tryz.prog
 go_enter Tryz.func91, Tryz.ntmps91
 go_wp2
 go_ret
 refine ⟨rfl, ⟨?_, (KMap.made w .string S S).later (Only.alloc (fun _ => False) _ _) (fun h => h)⟩, (Only.alloc _ _ _).thenAlloc _, by simp⟩
 simpa using (MapKept.heap_alloc (w.alloc (.map #[] 0)) (.cells #[.map (some w.heap.size)] 173 (0, 0))).1

theorem treeGet_any (w : World) (b mb : Nat) (L : FL) (p : B) (h : TreeAt w b mb L) :
  Calls Tryz.prog 42 #[.pointer (some ⟨b, 0, none⟩), S p] w fun e w' => e = .returned (.tuple #[S ((L.lookup p).getD []), .bool (L.lookup p).isSome]) ∧ w = w' := by
 have c0 := h.mapCell
 have hlook := KMap.look (P := Tryz.prog) keyOk_str h.map Tryz.underlying171 Tryz.underlying9 (zeroStr w) p
 clear h
 cases hk : L.lookup p
 all_goals
  simp only [hk] at hlook
  clear hk
  go_enter Tryz.func42, Tryz.ntmps42
  go_wp2_with fail
  go_ret2
  exact ⟨rfl, rfl⟩

set_option maxRecDepth 100000 in
theorem treeRemove_any (w : World) (b mb : Nat) (L : FL) (p : B) (a : Addr) (h : TreeAt w b mb L) (he : w.cell? ⟨1, 0, none⟩ = some (errV a)) :
  Calls Tryz.prog 37 #[.pointer (some ⟨b, 0, none⟩), S p] w fun e w' => e = .returned (if (L.lookup p).isSome then .nilIface else errV a) ∧ TreeAt w' b mb (delT L p) ∧ Only (fun i => i = mb) w w' := by
 have c0 := h.mapCell
 have hlook := KMap.look (P := Tryz.prog) keyOk_str h.map Tryz.underlying171 Tryz.underlying9 (zeroStr w) p
 cases hk : L.lookup p with
 | none =>
  simp only [hk] at hlook
  have e1 : delT L p = L := filter_of_lookup_none hk
  rw [e1]
  have H := Lib.hid h
  clear hk h e1
  go_enter Tryz.func37, Tryz.ntmps37
  go_wp2_with fail
  go_ret
  exact ⟨rfl, H.out, Only.refl _ _⟩
 | some x =>
  simp only [hk] at hlook
  obtain ⟨w1, hrun, hm1, ho1, _⟩ := KMap.drop (P := Tryz.prog) keyOk_str h.map Tryz.underlying171 Tryz.underlying9 p 0
  have H := Lib.hid h
  clear hk h
  go_enter Tryz.func37, Tryz.ntmps37
  go_wp2_with fail
  go_ret
  exact ⟨rfl, H.out.stores ho1 hm1, ho1⟩

theorem prefix_take (p s : B) : p.isPrefixOf s = (decide (p.length ≤ s.length) && (s.take p.length == p)) := by
 rw [Bool.eq_iff_iff, List.isPrefixOf_iff_prefix, List.prefix_iff_eq_take]
 constructor
 ·intro h
  have := congrArg List.length h
  rw [List.length_take] at this
  simp [← h]; omega
 ·intro h
  simp at h
  exact h.2.symm

set_option maxHeartbeats 1000000 in
theorem hasPrefixL_any (w : World) (s p : B) : Calls Tryz.prog 179 #[S s, S p] w fun e w' => e = .returned (.bool (p.isPrefixOf s)) ∧ w = w' := by
 rw [prefix_take]
 cases h1 : decide (p.length ≤ s.length) with
 | false =>
  have hz : decide ((p.length : Int) ≤ (s.length : Int)) = false := decide_eq_false (by have := of_decide_eq_false h1; omega)
  have hz1 : ¬ ((p.length : Int) ≤ (s.length : Int)) := of_decide_eq_false hz
  clear h1
  go_enter Tryz.func179, Tryz.ntmps179
  go_wp2_with fail
  go_ret
  exact ⟨rfl, rfl⟩
 | true =>
  have hz : decide ((p.length : Int) ≤ (s.length : Int)) = true := decide_eq_true (by have := of_decide_eq_true h1; omega)
  have hz1 : (p.length : Int) ≤ (s.length : Int) := of_decide_eq_true hz
  have hm := ba_mid s 0 p.length
  rw [List.drop_zero] at hm
  cases h2 : (s.take p.length == p)
  all_goals
   clear h1
   go_enter Tryz.func179, Tryz.ntmps179
   go_wp2_with fail
   go_ret
   exact ⟨rfl, rfl⟩
theorem hasPrefix_any (w : World) (s p : B) : Calls Tryz.prog 113 #[S s, S p] w fun e w' => e = .returned (.bool (p.isPrefixOf s)) ∧ w = w' := by
 have H := Lib.hid (hasPrefixL_any w s p)
 generalize p.isPrefixOf s = r at H
 go_enter Tryz.func113, Tryz.ntmps113
 go_wp2_with (go_at_call 179; refine H.out.mono ?_; rintro e w1 ⟨rfl, rfl⟩)
 go_ret
 exact ⟨rfl, rfl⟩

end Go.Proofs.YtnmhaipjfpongacGreatDoor

namespace Go.Proofs.YtnmhaipjfpongacGreatDoor
open Go.ChangeShapes Go.WideShapes Go.ChangeAt Go.RowKit
open Go.MapKept (Stamped)
open Go.ChangeMaps (setBlock)

def errC (P : Nat → Addr) (c : Nat) : Value := if c = 0 then .nilIface else errV (P (c - 1))

def keyB : Value → B
 | .string s => s.data.toList
 | _ => []

def near (p s : B) : Bool := aboveB p s || aboveB s p

theorem clash_of {es : Array MapEntry} {L : FL} {p : B} (hp : (es.toList.map fun e => (e.key, e.val)).Perm (L.map fun q => (S q.1, S q.2))) : (es.toList.any fun e => near p (keyB e.key)) = clash L p := by
 have h1 : (es.toList.map fun e => keyB e.key).Perm (L.map (·.1)) := by
  have h1 := hp.map (fun q : Value × Value => keyB q.1)
  rw [List.map_map, List.map_map] at h1
  have e2 : ((fun q : Value × Value => keyB q.1) ∘ fun p : B × B => (S p.1, S p.2)) = (·.1) := by
   funext q
   simp [keyB]
  rw [e2] at h1
  exact h1
 have e1 : (es.toList.any fun e => near p (keyB e.key)) = (es.toList.map fun e => keyB e.key).any (near p) := by rw [List.any_map]; rfl
 have e2 : clash L p = (L.map (·.1)).any (near p) := by rw [List.any_map]; rfl
 rw [e1, e2, Bool.eq_iff_iff, List.any_eq_true, List.any_eq_true]
 constructor
 ·rintro ⟨x, hx, h⟩; exact ⟨x, h1.mem_iff.1 hx, h⟩
 ·rintro ⟨x, hx, h⟩; exact ⟨x, h1.mem_iff.2 hx, h⟩

theorem keyOf_entry {es : Array MapEntry} {L : FL} (hp : (es.toList.map fun e => (e.key, e.val)).Perm (L.map fun q => (S q.1, S q.2))) {e : MapEntry} (he : e ∈ es.toList) : ∃ q ∈ L, e.key = S q.1 ∧ e.val = S q.2 := by
 have := hp.mem_iff.1 (List.mem_map.2 ⟨e, he, rfl⟩)
 obtain ⟨q, hq, e1⟩ := List.mem_map.1 this
 exact ⟨q, hq, (Prod.mk.inj e1).1.symm, (Prod.mk.inj e1).2.symm⟩

theorem ba_slash (a : B) : ((⟨a.toArray⟩ : ByteArray) ++ ⟨#[47]⟩) = ⟨(a ++ [47]).toArray⟩ := by
 rw [show (⟨#[47]⟩ : ByteArray) = ⟨([47] : B).toArray⟩ from rfl]
 exact ba_app a [47]

theorem next_step {P : Program} {w0 w : World} (hx : Ext w0 w) {ty : TypeId} {r bm clock : Nat} (hr0 : w0.heap.size ≤ r) {seen : Array Nat} {es : Array MapEntry} (hr : w.heap[r]? = some (.mapIter (some bm) clock seen clock)) (hb : w.heap[bm]? = some (.map es clock)) (hbr : bm ≠ r) (hst : Stamped es clock) :
  ((leftOf es seen).size = 0 ∧ (Instr.next (.pointer (some ⟨r, 0, none⟩)) false ty).run P w = .ok (.tuple #[.bool false]) w) ∨
  ∃ e ∈ (leftOf es seen).toList, ∃ w1 : World, Ext w0 w1 ∧ w1.heap[r]? = some (.mapIter (some bm) clock (seen.push e.born) clock) ∧ w1.heap[bm]? = some (.map es clock) ∧
   (Instr.next (.pointer (some ⟨r, 0, none⟩)) false ty).run P w = .ok (.tuple #[.bool true, e.key, e.val]) w1 ∧ (Instr.entry (.pointer (some ⟨r, 0, none⟩))).run P w1 = .ok (.tuple #[e.key, e.val]) w1 := by
 rcases run_next_at (P := P) w ty r bm clock clock seen es clock hr hb hst.1 (Nat.le_refl _) with h | ⟨e, he, w1, hw, hrun⟩
 ·exact .inl h
 ·have hx1 : Ext w0 w1 := by rcases hw with rfl | rfl; exact hx; exact hx.thenDrew
  have hh1 : w1.heap = w.heap := by rcases hw with rfl | rfl <;> rfl
  have hlr : r < w1.heap.size := by rw [hh1]; exact lt_of_heap hr
  have hr1 : (setBlock w1 r (.mapIter (some bm) clock (seen.push e.born) clock)).heap[r]? = some (.mapIter (some bm) clock (seen.push e.born) clock) := by
   simp [setBlock, hlr]
  have hb1 : (setBlock w1 r (.mapIter (some bm) clock (seen.push e.born) clock)).heap[bm]? = some (.map es clock) := by
   have : w1.heap[bm]? = some (.map es clock) := by rw [hh1]; exact hb
   simp only [setBlock]
   rw [Array.getElem?_setIfInBounds_ne (Ne.symm hbr)]
   exact this
  refine .inr ⟨e, he, _, ?_, hr1, hb1, hrun, run_entry_at _ r bm clock seen es clock e hr1 hb1 (mem_left he).1 hst.2.1⟩
  exact hx1.trans (only_setBlock w1 r _) (fun _ _ h => h) (fun i hi h => absurd h (by omega))

theorem iterSeen_of {w : World} {r : Nat} {a : Option Nat} {b c : Nat} {s : Array Nat} (h : w.heap[r]? = some (.mapIter a b s c)) : w.iterSeen r = s := by
 unfold World.iterSeen
 rw [h]

def PutIs (w : World) (P : Nat → Addr) (b mb : Nat) (L : FL) (p x : B) (e : Ending) (w' : World) : Prop :=
 e = .returned (errC P (putCode L p x)) ∧ TreeAt w' b mb (putT L p x) ∧ Only (fun i => i = mb) w w'

theorem PutIs.fails {w w' : World} {P : Nat → Addr} {b mb : Nat} {L : FL} {p x : B} {c : Nat} (h : TreeAt w b mb L) (hc : putCode L p x = c) (h0 : c ≠ 0) (ho : Ext w w') : PutIs w P b mb L p x (.returned (errV (P (c - 1)))) w' := by
 refine ⟨by rw [hc]; unfold errC; rw [if_neg h0], ?_, Only.of_ext ho⟩
 have : putT L p x = L := by unfold putT; rw [hc, if_neg h0]
 rw [this]
 exact h.ext ho

set_option maxRecDepth 100000 in
set_option maxHeartbeats 1000000 in
theorem put_bad (w : World) (P : Nat → Addr) (b mb : Nat) (L : FL) (p x : B) (h : TreeAt w b mb L) (hs : Errs w P [1, 3, 6, 7]) (hm : HasMax w) (hp : p.length ≤ 999999) (hk : pathOk p = false) :
  Calls Tryz.prog 38 #[.pointer (some ⟨b, 0, none⟩), S p, S x] w (PutIs w P b mb L p x) := by
 have HC := check_any w p (P 3) (by omega) hm (hs.var 3 _ (by decide) rfl)
 rw [hk, if_neg (by decide)] at HC
 have HC := Lib.hid HC
 have hcode : putCode L p x = 4 := by unfold putCode; rw [hk, if_neg (by decide)]
 have HK := Lib.hid hcode
 have H := Lib.hid h
 clear h hs hm hp hk hcode
 go_enter Tryz.func38, Tryz.ntmps38
 go_wp2_with (go_at_call 112; refine HC.out.mono ?_; rintro e w1 ⟨rfl, ho⟩)
 go_ret
 exact PutIs.fails H.out HK.out (by decide) ho

set_option maxRecDepth 100000 in
set_option maxHeartbeats 1000000 in
theorem put_long (w : World) (P : Nat → Addr) (b mb : Nat) (L : FL) (p x : B) (h : TreeAt w b mb L) (hs : Errs w P [1, 3, 6, 7]) (hm : HasMax w) (hp : p.length ≤ 999999) (hk : pathOk p = true) (hx : 2000 < x.length) :
  Calls Tryz.prog 38 #[.pointer (some ⟨b, 0, none⟩), S p, S x] w (PutIs w P b mb L p x) := by
 have HC := check_any w p (P 3) (by omega) hm (hs.var 3 _ (by decide) rfl)
 rw [hk, if_pos rfl] at HC
 have HC := Lib.hid HC
 have hcode : putCode L p x = 2 := by unfold putCode; rw [hk, if_pos rfl, if_pos hx]
 have HK := Lib.hid hcode
 have H := Lib.hid h
 have HE := Lib.hid (hs.var 1 _ (by decide) rfl)
 have hz : (2000 : Int) < (x.length : Int) := by omega
 clear h hs hm hp hk hcode hx
 go_enter Tryz.func38, Tryz.ntmps38
 go_wp2_with fail
 refine HC.out.mono ?_
 rintro e w1 ⟨rfl, ho⟩
 have hE := ho.cellOf HE.out (fun h => h)
 have HO := Lib.hid ho
 clear ho
 go_wp2_with fail
 go_ret
 exact PutIs.fails H.out HK.out (by decide) HO.out
end Go.Proofs.YtnmhaipjfpongacGreatDoor

namespace Go.Proofs.YtnmhaipjfpongacGreatDoor
open Go.ChangeShapes Go.WideShapes Go.ChangeAt Go.RowKit

theorem wpList_appL {P : Program} {α : Type} (enc : α → List Value) (t e : TypeId) (n by_ : Nat) (z : Value) (hinfo : (P.info? e).map (fun i => (i.zero, i.size, i.bytes)) = some (some z, n, by_)) (ht : P.underlying t = some (.slice e)) (hzs : z.cells.size = n) (hn0 : 0 < n)
  (hlen : ∀ x, (enc x).length = n) (h1c : ∀ x, ∀ u ∈ enc x, u.oneCell' = true) (hby : by_ ≤ 1000)
  {ops : Array Oper} {rest : List Oper} {o : Oper} {a : Act} {Q : Exit → Act → World → Prop} (s x : Operand) (base : Nat) (v : Value) (l k : List α) (W : World) (hgd : o.guard = none)
  (ho : o.op = .call { callee := .builtin .append, args := #[s, x], argTypes := #[t, t] }) (hs : a.eval s = v) (ao : Option Addr) (m c : Nat) (hx : a.eval x = .slice ao m c) (hmk : m = k.length)
  (hsrc : (ao = none ∧ k = [] ∧ c = 0) ∨ ∃ ad, ao = some ad ∧ ∀ j u, (k.flatMap enc)[j]? = some u → W.cell? (ad.add j) = some u)
  (hrow : W.ownsRow base e n v l.length (l.flatMap enc)) (hl : l.length + k.length ≤ 1000000) (hbase : base ≤ W.heap.size)
  (hK : ∀ ao' m' cap w', m' = (l ++ k).length → w'.ownsRow base e n (.slice ao' m' cap) (l ++ k).length ((l ++ k).flatMap enc) → W.grownBy w' v.ownBlock → (∀ i, Value.ownBlock (.slice ao' m' cap) = some i → v.ownBlock = some i ∨ W.heap.size ≤ i) →
   wpList P ops Q rest (a.put o.dst (.slice ao' m' cap)) w') :
  wpList P ops Q (o :: rest) a W := by
 subst hmk
 obtain ⟨i0, hi, hz0, hz1, hz2⟩ := info_parts hinfo
 have hb : (l.length + k.length) * by_ ≤ 1000001 * 1000 := Nat.mul_le_mul (by omega) hby
 have hform : ∀ {W' : World} {v' : Value} {n' : Nat} {xs : List Value}, W'.ownsRow base e n v' n' xs → ∃ ao' cap, v' = .slice ao' n' cap := fun h => by
  rcases h.2 with ⟨rfl, rfl⟩ | ⟨g, cap, _, rfl, _⟩
  ·exact ⟨none, 0, rfl⟩
  ·exact ⟨_, cap, rfl⟩
 rcases hsrc with ⟨rfl, rfl, rfl⟩ | ⟨ad, rfl, hcells⟩
 ·refine wpList_append_own_none hgd s x t ho base e i0 n ht hi v l.length (l.flatMap enc) hs hrow hx ?_
  obtain ⟨ao', cap, hv⟩ := hform hrow
  have hgr : W.grownBy W v.ownBlock := Only.grown (Only.refl _ W)
  rw [hv] at hrow hgr ⊢
  have e1 : l ++ [] = l := List.append_nil l
  have := hK ao' _ cap W rfl
  rw [e1] at this
  rw [hv] at this
  exact this hrow hgr (fun i h => .inl h)
 ·refine wpList_plain hgd fun K hK' => ?_
  have h1 : ∀ u ∈ k.flatMap enc, u.oneCell' = true := fun u hu => by
   obtain ⟨y, _, hy⟩ := List.mem_flatMap.1 hu
   exact h1c y u hy
  obtain ⟨v', w', hr, h2, h3, _, h5⟩ := run_append_own_at (P := P) W base t o.type e i0 z n by_ ht hi hz0 hz1 hz2 hzs hn0 v l.length (l.flatMap enc) hrow ad k.length c (k.flatMap enc) (flat_len hlen k) hcells h1 (by unfold maxLen; omega) (by omega) hbase
  obtain ⟨ao', cap, rfl⟩ := hform h2
  unfold Oper.wp execOp
  simp only [ho, resolve, invoke, builtin, Sem.run_bind, Sem.run_pure, Result.andThen_ok, List.map_toArray, List.map_cons, List.map_nil, hs, hx, hr]
  have e1 : (l ++ k).length = l.length + k.length := List.length_append
  have := hK ao' _ cap w' rfl
  rw [e1, List.flatMap_append] at this
  refine hK' _ _ (this h2 h3 fun i hi' => ?_)
  rcases h5 with h5 | h5
  ·exact .inl (h5 ▸ hi')
  ·right
   rw [h5] at hi'
   have := Option.some.inj hi'
   omega
end Go.Proofs.YtnmhaipjfpongacGreatDoor

namespace Go.Proofs.YtnmhaipjfpongacGreatDoor
open Go.ChangeShapes Go.WideShapes Go.ChangeAt Go.RowKit

theorem PutIs.done {w W w' : World} {P : Nat → Addr} {b mb : Nat} {L : FL} {p x : B} (_ : TreeAt w b mb L) (hr : Rising L) (hc : putCode L p x = 0) (hE : Ext w W) (hW : TreeAt W b mb L) (hm : KMap .string S S w' mb ((p, x) :: L.filter fun q => !(q.1 == p))) (ho : Only (fun i => i = mb) W w') :
  PutIs w P b mb L p x (.returned .nilIface) w' := by
 have e1 : putT L p x = setT L p x := by unfold putT; rw [if_pos hc]
 refine ⟨by rw [hc]; rfl, ?_, Only.after hE ho⟩
 rw [e1]
 exact hW.stores ho (hm.perm (set_perm hr p x))

set_option maxRecDepth 100000 in
set_option maxHeartbeats 4000000 in
theorem put_main (w : World) (P : Nat → Addr) (b mb : Nat) (L : FL) (p x : B) (h : TreeAt w b mb L) (hf : Fits L) (hs : Errs w P [1, 3, 6, 7]) (hm : HasMax w) (hp : p.length ≤ 999999) (hk : pathOk p = true) (hx : ¬ 2000 < x.length) (hq : ∀ q ∈ L, q.1.length ≤ 999999) :
  Calls Tryz.prog 38 #[.pointer (some ⟨b, 0, none⟩), S p, S x] w (PutIs w P b mb L p x) := by
 have HC := check_any w p (P 3) (by omega) hm (hs.var 3 _ (by decide) rfl)
 rw [hk, if_pos rfl] at HC
 have HC := Lib.hid HC
 have hcode : putCode L p x = if clash L p then 7 else if (L.lookup p).isNone && decide (60 ≤ L.length) then 8 else 0 := by unfold putCode; rw [hk, if_pos rfl, if_neg hx]
 have HK := Lib.hid hcode
 have H := Lib.hid h
 have HE := Lib.hid (hs.var 6 _ (by decide) rfl)
 have HF := Lib.hid (hs.var 7 _ (by decide) rfl)
 have HQ := Lib.hid hq
 have HFew := Lib.hid hf.few
 have hz : ¬ (2000 : Int) < (x.length : Int) := by omega
 have hbp := ba_slash p
 have hlp : ¬ 9223372036854775807 < p.length + 1 := by omega
 have hf := Lib.hid hf
 clear h hs hm hp hk hcode hx hq
 go_enter Tryz.func38, Tryz.ntmps38
 go_wp2_with fail
 refine HC.out.mono ?_
 rintro e w1 ⟨rfl, ho⟩
 have h1 := H.out.ext ho
 have c0 := h1.mapCell
 obtain ⟨es, clock, hb, hpm, _, _, hst⟩ := h1.map
 have hrg := run_range_map (P := Tryz.prog) w1 171 9 9 mb es clock Tryz.underlying171 hb
 have H1 := Lib.hid h1
 have HB := Lib.hid hb
 have HP := Lib.hid hpm
 have HS := Lib.hid hst
 have HO := Lib.hid ho
 clear h1 hb hpm hst ho
 go_wp2_with fail
 have hmr : mb ≠ w1.heap.size := Nat.ne_of_lt (lt_of_heap HB.out)
 go_loopw [] (fun w' => ∃ seen : Array Nat, Hid (Ext w1 w') ∧ Hid (w'.heap[w1.heap.size]? = some (.mapIter (some mb) clock seen clock)) ∧ Hid (∀ y ∈ es.toList, seen.contains y.born = true → near p (keyB y.key) = false)) (fun w' => (leftOf es (w'.iterSeen w1.heap.size)).size)
 case atStart => exact ⟨#[], Lib.hid (Only.alloc _ _ _), Lib.hid (MapKept.heap_alloc w1 _).1, Lib.hid fun y _ h => by simp at h⟩
 case round =>
  obtain ⟨seen, HX, HR, HN⟩ := hrel
  have law := next_step (P := Tryz.prog) (ty := 0) HX.out (Nat.le_refl _) HR.out (HX.out.heapOf HB.out (fun h => h)) hmr HS.out
  rcases law with ⟨h0, hrun⟩ | ⟨e, he, w3, hx3, hr3, hb3, hrun, hen⟩
  ·have hno : clash L p = false := by
    rw [← clash_of HP.out, List.any_eq_false]
    intro y hy
    rw [HN.out y hy (all_seen es seen h0 y hy)]
    decide
   have hcode := HK.out
   rw [hno, if_neg (by decide)] at hcode
   have hEW : Ext w wr := HO.out.then HX.out
   have hW : TreeAt wr b mb L := H.out.ext hEW
   clear h0 HN hno HR
   have c0W := hW.mapCell
   have hlook := KMap.look (P := Tryz.prog) keyOk_str hW.map Tryz.underlying171 Tryz.underlying9 (zeroStr wr) p
   have hlen := fun ty => MapAt.len (P := Tryz.prog) hW.map Tryz.underlying171 ty
   simp only [List.length_map] at hlen
   have hFull := hEW.cellOf HF.out (fun h => h)
   have HW := Lib.hid hW
   have HEW := Lib.hid hEW
   clear hW hEW hrg c0 HX
   cases hl : L.lookup p with
   | none =>
    simp only [hl] at hlook
    rw [hl] at hcode
    by_cases hfull : 60 ≤ L.length
    ·have hc8 : putCode L p x = 8 := by rw [hcode, if_pos (by simp [hfull])]
     have HC8 := Lib.hid hc8
     have hfz : (60 : Int) ≤ (L.length : Int) := by omega
     clear hcode hc8 hl hfull
     go_wp2_with fail
     go_ret
     exact PutIs.fails H.out HC8.out (by decide) HEW.out
    ·have hc0 : putCode L p x = 0 := by rw [hcode, if_neg (by simp [hfull])]
     have HC0 := Lib.hid hc0
     have hfz : ¬ (60 : Int) ≤ (L.length : Int) := by omega
     clear hcode hc0 hl hfull
     obtain ⟨w4, hrun4, hm4, ho4, _⟩ := KMap.store (P := Tryz.prog) keyOk_str HW.out.map Tryz.underlying171 Tryz.underlying9 p x
     go_wp2_with fail
     go_ret
     exact PutIs.done H.out hf.out.rising HC0.out HEW.out HW.out hm4 ho4
   | some y =>
    simp only [hl] at hlook
    rw [hl] at hcode
    have hc0 : putCode L p x = 0 := by rw [hcode, if_neg (by simp)]
    have HC0 := Lib.hid hc0
    clear hcode hc0 hl
    obtain ⟨w4, hrun4, hm4, ho4, _⟩ := KMap.store (P := Tryz.prog) keyOk_str HW.out.map Tryz.underlying171 Tryz.underlying9 p x
    go_wp2_with fail
    go_ret
    exact PutIs.done H.out hf.out.rising HC0.out HEW.out HW.out hm4 ho4
  ·obtain ⟨q, hqL, hqk, hqv⟩ := keyOf_entry HP.out (mem_left he).1
   have hql := HQ.out q hqL
   rw [hqk, hqv] at hrun hen
   have HE2 := Lib.hid he
   have HQK := Lib.hid hqk
   generalize q.1 = s at hrun hen hql HQK
   generalize q.2 = sv at hrun hen
   have hbs := ba_slash s
   have hls : ¬ 9223372036854775807 < s.length + 1 := by omega
   have hqc : near p s = true → clash L p = true := fun h => by
    rw [← clash_of HP.out, List.any_eq_true]
    exact ⟨e, (mem_left HE2.out).1, by rw [HQK.out]; simpa [keyB] using h⟩
   have HQC := Lib.hid hqc
   have HP1 := fun W => hasPrefix_any W s (p ++ [47])
   have HP2 := fun W => hasPrefix_any W p (s ++ [47])
   have hnear : near p s = ((p ++ [47]).isPrefixOf s || (s ++ [47]).isPrefixOf p) := rfl
   have HNE := Lib.hid hnear
   have HX3 := Lib.hid hx3
   have HR3 := Lib.hid hr3
   have hEW : Ext w w3 := HO.out.then hx3
   clear he hqk hqv hx3 hr3 hb3 hqL hql hqc hnear
   have hExist := hEW.cellOf HE.out (fun h => h)
   have HEW := Lib.hid hEW
   clear hEW
   generalize (p ++ [47]).isPrefixOf s = r1 at HP1 HNE
   generalize (s ++ [47]).isPrefixOf p = r2 at HP2 HNE
   have HP1 := Lib.hid HP1
   have HP2 := Lib.hid HP2
   cases r1 with
   | true =>
    go_wp2_with fail
    refine (HP1.out _).mono ?_
    rintro e1 w4 ⟨rfl, rfl⟩
    go_wp2_with fail
    go_ret
    exact PutIs.fails H.out (by rw [HK.out, if_pos (HQC.out HNE.out)]) (by decide) HEW.out
   | false =>
    cases r2 with
    | true =>
     go_wp2_with fail
     refine (HP1.out _).mono ?_
     rintro e1 w4 ⟨rfl, rfl⟩
     go_wp2_with fail
     refine (HP2.out _).mono ?_
     rintro e1 w4 ⟨rfl, rfl⟩
     go_wp2_with fail
     go_ret
     exact PutIs.fails H.out (by rw [HK.out, if_pos (HQC.out HNE.out)]) (by decide) HEW.out
    | false =>
     go_wp2_with fail
     refine (HP1.out _).mono ?_
     rintro e1 w4 ⟨rfl, rfl⟩
     go_wp2_with fail
     refine (HP2.out _).mono ?_
     rintro e1 w4 ⟨rfl, rfl⟩
     go_wp2_with fail
     go_roundw
     case rel =>
      refine ⟨seen.push e.born, HX3, HR3, Lib.hid fun y hy hc => ?_⟩
      rw [contains_push] at hc
      rcases Bool.or_eq_true _ _ ▸ hc with h1 | h1
      ·exact HN.out y hy h1
      ·have : y = e := born_inj HS.out.2.1 hy (mem_left HE2.out).1 (beq_iff_eq.1 h1)
       subst this
       rw [HQK.out]
       simpa [keyB] using HNE.out
     case measure =>
      rw [iterSeen_of HR3.out, iterSeen_of HR.out]
      exact left_shrinks es seen e HE2.out
theorem treePut_any (w : World) (P : Nat → Addr) (b mb : Nat) (L : FL) (p x : B) (h : TreeAt w b mb L) (hf : Fits L) (hs : Errs w P [1, 3, 6, 7]) (hm : HasMax w) (hp : p.length ≤ 999999) (hq : ∀ q ∈ L, q.1.length ≤ 999999) :
  Calls Tryz.prog 38 #[.pointer (some ⟨b, 0, none⟩), S p, S x] w (PutIs w P b mb L p x) := by
 cases hk : pathOk p with
 | false => exact put_bad w P b mb L p x h hs hm hp hk
 | true =>
  by_cases hx : 2000 < x.length
  ·exact put_long w P b mb L p x h hs hm hp hk hx
  ·exact put_main w P b mb L p x h hf hs hm hp hk hx hq
end Go.Proofs.YtnmhaipjfpongacGreatDoor
