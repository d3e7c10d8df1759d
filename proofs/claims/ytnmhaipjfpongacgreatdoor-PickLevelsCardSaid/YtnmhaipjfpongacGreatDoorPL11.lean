/- Texts of this seat laid together for one claim: A2, V7, V8, T5, V10, V11. No condition of its own: what each proves stands with its theorems. -/
import Derived.Deep.AppendLies
import Derived.OwnWalk
import Derived.Test.YtnmhaipjfpongacGreatDoorPL0
import Derived.Laws.AppendOwnNone
import Derived.Test.YtnmhaipjfpongacGreatDoorPL9
import Derived.Test.YtnmhaipjfpongacGreatDoorPL7
import Derived.Test.YtnmhaipjfpongacGreatDoorPL10
namespace Go.Proofs.YtnmhaipjfpongacGreatDoor
open Go.ChangeShapes Go.WideShapes Go.ChangeAt Go.RowKit

def RdS {α : Type} (n : Nat) (enc : α → List Value) (w : World) (v : Value) (l : List α) : Prop :=
 ∃ a cap, v = .slice a l.length cap ∧ l.length ≤ cap ∧ cap ≤ maxLen ∧ (l ≠ [] → ∃ b off, a = some ⟨b, off, none⟩ ∧ ∀ i x, l[i]? = some x → ∀ j u, (enc x)[j]? = some u → w.cell? ⟨b, off + i * n + j, none⟩ = some u)

theorem RdS.nil {α : Type} (n : Nat) (enc : α → List Value) (w : World) : RdS n enc w (.slice none 0 0) [] := ⟨none, 0, rfl, Nat.le_refl _, Nat.zero_le _, fun h => absurd rfl h⟩

theorem flat_len {α : Type} {enc : α → List Value} {n : Nat} (hn : ∀ x, (enc x).length = n) : ∀ l : List α, (l.flatMap enc).length = l.length * n
 | [] => by simp
 | y :: l => by rw [List.flatMap_cons, List.length_append, hn, flat_len hn l, List.length_cons, Nat.succ_mul, Nat.add_comm]

theorem flat_at {α : Type} {enc : α → List Value} {n : Nat} (hn : ∀ x, (enc x).length = n) : ∀ (l : List α) (i : Nat) (x : α), l[i]? = some x → ∀ j u, (enc x)[j]? = some u → (l.flatMap enc)[i * n + j]? = some u
 | [], i, x, h, _, _, _ => by simp at h
 | y :: l, 0, x, h, j, u, hu => by
  have hy : y = x := by simpa using h
  subst hy
  have hj : j < (enc y).length := (List.getElem?_eq_some_iff.1 hu).1
  rw [List.flatMap_cons, Nat.zero_mul, Nat.zero_add, List.getElem?_append_left hj, hu]
 | y :: l, i + 1, x, h, j, u, hu => by
  have h' : l[i]? = some x := by simpa using h
  have := flat_at hn l i x h' j u hu
  have e : (i + 1) * n + j - (enc y).length = i * n + j := by rw [hn, Nat.succ_mul]; omega
  rw [List.flatMap_cons, List.getElem?_append_right (by rw [hn, Nat.succ_mul]; omega), e, this]

theorem RdS.of_row {α : Type} {n : Nat} {enc : α → List Value} (hn : ∀ x, (enc x).length = n) {w : World} {base : Nat} {e : TypeId} {v : Value} {l : List α} (h : w.ownsRow base e n v l.length (l.flatMap enc)) : RdS n enc w v l := by
 obtain ⟨h1, h2⟩ := h
 rcases h2 with ⟨rfl, h2⟩ | ⟨g, cap, cur, rfl, hg, hh, hc, hm, hs, ht⟩
 ·exact ⟨none, 0, by rw [h2], by omega, Nat.zero_le _, fun h => absurd (List.length_eq_zero_iff.1 h2) h⟩
 ·refine ⟨_, cap, rfl, hc, hm, fun _ => ⟨g, 0, rfl, fun i x hx j u hu => ?_⟩⟩
  have hf := flat_at hn l i x hx j u hu
  have hlt := (List.getElem?_eq_some_iff.1 hf).1
  rw [h1] at hlt
  have hcell : cur[i * n + j]? = (cur.toList.take (l.length * n))[i * n + j]? := by rw [List.getElem?_take_of_lt hlt]; simp
  rw [ht, hf] at hcell
  rw [Nat.zero_add]
  simp [World.cell?, hh, hcell]

theorem RdS.later {α : Type} {n : Nat} {enc : α → List Value} {w w' : World} {v : Value} {l : List α} (h : RdS n enc w v l) {p : Nat → Prop} (ho : Only p w w') (hp : ∀ k, v.ownBlock = some k → ¬ p k) : RdS n enc w' v l := by
 obtain ⟨a, cap, rfl, h1, h2, h3⟩ := h
 refine ⟨a, cap, rfl, h1, h2, fun hl => ?_⟩
 obtain ⟨b, off, rfl, hc⟩ := h3 hl
 exact ⟨b, off, rfl, fun i x hx j u hu => ho.cellOf (hc i x hx j u hu) (hp b rfl)⟩

theorem RdS.ext {α : Type} {n : Nat} {enc : α → List Value} {w w' : World} {v : Value} {l : List α} (h : RdS n enc w v l) (ho : Ext w w') : RdS n enc w' v l := h.later ho fun _ _ h => h

theorem RdS.tail {α : Type} {n : Nat} {enc : α → List Value} {w : World} {b off cap : Nat} {x : α} {l : List α} (h : RdS n enc w (.slice (some ⟨b, off, none⟩) (l.length + 1) cap) (x :: l)) (b' off' : Nat) (hb : l ≠ [] → b' = b ∧ off' = off + n) : RdS n enc w (.slice (some ⟨b', off', none⟩) l.length (cap - 1)) l := by
 obtain ⟨a, cap', hv, h1, h2, h3⟩ := h
 cases hv
 refine ⟨_, _, rfl, by simp at h1; omega, by omega, fun hl => ?_⟩
 obtain ⟨b0, off0, he, hc⟩ := h3 (by simp)
 cases he
 obtain ⟨rfl, rfl⟩ := hb hl
 refine ⟨_, _, rfl, fun i y hy j u hu => ?_⟩
 have := hc (i + 1) y (by simpa using hy) j u hu
 rw [Nat.succ_mul] at this
 rw [show off + n + i * n + j = off + (i * n + n) + j by omega]
 exact this

theorem cells_new (W : World) (cs : Array Value) (e : TypeId) : ∀ j u, cs.toList[j]? = some u → (W.alloc (.cells cs e (0, 0))).cell? ((⟨W.heap.size, 0, none⟩ : Addr).add j) = some u :=
 World.news_of_block (MapKept.heap_alloc W (.cells cs e (0, 0))).1

theorem wpList_appS {P : Program} {α : Type} (enc : α → List Value) (t e : TypeId) (n by_ : Nat) (z : Value) (hinfo : (P.info? e).map (fun i => (i.zero, i.size, i.bytes)) = some (some z, n, by_)) (ht : P.underlying t = some (.slice e)) (hzs : z.cells.size = n) (hn0 : 0 < n)
  (hlen : ∀ x, (enc x).length = n) (h1c : ∀ x, ∀ u ∈ enc x, u.oneCell' = true) (hby : by_ ≤ 1000)
  {ops : Array Oper} {rest : List Oper} {o : Oper} {a : Act} {Q : Exit → Act → World → Prop} (s x : Operand) (base : Nat) (v : Value) (l : List α) (k : α) (W : World) (cs : Array Value) (hcs : cs.toList = enc k) (hgd : o.guard = none)
  (ho : o.op = .call { callee := .builtin .append, args := #[s, x], argTypes := #[t, t] }) (hs : a.eval s = v) (hx : a.eval x = .slice (some ⟨W.heap.size, 0, none⟩) 1 1)
  (hrow : W.ownsRow base e n v l.length (l.flatMap enc)) (hl : l.length ≤ 1000000) (hbase : base ≤ W.heap.size)
  (hK : ∀ g cap w', w'.ownsRow base e n (.slice (some ⟨g, 0, none⟩) (l.length + 1) cap) (l.length + 1) ((l ++ [k]).flatMap enc) → W.grownBy w' v.ownBlock → (∀ i, Value.ownBlock (.slice (some ⟨g, 0, none⟩) (l.length + 1) cap) = some i → v.ownBlock = some i ∨ W.heap.size ≤ i) →
   wpList P ops Q rest (a.put o.dst (.slice (some ⟨g, 0, none⟩) (l.length + 1) cap)) w') :
  wpList P ops Q (o :: rest) a (W.alloc (.cells cs e (0, 0))) := by
 obtain ⟨i0, hi, hz0, hz1, hz2⟩ := info_parts hinfo
 have hb : (l.length + 1) * by_ ≤ 1000001 * 1000 := Nat.mul_le_mul (by omega) hby
 refine wpList_append_lies _ hgd s x t ho base e i0 z n by_ ht hi hz0 hz1 hz2 hzs hn0 v l.length (l.flatMap enc) hs (hrow.alloc _) ⟨W.heap.size, 0, none⟩ 1 1 (enc k) hx (by rw [hlen, Nat.one_mul])
  (fun j u hu => cells_new W cs e j u (by rw [hcs]; exact hu)) (h1c k) (by decide) ?_ ?_ ?_ (W.heap.size + 1) (by simp) ?_
 ·unfold maxLen; omega
 ·omega
 ·simp; omega
 ·intro g cap w' hown hg hat hlt
  refine hK g cap w' (by simpa using hown) ?_ ?_
  ·exact ((Only.alloc (fun i => v.ownBlock = some i) W _).then (Only.of_grown hg)).grown
  ·intro i e
   cases e
   rcases hat with h | h
   ·exact .inl h
   ·exact .inr (by rw [h]; exact Nat.le_succ _)
end Go.Proofs.YtnmhaipjfpongacGreatDoor

namespace Go.Proofs.YtnmhaipjfpongacGreatDoor
open Go.ChangeShapes Go.WideShapes Go.ChangeAt Go.RowKit

abbrev encF (p : B × B) : List Value := [S p.1, S p.2]
theorem encF_len (p : B × B) : (encF p).length = 2 := rfl
theorem wpList_appL {P : Program} {α : Type} (enc : α → List Value) (t e : TypeId) (n by_ : Nat) (z : Value) (hinfo : (P.info? e).map (fun i => (i.zero, i.size, i.bytes)) = some (some z, n, by_)) (ht : P.underlying t = some (.slice e)) (hzs : z.cells.size = n) (hn0 : 0 < n)
  (hlen : ∀ x, (enc x).length = n) (h1c : ∀ x, ∀ u ∈ enc x, u.oneCell' = true) (hby : by_ ≤ 1000)
  {ops : Array Oper} {rest : List Oper} {o : Oper} {a : Act} {Q : Exit → Act → World → Prop} (s x : Operand) (base : Nat) (v : Value) (l k : List α) (W : World) (hgd : o.guard = none)
  (ho : o.op = .call { callee := .builtin .append, args := #[s, x], argTypes := #[t, t] }) (hs : a.eval s = v) (ao : Option Addr) (m c : Nat) (hx : a.eval x = .slice ao m c) (hmk : m = k.length)
  (hsrc : (ao = none ∧ k = [] ∧ c = 0) ∨ ∃ ad, ao = some ad ∧ ∀ j u, (k.flatMap enc)[j]? = some u → W.cell? (ad.add j) = some u)
  (hrow : W.ownsRow base e n v l.length (l.flatMap enc)) (hl : l.length + k.length ≤ 1000000) (hbase : base ≤ W.heap.size)
  (hK : ∀ ao' m' cap w', m' = (l ++ k).length → w'.ownsRow base e n (.slice ao' m' cap) (l ++ k).length ((l ++ k).flatMap enc) → W.grownBy w' v.ownBlock → (∀ i, Value.ownBlock (.slice ao' m' cap) = some i → v.ownBlock = some i ∨ W.heap.size ≤ i) →
   wpList P ops Q rest (a.put o.dst (.slice ao' m' cap)) w') :
  wpList P ops Q (o :: rest) a W := by
 subst hmk
 obtain ⟨i0, hi, hz0, hz1, hz2⟩ := info_parts hinfo
 have hb : (l.length + k.length) * by_ ≤ 1000001 * 1000 := Nat.mul_le_mul (by omega) hby
 have hform : ∀ {W' : World} {v' : Value} {n' : Nat} {xs : List Value}, W'.ownsRow base e n v' n' xs → ∃ ao' cap, v' = .slice ao' n' cap := fun h => by
  rcases h.2 with ⟨rfl, rfl⟩ | ⟨g, cap, _, rfl, _⟩
  ·exact ⟨none, 0, rfl⟩
  ·exact ⟨_, cap, rfl⟩
 rcases hsrc with ⟨rfl, rfl, rfl⟩ | ⟨ad, rfl, hcells⟩
 ·refine wpList_append_own_none hgd s x t ho base e i0 n ht hi v l.length (l.flatMap enc) hs hrow hx ?_
  obtain ⟨ao', cap, hv⟩ := hform hrow
  have hgr : W.grownBy W v.ownBlock := Only.grown (Only.refl _ W)
  rw [hv] at hrow hgr ⊢
  have e1 : l ++ [] = l := List.append_nil l
  have := hK ao' _ cap W rfl
  rw [e1] at this
  rw [hv] at this
  exact this hrow hgr (fun i h => .inl h)
 ·refine wpList_plain hgd fun K hK' => ?_
  have h1 : ∀ u ∈ k.flatMap enc, u.oneCell' = true := fun u hu => by
   obtain ⟨y, _, hy⟩ := List.mem_flatMap.1 hu
   exact h1c y u hy
  obtain ⟨v', w', hr, h2, h3, _, h5⟩ := run_append_own_at (P := P) W base t o.type e i0 z n by_ ht hi hz0 hz1 hz2 hzs hn0 v l.length (l.flatMap enc) hrow ad k.length c (k.flatMap enc) (flat_len hlen k) hcells h1 (by unfold maxLen; omega) (by omega) hbase
  obtain ⟨ao', cap, rfl⟩ := hform h2
  unfold Oper.wp execOp
  simp only [ho, resolve, invoke, builtin, Sem.run_bind, Sem.run_pure, Result.andThen_ok, List.map_toArray, List.map_cons, List.map_nil, hs, hx, hr]
  have e1 : (l ++ k).length = l.length + k.length := List.length_append
  have := hK ao' _ cap w' rfl
  rw [e1, List.flatMap_append] at this
  refine hK' _ _ (this h2 h3 fun i hi' => ?_)
  rcases h5 with h5 | h5
  ·exact .inl (h5 ▸ hi')
  ·right
   rw [h5] at hi'
   have := Option.some.inj hi'
   omega
end Go.Proofs.YtnmhaipjfpongacGreatDoor

namespace Go.Proofs.YtnmhaipjfpongacGreatDoor
open Go.ChangeShapes Go.WideShapes Go.ChangeAt Go.RowKit

structure RTree (w : World) (base m : Nat) (slv : Value) (L : FL) : Prop where
 cells : w.heap[m]? = some (.cells #[slv] 147 (0, 0))
 row : w.ownsRow base 65 2 slv L.length (L.flatMap encF)

theorem RTree.rd {w : World} {base m : Nat} {slv : Value} {L : FL} (h : RTree w base m slv L) : RdS 2 encF w slv L := RdS.of_row encF_len h.row
theorem RTree.ne {w : World} {base m : Nat} {slv : Value} {L : FL} (h : RTree w base m slv L) : ∀ i, slv.ownBlock = some i → i ≠ m := row_ne h.row h.cells (by decide)
theorem RTree.later {p : Nat → Prop} {w w' : World} {base m : Nat} {slv : Value} {L : FL} (h : RTree w base m slv L) (ho : Only p w w') (h1 : ¬ p m) (h2 : ∀ i, slv.ownBlock = some i → ¬ p i) : RTree w' base m slv L :=
 ⟨ho.heapOf h.cells h1, ho.row h.row h2⟩
theorem RTree.ext {w w' : World} {base m : Nat} {slv : Value} {L : FL} (h : RTree w base m slv L) (ho : Ext w w') : RTree w' base m slv L := h.later ho (fun h => h) (fun _ _ h => h)

def InR (m : Nat) (slv : Value) (i : Nat) : Prop := i = m ∨ slv.ownBlock = some i

def RDone (w : World) (base m : Nat) (slv : Value) (L : FL) (r : Value) (e : Ending) (w' : World) : Prop :=
 ∃ slv', e = .returned r ∧ RTree w' base m slv' L ∧ Only (InR m slv) w w' ∧ ∀ i, slv'.ownBlock = some i → slv.ownBlock = some i ∨ w.heap.size ≤ i

theorem RDone.same {w w' : World} {base m : Nat} {slv : Value} {L : FL} {r : Value} (h : RTree w base m slv L) (ho : Ext w w') : RDone w base m slv L r (.returned r) w' :=
 ⟨slv, rfl, h.ext ho, Only.of_ext ho, fun _ h => .inl h⟩

theorem RDone.laid {w w3 : World} {base m : Nat} {slv v : Value} {L T : FL} {r : Value} (h : RTree w base m slv L) (hx : Ext w w3) (hr : w3.ownsRow base 65 2 v T.length (T.flatMap encF)) (hn : ∀ i, v.ownBlock = some i → w.heap.size ≤ i) :
  RDone w base m slv T r (.returned r) (w3.setCell ⟨m, 0, none⟩ v) := by
 have hm3 := hx.heapOf h.cells (fun h => h)
 have hs := Only.set (p := fun i => i = m) (w := w3) (a := ⟨m, 0, none⟩) v rfl
 have hlt := lt_of_heap h.cells
 refine ⟨v, rfl, ⟨(heap_setCell_same hm3 0 v).trans (by simp), hs.row hr (fun i e e1 => by have := hn i e; omega)⟩, ?_, fun i e => .inr (hn i e)⟩
 exact Only.after hx (hs.mono fun i _ e => .inl e)

end Go.Proofs.YtnmhaipjfpongacGreatDoor

namespace Go.Proofs.YtnmhaipjfpongacGreatDoor
open Go.ChangeShapes Go.WideShapes Go.ChangeAt Go.RowKit

theorem rowRd {W : World} {base : Nat} {g cap n : Nat} {l : List B} (h : W.ownsRow base 9 1 (.slice (some ⟨g, 0, none⟩) n cap) n (l.map S)) : ∀ i x, l[i]? = some x → W.cell? ⟨g, i, none⟩ = some (S x) := fun i x hx => by
 rcases h.2 with ⟨h2, _⟩ | ⟨g', cap', cur, hv, _, hh, _, _, hs, ht⟩
 ·cases h2
 ·cases hv
  have hn : l.length = n := by simpa using h.1
  have hi : i < l.length := (List.getElem?_eq_some_iff.1 hx).1
  have hcell : cur[i]? = (cur.toList.take (n * 1))[i]? := by rw [List.getElem?_take_of_lt (by omega)]; simp
  rw [ht, List.getElem?_map, hx] at hcell
  rw [cell_of_heap hh]
  simpa using hcell

def RefPartsIs (w : World) (st : Bool) (s : B) (e : Ending) (w' : World) : Prop :=
 Ext w w' ∧ ((partsOk st (cut s) = true ∧ ∃ g cap, e = .returned (.slice (some ⟨g, 0, none⟩) (cut s).length cap) ∧ ∀ i x, (cut s)[i]? = some x → w'.cell? ⟨g, i, none⟩ = some (S x)) ∨ (partsOk st (cut s) = false ∧ e = .returned (.slice none 0 0)))

set_option maxRecDepth 100000 in
set_option maxHeartbeats 1000000 in
theorem refParts_any (w : World) (st : Bool) (s : B) (hs : s.length ≤ 999999) : Calls Tryz.prog 174 #[S s, .bool st] w (RefPartsIs w st s) := by
 have HC := Lib.hid (refCut_any w s hs)
 have hcl := cut_len_le s
 obtain ⟨l, hl⟩ : ∃ l, l = cut s := ⟨_, rfl⟩
 unfold RefPartsIs
 rw [← hl] at hcl HC ⊢
 have hll : l.length ≤ 1000000 := by omega
 clear hl hs hcl
 by_cases h5 : l.length ≤ 5
 ·have h5' : ¬ ((5 : Int) < (l.length : Int)) := by omega
  go_enter Tryz.func174, Tryz.ntmps174
  go_wp2_with fail
  refine HC.out.mono ?_
  rintro e w1 ⟨g, cap, rfl, hrow, ho⟩
  have HO := Lib.hid ho
  have HD := Lib.hid (rowRd hrow)
  clear ho hrow
  go_wp2_with fail
  go_loop [6] (fun i => ∃ j : Nat, j ≤ l.length ∧ i = .int .i64 j ∧ Hid (∀ k x, k < j → l[k]? = some x → nameOk st x = true)) (fun i => l.length - (intOf i).toNat)
  case atStart => exact ⟨0, Nat.zero_le _, rfl, Lib.hid (fun k x h => absurd h (Nat.not_lt_zero _))⟩
  case round =>
   obtain ⟨j, hj, rfl, HB⟩ := hrel
   by_cases hlt : j < l.length
   ·have hltz : (j : Int) < (l.length : Int) := by omega
    obtain ⟨x, hx⟩ : ∃ x, l[j]? = some x := ⟨_, List.getElem?_eq_getElem hlt⟩
    have c1 := HD.out j x hx
    have HXX := Lib.hid hx
    have hn := isName_any w1 st x
    clear hx
    cases hq : nameOk st x with
    | true =>
     rw [hq] at hn
     have HN := Lib.hid hn
     have HQ := Lib.hid hq
     clear hn hq
     go_wp2_with fail
     refine HN.out.mono ?_
     rintro e w' ⟨rfl, rfl⟩
     go_wp2_with fail
     go_round
     case rel => exact ⟨j + 1, by omega, by go_num, Lib.hid (fun k y hk hy => by
      rcases Nat.lt_succ_iff_lt_or_eq.1 hk with h' | rfl
      ·exact HB.out k y h' hy
      ·rw [HXX.out] at hy; cases hy; exact HQ.out)⟩
     case measure => simp [intOf]; omega
    | false =>
     rw [hq] at hn
     have HN := Lib.hid hn
     have hbad : partsOk st l = false := by
      rw [Bool.eq_false_iff]
      intro h
      have := partsOk_all h x (List.mem_of_getElem? HXX.out)
      rw [hq] at this; cases this
     have HBD := Lib.hid hbad
     clear hn hq hbad
     go_wp2_with fail
     refine HN.out.mono ?_
     rintro e w' ⟨rfl, rfl⟩
     go_wp2_with fail
     go_ret
     exact ⟨HO.out, .inr ⟨HBD.out, rfl⟩⟩
   ·have hltz : ¬ ((j : Int) < (l.length : Int)) := by omega
    have hok : partsOk st l = true := partsOk_mk h5 fun x hx => by
     obtain ⟨k, hk⟩ := List.getElem?_of_mem hx
     exact HB.out k x (by have := (List.getElem?_eq_some_iff.1 hk).1; omega) hk
    have HOK := Lib.hid hok
    clear hok
    go_wp2_with fail
    go_ret
    exact ⟨HO.out, .inl ⟨HOK.out, g, ⟨cap, rfl⟩, HD.out⟩⟩
 ·have h5' : (5 : Int) < (l.length : Int) := by omega
  have hbad : partsOk st l = false := by
   rw [Bool.eq_false_iff]
   intro h
   exact h5 (partsOk_len h)
  have HBD := Lib.hid hbad
  clear hbad h5
  go_enter Tryz.func174, Tryz.ntmps174
  go_wp2_with fail
  refine HC.out.mono ?_
  rintro e w1 ⟨g, cap, rfl, hrow, ho⟩
  have HO := Lib.hid ho
  clear ho hrow
  go_wp2_with fail
  go_ret
  exact ⟨HO.out, .inr ⟨HBD.out, rfl⟩⟩

set_option maxRecDepth 100000 in
theorem isPath_any (w : World) (s : B) (hs : s.length ≤ 999999) : Calls Tryz.prog 104 #[S s] w fun e w' => e = .returned (.bool (pathOk s)) ∧ Ext w w' := by
 have HP := Lib.hid (refParts_any w false s hs)
 obtain ⟨r, hr⟩ : ∃ r, r = pathOk s := ⟨_, rfl⟩
 rw [← hr]
 have HR := Lib.hid hr
 obtain ⟨m, hm⟩ : ∃ m, (cut s).length = m + 1 := ⟨(cut s).length - 1, by have := cut_pos s; omega⟩
 have HM := Lib.hid hm
 have h0 : (0 : Int) < (m : Int) + 1 := by omega
 clear hr hm
 go_enter Tryz.func104, Tryz.ntmps104
 go_wp2_with fail
 refine HP.out.mono ?_
 rintro e w' ⟨ho, ⟨hok, g, cap, rfl, _⟩ | ⟨hok, rfl⟩⟩
 ·have HO := Lib.hid ho
  have hr : r = true := HR.out.trans hok
  subst hr
  rw [HM.out]
  clear ho hok
  go_wp2_with fail
  go_ret
  exact ⟨rfl, HO.out⟩
 ·have HO := Lib.hid ho
  have hr : r = false := HR.out.trans hok
  subst hr
  clear ho hok
  go_wp2_with fail
  go_ret
  exact ⟨rfl, HO.out⟩

end Go.Proofs.YtnmhaipjfpongacGreatDoor

namespace Go.Proofs.YtnmhaipjfpongacGreatDoor
open Go.ChangeShapes Go.WideShapes Go.ChangeAt Go.RowKit

theorem flat_set {p x : B} : ∀ (L : FL) (j : Nat), j < L.length → (L.set j (p, x)).flatMap encF = ((L.flatMap encF).set (j * 2) (S p)).set (j * 2 + 1) (S x)
 | [], j, h => by simp at h
 | q :: L, 0, _ => by simp [encF]
 | q :: L, j + 1, h => by
  have := flat_set (p := p) (x := x) L j (by simpa using h)
  rw [List.set_cons_succ, List.flatMap_cons, this, List.flatMap_cons]
  simp only [encF, List.cons_append, List.nil_append]
  rw [show (j + 1) * 2 = j * 2 + 1 + 1 by omega]
  simp only [List.set_cons_succ]

theorem RDone.stored {w w1 : World} {base m b cap j : Nat} {slv : Value} {L : FL} {p x : B} {r : Value} (_ : RTree w base m slv L) (hv : slv = .slice (some ⟨b, 0, none⟩) L.length cap) (h1 : RTree w1 base m (.slice (some ⟨b, 0, none⟩) L.length cap) L) (hx : Ext w w1) (hj : j < L.length) :
  RDone w base m slv (L.set j (p, x)) r (.returned r) ((w1.setCell ⟨b, j * 2, none⟩ (S p)).setCell ⟨b, j * 2 + 1, none⟩ (S x)) := by
 have hne := h1.ne b rfl
 have r1 := (h1.row.stored (j * 2) (S p)).1
 have r2 := (r1.stored (j * 2 + 1) (S x)).1
 rw [← flat_set L j hj] at r2
 have o1 := Only.set (p := fun i => i = b) (w := w1) (a := ⟨b, j * 2, none⟩) (S p) rfl
 have o2 := o1.thenSet (x := ⟨b, j * 2 + 1, none⟩) (S x) (.inl rfl)
 refine ⟨slv, rfl, ⟨o2.heapOf (by rw [hv]; exact h1.cells) (fun e => hne e.symm), ?_⟩, Only.after hx (o2.mono fun i _ e => .inr (by rw [hv, e]; rfl)), fun _ h => .inl h⟩
 rw [hv, List.length_set]
 exact r2

end Go.Proofs.YtnmhaipjfpongacGreatDoor

namespace Go.Proofs.YtnmhaipjfpongacGreatDoor
open Go.ChangeShapes Go.WideShapes Go.ChangeAt Go.RowKit

theorem flat_one (l : List B) : l.flatMap (fun s => [S s]) = l.map S := by
 induction l with
 | nil => rfl
 | cons x l ih => rw [List.flatMap_cons, ih]; rfl

end Go.Proofs.YtnmhaipjfpongacGreatDoor
