/- Texts of this seat laid together for one claim: V7, V8, T5, V10, V11. No condition of its own: what each proves stands with its theorems. -/
import Derived.Deep.AppendLies
import Derived.Laws.AppendOwnNone
import Derived.Test.YtnmhaipjfpongacGreatDoorPA0
import Derived.Test.YtnmhaipjfpongacGreatDoorPA8
import Derived.Test.YtnmhaipjfpongacGreatDoorPA6
import Derived.Test.YtnmhaipjfpongacGreatDoorPA5
namespace Go.Proofs.YtnmhaipjfpongacGreatDoor
open Go.ChangeShapes Go.WideShapes Go.ChangeAt Go.RowKit

abbrev encF (p : B × B) : List Value := [S p.1, S p.2]
theorem encF_len (p : B × B) : (encF p).length = 2 := rfl
def fndT (L : List (B × B)) (k : B) : Int := match L.findIdx? (fun p => p.1 == k) with | some i => (i : Int) | none => -1

theorem fndT_hit {L : List (B × B)} {k : B} {j : Nat} {p : B × B} (hp : L[j]? = some p) (hk : p.1 = k) (hb : ∀ i (q : B × B), i < j → L[i]? = some q → q.1 ≠ k) : fndT L k = (j : Int) := by
 have hj := (List.getElem?_eq_some_iff.1 hp).1
 have : L.findIdx? (fun p => p.1 == k) = some j := by
  rw [List.findIdx?_eq_some_iff_getElem]
  refine ⟨hj, ?_, fun i hi => ?_⟩
  ·have := (List.getElem?_eq_some_iff.1 hp).2
   rw [this, hk]; simp
  ·have := hb i L[i] hi (List.getElem?_eq_getElem (by omega))
   simpa using this
 unfold fndT
 rw [this]

theorem fndT_miss {L : List (B × B)} {k : B} (hb : ∀ (i : Nat) (q : B × B), L[i]? = some q → q.1 ≠ k) : fndT L k = -1 := by
 have : L.findIdx? (fun p => p.1 == k) = none := by
  rw [List.findIdx?_eq_none_iff]
  intro q hq
  obtain ⟨i, hi⟩ := List.getElem?_of_mem hq
  have := hb i q hi
  simpa using this
 unfold fndT
 rw [this]

set_option maxHeartbeats 1000000 in
theorem findT_any (w : World) (m : Nat) (slv : Value) (L : List (B × B)) (k : B) (hm : w.heap[m]? = some (.cells #[slv] 147 (0, 0))) (hr : RdS 2 encF w slv L) (hl : L.length ≤ 1000000) :
  Calls Tryz.prog 98 #[.pointer (some ⟨m, 0, none⟩), S k] w fun e w' => e = .returned (I (fndT L k)) ∧ w = w' := by
 obtain ⟨a, cap, rfl, _, _, hc⟩ := hr
 have c1 : w.cell? ⟨m, 0, none⟩ = some (.slice a L.length cap) := (cell_of_heap hm 0).trans rfl
 obtain ⟨r, hR⟩ : ∃ r, Hid (r = fndT L k) := ⟨_, Lib.hid rfl⟩
 rw [← hR.out]
 have HC := Lib.hid hc
 clear hc hm
 go_enter Tryz.func98, Tryz.ntmps98
 go_wp2_with fail
 go_loop [5] (fun i => ∃ j : Nat, j ≤ L.length ∧ i = .int .i64 j ∧ Hid (∀ i q, i < j → L[i]? = some q → q.1 ≠ k)) (fun i => L.length - (intOf i).toNat)
 case atStart => exact ⟨0, Nat.zero_le _, rfl, Lib.hid (fun i q h => absurd h (Nat.not_lt_zero _))⟩
 case round =>
  obtain ⟨j, hj, rfl, hb⟩ := hrel
  by_cases hlt : j < L.length
  ·have hltz : (j : Int) < (L.length : Int) := by omega
   obtain ⟨b, off, rfl, hcell⟩ := HC.out (by intro h; rw [h] at hlt; simp at hlt)
   obtain ⟨⟨k', x⟩, hp⟩ : ∃ y, L[j]? = some y := ⟨_, List.getElem?_eq_getElem hlt⟩
   have d0 : w.cell? ⟨b, off + j * 2, none⟩ = some (S k') := hcell j _ hp 0 _ rfl
   have HP := Lib.hid hp
   clear hcell hp
   by_cases hk : k' = k
   ·have HK := Lib.hid hk
    rw [hk] at d0
    clear hk
    go_wp2_with fail
    go_ret
    exact ⟨(by rw [hR.out, fndT_hit HP.out HK.out hb.out]; rfl), rfl⟩
   ·have hkf : (k' == k) = false := beq_eq_false_iff_ne.2 hk
    have HK := Lib.hid hk
    clear hk
    go_wp2_with fail
    go_round
    case rel => exact ⟨j + 1, by omega, by go_num, Lib.hid (fun i q hi hq => by
     rcases Nat.lt_succ_iff_lt_or_eq.1 hi with h | rfl
     ·exact hb.out i q h hq
     ·rw [HP.out] at hq; cases hq; exact HK.out)⟩
    case measure => simp [intOf]; omega
  ·have hltz : ¬ ((j : Int) < (L.length : Int)) := by omega
   go_wp2_with fail
   go_ret
   exact ⟨(by rw [hR.out, fndT_miss (fun i q hq => hb.out i q (by have := (List.getElem?_eq_some_iff.1 hq).1; omega) hq)]; rfl), rfl⟩


theorem wpList_appL {P : Program} {α : Type} (enc : α → List Value) (t e : TypeId) (n by_ : Nat) (z : Value) (hinfo : (P.info? e).map (fun i => (i.zero, i.size, i.bytes)) = some (some z, n, by_)) (ht : P.underlying t = some (.slice e)) (hzs : z.cells.size = n) (hn0 : 0 < n)
  (hlen : ∀ x, (enc x).length = n) (h1c : ∀ x, ∀ u ∈ enc x, u.oneCell' = true) (hby : by_ ≤ 1000)
  {ops : Array Oper} {rest : List Oper} {o : Oper} {a : Act} {Q : Exit → Act → World → Prop} (s x : Operand) (base : Nat) (v : Value) (l k : List α) (W : World) (hgd : o.guard = none)
  (ho : o.op = .call { callee := .builtin .append, args := #[s, x], argTypes := #[t, t] }) (hs : a.eval s = v) (ao : Option Addr) (m c : Nat) (hx : a.eval x = .slice ao m c) (hmk : m = k.length)
  (hsrc : (ao = none ∧ k = [] ∧ c = 0) ∨ ∃ ad, ao = some ad ∧ ∀ j u, (k.flatMap enc)[j]? = some u → W.cell? (ad.add j) = some u)
  (hrow : W.ownsRow base e n v l.length (l.flatMap enc)) (hl : l.length + k.length ≤ 1000000) (hbase : base ≤ W.heap.size)
  (hK : ∀ ao' m' cap w', m' = (l ++ k).length → w'.ownsRow base e n (.slice ao' m' cap) (l ++ k).length ((l ++ k).flatMap enc) → W.grownBy w' v.ownBlock → (∀ i, Value.ownBlock (.slice ao' m' cap) = some i → v.ownBlock = some i ∨ W.heap.size ≤ i) →
   wpList P ops Q rest (a.put o.dst (.slice ao' m' cap)) w') :
  wpList P ops Q (o :: rest) a W := by
 subst hmk
 obtain ⟨i0, hi, hz0, hz1, hz2⟩ := info_parts hinfo
 have hb : (l.length + k.length) * by_ ≤ 1000001 * 1000 := Nat.mul_le_mul (by omega) hby
 have hform : ∀ {W' : World} {v' : Value} {n' : Nat} {xs : List Value}, W'.ownsRow base e n v' n' xs → ∃ ao' cap, v' = .slice ao' n' cap := fun h => by
  rcases h.2 with ⟨rfl, rfl⟩ | ⟨g, cap, _, rfl, _⟩
  ·exact ⟨none, 0, rfl⟩
  ·exact ⟨_, cap, rfl⟩
 rcases hsrc with ⟨rfl, rfl, rfl⟩ | ⟨ad, rfl, hcells⟩
 ·refine wpList_append_own_none hgd s x t ho base e i0 n ht hi v l.length (l.flatMap enc) hs hrow hx ?_
  obtain ⟨ao', cap, hv⟩ := hform hrow
  have hgr : W.grownBy W v.ownBlock := Only.grown (Only.refl _ W)
  rw [hv] at hrow hgr ⊢
  have e1 : l ++ [] = l := List.append_nil l
  have := hK ao' _ cap W rfl
  rw [e1] at this
  rw [hv] at this
  exact this hrow hgr (fun i h => .inl h)
 ·refine wpList_plain hgd fun K hK' => ?_
  have h1 : ∀ u ∈ k.flatMap enc, u.oneCell' = true := fun u hu => by
   obtain ⟨y, _, hy⟩ := List.mem_flatMap.1 hu
   exact h1c y u hy
  obtain ⟨v', w', hr, h2, h3, _, h5⟩ := run_append_own_at (P := P) W base t o.type e i0 z n by_ ht hi hz0 hz1 hz2 hzs hn0 v l.length (l.flatMap enc) hrow ad k.length c (k.flatMap enc) (flat_len hlen k) hcells h1 (by unfold maxLen; omega) (by omega) hbase
  obtain ⟨ao', cap, rfl⟩ := hform h2
  unfold Oper.wp execOp
  simp only [ho, resolve, invoke, builtin, Sem.run_bind, Sem.run_pure, Result.andThen_ok, List.map_toArray, List.map_cons, List.map_nil, hs, hx, hr]
  have e1 : (l ++ k).length = l.length + k.length := List.length_append
  have := hK ao' _ cap w' rfl
  rw [e1, List.flatMap_append] at this
  refine hK' _ _ (this h2 h3 fun i hi' => ?_)
  rcases h5 with h5 | h5
  ·exact .inl (h5 ▸ hi')
  ·right
   rw [h5] at hi'
   have := Option.some.inj hi'
   omega
end Go.Proofs.YtnmhaipjfpongacGreatDoor

namespace Go.Proofs.YtnmhaipjfpongacGreatDoor
open Go.ChangeShapes Go.WideShapes Go.ChangeAt Go.RowKit

structure RTree (w : World) (base m : Nat) (slv : Value) (L : FL) : Prop where
 cells : w.heap[m]? = some (.cells #[slv] 147 (0, 0))
 row : w.ownsRow base 65 2 slv L.length (L.flatMap encF)

theorem RTree.rd {w : World} {base m : Nat} {slv : Value} {L : FL} (h : RTree w base m slv L) : RdS 2 encF w slv L := RdS.of_row encF_len h.row
theorem RTree.ne {w : World} {base m : Nat} {slv : Value} {L : FL} (h : RTree w base m slv L) : ∀ i, slv.ownBlock = some i → i ≠ m := row_ne h.row h.cells (by decide)
theorem RTree.later {p : Nat → Prop} {w w' : World} {base m : Nat} {slv : Value} {L : FL} (h : RTree w base m slv L) (ho : Only p w w') (h1 : ¬ p m) (h2 : ∀ i, slv.ownBlock = some i → ¬ p i) : RTree w' base m slv L :=
 ⟨ho.heapOf h.cells h1, ho.row h.row h2⟩
theorem RTree.ext {w w' : World} {base m : Nat} {slv : Value} {L : FL} (h : RTree w base m slv L) (ho : Ext w w') : RTree w' base m slv L := h.later ho (fun h => h) (fun _ _ h => h)

def InR (m : Nat) (slv : Value) (i : Nat) : Prop := i = m ∨ slv.ownBlock = some i

def RDone (w : World) (base m : Nat) (slv : Value) (L : FL) (r : Value) (e : Ending) (w' : World) : Prop :=
 ∃ slv', e = .returned r ∧ RTree w' base m slv' L ∧ Only (InR m slv) w w' ∧ ∀ i, slv'.ownBlock = some i → slv.ownBlock = some i ∨ w.heap.size ≤ i

theorem RDone.same {w w' : World} {base m : Nat} {slv : Value} {L : FL} {r : Value} (h : RTree w base m slv L) (ho : Ext w w') : RDone w base m slv L r (.returned r) w' :=
 ⟨slv, rfl, h.ext ho, Only.of_ext ho, fun _ h => .inl h⟩

theorem RDone.laid {w w3 : World} {base m : Nat} {slv v : Value} {L T : FL} {r : Value} (h : RTree w base m slv L) (hx : Ext w w3) (hr : w3.ownsRow base 65 2 v T.length (T.flatMap encF)) (hn : ∀ i, v.ownBlock = some i → w.heap.size ≤ i) :
  RDone w base m slv T r (.returned r) (w3.setCell ⟨m, 0, none⟩ v) := by
 have hm3 := hx.heapOf h.cells (fun h => h)
 have hs := Only.set (p := fun i => i = m) (w := w3) (a := ⟨m, 0, none⟩) v rfl
 have hlt := lt_of_heap h.cells
 refine ⟨v, rfl, ⟨(heap_setCell_same hm3 0 v).trans (by simp), hs.row hr (fun i e e1 => by have := hn i e; omega)⟩, ?_, fun i e => .inr (hn i e)⟩
 exact Only.after hx (hs.mono fun i _ e => .inl e)

end Go.Proofs.YtnmhaipjfpongacGreatDoor

namespace Go.Proofs.YtnmhaipjfpongacGreatDoor
open Go.ChangeShapes Go.WideShapes Go.ChangeAt Go.RowKit

theorem rowRd {W : World} {base : Nat} {g cap n : Nat} {l : List B} (h : W.ownsRow base 9 1 (.slice (some ⟨g, 0, none⟩) n cap) n (l.map S)) : ∀ i x, l[i]? = some x → W.cell? ⟨g, i, none⟩ = some (S x) := fun i x hx => by
 rcases h.2 with ⟨h2, _⟩ | ⟨g', cap', cur, hv, _, hh, _, _, hs, ht⟩
 ·cases h2
 ·cases hv
  have hn : l.length = n := by simpa using h.1
  have hi : i < l.length := (List.getElem?_eq_some_iff.1 hx).1
  have hcell : cur[i]? = (cur.toList.take (n * 1))[i]? := by rw [List.getElem?_take_of_lt (by omega)]; simp
  rw [ht, List.getElem?_map, hx] at hcell
  rw [cell_of_heap hh]
  simpa using hcell

def RefPartsIs (w : World) (st : Bool) (s : B) (e : Ending) (w' : World) : Prop :=
 Ext w w' ∧ ((partsOk st (cut s) = true ∧ ∃ g cap, e = .returned (.slice (some ⟨g, 0, none⟩) (cut s).length cap) ∧ ∀ i x, (cut s)[i]? = some x → w'.cell? ⟨g, i, none⟩ = some (S x)) ∨ (partsOk st (cut s) = false ∧ e = .returned (.slice none 0 0)))

set_option maxRecDepth 100000 in
set_option maxHeartbeats 1000000 in
theorem refParts_any (w : World) (st : Bool) (s : B) (hs : s.length ≤ 999999) : Calls Tryz.prog 174 #[S s, .bool st] w (RefPartsIs w st s) := by
 have HC := Lib.hid (refCut_any w s hs)
 have hcl := cut_len_le s
 obtain ⟨l, hl⟩ : ∃ l, l = cut s := ⟨_, rfl⟩
 unfold RefPartsIs
 rw [← hl] at hcl HC ⊢
 have hll : l.length ≤ 1000000 := by omega
 clear hl hs hcl
 by_cases h5 : l.length ≤ 5
 ·have h5' : ¬ ((5 : Int) < (l.length : Int)) := by omega
  go_enter Tryz.func174, Tryz.ntmps174
  go_wp2_with fail
  refine HC.out.mono ?_
  rintro e w1 ⟨g, cap, rfl, hrow, ho⟩
  have HO := Lib.hid ho
  have HD := Lib.hid (rowRd hrow)
  clear ho hrow
  go_wp2_with fail
  go_loop [6] (fun i => ∃ j : Nat, j ≤ l.length ∧ i = .int .i64 j ∧ Hid (∀ k x, k < j → l[k]? = some x → nameOk st x = true)) (fun i => l.length - (intOf i).toNat)
  case atStart => exact ⟨0, Nat.zero_le _, rfl, Lib.hid (fun k x h => absurd h (Nat.not_lt_zero _))⟩
  case round =>
   obtain ⟨j, hj, rfl, HB⟩ := hrel
   by_cases hlt : j < l.length
   ·have hltz : (j : Int) < (l.length : Int) := by omega
    obtain ⟨x, hx⟩ : ∃ x, l[j]? = some x := ⟨_, List.getElem?_eq_getElem hlt⟩
    have c1 := HD.out j x hx
    have HXX := Lib.hid hx
    have hn := isName_any w1 st x
    clear hx
    cases hq : nameOk st x with
    | true =>
     rw [hq] at hn
     have HN := Lib.hid hn
     have HQ := Lib.hid hq
     clear hn hq
     go_wp2_with fail
     refine HN.out.mono ?_
     rintro e w' ⟨rfl, rfl⟩
     go_wp2_with fail
     go_round
     case rel => exact ⟨j + 1, by omega, by go_num, Lib.hid (fun k y hk hy => by
      rcases Nat.lt_succ_iff_lt_or_eq.1 hk with h' | rfl
      ·exact HB.out k y h' hy
      ·rw [HXX.out] at hy; cases hy; exact HQ.out)⟩
     case measure => simp [intOf]; omega
    | false =>
     rw [hq] at hn
     have HN := Lib.hid hn
     have hbad : partsOk st l = false := by
      rw [Bool.eq_false_iff]
      intro h
      have := partsOk_all h x (List.mem_of_getElem? HXX.out)
      rw [hq] at this; cases this
     have HBD := Lib.hid hbad
     clear hn hq hbad
     go_wp2_with fail
     refine HN.out.mono ?_
     rintro e w' ⟨rfl, rfl⟩
     go_wp2_with fail
     go_ret
     exact ⟨HO.out, .inr ⟨HBD.out, rfl⟩⟩
   ·have hltz : ¬ ((j : Int) < (l.length : Int)) := by omega
    have hok : partsOk st l = true := partsOk_mk h5 fun x hx => by
     obtain ⟨k, hk⟩ := List.getElem?_of_mem hx
     exact HB.out k x (by have := (List.getElem?_eq_some_iff.1 hk).1; omega) hk
    have HOK := Lib.hid hok
    clear hok
    go_wp2_with fail
    go_ret
    exact ⟨HO.out, .inl ⟨HOK.out, g, ⟨cap, rfl⟩, HD.out⟩⟩
 ·have h5' : (5 : Int) < (l.length : Int) := by omega
  have hbad : partsOk st l = false := by
   rw [Bool.eq_false_iff]
   intro h
   exact h5 (partsOk_len h)
  have HBD := Lib.hid hbad
  clear hbad h5
  go_enter Tryz.func174, Tryz.ntmps174
  go_wp2_with fail
  refine HC.out.mono ?_
  rintro e w1 ⟨g, cap, rfl, hrow, ho⟩
  have HO := Lib.hid ho
  clear ho hrow
  go_wp2_with fail
  go_ret
  exact ⟨HO.out, .inr ⟨HBD.out, rfl⟩⟩

set_option maxRecDepth 100000 in
theorem isPath_any (w : World) (s : B) (hs : s.length ≤ 999999) : Calls Tryz.prog 104 #[S s] w fun e w' => e = .returned (.bool (pathOk s)) ∧ Ext w w' := by
 have HP := Lib.hid (refParts_any w false s hs)
 obtain ⟨r, hr⟩ : ∃ r, r = pathOk s := ⟨_, rfl⟩
 rw [← hr]
 have HR := Lib.hid hr
 obtain ⟨m, hm⟩ : ∃ m, (cut s).length = m + 1 := ⟨(cut s).length - 1, by have := cut_pos s; omega⟩
 have HM := Lib.hid hm
 have h0 : (0 : Int) < (m : Int) + 1 := by omega
 clear hr hm
 go_enter Tryz.func104, Tryz.ntmps104
 go_wp2_with fail
 refine HP.out.mono ?_
 rintro e w' ⟨ho, ⟨hok, g, cap, rfl, _⟩ | ⟨hok, rfl⟩⟩
 ·have HO := Lib.hid ho
  have hr : r = true := HR.out.trans hok
  subst hr
  rw [HM.out]
  clear ho hok
  go_wp2_with fail
  go_ret
  exact ⟨rfl, HO.out⟩
 ·have HO := Lib.hid ho
  have hr : r = false := HR.out.trans hok
  subst hr
  clear ho hok
  go_wp2_with fail
  go_ret
  exact ⟨rfl, HO.out⟩

end Go.Proofs.YtnmhaipjfpongacGreatDoor

namespace Go.Proofs.YtnmhaipjfpongacGreatDoor
open Go.ChangeShapes Go.WideShapes Go.ChangeAt Go.RowKit

theorem flat_set {p x : B} : ∀ (L : FL) (j : Nat), j < L.length → (L.set j (p, x)).flatMap encF = ((L.flatMap encF).set (j * 2) (S p)).set (j * 2 + 1) (S x)
 | [], j, h => by simp at h
 | q :: L, 0, _ => by simp [encF]
 | q :: L, j + 1, h => by
  have := flat_set (p := p) (x := x) L j (by simpa using h)
  rw [List.set_cons_succ, List.flatMap_cons, this, List.flatMap_cons]
  simp only [encF, List.cons_append, List.nil_append]
  rw [show (j + 1) * 2 = j * 2 + 1 + 1 by omega]
  simp only [List.set_cons_succ]

theorem RDone.stored {w w1 : World} {base m b cap j : Nat} {slv : Value} {L : FL} {p x : B} {r : Value} (_ : RTree w base m slv L) (hv : slv = .slice (some ⟨b, 0, none⟩) L.length cap) (h1 : RTree w1 base m (.slice (some ⟨b, 0, none⟩) L.length cap) L) (hx : Ext w w1) (hj : j < L.length) :
  RDone w base m slv (L.set j (p, x)) r (.returned r) ((w1.setCell ⟨b, j * 2, none⟩ (S p)).setCell ⟨b, j * 2 + 1, none⟩ (S x)) := by
 have hne := h1.ne b rfl
 have r1 := (h1.row.stored (j * 2) (S p)).1
 have r2 := (r1.stored (j * 2 + 1) (S x)).1
 rw [← flat_set L j hj] at r2
 have o1 := Only.set (p := fun i => i = b) (w := w1) (a := ⟨b, j * 2, none⟩) (S p) rfl
 have o2 := o1.thenSet (x := ⟨b, j * 2 + 1, none⟩) (S x) (.inl rfl)
 refine ⟨slv, rfl, ⟨o2.heapOf (by rw [hv]; exact h1.cells) (fun e => hne e.symm), ?_⟩, Only.after hx (o2.mono fun i _ e => .inr (by rw [hv, e]; rfl)), fun _ h => .inl h⟩
 rw [hv, List.length_set]
 exact r2

end Go.Proofs.YtnmhaipjfpongacGreatDoor

namespace Go.Proofs.YtnmhaipjfpongacGreatDoor
open Go.ChangeShapes Go.WideShapes Go.ChangeAt Go.RowKit

theorem row_geT {w : World} {base : Nat} {e : TypeId} {size : Nat} {v : Value} {n : Nat} {xs : List Value} (h : w.ownsRow base e size v n xs) : ∀ i, v.ownBlock = some i → base ≤ i := fun i hi => (h.lt i hi).1

theorem grown_baseT {w0 wr w' : World} (I : Ext w0 wr) {v : Value} (hv : ∀ i, v.ownBlock = some i → w0.heap.size ≤ i) (hg : wr.grownBy w' v.ownBlock) : Ext w0 w' :=
 I.trans (Only.of_grown hg) (fun _ _ h => h) (fun i hi h => absurd (hv i h) (by omega))

theorem flat_one (l : List B) : l.flatMap (fun s => [S s]) = l.map S := by
 induction l with
 | nil => rfl
 | cons x l ih => rw [List.flatMap_cons, ih]; rfl

end Go.Proofs.YtnmhaipjfpongacGreatDoor
