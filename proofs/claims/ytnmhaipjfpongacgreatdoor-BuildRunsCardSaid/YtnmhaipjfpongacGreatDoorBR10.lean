/- Texts of this seat laid together for one claim: V7, V8, V9. No condition of its own: what each proves stands with its theorems. -/
import Derived.Deep.AppendLies
import Derived.Laws.AppendOwnNone
import Derived.Test.YtnmhaipjfpongacGreatDoorBR0
import Derived.Test.YtnmhaipjfpongacGreatDoorBR9
import Derived.Test.YtnmhaipjfpongacGreatDoorBR7
namespace Go.Proofs.YtnmhaipjfpongacGreatDoor
open Go.ChangeShapes Go.WideShapes Go.ChangeAt Go.RowKit

abbrev encF (p : B × B) : List Value := [S p.1, S p.2]
theorem encF_len (p : B × B) : (encF p).length = 2 := rfl
theorem encF_one (p : B × B) : ∀ u ∈ encF p, u.oneCell' = true := by
 intro u hu
 rcases List.mem_cons.1 hu with rfl | hu
 ·rfl
 ·rcases List.mem_cons.1 hu with rfl | hu
  ·rfl
  ·cases hu
theorem infoFile : (Tryz.prog.info? 65).map (fun i => (i.zero, i.size, i.bytes)) = some (some (.agg #[.string ⟨#[]⟩, .string ⟨#[]⟩]), 2, 32) := by kernel_rfl

def fndT (L : List (B × B)) (k : B) : Int := match L.findIdx? (fun p => p.1 == k) with | some i => (i : Int) | none => -1

theorem fndT_hit {L : List (B × B)} {k : B} {j : Nat} {p : B × B} (hp : L[j]? = some p) (hk : p.1 = k) (hb : ∀ i (q : B × B), i < j → L[i]? = some q → q.1 ≠ k) : fndT L k = (j : Int) := by
 have hj := (List.getElem?_eq_some_iff.1 hp).1
 have : L.findIdx? (fun p => p.1 == k) = some j := by
  rw [List.findIdx?_eq_some_iff_getElem]
  refine ⟨hj, ?_, fun i hi => ?_⟩
  ·have := (List.getElem?_eq_some_iff.1 hp).2
   rw [this, hk]; simp
  ·have := hb i L[i] hi (List.getElem?_eq_getElem (by omega))
   simpa using this
 unfold fndT
 rw [this]

theorem fndT_miss {L : List (B × B)} {k : B} (hb : ∀ (i : Nat) (q : B × B), L[i]? = some q → q.1 ≠ k) : fndT L k = -1 := by
 have : L.findIdx? (fun p => p.1 == k) = none := by
  rw [List.findIdx?_eq_none_iff]
  intro q hq
  obtain ⟨i, hi⟩ := List.getElem?_of_mem hq
  have := hb i q hi
  simpa using this
 unfold fndT
 rw [this]

theorem lookup_of_fndT {L : List (B × B)} {k : B} : (fndT L k = -1 ∧ L.lookup k = none) ∨ ∃ (j : Nat) (x : B), fndT L k = (j : Int) ∧ L[j]? = some (k, x) ∧ L.lookup k = some x := by
 induction L with
 | nil => exact .inl ⟨rfl, rfl⟩
 | cons p L ih =>
  obtain ⟨k', x⟩ := p
  by_cases h : k' = k
  ·subst h
   exact .inr ⟨0, x, by simp [fndT, List.findIdx?_cons], rfl, by simp⟩
  ·have h' : ¬ k = k' := fun e => h e.symm
   have hl : ((k', x) :: L).lookup k = L.lookup k := by simp [List.lookup, beq_eq_false_iff_ne.2 h']
   rw [hl]
   have hf : ((k', x) :: L).findIdx? (fun p => p.1 == k) = (L.findIdx? (fun p => p.1 == k)).map (· + 1) := by simp [List.findIdx?_cons, h]
   rcases ih with ⟨h1, h2⟩ | ⟨j, y, h1, h2, h3⟩
   ·refine .inl ⟨?_, h2⟩
    unfold fndT at h1 ⊢
    rw [hf]
    cases hq : L.findIdx? (fun p => p.1 == k) with
    | none => rfl
    | some i => rw [hq] at h1; simp at h1 <;> omega
   ·refine .inr ⟨j + 1, y, ?_, by simpa using h2, h3⟩
    unfold fndT at h1 ⊢
    rw [hf]
    cases hq : L.findIdx? (fun p => p.1 == k) with
    | none => rw [hq] at h1; simp at h1 <;> omega
    | some i => rw [hq] at h1; simp at h1 ⊢; omega

set_option maxHeartbeats 1000000 in
theorem findT_any (w : World) (m : Nat) (slv : Value) (L : List (B × B)) (k : B) (hm : w.heap[m]? = some (.cells #[slv] 147 (0, 0))) (hr : RdS 2 encF w slv L) (hl : L.length ≤ 1000000) :
  Calls Tryz.prog 98 #[.pointer (some ⟨m, 0, none⟩), S k] w fun e w' => e = .returned (I (fndT L k)) ∧ w = w' := by
 obtain ⟨a, cap, rfl, _, _, hc⟩ := hr
 have c1 : w.cell? ⟨m, 0, none⟩ = some (.slice a L.length cap) := (cell_of_heap hm 0).trans rfl
 obtain ⟨r, hR⟩ : ∃ r, Hid (r = fndT L k) := ⟨_, Lib.hid rfl⟩
 rw [← hR.out]
 have HC := Lib.hid hc
 clear hc hm
 go_enter Tryz.func98, Tryz.ntmps98
 go_wp2_with fail
 go_loop [5] (fun i => ∃ j : Nat, j ≤ L.length ∧ i = .int .i64 j ∧ Hid (∀ i q, i < j → L[i]? = some q → q.1 ≠ k)) (fun i => L.length - (intOf i).toNat)
 case atStart => exact ⟨0, Nat.zero_le _, rfl, Lib.hid (fun i q h => absurd h (Nat.not_lt_zero _))⟩
 case round =>
  obtain ⟨j, hj, rfl, hb⟩ := hrel
  by_cases hlt : j < L.length
  ·have hltz : (j : Int) < (L.length : Int) := by omega
   obtain ⟨b, off, rfl, hcell⟩ := HC.out (by intro h; rw [h] at hlt; simp at hlt)
   obtain ⟨⟨k', x⟩, hp⟩ : ∃ y, L[j]? = some y := ⟨_, List.getElem?_eq_getElem hlt⟩
   have d0 : w.cell? ⟨b, off + j * 2, none⟩ = some (S k') := hcell j _ hp 0 _ rfl
   have HP := Lib.hid hp
   clear hcell hp
   by_cases hk : k' = k
   ·have HK := Lib.hid hk
    rw [hk] at d0
    clear hk
    go_wp2_with fail
    go_ret
    exact ⟨(by rw [hR.out, fndT_hit HP.out HK.out hb.out]; rfl), rfl⟩
   ·have hkf : (k' == k) = false := beq_eq_false_iff_ne.2 hk
    have HK := Lib.hid hk
    clear hk
    go_wp2_with fail
    go_round
    case rel => exact ⟨j + 1, by omega, by go_num, Lib.hid (fun i q hi hq => by
     rcases Nat.lt_succ_iff_lt_or_eq.1 hi with h | rfl
     ·exact hb.out i q h hq
     ·rw [HP.out] at hq; cases hq; exact HK.out)⟩
    case measure => simp [intOf]; omega
  ·have hltz : ¬ ((j : Int) < (L.length : Int)) := by omega
   go_wp2_with fail
   go_ret
   exact ⟨(by rw [hR.out, fndT_miss (fun i q hq => hb.out i q (by have := (List.getElem?_eq_some_iff.1 hq).1; omega) hq)]; rfl), rfl⟩


theorem wpList_appL {P : Program} {α : Type} (enc : α → List Value) (t e : TypeId) (n by_ : Nat) (z : Value) (hinfo : (P.info? e).map (fun i => (i.zero, i.size, i.bytes)) = some (some z, n, by_)) (ht : P.underlying t = some (.slice e)) (hzs : z.cells.size = n) (hn0 : 0 < n)
  (hlen : ∀ x, (enc x).length = n) (h1c : ∀ x, ∀ u ∈ enc x, u.oneCell' = true) (hby : by_ ≤ 1000)
  {ops : Array Oper} {rest : List Oper} {o : Oper} {a : Act} {Q : Exit → Act → World → Prop} (s x : Operand) (base : Nat) (v : Value) (l k : List α) (W : World) (hgd : o.guard = none)
  (ho : o.op = .call { callee := .builtin .append, args := #[s, x], argTypes := #[t, t] }) (hs : a.eval s = v) (ao : Option Addr) (m c : Nat) (hx : a.eval x = .slice ao m c) (hmk : m = k.length)
  (hsrc : (ao = none ∧ k = [] ∧ c = 0) ∨ ∃ ad, ao = some ad ∧ ∀ j u, (k.flatMap enc)[j]? = some u → W.cell? (ad.add j) = some u)
  (hrow : W.ownsRow base e n v l.length (l.flatMap enc)) (hl : l.length + k.length ≤ 1000000) (hbase : base ≤ W.heap.size)
  (hK : ∀ ao' m' cap w', m' = (l ++ k).length → w'.ownsRow base e n (.slice ao' m' cap) (l ++ k).length ((l ++ k).flatMap enc) → W.grownBy w' v.ownBlock → (∀ i, Value.ownBlock (.slice ao' m' cap) = some i → v.ownBlock = some i ∨ W.heap.size ≤ i) →
   wpList P ops Q rest (a.put o.dst (.slice ao' m' cap)) w') :
  wpList P ops Q (o :: rest) a W := by
 subst hmk
 obtain ⟨i0, hi, hz0, hz1, hz2⟩ := info_parts hinfo
 have hb : (l.length + k.length) * by_ ≤ 1000001 * 1000 := Nat.mul_le_mul (by omega) hby
 have hform : ∀ {W' : World} {v' : Value} {n' : Nat} {xs : List Value}, W'.ownsRow base e n v' n' xs → ∃ ao' cap, v' = .slice ao' n' cap := fun h => by
  rcases h.2 with ⟨rfl, rfl⟩ | ⟨g, cap, _, rfl, _⟩
  ·exact ⟨none, 0, rfl⟩
  ·exact ⟨_, cap, rfl⟩
 rcases hsrc with ⟨rfl, rfl, rfl⟩ | ⟨ad, rfl, hcells⟩
 ·refine wpList_append_own_none hgd s x t ho base e i0 n ht hi v l.length (l.flatMap enc) hs hrow hx ?_
  obtain ⟨ao', cap, hv⟩ := hform hrow
  have hgr : W.grownBy W v.ownBlock := Only.grown (Only.refl _ W)
  rw [hv] at hrow hgr ⊢
  have e1 : l ++ [] = l := List.append_nil l
  have := hK ao' _ cap W rfl
  rw [e1] at this
  rw [hv] at this
  exact this hrow hgr (fun i h => .inl h)
 ·refine wpList_plain hgd fun K hK' => ?_
  have h1 : ∀ u ∈ k.flatMap enc, u.oneCell' = true := fun u hu => by
   obtain ⟨y, _, hy⟩ := List.mem_flatMap.1 hu
   exact h1c y u hy
  obtain ⟨v', w', hr, h2, h3, _, h5⟩ := run_append_own_at (P := P) W base t o.type e i0 z n by_ ht hi hz0 hz1 hz2 hzs hn0 v l.length (l.flatMap enc) hrow ad k.length c (k.flatMap enc) (flat_len hlen k) hcells h1 (by unfold maxLen; omega) (by omega) hbase
  obtain ⟨ao', cap, rfl⟩ := hform h2
  unfold Oper.wp execOp
  simp only [ho, resolve, invoke, builtin, Sem.run_bind, Sem.run_pure, Result.andThen_ok, List.map_toArray, List.map_cons, List.map_nil, hs, hx, hr]
  have e1 : (l ++ k).length = l.length + k.length := List.length_append
  have := hK ao' _ cap w' rfl
  rw [e1, List.flatMap_append] at this
  refine hK' _ _ (this h2 h3 fun i hi' => ?_)
  rcases h5 with h5 | h5
  ·exact .inl (h5 ▸ hi')
  ·right
   rw [h5] at hi'
   have := Option.some.inj hi'
   omega
end Go.Proofs.YtnmhaipjfpongacGreatDoor

namespace Go.Proofs.YtnmhaipjfpongacGreatDoor
open Go.ChangeShapes Go.WideShapes Go.ChangeAt Go.RowKit

structure RTree (w : World) (base m : Nat) (slv : Value) (L : FL) : Prop where
 cells : w.heap[m]? = some (.cells #[slv] 147 (0, 0))
 row : w.ownsRow base 65 2 slv L.length (L.flatMap encF)

theorem RTree.rd {w : World} {base m : Nat} {slv : Value} {L : FL} (h : RTree w base m slv L) : RdS 2 encF w slv L := RdS.of_row encF_len h.row
theorem RTree.ne {w : World} {base m : Nat} {slv : Value} {L : FL} (h : RTree w base m slv L) : ∀ i, slv.ownBlock = some i → i ≠ m := row_ne h.row h.cells (by decide)
theorem RTree.later {p : Nat → Prop} {w w' : World} {base m : Nat} {slv : Value} {L : FL} (h : RTree w base m slv L) (ho : Only p w w') (h1 : ¬ p m) (h2 : ∀ i, slv.ownBlock = some i → ¬ p i) : RTree w' base m slv L :=
 ⟨ho.heapOf h.cells h1, ho.row h.row h2⟩
theorem RTree.ext {w w' : World} {base m : Nat} {slv : Value} {L : FL} (h : RTree w base m slv L) (ho : Ext w w') : RTree w' base m slv L := h.later ho (fun h => h) (fun _ _ h => h)

def InR (m : Nat) (slv : Value) (i : Nat) : Prop := i = m ∨ slv.ownBlock = some i

def RDone (w : World) (base m : Nat) (slv : Value) (L : FL) (r : Value) (e : Ending) (w' : World) : Prop :=
 ∃ slv', e = .returned r ∧ RTree w' base m slv' L ∧ Only (InR m slv) w w' ∧ ∀ i, slv'.ownBlock = some i → slv.ownBlock = some i ∨ w.heap.size ≤ i

theorem RDone.same {w w' : World} {base m : Nat} {slv : Value} {L : FL} {r : Value} (h : RTree w base m slv L) (ho : Ext w w') : RDone w base m slv L r (.returned r) w' :=
 ⟨slv, rfl, h.ext ho, Only.of_ext ho, fun _ h => .inl h⟩

theorem RDone.laid {w w3 : World} {base m : Nat} {slv v : Value} {L T : FL} {r : Value} (h : RTree w base m slv L) (hx : Ext w w3) (hr : w3.ownsRow base 65 2 v T.length (T.flatMap encF)) (hn : ∀ i, v.ownBlock = some i → w.heap.size ≤ i) :
  RDone w base m slv T r (.returned r) (w3.setCell ⟨m, 0, none⟩ v) := by
 have hm3 := hx.heapOf h.cells (fun h => h)
 have hs := Only.set (p := fun i => i = m) (w := w3) (a := ⟨m, 0, none⟩) v rfl
 have hlt := lt_of_heap h.cells
 refine ⟨v, rfl, ⟨(heap_setCell_same hm3 0 v).trans (by simp), hs.row hr (fun i e e1 => by have := hn i e; omega)⟩, ?_, fun i e => .inr (hn i e)⟩
 exact Only.after hx (hs.mono fun i _ e => .inl e)

theorem part_src {w w' : World} {L : FL} {b off : Nat} (hc : ∀ i x, L[i]? = some x → ∀ j u, (encF x)[j]? = some u → w.cell? ⟨b, off + i * 2 + j, none⟩ = some u) (hx : Ext w w') (k n : Nat) :
  ∀ j u, (((L.drop k).take n).flatMap encF)[j]? = some u → w'.cell? ((⟨b, off + k * 2, none⟩ : Addr).add j) = some u := by
 intro j u hu
 have hlt := (List.getElem?_eq_some_iff.1 hu).1
 rw [flat_len encF_len] at hlt
 have hi : j / 2 < ((L.drop k).take n).length := by omega
 obtain ⟨y, hy⟩ : ∃ y, ((L.drop k).take n)[j / 2]? = some y := ⟨_, List.getElem?_eq_getElem hi⟩
 have hLy : L[k + j / 2]? = some y := by
  rw [List.length_take] at hi
  rw [List.getElem?_take_of_lt (by omega), List.getElem?_drop] at hy
  exact hy
 have h2 : j % 2 < (encF y).length := Nat.mod_lt _ (by decide)
 have hu2 := flat_at encF_len _ _ y hy (j % 2) _ (List.getElem?_eq_getElem h2)
 rw [show j / 2 * 2 + j % 2 = j by omega] at hu2
 rw [hu2] at hu
 cases hu
 have := hx.cellOf (hc _ y hLy (j % 2) _ (List.getElem?_eq_getElem h2)) (fun h => h)
 rw [show off + (k + j / 2) * 2 + j % 2 = off + k * 2 + j by omega] at this
 have hadd : (⟨b, off + k * 2, none⟩ : Addr).add j = ⟨b, off + k * 2 + j, none⟩ := by
  unfold Addr.add
  split
  ·subst_vars; rfl
  ·rfl
 rw [hadd]
 exact this

theorem take_src {w w' : World} {L : FL} {b off : Nat} (hc : ∀ i x, L[i]? = some x → ∀ j u, (encF x)[j]? = some u → w.cell? ⟨b, off + i * 2 + j, none⟩ = some u) (hx : Ext w w') (k : Nat) :
  ∀ j u, ((L.take k).flatMap encF)[j]? = some u → w'.cell? ((⟨b, off, none⟩ : Addr).add j) = some u := by
 have := part_src hc hx 0 k
 rw [List.drop_zero, Nat.zero_mul, Nat.add_zero] at this
 exact this

theorem drop_src {w w' : World} {L : FL} {b off : Nat} (hc : ∀ i x, L[i]? = some x → ∀ j u, (encF x)[j]? = some u → w.cell? ⟨b, off + i * 2 + j, none⟩ = some u) (hx : Ext w w') (k : Nat) :
  ∀ j u, ((L.drop k).flatMap encF)[j]? = some u → w'.cell? ((⟨b, off + k * 2, none⟩ : Addr).add j) = some u := by
 have := part_src hc hx k L.length
 rw [List.take_of_length_le (by rw [List.length_drop]; omega)] at this
 exact this

theorem none_src {w' : World} {L : FL} {b off k : Nat} (h : L.length ≤ k) :
  ∀ j u, ((L.drop k).flatMap encF)[j]? = some u → w'.cell? ((⟨b, off, none⟩ : Addr).add j) = some u := by
 intro j u hu
 rw [List.drop_of_length_le h] at hu
 simp at hu

theorem cut_src {w w' : World} {L : FL} {b off cap k c : Nat} (hc : ∀ i x, L[i]? = some x → ∀ j u, (encF x)[j]? = some u → w.cell? ⟨b, off + i * 2 + j, none⟩ = some u) (hx : Ext w w') (hcap : L.length ≤ cap) {ao : Option Addr}
  (h : (if cap = k then some (⟨b, off, none⟩ : Addr) else some ⟨b, off + k * 2, none⟩) = ao) :
  (ao = none ∧ L.drop k = [] ∧ c = 0) ∨ ∃ ad, ao = some ad ∧ ∀ j u, ((L.drop k).flatMap encF)[j]? = some u → w'.cell? (ad.add j) = some u := by
 by_cases hk : cap = k
 ·rw [if_pos hk] at h
  exact .inr ⟨_, h.symm, none_src (by omega)⟩
 ·rw [if_neg hk] at h
  exact .inr ⟨_, h.symm, drop_src hc hx k⟩

end Go.Proofs.YtnmhaipjfpongacGreatDoor

namespace Go.Proofs.YtnmhaipjfpongacGreatDoor
open Go.ChangeShapes Go.WideShapes Go.ChangeAt Go.RowKit

theorem clash_false {L : FL} {p : B} (h : clash L p = false) {j : Nat} {q : B × B} (hq : L[j]? = some q) : aboveB p q.1 = false ∧ aboveB q.1 p = false := by
 have := List.any_eq_false.1 h q (List.mem_of_getElem? hq)
 simpa using this

theorem clash_none {L : FL} {p : B} (h : clash L p = true) : ¬ ∀ i q, i < L.length → L[i]? = some q → near p q.1 = false := by
 intro hn
 obtain ⟨q, hq, h1⟩ := List.any_eq_true.1 h
 obtain ⟨i, hi⟩ := List.getElem?_of_mem hq
 have := hn i q (List.getElem?_eq_some_iff.1 hi).1 hi
 unfold near at this
 rw [this] at h1
 cases h1

set_option maxRecDepth 100000 in
set_option maxHeartbeats 1000000 in
theorem putM_bad (w : World) (base m : Nat) (slv : Value) (L : FL) (p x : B) (h : RTree w base m slv L) (hp : p.length ≤ 999999) (hk : pathOk p = false) :
  Calls Tryz.prog 30 #[.pointer (some ⟨m, 0, none⟩), S p, S x] w (RDone w base m slv (putT L p x) (I (putCode L p x))) := by
 have HC := isPath_any w p hp
 rw [hk] at HC
 have HC := Lib.hid HC
 have hcode : putCode L p x = 4 := by unfold putCode; rw [hk, if_neg (by decide)]
 have hT : putT L p x = L := by unfold putT; rw [hcode, if_neg (by decide)]
 rw [hcode, hT]
 have H := Lib.hid h
 clear h hp hk hcode hT
 go_enter Tryz.func30, Tryz.ntmps30
 go_wp2_with (go_at_call 104; refine HC.out.mono ?_; rintro e w1 ⟨rfl, ho⟩)
 go_ret
 exact RDone.same H.out ho

set_option maxRecDepth 100000 in
set_option maxHeartbeats 1000000 in
theorem putM_long (w : World) (base m : Nat) (slv : Value) (L : FL) (p x : B) (h : RTree w base m slv L) (hp : p.length ≤ 999999) (hk : pathOk p = true) (hx : 2000 < x.length) :
  Calls Tryz.prog 30 #[.pointer (some ⟨m, 0, none⟩), S p, S x] w (RDone w base m slv (putT L p x) (I (putCode L p x))) := by
 have HC := isPath_any w p hp
 rw [hk] at HC
 have HC := Lib.hid HC
 have hcode : putCode L p x = 2 := by unfold putCode; rw [hk, if_pos rfl, if_pos hx]
 have hT : putT L p x = L := by unfold putT; rw [hcode, if_neg (by decide)]
 rw [hcode, hT]
 have H := Lib.hid h
 have hz : (2000 : Int) < (x.length : Int) := by omega
 clear h hp hk hcode hT hx
 go_enter Tryz.func30, Tryz.ntmps30
 go_wp2_with (go_at_call 104; refine HC.out.mono ?_; rintro e w1 ⟨rfl, ho⟩)
 go_ret
 exact RDone.same H.out ho

set_option maxRecDepth 100000 in
set_option maxHeartbeats 2000000 in
theorem putM_clash (w : World) (base m : Nat) (slv : Value) (L : FL) (p x : B) (h : RTree w base m slv L) (hl : L.length ≤ 1000) (hp : p.length ≤ 999999) (hk : pathOk p = true) (hx : ¬ 2000 < x.length) (hc : clash L p = true) :
  Calls Tryz.prog 30 #[.pointer (some ⟨m, 0, none⟩), S p, S x] w (RDone w base m slv (putT L p x) (I (putCode L p x))) := by
 have HC := isPath_any w p hp
 rw [hk] at HC
 have HC := Lib.hid HC
 have hcode : putCode L p x = 7 := by unfold putCode; rw [hk, if_pos rfl, if_neg hx, if_pos hc]
 have hT : putT L p x = L := by unfold putT; rw [hcode, if_neg (by decide)]
 rw [hcode, hT]
 have H := Lib.hid h
 have HCL := Lib.hid (clash_none hc)
 have hz : ¬ (2000 : Int) < (x.length : Int) := by omega
 obtain ⟨a, cap, hv, _, _, hcell⟩ := h.rd
 have HV := Lib.hid hv
 have HCE := Lib.hid hcell
 clear h hp hk hcode hT hx hc hcell hv
 go_enter Tryz.func30, Tryz.ntmps30
 go_wp2_with (go_at_call 104; refine HC.out.mono ?_; rintro e w1 ⟨rfl, ho⟩; have HO := Lib.hid ho; clear ho)
 have c1 : w1.cell? ⟨m, 0, none⟩ = some (.slice a L.length cap) := by
  rw [← HV.out]
  exact (cell_of_heap (HO.out.heapOf H.out.cells (fun h => h)) 0).trans rfl
 go_loop [8] (fun i => ∃ j : Nat, j ≤ L.length ∧ i = .int .i64 j ∧ Hid (∀ i q, i < j → L[i]? = some q → near p q.1 = false)) (fun i => L.length - (intOf i).toNat)
 case atStart => exact ⟨0, Nat.zero_le _, rfl, Lib.hid (fun i q h => absurd h (Nat.not_lt_zero _))⟩
 case round =>
  obtain ⟨j, hj, rfl, hb⟩ := hrel
  by_cases hlt : j < L.length
  ·have hltz : (j : Int) < (L.length : Int) := by omega
   obtain ⟨b, off, rfl, hcl⟩ := HCE.out (by intro h; rw [h] at hlt; simp at hlt)
   obtain ⟨⟨k', y⟩, hq⟩ : ∃ y, L[j]? = some y := ⟨_, List.getElem?_eq_getElem hlt⟩
   have d0 : w1.cell? ⟨b, off + j * 2, none⟩ = some (S k') := HO.out.cellOf (hcl j _ hq 0 _ rfl) (fun h => h)
   have HQ := Lib.hid hq
   have HA1 := Lib.hid (fun W => refAbove_any W p k')
   have HA2 := Lib.hid (fun W => refAbove_any W k' p)
   have HN := Lib.hid (show near p k' = (aboveB p k' || aboveB k' p) from rfl)
   clear hcl hq
   generalize aboveB p k' = r1 at HA1 HN
   generalize aboveB k' p = r2 at HA2 HN
   cases r1
   ·cases r2
    ·go_wp2_with fail
     refine (HA1.out _).mono ?_
     rintro e w2 ⟨rfl, rfl⟩
     go_wp2_with fail
     refine (HA2.out _).mono ?_
     rintro e w2 ⟨rfl, rfl⟩
     go_wp2_with fail
     go_round
     case rel => exact ⟨j + 1, by omega, by go_num, Lib.hid (fun i q hi hq => by
      rcases Nat.lt_succ_iff_lt_or_eq.1 hi with h | rfl
      ·exact hb.out i q h hq
      ·rw [HQ.out] at hq; cases hq; exact HN.out)⟩
     case measure => simp [intOf]; omega
    ·go_wp2_with fail
     refine (HA1.out _).mono ?_
     rintro e w2 ⟨rfl, rfl⟩
     go_wp2_with fail
     refine (HA2.out _).mono ?_
     rintro e w2 ⟨rfl, rfl⟩
     go_wp2_with fail
     go_ret
     exact RDone.same H.out HO.out
   ·go_wp2_with fail
    refine (HA1.out _).mono ?_
    rintro e w2 ⟨rfl, rfl⟩
    go_wp2_with fail
    go_ret
    exact RDone.same H.out HO.out
  ·exact absurd (fun i q hi hq => hb.out i q (by omega) hq) HCL.out
end Go.Proofs.YtnmhaipjfpongacGreatDoor
