/- Texts of this seat laid together for one claim: I2. No condition of its own: what each proves stands with its theorems. -/
import Derived.BigQuiet
import Derived.Deep.QuietTactic
import Derived.Test.YtnmhaipjfpongacGreatDoorSA20
namespace Go.Proofs.YtnmhaipjfpongacGreatDoor
open Go.ChangeShapes Go.WideShapes Go.ChangeAt Go.RowKit

theorem enters_of1 : ∀ args w, (callFunc 166 args).run Tryz.prog w = .ok (.enter 166 args) w := fun args w => by kernel_rfl
theorem of1_test (w : World) (r : Rule) (u : Value) (b : Nat) (o : B) (hu : Rd S w u r.ins) (h : w.cell? ⟨b, 0, none⟩ = some (S o)) :
  Calls Tryz.prog 166 #[AggR r u, .pointer (some ⟨b, 0, none⟩)] w (RetE (.bool (r.out == o)) w) := by
 obtain ⟨a, cap, rfl, _, _, _⟩ := hu
 obtain ⟨q, hq⟩ : ∃ q, (r.out == o) = q := ⟨_, rfl⟩
 rw [hq]
 have h1 := fun ob => (Only.alloc (fun _ => False) w ob).cellOf h (fun h => h)
 clear h
 go_enter Tryz.func166, Tryz.ntmps166
 go_wp2_with fail
 go_ret
 exact ⟨rfl, Only.alloc _ _ _⟩

theorem zeroTold : ∀ w, (zeroValue 155).run Tryz.prog w = .ok (.agg #[S [], .nilIface]) w := fun w => by kernel_rfl

theorem lookup_filterG {α : Type} {k s : B} : ∀ (L : List (B × α)), s ≠ k → (L.filter fun p => !(p.1 == k)).lookup s = L.lookup s
 | [], _ => rfl
 | (a, x) :: L, h => by
  by_cases ha : a = k
  ·subst ha
   have hs : (s == a) = false := beq_eq_false_iff_ne.2 h
   rw [List.filter_cons_of_neg (by simp), lookup_filterG L h, List.lookup, hs]
  ·rw [List.filter_cons_of_pos (by simpa using ha)]
   simp only [List.lookup]
   rw [lookup_filterG L h]
theorem Knows.more {W : B → Tld} {L : List (B × Tld)} (h : Knows W L) {p : B} {x : Tld} (hx : x = W p) : Knows W ((p, x) :: L.filter fun q => !(q.1 == p)) := fun q y hq => by
 by_cases e : q = p
 ·subst e
  rw [List.lookup_cons, beq_self_eq_true] at hq
  cases hq
  exact hx
 ·have hs : (q == p) = false := beq_eq_false_iff_ne.2 e
  rw [List.lookup_cons, hs] at hq
  simp only at hq
  rw [lookup_filterG L e] at hq
  exact h q y hq
theorem AskAt.stored {w0 w w' : World} {P : Nat → Addr} {ab tb kb : Nat} {lv : Value} {L L' : List (B × Tld)} (h : AskAt w0 w P ab tb kb lv L) (ho : Only (fun b => b = kb) w w') (hm : KMap .string S (tEnc P) w' kb L') : AskAt w0 w' P ab tb kb lv L' :=
 ⟨h.ext.trans ho (fun _ _ h => h) (fun i hi e => by have := h.lo; omega), ho.heapOf h.cells (fun e => h.lo.2.2 e), hm, h.lo⟩

theorem of_results (tmps : Array Value) (W : World) (h : Nat) (t ev : Value) (h4 : tmps[4]? = some (.pointer (some ⟨h, 0, none⟩))) (d0 : W.cell? ⟨h, 0, none⟩ = some t) (d1 : W.cell? ⟨h, 1, none⟩ = some ev) :
  (results Tryz.f95 tmps).run Tryz.prog W = .ok (.agg #[t, ev]) W := by
 simp only [results, Tryz.results95]
 simp [go_sem, h4, d0, d1]

set_option maxRecDepth 100000 in
set_option maxHeartbeats 4000000 in
theorem of_step (w0 : World) (P : Nat → Addr) (ab tb tmb kb : Nat) (lv : Value) (l : List Rule) (T : FL) (W : B → Tld) (n : Nat) (D : B → Prop) (rk : B → Nat) (hS : Asks l T W D rk) (hA : ActVars w0 P) (hE : Errs w0 P [5])
  (hl : RdR w0 lv l) (hw : ∀ r ∈ l, r.ins.length ≤ 12 ∧ r.word.length ≤ 1000) (ht : TreeAt w0 tb tmb T)
  (hof : ∀ p, D p → rk p < n → ∀ w L, AskAt w0 w P ab tb kb lv L → Knows W L → Calls Tryz.prog 95 #[.pointer (some ⟨ab, 0, none⟩), S p] w (OfPost w0 P ab tb kb lv W (W p) w))
  (p : B) (hp : D p) (hr : rk p < n + 1) (w : World) (L : List (B × Tld)) (hL : AskAt w0 w P ab tb kb lv L) (hK : Knows W L) :
  Calls Tryz.prog 95 #[.pointer (some ⟨ab, 0, none⟩), S p] w (OfPost w0 P ab tb kb lv W (W p) w) := by
 have HL := Lib.hid hL
 have HK := Lib.hid hK
 have HRD := Lib.hid hl
 have HT := Lib.hid ht
 have HEE := Lib.hid hE
 have HCD := Lib.hid (hS.code p hp)
 have HB0 := Lib.hid ((MapKept.heap_alloc w (.cells #[S p] 9 (0, 0))).1)
 have hx1 : Ext w (w.alloc (.cells #[S p] 9 (0, 0))) := Only.alloc _ _ _
 have hx2 : Ext (w.alloc (.cells #[S p] 9 (0, 0))) ((w.alloc (.cells #[S p] 9 (0, 0))).alloc (.cells #[S [], .nilIface] 155 (0, 0))) := Only.alloc _ _ _
 have hb : ((w.alloc (.cells #[S p] 9 (0, 0))).alloc (.cells #[S [], .nilIface] 155 (0, 0))).heap[w.heap.size]? = some (.cells #[S p] 9 (0, 0)) := hx2.heapOf HB0.out (fun h => h)
 have ht4 : ((w.alloc (.cells #[S p] 9 (0, 0))).alloc (.cells #[S [], .nilIface] 155 (0, 0))).heap[w.heap.size + 1]? = some (.cells #[S [], .nilIface] 155 (0, 0)) := by
  have h := (MapKept.heap_alloc (w.alloc (.cells #[S p] 9 (0, 0))) (.cells #[S [], .nilIface] 155 (0, 0))).1
  simpa using h
 have HX0 : Hid (Only (fun b => b = kb) w ((w.alloc (.cells #[S p] 9 (0, 0))).alloc (.cells #[S [], .nilIface] 155 (0, 0)))) := Lib.hid ((Only.alloc _ w _).thenAlloc _)
 have HL0 := Lib.hid (hL.grow (hx1.then hx2))
 have HLO : Hid (kb < w.heap.size ∧ ab < w.heap.size ∧ w0.heap.size ≤ w.heap.size) := Lib.hid ⟨hL.map.lt, lt_of_heap hL.cells, hL.ext.size⟩
 have hif := indexFunc_R1 166 (.pointer (some ⟨w.heap.size, 0, none⟩)) (fun x => x.out == p) ((w.alloc (.cells #[S p] 9 (0, 0))).alloc (.cells #[S [], .nilIface] 155 (0, 0))) lv l (HRD.out.ext HL0.out.ext) enters_of1
  (fun w1 h1 x u' _ hu' => of1_test w1 x u' w.heap.size p hu' (h1.cellOf ((cell_of_heap hb 0).trans rfl) (fun h => h)))
 have HIF := Lib.hid hif
 have HBB := Lib.hid hb
 have HBT := Lib.hid ht4
 have hst := hS.step p hp
 obtain ⟨X, hX⟩ : ∃ X, X = W p := ⟨_, rfl⟩
 rw [← hX]
 have HX := Lib.hid hX
 have HWP := Lib.hid hst
 have HMADE := Lib.hid (fun (k : Nat) (r : Rule) (u : Value) (w' : World) (L' : List (B × Tld)) (hk : l[k]? = some r) (hro : ruleOf l p = some r) (hu : Rd S w0 u r.ins) (h1 : AskAt w0 w' P ab tb kb lv L') (h2 : Knows W L') =>
  made_any w0 P ab tb kb lv W n D rk hS.len hA hof r (fun q hq => by obtain ⟨a, b⟩ := hS.down p hp r hro q hq; exact ⟨a, by omega⟩) (hw r (List.mem_of_getElem? hk)).1 (hw r (List.mem_of_getElem? hk)).2 w' u hu L' h1 h2)
 have c0 := (cell_of_heap HL0.out.cells 0).trans (rfl : _ = some (Value.pointer (some ⟨tb, 0, none⟩)))
 have c1 := (cell_of_heap HL0.out.cells 1).trans (rfl : _ = some lv)
 have c2 := (cell_of_heap HL0.out.cells 2).trans (rfl : _ = some (Value.map (some kb)))
 have hmz := zeroTold
 clear hL hK hl ht hE hx1 hx2 hb ht4 hif hst hX hof hw hS hA hr hp
 go_enter Tryz.func95, Tryz.ntmps95
 go_wp2_with fail
 generalize ((w.alloc (.cells #[S p] 9 (0, 0))).alloc (.cells #[S [], .nilIface] 155 (0, 0))) = wq at HL0 HIF HBB HBT HX0 c0 c1 c2 ⊢
 rcases rule_idx (l := l) (p := p) with ⟨k, r, hk, hlk, hro⟩ | ⟨hk, hro⟩
 case inr =>
  rw [hk] at HIF
  have HXQ : Hid (X = wLeaf T p) := Lib.hid (by rw [HX.out, HWP.out]; unfold wStep; rw [hro])
  clear hk hro HMADE
  refine HIF.out.mono ?_
  rintro e w3 ⟨rfl, ho⟩
  have HB3 := Lib.hid (ho.heapOf HBB.out (fun h => h))
  have HT3 := Lib.hid (ho.heapOf HBT.out (fun h => h))
  have HL3 := Lib.hid (HL0.out.grow ho)
  have HX3 := Lib.hid (HX0.out.ext ho)
  have d0 := ho.cellOf c0 (fun h => h)
  have db := (cell_of_heap HB3.out 0).trans (rfl : _ = some (S p))
  have hget := fun n => treeGet_any (w3.drewN n) tb tmb T p ((HT.out.ext HL3.out.ext).ext (Only.drewN _ _ n))
  unfold wLeaf at HXQ
  cases hl : T.lookup p with
  | none =>
   rw [hl] at HXQ
   simp only [hl, Option.getD_none, Option.isSome_none] at hget
   have HGET := Lib.hid hget
   clear c0 c1 c2 ho hmz hget hl
   go_wp2_with fail
   go_quiet ((go_at_call 42; exact Calls.quiet_of_same ((HGET.out _).mono fun _ _ h => ⟨h.1, h.2.symm⟩)))
   have ht4 := (Only.drewN (fun _ => False) w3 nq).heapOf HT3.out (fun h => h)
   have HL4 := HL3.out.grow (Only.drewN _ w3 nq)
   have HX4 := HX3.out.ext (Only.drewN _ w3 nq)
   have c5 := ((HEE.out.ext HL3.out.ext).ext (Only.drewN _ w3 nq)).var 5 _ (by decide) rfl
   generalize w3.drewN nq = w4 at ht4 HL4 HX4 c5 ⊢
   have s0 := (cell_of_heap ht4 0).trans (rfl : _ = some (S []))
   have s1 := (cell_of_heap ht4 1).trans (rfl : _ = some Value.nilIface)
   have f0 := free_of_heap ht4 0
   have f1 := free_of_heap ht4 1
   have hs0 : Only (fun b => b = w.heap.size + 1) w4 ((w4.setCell ⟨w.heap.size + 1, 0, none⟩ (S [])).setCell ⟨w.heap.size + 1, 1, none⟩ (errV (P 5))) := (Only.set (p := fun b => b = w.heap.size + 1) (S []) rfl).then (Only.set (p := fun b => b = w.heap.size + 1) (errV (P 5)) rfl)
   have hcf := heap_setCell_same (heap_setCell_same ht4 0 (S [])) 1 (errV (P 5))
   have HF0 := Lib.hid ((cell_of_heap hcf 0).trans (rfl : _ = some (S [])))
   have HF1 := Lib.hid ((cell_of_heap hcf 1).trans (rfl : _ = some (errV (P 5))))
   have HFA := Lib.hid (HL4.later hs0 (fun b e => by have := HLO.out; omega))
   have HFO := Lib.hid (HX4.trans hs0 (fun _ _ h => h) (fun i hi e => by omega))
   clear ht4 HL4 HX4 hs0 hcf
   go_wp2_with fail
   exact bodyPost_ret (v := .agg #[S [], errV (P 5)]) (of_results _ _ (w.heap.size + 1) _ _ rfl HF0.out HF1.out) rfl ⟨by rw [HXQ.out]; rfl, L, HFA.out, HK.out, HFO.out⟩
  | some x =>
   rw [hl] at HXQ
   simp only [hl, Option.getD_some, Option.isSome_some] at hget
   have HGET := Lib.hid hget
   clear c0 c1 c2 ho hmz hget hl
   go_wp2_with fail
   go_quiet ((go_at_call 42; exact Calls.quiet_of_same ((HGET.out _).mono fun _ _ h => ⟨h.1, h.2.symm⟩)))
   have ht4 := (Only.drewN (fun _ => False) w3 nq).heapOf HT3.out (fun h => h)
   have HL4 := HL3.out.grow (Only.drewN _ w3 nq)
   have HX4 := HX3.out.ext (Only.drewN _ w3 nq)
   generalize w3.drewN nq = w4 at ht4 HL4 HX4 ⊢
   have s0 := (cell_of_heap ht4 0).trans (rfl : _ = some (S []))
   have s1 := (cell_of_heap ht4 1).trans (rfl : _ = some Value.nilIface)
   have f0 := free_of_heap ht4 0
   have f1 := free_of_heap ht4 1
   have hs0 : Only (fun b => b = w.heap.size + 1) w4 ((w4.setCell ⟨w.heap.size + 1, 0, none⟩ (S x)).setCell ⟨w.heap.size + 1, 1, none⟩ .nilIface) := (Only.set (p := fun b => b = w.heap.size + 1) (S x) rfl).then (Only.set (p := fun b => b = w.heap.size + 1) .nilIface rfl)
   have hcf := heap_setCell_same (heap_setCell_same ht4 0 (S x)) 1 .nilIface
   have HF0 := Lib.hid ((cell_of_heap hcf 0).trans (rfl : _ = some (S x)))
   have HF1 := Lib.hid ((cell_of_heap hcf 1).trans (rfl : _ = some Value.nilIface))
   have HFA := Lib.hid (HL4.later hs0 (fun b e => by have := HLO.out; omega))
   have HFO := Lib.hid (HX4.trans hs0 (fun _ _ h => h) (fun i hi e => by omega))
   clear ht4 HL4 HX4 hs0 hcf
   go_wp2_with fail
   exact bodyPost_ret (v := .agg #[S x, .nilIface]) (of_results _ _ (w.heap.size + 1) _ _ rfl HF0.out HF1.out) rfl ⟨by rw [HXQ.out]; rfl, L, HFA.out, HK.out, HFO.out⟩
 case inl =>
  rw [hk] at HIF
  have HLR := Lib.hid hlk
  have HRO := Lib.hid hro
  have hkl := (List.getElem?_eq_some_iff.1 hlk).1
  have hk0 : ¬ (k : Int) < 0 := by omega
  have hkz : (k : Int) < (l.length : Int) := by omega
  clear hk hlk hro
  refine HIF.out.mono ?_
  rintro e w3 ⟨rfl, ho⟩
  have HB3 := Lib.hid (ho.heapOf HBB.out (fun h => h))
  have HT3 := Lib.hid (ho.heapOf HBT.out (fun h => h))
  have HL3 := Lib.hid (HL0.out.grow ho)
  have HX3 := Lib.hid (HX0.out.ext ho)
  have d1 := ho.cellOf c1 (fun h => h)
  have d2 := ho.cellOf c2 (fun h => h)
  have db := (cell_of_heap HB3.out 0).trans (rfl : _ = some (S p))
  clear c0 c1 c2 ho
  have hx4 : Ext w3 (w3.alloc (.cells #[S [], .nilIface] 155 (0, 0))).drew := (Only.alloc _ w3 _).thenDrew
  have db4 := hx4.cellOf db (fun h => h)
  have d14 := hx4.cellOf d1 (fun h => h)
  have d24 := hx4.cellOf d2 (fun h => h)
  have hlk1 := KMap.look (P := Tryz.prog) keyOk_str (HL3.out.map.later (Only.drew (fun _ => False) w3) (fun h => h)) Tryz.underlying151 Tryz.underlying9 (hmz w3.drew) p
  have hlk2 := KMap.look (P := Tryz.prog) keyOk_str (HL3.out.map.later hx4 (fun h => h)) Tryz.underlying151 Tryz.underlying9 (hmz _) p
  cases hl : L.lookup p with
  | none =>
   rw [hl] at hlk1 hlk2
   simp only [Option.isSome_none] at hlk1 hlk2
   clear hl hmz
   go_wp2_with fail
   go_region
   all_goals
    have hbz : (w3.alloc (.cells #[S [], .nilIface] 155 (0, 0))).drew.heap[w3.heap.size]? = some (.cells #[S [], .nilIface] 155 (0, 0)) := (MapKept.heap_alloc w3 (.cells #[S [], .nilIface] 155 (0, 0))).1
    have HBZ := Lib.hid hbz
    have HB4 := Lib.hid (hx4.heapOf HB3.out (fun h => h))
    have HT4 := Lib.hid (hx4.heapOf HT3.out (fun h => h))
    have HL4 := Lib.hid (HL3.out.grow hx4)
    have HX4 := Lib.hid (HX3.out.ext hx4)
    have HZZ : Hid (w.heap.size + 2 ≤ w3.heap.size) := Lib.hid (by have := lt_of_heap HT3.out; omega)
    clear db d1 d2 hlk1 hlk2 hbz
    generalize (w3.alloc (.cells #[S [], .nilIface] 155 (0, 0))).drew = w4 at HBZ HB4 HT4 HL4 HX4 db4 d14 d24 ⊢
    obtain ⟨al, cl, rfl, _, _, hcl⟩ := HRD.out
    obtain ⟨bl, ol, rfl, hcell⟩ := hcl (by intro h; rw [h] at hkl; simp at hkl)
    obtain ⟨u, hu, q0, q1, q2, q3⟩ := hcell k r HLR.out
    have g0 := HL4.out.ext.cellOf q0 (fun h => h)
    have g1 := HL4.out.ext.cellOf q1 (fun h => h)
    have g2 := HL4.out.ext.cellOf q2 (fun h => h)
    have g3 := HL4.out.ext.cellOf q3 (fun h => h)
    have HMD := Lib.hid (HMADE.out k r u w4 L HLR.out HRO.out hu HL4.out HK.out)
    have HXM : Hid (X = wMade W r) := Lib.hid (by rw [HX.out, HWP.out]; unfold wStep; rw [HRO.out])
    obtain ⟨au, cu, rfl, _, _, _⟩ := hu
    generalize r.ins.length = ln at *
    clear hcl hcell q0 q1 q2 q3 hx4 hkl
    go_wp2_with fail
    refine HMD.out.mono ?_
    rintro e w5 ⟨rfl, L5, hl5, hk5, ho5⟩
    rw [← HXM.out]
    have HB5 := Lib.hid (ho5.heapOf HB4.out (fun e => by have := HLO.out; omega))
    have HT5 := Lib.hid (ho5.heapOf HT4.out (fun e => by have := HLO.out; omega))
    have HZ5 := ho5.heapOf HBZ.out (fun e => by have := HLO.out; have := HZZ.out; omega)
    have HX5 := Lib.hid (HX4.out.then ho5)
    have HK5 := Lib.hid hk5
    have HL5 := Lib.hid hl5
    have s0 := (cell_of_heap HZ5 0).trans (rfl : _ = some (S []))
    have s1 := (cell_of_heap HZ5 1).trans (rfl : _ = some Value.nilIface)
    have f0 := free_of_heap HZ5 0
    have f1 := free_of_heap HZ5 1
    obtain ⟨ev, hev⟩ : ∃ ev, ev = errC P X.2 := ⟨_, rfl⟩
    have hte : tEnc P X = .agg #[S X.1, ev] := by rw [hev]
    have hs6 : Only (fun b => b = w3.heap.size) w5 ((w5.setCell ⟨w3.heap.size, 0, none⟩ (S X.1)).setCell ⟨w3.heap.size, 1, none⟩ ev) := (Only.set (p := fun b => b = w3.heap.size) (S X.1) rfl).then (Only.set (p := fun b => b = w3.heap.size) ev rfl)
    have hz6 := heap_setCell_same (heap_setCell_same HZ5 0 (S X.1)) 1 ev
    have ha6 := hl5.later hs6 (fun b e => by have := HLO.out; have := HZZ.out; omega)
    obtain ⟨w7, hrun, hm7, ho7, hsz7⟩ := KMap.store (P := Tryz.prog) keyOk_str (ha6.map.later (Only.drew (fun _ => False) _) (fun h => h)) Tryz.underlying151 Tryz.underlying9 p X
    have ho7' : Only (fun b => b = kb) ((w5.setCell ⟨w3.heap.size, 0, none⟩ (S X.1)).setCell ⟨w3.heap.size, 1, none⟩ ev) w7 := (Only.drew _ _).then ho7
    have HA7 := Lib.hid (ha6.stored ho7' hm7)
    have HK7 := Lib.hid (HK5.out.more HX.out)
    have HB6 := hs6.heapOf HB5.out (fun e => by have := HZZ.out; omega)
    have hz7 := ho7'.heapOf hz6 (fun e => by have := HLO.out; have := HZZ.out; omega)
    have ht7 := ho7'.heapOf (hs6.heapOf HT5.out (fun e => by have := HZZ.out; omega)) (fun e => by have := HLO.out; omega)
    have HX7 := Lib.hid ((HX5.out.trans hs6 (fun _ _ h => h) (fun i hi e => by have := HZZ.out; omega)).then ho7')
    have m0 := (cell_of_heap ((Only.drew (fun _ => False) _).heapOf ha6.cells (fun h => h)) 2).trans (rfl : _ = some (Value.map (some kb)))
    have m1 := (cell_of_heap ((Only.drew (fun _ => False) _).heapOf HB6 (fun h => h)) 0).trans (rfl : _ = some (S p))
    have m2 := (cell_of_heap ((Only.drew (fun _ => False) _).heapOf hz6 (fun h => h)) 0).trans (rfl : _ = some (S X.1))
    have m3 := (cell_of_heap ((Only.drew (fun _ => False) _).heapOf hz6 (fun h => h)) 1).trans (rfl : _ = some ev)
    have n2 := (cell_of_heap hz7 0).trans (rfl : _ = some (S X.1))
    have n3 := (cell_of_heap hz7 1).trans (rfl : _ = some ev)
    have v0 := (cell_of_heap ht7 0).trans (rfl : _ = some (S []))
    have v1 := (cell_of_heap ht7 1).trans (rfl : _ = some Value.nilIface)
    have z0 := free_of_heap ht7 0
    have z1 := free_of_heap ht7 1
    have hs8 : Only (fun b => b = w.heap.size + 1) w7 ((w7.setCell ⟨w.heap.size + 1, 0, none⟩ (S X.1)).setCell ⟨w.heap.size + 1, 1, none⟩ ev) := (Only.set (p := fun b => b = w.heap.size + 1) (S X.1) rfl).then (Only.set (p := fun b => b = w.heap.size + 1) ev rfl)
    have hcf := heap_setCell_same (heap_setCell_same ht7 0 (S X.1)) 1 ev
    have HF0 := Lib.hid ((cell_of_heap hcf 0).trans (rfl : _ = some (S X.1)))
    have HF1 := Lib.hid ((cell_of_heap hcf 1).trans (rfl : _ = some ev))
    have HFA := Lib.hid (HA7.out.later hs8 (fun b e => by have := HLO.out; omega))
    have HFO := Lib.hid (HX7.out.trans hs8 (fun _ _ h => h) (fun i hi e => by omega))
    have HTE := Lib.hid hte
    rw [hte] at hrun
    rw [hte]
    have hform : ev = .nilIface ∨ ∃ c, ev = errV (P c) := by
     rw [hev]
     cases X.2 with
     | zero => exact .inl rfl
     | succ c => exact .inr ⟨c, rfl⟩
    clear hl5 hk5 ho5 HZ5 hev hte hs6 hz6 ha6 hm7 ho7 hsz7 ho7' HB6 hz7 ht7 hs8 hcf
    rcases hform with rfl | ⟨c, rfl⟩
    all_goals
     go_wp2_with fail
     go_region
     all_goals
      go_wp2_with fail
      exact bodyPost_ret (v := .agg #[S X.1, _]) (of_results _ _ (w.heap.size + 1) _ _ rfl HF0.out HF1.out) rfl ⟨by rw [HTE.out], _, HFA.out, HK7.out, HFO.out⟩
  | some x =>
   have hxe : x = X := by rw [HK.out p x hl, ← HX.out]
   obtain ⟨ev, hev⟩ : ∃ ev, ev = errC P X.2 := ⟨_, rfl⟩
   have hte : tEnc P X = .agg #[S X.1, ev] := by rw [hev]
   rw [hl] at hlk1 hlk2
   simp only [Option.isSome_some] at hlk1 hlk2
   rw [hxe, hte] at hlk1 hlk2
   have HTE := Lib.hid hte
   have hx5 : Ext w3 (w3.alloc (.cells #[S X.1, ev] 155 (0, 0))).drew := (Only.alloc _ w3 _).thenDrew
   have hz7 : (w3.alloc (.cells #[S X.1, ev] 155 (0, 0))).drew.heap[w3.heap.size]? = some (.cells #[S X.1, ev] 155 (0, 0)) := (MapKept.heap_alloc w3 (.cells #[S X.1, ev] 155 (0, 0))).1
   have ht7 := hx5.heapOf HT3.out (fun h => h)
   have HA7 := Lib.hid (HL3.out.grow hx5)
   have HX7 := Lib.hid (HX3.out.ext hx5)
   have n2 := (cell_of_heap hz7 0).trans (rfl : _ = some (S X.1))
   have n3 := (cell_of_heap hz7 1).trans (rfl : _ = some ev)
   have v0 := (cell_of_heap ht7 0).trans (rfl : _ = some (S []))
   have v1 := (cell_of_heap ht7 1).trans (rfl : _ = some Value.nilIface)
   have z0 := free_of_heap ht7 0
   have z1 := free_of_heap ht7 1
   have n2' : (w3.alloc (.cells #[S X.1, ev] 155 (0, 0))).cell? ⟨w3.heap.size, 0, none⟩ = _ := n2
   have n3' : (w3.alloc (.cells #[S X.1, ev] 155 (0, 0))).cell? ⟨w3.heap.size, 1, none⟩ = _ := n3
   have v0' : (w3.alloc (.cells #[S X.1, ev] 155 (0, 0))).cell? ⟨w.heap.size + 1, 0, none⟩ = _ := v0
   have v1' : (w3.alloc (.cells #[S X.1, ev] 155 (0, 0))).cell? ⟨w.heap.size + 1, 1, none⟩ = _ := v1
   have z0' : (w3.alloc (.cells #[S X.1, ev] 155 (0, 0))).frozen? ⟨w.heap.size + 1, 0, none⟩ = _ := z0
   have z1' : (w3.alloc (.cells #[S X.1, ev] 155 (0, 0))).frozen? ⟨w.heap.size + 1, 1, none⟩ = _ := z1
   have hs8 : Only (fun b => b = w.heap.size + 1) (w3.alloc (.cells #[S X.1, ev] 155 (0, 0))).drew (((w3.alloc (.cells #[S X.1, ev] 155 (0, 0))).drew.setCell ⟨w.heap.size + 1, 0, none⟩ (S X.1)).setCell ⟨w.heap.size + 1, 1, none⟩ ev) := (Only.set (p := fun b => b = w.heap.size + 1) (S X.1) rfl).then (Only.set (p := fun b => b = w.heap.size + 1) ev rfl)
   have hcf := heap_setCell_same (heap_setCell_same ht7 0 (S X.1)) 1 ev
   have HF0 := Lib.hid ((cell_of_heap hcf 0).trans (rfl : _ = some (S X.1)))
   have HF1 := Lib.hid ((cell_of_heap hcf 1).trans (rfl : _ = some ev))
   have HFA := Lib.hid (HA7.out.later hs8 (fun b e => by have := HLO.out; omega))
   have HFO := Lib.hid (HX7.out.trans hs8 (fun _ _ h => h) (fun i hi e => by omega))
   have hform : ev = .nilIface ∨ ∃ c, ev = errV (P c) := by
    rw [hev]
    cases X.2 with
    | zero => exact .inl rfl
    | succ c => exact .inr ⟨c, rfl⟩
   clear hl hmz hxe hev hte hx5 hz7 ht7 hs8 hcf
   rcases hform with rfl | ⟨c, rfl⟩
   all_goals
    go_wp2_with fail
    go_region
    all_goals
     go_wp2_with fail
     exact bodyPost_ret (v := .agg #[S X.1, _]) (of_results _ _ (w.heap.size + 1) _ _ rfl HF0.out HF1.out) rfl ⟨by rw [HTE.out], _, HFA.out, HK.out, HFO.out⟩
end Go.Proofs.YtnmhaipjfpongacGreatDoor
