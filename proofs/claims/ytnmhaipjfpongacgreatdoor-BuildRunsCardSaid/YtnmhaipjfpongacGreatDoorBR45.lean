/- Texts of this seat laid together for one claim: S12, Bm9, Br2. No condition of its own: what each proves stands with its theorems. -/
import Derived.Deep.RegionLaw
import Derived.Test.YtnmhaipjfpongacGreatDoorBR44
import Derived.Test.YtnmhaipjfpongacGreatDoorBR11
import Derived.Test.YtnmhaipjfpongacGreatDoorBR42
import Derived.Test.YtnmhaipjfpongacGreatDoorBR28
import Derived.Deep.CutBlock
import Derived.Deep.DeepCutAuto
import Derived.Test.YtnmhaipjfpongacGreatDoorBR43
import Derived.Test.YtnmhaipjfpongacGreatDoorBR8
import Derived.Test.YtnmhaipjfpongacGreatDoorBR12
import Derived.Test.YtnmhaipjfpongacGreatDoorBR32
namespace Go.Proofs.YtnmhaipjfpongacGreatDoor
open Go.ChangeShapes Go.WideShapes Go.ChangeAt Go.RowKit

theorem step_copyF {ops : Array Oper} {o : Oper} {a : Act} {K : Act → World → Prop} {Q : Exit → Act → World → Prop} {E : Prop} (s x : Operand) (base base0 : Nat) (vs : Value) (k : FL) (W : World) (hgd : o.guard = none)
  (ho : o.op = .call { callee := .builtin .append, args := #[s, x], argTypes := #[22, 22] }) (hs : a.eval s = .slice none 0 0) (hx : a.eval x = vs)
  (hrow : W.ownsRow base0 65 2 vs k.length (k.flatMap encF)) (hl : k.length ≤ 1000000) (hbase : base ≤ W.heap.size)
  (hK : ∀ ao n c w', w'.ownsRow base 65 2 (.slice ao n c) k.length (k.flatMap encF) → Ext W w' → (∀ i, Value.ownBlock (.slice ao n c) = some i → W.heap.size ≤ i) → K (a.put o.dst (.slice ao n c)) w') :
  if Region.wanted o (yielded ops a.tmps) = true then Oper.wp Tryz.prog o a W K Q else E := by
 have hw : Region.wanted o (yielded ops a.tmps) = true := by simp [Region.wanted, hgd]
 rw [if_pos hw]
 obtain ⟨i0, hi, hz0, hz1, hz2⟩ := info_parts infoFile
 have hrd := RdS.of_row encF_len hrow
 obtain ⟨ao, c, rfl, _, _, hc⟩ := hrd
 have hform : ∀ {W' : World} {v' : Value} {n' : Nat} {xs : List Value}, W'.ownsRow base 65 2 v' n' xs → ∃ ao' cap, v' = .slice ao' n' cap := fun h => by
  rcases h.2 with ⟨rfl, rfl⟩ | ⟨g, cap, _, rfl, _⟩
  ·exact ⟨none, 0, rfl⟩
  ·exact ⟨_, cap, rfl⟩
 by_cases hk : k = []
 ·subst hk
  have hv : (Value.slice ao ([] : FL).length c) = .slice none 0 0 ∨ ∃ ad, ao = some ad := by
   cases ao with
   | none =>
    rcases hrow.2 with ⟨h1, _⟩ | ⟨g, cap, _, h1, _⟩
    ·exact .inl h1
    ·cases h1
   | some ad => exact .inr ⟨ad, rfl⟩
  rcases hv with hv | ⟨ad, rfl⟩
  ·rw [hv] at hx
   have hrun := run_append_owned_none (P := Tryz.prog) (w := W) base 22 o.type 65 i0 2 Tryz.underlying22 hi (.slice none 0 0) 0 [] (World.ownsRow_nil _ _ _ _)
   unfold Oper.wp
   simp [execOp, ho, resolve, invoke, builtin, hs, hx, hrun, Result.andThen]
   exact hK _ _ _ _ (World.ownsRow_nil _ _ _ _) (Only.refl _ _) (fun i h => by cases h)
  ·obtain ⟨v', w', hr, h2, h3, _, h5⟩ := run_append_own_at (P := Tryz.prog) W base 22 o.type 65 i0 _ 2 32 Tryz.underlying22 hi hz0 hz1 hz2 rfl (by decide) (.slice none 0 0) 0 [] (World.ownsRow_nil _ _ _ _) ad 0 c [] rfl (fun j u h => by simp at h) (fun u h => by cases h) (by decide) (by decide) hbase
   obtain ⟨ao', cap, rfl⟩ := hform h2
   unfold Oper.wp execOp
   simp only [List.length_nil] at hx
   simp only [ho, resolve, invoke, builtin, Sem.run_bind, Sem.run_pure, Result.andThen_ok, List.map_toArray, List.map_cons, List.map_nil, hs, hx, hr]
   refine hK _ _ _ _ h2 (grown_baseT (Only.refl _ _) (fun i h => by cases h) h3) (fun i hi' => ?_)
   rcases h5 with h5 | h5
   ·rw [h5] at hi'; cases hi'
   ·rw [h5] at hi'; have := Option.some.inj hi'; omega
 ·obtain ⟨b, off, rfl, hcell⟩ := hc hk
  have h1 : ∀ u ∈ k.flatMap encF, u.oneCell' = true := fun u hu => by
   obtain ⟨y, _, hy⟩ := List.mem_flatMap.1 hu
   exact encF_one y u hy
  have hcells : ∀ j u, (k.flatMap encF)[j]? = some u → W.cell? ((⟨b, off, none⟩ : Addr).add j) = some u := by
   have := part_src hcell (Only.refl _ W) 0 k.length
   simpa using this
  obtain ⟨v', w', hr, h2, h3, _, h5⟩ := run_append_own_at (P := Tryz.prog) W base 22 o.type 65 i0 _ 2 32 Tryz.underlying22 hi hz0 hz1 hz2 rfl (by decide) (.slice none 0 0) 0 [] (World.ownsRow_nil _ _ _ _) ⟨b, off, none⟩ k.length c (k.flatMap encF) (flat_len encF_len k) hcells h1 (by unfold maxLen; omega) (by omega) hbase
  obtain ⟨ao', cap, rfl⟩ := hform h2
  unfold Oper.wp execOp
  simp only [ho, resolve, invoke, builtin, Sem.run_bind, Sem.run_pure, Result.andThen_ok, List.map_toArray, List.map_cons, List.map_nil, hs, hx, hr]
  refine hK _ _ _ _ (by simpa using h2) (grown_baseT (Only.refl _ _) (fun i h => by cases h) h3) (fun i hi' => ?_)
  rcases h5 with h5 | h5
  ·rw [h5] at hi'; cases hi'
  ·rw [h5] at hi'; have := Option.some.inj hi'; omega

def RetCopy (L : FL) (w : World) (e : Ending) (w' : World) : Prop := ∃ slv', e = .returned (.pointer (some ⟨w.heap.size, 0, none⟩)) ∧ RTree w' w.heap.size w.heap.size slv' L ∧ Ext w w'
set_option maxRecDepth 100000 in
set_option maxHeartbeats 4000000 in
theorem copyTree_any (w : World) (base m : Nat) (slv : Value) (L : FL) (h : RTree w base m slv L) (hl : L.length ≤ 1000000) :
  Calls Tryz.prog 29 #[.pointer (some ⟨m, 0, none⟩)] w (RetCopy L w) := by
 have hm := lt_of_heap h.cells
 have hm2 : ¬ m = w.heap.size := by omega
 have HT := Lib.hid h
 have hx0 : Ext w (w.alloc (.cells #[.slice none 0 0] 147 (0, 0))) := Only.alloc _ _ _
 have HX0 := Lib.hid hx0
 have hb0 := (MapKept.heap_alloc w (.cells #[.slice none 0 0] 147 (0, 0))).1
 have HB0 := Lib.hid hb0
 have c0 := HX0.out.cellOf ((cell_of_heap h.cells 0).trans (rfl : _ = some slv)) (fun h => h)
 have c1 := (cell_of_heap hb0 0).trans (rfl : _ = some (Value.slice none 0 0))
 have HL := Lib.hid hl
 clear h hm hx0 hb0 hl hm2
 go_enter Tryz.func29, Tryz.ntmps29
 go_wp2_with fail
 go_region_law (refine step_copyF (.tmp 10) (.tmp 14) w.heap.size base slv L _ rfl rfl rfl rfl (HT.out.ext (HX0.out.then (by first | exact Only.drew _ _ | exact Only.refl _ _))).row HL.out (by simp) ?_; intro ao5 n5 c5 w5 ho5 hx5 hn5; have he5 : Ext (w.alloc (.cells #[.slice none 0 0] 147 (0, 0))) w5 := (Only.drew _ _).then hx5; have hb5 := he5.heapOf HB0.out (fun h => h); have q6 : w5.cell? ⟨w.heap.size, 0, none⟩ = some (.slice none 0 0) := (cell_of_heap hb5 0).trans rfl; have q7 : w5.frozen? ⟨w.heap.size, 0, none⟩ = false := free_of_heap hb5 0; have HO5 := Lib.hid ho5; have HE5 := Lib.hid he5; have HB5 := Lib.hid hb5; have HN5 := Lib.hid hn5; clear ho5 hx5 he5 hb5 hn5)
 all_goals
  go_wp2_with fail
  go_ret
  exact ⟨.slice ao5 n5 c5, rfl, ⟨(heap_setCell_same HB5.out 0 _).trans (by simp), (Only.set (p := fun i => i = w.heap.size) (w := w5) (a := ⟨w.heap.size, 0, none⟩) (.slice ao5 n5 c5) rfl).row HO5.out (fun i e e1 => by have := HN5.out i e; simp at this; omega)⟩, (HX0.out.then HE5.out).thenSet _ (.inr (Nat.le_refl _))⟩

set_option maxRecDepth 100000 in
set_option maxHeartbeats 2000000 in
theorem faulted2_any (w : World) (v : Value) (f g : Nat × Int) (h : ∀ w1, Ext w w1 → Calls Tryz.prog 96 #[v] w1 (CodeIs w1 (f.1 : Int) f.2)) (hfg : f = g) :
  Calls Tryz.prog 21 #[v, AggF g] w (RetE (.bool true) w) := by
 subst hfg
 have hx0 : Ext w (w.alloc (.cells #[IN f.1, I f.2] 37 (0, 0))) := Only.alloc _ _ _
 have hb := (MapKept.heap_alloc w (.cells #[IN f.1, I f.2] 37 (0, 0))).1
 have HB := Lib.hid hb
 have HX0 := Lib.hid hx0
 have HC := Lib.hid (h _ hx0)
 clear h hb hx0
 obtain ⟨c, t⟩ := f
 cases h0 : ((c : Int) == 0)
 all_goals
  go_enter Tryz.func21, Tryz.ntmps21
  go_wp2_with fail
  refine HC.out.mono ?_
  rintro e w1 ⟨rfl, ho⟩
  have c0 := ho.cellOf ((cell_of_heap HB.out 0).trans rfl) (fun h => h)
  have c1 := ho.cellOf ((cell_of_heap HB.out 1).trans rfl) (fun h => h)
  have HX1 := Lib.hid (HX0.out.then ho)
  clear ho
  go_wp2_with fail
  go_ret
  exact ⟨by simp, HX1.out⟩
end Go.Proofs.YtnmhaipjfpongacGreatDoor

namespace Go.Proofs.YtnmhaipjfpongacGreatDoor
open Go.ChangeShapes Go.WideShapes Go.ChangeAt Go.RowKit

section
variable {w0 w w' : World} {E : BE} {K : MK} {s : BS} {o : List Nat} {is : Nat → Bool}
def manyM (E : BE) (s : BS) (st : Nat) (b : Bool) (t : Nat) : Nat := (List.range t).countP fun i => mst E s i == st && hitM E s i == b
theorem manyM_step (E : BE) (s : BS) (st : Nat) (b : Bool) (t : Nat) : manyM E s st b (t + 1) = manyM E s st b t + if (mst E s t == st && hitM E s t == b) = true then 1 else 0 := by
 unfold manyM
 rw [List.range_succ, List.countP_append, List.countP_cons, List.countP_nil, Nat.zero_add]
theorem manyM_le (E : BE) (s : BS) (st : Nat) (b : Bool) (t : Nat) : manyM E s st b t ≤ t := by
 unfold manyM
 exact Nat.le_trans List.countP_le_length (Nat.le_of_eq List.length_range)
theorem countP_range {sm : List Nat} {n : Nat} (hr : sm.Pairwise fun x y => x < y) (hl : ∀ i ∈ sm, i < n) (p : Nat → Bool) (hp : ∀ i, p i = true → i ∈ sm) : (List.range n).countP p = sm.countP p := by
 rw [List.countP_eq_length_filter, List.countP_eq_length_filter]
 congr 1
 refine rising_eq ((range_rises n).filter _) (hr.filter _) fun x => ?_
 rw [List.mem_filter, List.mem_filter, List.mem_range]
 exact ⟨fun h => ⟨hp x h.2, h.2⟩, fun h => ⟨hl x h.1, h.2⟩⟩
theorem manyM_end (h : BWell E o is) {st : Nat} (h0 : st ≠ 0) (b : Bool) : manyM E s st b E.l.length = E.sm.countP fun i => s.st i == st && (s.st i == 2 && s.hit i) == b := by
 unfold manyM
 rw [countP_range h.rise h.lt _ (fun i hi => by
  rw [Bool.and_eq_true, beq_iff_eq] at hi
  refine Classical.byContradiction fun hn => h0 ?_
  rw [← hi.1, mst_out hn])]
 refine List.countP_congr fun i hi => ?_
 unfold hitM
 rw [mst_in hi]
theorem many_ran (h : BWell E o is) : manyM E s 2 false E.l.length = E.sm.countP (cRan s) := by
 rw [manyM_end h (by decide)]
 refine List.countP_congr fun i _ => ?_
 unfold cRan
 cases s.st i == 2 <;> cases s.hit i <;> simp
theorem many_hit (h : BWell E o is) : manyM E s 2 true E.l.length = E.sm.countP (cHit s) := by
 rw [manyM_end h (by decide)]
 refine List.countP_congr fun i _ => ?_
 unfold cHit
 cases s.st i == 2 <;> cases s.hit i <;> simp
theorem many_fail (h : BWell E o is) : manyM E s 3 false E.l.length = E.sm.countP (cFail s) := by
 rw [manyM_end h (by decide)]
 refine List.countP_congr fun i _ => ?_
 unfold cFail
 by_cases e : s.st i = 3
 ·rw [e]; simp
 ·simp [e]
theorem many_left (h : BWell E o is) : manyM E s 4 false E.l.length = E.sm.countP (cLeft s) := by
 rw [manyM_end h (by decide)]
 refine List.countP_congr fun i _ => ?_
 unfold cLeft
 by_cases e : s.st i = 4
 ·rw [e]; simp
 ·simp [e]
theorem stateM_is {n st : Nat} (h4 : n ≤ 4) (hs : st ≤ 4) : (stateM n == stateM st) = (n == st) := by
 rcases (show n = 0 ∨ n = 1 ∨ n = 2 ∨ n = 3 ∨ n = 4 by omega) with rfl | rfl | rfl | rfl | rfl <;> rcases (show st = 0 ∨ st = 1 ∨ st = 2 ∨ st = 3 ∨ st = 4 by omega) with rfl | rfl | rfl | rfl | rfl <;> rfl

set_option maxRecDepth 100000 in
set_option maxHeartbeats 4000000 in
theorem manyM_any (h : MBldAt w0 w E K s) (hW : BWell E o is) (hI : BInv E s) (st : Nat) (hst : st ≤ 4) (sv : B) (hsv : sv = stateM st) (b : Bool) :
  Calls Tryz.prog 136 #[PTR K.b, S sv, .bool b] w (RetE (IN (manyM E s st b E.l.length)) w) := by
 have hl40 := hW.right.1
 have hlz : (E.l.length : Int) ≤ 40 := by omega
 have HLE := Lib.hid (mst_le hI)
 have HSV := Lib.hid hsv
 have HST := Lib.hid hst
 have c1 := (h.cell 1).trans (rfl : _ = some (Value.slice K.la E.l.length K.lc))
 have c2 := (h.cell 2).trans (rfl : _ = some (TabS K.st E.l.length))
 have c4 := (h.cell 4).trans (rfl : _ = some (TabS K.hi E.l.length))
 have H := Lib.hid h
 obtain ⟨N, hN⟩ : ∃ N, N = manyM E s st b E.l.length := ⟨_, rfl⟩
 rw [← hN]
 have HN := Lib.hid hN
 clear h hW hI hsv hst hN
 go_enter Tryz.func136, Tryz.ntmps136
 go_wp2_with fail
 go_loopw [7, 8] (fun n i wr => ∃ (t m : Nat), t ≤ E.l.length ∧ n = .int .i64 m ∧ i = .int .i64 t ∧ wr = w ∧ Hid (m = manyM E s st b t)) (fun _ i _ => E.l.length - (intOf i).toNat)
 case atStart => exact ⟨0, 0, Nat.zero_le _, rfl, rfl, rfl, Lib.hid rfl⟩
 case round =>
  obtain ⟨t, m, ht, rfl, rfl, rfl, HM⟩ := hrel
  by_cases htl : t < E.l.length
  ·have htz : (t : Int) < (E.l.length : Int) := by omega
   have ht0 : (0 : Int) ≤ (t : Int) := by omega
   have ht1 : ¬ (t : Int) < 0 := by omega
   have ht2 : ¬ (E.l.length : Int) ≤ (t : Int) := by omega
   have ts := H.out.tab.st.cell htl
   have th := H.out.tab.hi.cell htl
   have hq := stateM_is (HLE.out t) HST.out
   rw [← HSV.out] at hq
   have HSTP := Lib.hid (manyM_step E s st b t)
   rw [← HM.out] at HSTP
   have hml : m ≤ 40 := by have := manyM_le E s st b t; have := HM.out; omega
   have hmz : (m : Int) ≤ 40 := by omega
   have HTL := Lib.hid htl
   generalize stateM (mst E s t) = sx at ts hq
   generalize hitM E s t = hx at th HSTP
   clear htl ht hml
   cases h1 : (mst E s t == st) with
   | false =>
    rw [h1] at hq HSTP
    rw [Bool.false_and, if_neg (by simp), Nat.add_zero] at HSTP
    clear h1 th
    go_wp2_with fail
    go_roundw
    case rel => exact ⟨t + 1, m, HTL.out, by first | trivial | go_num, by go_num, by first | trivial | rfl, Lib.hid HSTP.out.symm⟩
    case measure => have := HTL.out; simp [intOf]; omega
   | true =>
    rw [h1] at hq HSTP
    rw [Bool.true_and] at HSTP
    clear h1
    cases h2 : (hx == b) with
    | false =>
     rw [h2, if_neg (by simp), Nat.add_zero] at HSTP
     go_wp2_with fail
     go_roundw
     case rel => exact ⟨t + 1, m, HTL.out, by first | trivial | go_num, by go_num, by first | trivial | rfl, Lib.hid HSTP.out.symm⟩
     case measure => have := HTL.out; simp [intOf]; omega
    | true =>
     rw [h2, if_pos rfl] at HSTP
     go_wp2_with fail
     go_roundw
     case rel => exact ⟨t + 1, m + 1, HTL.out, by go_num, by go_num, by first | trivial | rfl, Lib.hid HSTP.out.symm⟩
     case measure => have := HTL.out; simp [intOf]; omega
  ·have htz : ¬ (t : Int) < (E.l.length : Int) := by omega
   have hme : m = N := by rw [HM.out, HN.out, show t = E.l.length by omega]
   have HME := Lib.hid hme
   clear hme htl ht
   go_wp2_with fail
   go_ret
   exact ⟨by rw [HME.out]; rfl, Only.refl _ _⟩
end
end Go.Proofs.YtnmhaipjfpongacGreatDoor

namespace Go.Proofs.YtnmhaipjfpongacGreatDoor
open Go.ChangeShapes Go.WideShapes Go.ChangeAt Go.RowKit

theorem coded2C (w : World) (P : Nat → Addr) (hs : Sents w P) (c : Nat) (hc : c ≤ 12) : Calls Tryz.prog 23 #[errC P c, I c] w (RetE (.bool true) w) := by
 have h := coded2_any w (errC P c) (c : Int) (-1) (c : Int) (code_at w P hs (errC P c) (c, -1) (ErrAt.errC w P c) hc (fun _ => rfl) w (Only.refl _ _))
 rw [beq_self_eq_true, beq_self_eq_true] at h
 exact h
theorem takeN {P : Program} {ops : Array Oper} {Q : Exit → Act → World → Prop} {md : Region.Mode} {S : World → Prop} (i : Nat) {oi : Oper} {tl : List Oper} {v : Value} {fuel : Nat} {listed : Array Bool} {a a' : Act} {w : World}
  (h : wpAnyH P md ops Q S fuel (listed.setIfInBounds i true) a' w) (hd : ops.toList.drop i = oi :: tl := by exact rfl)
  (hs : Region.noSelect ops = true := by kernel_rfl) (hf : Region.free md ops listed i = true := by kernel_rfl) (hr : (Region.ready md ops listed).contains i = true := by kernel_rfl)
  (hQ : ∀ c a w, Q (.panic c) (a.put oi.dst v) w → Q (.panic c) a w := by exact fun _ _ _ h => h) (hw : Region.wanted oi (yielded ops a.tmps) = true := by rfl)
  (hy : ∀ w, S w → (execOp a.eval oi).run P w = .ok (.value v) w := by (intro w hSw; (try dsimp only at hSw); go_simp; try with_reducible rfl)) (hS : S w := by assumption) (ha : a.put oi.dst v = a' := by (try simp only [Act.put, List.setIfInBounds_toArray, List.set_cons_zero, List.set_cons_succ]); rfl) : wpAnyH P md ops Q S (fuel + 1) listed a w := by
 have hi : ops[i]? = some oi := by
  have h1 : ops.toList[i]? = some oi := by
   rw [← List.head?_drop, hd]
   rfl
  simpa using h1
 exact wpAnyH_take hi hs hf hr hQ (Or.inl ⟨hw, hy⟩) hS (ha ▸ h)
theorem skipN {P : Program} {ops : Array Oper} {Q : Exit → Act → World → Prop} {md : Region.Mode} {S : World → Prop} (i : Nat) {oi : Oper} {tl : List Oper} {fuel : Nat} {listed : Array Bool} {a a' : Act} {w : World}
  (h : wpAnyH P md ops Q S fuel (listed.setIfInBounds i true) a' w) (hd : ops.toList.drop i = oi :: tl := by exact rfl)
  (hs : Region.noSelect ops = true := by kernel_rfl) (hf : Region.free md ops listed i = true := by kernel_rfl) (hr : (Region.ready md ops listed).contains i = true := by kernel_rfl)
  (hQ : ∀ c a w, Q (.panic c) (a.put oi.dst undef) w → Q (.panic c) a w := by exact fun _ _ _ h => h) (hw : Region.wanted oi (yielded ops a.tmps) = false := by rfl) (hS : S w := by assumption) (ha : a.put oi.dst undef = a' := by (try simp only [Act.put, List.setIfInBounds_toArray, List.set_cons_zero, List.set_cons_succ]); rfl) : wpAnyH P md ops Q S (fuel + 1) listed a w := by
 have hi : ops[i]? = some oi := by
  have h1 : ops.toList[i]? = some oi := by
   rw [← List.head?_drop, hd]
   rfl
  simpa using h1
 exact wpAnyH_take hi hs hf hr hQ (Or.inr ⟨hw, rfl⟩) hS (ha ▸ h)
noncomputable def whyZ (E : BE) (s : BS) (z : Int) : Nat := if 0 ≤ z ∧ z.toNat ∈ E.sm ∧ s.st z.toNat = 3 then (E.ans z.toNat).2 else 0
section
variable {w w0 : World} {P : Nat → Addr} {base : Nat} {E : BE} {K : BK} {Km : MK} {s : BS} {o : List Nat} {is : Nat → Bool}
set_option maxRecDepth 100000 in
set_option maxHeartbeats 2000000 in
theorem why_any (h : BldAt w P base E K s) (z : Int) : Calls Tryz.prog 134 #[PTR K.b, I z] w (RetSt (errC P (whyZ E s z)) w) := by
 have c1 := (h.cell 1).trans (rfl : _ = some (Value.map (some K.lb)))
 have hlk := KMap.look (P := Tryz.prog) keyOk_int h.steps Tryz.underlying184 Tryz.underlying3 (z := .pointer none) (by kernel_rfl) z
 rcases z_cases E z with ⟨i, rfl, hi⟩ | hz
 ·rw [steps_lookup hi] at hlk
  simp only [Option.isSome_some] at hlk
  have s7 := (h.stepCell hi 7).trans (rfl : _ = some (whyC P E s i))
  have e : whyC P E s i = errC P (whyZ E s (i : Int)) := by
   unfold whyC whyZ
   by_cases h3 : s.st i = 3
   ·rw [if_pos h3, if_pos ⟨by omega, by rw [Int.toNat_natCast]; exact hi, by rw [Int.toNat_natCast]; exact h3⟩, Int.toNat_natCast]
   ·rw [if_neg h3, if_neg (fun k => h3 (by have := k.2.2; rwa [Int.toNat_natCast] at this))]
    rfl
  rw [e] at s7
  generalize errC P (whyZ E s (i : Int)) = v at s7
  clear h hi e
  go_enter Tryz.func134, Tryz.ntmps134
  go_wp2_with fail
  go_ret
  exact ⟨rfl, rfl⟩
 ·rw [steps_miss hz] at hlk
  simp only [Option.isSome_none] at hlk
  have e : errC P (whyZ E s z) = .nilIface := by
   unfold whyZ
   rw [if_neg (fun k => hz _ k.2.1 (by omega))]
   rfl
  rw [e]
  clear h hz e
  go_enter Tryz.func134, Tryz.ntmps134
  go_wp2_with fail
  go_ret
  exact ⟨rfl, rfl⟩

def waitM (E : BE) (s : BS) (t : Nat) : Nat := (List.range t).countP fun i => mst E s i == 1
theorem waitM_step (E : BE) (s : BS) (t : Nat) : waitM E s (t + 1) = waitM E s t + if (mst E s t == 1) = true then 1 else 0 := by
 unfold waitM
 rw [List.range_succ, List.countP_append, List.countP_cons, List.countP_nil, Nat.zero_add]
theorem waitM_le (E : BE) (s : BS) (t : Nat) : waitM E s t ≤ t := by
 unfold waitM
 exact Nat.le_trans List.countP_le_length (Nat.le_of_eq List.length_range)
theorem waitM_end (h : BWell E o is) : overP E s = ((waitM E s E.l.length : Int) == 0) := by
 have e : waitM E s E.l.length = (E.sm.filter fun k => s.st k == 1).length := by
  unfold waitM
  rw [countP_range h.rise h.lt _ (fun i hi => by
   rw [beq_iff_eq] at hi
   refine Classical.byContradiction fun hn => ?_
   rw [mst_out hn] at hi
   cases hi), ← List.countP_eq_length_filter]
  refine List.countP_congr fun i hi => ?_
  rw [mst_in hi]
 rw [e]
 unfold overP
 rw [Bool.eq_iff_iff, beq_iff_eq, beq_iff_eq]
 omega
theorem whyZ_M (i : Nat) : whyZ E s (i : Int) = whyM E s i := by
 unfold whyZ whyM
 by_cases hi : i ∈ E.sm
 ·rw [mst_in hi]
  by_cases h3 : s.st i = 3
  ·rw [if_pos h3, if_pos ⟨by omega, by rw [Int.toNat_natCast]; exact hi, by rw [Int.toNat_natCast]; exact h3⟩, Int.toNat_natCast]
  ·rw [if_neg h3, if_neg (fun k => h3 (by have := k.2.2; rwa [Int.toNat_natCast] at this))]
 ·rw [mst_out hi, if_neg (fun (k : 0 ≤ (i : Int) ∧ (i : Int).toNat ∈ E.sm ∧ _) => hi (by have := k.2.1; rwa [Int.toNat_natCast] at this)), if_neg (by decide)]
theorem whyZ_le (h : BWell E o is) (z : Int) : whyZ E s z ≤ 12 := by
 unfold whyZ
 split
 ·exact (h.ok _).code
 ·omega
theorem whyZ_out {z : Int} (h : ∀ k ∈ E.sm, (k : Int) ≠ z) : whyZ E s z = 0 := if_neg fun ⟨h1, h2, _⟩ => h _ h2 (by omega)
theorem resZ_two {i : Nat} : (resZ E s (i : Int)).2 = (mst E s i == 2) := by
 by_cases hi : i ∈ E.sm
 ·rw [mst_in hi]
  by_cases h2 : s.st i = 2
  ·rw [resZ_in hi h2, h2]; rfl
  ·rw [resZ_not h2]
   exact (beq_eq_false_iff_ne.2 h2).symm
 ·rw [mst_out hi, resZ_out fun k hk e => hi (by
   have : k = i := by omega
   rw [← this]; exact hk)]
  rfl
theorem resZ_nil {i : Nat} (h : (resZ E s (i : Int)).2 = false) : (resZ E s (i : Int)).1 = [] := by
 unfold resZ at *
 split at h
 ·cases h
 ·rw [if_neg (by assumption)]
end
end Go.Proofs.YtnmhaipjfpongacGreatDoor
