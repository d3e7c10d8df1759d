/- Texts of this seat laid together for one claim: G3. No condition of its own: what each proves stands with its theorems. -/
import Derived.Test.YtnmhaipjfpongacGreatDoorSA16
import Derived.Test.YtnmhaipjfpongacGreatDoorSA12
namespace Go.Proofs.YtnmhaipjfpongacGreatDoor
open Go.ChangeShapes Go.WideShapes Go.ChangeAt Go.RowKit

set_option maxRecDepth 100000 in
theorem run_marks (n : Nat) (hn : n ≤ 1000000) (w : World) : (Instr.makeSlice 49 (.int .i64 (n : Int)) (.int .i64 (n : Int))).run Tryz.prog w =
  .ok (.slice (some ⟨w.heap.size, 0, none⟩) n n) (w.alloc (.cells (Array.replicate n (.bool false)) 4 (0, 0))) := by
 have hin : (Tryz.prog.info? 4).map (fun i => (i.zero, i.size, i.bytes)) = some (some (.bool false), 1, 1) := by kernel_rfl
 obtain ⟨i0, hi, hz0, hz1, hz2⟩ := info_parts hin
 have h := run_make w 49 4 i0 (.bool false) Tryz.underlying49 hi hz0 .i64 .i64 (n : Int) (n : Int) (by omega) (Int.le_refl _) (by rw [hz2]; omega) (by omega)
 rw [h, hz1]
 rw [Int.toNat_natCast, Nat.mul_one]
 congr 2
 congr 1
 apply Array.ext
 ·simp [madeCells]
 ·intro i h1 h2
  simp [madeCells, Value.cells, Nat.mod_one]

theorem Rd.ints {w : World} {v : Value} {l : List Nat} (h : Rd IN w v l) : Rd I w v (l.map fun k : Nat => (k : Int)) := by
 obtain ⟨a, cap, h1, h2, h3, h4⟩ := h
 refine ⟨a, cap, by rw [List.length_map]; exact h1, by rw [List.length_map]; exact h2, h3, fun hl => ?_⟩
 obtain ⟨b, off, h5, h6⟩ := h4 (fun e => hl (by rw [e]; rfl))
 refine ⟨b, off, h5, fun i x hx => ?_⟩
 rw [List.getElem?_map] at hx
 obtain ⟨k, hk, rfl⟩ := Option.map_eq_some_iff.1 hx
 exact h6 i k hk

theorem next_hit {n : Nat} {nd : Nat → Nat → Bool} {is : Nat → Bool} {out : List Nat} {i : Nat} (hi : i < n) (hf : freeB n nd is out i = true) (hb : ∀ t, t < i → freeB n nd is out t = false) : nextB n nd is out = some i := by
 unfold nextB
 rw [List.find?_range_eq_some]
 exact ⟨hf, List.mem_range.2 hi, fun j hj => by rw [hb j hj]; rfl⟩
theorem next_miss {n : Nat} {nd : Nat → Nat → Bool} {is : Nat → Bool} {out : List Nat} (hb : ∀ t, t < n → freeB n nd is out t = false) : nextB n nd is out = none := by
 unfold nextB
 rw [List.find?_eq_none]
 intro t ht
 rw [hb t (List.mem_range.1 ht)]
 decide
theorem many_step {is : Nat → Bool} (j : Nat) : manyB (j + 1) is = manyB j is + (if is j then 1 else 0) := by
 unfold manyB
 rw [List.range_succ, List.filter_append, List.length_append]
 congr 1
 cases h : is j <;> simp [List.filter, h]
theorem many_mono {is : Nat → Bool} : ∀ {j n : Nat}, j ≤ n → manyB j is ≤ manyB n is
 | j, 0, h => by rw [Nat.le_zero.1 h]; exact Nat.le_refl _
 | j, n + 1, h => by
  rcases Nat.eq_or_lt_of_le h with e | e
  ·rw [e]; exact Nat.le_refl _
  ·have := many_mono (is := is) (j := j) (n := n) (by omega)
   rw [many_step]
   omega

theorem wpNumH {P : Program} (hP : P = Tryz.prog) {ops : Array Oper} {rest : List Oper} {o : Oper} {a : Act} {Q : Exit → Act → World → Prop} (s x : Operand) (w0 : World) (base : Nat) (v : Value) (l : List Nat) (k : Nat) (W : World) (H : Nat) (hH : W.heap.size = H) (hgd : o.guard = none)
  (ho : o.op = .call { callee := .builtin .append, args := #[s, x], argTypes := #[46, 46] }) (hs : a.eval s = v) (hx : a.eval x = .slice (some ⟨H, 0, none⟩) 1 1)
  (hrow : RowI base W v l) (hl : l.length ≤ 1000000) (hbase : base ≤ W.heap.size) (hxt : Ext w0 W) (hb0 : w0.heap.size ≤ base)
  (hK : ∀ g cap w', Hid (RowI base w' (.slice (some ⟨g, 0, none⟩) (l.length + 1) cap) (l ++ [k])) → Hid (Ext w0 w') → Hid (W.grownBy w' v.ownBlock) →
   wpList P ops Q rest (a.put o.dst (.slice (some ⟨g, 0, none⟩) (l.length + 1) cap)) w') :
  wpList P ops Q (o :: rest) a (W.alloc (.cells #[IN k] 3 (0, 0))) := by
 subst hH
 exact wpNum hP s x w0 base v l k W hgd ho hs hx hrow hl hbase hxt hb0 hK

structure OrdAt (w wr : World) (n bx db base : Nat) (v : Value) (ds out : List Nat) : Prop where
 ext : Ext w wr
 box : wr.heap[bx]? = some (.cells #[.slice (some ⟨db, 0, none⟩) n n] 49 (0, 0))
 tab : TabAt wr db 4 n (fun k => .bool (decide (k ∈ ds)))
 row : RowI base wr v out
 lo : w.heap.size ≤ db ∧ w.heap.size ≤ bx ∧ db < base ∧ bx < base ∧ base ≤ wr.heap.size ∧ db ≠ bx

theorem OrdAt.grow {w wr w' : World} {n bx db base : Nat} {v : Value} {ds out : List Nat} (h : OrdAt w wr n bx db base v ds out) (ho : Ext wr w') : OrdAt w w' n bx db base v ds out :=
 ⟨h.ext.then ho, ho.heapOf h.box (fun h => h), h.tab.ext ho, h.row.ext ho, ⟨h.lo.1, h.lo.2.1, h.lo.2.2.1, h.lo.2.2.2.1, Nat.le_trans h.lo.2.2.2.2.1 ho.size, h.lo.2.2.2.2.2⟩⟩
theorem OrdAt.boxc {w wr : World} {n bx db base : Nat} {v : Value} {ds out : List Nat} (h : OrdAt w wr n bx db base v ds out) : wr.cell? ⟨bx, 0, none⟩ = some (.slice (some ⟨db, 0, none⟩) n n) := (cell_of_heap h.box 0).trans rfl
theorem OrdAt.mark {w wr : World} {n bx db base : Nat} {v : Value} {ds out : List Nat} (h : OrdAt w wr n bx db base v ds out) (k : Nat) : OrdAt w (wr.setCell ⟨db, k, none⟩ (.bool true)) n bx db base v (ds ++ [k]) out := by
 obtain ⟨l1, l2, l3, l4, l5, l6⟩ := h.lo
 have hs : Only (fun b => b = db) wr (wr.setCell ⟨db, k, none⟩ (.bool true)) := Only.set _ rfl
 refine ⟨h.ext.trans hs (fun _ _ h => h) (fun i hi e => by omega), hs.heapOf h.box (fun e => l6 e.symm), (h.tab.set k (.bool true)).congr fun i hi => ?_, hs.row h.row (fun b e e2 => by have := h.row.base b e; omega), ⟨l1, l2, l3, l4, Nat.le_trans l5 hs.size, l6⟩⟩
 by_cases e : i = k
 ·rw [if_pos e, e]; simp
 ·rw [if_neg e]
  congr 2
  simp [e]
theorem OrdAt.push {w wr w' : World} {n bx db base : Nat} {v v' : Value} {ds out out' : List Nat} (h : OrdAt w wr n bx db base v ds out) (hg : wr.grownBy w' v.ownBlock) (hr : RowI base w' v' out') : OrdAt w w' n bx db base v' ds out' := by
 have ho : Only (fun b => v.ownBlock = some b) wr w' := Only.of_grown hg
 obtain ⟨l1, l2, l3, l4, l5, l6⟩ := h.lo
 have hb : ∀ b, v.ownBlock = some b → base ≤ b := h.row.base
 exact ⟨h.ext.trans ho (fun _ _ h => h) (fun i hi e => by have := hb i e; omega), ho.heapOf h.box (fun e => by have := hb _ e; omega), h.tab.later ho (fun e => by have := hb _ e; omega), hr, ⟨l1, l2, l3, l4, Nat.le_trans l5 ho.size, l6⟩⟩

theorem OrdAt.start (w : World) (n : Nat) : OrdAt w ((w.alloc (.cells (Array.replicate n (.bool false)) 4 (0, 0))).alloc (.cells #[.slice (some ⟨w.heap.size, 0, none⟩) n n] 49 (0, 0))) n (w.heap.size + 1) w.heap.size (w.heap.size + 2) (.slice none 0 0) [] [] := by
 have h1 : Ext w (w.alloc (.cells (Array.replicate n (.bool false)) 4 (0, 0))) := Only.alloc _ _ _
 have h2 := MapKept.heap_alloc (w.alloc (.cells (Array.replicate n (.bool false)) 4 (0, 0))) (.cells #[.slice (some ⟨w.heap.size, 0, none⟩) n n] 49 (0, 0))
 have hs : (w.alloc (.cells (Array.replicate n (.bool false)) 4 (0, 0))).heap.size = w.heap.size + 1 := by simp
 rw [hs] at h2
 exact ⟨h1.thenAlloc _, h2.1, ((TabAt.made w 4 n (.bool false)).congr (fun k _ => by simp)).ext (Only.alloc _ _ _), RowI.nil _ _, ⟨Nat.le_refl _, by omega, by omega, by omega, by simp, by omega⟩⟩

theorem og_done {n : Nat} {nd : Nat → Nat → Bool} {is : Nat → Bool} {f : Nat} {out : List Nat} (h : ¬ out.length < manyB n is) : orderGo n nd is f out = some out := by
 cases f with
 | zero => unfold orderGo; rw [if_neg h]
 | succ f => unfold orderGo; rw [if_neg h]
theorem og_none {n : Nat} {nd : Nat → Nat → Bool} {is : Nat → Bool} {f : Nat} {out : List Nat} (h : out.length < manyB n is) (hn : nextB n nd is out = none) : orderGo n nd is f out = none := by
 cases f with
 | zero => unfold orderGo; rw [if_pos h]
 | succ f => unfold orderGo; rw [if_pos h, hn]
theorem og_some {n : Nat} {nd : Nat → Nat → Bool} {is : Nat → Bool} {out : List Nat} {k : Nat} (h : out.length < manyB n is) (hn : nextB n nd is out = some k) : orderGo n nd is (n - out.length) out = orderGo n nd is (n - (out ++ [k]).length) (out ++ [k]) := by
 have hm := manyB_le n is
 obtain ⟨f, hf⟩ : ∃ f, n - out.length = f + 1 := ⟨n - out.length - 1, by omega⟩
 rw [hf, orderGo, if_pos h, hn]
 simp only
 rw [List.length_append, List.length_singleton, show n - (out.length + 1) = f by omega]

def nextI (o : Option Nat) : Int := match o with | some k => (k : Int) | none => -1

theorem enters_order1 : ∀ args w, (callFunc 212 args).run Tryz.prog w = .ok (.enter 212 args) w := fun args w => by kernel_rfl

theorem order1_test (w : World) (n bx db : Nat) (ds : List Nat) (j : Nat) (hj : j < n) (hb : w.cell? ⟨bx, 0, none⟩ = some (.slice (some ⟨db, 0, none⟩) n n)) (ht : TabAt w db 4 n (fun k => .bool (decide (k ∈ ds)))) :
  Calls Tryz.prog 212 #[I j, .pointer (some ⟨bx, 0, none⟩)] w (RetE (.bool (!ds.contains j)) w) := by
 have hc := ht.cell hj
 have hjz : (j : Int) < (n : Int) := by omega
 have hj0 : (0 : Int) ≤ (j : Int) := by omega
 rw [List.contains_eq_mem]
 generalize decide (j ∈ ds) = q at *
 clear ht
 go_enter Tryz.func212, Tryz.ntmps212
 go_wp2_with fail
 go_ret
 exact ⟨rfl, Only.refl _ _⟩

def RetOrder (o : Option (List Nat)) (w : World) (e : Ending) (w' : World) : Prop := ∃ v, e = .returned (.tuple #[v, .bool o.isSome]) ∧ RowI w.heap.size w' v (o.getD []) ∧ Ext w w'

set_option maxRecDepth 100000 in
set_option maxHeartbeats 4000000 in
theorem order0_any (g : Nat) (is : Nat → Bool) (w : World) (v : Value) (n : Nat) (nd : Nat → Nat → Bool) (hn : n ≤ 1000) (hv : RdLL w v ((List.range n).map (edgeB n nd))) (eg : ∀ args w, (callFunc g args).run Tryz.prog w = .ok (.enter g args) w)
  (hi : ∀ w1, Ext w w1 → ∀ i : Nat, i < n → Calls Tryz.prog g #[I i] w1 (RetE (.bool (is i)) w1)) :
  Calls Tryz.prog 163 #[v, .func (.func g) #[] #[]] w (RetOrder (orderB n nd is) w) := by
 obtain ⟨a, cap, rfl, hcap, hml, hc⟩ := hv
 rw [List.length_map, List.length_range] at hcap
 have hnz : (n : Int) ≤ 1000 := by omega
 have HC : Hid (∀ i, i < n → ∃ b off u, a = some ⟨b, off, none⟩ ∧ Rd IN w u (edgeB n nd i) ∧ w.cell? ⟨b, off + i, none⟩ = some u) := Lib.hid (fun i hi => by
  obtain ⟨b, off, h1, h2⟩ := hc (fun e => by have := congrArg List.length e; simp at this; omega)
  obtain ⟨u, h3, h4⟩ := h2 i (edgeB n nd i) (by rw [List.getElem?_map, List.getElem?_range hi]; rfl)
  exact ⟨b, off, u, h1, h3, h4⟩)
 have hmk := run_marks n (by omega) w
 rw [List.length_map, List.length_range]
 obtain ⟨R, hR⟩ : ∃ R, R = orderB n nd is := ⟨_, rfl⟩
 rw [← hR]
 have HI := Lib.hid hi
 have HR := Lib.hid hR
 clear hi hR
 clear hc hml
 go_enter Tryz.func163, Tryz.ntmps163
 go_wp2_with fail
 have HO0 := Lib.hid (OrdAt.start w n)
 generalize ((w.alloc (.cells (Array.replicate n (.bool false)) 4 (0, 0))).alloc (.cells #[.slice (some ⟨w.heap.size, 0, none⟩) n n] 49 (0, 0))) = wq at HO0 ⊢
 obtain ⟨bx, hbx⟩ : ∃ bx, bx = w.heap.size + 1 := ⟨_, rfl⟩
 obtain ⟨db, hdb⟩ : ∃ db, db = w.heap.size := ⟨_, rfl⟩
 obtain ⟨bs, hbs⟩ : ∃ bs, bs = w.heap.size + 2 := ⟨_, rfl⟩
 have HBS : Hid (w.heap.size ≤ bs) := Lib.hid (by omega)
 rw [← hbs, ← hbx, ← hdb] at HO0
 rw [← hbx, ← hdb]
 clear hbx hdb hbs hmk
 go_loopw [8, 9, 17] (fun m _ i wr => ∃ j : Nat, j ≤ n ∧ i = .int .i64 j ∧ m = .int .i64 (manyB j is) ∧ Hid (OrdAt w wr n bx db bs (.slice none 0 0) [] [])) (fun _ _ i _ => n - (intOf i).toNat)
 case atStart => exact ⟨0, Nat.zero_le _, rfl, rfl, HO0⟩
 case round =>
  clear HO0
  obtain ⟨j, hj, rfl, rfl, HO⟩ := hrel
  by_cases hlt : j < n
  ·have hltz : (j : Int) < (n : Int) := by omega
   have HII := Lib.hid (HI.out wr HO.out.ext j hlt)
   have hmm := many_mono (is := is) (Nat.le_of_lt hlt)
   have hml := manyB_le n is
   have hst := many_step (is := is) j
   have hmb : (manyB j is : Int) ≤ 1000 := by omega
   cases hq : is j with
   | true =>
    rw [hq] at HII hst
    rw [if_pos rfl] at hst
    have HST := Lib.hid hst
    clear hst hq hmm hml
    go_wp2_with fail
    refine (HII.out).mono ?_
    rintro e w3 ⟨rfl, ho⟩
    have HO3 := Lib.hid (HO.out.grow ho)
    clear ho
    go_wp2_with fail
    go_roundw
    case rel => exact ⟨j + 1, by omega, by go_num, by rw [HST.out]; go_num, HO3⟩
    case measure => simp [intOf]; omega
   | false =>
    rw [hq] at HII hst
    rw [if_neg (by decide), Nat.add_zero] at hst
    have HST := Lib.hid hst
    clear hst hq hmm hml
    go_wp2_with fail
    refine (HII.out).mono ?_
    rintro e w3 ⟨rfl, ho⟩
    have HO3 := Lib.hid (HO.out.grow ho)
    clear ho
    go_wp2_with fail
    go_roundw
    case rel => exact ⟨j + 1, by omega, by go_num, by rw [HST.out]; rfl, HO3⟩
    case measure => simp [intOf]; omega
  ·have hltz : ¬ (j : Int) < (n : Int) := by omega
   obtain rfl : j = n := by omega
   have hml := manyB_le j is
   have hmlz : (manyB j is : Int) ≤ 1000 := by omega
   have HRR : Hid (R = orderGo j nd is (j - ([] : List Nat).length) []) := Lib.hid HR.out
   clear hj hlt
   go_wp2_with fail
   go_loopw [7, 10, 11] (fun v _ _ wr => ∃ out : List Nat, out.length ≤ j ∧ Hid (OrdAt w wr j bx db bs v out out) ∧ Hid (R = orderGo j nd is (j - out.length) out)) (fun v _ _ _ => match v with | .slice _ m _ => j - m | _ => 0)
   case atStart => exact ⟨[], Nat.zero_le _, HO, HRR⟩
   case round =>
    clear HO HRR
    obtain ⟨out, hol, HO, HRR⟩ := hrel
    obtain ⟨av, cv, rfl, hcv, _, _⟩ := HO.out.row.rd
    by_cases hlt : out.length < manyB j is
    ·have hltz : (out.length : Int) < (manyB j is : Int) := by omega
     obtain ⟨N, hN⟩ : ∃ N, N = nextB j nd is out := ⟨_, rfl⟩
     have HN := Lib.hid hN
     clear hN
     go_upto_block 4 with fail
     go_cut [10] (fun k wx => k = I (nextI N) ∧ Hid (OrdAt w wx j bx db bs (.slice av out.length cv) out out))
     case first =>
      go_wp2_with fail
      go_loopw [10, 11, 32] (fun k _ t wx => k = I (-1) ∧ ∃ i : Nat, i ≤ j ∧ t = .int .i64 i ∧ Hid (∀ t, t < i → freeB j nd is out t = false) ∧ Hid (OrdAt w wx j bx db bs (.slice av out.length cv) out out)) (fun _ _ t _ => j - (intOf t).toNat)
      case atStart => exact ⟨rfl, 0, Nat.zero_le _, rfl, Lib.hid (fun t h => by omega), HO⟩
      case round =>
       clear HO
       obtain ⟨rfl, i, hi, rfl, HNF, HO⟩ := hrel
       by_cases hlt2 : i < j
       ·have hlt2z : (i : Int) < (j : Int) := by omega
        have hi0 : (0 : Int) ≤ (i : Int) := by omega
        have HII := Lib.hid (HI.out wr HO.out.ext i hlt2)
        have HNX : Hid (freeB j nd is out i = false → ∀ t, t < i + 1 → freeB j nd is out t = false) := Lib.hid (fun h t ht => by
         rcases Nat.lt_succ_iff_lt_or_eq.1 ht with h1 | rfl
         ·exact HNF.out t h1
         ·exact h)
        cases hq : is i with
        | false =>
         rw [hq] at HII
         have HF := Lib.hid (HNX.out (by unfold freeB; rw [hq]; rfl))
         clear hq
         go_wp2_with fail
         refine (HII.out).mono ?_
         rintro e w3 ⟨rfl, ho⟩
         have HO3 := Lib.hid (HO.out.grow ho)
         clear ho
         go_wp2_with fail
         go_roundw
         case rel => exact ⟨rfl, i + 1, by omega, by go_num, HF, HO3⟩
         case measure => simp [intOf]; omega
        | true =>
         rw [hq] at HII
         obtain ⟨b, off, u, rfl, hu, hcell⟩ := HC.out i hlt2
         have HU := Lib.hid hu
         have HCE := Lib.hid hcell
         have HQ := Lib.hid hq
         clear hu hcell hq
         by_cases hd : i ∈ out
         ·have HF := Lib.hid (HNX.out (by unfold freeB; rw [HQ.out, List.contains_eq_mem, decide_eq_true hd]; rfl))
          have hdd : decide (i ∈ out) = true := decide_eq_true hd
          clear hd
          go_wp2_with fail
          refine (HII.out).mono ?_
          rintro e w3 ⟨rfl, ho⟩
          have HO3 := Lib.hid (HO.out.grow ho)
          clear ho
          have c0 := HO3.out.boxc
          have c1 := HO3.out.tab.cell hlt2
          simp only [hdd] at c1
          go_wp2_with fail
          go_roundw
          case rel => exact ⟨rfl, i + 1, by omega, by go_num, HF, HO3⟩
          case measure => simp [intOf]; omega
         ·have hdd : decide (i ∈ out) = false := decide_eq_false hd
          have hfr : freeB j nd is out i = !(edgeB j nd i).any fun k => !out.contains k := by unfold freeB; rw [HQ.out, List.contains_eq_mem, hdd]; rfl
          have HFR := Lib.hid hfr
          clear hfr
          clear hd
          go_wp2_with fail
          refine HII.out.mono ?_
          rintro e w3 ⟨rfl, ho⟩
          have HO3 := Lib.hid (HO.out.grow ho)
          clear ho
          have c0 := HO3.out.boxc
          have c1 := HO3.out.tab.cell hlt2
          have c2 := HO3.out.ext.cellOf HCE.out (fun h => h)
          simp only [hdd] at c1
          have hcf := containsFunc_I1 212 (.pointer (some ⟨bx, 0, none⟩)) (fun x => !out.contains x.toNat) w3 u ((edgeB j nd i).map fun k : Nat => (k : Int)) (Rd.ints (HU.out.ext HO3.out.ext)) enters_order1 (fun w4 h4 x hx => by
           obtain ⟨k, hk, rfl⟩ := List.mem_map.1 hx
           have := order1_test w4 j bx db out k (mem_edge.1 hk).1 ((HO3.out.grow h4).boxc) ((HO3.out.grow h4).tab)
           rw [Int.toNat_natCast]
           exact this)
          rw [List.any_map, show ((fun x : Int => !out.contains x.toNat) ∘ fun k : Nat => (k : Int)) = (fun k => !out.contains k) from by funext k; simp] at hcf
          have HCF := Lib.hid hcf
          clear hcf
          cases hres : (edgeB j nd i).any fun k => !out.contains k with
          | true =>
           rw [hres] at HCF HFR
           have HF := Lib.hid (HNX.out HFR.out)
           clear hres
           go_wp2_with fail
           refine (HCF.out).mono ?_
           rintro e w5 ⟨rfl, ho⟩
           have HO5 := Lib.hid (HO3.out.grow ho)
           clear ho
           go_wp2_with fail
           go_roundw
           case rel => exact ⟨rfl, i + 1, by omega, by go_num, HF, HO5⟩
           case measure => simp [intOf]; omega
          | false =>
           rw [hres] at HCF HFR
           have HNI : Hid (N = some i) := Lib.hid (by rw [HN.out]; exact next_hit hlt2 HFR.out HNF.out)
           clear hres
           go_wp2_with fail
           refine (HCF.out).mono ?_
           rintro e w5 ⟨rfl, ho⟩
           have HO5 := Lib.hid (HO3.out.grow ho)
           clear ho
           go_wp2_with fail
           go_meet
           exact ⟨by rw [HNI.out]; rfl, HO5⟩
       ·have hlt2z : ¬ (i : Int) < (j : Int) := by omega
        have HNI : Hid (N = none) := Lib.hid (by rw [HN.out]; exact next_miss fun t ht => HNF.out t (by omega))
        go_wp2_with fail
        go_meet
        exact ⟨by rw [HNI.out]; rfl, HO⟩
     case rest =>
      clear HO
      obtain ⟨rfl, HO⟩ := hcut
      cases N with
      | none =>
       have hr := HRR.out
       rw [og_none hlt HN.out.symm] at hr
       subst hr
       have hm1 : nextI none < 0 := by decide
       clear hlt HRR HR
       go_wp2_with fail
       go_ret2
       exact ⟨_, rfl, RowI.nil _ _, HO.out.ext⟩
      | some k =>
       have hk := (nextB_some HN.out.symm).1
       have hr := HRR.out
       rw [og_some hlt HN.out.symm] at hr
       have HRR2 := Lib.hid hr
       have hm1 : nextI (some k) = (k : Int) := rfl
       have hk0 : ¬ (k : Int) < 0 := by omega
       have hk1 : (0 : Int) ≤ (k : Int) := by omega
       have hkz : (k : Int) < (j : Int) := by omega
       have c0 := HO.out.boxc
       have c1 := HO.out.tab.cell hk
       have c2 := HO.out.tab.free k
       have HMK := Lib.hid (HO.out.mark k)
       have hol2 : out.length + 1 ≤ j := by omega
       rw [hm1]
       clear hr hm1 hlt hk
       go_wp2_with (at_builtin; refine wpNumH rfl (.tmp 61) (.tmp 63) w bs (.slice av out.length cv) out k (wc.setCell ⟨db, k, none⟩ (.bool true)) wc.heap.size (by simp) rfl rfl rfl rfl HMK.out.row (by omega) HMK.out.lo.2.2.2.2.1 HMK.out.ext HBS.out ?_; intro g5 cap5 w5 HR5 _ HG5; have HP5 := Lib.hid (HMK.out.push HG5.out HR5.out))
       go_roundw
       case rel => exact ⟨out ++ [k], by rw [List.length_append]; exact hol2, HP5, HRR2⟩
       case measure => simp; omega
    ·have hltz : ¬ (out.length : Int) < (manyB j is : Int) := by omega
     have hr := HRR.out
     rw [og_done hlt] at hr
     subst hr
     clear hlt HRR HR
     go_wp2_with fail
     go_ret2
     exact ⟨_, rfl, HO.out.row.down HBS.out, HO.out.ext⟩

set_option maxRecDepth 100000 in
set_option maxHeartbeats 4000000 in
theorem order1_any (g : Nat) (x0 : Value) (is : Nat → Bool) (w : World) (v : Value) (n : Nat) (nd : Nat → Nat → Bool) (hn : n ≤ 1000) (hv : RdLL w v ((List.range n).map (edgeB n nd))) (eg : ∀ args w, (callFunc g args).run Tryz.prog w = .ok (.enter g args) w)
  (hi : ∀ w1, Ext w w1 → ∀ i : Nat, i < n → Calls Tryz.prog g #[I i, x0] w1 (RetE (.bool (is i)) w1)) :
  Calls Tryz.prog 163 #[v, .func (.func g) #[] #[x0]] w (RetOrder (orderB n nd is) w) := by
 obtain ⟨a, cap, rfl, hcap, hml, hc⟩ := hv
 rw [List.length_map, List.length_range] at hcap
 have hnz : (n : Int) ≤ 1000 := by omega
 have HC : Hid (∀ i, i < n → ∃ b off u, a = some ⟨b, off, none⟩ ∧ Rd IN w u (edgeB n nd i) ∧ w.cell? ⟨b, off + i, none⟩ = some u) := Lib.hid (fun i hi => by
  obtain ⟨b, off, h1, h2⟩ := hc (fun e => by have := congrArg List.length e; simp at this; omega)
  obtain ⟨u, h3, h4⟩ := h2 i (edgeB n nd i) (by rw [List.getElem?_map, List.getElem?_range hi]; rfl)
  exact ⟨b, off, u, h1, h3, h4⟩)
 have hmk := run_marks n (by omega) w
 rw [List.length_map, List.length_range]
 obtain ⟨R, hR⟩ : ∃ R, R = orderB n nd is := ⟨_, rfl⟩
 rw [← hR]
 have HI := Lib.hid hi
 have HR := Lib.hid hR
 clear hi hR
 clear hc hml
 go_enter Tryz.func163, Tryz.ntmps163
 go_wp2_with fail
 have HO0 := Lib.hid (OrdAt.start w n)
 generalize ((w.alloc (.cells (Array.replicate n (.bool false)) 4 (0, 0))).alloc (.cells #[.slice (some ⟨w.heap.size, 0, none⟩) n n] 49 (0, 0))) = wq at HO0 ⊢
 obtain ⟨bx, hbx⟩ : ∃ bx, bx = w.heap.size + 1 := ⟨_, rfl⟩
 obtain ⟨db, hdb⟩ : ∃ db, db = w.heap.size := ⟨_, rfl⟩
 obtain ⟨bs, hbs⟩ : ∃ bs, bs = w.heap.size + 2 := ⟨_, rfl⟩
 have HBS : Hid (w.heap.size ≤ bs) := Lib.hid (by omega)
 rw [← hbs, ← hbx, ← hdb] at HO0
 rw [← hbx, ← hdb]
 clear hbx hdb hbs hmk
 go_loopw [8, 9, 17] (fun m _ i wr => ∃ j : Nat, j ≤ n ∧ i = .int .i64 j ∧ m = .int .i64 (manyB j is) ∧ Hid (OrdAt w wr n bx db bs (.slice none 0 0) [] [])) (fun _ _ i _ => n - (intOf i).toNat)
 case atStart => exact ⟨0, Nat.zero_le _, rfl, rfl, HO0⟩
 case round =>
  clear HO0
  obtain ⟨j, hj, rfl, rfl, HO⟩ := hrel
  by_cases hlt : j < n
  ·have hltz : (j : Int) < (n : Int) := by omega
   have HII := Lib.hid (HI.out wr HO.out.ext j hlt)
   have hmm := many_mono (is := is) (Nat.le_of_lt hlt)
   have hml := manyB_le n is
   have hst := many_step (is := is) j
   have hmb : (manyB j is : Int) ≤ 1000 := by omega
   cases hq : is j with
   | true =>
    rw [hq] at HII hst
    rw [if_pos rfl] at hst
    have HST := Lib.hid hst
    clear hst hq hmm hml
    go_wp2_with fail
    refine (HII.out).mono ?_
    rintro e w3 ⟨rfl, ho⟩
    have HO3 := Lib.hid (HO.out.grow ho)
    clear ho
    go_wp2_with fail
    go_roundw
    case rel => exact ⟨j + 1, by omega, by go_num, by rw [HST.out]; go_num, HO3⟩
    case measure => simp [intOf]; omega
   | false =>
    rw [hq] at HII hst
    rw [if_neg (by decide), Nat.add_zero] at hst
    have HST := Lib.hid hst
    clear hst hq hmm hml
    go_wp2_with fail
    refine (HII.out).mono ?_
    rintro e w3 ⟨rfl, ho⟩
    have HO3 := Lib.hid (HO.out.grow ho)
    clear ho
    go_wp2_with fail
    go_roundw
    case rel => exact ⟨j + 1, by omega, by go_num, by rw [HST.out]; rfl, HO3⟩
    case measure => simp [intOf]; omega
  ·have hltz : ¬ (j : Int) < (n : Int) := by omega
   obtain rfl : j = n := by omega
   have hml := manyB_le j is
   have hmlz : (manyB j is : Int) ≤ 1000 := by omega
   have HRR : Hid (R = orderGo j nd is (j - ([] : List Nat).length) []) := Lib.hid HR.out
   clear hj hlt
   go_wp2_with fail
   go_loopw [7, 10, 11] (fun v _ _ wr => ∃ out : List Nat, out.length ≤ j ∧ Hid (OrdAt w wr j bx db bs v out out) ∧ Hid (R = orderGo j nd is (j - out.length) out)) (fun v _ _ _ => match v with | .slice _ m _ => j - m | _ => 0)
   case atStart => exact ⟨[], Nat.zero_le _, HO, HRR⟩
   case round =>
    clear HO HRR
    obtain ⟨out, hol, HO, HRR⟩ := hrel
    obtain ⟨av, cv, rfl, hcv, _, _⟩ := HO.out.row.rd
    by_cases hlt : out.length < manyB j is
    ·have hltz : (out.length : Int) < (manyB j is : Int) := by omega
     obtain ⟨N, hN⟩ : ∃ N, N = nextB j nd is out := ⟨_, rfl⟩
     have HN := Lib.hid hN
     clear hN
     go_upto_block 4 with fail
     go_cut [10] (fun k wx => k = I (nextI N) ∧ Hid (OrdAt w wx j bx db bs (.slice av out.length cv) out out))
     case first =>
      go_wp2_with fail
      go_loopw [10, 11, 32] (fun k _ t wx => k = I (-1) ∧ ∃ i : Nat, i ≤ j ∧ t = .int .i64 i ∧ Hid (∀ t, t < i → freeB j nd is out t = false) ∧ Hid (OrdAt w wx j bx db bs (.slice av out.length cv) out out)) (fun _ _ t _ => j - (intOf t).toNat)
      case atStart => exact ⟨rfl, 0, Nat.zero_le _, rfl, Lib.hid (fun t h => by omega), HO⟩
      case round =>
       clear HO
       obtain ⟨rfl, i, hi, rfl, HNF, HO⟩ := hrel
       by_cases hlt2 : i < j
       ·have hlt2z : (i : Int) < (j : Int) := by omega
        have hi0 : (0 : Int) ≤ (i : Int) := by omega
        have HII := Lib.hid (HI.out wr HO.out.ext i hlt2)
        have HNX : Hid (freeB j nd is out i = false → ∀ t, t < i + 1 → freeB j nd is out t = false) := Lib.hid (fun h t ht => by
         rcases Nat.lt_succ_iff_lt_or_eq.1 ht with h1 | rfl
         ·exact HNF.out t h1
         ·exact h)
        cases hq : is i with
        | false =>
         rw [hq] at HII
         have HF := Lib.hid (HNX.out (by unfold freeB; rw [hq]; rfl))
         clear hq
         go_wp2_with fail
         refine (HII.out).mono ?_
         rintro e w3 ⟨rfl, ho⟩
         have HO3 := Lib.hid (HO.out.grow ho)
         clear ho
         go_wp2_with fail
         go_roundw
         case rel => exact ⟨rfl, i + 1, by omega, by go_num, HF, HO3⟩
         case measure => simp [intOf]; omega
        | true =>
         rw [hq] at HII
         obtain ⟨b, off, u, rfl, hu, hcell⟩ := HC.out i hlt2
         have HU := Lib.hid hu
         have HCE := Lib.hid hcell
         have HQ := Lib.hid hq
         clear hu hcell hq
         by_cases hd : i ∈ out
         ·have HF := Lib.hid (HNX.out (by unfold freeB; rw [HQ.out, List.contains_eq_mem, decide_eq_true hd]; rfl))
          have hdd : decide (i ∈ out) = true := decide_eq_true hd
          clear hd
          go_wp2_with fail
          refine (HII.out).mono ?_
          rintro e w3 ⟨rfl, ho⟩
          have HO3 := Lib.hid (HO.out.grow ho)
          clear ho
          have c0 := HO3.out.boxc
          have c1 := HO3.out.tab.cell hlt2
          simp only [hdd] at c1
          go_wp2_with fail
          go_roundw
          case rel => exact ⟨rfl, i + 1, by omega, by go_num, HF, HO3⟩
          case measure => simp [intOf]; omega
         ·have hdd : decide (i ∈ out) = false := decide_eq_false hd
          have hfr : freeB j nd is out i = !(edgeB j nd i).any fun k => !out.contains k := by unfold freeB; rw [HQ.out, List.contains_eq_mem, hdd]; rfl
          have HFR := Lib.hid hfr
          clear hfr
          clear hd
          go_wp2_with fail
          refine HII.out.mono ?_
          rintro e w3 ⟨rfl, ho⟩
          have HO3 := Lib.hid (HO.out.grow ho)
          clear ho
          have c0 := HO3.out.boxc
          have c1 := HO3.out.tab.cell hlt2
          have c2 := HO3.out.ext.cellOf HCE.out (fun h => h)
          simp only [hdd] at c1
          have hcf := containsFunc_I1 212 (.pointer (some ⟨bx, 0, none⟩)) (fun x => !out.contains x.toNat) w3 u ((edgeB j nd i).map fun k : Nat => (k : Int)) (Rd.ints (HU.out.ext HO3.out.ext)) enters_order1 (fun w4 h4 x hx => by
           obtain ⟨k, hk, rfl⟩ := List.mem_map.1 hx
           have := order1_test w4 j bx db out k (mem_edge.1 hk).1 ((HO3.out.grow h4).boxc) ((HO3.out.grow h4).tab)
           rw [Int.toNat_natCast]
           exact this)
          rw [List.any_map, show ((fun x : Int => !out.contains x.toNat) ∘ fun k : Nat => (k : Int)) = (fun k => !out.contains k) from by funext k; simp] at hcf
          have HCF := Lib.hid hcf
          clear hcf
          cases hres : (edgeB j nd i).any fun k => !out.contains k with
          | true =>
           rw [hres] at HCF HFR
           have HF := Lib.hid (HNX.out HFR.out)
           clear hres
           go_wp2_with fail
           refine (HCF.out).mono ?_
           rintro e w5 ⟨rfl, ho⟩
           have HO5 := Lib.hid (HO3.out.grow ho)
           clear ho
           go_wp2_with fail
           go_roundw
           case rel => exact ⟨rfl, i + 1, by omega, by go_num, HF, HO5⟩
           case measure => simp [intOf]; omega
          | false =>
           rw [hres] at HCF HFR
           have HNI : Hid (N = some i) := Lib.hid (by rw [HN.out]; exact next_hit hlt2 HFR.out HNF.out)
           clear hres
           go_wp2_with fail
           refine (HCF.out).mono ?_
           rintro e w5 ⟨rfl, ho⟩
           have HO5 := Lib.hid (HO3.out.grow ho)
           clear ho
           go_wp2_with fail
           go_meet
           exact ⟨by rw [HNI.out]; rfl, HO5⟩
       ·have hlt2z : ¬ (i : Int) < (j : Int) := by omega
        have HNI : Hid (N = none) := Lib.hid (by rw [HN.out]; exact next_miss fun t ht => HNF.out t (by omega))
        go_wp2_with fail
        go_meet
        exact ⟨by rw [HNI.out]; rfl, HO⟩
     case rest =>
      clear HO
      obtain ⟨rfl, HO⟩ := hcut
      cases N with
      | none =>
       have hr := HRR.out
       rw [og_none hlt HN.out.symm] at hr
       subst hr
       have hm1 : nextI none < 0 := by decide
       clear hlt HRR HR
       go_wp2_with fail
       go_ret2
       exact ⟨_, rfl, RowI.nil _ _, HO.out.ext⟩
      | some k =>
       have hk := (nextB_some HN.out.symm).1
       have hr := HRR.out
       rw [og_some hlt HN.out.symm] at hr
       have HRR2 := Lib.hid hr
       have hm1 : nextI (some k) = (k : Int) := rfl
       have hk0 : ¬ (k : Int) < 0 := by omega
       have hk1 : (0 : Int) ≤ (k : Int) := by omega
       have hkz : (k : Int) < (j : Int) := by omega
       have c0 := HO.out.boxc
       have c1 := HO.out.tab.cell hk
       have c2 := HO.out.tab.free k
       have HMK := Lib.hid (HO.out.mark k)
       have hol2 : out.length + 1 ≤ j := by omega
       rw [hm1]
       clear hr hm1 hlt hk
       go_wp2_with (at_builtin; refine wpNumH rfl (.tmp 61) (.tmp 63) w bs (.slice av out.length cv) out k (wc.setCell ⟨db, k, none⟩ (.bool true)) wc.heap.size (by simp) rfl rfl rfl rfl HMK.out.row (by omega) HMK.out.lo.2.2.2.2.1 HMK.out.ext HBS.out ?_; intro g5 cap5 w5 HR5 _ HG5; have HP5 := Lib.hid (HMK.out.push HG5.out HR5.out))
       go_roundw
       case rel => exact ⟨out ++ [k], by rw [List.length_append]; exact hol2, HP5, HRR2⟩
       case measure => simp; omega
    ·have hltz : ¬ (out.length : Int) < (manyB j is : Int) := by omega
     have hr := HRR.out
     rw [og_done hlt] at hr
     subst hr
     clear hlt HRR HR
     go_wp2_with fail
     go_ret2
     exact ⟨_, rfl, HO.out.row.down HBS.out, HO.out.ext⟩
end Go.Proofs.YtnmhaipjfpongacGreatDoor
