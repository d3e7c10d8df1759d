/- Texts of this seat laid together for one claim: G9, I0, G10. No condition of its own: what each proves stands with its theorems. -/
import Derived.Test.YtnmhaipjfpongacGreatDoorPA19
import Derived.Test.YtnmhaipjfpongacGreatDoorPA16
import Derived.Test.YtnmhaipjfpongacGreatDoorPA4
namespace Go.Proofs.YtnmhaipjfpongacGreatDoor
open Go.ChangeShapes Go.WideShapes Go.ChangeAt Go.RowKit

inductive Reach (nd : Nat → Nat → Bool) (ks : List Nat) : Nat → Prop
 | root {k : Nat} : k ∈ ks → Reach nd ks k
 | step {i j : Nat} : Reach nd ks i → nd i j = true → Reach nd ks j

theorem idx_cases {α : Type} (p : α → Bool) (l : List α) : (∃ k : Nat, idx p l = (k : Int) ∧ k < l.length ∧ l.any p = true) ∨ (idx p l = -1 ∧ l.any p = false) := by
 unfold idx
 cases h : l.findIdx? p with
 | none =>
  rw [List.findIdx?_eq_none_iff] at h
  refine .inr ⟨rfl, ?_⟩
  rw [List.any_eq_false]
  intro x hx
  simpa using h x hx
 | some i =>
  rw [List.findIdx?_eq_some_iff_getElem] at h
  obtain ⟨h1, h2, _⟩ := h
  exact .inl ⟨i, rfl, h1, List.any_eq_true.2 ⟨l[i], List.getElem_mem h1, h2⟩⟩

def madeB (l : List Rule) (s : B) : Bool := l.any fun r => r.out == s
def madeI (l : List Rule) (s : B) : Nat := (idx (fun r => r.out == s) l).toNat
def badOf (l : List Rule) (outs : List B) : Option Nat := outs.findIdx? fun s => !madeB l s
def needFault (l : List Rule) (outs : List B) : Nat × Int := if (sheetFault l).1 ≠ 0 then sheetFault l else match badOf l outs with | some i => (6, (i : Int)) | none => (0, -1)
def needKs (l : List Rule) (outs : List B) : List Nat := outs.map (madeI l)
def NeedOk (n : Nat) (nd : Nat → Nat → Bool) (ks out : List Nat) : Prop := ∃ N : Nat → Bool, out = (List.range n).filter N ∧ ∀ i, i < n → (N i = true ↔ Reach nd ks i)
def RetNeeds (P : Nat → Addr) (l : List Rule) (outs : List B) (w : World) (e : Ending) (w' : World) : Prop :=
 ∃ v ev out, e = .returned (.tuple #[v, ev]) ∧ RowI w.heap.size w' v out ∧ ErrAt w' P (needFault l outs) ev ∧ Ext w w' ∧ (((needFault l outs).1 ≠ 0 ∧ out = []) ∨ ((needFault l outs).1 = 0 ∧ NeedOk l.length (needB l) (needKs l outs) out))

theorem bad_hit {l : List Rule} {outs : List B} {t : Nat} {s : B} (hs : outs[t]? = some s) (h : madeB l s = false) (hb : ∀ x ∈ outs.take t, madeB l x = true) : badOf l outs = some t := by
 unfold badOf
 rw [List.findIdx?_eq_some_iff_getElem]
 obtain ⟨h1, h2⟩ := List.getElem?_eq_some_iff.1 hs
 refine ⟨h1, by rw [h2, h]; rfl, fun j hj => ?_⟩
 have := hb outs[j] (List.mem_take_iff_getElem.2 ⟨j, by omega, rfl⟩)
 rw [this]
 decide
theorem bad_none {l : List Rule} {outs : List B} (hb : ∀ x ∈ outs, madeB l x = true) : badOf l outs = none := by
 unfold badOf
 rw [List.findIdx?_eq_none_iff]
 intro x hx
 rw [hb x hx]
 rfl

structure Bfs (n : Nat) (nd : Nat → Nat → Bool) (ks td ns : List Nat) : Prop where
 nodup : ns.Nodup
 nlt : ∀ i ∈ ns, i < n
 tlt : ∀ i ∈ td, i < n
 rn : ∀ i ∈ ns, Reach nd ks i
 rt : ∀ i ∈ td, Reach nd ks i
 root : ∀ k ∈ ks, k ∈ ns ∨ k ∈ td
 closed : ∀ i ∈ ns, ∀ j, nd i j = true → j ∈ ns ∨ j ∈ td
 len : td.length ≤ ks.length + ns.length * n

theorem Bfs.start {n : Nat} {nd : Nat → Nat → Bool} {ks : List Nat} (h : ∀ k ∈ ks, k < n) : Bfs n nd ks ks [] :=
 ⟨List.nodup_nil, by simp, h, by simp, fun i hi => .root hi, fun k hk => .inr hk, by simp, by simp⟩
theorem Bfs.old {n : Nat} {nd : Nat → Nat → Bool} {ks td ns : List Nat} {k : Nat} (h : Bfs n nd ks (k :: td) ns) (hk : k ∈ ns) : Bfs n nd ks td ns := by
 have key : ∀ j, j ∈ ns ∨ j ∈ k :: td → j ∈ ns ∨ j ∈ td := fun j hj => by
  rcases hj with hj | hj
  ·exact .inl hj
  ·rcases List.mem_cons.1 hj with rfl | hj
   ·exact .inl hk
   ·exact .inr hj
 have := h.len
 rw [List.length_cons] at this
 exact ⟨h.nodup, h.nlt, fun i hi => h.tlt i (.tail _ hi), h.rn, fun i hi => h.rt i (.tail _ hi), fun k' hk' => key _ (h.root k' hk'), fun i hi j hj => key _ (h.closed i hi j hj), by omega⟩
theorem edge_len (n : Nat) (nd : Nat → Nat → Bool) (k : Nat) : (edgeB n nd k).length ≤ n := by
 unfold edgeB
 have := List.length_filter_le (nd k) (List.range n)
 rw [List.length_range] at this
 exact this
theorem Bfs.new {n : Nat} {nd : Nat → Nat → Bool} {ks td ns : List Nat} {k : Nat} (hnd : ∀ i j, nd i j = true → j < n) (h : Bfs n nd ks (k :: td) ns) (hk : k ∉ ns) : Bfs n nd ks (td ++ edgeB n nd k) (k :: ns) := by
 have hkr := h.rt k (.head _)
 have key : ∀ j, j ∈ ns ∨ j ∈ k :: td → j ∈ k :: ns ∨ j ∈ td ++ edgeB n nd k := fun j hj => by
  rcases hj with hj | hj
  ·exact .inl (.tail _ hj)
  ·rcases List.mem_cons.1 hj with rfl | hj
   ·exact .inl (.head _)
   ·exact .inr (List.mem_append.2 (.inl hj))
 have hl := h.len
 have he := edge_len n nd k
 rw [List.length_cons] at hl
 refine ⟨List.nodup_cons.2 ⟨hk, h.nodup⟩, fun i hi => ?_, fun i hi => ?_, fun i hi => ?_, fun i hi => ?_, fun k' hk' => key _ (h.root k' hk'), fun i hi j hj => ?_, ?_⟩
 ·rcases List.mem_cons.1 hi with rfl | hi
  ·exact h.tlt _ (.head _)
  ·exact h.nlt i hi
 ·rcases List.mem_append.1 hi with hi | hi
  ·exact h.tlt i (.tail _ hi)
  ·exact (mem_edge.1 hi).1
 ·rcases List.mem_cons.1 hi with rfl | hi
  ·exact hkr
  ·exact h.rn i hi
 ·rcases List.mem_append.1 hi with hi | hi
  ·exact h.rt i (.tail _ hi)
  ·exact .step hkr (mem_edge.1 hi).2
 ·rcases List.mem_cons.1 hi with rfl | hi
  ·exact .inr (List.mem_append.2 (.inr (mem_edge.2 ⟨hnd _ _ hj, hj⟩)))
  ·exact key _ (h.closed i hi j hj)
 ·rw [List.length_append, List.length_cons, Nat.add_mul, Nat.one_mul]
  omega
theorem Bfs.many {n : Nat} {nd : Nat → Nat → Bool} {ks td ns : List Nat} (h : Bfs n nd ks td ns) : ns.length ≤ n := by
 have := nodup_len h.nodup (b := List.range n) (fun i hi => List.mem_range.2 (h.nlt i hi))
 rwa [List.length_range] at this
theorem Bfs.done {n : Nat} {nd : Nat → Nat → Bool} {ks ns : List Nat} (h : Bfs n nd ks [] ns) (i : Nat) : decide (i ∈ ns) = true ↔ Reach nd ks i := by
  rw [decide_eq_true_eq]
  refine ⟨h.rn i, fun hr => ?_⟩
  induction hr with
  | root hk => rcases h.root _ hk with h1 | h1
               · exact h1
               · simp at h1
  | step _ hj ih => rcases h.closed _ ih _ hj with h1 | h1
                    · exact h1
                    · simp at h1
def bfsLeft (n : Nat) (td ns : List Nat) : Nat := (n - ns.length) * (n + 1) + td.length
theorem bfs_new {n : Nat} {td ns : List Nat} {k : Nat} {e : List Nat} (he : e.length ≤ n) (hn : ns.length + 1 ≤ n) : bfsLeft n (td ++ e) (k :: ns) < bfsLeft n (k :: td) ns := by
 unfold bfsLeft
 rw [List.length_append, List.length_cons, List.length_cons]
 obtain ⟨d, hd⟩ : ∃ d, n - ns.length = d + 1 := ⟨n - ns.length - 1, by omega⟩
 rw [hd, show n - (ns.length + 1) = d by omega, Nat.add_mul, Nat.one_mul]
 omega

theorem filter_stepN (p : Nat → Bool) (i : Nat) : (List.range (i + 1)).filter p = (List.range i).filter p ++ (if p i then [i] else []) := by
 rw [List.range_succ, List.filter_append]
 congr 1
 cases h : p i <;> simp [List.filter, h]

def LookIs (L : List (Int × Bool)) (ns : List Nat) : Prop := ∀ k : Nat, L.lookup (k : Int) = if k ∈ ns then some true else none
theorem lookup_filterI {k s : Int} : ∀ (L : List (Int × Bool)), s ≠ k → (L.filter fun p => !(p.1 == k)).lookup s = L.lookup s
 | [], _ => rfl
 | (a, x) :: L, h => by
  by_cases ha : a = k
  ·subst ha
   have hs : (s == a) = false := beq_eq_false_iff_ne.2 h
   rw [List.filter_cons_of_neg (by simp), lookup_filterI L h, List.lookup, hs]
  ·rw [List.filter_cons_of_pos (by simpa using ha)]
   simp only [List.lookup]
   rw [lookup_filterI L h]
theorem LookIs.more {L : List (Int × Bool)} {ns : List Nat} (h : LookIs L ns) (k : Nat) : LookIs (((k : Int), true) :: L.filter fun p => !(p.1 == (k : Int))) (k :: ns) := by
 intro i
 by_cases e : i = k
 ·subst e
  rw [if_pos (.head _)]
  simp [List.lookup]
 ·have hne : (i : Int) ≠ (k : Int) := by omega
  have hs : ((i : Int) == (k : Int)) = false := beq_eq_false_iff_ne.2 hne
  rw [List.lookup, hs]
  simp only
  rw [lookup_filterI L hne, h i]
  congr 1
  simp [e]

structure BfsAt (w wr : World) (mb bq : Nat) (L : List (Int × Bool)) (v : Value) (td ns : List Nat) : Prop where
 ext : Ext w wr
 map : KMap (.int .i64) I (fun b : Bool => .bool b) wr mb L
 q : QI bq wr v td
 lo : w.heap.size ≤ mb ∧ mb < bq ∧ bq ≤ wr.heap.size
 look : LookIs L ns
theorem BfsAt.marked {w wr w' : World} {mb bq : Nat} {L L' : List (Int × Bool)} {v v' : Value} {td td' ns ns' : List Nat} (h : BfsAt w wr mb bq L v td ns) (hm : KMap (.int .i64) I (fun b : Bool => .bool b) w' mb L') (ho : Only (fun i => i = mb) wr w') (hl : LookIs L' ns') (hq : QI bq wr v' td') : BfsAt w w' mb bq L' v' td' ns' := by
 obtain ⟨l1, l2, l3⟩ := h.lo
 exact ⟨h.ext.trans ho (fun _ _ h => h) (fun i hi e => by omega), hm, hq.later ho (fun b e => by rw [e]; exact l2), ⟨l1, l2, Nat.le_trans l3 ho.size⟩, hl⟩
theorem BfsAt.put {w wr w' : World} {mb bq : Nat} {L : List (Int × Bool)} {v v' : Value} {td td' ns : List Nat} (h : BfsAt w wr mb bq L v td ns) (hq : QI bq w' v' td') (ho : Only (fun b => bq ≤ b) wr w') : BfsAt w w' mb bq L v' td' ns := by
 obtain ⟨l1, l2, l3⟩ := h.lo
 exact ⟨h.ext.trans ho (fun _ _ h => h) (fun i hi e => by omega), h.map.later ho (fun e => by omega), hq, ⟨l1, l2, Nat.le_trans l3 ho.size⟩, h.look⟩
theorem BfsAt.cut {w wr : World} {mb bq : Nat} {L : List (Int × Bool)} {v v' : Value} {td td' ns : List Nat} (h : BfsAt w wr mb bq L v td ns) (hq : QI bq wr v' td') : BfsAt w wr mb bq L v' td' ns := ⟨h.ext, h.map, hq, h.lo, h.look⟩

theorem enters_Needs1 : ∀ args w, (callFunc 162 args).run Tryz.prog w = .ok (.enter 162 args) w := fun args w => by kernel_rfl
theorem Needs1_test (w : World) (r : Rule) (u : Value) (b : Nat) (o : B) (hu : Rd S w u r.ins) (h : w.cell? ⟨b, 0, none⟩ = some (S o)) :
  Calls Tryz.prog 162 #[AggR r u, .pointer (some ⟨b, 0, none⟩)] w (RetE (.bool (r.out == o)) w) := by
 obtain ⟨a, cap, rfl, _, _, _⟩ := hu
 obtain ⟨q, hq⟩ : ∃ q, (r.out == o) = q := ⟨_, rfl⟩
 rw [hq]
 have h1 := fun ob => (Only.alloc (fun _ => False) w ob).cellOf h (fun h => h)
 clear h
 go_enter Tryz.func162, Tryz.ntmps162
 go_wp2_with fail
 go_ret
 exact ⟨rfl, Only.alloc _ _ _⟩

set_option maxRecDepth 100000 in
set_option maxHeartbeats 4000000 in
theorem graphNeeds_any (w : World) (P : Nat → Addr) (l : List Rule) (outs : List B) (v vo : Value) (hv : RdR w v l) (hvo : Rd S w vo outs) (hno : outs.length ≤ 1000) (hs : ∀ r ∈ l, RuleSm 900000 r) (hV : PV w P [1, 2, 3, 4, 5, 6, 9]) :
  Calls Tryz.prog 93 #[v, vo] w (RetNeeds P l outs w) := by
 have HSH := Lib.hid (sheet_any w P l v hv hs (hV.sub (by decide)))
 have HRD := Lib.hid hv
 have HVV := Lib.hid hV
 have HSM := Lib.hid (fun r hr => (hs r hr).many)
 have HRO := Lib.hid hvo
 obtain ⟨a, cap, rfl, _, _, _⟩ := hv
 obtain ⟨ao, co, rfl, hcapo, hmlo, hco⟩ := hvo
 have HCO := Lib.hid hco
 have honz : (outs.length : Int) ≤ 1000 := by omega
 clear hV hs hco
 by_cases h0 : (sheetFault l).1 = 0
 ·have HR := Lib.hid (sheet_ok.1 h0)
  have HE := Lib.hid (fun W (hW : Ext w W) => edges_any W l _ (HRD.out.ext hW) HR.out HSM.out)
  have HN0 := Lib.hid h0
  have h40 := HR.out.1
  have hlz : (l.length : Int) ≤ 40 := by omega
  have HND := Lib.hid (fun i j (h : needB l i j = true) => (needB_lt h).2)
  have HFB : Hid (∀ e w' t, badOf l outs = some t → (∃ v ev, e = .returned (.tuple #[v, ev]) ∧ v = .slice none 0 0 ∧ (∃ b, ev = .iface 226 (.pointer (some ⟨b, 0, none⟩)) ∧ w'.heap[b]? = some (.cells #[I (t : Int), errV (P 5)] 228 (0, 0))) ∧ Ext w w') → RetNeeds P l outs w e w') := Lib.hid (by
   rintro e w' t hb ⟨v, ev, rfl, rfl, hev, hx⟩
   have hf : needFault l outs = (6, (t : Int)) := by unfold needFault; rw [if_neg (by simpa using h0), hb]
   refine ⟨_, ev, [], rfl, RowI.nil _ _, ?_, hx, .inl ⟨by rw [hf]; exact Nat.succ_ne_zero 5, rfl⟩⟩
   rw [hf]
   exact .inr (.inr ⟨Nat.succ_ne_zero 5, Int.natCast_nonneg _, hev⟩))
  have HFO : Hid (∀ e w', badOf l outs = none → (∃ v out, e = .returned (.tuple #[v, .nilIface]) ∧ RowI w.heap.size w' v out ∧ Ext w w' ∧ NeedOk l.length (needB l) (needKs l outs) out) → RetNeeds P l outs w e w') := Lib.hid (by
   rintro e w' hb ⟨v, out, rfl, hr, hx, hok⟩
   have hf : needFault l outs = (0, -1) := by unfold needFault; rw [if_neg (by simpa using h0), hb]
   refine ⟨v, _, out, rfl, hr, ?_, hx, .inr ⟨by rw [hf], hok⟩⟩
   rw [hf]
   exact ErrAt.nil _ _ _)
  clear h0
  have hmm := @run_makeMap Tryz.prog
  go_enter Tryz.func93, Tryz.ntmps93
  go_wp2_with fail
  refine HSH.out.mono ?_
  rintro e w1 ⟨ev, rfl, he, ho⟩
  obtain rfl := he.zero HN0.out
  have HX1 := Lib.hid ho
  clear he ho
  go_wp2_with fail
  refine (HE.out w1 HX1.out).mono ?_
  rintro e w2 ⟨v2, rfl, hll, ho⟩
  have HX2 := Lib.hid (HX1.out.then ho)
  have HLL := Lib.hid hll
  clear hll ho
  have hc := HLL.out
  obtain ⟨a2, c2, rfl, hcap, hml, hc⟩ := hc
  have HC : Hid (∀ i, i < l.length → ∃ b off u, a2 = some ⟨b, off, none⟩ ∧ Rd IN w2 u (edgeB l.length (needB l) i) ∧ w2.cell? ⟨b, off + i, none⟩ = some u) := Lib.hid (fun i hi => by
   obtain ⟨b, off, h1, h2⟩ := hc (fun e => by have := congrArg List.length e; rw [List.length_map, List.length_range, List.length_nil] at this; omega)
   obtain ⟨u, h3, h4⟩ := h2 i (edgeB l.length (needB l) i) (by rw [List.getElem?_map, List.getElem?_range hi]; rfl)
   exact ⟨b, off, u, h1, h3, h4⟩)
  rw [List.length_map, List.length_range] at HLL ⊢
  clear hc hcap hml
  go_wp2_with fail
  clear hmm
  have HM0 : Hid (KMap (.int .i64) I (fun b : Bool => .bool b) (w2.alloc (.map #[] 0)) w2.heap.size []) := Lib.hid (KMap.made w2 (.int .i64) I _)
  have HX3 : Hid (Ext w2 (w2.alloc (.map #[] 0))) := Lib.hid (Only.alloc _ _ _)
  obtain ⟨mb, hmb⟩ : ∃ mb, mb = w2.heap.size := ⟨_, rfl⟩
  have HB0 : Hid (w2.heap.size ≤ mb ∧ mb + 1 ≤ (w2.alloc (.map #[] 0)).heap.size) := Lib.hid ⟨by omega, by rw [hmb]; simp⟩
  generalize (w2.alloc (.map #[] 0)) = wm at *
  rw [← hmb] at HM0 ⊢
  clear hmb
  go_loopw [9, 10, 11, 12, 26] (fun q _ _ _ i wr => ∃ (t : Nat) (qv : Value), qv = q ∧ t ≤ outs.length ∧ i = .int .i64 t ∧ Hid (RowI (mb + 1) wr qv ((outs.take t).map (madeI l))) ∧ Hid (∀ x ∈ outs.take t, madeB l x = true) ∧ Hid (∀ k ∈ (outs.take t).map (madeI l), k < l.length) ∧ Hid (Only (fun b => mb + 1 ≤ b) wm wr)) (fun _ _ _ _ i _ => outs.length - (intOf i).toNat)
  case atStart => exact ⟨0, _, rfl, Nat.zero_le _, rfl, Lib.hid (RowI.nil _ _), Lib.hid (by simp), Lib.hid (by simp), Lib.hid (Only.refl _ _)⟩
  case round =>
   obtain ⟨t, q, rfl, ht, rfl, HQ, HMA, HLT, HO⟩ := hrel
   have HX : Hid (Ext w2 wr) := Lib.hid (HX3.out.trans HO.out (fun _ _ h => h) (fun i hi e => by have := HB0.out; omega))
   by_cases hlt : t < outs.length
   ·have hltz : (t : Int) < (outs.length : Int) := by omega
    have ht0 : (0 : Int) ≤ (t : Int) := by omega
    obtain ⟨b, off, rfl, hcell⟩ := HCO.out (by intro h; rw [h] at hlt; simp at hlt)
    obtain ⟨s, hs⟩ : ∃ y, outs[t]? = some y := ⟨_, List.getElem?_eq_getElem hlt⟩
    have d0 := (HX2.out.then HX.out).cellOf (hcell t s hs) (fun h => h)
    have HS := Lib.hid hs
    have hk0 := (cell_of_heap (MapKept.heap_alloc wr (.cells #[S s] 9 (0, 0))).1 0).trans rfl
    have hx4 : Ext w (wr.alloc (.cells #[S s] 9 (0, 0))) := (HX2.out.then HX.out).thenAlloc _
    have hif := indexFunc_R1 162 (.pointer (some ⟨wr.heap.size, 0, none⟩)) (fun x => x.out == s) (wr.alloc (.cells #[S s] 9 (0, 0))) (.slice a l.length cap) l (HRD.out.ext hx4) enters_Needs1
     (fun w1 h1 x u' _ hu' => Needs1_test w1 x u' wr.heap.size s hu' (h1.cellOf hk0 (fun h => h)))
    have HIF := Lib.hid hif
    have HTK : Hid (outs.take (t + 1) = outs.take t ++ [s]) := Lib.hid (by rw [List.take_add_one, hs]; rfl)
    have hql : ((outs.take t).map (madeI l)).length ≤ 1000 := by rw [List.length_map, List.length_take]; omega
    have HQL := Lib.hid hql
    clear hcell hs hk0 hx4 hif hql
    rcases idx_cases (fun x => x.out == s) l with ⟨k, hk, hkn, hany⟩ | ⟨hk, hany⟩
    ·have hmi : madeI l s = k := by unfold madeI; rw [hk]; exact Int.toNat_natCast k
     rw [hk] at HIF
     have HMI := Lib.hid hmi
     have HKN := Lib.hid hkn
     have HAN := Lib.hid hany
     have hk0 : ¬ (k : Int) < 0 := by omega
     clear hmi hk hkn hany hlt
     have HMA2 : Hid (∀ x ∈ outs.take (t + 1), madeB l x = true) := Lib.hid (fun x hx => by
      rw [HTK.out] at hx
      rcases List.mem_append.1 hx with hx | hx
      ·exact HMA.out x hx
      ·rw [List.mem_singleton.1 hx]; exact HAN.out)
     have HLT2 : Hid (∀ k ∈ (outs.take (t + 1)).map (madeI l), k < l.length) := Lib.hid (fun x hx => by
      rw [HTK.out, List.map_append] at hx
      rcases List.mem_append.1 hx with hx | hx
      ·exact HLT.out x hx
      ·rw [List.map_cons, List.map_nil, List.mem_singleton, HMI.out] at hx; rw [hx]; exact HKN.out)
     have HT2 : Hid ((outs.take (t + 1)).map (madeI l) = (outs.take t).map (madeI l) ++ [k]) := Lib.hid (by rw [HTK.out, List.map_append, List.map_cons, List.map_nil, HMI.out])
     generalize (outs.take t).map (madeI l) = ks at HQ HQL HT2 ⊢
     clear HLT HMA
     go_wp2_with fail
     refine (HIF.out).mono ?_
     rintro e w4 ⟨rfl, ho⟩
     have HX5 := Lib.hid ((HX.out.thenAlloc (.cells #[S s] 9 (0, 0))).then ho)
     have HQ4 := Lib.hid ((HQ.out.ext (Only.alloc (fun _ => False) wr (.cells #[S s] 9 (0, 0)))).ext ho)
     have HO5 := Lib.hid ((HO.out.ext (Only.alloc (fun _ => False) wr (.cells #[S s] 9 (0, 0)))).ext ho)
     clear ho
     go_wp2_with (at_builtin; refine wpNum rfl (.tmp 41) (.tmp 43) w2 (mb + 1) _ ks k w4 rfl rfl rfl rfl HQ4.out (Nat.le_trans HQL.out (by decide)) (Nat.le_trans HB0.out.2 HO5.out.size) HX5.out (Nat.le_succ_of_le HB0.out.1) ?_; intro g5 cap5 w5 HR5 _ HG5; have HO6 := Lib.hid (HO5.out.then ((Only.of_grown HG5.out).mono (fun i _ e => HQ4.out.base i e))))
     go_roundw
     case rel => exact ⟨t + 1, _, rfl, by omega, by go_num, by rw [HT2.out]; exact HR5, HMA2, HLT2, HO6⟩
     case measure => simp [intOf]; omega
    ·rw [hk] at HIF
     have HBD := Lib.hid (bad_hit HS.out hany HMA.out)
     have c0 := (HVV.out.errs.ext (HX2.out.then HX.out)).var 5 _ (by decide) rfl
     clear hk hany hlt
     go_wp2_with fail
     refine (HIF.out).mono ?_
     rintro e w4 ⟨rfl, ho⟩
     have HO4 := Lib.hid ((HX2.out.then HX.out).thenAlloc (.cells #[S s] 9 (0, 0)))
     have HHO := Lib.hid ho
     clear ho
     have c1 := HHO.out.cellOf ((Only.alloc (fun _ => False) wr (.cells #[S s] 9 (0, 0))).cellOf c0 (fun h => h)) (fun h => h)
     go_wp2_with fail
     go_region
     all_goals
      go_wp2_with fail
      go_ret2
      exact HFB.out _ _ t HBD.out ⟨_, _, rfl, rfl, ⟨_, rfl, (MapKept.heap_alloc _ _).1⟩, ((HO4.out.then HHO.out).thenAlloc _).thenDrew⟩
   ·have hltz : ¬ (t : Int) < (outs.length : Int) := by omega
    obtain rfl : t = outs.length := by omega
    rw [List.take_length] at HQ HMA HLT
    have HBN := Lib.hid (bad_none HMA.out)
    have HBF := Lib.hid (Bfs.start (nd := needB l) HLT.out)
    have HBA : Hid (BfsAt w2 wr mb (mb + 1) [] q (outs.map (madeI l)) []) := Lib.hid ⟨HX.out, HM0.out.later HO.out (fun e => by omega), QI.of_row HQ.out, ⟨HB0.out.1, Nat.lt_succ_self _, Nat.le_trans HB0.out.2 HO.out.size⟩, fun k => by rw [if_neg (by simp)]; rfl⟩
    obtain ⟨ks, hks⟩ : ∃ ks, ks = outs.map (madeI l) := ⟨_, rfl⟩
    have hkl : ks.length ≤ 1000 := by rw [hks, List.length_map]; omega
    have HKS : Hid (needKs l outs = ks) := Lib.hid hks.symm
    rw [← hks] at HBF HBA
    clear hks HQ HMA HLT HX HO HM0 HB0 hlt ht
    obtain ⟨n, hn⟩ : ∃ n, n = l.length := ⟨_, rfl⟩
    obtain ⟨nd, hnd⟩ : ∃ nd, nd = needB l := ⟨_, rfl⟩
    rw [← hn, ← hnd] at HC HBF HFO
    rw [← hn, ← hnd] at HND
    rw [← hn] at h40 hlz ⊢
    clear hn hnd
    obtain ⟨aq, cq, rfl, hcq, hcm⟩ := HBA.out.q.form
    clear hcq hcm
    go_wp2_with fail
    go_loopg [9, 13] (bfsLeft n ks []) (fun g q _ wx => ∃ (td ns : List Nat) (L : List (Int × Bool)), bfsLeft n td ns = g ∧ Hid (Bfs n nd ks td ns) ∧ Hid (BfsAt w2 wx mb (mb + 1) L q td ns))
    case atStart => exact ⟨ks, [], [], rfl, HBF, HBA⟩
    case round =>
     clear HBF HBA
     obtain ⟨td, ns, L, hg, HBF, HBA⟩ := hrel
     cases td with
     | cons k td =>
      have hkn := HBF.out.tlt k (.head _)
      have hkz : (k : Int) < (n : Int) := by omega
      have hk0 : (0 : Int) ≤ (k : Int) := by omega
      obtain ⟨b, off, cap0, rfl, hcap, hmx, c0, hq1, hq2⟩ := HBA.out.q.head
      have hlk := KMap.look1 (P := Tryz.prog) keyOk_int HBA.out.map Tryz.underlying232 Tryz.underlying3 (z := .bool false) (by kernel_rfl) (k : Int)
      rw [HBA.out.look k] at hlk
      have htz : (0 : Int) < ((td.length : Int) + 1) := by omega
      have htl := HBF.out.len
      have hnl := HBF.out.many
      obtain ⟨g9, hg9⟩ : ∃ g9, g9 = gk := ⟨_, rfl⟩
      by_cases hc1 : cap0 = 1
      ·subst hc1
       obtain rfl : td = [] := List.length_eq_zero_iff.1 (by omega)
       have HQ := Lib.hid (hq2 rfl)
       clear hq1 hq2
       have hed := HC.out k hkn
       obtain ⟨b2, off2, u, rfl, hu, hcell⟩ := hed
       by_cases hk : k ∈ ns
       ·rw [if_pos hk] at hlk
        simp only at hlk
        have HN := Lib.hid (HBF.out.old hk)
        have HB := Lib.hid (HBA.out.cut (HQ.out (some ⟨b, off, none⟩)))
        clear hk hcell hu HBF
        go_wp2_with fail
        go_roundg (bfsLeft n [] ns)
        case measure => rw [← hg]; unfold bfsLeft; simp
        case rel => exact ⟨_, ns, L, rfl, HN, HB⟩
       ·rw [if_neg hk] at hlk
        simp only at hlk
        have HN := Lib.hid (HBF.out.new HND.out hk)
        have hel := edge_len n nd k
        have hmy := HN.out.many
        obtain ⟨w5, hrun, hm5, ho5, hs5⟩ := KMap.store (P := Tryz.prog) keyOk_int HBA.out.map Tryz.underlying232 Tryz.underlying3 (k : Int) true
        have HB := Lib.hid (HBA.out.marked hm5 ho5 (HBA.out.look.more k) (HQ.out (some ⟨b, off, none⟩)))
        have d0 := HB.out.ext.cellOf hcell (fun h => h)
        have HU := Lib.hid (hu.ext HB.out.ext)
        have HM : Hid (bfsLeft n ([] ++ edgeB n nd k) (k :: ns) < g9) := Lib.hid (by rw [hg9, ← hg]; exact bfs_new hel (by simpa using hmy))
        have HTL : Hid (([] : List Nat).length + (edgeB n nd k).length ≤ 1000000) := Lib.hid (by
         have h5 : ns.length * n ≤ 40 * 40 := Nat.mul_le_mul (by omega) h40
         simp at htl ⊢
         omega)
        clear hk hcell hu hm5 ho5 hs5 hel hmy HBF hg
        generalize edgeB n nd k = ed at *
        go_wp2_with (at_builtin; refine wpQueue rfl (.tmp 60) (.tmp 64) (mb + 1) _ _ [] ed w5 rfl rfl rfl rfl HB.out.q HU.out HTL.out HB.out.lo.2.2 ?_; intro v6 w6 HQ6 HO6; have HB6 := Lib.hid (HB.out.put HQ6.out HO6.out))
        go_roundg (bfsLeft n ([] ++ ed) (k :: ns))
        case measure => rw [← hg9]; exact HM.out
        case rel => exact ⟨_, _, _, rfl, HN, HB6⟩
      ·have HQ := Lib.hid (hq1 hc1)
       clear hq1 hq2
       have hed := HC.out k hkn
       obtain ⟨b2, off2, u, rfl, hu, hcell⟩ := hed
       by_cases hk : k ∈ ns
       ·rw [if_pos hk] at hlk
        simp only at hlk
        have HN := Lib.hid (HBF.out.old hk)
        have HB := Lib.hid (HBA.out.cut HQ.out)
        clear hk hcell hu HBF
        go_wp2_with fail
        go_roundg (bfsLeft n td ns)
        case measure => rw [← hg]; unfold bfsLeft; simp
        case rel => exact ⟨_, ns, L, rfl, HN, HB⟩
       ·rw [if_neg hk] at hlk
        simp only at hlk
        have HN := Lib.hid (HBF.out.new HND.out hk)
        have hel := edge_len n nd k
        have hmy := HN.out.many
        obtain ⟨w5, hrun, hm5, ho5, hs5⟩ := KMap.store (P := Tryz.prog) keyOk_int HBA.out.map Tryz.underlying232 Tryz.underlying3 (k : Int) true
        have HB := Lib.hid (HBA.out.marked hm5 ho5 (HBA.out.look.more k) HQ.out)
        have d0 := HB.out.ext.cellOf hcell (fun h => h)
        have HU := Lib.hid (hu.ext HB.out.ext)
        have HM : Hid (bfsLeft n (td ++ edgeB n nd k) (k :: ns) < g9) := Lib.hid (by rw [hg9, ← hg]; exact bfs_new hel (by simpa using hmy))
        have HTL : Hid ((td : List Nat).length + (edgeB n nd k).length ≤ 1000000) := Lib.hid (by
         have h5 : ns.length * n ≤ 40 * 40 := Nat.mul_le_mul (by omega) h40
         simp at htl ⊢
         omega)
        clear hk hcell hu hm5 ho5 hs5 hel hmy HBF hg
        generalize edgeB n nd k = ed at *
        go_wp2_with (at_builtin; refine wpQueue rfl (.tmp 60) (.tmp 64) (mb + 1) _ _ td ed w5 rfl rfl rfl rfl HB.out.q HU.out HTL.out HB.out.lo.2.2 ?_; intro v6 w6 HQ6 HO6; have HB6 := Lib.hid (HB.out.put HQ6.out HO6.out))
        go_roundg (bfsLeft n (td ++ ed) (k :: ns))
        case measure => rw [← hg9]; exact HM.out
        case rel => exact ⟨_, _, _, rfl, HN, HB6⟩
     | nil =>
      have HDN := Lib.hid HBF.out.done
      have HEX := Lib.hid HBA.out.ext
      have HMM := Lib.hid HBA.out.map
      have HLK := Lib.hid HBA.out.look
      obtain ⟨aq, cq, hqf, hcq, hcm⟩ := HBA.out.q.form
      rw [List.length_nil] at hqf
      subst hqf
      clear HBF HBA hcq hcm hg
      go_wp2_with fail
      obtain ⟨bo, hbo⟩ : ∃ bo, bo = wr.heap.size := ⟨_, rfl⟩
      have HBO : Hid (w2.heap.size ≤ bo ∧ mb < bo ∧ bo ≤ wr.heap.size) := Lib.hid ⟨by have := HEX.out.size; omega, by have := HMM.out.lt; omega, by omega⟩
      clear hbo
      have HE0 := Lib.hid (Only.refl (fun b => bo ≤ b) wr)
      go_loopw [14, 15, 68] (fun q _ i wx => ∃ (j : Nat) (qv : Value), qv = q ∧ j ≤ n ∧ i = .int .i64 j ∧ Hid (RowI bo wx qv ((List.range j).filter fun i => decide (i ∈ ns))) ∧ Hid (Only (fun b => bo ≤ b) wr wx)) (fun _ _ i _ => n - (intOf i).toNat)
      case atStart => exact ⟨0, _, rfl, Nat.zero_le _, rfl, Lib.hid (RowI.nil _ _), HE0⟩
      case round =>
       clear HE0
       obtain ⟨j, qv, rfl, hj, rfl, HR, HO⟩ := hrel
       have HX5 := Lib.hid (HEX.out.trans HO.out (fun _ _ h => h) (fun i hi e => by have := HBO.out; omega))
       by_cases hlt : j < n
       ·have hltz : (j : Int) < (n : Int) := by omega
        have hlk := KMap.look1 (P := Tryz.prog) keyOk_int (HMM.out.later HO.out (fun e => by have := HBO.out; omega)) Tryz.underlying232 Tryz.underlying3 (z := .bool false) (by kernel_rfl) (j : Int)
        rw [HLK.out j] at hlk
        have hfs := filter_stepN (fun i => decide (i ∈ ns)) j
        have hfl : ((List.range j).filter fun i => decide (i ∈ ns)).length ≤ j := by
         have := List.length_filter_le (fun i => decide (i ∈ ns)) (List.range j)
         rw [List.length_range] at this
         exact this
        have HFL := Lib.hid hfl
        by_cases hk : j ∈ ns
        ·rw [if_pos hk] at hlk
         simp only at hlk
         rw [decide_eq_true hk, if_pos rfl] at hfs
         have HFS := Lib.hid hfs
         clear hk hfs hfl
         generalize (List.range j).filter (fun i => decide (i ∈ ns)) = nx at *
         go_wp2_with (at_builtin; refine wpNum rfl (.tmp 74) (.tmp 76) w2 bo _ nx j wr rfl rfl rfl rfl HR.out (Nat.le_trans HFL.out (by omega)) (Nat.le_trans HBO.out.2.2 HO.out.size) HX5.out HBO.out.1 ?_; intro g5 cap5 w5 HR5 _ HG5; have HO6 := Lib.hid (HO.out.then ((Only.of_grown HG5.out).mono (fun i _ e => HR.out.base i e))))
         go_roundw
         case rel => exact ⟨j + 1, _, rfl, by omega, by go_num, by rw [HFS.out]; exact HR5, HO6⟩
         case measure => simp [intOf]; omega
        ·rw [if_neg hk] at hlk
         simp only at hlk
         rw [decide_eq_false hk, if_neg (by decide), List.append_nil] at hfs
         rw [← hfs] at HR
         clear hk hfs hfl
         go_wp2_with fail
         go_roundw
         case rel => exact ⟨j + 1, _, rfl, by omega, by go_num, HR, HO⟩
         case measure => simp [intOf]; omega
       ·have hltz : ¬ (j : Int) < (n : Int) := by omega
        obtain rfl : j = n := by omega
        have HBS : Hid (w.heap.size ≤ bo) := Lib.hid (Nat.le_trans HX2.out.size HBO.out.1)
        go_wp2_with fail
        go_ret2
        exact HFO.out _ _ HBN.out ⟨_, _, rfl, HR.out.down HBS.out, HX2.out.then HX5.out, by rw [HKS.out]; exact ⟨fun i => decide (i ∈ ns), rfl, fun i _ => HDN.out i⟩⟩
 ·have HN0 := Lib.hid h0
  have hf : needFault l outs = sheetFault l := if_pos h0
  have HF := Lib.hid hf
  clear h0 hf
  go_enter Tryz.func93, Tryz.ntmps93
  go_wp2_with fail
  refine HSH.out.mono ?_
  rintro e w1 ⟨ev, rfl, he, ho⟩
  obtain ⟨t, p, rfl⟩ := he.some HN0.out
  have HX1 := Lib.hid ho
  have HEE := Lib.hid he
  clear he ho
  go_wp2_with fail
  go_ret2
  exact ⟨_, _, [], rfl, RowI.nil _ _, by rw [HF.out]; exact HEE.out, HX1.out, .inl ⟨by rw [HF.out]; exact HN0.out, rfl⟩⟩
end Go.Proofs.YtnmhaipjfpongacGreatDoor

namespace Go.Proofs.YtnmhaipjfpongacGreatDoor

abbrev Tld := B × Nat
def ruleOf (l : List Rule) (p : B) : Option Rule := l.find? fun r => r.out == p
def wMade (W : B → Tld) (r : Rule) : Tld := match r.ins.find? fun q => (W q).2 != 0 with
 | some q => W q
 | none => (runOut r.kind r.word (r.ins.map fun q => (W q).1), runCode r.kind r.word (r.ins.map fun q => (W q).1))
def wLeaf (T : FL) (p : B) : Tld := match T.lookup p with | some s => (s, 0) | none => ([], 6)
def wStep (l : List Rule) (T : FL) (W : B → Tld) (p : B) : Tld := match ruleOf l p with | none => wLeaf T p | some r => wMade W r

theorem rule_idx {l : List Rule} {p : B} : (∃ (k : Nat) (r : Rule), idx (fun r => r.out == p) l = (k : Int) ∧ l[k]? = some r ∧ ruleOf l p = some r) ∨ (idx (fun r => r.out == p) l = -1 ∧ ruleOf l p = none) := by
 unfold idx ruleOf
 cases hf : l.findIdx? (fun r => r.out == p) with
 | none =>
  rw [List.findIdx?_eq_none_iff] at hf
  exact .inr ⟨rfl, List.find?_eq_none.2 (fun x hx => by rw [hf x hx]; decide)⟩
 | some k =>
  rw [List.findIdx?_eq_some_iff_getElem] at hf
  obtain ⟨h3, h4, h5⟩ := hf
  refine .inl ⟨k, l[k], rfl, List.getElem?_eq_getElem h3, ?_⟩
  rw [List.find?_eq_some_iff_getElem]
  exact ⟨h4, k, h3, rfl, fun j hj => by simpa using h5 j hj⟩

theorem made_bad {W : B → Tld} {r : Rule} {j : Nat} {q : B} (hq : r.ins[j]? = some q) (h : (W q).2 ≠ 0) (hb : ∀ x ∈ r.ins.take j, (W x).2 = 0) : wMade W r = W q := by
 have : r.ins.find? (fun q => (W q).2 != 0) = some q := by
  rw [List.find?_eq_some_iff_getElem]
  obtain ⟨h1, h2⟩ := List.getElem?_eq_some_iff.1 hq
  exact ⟨by simpa using h, j, h1, h2, fun i hi => by
   have := hb r.ins[i] (List.mem_take_iff_getElem.2 ⟨i, by omega, rfl⟩)
   rw [this]; decide⟩
 unfold wMade
 rw [this]
theorem made_ok {W : B → Tld} {r : Rule} (hb : ∀ x ∈ r.ins, (W x).2 = 0) : wMade W r = (runOut r.kind r.word (r.ins.map fun q => (W q).1), runCode r.kind r.word (r.ins.map fun q => (W q).1)) := by
 have : r.ins.find? (fun q => (W q).2 != 0) = none := List.find?_eq_none.2 fun x hx => by rw [hb x hx]; decide
 unfold wMade
 rw [this]

structure Asks (l : List Rule) (T : FL) (W : B → Tld) (D : B → Prop) (rk : B → Nat) : Prop where
 step : ∀ p, D p → W p = wStep l T W p
 down : ∀ p, D p → ∀ r, ruleOf l p = some r → ∀ q ∈ r.ins, D q ∧ rk q < rk p
 len : ∀ p, D p → (W p).1.length ≤ 2000
 code : ∀ p, D p → (W p).2 ≤ 12

theorem wMade_congr {W V : B → Tld} {r : Rule} (h : ∀ q ∈ r.ins, W q = V q) : wMade W r = wMade V r := by
 have h1 : r.ins.find? (fun q => (W q).2 != 0) = r.ins.find? (fun q => (V q).2 != 0) := by
  generalize r.ins = k at h
  induction k with
  | nil => rfl
  | cons x k ih => rw [List.find?_cons, List.find?_cons, h x (.head _), ih fun q hq => h q (.tail _ hq)]
 have h2 : r.ins.map (fun q => (W q).1) = r.ins.map (fun q => (V q).1) := List.map_congr_left fun q hq => by rw [h q hq]
 unfold wMade
 rw [h1, h2]
 cases hf : r.ins.find? (fun q => (V q).2 != 0) with
 | none => rfl
 | some q => exact h q (List.mem_of_find?_eq_some hf)

def wantF (l : List Rule) (T : FL) : Nat → B → Tld
 | 0, _ => ([], 0)
 | n + 1, p => wStep l T (wantF l T n) p
def wantW (l : List Rule) (T : FL) : B → Tld := wantF l T (l.length + 1)

structure Ranked (l : List Rule) (D : B → Prop) (rk : B → Nat) : Prop where
 down : ∀ p, D p → ∀ r, ruleOf l p = some r → ∀ q ∈ r.ins, D q ∧ rk q < rk p

theorem wantF_stable {l : List Rule} {T : FL} {D : B → Prop} {rk : B → Nat} (h : Ranked l D rk) : ∀ (n m : Nat) (p : B), D p → rk p < n → rk p < m → wantF l T n p = wantF l T m p
 | 0, _, _, _, h1, _ => by omega
 | _ + 1, 0, _, _, _, h2 => by omega
 | n + 1, m + 1, p, hd, h1, h2 => by
  unfold wantF wStep
  cases hr : ruleOf l p with
  | none => rfl
  | some r =>
   refine wMade_congr fun q hq => ?_
   obtain ⟨h3, h4⟩ := h.down p hd r hr q hq
   exact wantF_stable h n m q h3 (by omega) (by omega)

theorem runOut_le (a b : B) (l : List B) : (runOut a b l).length ≤ 2000 := by
 unfold runOut
 by_cases h : runCode a b l = 0
 ·rw [if_pos h]
  unfold runCode at h
  split at h
  ·split at h
   ·cases h
   ·omega
  ·rename_i h2; exact absurd h h2
 ·rw [if_neg h]; exact Nat.zero_le _
theorem runCode_le12 (a b : B) (l : List B) : runCode a b l ≤ 12 := by
 unfold runCode
 have := actCode_le a b l.length
 split
 ·split <;> omega
 ·exact this
theorem runOut_zero {a b : B} {l : List B} (h : runCode a b l ≠ 0) : runOut a b l = [] := if_neg h

structure TldOk (x : Tld) : Prop where
 len : x.1.length ≤ 2000
 code : x.2 ≤ 12
 zero : x.2 ≠ 0 → x.1 = []
theorem wStep_ok {l : List Rule} {T : FL} {W : B → Tld} (hT : ∀ p s, T.lookup p = some s → s.length ≤ 2000) (hW : ∀ q, TldOk (W q)) (p : B) : TldOk (wStep l T W p) := by
 unfold wStep
 cases hr : ruleOf l p with
 | none =>
  simp only [wLeaf]
  cases hl : T.lookup p with
  | none => exact ⟨by simp, by simp, fun _ => rfl⟩
  | some s => exact ⟨hT p s hl, by simp, fun h => absurd rfl h⟩
 | some r =>
  simp only [wMade]
  cases hf : r.ins.find? (fun q => (W q).2 != 0) with
  | none => exact ⟨runOut_le _ _ _, runCode_le12 _ _ _, runOut_zero⟩
  | some q => exact hW q
theorem wantF_ok {l : List Rule} {T : FL} (hT : ∀ p s, T.lookup p = some s → s.length ≤ 2000) : ∀ (n : Nat) (p : B), TldOk (wantF l T n p)
 | 0, _ => ⟨by simp [wantF], by simp [wantF], fun h => absurd rfl h⟩
 | n + 1, p => wStep_ok hT (wantF_ok hT n) p

theorem asks_want {l : List Rule} {T : FL} {D : B → Prop} {rk : B → Nat} (h : Ranked l D rk) (hb : ∀ p, D p → rk p ≤ l.length) (hT : ∀ p s, T.lookup p = some s → s.length ≤ 2000) : Asks l T (wantW l T) D rk :=
  ⟨fun p hd => by
    show wStep l T (wantF l T l.length) p = wStep l T (wantW l T) p
    unfold wStep
    cases hr : ruleOf l p with
    | none => rfl
    | some r =>
      refine wMade_congr fun q hq => ?_
      obtain ⟨h3, h4⟩ := h.down p hd r hr q hq
      have := hb p hd
      exact wantF_stable h _ _ q h3 (by omega) (by omega),
   h.down, fun p _ => (wantF_ok hT _ p).len, fun p _ => (wantF_ok hT _ p).code⟩

def rankO (l : List Rule) (o : List Nat) (p : B) : Nat := match l.findIdx? (fun r => r.out == p) with | none => 0 | some k => o.idxOf k + 1
def InO (l : List Rule) (o : List Nat) (p : B) : Prop := ∀ k, l.findIdx? (fun r => r.out == p) = some k → k ∈ o

theorem findI_some {l : List Rule} {p : B} {k : Nat} (h : l.findIdx? (fun r => r.out == p) = some k) : ∃ r, l[k]? = some r ∧ r.out = p ∧ ruleOf l p = some r := by
 rw [List.findIdx?_eq_some_iff_getElem] at h
 obtain ⟨h3, h4, h5⟩ := h
 refine ⟨l[k], List.getElem?_eq_getElem h3, beq_iff_eq.1 h4, ?_⟩
 unfold ruleOf
 rw [List.find?_eq_some_iff_getElem]
 exact ⟨h4, k, h3, rfl, fun j hj => by simpa using h5 j hj⟩
theorem ruleOf_idx {l : List Rule} {p : B} {r : Rule} (h : ruleOf l p = some r) : ∃ k, l.findIdx? (fun r => r.out == p) = some k ∧ l[k]? = some r := by
 cases hf : l.findIdx? (fun r => r.out == p) with
 | none =>
  rw [List.findIdx?_eq_none_iff] at hf
  unfold ruleOf at h
  have h1 := List.find?_some h
  have h2 := hf r (List.mem_of_find?_eq_some h)
  rw [h2] at h1
  cases h1
 | some k =>
  obtain ⟨r', h1, _, h3⟩ := findI_some hf
  rw [h] at h3
  cases h3
  exact ⟨k, rfl, h1⟩

theorem ranked_order {l : List Rule} {is : Nat → Bool} {o : List Nat} (hO : Ordered l.length (needB l) is o) : Ranked l (InO l o) (rankO l o) ∧ ∀ p, InO l o p → rankO l o p ≤ l.length := by
 have key : ∀ k, k ∈ o → o.idxOf k < o.length := fun k hk => List.idxOf_lt_length_of_mem hk
 refine ⟨⟨fun p hp r hr q hq => ?_⟩, fun p hp => ?_⟩
 ·obtain ⟨k, hk, hkr⟩ := ruleOf_idx hr
  have hko := hp k hk
  have hj := key k hko
  have hat : o[o.idxOf k]? = some k := by rw [List.getElem?_eq_getElem hj, List.getElem_idxOf]
  have hneed := hO.need _ _ hat
  have hrp : rankO l o p = o.idxOf k + 1 := by unfold rankO; rw [hk]
  have hq2 : ∀ k', l.findIdx? (fun r => r.out == q) = some k' → k' ∈ o.take (o.idxOf k) := fun k' hk' => by
   obtain ⟨r', h1, h2, _⟩ := findI_some hk'
   refine hneed k' (List.getElem?_eq_some_iff.1 h1).1 ?_
   unfold needB
   rw [hkr, h1]
   simp only [h2]
   simpa using hq
  refine ⟨fun k' hk' => List.mem_of_mem_take (hq2 k' hk'), ?_⟩
  rw [hrp]
  unfold rankO
  cases hf : l.findIdx? (fun r => r.out == q) with
  | none => exact Nat.succ_pos _
  | some k' =>
   have := hq2 k' hf
   obtain ⟨t, ht, he⟩ := List.mem_take_iff_getElem.1 this
   have hlt : o.idxOf k' ≤ t := by
    have hnd := hO.nodup
    have h6 : o.idxOf k' = t := by rw [← he]; exact hnd.idxOf_getElem t (by omega)
    omega
   simp only
   omega
 ·have hl := hO.len
  have hm := manyB_le l.length is
  unfold rankO
  cases hf : l.findIdx? (fun r => r.out == p) with
  | none => exact Nat.zero_le _
  | some k => have := key k (hp k hf); simp only; omega
end Go.Proofs.YtnmhaipjfpongacGreatDoor

namespace Go.Proofs.YtnmhaipjfpongacGreatDoor
open Go.ChangeShapes Go.WideShapes Go.ChangeAt Go.RowKit

theorem rowDown {b b' : Nat} {w : World} {v : Value} {l : List B} (h : Row b' w v l) (hb : b ≤ b') : Row b w v l :=
 ⟨h.1, h.2.imp id fun ⟨g, cap, cur, e, hg, r⟩ => ⟨g, cap, cur, e, Nat.le_trans hb hg, r⟩⟩

end Go.Proofs.YtnmhaipjfpongacGreatDoor
