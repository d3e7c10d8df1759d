/- Texts of this seat laid together for one claim: G9, G10. No condition of its own: what each proves stands with its theorems. -/
import Derived.Test.YtnmhaipjfpongacGreatDoorSA18
import Derived.Test.YtnmhaipjfpongacGreatDoorSA15
namespace Go.Proofs.YtnmhaipjfpongacGreatDoor
open Go.ChangeShapes Go.WideShapes Go.ChangeAt Go.RowKit

inductive Reach (nd : Nat → Nat → Bool) (ks : List Nat) : Nat → Prop
 | root {k : Nat} : k ∈ ks → Reach nd ks k
 | step {i j : Nat} : Reach nd ks i → nd i j = true → Reach nd ks j

theorem idx_cases {α : Type} (p : α → Bool) (l : List α) : (∃ k : Nat, idx p l = (k : Int) ∧ k < l.length ∧ l.any p = true) ∨ (idx p l = -1 ∧ l.any p = false) := by
 unfold idx
 cases h : l.findIdx? p with
 | none =>
  rw [List.findIdx?_eq_none_iff] at h
  refine .inr ⟨rfl, ?_⟩
  rw [List.any_eq_false]
  intro x hx
  simpa using h x hx
 | some i =>
  rw [List.findIdx?_eq_some_iff_getElem] at h
  obtain ⟨h1, h2, _⟩ := h
  exact .inl ⟨i, rfl, h1, List.any_eq_true.2 ⟨l[i], List.getElem_mem h1, h2⟩⟩

def madeB (l : List Rule) (s : B) : Bool := l.any fun r => r.out == s
def madeI (l : List Rule) (s : B) : Nat := (idx (fun r => r.out == s) l).toNat
def badOf (l : List Rule) (outs : List B) : Option Nat := outs.findIdx? fun s => !madeB l s
def needFault (l : List Rule) (outs : List B) : Nat × Int := if (sheetFault l).1 ≠ 0 then sheetFault l else match badOf l outs with | some i => (6, (i : Int)) | none => (0, -1)
def needKs (l : List Rule) (outs : List B) : List Nat := outs.map (madeI l)
def NeedOk (n : Nat) (nd : Nat → Nat → Bool) (ks out : List Nat) : Prop := ∃ N : Nat → Bool, out = (List.range n).filter N ∧ ∀ i, i < n → (N i = true ↔ Reach nd ks i)
def RetNeeds (P : Nat → Addr) (l : List Rule) (outs : List B) (w : World) (e : Ending) (w' : World) : Prop :=
 ∃ v ev out, e = .returned (.tuple #[v, ev]) ∧ RowI w.heap.size w' v out ∧ ErrAt w' P (needFault l outs) ev ∧ Ext w w' ∧ (((needFault l outs).1 ≠ 0 ∧ out = []) ∨ ((needFault l outs).1 = 0 ∧ NeedOk l.length (needB l) (needKs l outs) out))

theorem bad_hit {l : List Rule} {outs : List B} {t : Nat} {s : B} (hs : outs[t]? = some s) (h : madeB l s = false) (hb : ∀ x ∈ outs.take t, madeB l x = true) : badOf l outs = some t := by
 unfold badOf
 rw [List.findIdx?_eq_some_iff_getElem]
 obtain ⟨h1, h2⟩ := List.getElem?_eq_some_iff.1 hs
 refine ⟨h1, by rw [h2, h]; rfl, fun j hj => ?_⟩
 have := hb outs[j] (List.mem_take_iff_getElem.2 ⟨j, by omega, rfl⟩)
 rw [this]
 decide
theorem bad_none {l : List Rule} {outs : List B} (hb : ∀ x ∈ outs, madeB l x = true) : badOf l outs = none := by
 unfold badOf
 rw [List.findIdx?_eq_none_iff]
 intro x hx
 rw [hb x hx]
 rfl

structure Bfs (n : Nat) (nd : Nat → Nat → Bool) (ks td ns : List Nat) : Prop where
 nodup : ns.Nodup
 nlt : ∀ i ∈ ns, i < n
 tlt : ∀ i ∈ td, i < n
 rn : ∀ i ∈ ns, Reach nd ks i
 rt : ∀ i ∈ td, Reach nd ks i
 root : ∀ k ∈ ks, k ∈ ns ∨ k ∈ td
 closed : ∀ i ∈ ns, ∀ j, nd i j = true → j ∈ ns ∨ j ∈ td
 len : td.length ≤ ks.length + ns.length * n

theorem Bfs.start {n : Nat} {nd : Nat → Nat → Bool} {ks : List Nat} (h : ∀ k ∈ ks, k < n) : Bfs n nd ks ks [] :=
 ⟨List.nodup_nil, by simp, h, by simp, fun i hi => .root hi, fun k hk => .inr hk, by simp, by simp⟩
theorem Bfs.old {n : Nat} {nd : Nat → Nat → Bool} {ks td ns : List Nat} {k : Nat} (h : Bfs n nd ks (k :: td) ns) (hk : k ∈ ns) : Bfs n nd ks td ns := by
 have key : ∀ j, j ∈ ns ∨ j ∈ k :: td → j ∈ ns ∨ j ∈ td := fun j hj => by
  rcases hj with hj | hj
  ·exact .inl hj
  ·rcases List.mem_cons.1 hj with rfl | hj
   ·exact .inl hk
   ·exact .inr hj
 have := h.len
 rw [List.length_cons] at this
 exact ⟨h.nodup, h.nlt, fun i hi => h.tlt i (.tail _ hi), h.rn, fun i hi => h.rt i (.tail _ hi), fun k' hk' => key _ (h.root k' hk'), fun i hi j hj => key _ (h.closed i hi j hj), by omega⟩
theorem edge_len (n : Nat) (nd : Nat → Nat → Bool) (k : Nat) : (edgeB n nd k).length ≤ n := by
 unfold edgeB
 have := List.length_filter_le (nd k) (List.range n)
 rw [List.length_range] at this
 exact this
theorem Bfs.new {n : Nat} {nd : Nat → Nat → Bool} {ks td ns : List Nat} {k : Nat} (hnd : ∀ i j, nd i j = true → j < n) (h : Bfs n nd ks (k :: td) ns) (hk : k ∉ ns) : Bfs n nd ks (td ++ edgeB n nd k) (k :: ns) := by
 have hkr := h.rt k (.head _)
 have key : ∀ j, j ∈ ns ∨ j ∈ k :: td → j ∈ k :: ns ∨ j ∈ td ++ edgeB n nd k := fun j hj => by
  rcases hj with hj | hj
  ·exact .inl (.tail _ hj)
  ·rcases List.mem_cons.1 hj with rfl | hj
   ·exact .inl (.head _)
   ·exact .inr (List.mem_append.2 (.inl hj))
 have hl := h.len
 have he := edge_len n nd k
 rw [List.length_cons] at hl
 refine ⟨List.nodup_cons.2 ⟨hk, h.nodup⟩, fun i hi => ?_, fun i hi => ?_, fun i hi => ?_, fun i hi => ?_, fun k' hk' => key _ (h.root k' hk'), fun i hi j hj => ?_, ?_⟩
 ·rcases List.mem_cons.1 hi with rfl | hi
  ·exact h.tlt _ (.head _)
  ·exact h.nlt i hi
 ·rcases List.mem_append.1 hi with hi | hi
  ·exact h.tlt i (.tail _ hi)
  ·exact (mem_edge.1 hi).1
 ·rcases List.mem_cons.1 hi with rfl | hi
  ·exact hkr
  ·exact h.rn i hi
 ·rcases List.mem_append.1 hi with hi | hi
  ·exact h.rt i (.tail _ hi)
  ·exact .step hkr (mem_edge.1 hi).2
 ·rcases List.mem_cons.1 hi with rfl | hi
  ·exact .inr (List.mem_append.2 (.inr (mem_edge.2 ⟨hnd _ _ hj, hj⟩)))
  ·exact key _ (h.closed i hi j hj)
 ·rw [List.length_append, List.length_cons, Nat.add_mul, Nat.one_mul]
  omega
theorem Bfs.many {n : Nat} {nd : Nat → Nat → Bool} {ks td ns : List Nat} (h : Bfs n nd ks td ns) : ns.length ≤ n := by
 have := nodup_len h.nodup (b := List.range n) (fun i hi => List.mem_range.2 (h.nlt i hi))
 rwa [List.length_range] at this
theorem Bfs.done {n : Nat} {nd : Nat → Nat → Bool} {ks ns : List Nat} (h : Bfs n nd ks [] ns) (i : Nat) : decide (i ∈ ns) = true ↔ Reach nd ks i := by
  rw [decide_eq_true_eq]
  refine ⟨h.rn i, fun hr => ?_⟩
  induction hr with
  | root hk => rcases h.root _ hk with h1 | h1
               · exact h1
               · simp at h1
  | step _ hj ih => rcases h.closed _ ih _ hj with h1 | h1
                    · exact h1
                    · simp at h1
def bfsLeft (n : Nat) (td ns : List Nat) : Nat := (n - ns.length) * (n + 1) + td.length
theorem bfs_new {n : Nat} {td ns : List Nat} {k : Nat} {e : List Nat} (he : e.length ≤ n) (hn : ns.length + 1 ≤ n) : bfsLeft n (td ++ e) (k :: ns) < bfsLeft n (k :: td) ns := by
 unfold bfsLeft
 rw [List.length_append, List.length_cons, List.length_cons]
 obtain ⟨d, hd⟩ : ∃ d, n - ns.length = d + 1 := ⟨n - ns.length - 1, by omega⟩
 rw [hd, show n - (ns.length + 1) = d by omega, Nat.add_mul, Nat.one_mul]
 omega

theorem filter_stepN (p : Nat → Bool) (i : Nat) : (List.range (i + 1)).filter p = (List.range i).filter p ++ (if p i then [i] else []) := by
 rw [List.range_succ, List.filter_append]
 congr 1
 cases h : p i <;> simp [List.filter, h]

def LookIs (L : List (Int × Bool)) (ns : List Nat) : Prop := ∀ k : Nat, L.lookup (k : Int) = if k ∈ ns then some true else none
theorem lookup_filterI {k s : Int} : ∀ (L : List (Int × Bool)), s ≠ k → (L.filter fun p => !(p.1 == k)).lookup s = L.lookup s
 | [], _ => rfl
 | (a, x) :: L, h => by
  by_cases ha : a = k
  ·subst ha
   have hs : (s == a) = false := beq_eq_false_iff_ne.2 h
   rw [List.filter_cons_of_neg (by simp), lookup_filterI L h, List.lookup, hs]
  ·rw [List.filter_cons_of_pos (by simpa using ha)]
   simp only [List.lookup]
   rw [lookup_filterI L h]
theorem LookIs.more {L : List (Int × Bool)} {ns : List Nat} (h : LookIs L ns) (k : Nat) : LookIs (((k : Int), true) :: L.filter fun p => !(p.1 == (k : Int))) (k :: ns) := by
 intro i
 by_cases e : i = k
 ·subst e
  rw [if_pos (.head _)]
  simp [List.lookup]
 ·have hne : (i : Int) ≠ (k : Int) := by omega
  have hs : ((i : Int) == (k : Int)) = false := beq_eq_false_iff_ne.2 hne
  rw [List.lookup, hs]
  simp only
  rw [lookup_filterI L hne, h i]
  congr 1
  simp [e]

structure BfsAt (w wr : World) (mb bq : Nat) (L : List (Int × Bool)) (v : Value) (td ns : List Nat) : Prop where
 ext : Ext w wr
 map : KMap (.int .i64) I (fun b : Bool => .bool b) wr mb L
 q : QI bq wr v td
 lo : w.heap.size ≤ mb ∧ mb < bq ∧ bq ≤ wr.heap.size
 look : LookIs L ns
theorem BfsAt.marked {w wr w' : World} {mb bq : Nat} {L L' : List (Int × Bool)} {v v' : Value} {td td' ns ns' : List Nat} (h : BfsAt w wr mb bq L v td ns) (hm : KMap (.int .i64) I (fun b : Bool => .bool b) w' mb L') (ho : Only (fun i => i = mb) wr w') (hl : LookIs L' ns') (hq : QI bq wr v' td') : BfsAt w w' mb bq L' v' td' ns' := by
 obtain ⟨l1, l2, l3⟩ := h.lo
 exact ⟨h.ext.trans ho (fun _ _ h => h) (fun i hi e => by omega), hm, hq.later ho (fun b e => by rw [e]; exact l2), ⟨l1, l2, Nat.le_trans l3 ho.size⟩, hl⟩
theorem BfsAt.put {w wr w' : World} {mb bq : Nat} {L : List (Int × Bool)} {v v' : Value} {td td' ns : List Nat} (h : BfsAt w wr mb bq L v td ns) (hq : QI bq w' v' td') (ho : Only (fun b => bq ≤ b) wr w') : BfsAt w w' mb bq L v' td' ns := by
 obtain ⟨l1, l2, l3⟩ := h.lo
 exact ⟨h.ext.trans ho (fun _ _ h => h) (fun i hi e => by omega), h.map.later ho (fun e => by omega), hq, ⟨l1, l2, Nat.le_trans l3 ho.size⟩, h.look⟩
theorem BfsAt.cut {w wr : World} {mb bq : Nat} {L : List (Int × Bool)} {v v' : Value} {td td' ns : List Nat} (h : BfsAt w wr mb bq L v td ns) (hq : QI bq wr v' td') : BfsAt w wr mb bq L v' td' ns := ⟨h.ext, h.map, hq, h.lo, h.look⟩

theorem enters_Needs1 : ∀ args w, (callFunc 162 args).run Tryz.prog w = .ok (.enter 162 args) w := fun args w => by kernel_rfl
theorem Needs1_test (w : World) (r : Rule) (u : Value) (b : Nat) (o : B) (hu : Rd S w u r.ins) (h : w.cell? ⟨b, 0, none⟩ = some (S o)) :
  Calls Tryz.prog 162 #[AggR r u, .pointer (some ⟨b, 0, none⟩)] w (RetE (.bool (r.out == o)) w) := by
 obtain ⟨a, cap, rfl, _, _, _⟩ := hu
 obtain ⟨q, hq⟩ : ∃ q, (r.out == o) = q := ⟨_, rfl⟩
 rw [hq]
 have h1 := fun ob => (Only.alloc (fun _ => False) w ob).cellOf h (fun h => h)
 clear h
 go_enter Tryz.func162, Tryz.ntmps162
 go_wp2_with fail
 go_ret
 exact ⟨rfl, Only.alloc _ _ _⟩

set_option maxRecDepth 100000 in
set_option maxHeartbeats 4000000 in
theorem graphNeeds_any (w : World) (P : Nat → Addr) (l : List Rule) (outs : List B) (v vo : Value) (hv : RdR w v l) (hvo : Rd S w vo outs) (hno : outs.length ≤ 1000) (hs : ∀ r ∈ l, RuleSm 900000 r) (hV : PV w P [1, 2, 3, 4, 5, 6, 9]) :
  Calls Tryz.prog 93 #[v, vo] w (RetNeeds P l outs w) := by
 have HSH := Lib.hid (sheet_any w P l v hv hs (hV.sub (by decide)))
 have HRD := Lib.hid hv
 have HVV := Lib.hid hV
 have HSM := Lib.hid (fun r hr => (hs r hr).many)
 have HRO := Lib.hid hvo
 obtain ⟨a, cap, rfl, _, _, _⟩ := hv
 obtain ⟨ao, co, rfl, hcapo, hmlo, hco⟩ := hvo
 have HCO := Lib.hid hco
 have honz : (outs.length : Int) ≤ 1000 := by omega
 clear hV hs hco
 by_cases h0 : (sheetFault l).1 = 0
 ·have HR := Lib.hid (sheet_ok.1 h0)
  have HE := Lib.hid (fun W (hW : Ext w W) => edges_any W l _ (HRD.out.ext hW) HR.out HSM.out)
  have HN0 := Lib.hid h0
  have h40 := HR.out.1
  have hlz : (l.length : Int) ≤ 40 := by omega
  have HND := Lib.hid (fun i j (h : needB l i j = true) => (needB_lt h).2)
  have HFB : Hid (∀ e w' t, badOf l outs = some t → (∃ v ev, e = .returned (.tuple #[v, ev]) ∧ v = .slice none 0 0 ∧ (∃ b, ev = .iface 226 (.pointer (some ⟨b, 0, none⟩)) ∧ w'.heap[b]? = some (.cells #[I (t : Int), errV (P 5)] 228 (0, 0))) ∧ Ext w w') → RetNeeds P l outs w e w') := Lib.hid (by
   rintro e w' t hb ⟨v, ev, rfl, rfl, hev, hx⟩
   have hf : needFault l outs = (6, (t : Int)) := by unfold needFault; rw [if_neg (by simpa using h0), hb]
   refine ⟨_, ev, [], rfl, RowI.nil _ _, ?_, hx, .inl ⟨by rw [hf]; exact Nat.succ_ne_zero 5, rfl⟩⟩
   rw [hf]
   exact .inr (.inr ⟨Nat.succ_ne_zero 5, Int.natCast_nonneg _, hev⟩))
  have HFO : Hid (∀ e w', badOf l outs = none → (∃ v out, e = .returned (.tuple #[v, .nilIface]) ∧ RowI w.heap.size w' v out ∧ Ext w w' ∧ NeedOk l.length (needB l) (needKs l outs) out) → RetNeeds P l outs w e w') := Lib.hid (by
   rintro e w' hb ⟨v, out, rfl, hr, hx, hok⟩
   have hf : needFault l outs = (0, -1) := by unfold needFault; rw [if_neg (by simpa using h0), hb]
   refine ⟨v, _, out, rfl, hr, ?_, hx, .inr ⟨by rw [hf], hok⟩⟩
   rw [hf]
   exact ErrAt.nil _ _ _)
  clear h0
  have hmm := @run_makeMap Tryz.prog
  go_enter Tryz.func93, Tryz.ntmps93
  go_wp2_with fail
  refine HSH.out.mono ?_
  rintro e w1 ⟨ev, rfl, he, ho⟩
  obtain rfl := he.zero HN0.out
  have HX1 := Lib.hid ho
  clear he ho
  go_wp2_with fail
  refine (HE.out w1 HX1.out).mono ?_
  rintro e w2 ⟨v2, rfl, hll, ho⟩
  have HX2 := Lib.hid (HX1.out.then ho)
  have HLL := Lib.hid hll
  clear hll ho
  have hc := HLL.out
  obtain ⟨a2, c2, rfl, hcap, hml, hc⟩ := hc
  have HC : Hid (∀ i, i < l.length → ∃ b off u, a2 = some ⟨b, off, none⟩ ∧ Rd IN w2 u (edgeB l.length (needB l) i) ∧ w2.cell? ⟨b, off + i, none⟩ = some u) := Lib.hid (fun i hi => by
   obtain ⟨b, off, h1, h2⟩ := hc (fun e => by have := congrArg List.length e; rw [List.length_map, List.length_range, List.length_nil] at this; omega)
   obtain ⟨u, h3, h4⟩ := h2 i (edgeB l.length (needB l) i) (by rw [List.getElem?_map, List.getElem?_range hi]; rfl)
   exact ⟨b, off, u, h1, h3, h4⟩)
  rw [List.length_map, List.length_range] at HLL ⊢
  clear hc hcap hml
  go_wp2_with fail
  clear hmm
  have HM0 : Hid (KMap (.int .i64) I (fun b : Bool => .bool b) (w2.alloc (.map #[] 0)) w2.heap.size []) := Lib.hid (KMap.made w2 (.int .i64) I _)
  have HX3 : Hid (Ext w2 (w2.alloc (.map #[] 0))) := Lib.hid (Only.alloc _ _ _)
  obtain ⟨mb, hmb⟩ : ∃ mb, mb = w2.heap.size := ⟨_, rfl⟩
  have HB0 : Hid (w2.heap.size ≤ mb ∧ mb + 1 ≤ (w2.alloc (.map #[] 0)).heap.size) := Lib.hid ⟨by omega, by rw [hmb]; simp⟩
  generalize (w2.alloc (.map #[] 0)) = wm at *
  rw [← hmb] at HM0 ⊢
  clear hmb
  go_loopw [9, 10, 11, 12, 26] (fun q _ _ _ i wr => ∃ (t : Nat) (qv : Value), qv = q ∧ t ≤ outs.length ∧ i = .int .i64 t ∧ Hid (RowI (mb + 1) wr qv ((outs.take t).map (madeI l))) ∧ Hid (∀ x ∈ outs.take t, madeB l x = true) ∧ Hid (∀ k ∈ (outs.take t).map (madeI l), k < l.length) ∧ Hid (Only (fun b => mb + 1 ≤ b) wm wr)) (fun _ _ _ _ i _ => outs.length - (intOf i).toNat)
  case atStart => exact ⟨0, _, rfl, Nat.zero_le _, rfl, Lib.hid (RowI.nil _ _), Lib.hid (by simp), Lib.hid (by simp), Lib.hid (Only.refl _ _)⟩
  case round =>
   obtain ⟨t, q, rfl, ht, rfl, HQ, HMA, HLT, HO⟩ := hrel
   have HX : Hid (Ext w2 wr) := Lib.hid (HX3.out.trans HO.out (fun _ _ h => h) (fun i hi e => by have := HB0.out; omega))
   by_cases hlt : t < outs.length
   ·have hltz : (t : Int) < (outs.length : Int) := by omega
    have ht0 : (0 : Int) ≤ (t : Int) := by omega
    obtain ⟨b, off, rfl, hcell⟩ := HCO.out (by intro h; rw [h] at hlt; simp at hlt)
    obtain ⟨s, hs⟩ : ∃ y, outs[t]? = some y := ⟨_, List.getElem?_eq_getElem hlt⟩
    have d0 := (HX2.out.then HX.out).cellOf (hcell t s hs) (fun h => h)
    have HS := Lib.hid hs
    have hk0 := (cell_of_heap (MapKept.heap_alloc wr (.cells #[S s] 9 (0, 0))).1 0).trans rfl
    have hx4 : Ext w (wr.alloc (.cells #[S s] 9 (0, 0))) := (HX2.out.then HX.out).thenAlloc _
    have hif := indexFunc_R1 162 (.pointer (some ⟨wr.heap.size, 0, none⟩)) (fun x => x.out == s) (wr.alloc (.cells #[S s] 9 (0, 0))) (.slice a l.length cap) l (HRD.out.ext hx4) enters_Needs1
     (fun w1 h1 x u' _ hu' => Needs1_test w1 x u' wr.heap.size s hu' (h1.cellOf hk0 (fun h => h)))
    have HIF := Lib.hid hif
    have HTK : Hid (outs.take (t + 1) = outs.take t ++ [s]) := Lib.hid (by rw [List.take_add_one, hs]; rfl)
    have hql : ((outs.take t).map (madeI l)).length ≤ 1000 := by rw [List.length_map, List.length_take]; omega
    have HQL := Lib.hid hql
    clear hcell hs hk0 hx4 hif hql
    rcases idx_cases (fun x => x.out == s) l with ⟨k, hk, hkn, hany⟩ | ⟨hk, hany⟩
    ·have hmi : madeI l s = k := by unfold madeI; rw [hk]; exact Int.toNat_natCast k
     rw [hk] at HIF
     have HMI := Lib.hid hmi
     have HKN := Lib.hid hkn
     have HAN := Lib.hid hany
     have hk0 : ¬ (k : Int) < 0 := by omega
     clear hmi hk hkn hany hlt
     have HMA2 : Hid (∀ x ∈ outs.take (t + 1), madeB l x = true) := Lib.hid (fun x hx => by
      rw [HTK.out] at hx
      rcases List.mem_append.1 hx with hx | hx
      ·exact HMA.out x hx
      ·rw [List.mem_singleton.1 hx]; exact HAN.out)
     have HLT2 : Hid (∀ k ∈ (outs.take (t + 1)).map (madeI l), k < l.length) := Lib.hid (fun x hx => by
      rw [HTK.out, List.map_append] at hx
      rcases List.mem_append.1 hx with hx | hx
      ·exact HLT.out x hx
      ·rw [List.map_cons, List.map_nil, List.mem_singleton, HMI.out] at hx; rw [hx]; exact HKN.out)
     have HT2 : Hid ((outs.take (t + 1)).map (madeI l) = (outs.take t).map (madeI l) ++ [k]) := Lib.hid (by rw [HTK.out, List.map_append, List.map_cons, List.map_nil, HMI.out])
     generalize (outs.take t).map (madeI l) = ks at HQ HQL HT2 ⊢
     clear HLT HMA
     go_wp2_with fail
     refine (HIF.out).mono ?_
     rintro e w4 ⟨rfl, ho⟩
     have HX5 := Lib.hid ((HX.out.thenAlloc (.cells #[S s] 9 (0, 0))).then ho)
     have HQ4 := Lib.hid ((HQ.out.ext (Only.alloc (fun _ => False) wr (.cells #[S s] 9 (0, 0)))).ext ho)
     have HO5 := Lib.hid ((HO.out.ext (Only.alloc (fun _ => False) wr (.cells #[S s] 9 (0, 0)))).ext ho)
     clear ho
     go_wp2_with (at_builtin; refine wpNum rfl (.tmp 41) (.tmp 43) w2 (mb + 1) _ ks k w4 rfl rfl rfl rfl HQ4.out (Nat.le_trans HQL.out (by decide)) (Nat.le_trans HB0.out.2 HO5.out.size) HX5.out (Nat.le_succ_of_le HB0.out.1) ?_; intro g5 cap5 w5 HR5 _ HG5; have HO6 := Lib.hid (HO5.out.then ((Only.of_grown HG5.out).mono (fun i _ e => HQ4.out.base i e))))
     go_roundw
     case rel => exact ⟨t + 1, _, rfl, by omega, by go_num, by rw [HT2.out]; exact HR5, HMA2, HLT2, HO6⟩
     case measure => simp [intOf]; omega
    ·rw [hk] at HIF
     have HBD := Lib.hid (bad_hit HS.out hany HMA.out)
     have c0 := (HVV.out.errs.ext (HX2.out.then HX.out)).var 5 _ (by decide) rfl
     clear hk hany hlt
     go_wp2_with fail
     refine (HIF.out).mono ?_
     rintro e w4 ⟨rfl, ho⟩
     have HO4 := Lib.hid ((HX2.out.then HX.out).thenAlloc (.cells #[S s] 9 (0, 0)))
     have HHO := Lib.hid ho
     clear ho
     have c1 := HHO.out.cellOf ((Only.alloc (fun _ => False) wr (.cells #[S s] 9 (0, 0))).cellOf c0 (fun h => h)) (fun h => h)
     go_wp2_with fail
     go_region
     all_goals
      go_wp2_with fail
      go_ret2
      exact HFB.out _ _ t HBD.out ⟨_, _, rfl, rfl, ⟨_, rfl, (MapKept.heap_alloc _ _).1⟩, ((HO4.out.then HHO.out).thenAlloc _).thenDrew⟩
   ·have hltz : ¬ (t : Int) < (outs.length : Int) := by omega
    obtain rfl : t = outs.length := by omega
    rw [List.take_length] at HQ HMA HLT
    have HBN := Lib.hid (bad_none HMA.out)
    have HBF := Lib.hid (Bfs.start (nd := needB l) HLT.out)
    have HBA : Hid (BfsAt w2 wr mb (mb + 1) [] q (outs.map (madeI l)) []) := Lib.hid ⟨HX.out, HM0.out.later HO.out (fun e => by omega), QI.of_row HQ.out, ⟨HB0.out.1, Nat.lt_succ_self _, Nat.le_trans HB0.out.2 HO.out.size⟩, fun k => by rw [if_neg (by simp)]; rfl⟩
    obtain ⟨ks, hks⟩ : ∃ ks, ks = outs.map (madeI l) := ⟨_, rfl⟩
    have hkl : ks.length ≤ 1000 := by rw [hks, List.length_map]; omega
    have HKS : Hid (needKs l outs = ks) := Lib.hid hks.symm
    rw [← hks] at HBF HBA
    clear hks HQ HMA HLT HX HO HM0 HB0 hlt ht
    obtain ⟨n, hn⟩ : ∃ n, n = l.length := ⟨_, rfl⟩
    obtain ⟨nd, hnd⟩ : ∃ nd, nd = needB l := ⟨_, rfl⟩
    rw [← hn, ← hnd] at HC HBF HFO
    rw [← hn, ← hnd] at HND
    rw [← hn] at h40 hlz ⊢
    clear hn hnd
    obtain ⟨aq, cq, rfl, hcq, hcm⟩ := HBA.out.q.form
    clear hcq hcm
    go_wp2_with fail
    go_loopg [9, 13] (bfsLeft n ks []) (fun g q _ wx => ∃ (td ns : List Nat) (L : List (Int × Bool)), bfsLeft n td ns = g ∧ Hid (Bfs n nd ks td ns) ∧ Hid (BfsAt w2 wx mb (mb + 1) L q td ns))
    case atStart => exact ⟨ks, [], [], rfl, HBF, HBA⟩
    case round =>
     clear HBF HBA
     obtain ⟨td, ns, L, hg, HBF, HBA⟩ := hrel
     cases td with
     | cons k td =>
      have hkn := HBF.out.tlt k (.head _)
      have hkz : (k : Int) < (n : Int) := by omega
      have hk0 : (0 : Int) ≤ (k : Int) := by omega
      obtain ⟨b, off, cap0, rfl, hcap, hmx, c0, hq1, hq2⟩ := HBA.out.q.head
      have hlk := KMap.look1 (P := Tryz.prog) keyOk_int HBA.out.map Tryz.underlying232 Tryz.underlying3 (z := .bool false) (by kernel_rfl) (k : Int)
      rw [HBA.out.look k] at hlk
      have htz : (0 : Int) < ((td.length : Int) + 1) := by omega
      have htl := HBF.out.len
      have hnl := HBF.out.many
      obtain ⟨g9, hg9⟩ : ∃ g9, g9 = gk := ⟨_, rfl⟩
      by_cases hc1 : cap0 = 1
      ·subst hc1
       obtain rfl : td = [] := List.length_eq_zero_iff.1 (by omega)
       have HQ := Lib.hid (hq2 rfl)
       clear hq1 hq2
       have hed := HC.out k hkn
       obtain ⟨b2, off2, u, rfl, hu, hcell⟩ := hed
       by_cases hk : k ∈ ns
       ·rw [if_pos hk] at hlk
        simp only at hlk
        have HN := Lib.hid (HBF.out.old hk)
        have HB := Lib.hid (HBA.out.cut (HQ.out (some ⟨b, off, none⟩)))
        clear hk hcell hu HBF
        go_wp2_with fail
        go_roundg (bfsLeft n [] ns)
        case measure => rw [← hg]; unfold bfsLeft; simp
        case rel => exact ⟨_, ns, L, rfl, HN, HB⟩
       ·rw [if_neg hk] at hlk
        simp only at hlk
        have HN := Lib.hid (HBF.out.new HND.out hk)
        have hel := edge_len n nd k
        have hmy := HN.out.many
        obtain ⟨w5, hrun, hm5, ho5, hs5⟩ := KMap.store (P := Tryz.prog) keyOk_int HBA.out.map Tryz.underlying232 Tryz.underlying3 (k : Int) true
        have HB := Lib.hid (HBA.out.marked hm5 ho5 (HBA.out.look.more k) (HQ.out (some ⟨b, off, none⟩)))
        have d0 := HB.out.ext.cellOf hcell (fun h => h)
        have HU := Lib.hid (hu.ext HB.out.ext)
        have HM : Hid (bfsLeft n ([] ++ edgeB n nd k) (k :: ns) < g9) := Lib.hid (by rw [hg9, ← hg]; exact bfs_new hel (by simpa using hmy))
        have HTL : Hid (([] : List Nat).length + (edgeB n nd k).length ≤ 1000000) := Lib.hid (by
         have h5 : ns.length * n ≤ 40 * 40 := Nat.mul_le_mul (by omega) h40
         simp at htl ⊢
         omega)
        clear hk hcell hu hm5 ho5 hs5 hel hmy HBF hg
        generalize edgeB n nd k = ed at *
        go_wp2_with (at_builtin; refine wpQueue rfl (.tmp 60) (.tmp 64) (mb + 1) _ _ [] ed w5 rfl rfl rfl rfl HB.out.q HU.out HTL.out HB.out.lo.2.2 ?_; intro v6 w6 HQ6 HO6; have HB6 := Lib.hid (HB.out.put HQ6.out HO6.out))
        go_roundg (bfsLeft n ([] ++ ed) (k :: ns))
        case measure => rw [← hg9]; exact HM.out
        case rel => exact ⟨_, _, _, rfl, HN, HB6⟩
      ·have HQ := Lib.hid (hq1 hc1)
       clear hq1 hq2
       have hed := HC.out k hkn
       obtain ⟨b2, off2, u, rfl, hu, hcell⟩ := hed
       by_cases hk : k ∈ ns
       ·rw [if_pos hk] at hlk
        simp only at hlk
        have HN := Lib.hid (HBF.out.old hk)
        have HB := Lib.hid (HBA.out.cut HQ.out)
        clear hk hcell hu HBF
        go_wp2_with fail
        go_roundg (bfsLeft n td ns)
        case measure => rw [← hg]; unfold bfsLeft; simp
        case rel => exact ⟨_, ns, L, rfl, HN, HB⟩
       ·rw [if_neg hk] at hlk
        simp only at hlk
        have HN := Lib.hid (HBF.out.new HND.out hk)
        have hel := edge_len n nd k
        have hmy := HN.out.many
        obtain ⟨w5, hrun, hm5, ho5, hs5⟩ := KMap.store (P := Tryz.prog) keyOk_int HBA.out.map Tryz.underlying232 Tryz.underlying3 (k : Int) true
        have HB := Lib.hid (HBA.out.marked hm5 ho5 (HBA.out.look.more k) HQ.out)
        have d0 := HB.out.ext.cellOf hcell (fun h => h)
        have HU := Lib.hid (hu.ext HB.out.ext)
        have HM : Hid (bfsLeft n (td ++ edgeB n nd k) (k :: ns) < g9) := Lib.hid (by rw [hg9, ← hg]; exact bfs_new hel (by simpa using hmy))
        have HTL : Hid ((td : List Nat).length + (edgeB n nd k).length ≤ 1000000) := Lib.hid (by
         have h5 : ns.length * n ≤ 40 * 40 := Nat.mul_le_mul (by omega) h40
         simp at htl ⊢
         omega)
        clear hk hcell hu hm5 ho5 hs5 hel hmy HBF hg
        generalize edgeB n nd k = ed at *
        go_wp2_with (at_builtin; refine wpQueue rfl (.tmp 60) (.tmp 64) (mb + 1) _ _ td ed w5 rfl rfl rfl rfl HB.out.q HU.out HTL.out HB.out.lo.2.2 ?_; intro v6 w6 HQ6 HO6; have HB6 := Lib.hid (HB.out.put HQ6.out HO6.out))
        go_roundg (bfsLeft n (td ++ ed) (k :: ns))
        case measure => rw [← hg9]; exact HM.out
        case rel => exact ⟨_, _, _, rfl, HN, HB6⟩
     | nil =>
      have HDN := Lib.hid HBF.out.done
      have HEX := Lib.hid HBA.out.ext
      have HMM := Lib.hid HBA.out.map
      have HLK := Lib.hid HBA.out.look
      obtain ⟨aq, cq, hqf, hcq, hcm⟩ := HBA.out.q.form
      rw [List.length_nil] at hqf
      subst hqf
      clear HBF HBA hcq hcm hg
      go_wp2_with fail
      obtain ⟨bo, hbo⟩ : ∃ bo, bo = wr.heap.size := ⟨_, rfl⟩
      have HBO : Hid (w2.heap.size ≤ bo ∧ mb < bo ∧ bo ≤ wr.heap.size) := Lib.hid ⟨by have := HEX.out.size; omega, by have := HMM.out.lt; omega, by omega⟩
      clear hbo
      have HE0 := Lib.hid (Only.refl (fun b => bo ≤ b) wr)
      go_loopw [14, 15, 68] (fun q _ i wx => ∃ (j : Nat) (qv : Value), qv = q ∧ j ≤ n ∧ i = .int .i64 j ∧ Hid (RowI bo wx qv ((List.range j).filter fun i => decide (i ∈ ns))) ∧ Hid (Only (fun b => bo ≤ b) wr wx)) (fun _ _ i _ => n - (intOf i).toNat)
      case atStart => exact ⟨0, _, rfl, Nat.zero_le _, rfl, Lib.hid (RowI.nil _ _), HE0⟩
      case round =>
       clear HE0
       obtain ⟨j, qv, rfl, hj, rfl, HR, HO⟩ := hrel
       have HX5 := Lib.hid (HEX.out.trans HO.out (fun _ _ h => h) (fun i hi e => by have := HBO.out; omega))
       by_cases hlt : j < n
       ·have hltz : (j : Int) < (n : Int) := by omega
        have hlk := KMap.look1 (P := Tryz.prog) keyOk_int (HMM.out.later HO.out (fun e => by have := HBO.out; omega)) Tryz.underlying232 Tryz.underlying3 (z := .bool false) (by kernel_rfl) (j : Int)
        rw [HLK.out j] at hlk
        have hfs := filter_stepN (fun i => decide (i ∈ ns)) j
        have hfl : ((List.range j).filter fun i => decide (i ∈ ns)).length ≤ j := by
         have := List.length_filter_le (fun i => decide (i ∈ ns)) (List.range j)
         rw [List.length_range] at this
         exact this
        have HFL := Lib.hid hfl
        by_cases hk : j ∈ ns
        ·rw [if_pos hk] at hlk
         simp only at hlk
         rw [decide_eq_true hk, if_pos rfl] at hfs
         have HFS := Lib.hid hfs
         clear hk hfs hfl
         generalize (List.range j).filter (fun i => decide (i ∈ ns)) = nx at *
         go_wp2_with (at_builtin; refine wpNum rfl (.tmp 74) (.tmp 76) w2 bo _ nx j wr rfl rfl rfl rfl HR.out (Nat.le_trans HFL.out (by omega)) (Nat.le_trans HBO.out.2.2 HO.out.size) HX5.out HBO.out.1 ?_; intro g5 cap5 w5 HR5 _ HG5; have HO6 := Lib.hid (HO.out.then ((Only.of_grown HG5.out).mono (fun i _ e => HR.out.base i e))))
         go_roundw
         case rel => exact ⟨j + 1, _, rfl, by omega, by go_num, by rw [HFS.out]; exact HR5, HO6⟩
         case measure => simp [intOf]; omega
        ·rw [if_neg hk] at hlk
         simp only at hlk
         rw [decide_eq_false hk, if_neg (by decide), List.append_nil] at hfs
         rw [← hfs] at HR
         clear hk hfs hfl
         go_wp2_with fail
         go_roundw
         case rel => exact ⟨j + 1, _, rfl, by omega, by go_num, HR, HO⟩
         case measure => simp [intOf]; omega
       ·have hltz : ¬ (j : Int) < (n : Int) := by omega
        obtain rfl : j = n := by omega
        have HBS : Hid (w.heap.size ≤ bo) := Lib.hid (Nat.le_trans HX2.out.size HBO.out.1)
        go_wp2_with fail
        go_ret2
        exact HFO.out _ _ HBN.out ⟨_, _, rfl, HR.out.down HBS.out, HX2.out.then HX5.out, by rw [HKS.out]; exact ⟨fun i => decide (i ∈ ns), rfl, fun i _ => HDN.out i⟩⟩
 ·have HN0 := Lib.hid h0
  have hf : needFault l outs = sheetFault l := if_pos h0
  have HF := Lib.hid hf
  clear h0 hf
  go_enter Tryz.func93, Tryz.ntmps93
  go_wp2_with fail
  refine HSH.out.mono ?_
  rintro e w1 ⟨ev, rfl, he, ho⟩
  obtain ⟨t, p, rfl⟩ := he.some HN0.out
  have HX1 := Lib.hid ho
  have HEE := Lib.hid he
  clear he ho
  go_wp2_with fail
  go_ret2
  exact ⟨_, _, [], rfl, RowI.nil _ _, by rw [HF.out]; exact HEE.out, HX1.out, .inl ⟨by rw [HF.out]; exact HN0.out, rfl⟩⟩
end Go.Proofs.YtnmhaipjfpongacGreatDoor

namespace Go.Proofs.YtnmhaipjfpongacGreatDoor
open Go.ChangeShapes Go.WideShapes Go.ChangeAt Go.RowKit

def leafB (l : List Rule) (s : B) : Bool := !madeB l s
def leavesB (l : List Rule) : List B := Lib.compact (sortB ((l.flatMap Rule.ins).filter (leafB l)))
def leavesOut (l : List Rule) : List B := if (sheetFault l).1 ≠ 0 then [] else leavesB l
def RetLeaves (P : Nat → Addr) (l : List Rule) (w : World) (e : Ending) (w' : World) : Prop :=
 ∃ v ev, e = .returned (.tuple #[v, ev]) ∧ Row w.heap.size w' v (leavesOut l) ∧ ErrAt w' P (sheetFault l) ev ∧ Ext w w'

theorem enters_Leaves1 : ∀ args w, (callFunc 269 args).run Tryz.prog w = .ok (.enter 269 args) w := fun args w => by kernel_rfl
theorem Leaves1_test (w : World) (r : Rule) (u : Value) (b : Nat) (o : B) (hu : Rd S w u r.ins) (h : w.cell? ⟨b, 0, none⟩ = some (S o)) :
  Calls Tryz.prog 269 #[AggR r u, .pointer (some ⟨b, 0, none⟩)] w (RetE (.bool (r.out == o)) w) := by
 obtain ⟨a, cap, rfl, _, _, _⟩ := hu
 obtain ⟨q, hq⟩ : ∃ q, (r.out == o) = q := ⟨_, rfl⟩
 rw [hq]
 have h1 := fun ob => (Only.alloc (fun _ => False) w ob).cellOf h (fun h => h)
 clear h
 go_enter Tryz.func269, Tryz.ntmps269
 go_wp2_with fail
 go_ret
 exact ⟨rfl, Only.alloc _ _ _⟩

theorem rowDown {b b' : Nat} {w : World} {v : Value} {l : List B} (h : Row b' w v l) (hb : b ≤ b') : Row b w v l :=
 ⟨h.1, h.2.imp id fun ⟨g, cap, cur, e, hg, r⟩ => ⟨g, cap, cur, e, Nat.le_trans hb hg, r⟩⟩

def lvs (l : List Rule) (j : Nat) : List B := ((l.take j).flatMap Rule.ins).filter (leafB l)
theorem lvs_step {l : List Rule} {j : Nat} {r : Rule} (h : l[j]? = some r) : lvs l (j + 1) = lvs l j ++ r.ins.filter (leafB l) := by
 unfold lvs
 rw [List.take_add_one, h, Option.toList_some, List.flatMap_append, List.filter_append]
 simp
theorem ins_step {ins : List B} {t : Nat} {s : B} (p : B → Bool) (h : ins[t]? = some s) : (ins.take (t + 1)).filter p = (ins.take t).filter p ++ (if p s then [s] else []) := by
 rw [List.take_add_one, h, Option.toList_some, List.filter_append]
 congr 1
 cases hp : p s <;> simp [List.filter, hp]
theorem lvs_len {l : List Rule} (hi : ∀ r ∈ l, r.ins.length ≤ 20000) : ∀ j, (lvs l j).length ≤ j * 20000
 | 0 => by simp [lvs]
 | j + 1 => by
  have ih := lvs_len hi j
  cases h : l[j]? with
  | none =>
   have : lvs l (j + 1) = lvs l j := by unfold lvs; rw [List.take_add_one, h]; simp
   rw [this]; exact Nat.le_trans ih (Nat.mul_le_mul_right _ (Nat.le_succ j))
  | some r =>
   rw [lvs_step h, List.length_append]
   rw [Nat.add_mul, Nat.one_mul]
   exact Nat.add_le_add ih (Nat.le_trans (List.length_filter_le (leafB l) r.ins) (hi r (List.mem_of_getElem? h)))

set_option maxRecDepth 100000 in
set_option maxHeartbeats 4000000 in
theorem graphLeaves_any (w : World) (P : Nat → Addr) (l : List Rule) (v : Value) (hv : RdR w v l) (hs : ∀ r ∈ l, RuleSm 900000 r) (hi : ∀ r ∈ l, r.ins.length ≤ 20000) (hV : PV w P [1, 2, 3, 4, 6, 9]) :
  Calls Tryz.prog 200 #[v] w (RetLeaves P l w) := by
 have HSH := Lib.hid (sheet_any w P l v hv hs hV)
 have HRD := Lib.hid hv
 have HLL := Lib.hid (lvs_len hi)
 have HIN := Lib.hid hi
 obtain ⟨a, cap, rfl, _, _, hc⟩ := hv
 have HC := Lib.hid hc
 clear hV hs hc hi
 obtain ⟨O, hO⟩ : ∃ O, O = leavesOut l := ⟨_, rfl⟩
 have HFIN : Hid (∀ e w', (∃ v ev, e = .returned (.tuple #[v, ev]) ∧ Row w.heap.size w' v O ∧ ErrAt w' P (sheetFault l) ev ∧ Ext w w') → RetLeaves P l w e w') := Lib.hid (by
  rintro e w' ⟨v, ev, h1, h2, h3, h4⟩
  rw [hO] at h2
  exact ⟨v, ev, h1, h2, h3, h4⟩)
 by_cases h0 : (sheetFault l).1 = 0
 ·have HR := Lib.hid (sheet_ok.1 h0)
  have HN0 := Lib.hid h0
  have h40 := HR.out.1
  have hlz : (l.length : Int) ≤ 40 := by omega
  have HO : Hid (O = Lib.compact (sortB (lvs l l.length))) := Lib.hid (by
   rw [hO]
   unfold leavesOut leavesB lvs
   rw [if_neg (by simpa using h0), List.take_length])
  clear h0 hO
  go_enter Tryz.func200, Tryz.ntmps200
  go_wp2_with fail
  refine HSH.out.mono ?_
  rintro e w1 ⟨ev, rfl, he, ho⟩
  obtain rfl := he.zero HN0.out
  have HX1 := Lib.hid ho
  have HEE := Lib.hid he
  clear he ho
  go_wp2_with fail
  obtain ⟨bs, hbs⟩ : ∃ bs, bs = w1.heap.size := ⟨_, rfl⟩
  have HBS : Hid (w.heap.size ≤ bs ∧ bs ≤ w1.heap.size) := Lib.hid ⟨by rw [hbs]; exact HX1.out.size, by omega⟩
  clear hbs
  go_loopw [5, 7, 9, 17] (fun q _ _ i wr => ∃ (j : Nat) (qv : Value), qv = q ∧ j ≤ l.length ∧ i = .int .i64 j ∧ Hid (Row bs wr qv (lvs l j)) ∧ Hid (Ext w wr) ∧ Hid (bs ≤ wr.heap.size)) (fun _ _ _ i _ => l.length - (intOf i).toNat)
  case atStart => exact ⟨0, _, rfl, Nat.zero_le _, rfl, Lib.hid (by simpa [lvs] using Row.nil bs w1), HX1, Lib.hid HBS.out.2⟩
  case round =>
   obtain ⟨j, qv, rfl, hj, rfl, HQ, HX, HB⟩ := hrel
   by_cases hlt : j < l.length
   ·have hltz : (j : Int) < (l.length : Int) := by omega
    have hj0 : (0 : Int) ≤ (j : Int) := by omega
    obtain ⟨b, off, rfl, hcell⟩ := HC.out (by intro h; rw [h] at hlt; simp at hlt)
    obtain ⟨r, hq⟩ : ∃ y, l[j]? = some y := ⟨_, List.getElem?_eq_getElem hlt⟩
    obtain ⟨u, hu, c0, c1, c2, c3⟩ := hcell j r hq
    have d0 := HX.out.cellOf c0 (fun h => h)
    have d1 := HX.out.cellOf c1 (fun h => h)
    have d2 := HX.out.cellOf c2 (fun h => h)
    have d3 := HX.out.cellOf c3 (fun h => h)
    have HST := Lib.hid (lvs_step hq)
    have hlen := HLL.out j
    have hri := HIN.out r (List.mem_of_getElem? hq)
    have HX2 := Lib.hid (HX.out.thenAlloc (.cells #[S r.out, S r.kind, S r.word, u] 55 (0, 0)))
    have HQ2 := Lib.hid (HQ.out.ext (Only.alloc (fun _ => False) wr (.cells #[S r.out, S r.kind, S r.word, u] 55 (0, 0))))
    have HB2 : Hid (bs ≤ (wr.alloc (.cells #[S r.out, S r.kind, S r.word, u] 55 (0, 0))).heap.size) := Lib.hid (by simp; have := HB.out; omega)
    obtain ⟨au, cu, hua, _, _, hci⟩ := hu
    obtain ⟨ins, hins⟩ : ∃ ins, ins = r.ins := ⟨_, rfl⟩
    rw [← hins] at HST hua hci hri
    subst hua
    obtain ⟨A, hA⟩ : ∃ A, A = lvs l j := ⟨_, rfl⟩
    rw [← hA] at HST hlen HQ2
    have HAL : Hid (A.length ≤ 800000) := Lib.hid (by
     have : j * 20000 ≤ 40 * 20000 := Nat.mul_le_mul_right _ (by omega)
     omega)
    have HCI := Lib.hid hci
    have hinz : (ins.length : Int) ≤ 20000 := by omega
    clear hcell hq c0 c1 c2 c3 hins HX HQ HB hA hlen hri hci
    go_wp2_with fail
    generalize (wr.alloc (.cells #[S r.out, S r.kind, S r.word, .slice au ins.length cu] 55 (0, 0))) = wa at HX2 HQ2 HB2 ⊢
    go_loopw [5, 9, 24] (fun q _ i wx => ∃ (t : Nat) (qv : Value), qv = q ∧ t ≤ ins.length ∧ i = .int .i64 t ∧ Hid (Row bs wx qv (A ++ (ins.take t).filter (leafB l))) ∧ Hid (Ext w wx) ∧ Hid (bs ≤ wx.heap.size)) (fun _ _ i _ => ins.length - (intOf i).toNat)
    case atStart => exact ⟨0, _, rfl, Nat.zero_le _, rfl, Lib.hid (by simpa using HQ2.out), HX2, HB2⟩
    case round =>
     clear HX2 HQ2 HB2
     obtain ⟨t, qv, rfl, ht, rfl, HQ, HX, HB⟩ := hrel
     by_cases hil : t < ins.length
     ·have hilz : (t : Int) < (ins.length : Int) := by omega
      have ht0 : (0 : Int) ≤ (t : Int) := by omega
      obtain ⟨b2, off2, rfl, hcell⟩ := HCI.out (by intro h; rw [h] at hil; simp at hil)
      obtain ⟨s, hs⟩ : ∃ y, ins[t]? = some y := ⟨_, List.getElem?_eq_getElem hil⟩
      have e0 := HX.out.cellOf (hcell t s hs) (fun h => h)
      have hk0 := (cell_of_heap (MapKept.heap_alloc wr (.cells #[S s] 9 (0, 0))).1 0).trans rfl
      have HX4 := Lib.hid (HX.out.thenAlloc (.cells #[S s] 9 (0, 0)))
      have hcf := containsFunc_R1 269 (.pointer (some ⟨wr.heap.size, 0, none⟩)) (fun x => x.out == s) (wr.alloc (.cells #[S s] 9 (0, 0))) (.slice (some ⟨b, off, none⟩) l.length cap) l (HRD.out.ext HX4.out) enters_Leaves1
       (fun w1 h1 x u' _ hu' => Leaves1_test w1 x u' wr.heap.size s hu' (h1.cellOf hk0 (fun h => h)))
      have HCF := Lib.hid hcf
      have HQ4 := Lib.hid (HQ.out.ext (Only.alloc (fun _ => False) wr (.cells #[S s] 9 (0, 0))))
      have HB4 : Hid (bs ≤ (wr.alloc (.cells #[S s] 9 (0, 0))).heap.size) := Lib.hid (by simp; have := HB.out; omega)
      have hst := ins_step (leafB l) hs
      have hfl : (A ++ (ins.take t).filter (leafB l)).length ≤ 1000000 := by
       have h1 := List.length_filter_le (leafB l) (ins.take t)
       rw [List.length_take] at h1
       rw [List.length_append]
       have := HAL.out
       omega
      have HFL := Lib.hid hfl
      have HK0 := Lib.hid hk0
      clear hcell hs hcf hfl HQ HX HB hk0
      cases hmd : (l.any fun x => x.out == s) with
      | true =>
       rw [hmd] at HCF
       have hlf : leafB l s = false := by unfold leafB madeB; rw [hmd]; rfl
       rw [hlf, if_neg (by decide), List.append_nil] at hst
       rw [← hst] at HQ4
       clear hst hmd hlf hil
       go_wp2_with fail
       refine (HCF.out).mono ?_
       rintro e w4 ⟨rfl, ho⟩
       have HX5 := Lib.hid (HX4.out.then ho)
       have HQ5 := Lib.hid (HQ4.out.ext ho)
       have HB5 := Lib.hid (Nat.le_trans HB4.out ho.size)
       clear ho
       go_wp2_with fail
       go_roundw
       case rel => exact ⟨t + 1, _, rfl, by omega, by go_num, HQ5, HX5, HB5⟩
       case measure => simp [intOf]; omega
      | false =>
       rw [hmd] at HCF
       have hlf : leafB l s = true := by unfold leafB madeB; rw [hmd]; rfl
       rw [hlf, if_pos rfl] at hst
       have HST2 : Hid (A ++ (ins.take (t + 1)).filter (leafB l) = (A ++ (ins.take t).filter (leafB l)) ++ [s]) := Lib.hid (by rw [hst, List.append_assoc])
       generalize A ++ (ins.take t).filter (leafB l) = AT at HQ4 HFL HST2
       clear hst hmd hlf hil
       go_wp2_with fail
       refine (HCF.out).mono ?_
       rintro e w4 ⟨rfl, ho⟩
       have HX5 := Lib.hid (HX4.out.then ho)
       have HQ5 := Lib.hid (HQ4.out.ext ho)
       have HB5 := Lib.hid (Nat.le_trans HB4.out ho.size)
       have HHO := Lib.hid ho
       clear ho
       have f0 := HHO.out.cellOf HK0.out (fun h => h)
       go_wp2_with (at_builtin; refine wpText rfl (.tmp 32) (.tmp 34) w bs _ AT s w4 rfl rfl rfl rfl HQ5.out HFL.out HB5.out HX5.out HBS.out.1 ?_; intro g5 cap5 w5 HR5 HX6 HG5; have HB6 : Hid (bs ≤ w5.heap.size) := Lib.hid (Nat.le_trans HB5.out (Only.of_grown HG5.out).size))
       go_roundw
       case rel => exact ⟨t + 1, _, rfl, by omega, by go_num, by rw [HST2.out]; exact HR5, HX6, HB6⟩
       case measure => simp [intOf]; omega
     ·have hilz : ¬ (t : Int) < (ins.length : Int) := by omega
      rw [List.take_of_length_le (by omega), ← HST.out] at HQ
      clear hil ht
      go_wp2_with fail
      go_roundw
      case rel => exact ⟨j + 1, _, rfl, by omega, by go_num, HQ, HX, HB⟩
      case measure => simp [intOf]; omega
   ·have hltz : ¬ (j : Int) < (l.length : Int) := by omega
    obtain rfl : j = l.length := by omega
    have hlen := HLL.out l.length
    have hl8 : (lvs l l.length).length ≤ 1000000 := by
     have : l.length * 20000 ≤ 40 * 20000 := Nat.mul_le_mul_right _ h40
     omega
    have HL8 := Lib.hid hl8
    clear hlen hl8 hlt hj
    generalize lvs l l.length = X at *
    have hso := sort_row wr bs qv X HQ.out HL8.out
    have HSO := Lib.hid hso
    obtain ⟨aq, cq, hqf, _, _, _⟩ := HQ.out.rd
    clear hso
    subst hqf
    go_wp2_with fail
    refine (HSO.out).mono ?_
    rintro e w5 ⟨rfl, hr5, ho5⟩
    have HR5 := Lib.hid hr5
    have HX5 := Lib.hid (HX.out.trans ho5 (fun _ _ h => h) (fun i hi e => by have := HQ.out.base i e; have := HBS.out; omega))
    have HB5 := Lib.hid (Nat.le_trans HB.out ho5.size)
    clear hr5 ho5
    have HSL : Hid ((sortB X).length ≤ 1000000) := Lib.hid (by have e : (sortB X).length = X.length := List.length_mergeSort _; rw [e]; exact HL8.out)
    have HCO := Lib.hid (compact_row w5 bs _ (sortB X) HR5.out HSL.out)
    go_wp2_with fail
    refine (HCO.out).mono ?_
    rintro e w6 ⟨v6, rfl, hr6, ho6⟩
    have HR6 := Lib.hid hr6
    have HX6 := Lib.hid (HX5.out.trans ho6 (fun _ _ h => h) (fun i hi e => by have := HR5.out.base i e; have := HBS.out; omega))
    clear hr6 ho6
    go_wp2_with fail
    go_ret2
    exact HFIN.out _ _ ⟨_, _, rfl, by rw [HO.out]; exact rowDown HR6.out HBS.out.1, .inl ⟨HN0.out, rfl⟩, HX6.out⟩
 ·have HN0 := Lib.hid h0
  have HO : Hid (O = []) := Lib.hid (by rw [hO]; exact if_pos h0)
  clear h0 hO
  go_enter Tryz.func200, Tryz.ntmps200
  go_wp2_with fail
  refine HSH.out.mono ?_
  rintro e w1 ⟨ev, rfl, he, ho⟩
  obtain ⟨t, p, rfl⟩ := he.some HN0.out
  have HX1 := Lib.hid ho
  have HEE := Lib.hid he
  clear he ho
  go_wp2_with fail
  go_ret2
  exact HFIN.out _ _ ⟨_, _, rfl, by rw [HO.out]; exact Row.nil _ _, HEE.out, HX1.out⟩
end Go.Proofs.YtnmhaipjfpongacGreatDoor
