/- Texts of this seat laid together for one claim: Z4, Z5, Z12. No condition of its own: what each proves stands with its theorems. -/
import Derived.Test.YtnmhaipjfpongacGreatDoorSA24
namespace Go.Proofs.YtnmhaipjfpongacGreatDoor
open Go.ChangeShapes Go.WideShapes Go.ChangeAt Go.RowKit
open Go.MapKept (Stamped)
open Go.ChangeMaps (setBlock)

theorem needs_iff {E : BE} {o : List Nat} {is : Nat → Bool} (h : BWell E o is) {i : Nat} (hi : i ∈ E.sm) {k : Nat} : k ∈ E.needs (E.rule i).ins ↔ k ∈ E.sm ∧ E.nd i k = true := by
 constructor
 ·intro hk
  obtain ⟨h1, h2⟩ := needs_mem hk
  exact ⟨h1, (need_iff (h.lt i hi) (h.lt k h1)).2 h2⟩
 ·rintro ⟨h1, h2⟩
  have h3 := (need_iff (h.lt i hi) (h.lt k h1)).1 h2
  refine List.mem_filterMap.2 ⟨_, h3, ?_⟩
  rcases h.input hi h3 with ⟨k', hk', _, h4, h5, _⟩ | ⟨h4, _⟩
  ·rw [h5]
   have := nodup_inj h.right.2.2 (i := k') (j := k) (x := (E.rule k).out) (by rw [List.getElem?_map, BE.rule_at (h.lt k' hk'), Option.map_some, h4]) (by rw [List.getElem?_map, BE.rule_at (h.lt k h1)]; rfl)
   rw [this]
  ·exact absurd rfl (by_none h4 k h1)
theorem needs_anyP {E : BE} {o : List Nat} {is : Nat → Bool} (h : BWell E o is) {i : Nat} (hi : i ∈ E.sm) (f : Nat → Bool) : (E.needs (E.rule i).ins).any f = true ↔ ∃ k ∈ E.sm, E.nd i k = true ∧ f k = true := by
 rw [List.any_eq_true]
 constructor
 ·rintro ⟨k, hk, hf⟩
  obtain ⟨h1, h2⟩ := (needs_iff h hi).1 hk
  exact ⟨k, h1, h2, hf⟩
 ·rintro ⟨k, h1, h2, hf⟩
  exact ⟨k, (needs_iff h hi).2 ⟨h1, h2⟩, hf⟩

def onBlk (E : BE) (K : BK) (q : Nat → Bool) (b : Nat) : Bool := E.sm.any fun k => K.blk k == b && q k
theorem onBlk_eq {E : BE} {K : BK} {q : Nat → Bool} (hj : ∀ i ∈ E.sm, ∀ j ∈ E.sm, K.blk i = K.blk j → i = j) {k : Nat} (hk : k ∈ E.sm) : onBlk E K q (K.blk k) = q k := by
 unfold onBlk
 rw [Bool.eq_iff_iff, List.any_eq_true]
 constructor
 ·rintro ⟨j, h1, h2⟩
  rw [Bool.and_eq_true, beq_iff_eq] at h2
  rw [← hj j h1 k hk h2.1]
  exact h2.2
 ·intro h
  exact ⟨k, hk, by simp [h]⟩
theorem onBlk_any {E : BE} {K : BK} {q : Nat → Bool} (hj : ∀ i ∈ E.sm, ∀ j ∈ E.sm, K.blk i = K.blk j → i = j) {l : List Nat} (hl : ∀ k ∈ l, k ∈ E.sm) : (l.map K.blk).any (onBlk E K q) = l.any q := by
 induction l with
 | nil => rfl
 | cons x l ih => rw [List.map_cons, List.any_cons, List.any_cons, onBlk_eq hj (hl x (.head _)), ih fun k hk => hl k (.tail _ hk)]

theorem enters_ready1 : ∀ args w, (callFunc 187 args).run Tryz.prog w = .ok (.enter 187 args) w := fun args w => by kernel_rfl
theorem enters_fail1 : ∀ args w, (callFunc 188 args).run Tryz.prog w = .ok (.enter 188 args) w := fun args w => by kernel_rfl
section
variable {w : World} {P : Nat → Addr} {base : Nat} {E : BE} {K : BK} {s : BS}
theorem ready1_test (h : BldAt w P base E K s) {k : Nat} (hk : k ∈ E.sm) : Calls Tryz.prog 187 #[PTR (K.blk k)] w (RetE (.bool (s.st k != 2)) w) := by
 have c := (h.stepCell hk 4).trans (rfl : _ = some (IN (s.st k)))
 obtain ⟨q, hq⟩ : ∃ q, (((s.st k : Nat) : Int) != 2) = q := ⟨_, rfl⟩
 have hq2 : (s.st k != 2) = q := by rw [← hq, Bool.eq_iff_iff, bne_iff_ne, bne_iff_ne]; omega
 rw [hq2]
 clear h hq2
 go_enter Tryz.func187, Tryz.ntmps187
 go_wp2_with fail
 go_ret
 exact ⟨rfl, Only.refl _ _⟩
theorem fail1_test (h : BldAt w P base E K s) {k : Nat} (hk : k ∈ E.sm) : Calls Tryz.prog 188 #[PTR (K.blk k)] w (RetE (.bool (decide (3 ≤ s.st k))) w) := by
 have c := (h.stepCell hk 4).trans (rfl : _ = some (IN (s.st k)))
 by_cases h3 : 3 ≤ s.st k
 ·have hz : (3 : Int) ≤ ((s.st k : Nat) : Int) := by omega
  rw [decide_eq_true h3]
  clear h h3
  go_enter Tryz.func188, Tryz.ntmps188
  go_wp2_with fail
  go_ret
  exact ⟨rfl, Only.refl _ _⟩
 ·have hz : ¬ (3 : Int) ≤ ((s.st k : Nat) : Int) := by omega
  rw [decide_eq_false h3]
  clear h h3
  go_enter Tryz.func188, Tryz.ntmps188
  go_wp2_with fail
  go_ret
  exact ⟨rfl, Only.refl _ _⟩
end

set_option maxRecDepth 100000 in
set_option maxHeartbeats 2000000 in
theorem ready_any (w : World) (P : Nat → Addr) (base : Nat) (E : BE) (K : BK) (s : BS) (o : List Nat) (is : Nat → Bool) (i : Nat) (hi : i ∈ E.sm) (h : BldAt w P base E K s) (hW : BWell E o is) (hl : (E.rule i).ins.length ≤ 900000) :
  Calls Tryz.prog 120 #[PTR K.b, PTR (K.blk i)] w (RetE (.bool (readyP E s i)) w) := by
 have c := (h.stepCell hi 4).trans (rfl : _ = some (IN (s.st i)))
 have HB := Lib.hid h
 by_cases h1 : s.st i = 1
 ·have HN := Lib.hid (needs_any w P base E K s i hi h hl)
  have hsub : ∀ k ∈ E.needs (E.rule i).ins, k ∈ E.sm := fun k hk => (needs_mem hk).1
  have hr : readyP E s i = !(E.needs (E.rule i).ins).any fun k => s.st k != 2 := by
   rw [Bool.eq_iff_iff, ready_iff, Bool.not_eq_true', Bool.eq_false_iff, Ne, needs_anyP hW hi]
   constructor
   ·rintro ⟨_, h2⟩ ⟨k, hk, hn, hf⟩
    rw [h2 k hk hn] at hf
    cases hf
   ·intro h2
    refine ⟨h1, fun k hk hn => Classical.byContradiction fun h3 => h2 ⟨k, hk, hn, bne_iff_ne.2 h3⟩⟩
  rw [hr]
  have HCT := Lib.hid (fun (w1 : World) (v1 : Value) (hx : Ext w w1) (hv : Rd PTR w1 v1 ((E.needs (E.rule i).ins).map K.blk)) =>
   containsFunc_S0 187 (onBlk E K fun k => s.st k != 2) w1 v1 _ hv enters_ready1 (fun w2 hx2 x hxm => by
    obtain ⟨k, hk, rfl⟩ := List.mem_map.1 hxm
    rw [onBlk_eq h.inj (hsub k hk)]
    exact ready1_test (h.ext (hx.then hx2)) (hsub k hk)))
  have HAN := Lib.hid (onBlk_any (q := fun k => s.st k != 2) h.inj hsub)
  replace c : w.cell? ⟨K.blk i, 4, none⟩ = some (.int .i64 1) := by rw [c, h1]; rfl
  generalize (E.needs (E.rule i).ins).any (fun k => s.st k != 2) = q at HAN ⊢
  clear h h1 hr hsub hi hl hW
  go_enter Tryz.func120, Tryz.ntmps120
  go_wp2_with fail
  refine HN.out.mono ?_
  rintro e w1 ⟨v1, rfl, hrow, ho⟩
  have HX1 := Lib.hid ho
  have hct := HCT.out w1 v1 ho hrow.rd
  rw [HAN.out] at hct
  have HC := Lib.hid hct
  obtain ⟨a1, n1, rfl, _, _, _⟩ := hrow.rd
  rw [List.length_map] at HC
  clear hrow ho hct
  go_wp2_with fail
  refine (HC.out).mono ?_
  rintro e w2 ⟨rfl, ho⟩
  have HX2 := Lib.hid (HX1.out.then ho)
  clear ho
  go_wp2_with fail
  go_ret
  exact ⟨rfl, HX2.out⟩
 ·have hr : readyP E s i = false := by
   unfold readyP
   rw [beq_eq_false_iff_ne.2 h1]
   rfl
  rw [hr]
  have hz : (((s.st i : Nat) : Int) == 1) = false := beq_eq_false_iff_ne.2 (by omega)
  clear h h1 hr hi hl hW
  go_enter Tryz.func120, Tryz.ntmps120
  go_wp2_with fail
  go_ret
  exact ⟨rfl, Only.refl _ _⟩

theorem next_only {P : Program} {w : World} {ty : TypeId} {r bm clock : Nat} {seen : Array Nat} {es : Array MapEntry} (hr : w.heap[r]? = some (.mapIter (some bm) clock seen clock)) (hb : w.heap[bm]? = some (.map es clock)) (hbr : bm ≠ r) (hst : Stamped es clock) :
  ((leftOf es seen).size = 0 ∧ (Instr.next (.pointer (some ⟨r, 0, none⟩)) false ty).run P w = .ok (.tuple #[.bool false]) w) ∨
  ∃ e ∈ (leftOf es seen).toList, ∃ w1 : World, Only (fun i => i = r) w w1 ∧ w1.heap[r]? = some (.mapIter (some bm) clock (seen.push e.born) clock) ∧
   (Instr.next (.pointer (some ⟨r, 0, none⟩)) false ty).run P w = .ok (.tuple #[.bool true, e.key, e.val]) w1 ∧ (Instr.entry (.pointer (some ⟨r, 0, none⟩))).run P w1 = .ok (.tuple #[e.key, e.val]) w1 := by
 rcases run_next_at (P := P) w ty r bm clock clock seen es clock hr hb hst.1 (Nat.le_refl _) with h | ⟨e, he, w1, hw, hrun⟩
 ·exact .inl h
 ·have hx1 : Only (fun i => i = r) w w1 := by rcases hw with rfl | rfl; exact Only.refl _ _; exact Only.drew _ _
  have hh1 : w1.heap = w.heap := by rcases hw with rfl | rfl <;> rfl
  have hlr : r < w1.heap.size := by rw [hh1]; exact lt_of_heap hr
  have hr1 : (setBlock w1 r (.mapIter (some bm) clock (seen.push e.born) clock)).heap[r]? = some (.mapIter (some bm) clock (seen.push e.born) clock) := by
   simp [setBlock, hlr]
  have hb1 : (setBlock w1 r (.mapIter (some bm) clock (seen.push e.born) clock)).heap[bm]? = some (.map es clock) := by
   have : w1.heap[bm]? = some (.map es clock) := by rw [hh1]; exact hb
   simp only [setBlock]
   rw [Array.getElem?_setIfInBounds_ne (Ne.symm hbr)]
   exact this
  exact .inr ⟨e, he, _, hx1.then (only_setBlock w1 r _), hr1, hrun, run_entry_at _ r bm clock seen es clock e hr1 hb1 (mem_left he).1 hst.2.1⟩

theorem rise_sort {l k : List Nat} (hn : l.Nodup) (hm : ∀ x, x ∈ l ↔ x ∈ k) (hk : k.Pairwise fun x y => x < y) : sortN l = k := by
 have hp : l.Perm k := (List.perm_ext_iff_of_nodup hn (hk.imp fun h => Nat.ne_of_lt h)).2 hm
 have hes : k.Pairwise fun x y => decide (x ≤ y) = true := hk.imp fun h => decide_eq_true (Nat.le_of_lt h)
 have hss : (sortN l).Pairwise fun x y => decide (x ≤ y) = true := by
  unfold sortN
  refine List.pairwise_mergeSort (le := fun x y : Nat => decide (x ≤ y)) (fun a b c h1 h2 => ?_) (fun a b => ?_) _
  ·exact decide_eq_true (Nat.le_trans (of_decide_eq_true h1) (of_decide_eq_true h2))
  ·rcases Nat.le_total a b with h | h
   ·rw [decide_eq_true h]; rfl
   ·rw [decide_eq_true h, Bool.or_true]
 exact List.Perm.eq_of_pairwise (fun a b _ _ h1 h2 => Nat.le_antisymm (of_decide_eq_true h1) (of_decide_eq_true h2)) hss hes ((List.mergeSort_perm _ _).trans hp)

structure Ents (E : BE) (K : BK) (es : Array MapEntry) : Prop where
 perm : (es.toList.map fun e => (e.key, e.val)).Perm ((E.sm.map fun (i : Nat) => ((i : Int), K.blk i)).map fun p => (I p.1, PTR p.2))
 nodup : E.sm.Nodup
theorem Ents.of {E : BE} {K : BK} {es : Array MapEntry} (h : Ents E K es) {e : MapEntry} (he : e ∈ es.toList) : ∃ k ∈ E.sm, e.key = IN k ∧ e.val = PTR (K.blk k) := by
 have := h.perm.mem_iff.1 (List.mem_map.2 ⟨e, he, rfl⟩)
 obtain ⟨p, hp, e1⟩ := List.mem_map.1 this
 obtain ⟨k, hk, rfl⟩ := List.mem_map.1 hp
 exact ⟨k, hk, (Prod.mk.inj e1).1.symm, (Prod.mk.inj e1).2.symm⟩
theorem Ents.to {E : BE} {K : BK} {es : Array MapEntry} (h : Ents E K es) {k : Nat} (hk : k ∈ E.sm) : ∃ e ∈ es.toList, e.key = IN k ∧ e.val = PTR (K.blk k) := by
 have := h.perm.mem_iff.2 (List.mem_map.2 ⟨((k : Int), K.blk k), List.mem_map.2 ⟨k, hk, rfl⟩, rfl⟩)
 obtain ⟨e, he, e1⟩ := List.mem_map.1 this
 exact ⟨e, he, (Prod.mk.inj e1).1, (Prod.mk.inj e1).2⟩
theorem nodup_mapI : ∀ {l : List Nat}, l.Nodup → (l.map IN).Nodup
 | [], _ => List.nodup_nil
 | x :: l, h => by
  rw [List.nodup_cons] at h
  rw [List.map_cons, List.nodup_cons]
  refine ⟨fun hm => ?_, nodup_mapI h.2⟩
  obtain ⟨y, hy, e⟩ := List.mem_map.1 hm
  have : (y : Int) = (x : Int) := by simpa [IN] using e
  have : y = x := by omega
  exact h.1 (this ▸ hy)
theorem Ents.key {E : BE} {K : BK} {es : Array MapEntry} (h : Ents E K es) {e e' : MapEntry} (he : e ∈ es.toList) (he' : e' ∈ es.toList) (hk : e.key = e'.key) : e = e' := by
 have hn : (es.toList.map (·.key)).Nodup := by
  have h1 := h.perm.map (·.1)
  rw [List.map_map, List.map_map, List.map_map] at h1
  have h2 : (es.toList.map (·.key)).Perm (E.sm.map IN) := h1
  exact h2.nodup_iff.2 (nodup_mapI h.nodup)
 obtain ⟨i, hi⟩ := List.getElem?_of_mem he
 obtain ⟨j, hj⟩ := List.getElem?_of_mem he'
 have hij : i = j := nodup_inj hn (i := i) (j := j) (x := e.key) (by rw [List.getElem?_map, hi]; rfl) (by rw [List.getElem?_map, hj, hk]; rfl)
 subst hij
 rw [hi] at hj
 exact Option.some.inj hj

structure Taken (E : BE) (es : Array MapEntry) (p : Nat → Bool) (seen : Array Nat) (ks : List Nat) : Prop where
 nodup : ks.Nodup
 mem : ∀ k, k ∈ ks ↔ k ∈ E.sm ∧ p k = true ∧ ∃ e ∈ es.toList, e.key = IN k ∧ seen.contains e.born = true
theorem Taken.start (E : BE) (es : Array MapEntry) (p : Nat → Bool) : Taken E es p #[] [] := ⟨List.nodup_nil, fun k => by simp⟩
theorem IN_inj {a b : Nat} (h : IN a = IN b) : a = b := by
 have : (a : Int) = (b : Int) := by simpa [IN] using h
 omega
theorem Taken.skip {E : BE} {K : BK} {es : Array MapEntry} {p : Nat → Bool} {seen : Array Nat} {ks : List Nat} (h : Taken E es p seen ks) (_hE : Ents E K es) {clock : Nat} (hst : Stamped es clock) {e : MapEntry} (he : e ∈ (leftOf es seen).toList) {k : Nat} (hk : e.key = IN k) (hp : p k = false) : Taken E es p (seen.push e.born) ks := by
 refine ⟨h.nodup, fun j => ?_⟩
 rw [h.mem]
 constructor
 ·rintro ⟨h1, h2, e', h3, h4, h5⟩
  exact ⟨h1, h2, e', h3, h4, by rw [contains_push, h5]; rfl⟩
 ·rintro ⟨h1, h2, e', h3, h4, h5⟩
  refine ⟨h1, h2, e', h3, h4, ?_⟩
  rw [contains_push] at h5
  rcases Bool.or_eq_true _ _ ▸ h5 with h6 | h6
  ·exact h6
  ·have := born_inj hst.2.1 h3 (mem_left he).1 (beq_iff_eq.1 h6)
   subst this
   rw [hk] at h4
   rw [← IN_inj h4, hp] at h2
   cases h2
theorem Taken.push {E : BE} {K : BK} {es : Array MapEntry} {p : Nat → Bool} {seen : Array Nat} {ks : List Nat} (h : Taken E es p seen ks) (hE : Ents E K es) {clock : Nat} (hst : Stamped es clock) {e : MapEntry} (he : e ∈ (leftOf es seen).toList) {k : Nat} (hks : k ∈ E.sm) (hk : e.key = IN k) (hp : p k = true) : Taken E es p (seen.push e.born) (ks ++ [k]) := by
 have hnew : k ∉ ks := fun hm => by
  obtain ⟨_, _, e', h3, h4, h5⟩ := (h.mem k).1 hm
  have := hE.key h3 (mem_left he).1 (h4.trans hk.symm)
  subst this
  rw [(mem_left he).2] at h5
  cases h5
 refine ⟨List.nodup_append.2 ⟨h.nodup, List.nodup_cons.2 ⟨by simp, List.nodup_nil⟩, fun a ha b hb e2 => by rw [List.mem_singleton] at hb; subst hb; subst e2; exact hnew ha⟩, fun j => ?_⟩
 rw [List.mem_append, List.mem_singleton, h.mem]
 constructor
 ·rintro (⟨h1, h2, e', h3, h4, h5⟩ | rfl)
  ·exact ⟨h1, h2, e', h3, h4, by rw [contains_push, h5]; rfl⟩
  ·exact ⟨hks, hp, e, (mem_left he).1, hk, by rw [contains_push]; simp⟩
 ·rintro ⟨h1, h2, e', h3, h4, h5⟩
  rw [contains_push] at h5
  rcases Bool.or_eq_true _ _ ▸ h5 with h6 | h6
  ·exact .inl ⟨h1, h2, e', h3, h4, h6⟩
  ·have := born_inj hst.2.1 h3 (mem_left he).1 (beq_iff_eq.1 h6)
   subst this
   rw [hk] at h4
   exact .inr (IN_inj h4).symm
theorem Taken.all {E : BE} {K : BK} {es : Array MapEntry} {p : Nat → Bool} {seen : Array Nat} {ks : List Nat} (h : Taken E es p seen ks) (hE : Ents E K es) (hr : E.sm.Pairwise fun x y => x < y) (h0 : (leftOf es seen).size = 0) : sortN ks = E.sm.filter p := by
 refine rise_sort h.nodup (fun k => ?_) (hr.filter _)
 rw [h.mem, List.mem_filter]
 constructor
 ·rintro ⟨h1, h2, _⟩; exact ⟨h1, h2⟩
 ·rintro ⟨h1, h2⟩
  obtain ⟨e, he, h3, _⟩ := hE.to h1
  exact ⟨h1, h2, e, he, h3, all_seen es seen h0 e he⟩
theorem Taken.len {E : BE} {es : Array MapEntry} {p : Nat → Bool} {seen : Array Nat} {ks : List Nat} (h : Taken E es p seen ks) : ks.length ≤ E.sm.length := nodup_len h.nodup fun k hk => ((h.mem k).1 hk).1
end Go.Proofs.YtnmhaipjfpongacGreatDoor

namespace Go.Proofs.YtnmhaipjfpongacGreatDoor
open Go.ChangeShapes Go.WideShapes Go.ChangeAt Go.RowKit
open Go.MapKept (Stamped)
open Go.ChangeMaps (setBlock)

def RetNs (l : List Nat) (w : World) (e : Ending) (w' : World) : Prop := ∃ v, e = .returned v ∧ RowI w.heap.size w' v l ∧ Ext w w'

set_option maxRecDepth 100000 in
set_option maxHeartbeats 4000000 in
theorem numbersM_any (g : Nat) (w : World) (P : Nat → Addr) (base : Nat) (E : BE) (K : BK) (s : BS) (h : BldAt w P base E K s) (p : Nat → Bool) (hr : E.sm.Pairwise fun x y => x < y) (hl : E.sm.length ≤ 1000) (eg : ∀ args w, (callFunc g args).run Tryz.prog w = .ok (.enter g args) w)
  (hp : ∀ w1, Ext w w1 → ∀ k ∈ E.sm, Calls Tryz.prog g #[PTR K.b, PTR (K.blk k)] w1 (RetE (.bool (p k)) w1)) :
  Calls Tryz.prog 138 #[PTR K.b, .func (.func g) #[PTR K.b] #[]] w (RetNs (E.sm.filter p) w) := by
 have c1 := (h.cell 1).trans (rfl : _ = some (Value.map (some K.lb)))
 obtain ⟨es, clock, hb, hpm, _, _, hst⟩ := h.steps
 have hrg := run_range_map (P := Tryz.prog) w 184 3 187 K.lb es clock Tryz.underlying184 hb
 have HEN : Hid (Ents E K es) := Lib.hid ⟨hpm, hr.imp fun h => Nat.ne_of_lt h⟩
 have HB := Lib.hid hb
 have HS := Lib.hid hst
 have HP := Lib.hid hp
 have HR := Lib.hid hr
 have HL := Lib.hid hl
 have hmr : K.lb ≠ w.heap.size := Nat.ne_of_lt (lt_of_heap hb)
 have HMR := Lib.hid hmr
 clear h hb hpm hst hp hr hl hmr
 go_enter Tryz.func138, Tryz.ntmps138
 go_wp2_with fail
 go_loopw [5, 6, 7] (fun q _ _ w' => ∃ (seen : Array Nat) (qv : Value) (ks : List Nat), qv = q ∧ Hid (Ext w w') ∧ Hid (w'.heap[w.heap.size]? = some (.mapIter (some K.lb) clock seen clock)) ∧ Hid (RowI (w.heap.size + 1) w' qv ks) ∧ Hid (Taken E es p seen ks)) (fun _ _ _ w' => (leftOf es (w'.iterSeen w.heap.size)).size)
 case atStart => exact ⟨#[], _, [], rfl, Lib.hid (Only.alloc _ _ _), Lib.hid (MapKept.heap_alloc w _).1, Lib.hid (RowI.nil _ _), Lib.hid (Taken.start E es p)⟩
 case round =>
  clear hrg
  obtain ⟨seen, qv, ks, rfl, HX, HIT, HQ, HT⟩ := hrel
  have law := next_only (P := Tryz.prog) (ty := 0) HIT.out (HX.out.heapOf HB.out (fun h => h)) HMR.out HS.out
  rcases law with ⟨h0, hrun⟩ | ⟨e, he, w3, ho3, hr3, hrun, hen⟩
  ·have hso := sort_rowI wr (w.heap.size + 1) qv ks HQ.out (by have := HT.out.len; have := HL.out; omega)
   rw [HT.out.all HEN.out HR.out h0] at hso
   have HSO := Lib.hid hso
   clear hso h0
   rcases HQ.out.cases with ⟨rfl, hnil⟩ | ⟨g1, cp, rfl⟩
   ·clear hnil
    go_wp2_with fail
    refine HSO.out.mono ?_
    rintro e w6 ⟨rfl, hr6, ho6⟩
    have HF : Hid (Ext w w6) := Lib.hid (HX.out.trans ho6 (fun _ _ h => h) (fun i hi e => by cases e))
    have HR6 := Lib.hid (hr6.down (Nat.le_succ _))
    clear hr6 ho6
    go_wp2_with fail
    go_ret
    exact ⟨_, rfl, HR6.out, HF.out⟩
   ·go_wp2_with fail
    refine HSO.out.mono ?_
    rintro e w6 ⟨rfl, hr6, ho6⟩
    have HF : Hid (Ext w w6) := Lib.hid (HX.out.trans ho6 (fun _ _ h => h) (fun i hi e => by have := HQ.out.base i e; omega))
    have HR6 := Lib.hid (hr6.down (Nat.le_succ _))
    clear hr6 ho6
    go_wp2_with fail
    go_ret
    exact ⟨_, rfl, HR6.out, HF.out⟩
  ·obtain ⟨k, hks, hek, hev⟩ := HEN.out.of (mem_left he).1
   rw [hek, hev] at hrun hen
   have HE2 := Lib.hid he
   have HEK := Lib.hid hek
   have HKS := Lib.hid hks
   have hx3 : Ext w w3 := HX.out.trans ho3 (fun _ _ h => h) (fun i hi e => by omega)
   have HX3 := Lib.hid hx3
   have HIT3 := Lib.hid hr3
   have HQ3 : Hid (RowI (w.heap.size + 1) w3 qv ks) := Lib.hid (ho3.row HQ.out (fun i e e2 => by have := HQ.out.base i e; omega))
   have hpc := HP.out w3 hx3 k hks
   cases hpk : p k with
   | true =>
    rw [hpk] at hpc
    have HPC := Lib.hid hpc
    have HT3 := Lib.hid (HT.out.push HEN.out HS.out he hks hek hpk)
    have HKL : Hid (ks.length ≤ 1000000) := Lib.hid (by have := HT.out.len; have := HL.out; omega)
    clear he hek hev hks hx3 hr3 hpc hpk ho3
    go_wp2_with fail
    refine HPC.out.mono ?_
    rintro e1 w4 ⟨rfl, ho4⟩
    have HX4 := Lib.hid (HX3.out.then ho4)
    have HIT4 := Lib.hid (ho4.heapOf HIT3.out (fun h => h))
    have HQ4 := Lib.hid (HQ3.out.ext ho4)
    clear ho4
    go_wp2_with (at_builtin; refine wpNum rfl (.tmp 21) (.tmp 23) w (w.heap.size + 1) _ ks k w4 rfl rfl rfl rfl HQ4.out HKL.out (lt_of_heap HIT4.out) HX4.out (Nat.le_succ _) ?_; intro g5 cap5 w5 HR5 HX5 HG5; have HIT5 := Lib.hid ((Only.of_grown HG5.out).heapOf HIT4.out (fun e => by have := HQ4.out.base _ e; omega)))
    go_roundw
    case rel => exact ⟨_, _, _, rfl, HX5, HIT5, HR5, HT3⟩
    case measure =>
     rw [iterSeen_of HIT5.out, iterSeen_of HIT.out]
     exact left_shrinks es seen _ HE2.out
   | false =>
    rw [hpk] at hpc
    have HPC := Lib.hid hpc
    have HT3 := Lib.hid (HT.out.skip HEN.out HS.out he hek hpk)
    clear he hek hev hks hx3 hr3 hpc hpk ho3
    go_wp2_with fail
    refine HPC.out.mono ?_
    rintro e1 w4 ⟨rfl, ho4⟩
    have HX4 := Lib.hid (HX3.out.then ho4)
    have HIT4 := Lib.hid (ho4.heapOf HIT3.out (fun h => h))
    have HQ4 := Lib.hid (HQ3.out.ext ho4)
    clear ho4
    go_wp2_with fail
    go_roundw
    case rel => exact ⟨_, _, _, rfl, HX4, HIT4, HQ4, HT3⟩
    case measure =>
     rw [iterSeen_of HIT4.out, iterSeen_of HIT.out]
     exact left_shrinks es seen _ HE2.out

theorem enters_ready : ∀ args w, (callFunc 120 args).run Tryz.prog w = .ok (.enter 120 args) w := fun args w => by kernel_rfl

def readyL (E : BE) (s : BS) : List Nat := E.sm.filter (readyP E s)
section
variable {w : World} {P : Nat → Addr} {base : Nat} {E : BE} {K : BK} {s : BS} {o : List Nat} {is : Nat → Bool}
theorem readyL_any (h : BldAt w P base E K s) (hW : BWell E o is) (hl : ∀ i ∈ E.sm, (E.rule i).ins.length ≤ 900000) (hn : E.sm.length ≤ 1000) :
  Calls Tryz.prog 132 #[PTR K.b] w (RetNs (readyL E s) w) := by
 have HN := Lib.hid (numbersM_any 120 w P base E K s h (readyP E s) hW.rise hn enters_ready (fun w1 hx k hk => ready_any w1 P base E K s o is k hk (h.ext hx) hW (hl k hk)))
 change Hid (Calls _ _ _ _ (RetNs (readyL E s) w)) at HN
 generalize readyL E s = q at HN ⊢
 clear h hW hl hn
 go_enter Tryz.func132, Tryz.ntmps132
 go_wp2_with fail
 refine HN.out.mono ?_
 rintro e w1 ⟨v, rfl, hr, ho⟩
 have HR := Lib.hid hr
 have HO := Lib.hid ho
 obtain ⟨a, c, rfl, _, _, _⟩ := hr.rd
 clear hr ho
 go_wp2_with fail
 go_ret
 exact ⟨_, rfl, HR.out, HO.out⟩

end
end Go.Proofs.YtnmhaipjfpongacGreatDoor

namespace Go.Proofs.YtnmhaipjfpongacGreatDoor
open Go.ChangeShapes Go.WideShapes Go.ChangeAt Go.RowKit
open Go.MapKept (Stamped)
open Go.ChangeMaps (setBlock)

def cRan (s : BS) (k : Nat) : Bool := s.st k == 2 && !s.hit k
def cHit (s : BS) (k : Nat) : Bool := s.st k == 2 && s.hit k
def cFail (s : BS) (k : Nat) : Bool := s.st k == 3
def cLeft (s : BS) (k : Nat) : Bool := s.st k == 4
abbrev cntV (s : BS) (ks : List Nat) : Array Value := #[IN (ks.countP (cRan s)), IN (ks.countP (cHit s)), IN (ks.countP (cFail s)), IN (ks.countP (cLeft s))]
def CntIs (s : BS) (ks : List Nat) (a b c d : Nat) : Prop := a = ks.countP (cRan s) ∧ b = ks.countP (cHit s) ∧ c = ks.countP (cFail s) ∧ d = ks.countP (cLeft s)
theorem cnt_snoc {s : BS} {ks : List Nat} {a b c d k : Nat} (h : CntIs s ks a b c d) : CntIs s (ks ++ [k]) (a + if cRan s k then 1 else 0) (b + if cHit s k then 1 else 0) (c + if cFail s k then 1 else 0) (d + if cLeft s k then 1 else 0) := by
 obtain ⟨rfl, rfl, rfl, rfl⟩ := h
 unfold CntIs
 simp only [List.countP_append, List.countP_cons, List.countP_nil, Nat.zero_add]
 exact ⟨trivial, trivial, trivial, trivial⟩
theorem cnt_le {s : BS} {ks : List Nat} {a b c d : Nat} (h : CntIs s ks a b c d) : a ≤ ks.length ∧ b ≤ ks.length ∧ c ≤ ks.length ∧ d ≤ ks.length := by
 obtain ⟨rfl, rfl, rfl, rfl⟩ := h
 exact ⟨List.countP_le_length, List.countP_le_length, List.countP_le_length, List.countP_le_length⟩
theorem Taken.perm {E : BE} {K : BK} {es : Array MapEntry} {seen : Array Nat} {ks : List Nat} (h : Taken E es (fun _ => true) seen ks) (hE : Ents E K es) (h0 : (leftOf es seen).size = 0) : ks.Perm E.sm := by
 refine (List.perm_ext_iff_of_nodup h.nodup hE.nodup).2 fun k => ?_
 rw [h.mem]
 constructor
 ·rintro ⟨h1, _⟩; exact h1
 ·intro h1
  obtain ⟨e, he, h3, _⟩ := hE.to h1
  exact ⟨h1, rfl, e, he, h3, all_seen es seen h0 e he⟩
theorem cnt_perm {s : BS} {l ks : List Nat} {a b c d : Nat} (h : CntIs s ks a b c d) (hp : ks.Perm l) : #[IN a, IN b, IN c, IN d] = cntV s l := by
 obtain ⟨rfl, rfl, rfl, rfl⟩ := h
 rw [hp.countP_eq, hp.countP_eq, hp.countP_eq, hp.countP_eq]

def RetCnt (v : Array Value) (w : World) (e : Ending) (w' : World) : Prop := e = .returned (.agg v) ∧ Ext w w'
theorem in_succ (a : Nat) : (.int .i64 ((a : Int) + 1) : Value) = IN (a + 1) := by
 unfold IN
 push_cast
 rfl

theorem ext_setZ {w w' : World} (h : Ext w w') {b : Nat} (k : Nat) (v : Value) (hb : w.heap.size ≤ b) : Ext w (w'.setCell ⟨b, k, none⟩ v) := h.trans (Only.set (p := fun i => i = b) v rfl) (fun _ _ h => h) (fun i hi e => by omega)

set_option maxRecDepth 100000 in
set_option maxHeartbeats 8000000 in
theorem countB_any (w : World) (P : Nat → Addr) (base : Nat) (E : BE) (K : BK) (s : BS) (h : BldAt w P base E K s) (hr : E.sm.Pairwise fun x y => x < y) (hl : E.sm.length ≤ 1000) (hI : BInv E s) :
  Calls Tryz.prog 135 #[PTR K.b] w (RetCnt (cntV s E.sm) w) := by
 have hx2 : Ext w ((w.alloc (.cells #[.int .i64 0, .int .i64 0, .int .i64 0, .int .i64 0] 70 (0, 0))).alloc (.cells #[.int .i64 0, .int .i64 0, .int .i64 0, .int .i64 0] 70 (0, 0))) := (Only.alloc _ _ _).thenAlloc _
 have hsz : ((w.alloc (.cells #[.int .i64 0, .int .i64 0, .int .i64 0, .int .i64 0] 70 (0, 0))).alloc (.cells #[.int .i64 0, .int .i64 0, .int .i64 0, .int .i64 0] 70 (0, 0))).heap.size = w.heap.size + 2 := by simp
 obtain ⟨es, clock, hb, hpm, _, _, hst⟩ := h.steps
 have c1 := ((h.ext hx2).cell 1).trans (rfl : _ = some (Value.map (some K.lb)))
 have hrg := run_range_map (P := Tryz.prog) _ 184 3 187 K.lb es clock Tryz.underlying184 (hx2.heapOf hb (fun h => h))
 have HEN : Hid (Ents E K es) := Lib.hid ⟨hpm, hr.imp fun h => Nat.ne_of_lt h⟩
 have HB := Lib.hid hb
 have HS := Lib.hid hst
 have HL := Lib.hid hl
 have HBL := Lib.hid h
 have HI := Lib.hid hI
 have hlb := lt_of_heap hb
 have HMR : Hid (K.lb ≠ w.heap.size + 2) := Lib.hid (by omega)
 have HX3 : Hid (Ext w (((w.alloc (.cells #[.int .i64 0, .int .i64 0, .int .i64 0, .int .i64 0] 70 (0, 0))).alloc (.cells #[.int .i64 0, .int .i64 0, .int .i64 0, .int .i64 0] 70 (0, 0))).alloc (.mapIter (some K.lb) clock #[] clock))) := Lib.hid (hx2.thenAlloc _)
 have HRC3 : Hid ((((w.alloc (.cells #[.int .i64 0, .int .i64 0, .int .i64 0, .int .i64 0] 70 (0, 0))).alloc (.cells #[.int .i64 0, .int .i64 0, .int .i64 0, .int .i64 0] 70 (0, 0))).alloc (.mapIter (some K.lb) clock #[] clock)).heap[w.heap.size]? = some (.cells #[.int .i64 0, .int .i64 0, .int .i64 0, .int .i64 0] 70 (0, 0))) := Lib.hid (((Only.alloc (fun _ => False) _ _).thenAlloc _).heapOf (MapKept.heap_alloc w _).1 (fun h => h))
 have HCC3 : Hid ((((w.alloc (.cells #[.int .i64 0, .int .i64 0, .int .i64 0, .int .i64 0] 70 (0, 0))).alloc (.cells #[.int .i64 0, .int .i64 0, .int .i64 0, .int .i64 0] 70 (0, 0))).alloc (.mapIter (some K.lb) clock #[] clock)).heap[w.heap.size + 1]? = some (.cells #[.int .i64 0, .int .i64 0, .int .i64 0, .int .i64 0] 70 (0, 0))) := Lib.hid (by
  have h := (Only.alloc (fun _ => False) _ (.mapIter (some K.lb) clock #[] clock)).heapOf (MapKept.heap_alloc (w.alloc (.cells #[.int .i64 0, .int .i64 0, .int .i64 0, .int .i64 0] 70 (0, 0))) (.cells #[.int .i64 0, .int .i64 0, .int .i64 0, .int .i64 0] 70 (0, 0))).1 (fun h => h)
  simpa using h)
 have HIT3 : Hid ((((w.alloc (.cells #[.int .i64 0, .int .i64 0, .int .i64 0, .int .i64 0] 70 (0, 0))).alloc (.cells #[.int .i64 0, .int .i64 0, .int .i64 0, .int .i64 0] 70 (0, 0))).alloc (.mapIter (some K.lb) clock #[] clock)).heap[w.heap.size + 2]? = some (.mapIter (some K.lb) clock #[] clock)) := Lib.hid (by
  have h := (MapKept.heap_alloc ((w.alloc (.cells #[.int .i64 0, .int .i64 0, .int .i64 0, .int .i64 0] 70 (0, 0))).alloc (.cells #[.int .i64 0, .int .i64 0, .int .i64 0, .int .i64 0] 70 (0, 0))) (.mapIter (some K.lb) clock #[] clock)).1
  simpa using h)
 have HSZ := Lib.hid hsz
 clear h hb hpm hst hr hl hI hx2 hsz hlb
 go_enter Tryz.func135, Tryz.ntmps135
 go_wp2_with fail
 go_loopw [5] (fun _ w' => ∃ (seen : Array Nat) (ks : List Nat) (a b c d : Nat), Hid (Ext w w') ∧ Hid (w'.heap[w.heap.size + 2]? = some (.mapIter (some K.lb) clock seen clock)) ∧ Hid (w'.heap[w.heap.size + 1]? = some (.cells #[IN a, IN b, IN c, IN d] 70 (0, 0))) ∧ Hid (w'.heap[w.heap.size]? = some (.cells #[.int .i64 0, .int .i64 0, .int .i64 0, .int .i64 0] 70 (0, 0))) ∧ Hid (Taken E es (fun _ => true) seen ks) ∧ Hid (CntIs s ks a b c d)) (fun _ w' => (leftOf es (w'.iterSeen (w.heap.size + 2))).size)
 case atStart => exact ⟨#[], [], 0, 0, 0, 0, HX3, HIT3, HCC3, HRC3, Lib.hid (Taken.start E es (fun _ => true)), Lib.hid ⟨rfl, rfl, rfl, rfl⟩⟩
 case round =>
  clear hrg c1 HX3 HIT3 HCC3 HRC3
  obtain ⟨seen, ks, a, b, c, d, HX, HIT, HCC, HRC, HT, HCN⟩ := hrel
  have law := next_only (P := Tryz.prog) (ty := 0) HIT.out (HX.out.heapOf HB.out (fun h => h)) HMR.out HS.out
  rcases law with ⟨h0, hrun⟩ | ⟨e, he, w3, ho3, hr3, hrun, hen⟩
  ·have HEND := Lib.hid (cnt_perm HCN.out (HT.out.perm HEN.out h0))
   have q0 := (cell_of_heap HCC.out 0).trans (rfl : _ = some (IN a))
   have q1 := (cell_of_heap HCC.out 1).trans (rfl : _ = some (IN b))
   have q2 := (cell_of_heap HCC.out 2).trans (rfl : _ = some (IN c))
   have q3 := (cell_of_heap HCC.out 3).trans (rfl : _ = some (IN d))
   have f0 := free_of_heap HRC.out 0
   have f1 := free_of_heap HRC.out 1
   have f2 := free_of_heap HRC.out 2
   have f3 := free_of_heap HRC.out 3
   have r0 := (cell_of_heap HRC.out 0).trans (rfl : _ = some (Value.int .i64 0))
   have r1 := (cell_of_heap HRC.out 1).trans (rfl : _ = some (Value.int .i64 0))
   have r2 := (cell_of_heap HRC.out 2).trans (rfl : _ = some (Value.int .i64 0))
   have r3 := (cell_of_heap HRC.out 3).trans (rfl : _ = some (Value.int .i64 0))
   clear h0
   go_wp2_with fail
   refine bodyPost_ret (v := .agg (cntV s E.sm)) ?_ rfl ⟨rfl, ext_setZ (ext_setZ (ext_setZ (ext_setZ HX.out _ _ (Nat.le_refl _)) _ _ (Nat.le_refl _)) _ _ (Nat.le_refl _)) _ _ (Nat.le_refl _)⟩
   have hres : Tryz.f135.results = #[.cell 2 70] := by kernel_rfl
   have h1 := heap_setCell_same HRC.out 0 (IN a)
   have h2 := heap_setCell_same h1 1 (IN b)
   have h3 := heap_setCell_same h2 2 (IN c)
   have h4 := heap_setCell_same h3 3 (IN d)
   have e0 := (cell_of_heap h4 0).trans (rfl : _ = some (IN a))
   have e1 := (cell_of_heap h4 1).trans (rfl : _ = some (IN b))
   have e2 := (cell_of_heap h4 2).trans (rfl : _ = some (IN c))
   have e3 := (cell_of_heap h4 3).trans (rfl : _ = some (IN d))
   rw [← HEND.out]
   clear h1 h2 h3 h4 q0 q1 q2 q3 f0 f1 f2 f3 r0 r1 r2 r3
   simp only [results, hres]
   go_simp
  ·obtain ⟨k, hks, hek, hev⟩ := HEN.out.of (mem_left he).1
   rw [hek, hev] at hrun hen
   have HE2 := Lib.hid he
   have HX3 : Hid (Ext w w3) := Lib.hid (HX.out.trans ho3 (fun _ _ h => h) (fun i hi e => by omega))
   have HIT3 := Lib.hid hr3
   have hcc3 := ho3.heapOf HCC.out (by omega)
   have HRC3 := Lib.hid (ho3.heapOf HRC.out (by omega))
   have HT3 := Lib.hid (HT.out.push HEN.out HS.out he hks hek rfl)
   have hcn3 := cnt_snoc (k := k) HCN.out
   have hle := cnt_le HCN.out
   have hlen : ks.length ≤ 1000 := by have := HT.out.len; have := HL.out; omega
   have t4 := (HX3.out.cellOf (HBL.out.stepCell hks 4) (fun h => h)).trans (rfl : _ = some (IN (s.st k)))
   have t5 := (HX3.out.cellOf (HBL.out.stepCell hks 5) (fun h => h)).trans (rfl : _ = some (Value.bool (s.st k == 2 && s.hit k)))
   have q0 := (cell_of_heap hcc3 0).trans (rfl : _ = some (IN a))
   have q1 := (cell_of_heap hcc3 1).trans (rfl : _ = some (IN b))
   have q2 := (cell_of_heap hcc3 2).trans (rfl : _ = some (IN c))
   have q3 := (cell_of_heap hcc3 3).trans (rfl : _ = some (IN d))
   have g0 := free_of_heap hcc3 0
   have g1 := free_of_heap hcc3 1
   have g2 := free_of_heap hcc3 2
   have g3 := free_of_heap hcc3 3
   have hz0 : (a : Int) ≤ 1000 := by omega
   have hz1 : (b : Int) ≤ 1000 := by omega
   have hz2 : (c : Int) ≤ 1000 := by omega
   have hz3 : (d : Int) ≤ 1000 := by omega
   have hn4 := HI.out.rng k hks
   unfold cRan cHit cFail cLeft at hcn3
   have HCC3 := Lib.hid hcc3
   generalize s.st k = n at t4 t5 hcn3 hn4
   generalize s.hit k = hh at t5 hcn3
   clear he hek hev hks hr3 ho3 hcc3 hle hlen
   have hcs : (n = 2 ∧ hh = true) ∨ (n = 2 ∧ hh = false) ∨ n = 3 ∨ n = 4 ∨ n = 1 := by
    cases hh <;> simp <;> omega
   clear hn4
   rcases hcs with ⟨rfl, rfl⟩ | ⟨rfl, rfl⟩ | rfl | rfl | rfl
   ·have HCN3 : Hid (CntIs s (ks ++ [k]) a (b + 1) c d) := Lib.hid (by simpa using hcn3)
    clear hcn3
    have HCC4 : Hid ((w3.setCell ⟨w.heap.size + 1, 1, none⟩ (.int .i64 ((b : Int) + 1))).heap[w.heap.size + 1]? = some (.cells #[IN a, IN (b + 1), IN c, IN d] 70 (0, 0))) := Lib.hid ((heap_setCell_same HCC3.out 1 _).trans (by rw [in_succ]; rfl))
    have hs : Only (fun i => i = w.heap.size + 1) w3 (w3.setCell ⟨w.heap.size + 1, 1, none⟩ (.int .i64 ((b : Int) + 1))) := Only.set _ rfl
    have HRC4 := Lib.hid (hs.heapOf HRC3.out (by omega))
    have HIT4 := Lib.hid (hs.heapOf HIT3.out (by omega))
    have HX4 : Hid (Ext w (w3.setCell ⟨w.heap.size + 1, 1, none⟩ (.int .i64 ((b : Int) + 1)))) := Lib.hid (HX3.out.trans hs (fun _ _ h => h) (fun i hi e => by omega))
    clear hs
    clear HCC3 HRC3 HX3
    go_wp2_with fail
    go_roundw
    case rel => exact ⟨_, _, _, _, _, _, HX4, HIT4, HCC4, HRC4, HT3, HCN3⟩
    case measure =>
     rw [iterSeen_of HIT4.out, iterSeen_of HIT.out]
     exact left_shrinks es seen _ HE2.out
   ·have HCN3 : Hid (CntIs s (ks ++ [k]) (a + 1) b c d) := Lib.hid (by simpa using hcn3)
    clear hcn3
    have HCC4 : Hid ((w3.setCell ⟨w.heap.size + 1, 0, none⟩ (.int .i64 ((a : Int) + 1))).heap[w.heap.size + 1]? = some (.cells #[IN (a + 1), IN b, IN c, IN d] 70 (0, 0))) := Lib.hid ((heap_setCell_same HCC3.out 0 _).trans (by rw [in_succ]; rfl))
    have hs : Only (fun i => i = w.heap.size + 1) w3 (w3.setCell ⟨w.heap.size + 1, 0, none⟩ (.int .i64 ((a : Int) + 1))) := Only.set _ rfl
    have HRC4 := Lib.hid (hs.heapOf HRC3.out (by omega))
    have HIT4 := Lib.hid (hs.heapOf HIT3.out (by omega))
    have HX4 : Hid (Ext w (w3.setCell ⟨w.heap.size + 1, 0, none⟩ (.int .i64 ((a : Int) + 1)))) := Lib.hid (HX3.out.trans hs (fun _ _ h => h) (fun i hi e => by omega))
    clear hs
    clear HCC3 HRC3 HX3
    go_wp2_with fail
    go_roundw
    case rel => exact ⟨_, _, _, _, _, _, HX4, HIT4, HCC4, HRC4, HT3, HCN3⟩
    case measure =>
     rw [iterSeen_of HIT4.out, iterSeen_of HIT.out]
     exact left_shrinks es seen _ HE2.out
   ·have HCN3 : Hid (CntIs s (ks ++ [k]) a b (c + 1) d) := Lib.hid (by simpa using hcn3)
    clear hcn3
    have HCC4 : Hid ((w3.setCell ⟨w.heap.size + 1, 2, none⟩ (.int .i64 ((c : Int) + 1))).heap[w.heap.size + 1]? = some (.cells #[IN a, IN b, IN (c + 1), IN d] 70 (0, 0))) := Lib.hid ((heap_setCell_same HCC3.out 2 _).trans (by rw [in_succ]; rfl))
    have hs : Only (fun i => i = w.heap.size + 1) w3 (w3.setCell ⟨w.heap.size + 1, 2, none⟩ (.int .i64 ((c : Int) + 1))) := Only.set _ rfl
    have HRC4 := Lib.hid (hs.heapOf HRC3.out (by omega))
    have HIT4 := Lib.hid (hs.heapOf HIT3.out (by omega))
    have HX4 : Hid (Ext w (w3.setCell ⟨w.heap.size + 1, 2, none⟩ (.int .i64 ((c : Int) + 1)))) := Lib.hid (HX3.out.trans hs (fun _ _ h => h) (fun i hi e => by omega))
    clear hs
    clear HCC3 HRC3 HX3
    go_wp2_with fail
    go_roundw
    case rel => exact ⟨_, _, _, _, _, _, HX4, HIT4, HCC4, HRC4, HT3, HCN3⟩
    case measure =>
     rw [iterSeen_of HIT4.out, iterSeen_of HIT.out]
     exact left_shrinks es seen _ HE2.out
   ·have HCN3 : Hid (CntIs s (ks ++ [k]) a b c (d + 1)) := Lib.hid (by simpa using hcn3)
    clear hcn3
    have HCC4 : Hid ((w3.setCell ⟨w.heap.size + 1, 3, none⟩ (.int .i64 ((d : Int) + 1))).heap[w.heap.size + 1]? = some (.cells #[IN a, IN b, IN c, IN (d + 1)] 70 (0, 0))) := Lib.hid ((heap_setCell_same HCC3.out 3 _).trans (by rw [in_succ]; rfl))
    have hs : Only (fun i => i = w.heap.size + 1) w3 (w3.setCell ⟨w.heap.size + 1, 3, none⟩ (.int .i64 ((d : Int) + 1))) := Only.set _ rfl
    have HRC4 := Lib.hid (hs.heapOf HRC3.out (by omega))
    have HIT4 := Lib.hid (hs.heapOf HIT3.out (by omega))
    have HX4 : Hid (Ext w (w3.setCell ⟨w.heap.size + 1, 3, none⟩ (.int .i64 ((d : Int) + 1)))) := Lib.hid (HX3.out.trans hs (fun _ _ h => h) (fun i hi e => by omega))
    clear hs
    clear HCC3 HRC3 HX3
    go_wp2_with fail
    go_roundw
    case rel => exact ⟨_, _, _, _, _, _, HX4, HIT4, HCC4, HRC4, HT3, HCN3⟩
    case measure =>
     rw [iterSeen_of HIT4.out, iterSeen_of HIT.out]
     exact left_shrinks es seen _ HE2.out
   ·have HCN3 : Hid (CntIs s (ks ++ [k]) a b c d) := Lib.hid (by simpa using hcn3)
    clear hcn3
    have HCC4 := HCC3
    have HRC4 := HRC3
    have HIT4 := HIT3
    have HX4 := HX3
    clear HCC3 HRC3 HX3
    go_wp2_with fail
    go_roundw
    case rel => exact ⟨_, _, _, _, _, _, HX4, HIT4, HCC4, HRC4, HT3, HCN3⟩
    case measure =>
     rw [iterSeen_of HIT4.out, iterSeen_of HIT.out]
     exact left_shrinks es seen _ HE2.out
end Go.Proofs.YtnmhaipjfpongacGreatDoor
