/- Texts of this seat laid together for one claim: Z6, Z7. No condition of its own: what each proves stands with its theorems. -/
import Derived.Test.YtnmhaipjfpongacGreatDoorSA25
namespace Go.Proofs.YtnmhaipjfpongacGreatDoor
open Go.ChangeShapes Go.WideShapes Go.ChangeAt Go.RowKit
open Go.MapKept (Stamped)
open Go.ChangeMaps (setBlock)

structure Spread (E : BE) (s1 s : BS) : Prop where
 st : ∀ k, s.st k = s1.st k ∨ (s.st k = 4 ∧ LeftP E s1 k)
 hit : s.hit = s1.hit
def waitN (E : BE) (s : BS) : Nat := (E.sm.filter fun k => s.st k == 1).length
def quietAt (E : BE) (s : BS) (k : Nat) : Prop := s.st k = 1 → ∀ j ∈ E.sm, E.nd k j = true → s.st j ≤ 2

theorem Spread.refl (E : BE) (s : BS) : Spread E s s := ⟨fun _ => .inl rfl, rfl⟩
theorem Spread.mark {E : BE} {s1 s : BS} (h : Spread E s1 s) {k : Nat} (hk : k ∈ E.sm) (h1 : s.st k = 1) {j : Nat} (hj : j ∈ E.sm) (hn : E.nd k j = true) (h3 : 3 ≤ s.st j) : Spread E s1 (setP s k 4) := by
 have hk1 : s1.st k = 1 := by
  rcases h.st k with e | ⟨e, _⟩ <;> omega
 have hl : LeftP E s1 k := by
  rcases h.st j with e | ⟨_, hl⟩
  ·exact .one hk hk1 hj hn (by omega)
  ·exact .more hk hk1 hj hn hl
 refine ⟨fun q => ?_, h.hit⟩
 show (if q = k then 4 else s.st q) = s1.st q ∨ ((if q = k then 4 else s.st q) = 4 ∧ LeftP E s1 q)
 by_cases e : q = k
 ·subst e; exact .inr ⟨if_pos rfl, hl⟩
 ·rw [if_neg e]; exact h.st q
theorem Spread.whole {E : BE} {s1 s : BS} (h : Spread E s1 s) (hq : ∀ k ∈ E.sm, quietAt E s k) : s = spreadP E s1 := by
 have key : ∀ k, LeftP E s1 k → s.st k = 4 := by
  intro k hl
  induction hl with
  | @one i j hi h1 hj hn h3 =>
   rcases h.st i with e | ⟨e, _⟩
   ·have := hq i hi (by omega) j hj hn
    rcases h.st j with e2 | ⟨e2, _⟩ <;> omega
   ·exact e
  | @more i j hi h1 hj hn _ ih =>
   rcases h.st i with e | ⟨e, _⟩
   ·have := hq i hi (by omega) j hj hn
    omega
   ·exact e
 have hst : s.st = (spreadP E s1).st := by
  funext k
  rcases spread_cases (E := E) (s := s1) k with ⟨h1, h2, _⟩ | ⟨h1, h2⟩
  ·rw [h2, key k h1]
  ·rw [h2]
   rcases h.st k with e | ⟨_, hl⟩
   ·exact e
   ·exact absurd hl h1
 cases s
 cases hs : spreadP E s1
 rw [hs] at hst
 have hh : (spreadP E s1).hit = s1.hit := rfl
 rw [hs] at hh
 simp only at hst hh
 have := h.hit
 simp only at this
 rw [hst, this, hh]
theorem waitN_mark {E : BE} {s : BS} {k : Nat} (hk : k ∈ E.sm) (h1 : s.st k = 1) (hn : E.sm.Nodup) : waitN E (setP s k 4) < waitN E s := by
 unfold waitN
 have hsub : ∀ x ∈ (E.sm.filter fun j => (setP s k 4).st j == 1), x ∈ (E.sm.filter fun j => s.st j == 1).erase k := by
  intro x hx
  obtain ⟨h2, h3⟩ := List.mem_filter.1 hx
  have hxk : x ≠ k := by
   rintro rfl
   change ((if x = x then 4 else s.st x) == 1) = true at h3
   rw [if_pos rfl] at h3
   cases h3
  change ((if x = k then 4 else s.st x) == 1) = true at h3
  rw [if_neg hxk] at h3
  exact (List.mem_erase_of_ne hxk).2 (List.mem_filter.2 ⟨h2, h3⟩)
 have hle := nodup_len (hn.filter _) hsub
 have hmem : k ∈ (E.sm.filter fun j => s.st j == 1) := List.mem_filter.2 ⟨hk, by rw [h1]; rfl⟩
 rw [List.length_erase_of_mem hmem] at hle
 have := List.length_pos_of_mem hmem
 omega

section
variable {w w' : World} {P : Nat → Addr} {base : Nat} {E : BE} {K : BK} {s s' : BS}
theorem stepC_ne {k j : Nat} (h : ¬ j = k) (x : Nat) : stepC P E K (setP s k x) j = stepC P E K s j := by
 have e : (setP s k x).st j = s.st j := if_neg h
 unfold stepC outC whyC
 rw [e]
 rfl
theorem BldAt.mark (h : BldAt w P base E K s) {k : Nat} (hk : k ∈ E.sm) (h1 : s.st k = 1) : BldAt (w.setCell ⟨K.blk k, 4, none⟩ (IN 4)) P base E K (setP s k 4) ∧ Only (InSteps E K) w (w.setCell ⟨K.blk k, 4, none⟩ (IN 4)) := by
 have ho : Only (InSteps E K) w (w.setCell ⟨K.blk k, 4, none⟩ (IN 4)) := Only.set _ ⟨k, hk, rfl⟩
 refine ⟨h.change ho fun j hj => ?_, ho⟩
 by_cases e : j = k
 ·subst e
  rw [heap_setCell_same (h.step j hj)]
  have e4 : (setP s j 4).st j = 4 := if_pos rfl
  unfold stepC outC whyC
  rw [e4, h1]
  rfl
 ·rw [stepC_ne e]
  exact (Only.set (p := fun i => i = K.blk k) (w := w) (a := ⟨K.blk k, 4, none⟩) (IN 4) rfl).heapOf (h.step j hj) (fun e2 => e (h.inj j hj k hk e2))
theorem BldAt.failed (h : BldAt w P base E K s) {k : Nat} (hk : k ∈ E.sm) (h1 : s.st k = 1) : BldAt ((w.setCell ⟨K.blk k, 4, none⟩ (IN 3)).setCell ⟨K.blk k, 7, none⟩ (errC P (E.ans k).2)) P base E K (setP s k 3) ∧ Only (InSteps E K) w ((w.setCell ⟨K.blk k, 4, none⟩ (IN 3)).setCell ⟨K.blk k, 7, none⟩ (errC P (E.ans k).2)) := by
 have ho : Only (fun i => i = K.blk k) w ((w.setCell ⟨K.blk k, 4, none⟩ (IN 3)).setCell ⟨K.blk k, 7, none⟩ (errC P (E.ans k).2)) := (Only.set (p := fun i => i = K.blk k) _ rfl).then (Only.set (p := fun i => i = K.blk k) _ rfl)
 have ho2 : Only (InSteps E K) w ((w.setCell ⟨K.blk k, 4, none⟩ (IN 3)).setCell ⟨K.blk k, 7, none⟩ (errC P (E.ans k).2)) := ho.mono fun i _ e => ⟨k, hk, e⟩
 refine ⟨h.change ho2 fun j hj => ?_, ho2⟩
 by_cases e : j = k
 ·subst e
  have h2 := heap_setCell_same (h.step j hj) 4 (IN 3)
  rw [heap_setCell_same h2]
  have e4 : (setP s j 3).st j = 3 := if_pos rfl
  unfold stepC outC whyC
  rw [e4, h1]
  rfl
 ·rw [stepC_ne e]
  exact ho.heapOf (h.step j hj) (fun e2 => e (h.inj j hj k hk e2))
end

structure FailAt (w wr : World) (P : Nat → Addr) (base : Nat) (E : BE) (K : BK) (s1 s : BS) : Prop where
 bld : BldAt wr P base E K s
 only : Only (InSteps E K) w wr
 spr : Spread E s1 s
theorem FailAt.ext {w wr w' : World} {P : Nat → Addr} {base : Nat} {E : BE} {K : BK} {s1 s : BS} (h : FailAt w wr P base E K s1 s) (ho : Ext wr w') : FailAt w w' P base E K s1 s := ⟨h.bld.ext ho, h.only.ext ho, h.spr⟩
theorem FailAt.mark {w wr : World} {P : Nat → Addr} {base : Nat} {E : BE} {K : BK} {s1 s : BS} (h : FailAt w wr P base E K s1 s) {k : Nat} (hk : k ∈ E.sm) (h1 : s.st k = 1) {j : Nat} (hj : j ∈ E.sm) (hn : E.nd k j = true) (h3 : 3 ≤ s.st j) : FailAt w (wr.setCell ⟨K.blk k, 4, none⟩ (IN 4)) P base E K s1 (setP s k 4) := by
 obtain ⟨h4, h5⟩ := h.bld.mark hk h1
 exact ⟨h4, h.only.then h5, h.spr.mark hk h1 hj hn h3⟩
theorem FailAt.iter {w wr w' : World} {P : Nat → Addr} {base : Nat} {E : BE} {K : BK} {s1 s : BS} (h : FailAt w wr P base E K s1 s) {r : Nat} (ho : Only (fun i => i = r) wr w') (hr : ∀ i, InBld E K i → i < r) (hw : w.heap.size ≤ r) : FailAt w w' P base E K s1 s :=
 ⟨h.bld.later ho (fun i hi e => by have := hr i hi; omega), h.only.trans ho (fun _ _ h => h) (fun i hi e => by omega), h.spr⟩

def FailPost (w : World) (P : Nat → Addr) (base : Nat) (E : BE) (K : BK) (s : BS) (e : Ending) (w' : World) : Prop := e = .returned (.tuple #[]) ∧ BldAt w' P base E K s ∧ Only (InSteps E K) w w'

set_option maxRecDepth 100000 in
set_option maxHeartbeats 8000000 in
theorem fail_any (w : World) (P : Nat → Addr) (base : Nat) (E : BE) (K : BK) (s : BS) (o : List Nat) (is : Nat → Bool) (i : Nat) (hi : i ∈ E.sm) (h1 : s.st i = 1) (h : BldAt w P base E K s) (hW : BWell E o is) (hl : ∀ i ∈ E.sm, (E.rule i).ins.length ≤ 900000) (hbad : (E.ans i).2 ≠ 0) :
  Calls Tryz.prog 122 #[PTR K.b, PTR (K.blk i), errC P (E.ans i).2] w (FailPost w P base E K (failP E s i)) := by
 obtain ⟨hb1, ho1⟩ := h.failed hi h1
 have f4 := h.free hi 4
 have f7 := h.free hi 7
 have s4 := (h.stepCell hi 4).trans (rfl : _ = some (IN (s.st i)))
 have s7 := (h.stepCell hi 7).trans (rfl : _ = some (whyC P E s i))
 have HA0 : Hid (FailAt w ((w.setCell ⟨K.blk i, 4, none⟩ (IN 3)).setCell ⟨K.blk i, 7, none⟩ (errC P (E.ans i).2)) P base E K (setP s i 3) (setP s i 3)) := Lib.hid ⟨hb1, ho1, Spread.refl _ _⟩
 have HLT := Lib.hid (h.lt)
 obtain ⟨ca, hca⟩ : ∃ c, errC P (E.ans i).2 = errV (P c) := ⟨(E.ans i).2 - 1, by unfold errC; rw [if_neg hbad]⟩
 obtain ⟨ev, hev⟩ : ∃ ev, ev = errC P (E.ans i).2 := ⟨_, rfl⟩
 rw [← hev] at HA0
 rw [← hev]
 have HW := Lib.hid hW
 have HN := Lib.hid (fun (w1 : World) (s' : BS) (h' : BldAt w1 P base E K s') (k : Nat) (hk : k ∈ E.sm) => needs_any w1 P base E K s' k hk h' (hl k hk))
 obtain ⟨S1, hS1⟩ : ∃ S1, S1 = setP s i 3 := ⟨_, rfl⟩
 have HF : Hid (failP E s i = spreadP E S1) := Lib.hid (by rw [hS1]; rfl)
 rw [← hS1] at HA0
 rw [HF.out]
 have HSZ : Hid (w.heap.size ≤ w.heap.size) := Lib.hid (Nat.le_refl _)
 rw [hca] at hev
 subst hev
 clear h hW hl hb1 ho1 hS1 h1 HF hbad hca
 go_enter Tryz.func122, Tryz.ntmps122
 go_wp2_with fail
 clear f4 f7 s4 s7
 generalize (w.setCell ⟨K.blk i, 4, none⟩ (IN 3)).setCell ⟨K.blk i, 7, none⟩ (errV (P ca)) = wq at HA0 ⊢
 clear hi
 go_loopg [6, 8] (2 * waitN E S1 + 1) (fun g a _ wr => ∃ (b : Bool) (s' : BS), a = .bool b ∧ 2 * waitN E s' + b.toNat = g ∧ Hid (FailAt w wr P base E K S1 s') ∧ Hid (b = false → ∀ k ∈ E.sm, quietAt E s' k))
 case atStart => exact ⟨true, S1, rfl, rfl, HA0, Lib.hid (fun h => by cases h)⟩
 case round =>
  clear HA0
  obtain ⟨b, s', rfl, hg, HA, HQ⟩ := hrel
  cases b with
  | false =>
   have HE := Lib.hid (HA.out.spr.whole (HQ.out rfl))
   go_wp2_with fail
   go_end0
   exact ⟨rfl, by rw [← HE.out]; exact HA.out.bld, HA.out.only⟩
  | true =>
   have HG := Lib.hid hg
   clear HQ hg
   have c1 := (HA.out.bld.cell 1).trans (rfl : _ = some (Value.map (some K.lb)))
   obtain ⟨es, clock, hb, hpm, _, _, hst⟩ := HA.out.bld.steps
   have hrg := run_range_map (P := Tryz.prog) wr 184 3 187 K.lb es clock Tryz.underlying184 hb
   have HEN : Hid (Ents E K es) := Lib.hid ⟨hpm, HW.out.nodup⟩
   have HB := Lib.hid hb
   have HS := Lib.hid hst
   have HMR := Lib.hid (Nat.ne_of_lt (lt_of_heap hb))
   obtain ⟨r, hr⟩ : ∃ r, r = wr.heap.size := ⟨_, rfl⟩
   have HR : Hid ((∀ i, InBld E K i → i < r) ∧ w.heap.size ≤ r) := Lib.hid ⟨fun i hi => by rw [hr]; exact HA.out.bld.lt i hi, by rw [hr]; exact HA.out.only.size⟩
   have HA1 : Hid (FailAt w (wr.alloc (.mapIter (some K.lb) clock #[] clock)) P base E K S1 s') := Lib.hid (HA.out.ext (Only.alloc _ _ _))
   have HIT1 : Hid ((wr.alloc (.mapIter (some K.lb) clock #[] clock)).heap[wr.heap.size]? = some (.mapIter (some K.lb) clock #[] clock)) := Lib.hid (MapKept.heap_alloc wr _).1
   have HB1 := Lib.hid ((Only.alloc (fun _ => False) wr (.mapIter (some K.lb) clock #[] clock)).heapOf hb (fun h => h))
   clear hb hpm hst HA HB
   go_wp2_with fail
   clear hrg c1
   go_loopw [6, 8] (fun a _ wx => ∃ (b : Bool) (seen : Array Nat) (s2 : BS), a = .bool b ∧ Hid (FailAt w wx P base E K S1 s2) ∧ Hid (wx.heap[wr.heap.size]? = some (.mapIter (some K.lb) clock seen clock)) ∧ Hid (wx.heap[K.lb]? = some (.map es clock)) ∧ Hid (waitN E s2 ≤ waitN E s' ∧ (b = true → waitN E s2 < waitN E s')) ∧ Hid (b = false → s2 = s' ∧ ∀ e ∈ es.toList, seen.contains e.born = true → ∀ k, e.key = IN k → quietAt E s' k)) (fun _ _ wx => (leftOf es (wx.iterSeen wr.heap.size)).size)
   case atStart => exact ⟨false, #[], s', rfl, HA1, HIT1, HB1, Lib.hid ⟨Nat.le_refl _, fun h => by cases h⟩, Lib.hid (fun _ => ⟨rfl, fun e _ h => by simp at h⟩)⟩
   case round =>
    clear HA1 HIT1 HB1
    obtain ⟨b, seen, s2, rfl, HA, HIT, HBM, HWN, HQT⟩ := hrel
    have law := next_only (P := Tryz.prog) (ty := 0) HIT.out HBM.out HMR.out HS.out
    rcases law with ⟨h0, hrun⟩ | ⟨e, he, w3, ho3, hr3, hrun, hen⟩
    ·have HQA : Hid (b = false → ∀ k ∈ E.sm, quietAt E s2 k) := Lib.hid (fun hb k hk => by
      obtain ⟨h1, h2⟩ := HQT.out hb
      obtain ⟨e, he, hk1, _⟩ := HEN.out.to hk
      rw [h1]
      exact h2 e he (all_seen es seen h0 e he) k hk1)
     have HME : Hid (2 * waitN E s2 + b.toNat < 2 * waitN E s' + 1) := Lib.hid (by
      obtain ⟨h1, h2⟩ := HWN.out
      cases b with
      | true => have := h2 rfl; simp; omega
      | false => simp; omega)
     clear h0
     go_wp2_with fail
     go_roundg (2 * waitN E s2 + b.toNat)
     case measure => rw [← HG.out]; exact HME.out
     case rel => exact ⟨b, s2, rfl, rfl, HA, HQA⟩
    ·obtain ⟨k, hks, hek, hev⟩ := HEN.out.of (mem_left he).1
     rw [hek, hev] at hrun hen
     have HE2 := Lib.hid he
     have HEK := Lib.hid hek
     have HKS := Lib.hid hks
     have HA3 := Lib.hid (HA.out.iter ho3 (by rw [← hr]; exact HR.out.1) (by rw [← hr]; exact HR.out.2))
     have HIT3 := Lib.hid hr3
     have HBM3 := Lib.hid (ho3.heapOf HBM.out HMR.out)
     have HSEE : Hid (∀ q, quietAt E s2 k → b = false → q = seen.push e.born → s2 = s' ∧ ∀ e' ∈ es.toList, q.contains e'.born = true → ∀ k', e'.key = IN k' → quietAt E s' k') := Lib.hid (fun q hq hb hqe => by
      obtain ⟨h1, h2⟩ := HQT.out hb
      refine ⟨h1, fun e' he' hc k' hk' => ?_⟩
      rw [hqe, contains_push] at hc
      rcases Bool.or_eq_true _ _ ▸ hc with h6 | h6
      ·exact h2 e' he' h6 k' hk'
      ·have := born_inj HS.out.2.1 he' (mem_left HE2.out).1 (beq_iff_eq.1 h6)
       subst this
       rw [HEK.out] at hk'
       rw [← IN_inj hk', ← h1]
       exact hq)
     clear he hek hev ho3 hr3
     by_cases h1 : s2.st k = 1
     ·have c4 := (HA3.out.bld.stepCell hks 4).trans (rfl : _ = some (IN (s2.st k)))
      rw [h1] at c4
      have c4' : w3.cell? ⟨K.blk k, 4, none⟩ = some (.int .i64 1) := c4
      have HND := Lib.hid (HN.out w3 s2 HA3.out.bld k hks)
      have HS2 := Lib.hid h1
      have hsub : ∀ j ∈ E.needs (E.rule k).ins, j ∈ E.sm := fun j hj => (needs_mem hj).1
      have HCT := Lib.hid (fun (w4 : World) (v1 : Value) (hx : Ext w3 w4) (hv : Rd PTR w4 v1 ((E.needs (E.rule k).ins).map K.blk)) =>
       containsFunc_S0 188 (onBlk E K fun j => decide (3 ≤ s2.st j)) w4 v1 _ hv enters_fail1 (fun w5 hx2 x hxm => by
        obtain ⟨j, hj, rfl⟩ := List.mem_map.1 hxm
        rw [onBlk_eq HA3.out.bld.inj (hsub j hj)]
        exact fail1_test (HA3.out.bld.ext (hx.then hx2)) (hsub j hj)))
      have HAN := Lib.hid (onBlk_any (q := fun j => decide (3 ≤ s2.st j)) HA3.out.bld.inj hsub)
      have HAY := Lib.hid (needs_anyP HW.out hks (fun j => decide (3 ≤ s2.st j)))
      clear c4 h1 hsub
      go_wp2_with fail
      refine HND.out.mono ?_
      rintro e4 w4 ⟨v4, rfl, hrow4, ho4⟩
      have hct := HCT.out w4 v4 ho4 hrow4.rd
      rw [HAN.out] at hct
      have HA4 := Lib.hid (HA3.out.ext ho4)
      have HIT4 := Lib.hid (ho4.heapOf HIT3.out (fun h => h))
      have HBM4 := Lib.hid (ho4.heapOf HBM3.out (fun h => h))
      obtain ⟨a4, n4, rfl, _, _, _⟩ := hrow4.rd
      rw [List.length_map] at hct ⊢
      clear ho4 hrow4
      cases hq : (E.needs (E.rule k).ins).any fun j => decide (3 ≤ s2.st j) with
      | true =>
       rw [hq] at hct
       obtain ⟨j, hj, hnj, hj3⟩ := HAY.out.1 hq
       have HJ : Hid (j ∈ E.sm ∧ E.nd k j = true ∧ 3 ≤ s2.st j) := Lib.hid ⟨hj, hnj, of_decide_eq_true hj3⟩
       have HCC := Lib.hid hct
       clear hct hq hj hnj hj3
       go_wp2_with fail
       refine HCC.out.mono ?_
       rintro e5 w5 ⟨rfl, ho5⟩
       have HA5 := HA4.out.ext ho5
       have HIT5 := ho5.heapOf HIT4.out (fun h => h)
       have HBM5 := ho5.heapOf HBM4.out (fun h => h)
       have hm5 := HA5.mark hks HS2.out HJ.out.1 HJ.out.2.1 HJ.out.2.2
       have f4 := HA5.bld.free hks 4
       have t4 := (HA5.bld.stepCell hks 4).trans (rfl : _ = some (IN (s2.st k)))
       have hne : ¬ InSteps E K r := fun h => by have := HR.out.1 _ h.bld; omega
       have hset : Only (InSteps E K) w5 (w5.setCell ⟨K.blk k, 4, none⟩ (IN 4)) := Only.set _ ⟨k, hks, rfl⟩
       have HA6 := Lib.hid hm5
       have HIT6 := Lib.hid (hset.heapOf HIT5 (by rw [← hr]; exact hne))
       have HBM6 := Lib.hid (hset.heapOf HBM5 (fun h => by
        obtain ⟨j, hj, e6⟩ := h
        have h7 := HA5.bld.step j hj
        rw [← e6, HBM5] at h7
        cases h7))
       have HWN6 : Hid (waitN E (setP s2 k 4) < waitN E s') := Lib.hid (by
        have := waitN_mark hks HS2.out HW.out.nodup
        have := HWN.out.1
        omega)
       clear ho5 HA5 HIT5 HBM5 hm5 hne hset
       go_wp2_with fail
       go_roundw
       case rel => exact ⟨true, _, _, rfl, HA6, HIT6, HBM6, Lib.hid ⟨Nat.le_of_lt HWN6.out, fun _ => HWN6.out⟩, Lib.hid (fun h => by cases h)⟩
       case measure =>
        rw [(iterSeen_of HIT6.out : (w5.setCell ⟨K.blk k, 4, none⟩ (.int .i64 4)).iterSeen _ = _), iterSeen_of HIT.out]
        exact left_shrinks es seen _ HE2.out
      | false =>
       rw [hq] at hct
       have HQK : Hid (quietAt E s2 k) := Lib.hid (fun _ j hj hnj => by
        refine Classical.byContradiction fun hlt => ?_
        have := HAY.out.2 ⟨j, hj, hnj, decide_eq_true (by omega)⟩
        rw [hq] at this
        cases this)
       have HCC := Lib.hid hct
       clear hct hq
       go_wp2_with fail
       refine HCC.out.mono ?_
       rintro e5 w5 ⟨rfl, ho5⟩
       have HA5 := Lib.hid (HA4.out.ext ho5)
       have HIT5 := Lib.hid (ho5.heapOf HIT4.out (fun h => h))
       have HBM5 := Lib.hid (ho5.heapOf HBM4.out (fun h => h))
       clear ho5
       go_wp2_with fail
       go_roundw
       case rel => exact ⟨b, _, s2, rfl, HA5, HIT5, HBM5, HWN, Lib.hid (fun hb => HSEE.out _ HQK.out hb rfl)⟩
       case measure =>
        rw [iterSeen_of HIT5.out, iterSeen_of HIT.out]
        exact left_shrinks es seen _ HE2.out
     ·have c4 := (HA3.out.bld.stepCell hks 4).trans (rfl : _ = some (IN (s2.st k)))
      have hz : (((s2.st k : Nat) : Int) == 1) = false := beq_eq_false_iff_ne.2 (by omega)
      have HQK : Hid (quietAt E s2 k) := Lib.hid (fun h => absurd h h1)
      clear h1
      go_wp2_with fail
      go_roundw
      case rel => exact ⟨b, _, s2, rfl, HA3, HIT3, HBM3, HWN, Lib.hid (fun hb => HSEE.out _ HQK.out hb rfl)⟩
      case measure =>
       rw [iterSeen_of HIT3.out, iterSeen_of HIT.out]
       exact left_shrinks es seen _ HE2.out
end Go.Proofs.YtnmhaipjfpongacGreatDoor

namespace Go.Proofs.YtnmhaipjfpongacGreatDoor
open Go.ChangeShapes Go.WideShapes Go.ChangeAt Go.RowKit

def RetIn (ok : Bool) (l : List B) (w : World) (e : Ending) (w' : World) : Prop := ∃ v, e = .returned (.tuple #[v, .bool ok]) ∧ Ext w w' ∧ Row w.heap.size w' v (if ok then l else [])

structure InOk (E : BE) (s : BS) (i : Nat) (ok : Bool) : Prop where
 yes : ok = true → ∀ q ∈ (E.rule i).ins, (E.W q).2 = 0
 no : ok = false → ∃ (j : Nat) (q : B), (E.rule i).ins[j]? = some q ∧ (E.W q).2 ≠ 0

set_option maxRecDepth 100000 in
set_option maxHeartbeats 4000000 in
theorem inputs_any (w : World) (P : Nat → Addr) (base : Nat) (E : BE) (K : BK) (s : BS) (o : List Nat) (is : Nat → Bool) (i : Nat) (hi : i ∈ E.sm) (h : BldAt w P base E K s) (hW : BWell E o is) (hI : BInv E s) (hr : readyP E s i = true) (hl : (E.rule i).ins.length ≤ 900000) (ok : Bool) (hok : InOk E s i ok) :
  Calls Tryz.prog 121 #[PTR K.b, PTR (K.blk i)] w (RetIn ok (E.args i) w) := by
 have HB := Lib.hid h
 have c0 := (h.cell 0).trans (rfl : _ = some (PTR K.tb))
 have c1 := (h.cell 1).trans (rfl : _ = some (Value.map (some K.lb)))
 have c2 := (h.cell 2).trans (rfl : _ = some (Value.map (some K.bb)))
 have c3 := (h.stepCell hi 3).trans (rfl : _ = some (K.iv i))
 obtain ⟨au, cu, hiv, _, _, hc⟩ := (h.ins i hi).rd
 rw [hiv] at c3
 have HIN := Lib.hid (fun q (hq : q ∈ (E.rule i).ins) => hW.input hi hq)
 have HRD := Lib.hid (fun k hk hn => (ready_iff.1 hr).2 k hk hn)
 have HNO := Lib.hid hok.no
 have HTW := Lib.hid hI.two
 have HYES := Lib.hid hok.yes
 unfold BE.args
 obtain ⟨ins, hins⟩ : ∃ ins, ins = (E.rule i).ins := ⟨_, rfl⟩
 rw [← hins] at hl c3 hc HIN HNO HYES ⊢
 have HC := Lib.hid hc
 have hinz : (ins.length : Int) ≤ 900000 := by omega
 clear h hi hiv hc hins hr hok hW hI
 go_enter Tryz.func121, Tryz.ntmps121
 go_wp2_with fail
 go_loopw [6, 8, 9, 10, 11, 12, 19] (fun q _ _ _ _ _ t wr => ∃ (j : Nat) (qv : Value), qv = q ∧ j ≤ ins.length ∧ t = .int .i64 j ∧ Hid (Row w.heap.size wr qv ((ins.take j).map fun q => (E.W q).1)) ∧ Hid (Ext w wr) ∧ Hid (∀ x ∈ ins.take j, (E.W x).2 = 0)) (fun _ _ _ _ _ _ t _ => ins.length - (intOf t).toNat)
 case atStart => exact ⟨0, _, rfl, Nat.zero_le _, rfl, Lib.hid (Row.nil _ _), Lib.hid (Only.refl _ _), Lib.hid (by simp)⟩
 case round =>
  obtain ⟨j, qv, rfl, hj, rfl, HR, HX, HZ⟩ := hrel
  by_cases hlt : j < ins.length
  ·have hltz : (j : Int) < (ins.length : Int) := by omega
   have hj0 : (0 : Int) ≤ (j : Int) := by omega
   obtain ⟨b, off, rfl, hcell⟩ := HC.out (by intro h; rw [h] at hlt; simp at hlt)
   obtain ⟨q, hq⟩ : ∃ y, ins[j]? = some y := ⟨_, List.getElem?_eq_getElem hlt⟩
   have d := HX.out.cellOf (hcell j q hq) (fun h => h)
   have d0 := HX.out.cellOf c0 (fun h => h)
   have d1 := HX.out.cellOf c1 (fun h => h)
   have d2 := HX.out.cellOf c2 (fun h => h)
   have hlk := KMap.look (P := Tryz.prog) keyOk_str (HB.out.outs.later HX.out (fun h => h)) Tryz.underlying181 Tryz.underlying9 (z := .int .i64 0) (by kernel_rfl) q
   rw [show (List.map (fun i => ((E.rule i).out, i)) E.sm).lookup q = E.by_ q from rfl] at hlk
   have HQ := Lib.hid hq
   have HZ2 : Hid ((E.W q).2 = 0 → ∀ x ∈ ins.take (j + 1), (E.W x).2 = 0) := Lib.hid (fun h0 x hx => by
    rw [List.take_add_one, hq] at hx
    rcases List.mem_append.1 hx with hx | hx
    ·exact HZ.out x hx
    ·rw [Option.toList_some, List.mem_singleton] at hx
     rw [hx]; exact h0)
   have HST : Hid (((ins.take (j + 1)).map fun q => (E.W q).1) = ((ins.take j).map fun q => (E.W q).1) ++ [(E.W q).1]) := Lib.hid (by rw [List.take_add_one, hq]; simp)
   have HNL : Hid (((ins.take j).map fun q => (E.W q).1).length ≤ 900000) := Lib.hid (by rw [List.length_map, List.length_take]; omega)
   rcases HIN.out q (List.mem_of_getElem? hq) with ⟨k, hk, hn, _, hby, hw⟩ | ⟨hby, hw⟩
   ·have h2 := HRD.out k hk hn
    rw [hby] at hlk
    simp only [Option.isSome_some] at hlk
    have hls := KMap.look1 (P := Tryz.prog) keyOk_int (HB.out.steps.later HX.out (fun h => h)) Tryz.underlying184 Tryz.underlying3 (z := .pointer none) (by kernel_rfl) (k : Int)
    rw [steps_lookup hk] at hls
    simp only at hls
    have hco : w.cell? ⟨K.blk k, 6, none⟩ = some (S (E.W q).1) := by
     rw [HB.out.stepCell hk 6]
     show some (outC E s k) = _
     unfold outC
     rw [if_pos h2, hw]
    have d6 := HX.out.cellOf hco (fun h => h)
    have h0 : (E.W q).2 = 0 := by rw [hw]; exact HTW.out k hk h2
    have HZ3 := Lib.hid (HZ2.out h0)
    clear hcell hq hby hw hk hn h2 h0 HZ2 hco
    generalize (E.W q).1 = x at HST d6
    generalize ((ins.take j).map fun q => (E.W q).1) = nl at HR HST HNL
    go_wp2_with (at_builtin; refine wpText rfl (.tmp 33) (.tmp 43) w w.heap.size _ nl x wr rfl rfl rfl rfl HR.out (Nat.le_trans HNL.out (by decide)) HX.out.size HX.out (Nat.le_refl _) ?_; intro g5 cap5 w5 HR5 HX5 _)
    go_roundw
    case rel => exact ⟨j + 1, _, rfl, by omega, by go_num, by rw [HST.out]; exact HR5, HX5, HZ3⟩
    case measure => simp [intOf]; omega
   ·rw [hby] at hlk
    simp only [Option.isSome_none] at hlk
    have hget := treeGet_any wr K.tb K.tmb E.T q (HB.out.tree.ext HX.out)
    have HGET := Lib.hid hget
    clear hget
    unfold wLeaf at hw
    cases hl : E.T.lookup q with
    | some x =>
     rw [hl] at hw HGET
     simp only [Option.getD_some, Option.isSome_some] at HGET hw
     have hx1 : (E.W q).1 = x := by rw [hw]
     have HZ3 := Lib.hid (HZ2.out (by rw [hw]))
     rw [hx1] at HST
     clear hcell hq hby hw hl hx1 HZ2
     generalize ((ins.take j).map fun q => (E.W q).1) = nl at HR HST HNL
     go_wp2_with fail
     refine HGET.out.mono ?_
     rintro e w4 ⟨rfl, rfl⟩
     go_wp2_with (at_builtin; refine wpText rfl (.tmp 56) (.tmp 58) w w.heap.size _ nl x wr rfl rfl rfl rfl HR.out (Nat.le_trans HNL.out (by decide)) HX.out.size HX.out (Nat.le_refl _) ?_; intro g5 cap5 w5 HR5 HX5 _)
     go_roundw
     case rel => exact ⟨j + 1, _, rfl, by omega, by go_num, by rw [HST.out]; exact HR5, HX5, HZ3⟩
     case measure => simp [intOf]; omega
    | none =>
     rw [hl] at hw HGET
     simp only [Option.getD_none, Option.isSome_none] at HGET hw
     have hf : ok = false := by
      cases ok with
      | false => rfl
      | true => exact absurd (HYES.out rfl q (List.mem_of_getElem? hq)) (by rw [hw]; decide)
     subst hf
     clear hcell hq hby hw hl HZ2 HST
     go_wp2_with fail
     refine HGET.out.mono ?_
     rintro e w4 ⟨rfl, rfl⟩
     go_wp2_with fail
     go_ret2
     exact ⟨_, rfl, HX.out, Row.nil _ _⟩
  ·have hltz : ¬ (j : Int) < (ins.length : Int) := by omega
   rw [List.take_of_length_le (by omega)] at HR HZ
   have ht : ok = true := by
    cases ok with
    | true => rfl
    | false =>
     obtain ⟨t, q, hq, hne⟩ := HNO.out rfl
     exact absurd (HZ.out q (List.mem_of_getElem? hq)) hne
   subst ht
   obtain ⟨aq, cq, hqf, _, _, _⟩ := HR.out.rd
   subst hqf
   have h8 := HR.out
   rw [List.length_map] at h8
   have H8 := Lib.hid h8
   clear h8
   go_wp2_with fail
   go_ret2
   exact ⟨_, rfl, HX.out, H8.out⟩
end Go.Proofs.YtnmhaipjfpongacGreatDoor
