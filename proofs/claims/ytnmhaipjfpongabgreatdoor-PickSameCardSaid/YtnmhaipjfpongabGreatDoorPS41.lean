/- Texts of this seat laid together for one claim: Z10, Z13, Z14, Z23, Z24. No condition of its own: what each proves stands with its theorems. -/
import Derived.Test.YtnmhaipjfpongabGreatDoorPS13
import Derived.Test.YtnmhaipjfpongabGreatDoorPS31
import Derived.Test.YtnmhaipjfpongabGreatDoorPS2
import Derived.Test.YtnmhaipjfpongabGreatDoorPS36
import Derived.Test.YtnmhaipjfpongabGreatDoorPS37
import Derived.Test.YtnmhaipjfpongabGreatDoorPS33
import Derived.Test.YtnmhaipjfpongabGreatDoorPS40
namespace Go.Proofs.YtnmhaipjfpongabGreatDoor

open Classical in
noncomputable def finS (E : BE) (i : Nat) : Nat := if (E.ans i).2 = 0 then 2 else if ∃ k ∈ E.sm, E.nd i k = true ∧ (E.ans k).2 ≠ 0 then 4 else 3
section
variable {E : BE} {o : List Nat} {is : Nat → Bool}
theorem fin_two {i : Nat} (h : (E.ans i).2 = 0) : finS E i = 2 := by unfold finS; exact if_pos h
theorem fin_not {i : Nat} (h : (E.ans i).2 ≠ 0) : finS E i ≠ 2 := by
 unfold finS
 rw [if_neg h]
 split <;> omega
theorem BWell.final (h : BWell E o is) {s : BS} (I : BInv E s) (hov : ∀ i ∈ E.sm, s.st i ≠ 1) : ∀ i ∈ E.sm, s.st i = finS E i := by
 have bad : ∀ k ∈ E.sm, 3 ≤ s.st k → (E.ans k).2 ≠ 0 := fun k hk h3 => by
  have := I.rng k hk
  rcases (show s.st k = 3 ∨ s.st k = 4 by omega) with e | e
  ·exact I.three k hk e
  ·exact h.four I k hk e
 intro i hi
 have hr := I.rng i hi
 have hn := hov i hi
 rcases (show s.st i = 2 ∨ s.st i = 3 ∨ s.st i = 4 by omega) with e | e | e
 ·rw [e, fin_two (I.two i hi e)]
 ·unfold finS
  rw [e, if_neg (I.three i hi e), if_neg]
  rintro ⟨k, hk, hnd, hb⟩
  exact hb (I.two k hk (I.ran i hi (.inr e) k hk hnd))
 ·unfold finS
  obtain ⟨k, hk, hnd, h3⟩ := I.left i hi e
  rw [e, if_neg (h.four I i hi e), if_pos ⟨k, hk, hnd, bad k hk h3⟩]
end

def CacheOk (L : FL) : Prop := ∀ k x, L.lookup k = some x → ∃ kind word ins, k = keyT kind word ins ∧ runCode kind word ins = 0 ∧ x = runOut kind word ins
theorem CacheOk.nil : CacheOk [] := fun _ _ h => by cases h
theorem CacheOk.hit {L : FL} (h : CacheOk L) {kind word : B} {ins : List B} {x : B} (hx : L.lookup (keyT kind word ins) = some x) : runCode kind word ins = 0 ∧ x = runOut kind word ins := by
 obtain ⟨k, w, i, e, h1, h2⟩ := h _ _ hx
 obtain ⟨rfl, rfl, rfl⟩ := keyT_inj e
 exact ⟨h1, h2⟩

theorem lookup_drop {k s : B} : ∀ (L : FL), s ≠ k → (L.filter fun p => !(p.1 == k)).lookup s = L.lookup s
 | [], _ => rfl
 | (a, x) :: L, h => by
  by_cases ha : a = k
  ·subst ha
   have hs : (s == a) = false := beq_eq_false_iff_ne.2 h
   rw [List.filter_cons_of_neg (by simp), lookup_drop L h, List.lookup, hs]
  ·rw [List.filter_cons_of_pos (by simpa using ha)]
   simp only [List.lookup]
   rw [lookup_drop L h]
theorem lookup_gone {k : B} : ∀ (L : FL), (L.filter fun p => !(p.1 == k)).lookup k = none
 | [] => rfl
 | (a, x) :: L => by
  by_cases ha : a = k
  ·subst ha
   rw [List.filter_cons_of_neg (by simp)]
   exact lookup_gone L
  ·have hs : (k == a) = false := beq_eq_false_iff_ne.2 (Ne.symm ha)
   rw [List.filter_cons_of_pos (by simpa using ha)]
   simp only [List.lookup, hs]
   exact lookup_gone L
theorem lookup_app (L : FL) (k x s : B) : (L ++ [(k, x)]).lookup s = match L.lookup s with | some y => some y | none => if s = k then some x else none := by
 rw [List.lookup_append]
 cases h : L.lookup s with
 | some y => rfl
 | none =>
  rw [Option.none_or]
  by_cases e : s = k
  ·subst e; simp [List.lookup]
  ·have : (s == k) = false := beq_eq_false_iff_ne.2 e
   simp [List.lookup, this, e]
theorem lookup_last (L : FL) (k x s : B) : ((L.filter fun p => !(p.1 == k)) ++ [(k, x)]).lookup s = if s = k then some x else L.lookup s := by
 rw [lookup_app]
 by_cases e : s = k
 ·subst e
  rw [lookup_gone, if_pos rfl]
  simp
 ·rw [lookup_drop L e, if_neg e, if_neg e]
  cases L.lookup s <;> rfl
theorem lookup_get (L : FL) (k s : B) : (getL L k).lookup s = L.lookup s := by
 unfold getL
 cases h : L.lookup k with
 | none => rfl
 | some x =>
  simp only
  rw [lookup_last]
  by_cases e : s = k
  ·rw [if_pos e, e, h]
  ·rw [if_neg e]
theorem lookup_tail {L : FL} {s x : B} (hn : (L.map (·.1)).Nodup) (h : L.tail.lookup s = some x) : L.lookup s = some x := by
 cases L with
 | nil => exact h
 | cons p L =>
  obtain ⟨a, y⟩ := p
  have hm := mem_of_lookup h
  rw [List.map_cons, List.nodup_cons] at hn
  have : (s == a) = false := beq_eq_false_iff_ne.2 fun e => hn.1 (List.mem_map.2 ⟨(s, x), hm, e⟩)
  rw [List.lookup, this]
  exact h
theorem nodup_last {L : FL} (hn : (L.map (·.1)).Nodup) (k x : B) : (((L.filter fun p => !(p.1 == k)) ++ [(k, x)]).map (·.1)).Nodup := by
 rw [List.map_append, List.map_cons, List.map_nil]
 have h1 : ((L.filter fun p => !(p.1 == k)).map (·.1)).Nodup := hn.sublist ((List.filter_sublist).map _)
 refine List.nodup_append.2 ⟨h1, List.nodup_cons.2 ⟨by simp, List.nodup_nil⟩, fun a ha b hb e => ?_⟩
 rw [List.mem_singleton] at hb
 obtain ⟨p, hp, rfl⟩ := List.mem_map.1 ha
 have := (List.mem_filter.1 hp).2
 rw [e, hb] at this
 simp at this
theorem put_lookup {L : FL} {many : Nat} {k x s y : B} (hn : (L.map (·.1)).Nodup) (h : (putL many L k x).lookup s = some y) : (s = k ∧ y = x) ∨ L.lookup s = some y := by
 have key : ((L.filter fun p => !(p.1 == k)) ++ [(k, x)]).lookup s = some y → (s = k ∧ y = x) ∨ L.lookup s = some y := fun h => by
  rw [lookup_last] at h
  by_cases e : s = k
  ·rw [if_pos e] at h; exact .inl ⟨e, (Option.some.inj h).symm⟩
  ·rw [if_neg e] at h; exact .inr h
 unfold putL at h
 split at h
 ·exact key (lookup_tail (nodup_last hn k x) h)
 ·exact key h
theorem CacheOk.get {L : FL} (h : CacheOk L) (k : B) : CacheOk (getL L k) := fun s x hs => h s x (by rwa [lookup_get] at hs)
theorem CacheOk.put {L : FL} (h : CacheOk L) (hn : (L.map (·.1)).Nodup) (many : Nat) {kind word : B} {ins : List B} (h0 : runCode kind word ins = 0) : CacheOk (putL many L (keyT kind word ins) (runOut kind word ins)) := fun s x hs => by
 rcases put_lookup hn hs with ⟨rfl, rfl⟩ | hs
 ·exact ⟨kind, word, ins, rfl, h0, rfl⟩
 ·exact h s x hs

structure Roomy (E : BE) (many : Nat) (s : BS) (L : FL) : Prop where
 nodup : (L.map (·.1)).Nodup
 keys : ∀ k ∈ L.map (·.1), ∃ i ∈ E.sm, k = E.key i
 has : ∀ i ∈ E.sm, s.st i = 2 → (L.lookup (E.key i)).isSome = true
theorem len_keys {E : BE} {L : FL} (hn : (L.map (·.1)).Nodup) (hk : ∀ k ∈ L.map (·.1), ∃ i ∈ E.sm, k = E.key i) : L.length ≤ E.sm.length := by
 have := nodup_len (b := E.sm.map E.key) hn fun k h => by
  obtain ⟨i, hi, e⟩ := hk k h
  exact List.mem_map.2 ⟨i, hi, e.symm⟩
 rwa [List.length_map, List.length_map] at this
theorem keys_last {L : FL} {k x s : B} (h : s ∈ ((L.filter fun p => !(p.1 == k)) ++ [(k, x)]).map (·.1)) : s = k ∨ s ∈ L.map (·.1) := by
 rw [List.map_append, List.map_cons, List.map_nil] at h
 rcases List.mem_append.1 h with h | h
 ·obtain ⟨p, hp, rfl⟩ := List.mem_map.1 h
  exact .inr (List.mem_map.2 ⟨p, (List.mem_filter.1 hp).1, rfl⟩)
 ·exact .inl (List.mem_singleton.1 h)
theorem Roomy.put {E : BE} {many : Nat} {s : BS} {L : FL} (h : Roomy E many s L) (hm : E.sm.length ≤ many) {i : Nat} (hi : i ∈ E.sm) (x : B) {s' : BS} (hs : ∀ k ∈ E.sm, s'.st k = 2 → k = i ∨ s.st k = 2) : Roomy E many s' (putL many L (E.key i) x) := by
 have hn := nodup_last h.nodup (E.key i) x
 have hk : ∀ k ∈ ((L.filter fun p => !(p.1 == E.key i)) ++ [(E.key i, x)]).map (·.1), ∃ j ∈ E.sm, k = E.key j := fun k hk => by
  rcases keys_last hk with rfl | hk
  ·exact ⟨i, hi, rfl⟩
  ·exact h.keys k hk
 have hlen := len_keys hn hk
 have e : putL many L (E.key i) x = (L.filter fun p => !(p.1 == E.key i)) ++ [(E.key i, x)] := by
  unfold putL
  exact if_neg (by omega)
 rw [e]
 refine ⟨hn, hk, fun j hj h2 => ?_⟩
 rw [lookup_last]
 by_cases ej : E.key j = E.key i
 ·rw [if_pos ej]; rfl
 ·rw [if_neg ej]
  rcases hs j hj h2 with rfl | h2
  ·exact absurd rfl ej
  ·exact h.has j hj h2
theorem Roomy.get {E : BE} {many : Nat} {s : BS} {L : FL} (h : Roomy E many s L) {i : Nat} (hk : (L.lookup (E.key i)).isSome = true) {s' : BS} (hs : ∀ k ∈ E.sm, s'.st k = 2 → k = i ∨ s.st k = 2) : Roomy E many s' (getL L (E.key i)) := by
 refine ⟨?_, fun k hkm => ?_, fun j hj h2 => ?_⟩
 ·unfold getL
  split
  ·exact nodup_last h.nodup _ _
  ·exact h.nodup
 ·unfold getL at hkm
  split at hkm
  ·rename_i x hx
   rcases keys_last hkm with rfl | hkm
   ·exact h.keys _ (List.mem_map.2 ⟨_, mem_of_lookup hx, rfl⟩)
   ·exact h.keys k hkm
  ·exact h.keys k hkm
 ·rw [lookup_get]
  rcases hs j hj h2 with rfl | h2
  ·exact hk
  ·exact h.has j hj h2
end Go.Proofs.YtnmhaipjfpongabGreatDoor

namespace Go.Proofs.YtnmhaipjfpongabGreatDoor
open Go.ChangeShapes Go.WideShapes Go.ChangeAt Go.RowKit

section
variable {w w' : World} {P : Nat → Addr} {base : Nat} {E : BE} {K : BK} {s : BS}
theorem BldAt.hits (h : BldAt w P base E K s) {k : Nat} (hk : k ∈ E.sm) (h1 : s.st k = 1) {x : B} (hx : x = (E.ans k).1) : BldAt (((w.setCell ⟨K.blk k, 6, none⟩ (S x)).setCell ⟨K.blk k, 5, none⟩ (.bool true)).setCell ⟨K.blk k, 4, none⟩ (IN 2)) P base E K (doneP s k true) ∧ Only (InSteps E K) w (((w.setCell ⟨K.blk k, 6, none⟩ (S x)).setCell ⟨K.blk k, 5, none⟩ (.bool true)).setCell ⟨K.blk k, 4, none⟩ (IN 2)) := by
 have ho : Only (fun i => i = K.blk k) w (((w.setCell ⟨K.blk k, 6, none⟩ (S x)).setCell ⟨K.blk k, 5, none⟩ (.bool true)).setCell ⟨K.blk k, 4, none⟩ (IN 2)) := ((Only.set (p := fun i => i = K.blk k) _ rfl).then (Only.set (p := fun i => i = K.blk k) _ rfl)).then (Only.set (p := fun i => i = K.blk k) _ rfl)
 have ho2 : Only (InSteps E K) w (((w.setCell ⟨K.blk k, 6, none⟩ (S x)).setCell ⟨K.blk k, 5, none⟩ (.bool true)).setCell ⟨K.blk k, 4, none⟩ (IN 2)) := ho.mono fun i _ e => ⟨k, hk, e⟩
 refine ⟨h.change ho2 fun j hj => ?_, ho2⟩
 by_cases e : j = k
 ·subst e
  have h2 := heap_setCell_same (h.step j hj) 6 (S x)
  have h3 := heap_setCell_same h2 5 (.bool true)
  rw [heap_setCell_same h3, hx]
  have e4 : (doneP s j true).st j = 2 := if_pos rfl
  have e5 : (doneP s j true).hit j = true := if_pos rfl
  unfold stepC outC whyC
  rw [e4, e5, h1]
  rfl
 ·rw [stepC_done e]
  exact ho.heapOf (h.step j hj) (fun e2 => e (h.inj j hj k hk e2))
end

structure CchAt (w : World) (E : BE) (K : BK) (cb cmb : Nat) (sv : Value) (many : Nat) (L : FL) : Prop where
 cache : CacheAt w cb cmb sv many L
 ok : CacheOk L
 len : L.length ≤ many
 many : many ≤ 100
 apart : ∀ i, InCache cb cmb sv i → ¬ InBld E K i
section
variable {w w' : World} {P : Nat → Addr} {base : Nat} {E : BE} {K : BK} {s : BS} {cb cmb : Nat} {sv : Value} {many : Nat} {L L' : FL}
theorem CchAt.steps (h : CchAt w E K cb cmb sv many L) (ho : Only (InSteps E K) w w') : CchAt w' E K cb cmb sv many L := ⟨h.cache.later ho (fun i hi e => h.apart i hi e.bld), h.ok, h.len, h.many, h.apart⟩
theorem CchAt.ext (h : CchAt w E K cb cmb sv many L) (ho : Ext w w') : CchAt w' E K cb cmb sv many L := ⟨h.cache.later ho (fun _ _ h => h), h.ok, h.len, h.many, h.apart⟩
theorem CchAt.bld (h : CchAt w E K cb cmb sv many L) (hb : BldAt w P base E K s) (ho : Only (InCache cb cmb sv) w w') : BldAt w' P base E K s := hb.later ho (fun i hi e => h.apart i e hi)
end
def RunCPost (w : World) (P : Nat → Addr) (base : Nat) (E : BE) (K : BK) (cb cmb : Nat) (sv : Value) (many : Nat) (L : FL) (r : Bool × Nat) (s : BS) (e : Ending) (w' : World) : Prop :=
 ∃ sv', e = .returned (.tuple #[.bool r.1, errC P r.2]) ∧ BldAt w' P base E K s ∧ CchAt w' E K cb cmb sv' many L ∧ Only (fun i => InSteps E K i ∨ InCache cb cmb sv i) w w' ∧ ∀ i, InCache cb cmb sv' i → InCache cb cmb sv i ∨ w.heap.size ≤ i
end Go.Proofs.YtnmhaipjfpongabGreatDoor

namespace Go.Proofs.YtnmhaipjfpongabGreatDoor
open Go.ChangeShapes Go.WideShapes Go.ChangeAt Go.RowKit

section
variable {w w' : World} {P : Nat → Addr} {base : Nat} {E : BE} {K : BK} {s : BS} {o : List Nat} {is : Nat → Bool} {cb cmb : Nat} {sv : Value} {many : Nat} {L : FL}
theorem RunPost.cache (hC : CchAt w E K cb cmb sv many L) {r : Bool × Nat} {s' : BS} {e : Ending} (h : RunPost w P base E K r s' e w') : RunCPost w P base E K cb cmb sv many L r s' e w' := by
 obtain ⟨h1, h2, h3⟩ := h
 exact ⟨sv, h1, h2, hC.steps h3, h3.mono fun _ _ h => .inl h, fun _ h => .inl h⟩
end
end Go.Proofs.YtnmhaipjfpongabGreatDoor

namespace Go.Proofs.YtnmhaipjfpongabGreatDoor
open Go.ChangeShapes Go.WideShapes Go.ChangeAt Go.RowKit

noncomputable def cacheZ (E : BE) (many : Nat) (L : FL) (s : BS) (z : Int) : FL := match (runZ E (some (many, L)) s z).2.2 with
 | some (_, L') => L'
 | none => L
section
variable {w w' : World} {P : Nat → Addr} {base : Nat} {E : BE} {K : BK} {s : BS} {o : List Nat} {is : Nat → Bool} {cb cmb : Nat} {sv : Value} {many : Nat} {L : FL}
end
end Go.Proofs.YtnmhaipjfpongabGreatDoor

namespace Go.Proofs.YtnmhaipjfpongabGreatDoor
open Go.ChangeShapes Go.WideShapes Go.ChangeAt Go.RowKit

theorem BInv.over {E : BE} {s : BS} (I : BInv E s) (h : ∀ i ∈ E.sm, s.st i ≠ 1) : ∀ i ∈ E.sm, s.st i = 2 ∨ s.st i = 3 ∨ s.st i = 4 := fun i hi => by
 have := I.rng i hi
 have := h i hi
 omega

section
variable {E : BE} {o : List Nat} {is : Nat → Bool} {s : BS} {many : Nat} {L : FL}
theorem BWell.runZ (h : BWell E o is) (I : BInv E s) (C : CS) (z : Int) : BInv E (runZ E C s z).2.1 := by
 by_cases hin : ∃ i : Nat, i ∈ E.sm ∧ (i : Int) = z
 ·obtain ⟨i, hi, rfl⟩ := hin
  rw [runZ_in hi]
  exact h.run I i
 ·rw [runZ_out (fun k hk e => hin ⟨k, hk, e⟩)]
  exact I
theorem fail_two {i k : Nat} (h : (failP E s i).st k = 2) : s.st k = 2 := by
 unfold failP at h
 rcases spread_cases (E := E) (s := setP s i 3) k with ⟨_, h2, _⟩ | ⟨_, h2⟩
 ·omega
 ·rw [h2] at h
  have e : (setP s i 3).st k = if k = i then 3 else s.st k := rfl
  rw [e] at h
  split at h
  ·omega
  ·exact h
theorem Roomy.mono {s' : BS} (h : Roomy E many s L) (hs : ∀ k ∈ E.sm, s'.st k = 2 → s.st k = 2) : Roomy E many s' L := ⟨h.nodup, h.keys, fun i hi h2 => h.has i hi (hs i hi h2)⟩
theorem done_two {i k : Nat} {b : Bool} (h : (doneP s i b).st k = 2) : k = i ∨ s.st k = 2 := by
 have e : (doneP s i b).st k = if k = i then 2 else s.st k := rfl
 rw [e] at h
 split at h
 ·exact .inl ‹_›
 ·exact .inr h
theorem Roomy.run (h : Roomy E many s L) (hm : E.sm.length ≤ many) (z : Int) : Roomy E many (runZ E (some (many, L)) s z).2.1 (cacheZ E many L s z) := by
 unfold cacheZ
 by_cases hin : ∃ i : Nat, i ∈ E.sm ∧ (i : Int) = z
 ·obtain ⟨i, hi, rfl⟩ := hin
  rw [runZ_in hi]
  unfold runP
  split
  ·exact h
  ·split
   ·exact h
   ·split
    ·exact h
    ·split
     ·exact h.mono fun k _ hk => fail_two hk
     ·simp only
      cases hl : L.lookup (E.key i) with
      | some x => exact h.get (by rw [hl]; rfl) (fun k _ hk => done_two hk)
      | none => exact h.put hm hi _ (fun k _ hk => done_two hk)
 ·rw [runZ_out (fun k hk e => hin ⟨k, hk, e⟩)]
  exact h
theorem nohit_run (hh : ∀ k, s.hit k = false) (z : Int) : ∀ k, (runZ E none s z).2.1.hit k = false := by
 by_cases hin : ∃ i : Nat, i ∈ E.sm ∧ (i : Int) = z
 ·obtain ⟨i, hi, rfl⟩ := hin
  rw [runZ_in hi]
  unfold runP
  split
  ·exact hh
  ·split
   ·exact hh
   ·split
    ·exact hh
    ·split
     ·exact hh
     ·intro k
      show (if k = i then false else s.hit k) = false
      rw [hh k]
      split <;> rfl
 ·rw [runZ_out (fun k hk e => hin ⟨k, hk, e⟩)]
  exact hh
end

noncomputable def stepNn (E : BE) (s : BS) (z : Int) : BS := (runZ E none s z).2.1
theorem run_of {E : BE} {s : BS} {C : CS} {i : Nat} (hi : i ∈ E.sm) (hr : readyP E s i = true) : (runZ E C s (i : Int)).1.2 = 0 ∧ ∀ k, ranP (runZ E C s (i : Int)).2.1 k = (decide (k = i) || ranP s k) := by
 obtain ⟨b, C', e⟩ := run_ready (C := C) hi hr
 rw [runZ_in hi, e]
 exact ⟨rfl, fun k => ran_step k⟩
structure SameG (E : BE) (Ka Kb Kd : BK) (cb many n0 ba bb bd be : Nat) : Prop where
 a : ∀ i, InBld E Ka i → ba ≤ i ∧ i < bb
 b : ∀ i, InBld E Kb i → bb ≤ i ∧ i < bd
 d : ∀ i, InBld E Kd i → bd ≤ i ∧ i < be
 n : n0 ≤ ba ∧ ba ≤ bb ∧ bb ≤ bd ∧ bd ≤ be
 ca : Ka.cp = PTR cb
 cB : Kb.cp = .pointer none
 cd : Kd.cp = PTR cb
 many : many ≤ 100
structure SameAt (w0 : World) (P : Nat → Addr) (E : BE) (Ka Kb Kd : BK) (cb cmb many ba bb bd be : Nat) (X : List (Nat × Obj)) (L : FL) (sa sb sd : BS) (wr : World) : Prop where
 a : BldAt wr P ba E Ka sa
 b : BldAt wr P bb E Kb sb
 d : BldAt wr P bd E Kd sd
 ia : BInv E sa
 ib : BInv E sb
 id : BInv E sd
 ext : Ext w0 wr
 size : be ≤ wr.heap.size
 cch : ∃ sv, CacheAt wr cb cmb sv many L ∧ (∀ i, InCache cb cmb sv i → (w0.heap.size ≤ i ∧ i < ba) ∨ be ≤ i) ∧ CacheOk L ∧ L.length ≤ many ∧ (E.sm.length ≤ many → Roomy E many sa L) ∧ ∀ x ∈ X, ¬ InCache cb cmb sv x.1
 kept : ∀ x ∈ X, wr.heap[x.1]? = some x.2 ∧ be ≤ x.1
 nohit : ∀ k, sb.hit k = false
 hits : E.sm.length ≤ many → ∀ i ∈ E.sm, sd.st i = 2 → sd.hit i = true
section
variable {w0 wr w' : World} {P : Nat → Addr} {E : BE} {Ka Kb Kd : BK} {cb cmb many ba bb bd be : Nat} {X : List (Nat × Obj)} {L : FL} {sa sb sd : BS} {o : List Nat} {is : Nat → Bool}
theorem SameAt.grow (h : SameAt w0 P E Ka Kb Kd cb cmb many ba bb bd be X L sa sb sd wr) (ho : Ext wr w') : SameAt w0 P E Ka Kb Kd cb cmb many ba bb bd be X L sa sb sd w' := by
 obtain ⟨sv, h1, h2, h3⟩ := h.cch
 exact ⟨h.a.ext ho, h.b.ext ho, h.d.ext ho, h.ia, h.ib, h.id, h.ext.then ho, Nat.le_trans h.size ho.size, ⟨sv, h1.later ho (fun _ _ h => h), h2, h3⟩, fun x hx => ⟨ho.heapOf (h.kept x hx).1 (fun h => h), (h.kept x hx).2⟩, h.nohit, h.hits⟩
theorem SameAt.add (h : SameAt w0 P E Ka Kb Kd cb cmb many ba bb bd be X L sa sb sd wr) (ho : Ext wr w') {ob : Obj} (hc : w'.heap[wr.heap.size]? = some ob) : SameAt w0 P E Ka Kb Kd cb cmb many ba bb bd be ((wr.heap.size, ob) :: X) L sa sb sd w' := by
 have g := h.grow ho
 obtain ⟨sv, h1, h2, h3, h4, h5, h6⟩ := h.cch
 exact ⟨g.a, g.b, g.d, g.ia, g.ib, g.id, g.ext, g.size, ⟨sv, h1.later ho (fun _ _ h => h), h2, h3, h4, h5, fun x hx e => by
  rcases List.mem_cons.1 hx with rfl | hx
  ·exact absurd (h1.lt _ e) (Nat.lt_irrefl _)
  ·exact h6 x hx e⟩, fun x hx => by
  rcases List.mem_cons.1 hx with rfl | hx
  ·exact ⟨hc, h.size⟩
  ·exact g.kept x hx, g.nohit, g.hits⟩
theorem SameAt.drop {y : Nat × Obj} (h : SameAt w0 P E Ka Kb Kd cb cmb many ba bb bd be (y :: X) L sa sb sd wr) (G : SameG E Ka Kb Kd cb many w0.heap.size ba bb bd be) (ho : Only (fun i => i = y.1) wr w') (hn : ∀ z ∈ X, z.1 ≠ y.1) : SameAt w0 P E Ka Kb Kd cb cmb many ba bb bd be X L sa sb sd w' := by
 obtain ⟨sv, h1, h2, h3, h4, h5, h6⟩ := h.cch
 have hy := (h.kept y (.head _)).2
 have g := G.n
 exact ⟨h.a.later ho (fun i hi e => by have := G.a i hi; omega), h.b.later ho (fun i hi e => by have := G.b i hi; omega), h.d.later ho (fun i hi e => by have := G.d i hi; omega), h.ia, h.ib, h.id, h.ext.trans ho (fun _ _ h => h) (fun i hi e => by omega), Nat.le_trans h.size ho.size, ⟨sv, h1.later ho (fun i hi e => h6 y (.head _) (e ▸ hi)), h2, h3, h4, h5, fun x hx => h6 x (.tail _ hx)⟩, fun x hx => ⟨ho.heapOf (h.kept x (.tail _ hx)).1 (hn x hx), (h.kept x (.tail _ hx)).2⟩, h.nohit, h.hits⟩
theorem BWell.tells (h : BWell E o is) {s : BS} (I : BInv E s) (hov : ∀ i ∈ E.sm, s.st i ≠ 1) {i : Nat} (hi : i ∈ E.sm) : resZ E s (i : Int) = ((E.ans i).1, (E.ans i).2 == 0) := by
 have e := h.final I hov i hi
 by_cases h0 : (E.ans i).2 = 0
 ·rw [resZ_in hi (by rw [e, fin_two h0]), h0]
  rfl
 ·rw [resZ_not (by rw [e]; exact fin_not h0), show ((E.ans i).2 == 0) = false from beq_eq_false_iff_ne.2 h0, show (E.ans i).1 = [] from (h.ok (E.rule i).out).zero h0]
end
end Go.Proofs.YtnmhaipjfpongabGreatDoor
