/- Texts of this seat laid together for one claim: Z10, Ya1, Z13. No condition of its own: what each proves stands with its theorems. -/
import Derived.Test.YtnmhaipjfpongacGreatDoorPA7
import Derived.Test.YtnmhaipjfpongacGreatDoorPA22
import Derived.Test.YtnmhaipjfpongacGreatDoorPA21
import Derived.Test.YtnmhaipjfpongacGreatDoorPA31
import Derived.Test.YtnmhaipjfpongacGreatDoorPA3
import Derived.Test.YtnmhaipjfpongacGreatDoorPA32
namespace Go.Proofs.YtnmhaipjfpongacGreatDoor

open Classical in
noncomputable def finS (E : BE) (i : Nat) : Nat := if (E.ans i).2 = 0 then 2 else if ∃ k ∈ E.sm, E.nd i k = true ∧ (E.ans k).2 ≠ 0 then 4 else 3
section
variable {E : BE} {o : List Nat} {is : Nat → Bool}
theorem fin_two {i : Nat} (h : (E.ans i).2 = 0) : finS E i = 2 := by unfold finS; exact if_pos h
theorem fin_not {i : Nat} (h : (E.ans i).2 ≠ 0) : finS E i ≠ 2 := by
 unfold finS
 rw [if_neg h]
 split <;> omega
theorem BWell.final (h : BWell E o is) {s : BS} (I : BInv E s) (hov : ∀ i ∈ E.sm, s.st i ≠ 1) : ∀ i ∈ E.sm, s.st i = finS E i := by
 have bad : ∀ k ∈ E.sm, 3 ≤ s.st k → (E.ans k).2 ≠ 0 := fun k hk h3 => by
  have := I.rng k hk
  rcases (show s.st k = 3 ∨ s.st k = 4 by omega) with e | e
  ·exact I.three k hk e
  ·exact h.four I k hk e
 intro i hi
 have hr := I.rng i hi
 have hn := hov i hi
 rcases (show s.st i = 2 ∨ s.st i = 3 ∨ s.st i = 4 by omega) with e | e | e
 ·rw [e, fin_two (I.two i hi e)]
 ·unfold finS
  rw [e, if_neg (I.three i hi e), if_neg]
  rintro ⟨k, hk, hnd, hb⟩
  exact hb (I.two k hk (I.ran i hi (.inr e) k hk hnd))
 ·unfold finS
  obtain ⟨k, hk, hnd, h3⟩ := I.left i hi e
  rw [e, if_neg (h.four I i hi e), if_pos ⟨k, hk, hnd, bad k hk h3⟩]
end

def CacheOk (L : FL) : Prop := ∀ k x, L.lookup k = some x → ∃ kind word ins, k = keyT kind word ins ∧ runCode kind word ins = 0 ∧ x = runOut kind word ins
theorem CacheOk.nil : CacheOk [] := fun _ _ h => by cases h
theorem CacheOk.hit {L : FL} (h : CacheOk L) {kind word : B} {ins : List B} {x : B} (hx : L.lookup (keyT kind word ins) = some x) : runCode kind word ins = 0 ∧ x = runOut kind word ins := by
 obtain ⟨k, w, i, e, h1, h2⟩ := h _ _ hx
 obtain ⟨rfl, rfl, rfl⟩ := keyT_inj e
 exact ⟨h1, h2⟩

theorem lookup_drop {k s : B} : ∀ (L : FL), s ≠ k → (L.filter fun p => !(p.1 == k)).lookup s = L.lookup s
 | [], _ => rfl
 | (a, x) :: L, h => by
  by_cases ha : a = k
  ·subst ha
   have hs : (s == a) = false := beq_eq_false_iff_ne.2 h
   rw [List.filter_cons_of_neg (by simp), lookup_drop L h, List.lookup, hs]
  ·rw [List.filter_cons_of_pos (by simpa using ha)]
   simp only [List.lookup]
   rw [lookup_drop L h]
theorem lookup_gone {k : B} : ∀ (L : FL), (L.filter fun p => !(p.1 == k)).lookup k = none
 | [] => rfl
 | (a, x) :: L => by
  by_cases ha : a = k
  ·subst ha
   rw [List.filter_cons_of_neg (by simp)]
   exact lookup_gone L
  ·have hs : (k == a) = false := beq_eq_false_iff_ne.2 (Ne.symm ha)
   rw [List.filter_cons_of_pos (by simpa using ha)]
   simp only [List.lookup, hs]
   exact lookup_gone L
theorem lookup_app (L : FL) (k x s : B) : (L ++ [(k, x)]).lookup s = match L.lookup s with | some y => some y | none => if s = k then some x else none := by
 rw [List.lookup_append]
 cases h : L.lookup s with
 | some y => rfl
 | none =>
  rw [Option.none_or]
  by_cases e : s = k
  ·subst e; simp [List.lookup]
  ·have : (s == k) = false := beq_eq_false_iff_ne.2 e
   simp [List.lookup, this, e]
theorem lookup_last (L : FL) (k x s : B) : ((L.filter fun p => !(p.1 == k)) ++ [(k, x)]).lookup s = if s = k then some x else L.lookup s := by
 rw [lookup_app]
 by_cases e : s = k
 ·subst e
  rw [lookup_gone, if_pos rfl]
  simp
 ·rw [lookup_drop L e, if_neg e, if_neg e]
  cases L.lookup s <;> rfl
theorem lookup_get (L : FL) (k s : B) : (getL L k).lookup s = L.lookup s := by
 unfold getL
 cases h : L.lookup k with
 | none => rfl
 | some x =>
  simp only
  rw [lookup_last]
  by_cases e : s = k
  ·rw [if_pos e, e, h]
  ·rw [if_neg e]
theorem lookup_tail {L : FL} {s x : B} (hn : (L.map (·.1)).Nodup) (h : L.tail.lookup s = some x) : L.lookup s = some x := by
 cases L with
 | nil => exact h
 | cons p L =>
  obtain ⟨a, y⟩ := p
  have hm := mem_of_lookup h
  rw [List.map_cons, List.nodup_cons] at hn
  have : (s == a) = false := beq_eq_false_iff_ne.2 fun e => hn.1 (List.mem_map.2 ⟨(s, x), hm, e⟩)
  rw [List.lookup, this]
  exact h
theorem nodup_last {L : FL} (hn : (L.map (·.1)).Nodup) (k x : B) : (((L.filter fun p => !(p.1 == k)) ++ [(k, x)]).map (·.1)).Nodup := by
 rw [List.map_append, List.map_cons, List.map_nil]
 have h1 : ((L.filter fun p => !(p.1 == k)).map (·.1)).Nodup := hn.sublist ((List.filter_sublist).map _)
 refine List.nodup_append.2 ⟨h1, List.nodup_cons.2 ⟨by simp, List.nodup_nil⟩, fun a ha b hb e => ?_⟩
 rw [List.mem_singleton] at hb
 obtain ⟨p, hp, rfl⟩ := List.mem_map.1 ha
 have := (List.mem_filter.1 hp).2
 rw [e, hb] at this
 simp at this
theorem put_lookup {L : FL} {many : Nat} {k x s y : B} (hn : (L.map (·.1)).Nodup) (h : (putL many L k x).lookup s = some y) : (s = k ∧ y = x) ∨ L.lookup s = some y := by
 have key : ((L.filter fun p => !(p.1 == k)) ++ [(k, x)]).lookup s = some y → (s = k ∧ y = x) ∨ L.lookup s = some y := fun h => by
  rw [lookup_last] at h
  by_cases e : s = k
  ·rw [if_pos e] at h; exact .inl ⟨e, (Option.some.inj h).symm⟩
  ·rw [if_neg e] at h; exact .inr h
 unfold putL at h
 split at h
 ·exact key (lookup_tail (nodup_last hn k x) h)
 ·exact key h
theorem CacheOk.get {L : FL} (h : CacheOk L) (k : B) : CacheOk (getL L k) := fun s x hs => h s x (by rwa [lookup_get] at hs)
theorem CacheOk.put {L : FL} (h : CacheOk L) (hn : (L.map (·.1)).Nodup) (many : Nat) {kind word : B} {ins : List B} (h0 : runCode kind word ins = 0) : CacheOk (putL many L (keyT kind word ins) (runOut kind word ins)) := fun s x hs => by
 rcases put_lookup hn hs with ⟨rfl, rfl⟩ | hs
 ·exact ⟨kind, word, ins, rfl, h0, rfl⟩
 ·exact h s x hs

structure Roomy (E : BE) (many : Nat) (s : BS) (L : FL) : Prop where
 nodup : (L.map (·.1)).Nodup
 keys : ∀ k ∈ L.map (·.1), ∃ i ∈ E.sm, k = E.key i
 has : ∀ i ∈ E.sm, s.st i = 2 → (L.lookup (E.key i)).isSome = true
theorem len_keys {E : BE} {L : FL} (hn : (L.map (·.1)).Nodup) (hk : ∀ k ∈ L.map (·.1), ∃ i ∈ E.sm, k = E.key i) : L.length ≤ E.sm.length := by
 have := nodup_len (b := E.sm.map E.key) hn fun k h => by
  obtain ⟨i, hi, e⟩ := hk k h
  exact List.mem_map.2 ⟨i, hi, e.symm⟩
 rwa [List.length_map, List.length_map] at this
theorem keys_last {L : FL} {k x s : B} (h : s ∈ ((L.filter fun p => !(p.1 == k)) ++ [(k, x)]).map (·.1)) : s = k ∨ s ∈ L.map (·.1) := by
 rw [List.map_append, List.map_cons, List.map_nil] at h
 rcases List.mem_append.1 h with h | h
 ·obtain ⟨p, hp, rfl⟩ := List.mem_map.1 h
  exact .inr (List.mem_map.2 ⟨p, (List.mem_filter.1 hp).1, rfl⟩)
 ·exact .inl (List.mem_singleton.1 h)
theorem Roomy.put {E : BE} {many : Nat} {s : BS} {L : FL} (h : Roomy E many s L) (hm : E.sm.length ≤ many) {i : Nat} (hi : i ∈ E.sm) (x : B) {s' : BS} (hs : ∀ k ∈ E.sm, s'.st k = 2 → k = i ∨ s.st k = 2) : Roomy E many s' (putL many L (E.key i) x) := by
 have hn := nodup_last h.nodup (E.key i) x
 have hk : ∀ k ∈ ((L.filter fun p => !(p.1 == E.key i)) ++ [(E.key i, x)]).map (·.1), ∃ j ∈ E.sm, k = E.key j := fun k hk => by
  rcases keys_last hk with rfl | hk
  ·exact ⟨i, hi, rfl⟩
  ·exact h.keys k hk
 have hlen := len_keys hn hk
 have e : putL many L (E.key i) x = (L.filter fun p => !(p.1 == E.key i)) ++ [(E.key i, x)] := by
  unfold putL
  exact if_neg (by omega)
 rw [e]
 refine ⟨hn, hk, fun j hj h2 => ?_⟩
 rw [lookup_last]
 by_cases ej : E.key j = E.key i
 ·rw [if_pos ej]; rfl
 ·rw [if_neg ej]
  rcases hs j hj h2 with rfl | h2
  ·exact absurd rfl ej
  ·exact h.has j hj h2
theorem Roomy.get {E : BE} {many : Nat} {s : BS} {L : FL} (h : Roomy E many s L) {i : Nat} (hk : (L.lookup (E.key i)).isSome = true) {s' : BS} (hs : ∀ k ∈ E.sm, s'.st k = 2 → k = i ∨ s.st k = 2) : Roomy E many s' (getL L (E.key i)) := by
 refine ⟨?_, fun k hkm => ?_, fun j hj h2 => ?_⟩
 ·unfold getL
  split
  ·exact nodup_last h.nodup _ _
  ·exact h.nodup
 ·unfold getL at hkm
  split at hkm
  ·rename_i x hx
   rcases keys_last hkm with rfl | hkm
   ·exact h.keys _ (List.mem_map.2 ⟨_, mem_of_lookup hx, rfl⟩)
   ·exact h.keys k hkm
  ·exact h.keys k hkm
 ·rw [lookup_get]
  rcases hs j hj h2 with rfl | h2
  ·exact hk
  ·exact h.has j hj h2
end Go.Proofs.YtnmhaipjfpongacGreatDoor

namespace Go.Proofs.YtnmhaipjfpongacGreatDoor

def layY (E : BE) (s : BS) (O : FL) (i : Nat) : FL := if mst E s i = 2 then putT O (E.rule i).out (E.ans i).1 else if 3 ≤ mst E s i then delT O (E.rule i).out else O
def outY (E : BE) (s : BS) (O : FL) (o : List Nat) : FL := o.foldl (layY E s) O
theorem outY_step {E : BE} {s : BS} {O : FL} {o : List Nat} {j i : Nat} (h : o[j]? = some i) : outY E s O (o.take (j + 1)) = layY E s (outY E s O (o.take j)) i := by
 unfold outY
 rw [List.take_add_one, h, List.foldl_append]
 rfl

theorem lookup_permF {L M : FL} (hn : (L.map (·.1)).Nodup) (hp : L.Perm M) (q : B) : L.lookup q = M.lookup q := by
 have hn2 : (M.map (·.1)).Nodup := (hp.map _).nodup_iff.1 hn
 cases h : L.lookup q with
 | some x => exact (lookup_of_mem hn2 (hp.mem_iff.1 (mem_of_lookup h))).symm
 | none =>
  cases h2 : M.lookup q with
  | none => rfl
  | some x => rw [lookup_of_mem hn (hp.mem_iff.2 (mem_of_lookup h2))] at h; cases h
theorem lookup_delF (O : FL) (p q : B) : (delT O p).lookup q = if q = p then none else O.lookup q := by
 unfold delT
 by_cases e : q = p
 ·rw [if_pos e, e]; exact lookup_gone O
 ·rw [if_neg e]; exact lookup_drop O e
theorem lookup_setF {O : FL} (h : Rising O) (p x q : B) : (setT O p x).lookup q = if q = p then some x else O.lookup q := by
 rw [lookup_permF (h.set p x).nodup (set_perm h p x).symm q, List.lookup]
 by_cases e : q = p
 ·subst e
  rw [if_pos rfl, beq_self_eq_true]
 ·have e2 : (q == p) = false := beq_eq_false_iff_ne.2 e
  rw [if_neg e, e2]
  simp only
  rw [lookup_delF, if_neg e]
theorem lookup_putF {O : FL} (h : Rising O) {p x : B} (h0 : putCode O p x = 0) (q : B) : (putT O p x).lookup q = if q = p then some x else O.lookup q := by
 unfold putT
 rw [if_pos h0]
 exact lookup_setF h p x q

def NoClash (l : List Rule) : Prop := ∀ r ∈ l, ∀ q ∈ l, aboveB r.out q.out = false
structure OutIn (l : List Rule) (O : FL) : Prop where
 fits : Fits O
 own : ∀ q ∈ O, ∃ r ∈ l, r.out = q.1
theorem OutIn.nil (l : List Rule) : OutIn l [] := ⟨Fits.nil, fun _ h => by cases h⟩
theorem rule_path {r : Rule} (h : ruleCode r = 0) : pathOk r.out = true := by
 unfold ruleCode at h
 cases hp : pathOk r.out with
 | true => rfl
 | false => rw [if_pos hp] at h; cases h
theorem OutIn.few {l : List Rule} {O : FL} (h : OutIn l O) : O.length ≤ l.length := by
 have := nodup_len (b := l.map Rule.out) h.fits.rising.nodup fun p hp => by
  obtain ⟨q, hq, rfl⟩ := List.mem_map.1 hp
  obtain ⟨r, hr, e⟩ := h.own q hq
  exact List.mem_map.2 ⟨r, hr, e⟩
 rwa [List.length_map, List.length_map] at this
theorem OutIn.code {l : List Rule} {O : FL} (h : OutIn l O) (hR : RightS l) (hn : NoClash l) {r : Rule} (hr : r ∈ l) {x : B} (hx : x.length ≤ 2000) : putCode O r.out x = 0 := by
 unfold putCode
 rw [if_pos (rule_path (hR.2.1 r hr)), if_neg (by omega), if_neg, if_neg]
 ·rw [Bool.and_eq_true, decide_eq_true_eq]
  rintro ⟨_, h60⟩
  have := h.few
  have := hR.1
  omega
 ·unfold clash
  rw [List.any_eq_true]
  rintro ⟨q, hq, h2⟩
  obtain ⟨k, hk, e⟩ := h.own q hq
  rw [← e, hn r hr k hk, hn k hk r hr] at h2
  cases h2
theorem OutIn.put {l : List Rule} {O : FL} (h : OutIn l O) {r : Rule} (hr : r ∈ l) (x : B) : OutIn l (putT O r.out x) :=
 ⟨h.fits.put _ _, fun q hq => by
  unfold putT at hq
  split at hq
  ·rcases mem_set h.fits.rising hq with rfl | hq
   ·exact ⟨r, hr, rfl⟩
   ·exact h.own q hq
  ·exact h.own q hq⟩
theorem OutIn.del {l : List Rule} {O : FL} (h : OutIn l O) (p : B) : OutIn l (delT O p) := ⟨h.fits.del p, fun q hq => h.own q (List.mem_filter.1 hq).1⟩
def resY (E : BE) (i : Nat) : Option B := if (E.ans i).2 = 0 then some (E.ans i).1 else none
section
variable {E : BE} {s : BS} {O : FL} {o : List Nat} {is : Nat → Bool}
theorem rule_mem {i : Nat} (hi : i < E.l.length) : E.rule i ∈ E.l := List.mem_of_getElem? (BE.rule_at hi)
theorem OutIn.lay (h : OutIn E.l O) {i : Nat} (hi : i < E.l.length) : OutIn E.l (layY E s O i) := by
 unfold layY
 split
 ·exact h.put (rule_mem hi) _
 ·split
  ·exact h.del _
  ·exact h
theorem OutIn.outs (h : OutIn E.l O) : ∀ (o : List Nat), (∀ i ∈ o, i < E.l.length) → OutIn E.l (outY E s O o) := fun o ho => by
 unfold outY
 induction o generalizing O with
 | nil => exact h
 | cons i o ih => exact ih (h.lay (ho i (.head _))) fun k hk => ho k (.tail _ hk)
theorem rule_inj (hR : RightS E.l) {i k : Nat} (hi : i < E.l.length) (hk : k < E.l.length) (h : (E.rule i).out = (E.rule k).out) : i = k :=
 nodup_inj hR.2.2 (i := i) (j := k) (x := (E.rule i).out) (by rw [List.getElem?_map, BE.rule_at hi]; rfl) (by rw [List.getElem?_map, BE.rule_at hk, h]; rfl)
theorem lay_lookup (hW : BWell E o is) (hO : OutIn E.l O) (hn : NoClash E.l) {i : Nat} (hi : i ∈ E.sm) (hs : s.st i = finS E i) (p : B) : (layY E s O i).lookup p = if p = (E.rule i).out then resY E i else O.lookup p := by
 unfold layY resY
 rw [mst_in hi, hs]
 by_cases h0 : (E.ans i).2 = 0
 ·rw [if_pos (fin_two h0), if_pos h0]
  exact lookup_putF hO.fits.rising (hO.code hW.right hn (rule_mem (hW.lt i hi)) (hW.ok (E.rule i).out).len) p
 ·rw [if_neg (fin_not h0), if_neg h0, if_pos, lookup_delF]
  unfold finS
  rw [if_neg h0]
  split <;> omega
theorem outs_lookup (hW : BWell E o is) (hO : OutIn E.l O) (hn : NoClash E.l) (hs : ∀ i ∈ E.sm, s.st i = finS E i) : ∀ (q : List Nat), (∀ i ∈ q, i ∈ E.sm) → (∀ i ∈ q, (outY E s O q).lookup (E.rule i).out = resY E i) ∧ ∀ p, (∀ i ∈ q, (E.rule i).out ≠ p) → (outY E s O q).lookup p = O.lookup p := by
 intro q
 unfold outY
 induction q generalizing O with
 | nil => exact fun _ => ⟨fun i h => (by cases h), fun p _ => rfl⟩
 | cons k q ih =>
  intro hq
  have hk := hq k (.head _)
  obtain ⟨h1, h2⟩ := ih (hO.lay (s := s) (hW.lt k hk)) fun i hi => hq i (.tail _ hi)
  refine ⟨fun i hi => ?_, fun p hp => ?_⟩
  ·by_cases hiq : i ∈ q
   ·exact h1 i hiq
   ·have hik : i = k := (List.mem_cons.1 hi).resolve_right hiq
    subst hik
    rw [List.foldl_cons, h2 _ fun j hj e => hiq (by rw [← rule_inj hW.right (hW.lt j (hq j (.tail _ hj))) (hW.lt i hk) e]; exact hj), lay_lookup hW hO hn hk (hs i hk), if_pos rfl]
  ·rw [List.foldl_cons, h2 p fun j hj => hp j (.tail _ hj), lay_lookup hW hO hn hk (hs k hk), if_neg fun e => hp k (.head _) e.symm]
end

structure RoomK (E : BE) (KS : List B) (s : BS) (L : FL) : Prop where
 nodup : (L.map (·.1)).Nodup
 keys : ∀ k ∈ L.map (·.1), k ∈ KS
 has : ∀ i ∈ E.sm, s.st i = 2 → (L.lookup (E.key i)).isSome = true
theorem RoomK.len {E : BE} {KS : List B} {s : BS} {L : FL} (h : RoomK E KS s L) : L.length ≤ KS.length := by
 have := nodup_len h.nodup h.keys
 rwa [List.length_map] at this
theorem RoomK.put {E : BE} {KS : List B} {many : Nat} {s : BS} {L : FL} (h : RoomK E KS s L) (hm : KS.length ≤ many) {i : Nat} (hi : E.key i ∈ KS) (x : B) {s' : BS} (hs : ∀ k ∈ E.sm, s'.st k = 2 → k = i ∨ s.st k = 2) : RoomK E KS s' (putL many L (E.key i) x) := by
 have hn := nodup_last h.nodup (E.key i) x
 have hk : ∀ k ∈ ((L.filter fun p => !(p.1 == E.key i)) ++ [(E.key i, x)]).map (·.1), k ∈ KS := fun k hk => by
  rcases keys_last hk with rfl | hk
  ·exact hi
  ·exact h.keys k hk
 have hlen := nodup_len hn hk
 rw [List.length_map] at hlen
 have e : putL many L (E.key i) x = (L.filter fun p => !(p.1 == E.key i)) ++ [(E.key i, x)] := by
  unfold putL
  exact if_neg (by omega)
 rw [e]
 refine ⟨hn, hk, fun j hj h2 => ?_⟩
 rw [lookup_last]
 by_cases ej : E.key j = E.key i
 ·rw [if_pos ej]; rfl
 ·rw [if_neg ej]
  rcases hs j hj h2 with rfl | h2
  ·exact absurd rfl ej
  ·exact h.has j hj h2
theorem RoomK.get {E : BE} {KS : List B} {s : BS} {L : FL} (h : RoomK E KS s L) {i : Nat} (hk : (L.lookup (E.key i)).isSome = true) {s' : BS} (hs : ∀ k ∈ E.sm, s'.st k = 2 → k = i ∨ s.st k = 2) : RoomK E KS s' (getL L (E.key i)) := by
 refine ⟨?_, fun k hkm => ?_, fun j hj h2 => ?_⟩
 ·unfold getL
  split
  ·exact nodup_last h.nodup _ _
  ·exact h.nodup
 ·unfold getL at hkm
  split at hkm
  ·rename_i x hx
   rcases keys_last hkm with rfl | hkm
   ·exact h.keys _ (List.mem_map.2 ⟨_, mem_of_lookup hx, rfl⟩)
   ·exact h.keys k hkm
  ·exact h.keys k hkm
 ·rw [lookup_get]
  rcases hs j hj h2 with rfl | h2
  ·exact hk
  ·exact h.has j hj h2
end Go.Proofs.YtnmhaipjfpongacGreatDoor

namespace Go.Proofs.YtnmhaipjfpongacGreatDoor
open Go.ChangeShapes Go.WideShapes Go.ChangeAt Go.RowKit

section
variable {w w' : World} {P : Nat → Addr} {base : Nat} {E : BE} {K : BK} {s : BS}
theorem BldAt.hits (h : BldAt w P base E K s) {k : Nat} (hk : k ∈ E.sm) (h1 : s.st k = 1) {x : B} (hx : x = (E.ans k).1) : BldAt (((w.setCell ⟨K.blk k, 6, none⟩ (S x)).setCell ⟨K.blk k, 5, none⟩ (.bool true)).setCell ⟨K.blk k, 4, none⟩ (IN 2)) P base E K (doneP s k true) ∧ Only (InSteps E K) w (((w.setCell ⟨K.blk k, 6, none⟩ (S x)).setCell ⟨K.blk k, 5, none⟩ (.bool true)).setCell ⟨K.blk k, 4, none⟩ (IN 2)) := by
 have ho : Only (fun i => i = K.blk k) w (((w.setCell ⟨K.blk k, 6, none⟩ (S x)).setCell ⟨K.blk k, 5, none⟩ (.bool true)).setCell ⟨K.blk k, 4, none⟩ (IN 2)) := ((Only.set (p := fun i => i = K.blk k) _ rfl).then (Only.set (p := fun i => i = K.blk k) _ rfl)).then (Only.set (p := fun i => i = K.blk k) _ rfl)
 have ho2 : Only (InSteps E K) w (((w.setCell ⟨K.blk k, 6, none⟩ (S x)).setCell ⟨K.blk k, 5, none⟩ (.bool true)).setCell ⟨K.blk k, 4, none⟩ (IN 2)) := ho.mono fun i _ e => ⟨k, hk, e⟩
 refine ⟨h.change ho2 fun j hj => ?_, ho2⟩
 by_cases e : j = k
 ·subst e
  have h2 := heap_setCell_same (h.step j hj) 6 (S x)
  have h3 := heap_setCell_same h2 5 (.bool true)
  rw [heap_setCell_same h3, hx]
  have e4 : (doneP s j true).st j = 2 := if_pos rfl
  have e5 : (doneP s j true).hit j = true := if_pos rfl
  unfold stepC outC whyC
  rw [e4, e5, h1]
  rfl
 ·rw [stepC_done e]
  exact ho.heapOf (h.step j hj) (fun e2 => e (h.inj j hj k hk e2))
theorem BldAt.misses (h : BldAt w P base E K s) {k : Nat} (hk : k ∈ E.sm) (h1 : s.st k = 1) : BldAt ((w.setCell ⟨K.blk k, 6, none⟩ (S [])).setCell ⟨K.blk k, 5, none⟩ (.bool false)) P base E K s ∧ Only (InSteps E K) w ((w.setCell ⟨K.blk k, 6, none⟩ (S [])).setCell ⟨K.blk k, 5, none⟩ (.bool false)) := by
 have ho : Only (fun i => i = K.blk k) w ((w.setCell ⟨K.blk k, 6, none⟩ (S [])).setCell ⟨K.blk k, 5, none⟩ (.bool false)) := (Only.set (p := fun i => i = K.blk k) _ rfl).then (Only.set (p := fun i => i = K.blk k) _ rfl)
 have ho2 : Only (InSteps E K) w ((w.setCell ⟨K.blk k, 6, none⟩ (S [])).setCell ⟨K.blk k, 5, none⟩ (.bool false)) := ho.mono fun i _ e => ⟨k, hk, e⟩
 refine ⟨h.change ho2 fun j hj => ?_, ho2⟩
 by_cases e : j = k
 ·subst e
  have h2 := heap_setCell_same (h.step j hj) 6 (S [])
  rw [heap_setCell_same h2]
  unfold stepC outC whyC
  rw [h1]
  rfl
 ·exact ho.heapOf (h.step j hj) (fun e2 => e (h.inj j hj k hk e2))
end

structure CchAt (w : World) (E : BE) (K : BK) (cb cmb : Nat) (sv : Value) (many : Nat) (L : FL) : Prop where
 cache : CacheAt w cb cmb sv many L
 ok : CacheOk L
 len : L.length ≤ many
 many : many ≤ 100
 apart : ∀ i, InCache cb cmb sv i → ¬ InBld E K i
section
variable {w w' : World} {P : Nat → Addr} {base : Nat} {E : BE} {K : BK} {s : BS} {cb cmb : Nat} {sv : Value} {many : Nat} {L L' : FL}
theorem CchAt.steps (h : CchAt w E K cb cmb sv many L) (ho : Only (InSteps E K) w w') : CchAt w' E K cb cmb sv many L := ⟨h.cache.later ho (fun i hi e => h.apart i hi e.bld), h.ok, h.len, h.many, h.apart⟩
theorem CchAt.ext (h : CchAt w E K cb cmb sv many L) (ho : Ext w w') : CchAt w' E K cb cmb sv many L := ⟨h.cache.later ho (fun _ _ h => h), h.ok, h.len, h.many, h.apart⟩
theorem CchAt.bld (h : CchAt w E K cb cmb sv many L) (hb : BldAt w P base E K s) (ho : Only (InCache cb cmb sv) w w') : BldAt w' P base E K s := hb.later ho (fun i hi e => h.apart i e hi)
theorem CchAt.got (h : CchAt w E K cb cmb sv many L) (hb : BldAt w P base E K s) (hok : CacheOk L') (hlen : L'.length ≤ many) {r : Value} {e : Ending} (hg : Got w cb cmb sv many L' r e w') :
  ∃ sv', e = .returned r ∧ CchAt w' E K cb cmb sv' many L' ∧ BldAt w' P base E K s ∧ Only (InCache cb cmb sv) w w' ∧ ∀ i, InCache cb cmb sv' i → InCache cb cmb sv i ∨ w.heap.size ≤ i := by
 obtain ⟨sv', rfl, hc, ho, hn⟩ := hg
 refine ⟨sv', rfl, ⟨hc, hok, hlen, h.many, fun i hi e => ?_⟩, h.bld hb ho, ho, hn⟩
 rcases hn i hi with h1 | h1
 ·exact h.apart i h1 e
 ·have := hb.lt i e; omega
end
theorem putL_le {n : Nat} {L : FL} (k x : B) (h : L.length ≤ n) : (putL n L k x).length ≤ n := by
 unfold putL
 have := List.length_filter_le (fun p : B × B => !(p.1 == k)) L
 split
 ·simp only [List.length_tail, List.length_append, List.length_cons, List.length_nil]
  omega
 ·rename_i h2
  omega
theorem getL_le {n : Nat} {L : FL} (k : B) (hn : (L.map (·.1)).Nodup) (h : L.length ≤ n) : (getL L k).length ≤ n := by
 unfold getL
 cases hl : L.lookup k with
 | none => exact h
 | some x =>
  have hp := (perm_of_lookup hn hl).length_eq
  simp only [List.length_append, List.length_cons, List.length_nil] at hp ⊢
  omega

def RunCPost (w : World) (P : Nat → Addr) (base : Nat) (E : BE) (K : BK) (cb cmb : Nat) (sv : Value) (many : Nat) (L : FL) (r : Bool × Nat) (s : BS) (e : Ending) (w' : World) : Prop :=
 ∃ sv', e = .returned (.tuple #[.bool r.1, errC P r.2]) ∧ BldAt w' P base E K s ∧ CchAt w' E K cb cmb sv' many L ∧ Only (fun i => InSteps E K i ∨ InCache cb cmb sv i) w w' ∧ ∀ i, InCache cb cmb sv' i → InCache cb cmb sv i ∨ w.heap.size ≤ i
end Go.Proofs.YtnmhaipjfpongacGreatDoor
