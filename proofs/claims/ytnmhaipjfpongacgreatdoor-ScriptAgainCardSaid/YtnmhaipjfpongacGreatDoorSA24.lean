/- Texts of this seat laid together for one claim: Z2, Z10, Ya1, Z3. No condition of its own: what each proves stands with its theorems. -/
import Derived.Test.YtnmhaipjfpongacGreatDoorSA20
import Derived.Test.YtnmhaipjfpongacGreatDoorSA5
import Derived.Test.YtnmhaipjfpongacGreatDoorSA23
import Derived.Test.YtnmhaipjfpongacGreatDoorSA15
import Derived.Test.YtnmhaipjfpongacGreatDoorSA12
namespace Go.Proofs.YtnmhaipjfpongacGreatDoor

structure BWell (E : BE) (o : List Nat) (is : Nat → Bool) : Prop where
 right : RightS E.l
 ord : Ordered E.l.length (needB E.l) is o
 lt : ∀ i ∈ E.sm, i < E.l.length
 cov : ∀ i ∈ E.sm, i ∈ o
 clos : ∀ i ∈ E.sm, ∀ k, k < E.l.length → needB E.l i k = true → k ∈ E.sm
 rise : E.sm.Pairwise fun x y => x < y
 bytes : ∀ p s, E.T.lookup p = some s → s.length ≤ 2000

section
variable {E : BE} {o : List Nat} {is : Nat → Bool}

theorem BWell.nodup (h : BWell E o is) : E.sm.Nodup := h.rise.imp fun h => Nat.ne_of_lt h
theorem BE.rule_at {i : Nat} (h : i < E.l.length) : E.l[i]? = some (E.rule i) := by
 unfold BE.rule
 rw [List.getElem?_eq_getElem h]
 rfl
theorem find_out {l : List Rule} (hn : (l.map Rule.out).Nodup) {i : Nat} {r : Rule} (h : l[i]? = some r) : l.findIdx? (fun q => q.out == r.out) = some i := by
 obtain ⟨h1, h2⟩ := List.getElem?_eq_some_iff.1 h
 rw [List.findIdx?_eq_some_iff_getElem]
 refine ⟨h1, by rw [h2]; exact beq_iff_eq.2 rfl, fun j hj => ?_⟩
 rw [Bool.not_eq_true]
 refine beq_eq_false_iff_ne.2 fun e => ?_
 have := nodup_inj hn (i := j) (j := i) (x := r.out) (by rw [List.getElem?_map, List.getElem?_eq_getElem (by omega), Option.map_some, e]) (by rw [List.getElem?_map, h]; rfl)
 omega
theorem rule_out {l : List Rule} (hn : (l.map Rule.out).Nodup) {i : Nat} {r : Rule} (h : l[i]? = some r) : ruleOf l r.out = some r := by
 obtain ⟨r', h1, _, h3⟩ := findI_some (find_out hn h)
 rw [h] at h1
 cases h1
 exact h3
theorem need_iff {i k : Nat} (hi : i < E.l.length) (hk : k < E.l.length) : E.nd i k = true ↔ (E.rule k).out ∈ (E.rule i).ins := by
 unfold BE.nd needB
 rw [BE.rule_at hi, BE.rule_at hk]
 simp

theorem BWell.asks (h : BWell E o is) : Asks E.l E.T E.W (InO E.l o) (rankO E.l o) := by
 obtain ⟨h1, h2⟩ := ranked_order h.ord
 exact asks_want h1 h2 h.bytes
theorem BWell.inO (h : BWell E o is) {i : Nat} (hi : i ∈ E.sm) : InO E.l o (E.rule i).out := fun k hk => by
 rw [find_out h.right.2.2 (BE.rule_at (h.lt i hi))] at hk
 cases hk
 exact h.cov i hi
theorem BWell.ans (h : BWell E o is) {i : Nat} (hi : i ∈ E.sm) : E.ans i = wMade E.W (E.rule i) := by
 have := h.asks.step _ (h.inO hi)
 unfold BE.ans
 rw [this]
 unfold wStep
 rw [rule_out h.right.2.2 (BE.rule_at (h.lt i hi))]
theorem BWell.ok (h : BWell E o is) (p : B) : TldOk (E.W p) := wantF_ok h.bytes _ p

theorem BWell.input (h : BWell E o is) {i : Nat} (hi : i ∈ E.sm) {q : B} (hq : q ∈ (E.rule i).ins) :
  (∃ k ∈ E.sm, E.nd i k = true ∧ (E.rule k).out = q ∧ E.by_ q = some k ∧ E.W q = E.ans k) ∨ (E.by_ q = none ∧ E.W q = wLeaf E.T q) := by
 have hdown := h.asks.down _ (h.inO hi) _ (rule_out h.right.2.2 (BE.rule_at (h.lt i hi))) q hq
 cases hf : E.l.findIdx? (fun r => r.out == q) with
 | some k =>
  obtain ⟨r, h1, h2, _⟩ := findI_some hf
  have hk := (List.getElem?_eq_some_iff.1 h1).1
  have hr : E.rule k = r := by unfold BE.rule; rw [h1]; rfl
  have hn : E.nd i k = true := (need_iff (h.lt i hi) hk).2 (by rw [hr, h2]; exact hq)
  have hks := h.clos i hi k hk hn
  refine .inl ⟨k, hks, hn, by rw [hr, h2], ?_, by unfold BE.ans; rw [hr, h2]⟩
  cases hb : E.by_ q with
  | none => exact absurd (by rw [hr, h2]) (by_none hb k hks)
  | some k' =>
   obtain ⟨h3, h4⟩ := by_some hb
   have := nodup_inj h.right.2.2 (i := k') (j := k) (x := q) (by rw [List.getElem?_map, BE.rule_at (h.lt k' h3), Option.map_some, h4]) (by rw [List.getElem?_map, h1, Option.map_some, h2])
   rw [this]
 | none =>
  refine .inr ⟨?_, ?_⟩
  ·cases hb : E.by_ q with
   | none => rfl
   | some k =>
    obtain ⟨h3, h4⟩ := by_some hb
    rw [List.findIdx?_eq_none_iff] at hf
    have := hf _ (List.mem_of_getElem? (BE.rule_at (h.lt k h3)))
    rw [h4] at this
    simp at this
  ·rw [h.asks.step q hdown.1]
   unfold wStep
   have : ruleOf E.l q = none := by
    unfold ruleOf
    rw [List.findIdx?_eq_none_iff] at hf
    exact List.find?_eq_none.2 fun x hx => by rw [hf x hx]; decide
   rw [this]

theorem BWell.runs (h : BWell E o is) {s : BS} (I : BInv E s) {i : Nat} (hi : i ∈ E.sm) (hr : readyP E s i = true) :
  (∃ (j : Nat) (q : B), (E.rule i).ins[j]? = some q ∧ E.by_ q = none ∧ E.T.lookup q = none ∧ E.ans i = ([], 6) ∧ ∀ x ∈ (E.rule i).ins.take j, (E.W x).2 = 0) ∨
  ((∀ q ∈ (E.rule i).ins, (E.W q).2 = 0) ∧ E.ans i = (runOut (E.rule i).kind (E.rule i).word (E.args i), runCode (E.rule i).kind (E.rule i).word (E.args i))) := by
 have hdone : ∀ q ∈ (E.rule i).ins, (E.W q).2 = 0 ∨ (E.by_ q = none ∧ E.T.lookup q = none ∧ E.W q = ([], 6)) := fun q hq => by
  rcases h.input hi hq with ⟨k, hk, hn, _, _, e⟩ | ⟨h1, e⟩
  ·left
   rw [e]
   exact I.two k hk ((ready_iff.1 hr).2 k hk hn)
  ·rw [e]
   unfold wLeaf
   cases hl : E.T.lookup q with
   | some x => exact .inl rfl
   | none => exact .inr ⟨h1, rfl, rfl⟩
 cases hf : (E.rule i).ins.findIdx? (fun q => (E.W q).2 != 0) with
 | some j =>
  left
  rw [List.findIdx?_eq_some_iff_getElem] at hf
  obtain ⟨h1, h2, h3⟩ := hf
  have hq : (E.rule i).ins[j]? = some (E.rule i).ins[j] := List.getElem?_eq_getElem h1
  have hz : ∀ x ∈ (E.rule i).ins.take j, (E.W x).2 = 0 := fun x hx => by
   obtain ⟨t, ht, rfl⟩ := List.mem_take_iff_getElem.1 hx
   have := h3 t (by omega)
   simpa using this
  rcases hdone _ (List.mem_of_getElem? hq) with h4 | ⟨h4, h5, h6⟩
  ·rw [h4] at h2; cases h2
  ·exact ⟨j, _, hq, h4, h5, by rw [h.ans hi, made_bad hq (by rw [h6]; decide) hz, h6], hz⟩
 | none =>
  right
  rw [List.findIdx?_eq_none_iff] at hf
  have hz : ∀ q ∈ (E.rule i).ins, (E.W q).2 = 0 := fun q hq => by simpa using hf q hq
  exact ⟨hz, by rw [h.ans hi, made_ok hz]; rfl⟩

theorem BWell.self (h : BWell E o is) {i : Nat} (hi : i ∈ E.sm) : E.nd i i = false := by
 cases hn : E.nd i i with
 | false => rfl
 | true =>
  obtain ⟨j, hj⟩ := List.getElem?_of_mem (h.cov i hi)
  have h1 := h.ord.need j i hj i (h.lt i hi) hn
  obtain ⟨t, ht, e⟩ := List.mem_take_iff_getElem.1 h1
  have h2 : o[t]? = some i := by rw [← e]; exact List.getElem?_eq_getElem (by omega)
  have := nodup_inj h.ord.nodup h2 hj
  omega

theorem BWell.step (h : BWell E o is) {s : BS} (I : BInv E s) {i : Nat} (hi : i ∈ E.sm) (hr : readyP E s i = true) (b : Bool) : BInv E (if (E.ans i).2 ≠ 0 then failP E s i else doneP s i b) := by
 by_cases ha : (E.ans i).2 = 0
 ·rw [if_neg (by simpa using ha)]
  exact I.done hi hr ha b
 ·rw [if_pos ha]
  exact I.fail hi hr ha (h.self hi)
theorem run_ready {C : CS} {s : BS} {i : Nat} (hi : i ∈ E.sm) (hr : readyP E s i = true) : ∃ b C', runP E C s i = ((b, 0), (if (E.ans i).2 ≠ 0 then failP E s i else doneP s i b), C') := by
 have h1 := (ready_iff.1 hr).1
 unfold runP
 rw [if_neg (by simpa using hi), if_neg (by simpa using h1), if_neg (by rw [hr]; decide)]
 by_cases ha : (E.ans i).2 = 0
 ·rw [if_neg (by simpa using ha)]
  rcases C with _ | ⟨many, L⟩
  ·exact ⟨false, none, by rw [if_neg (by simpa using ha)]⟩
  ·simp only
   cases hl : L.lookup (E.key i) with
   | none => exact ⟨false, _, by rw [if_neg (by simpa using ha)]⟩
   | some x => exact ⟨true, _, by rw [if_neg (by simpa using ha)]⟩
 ·rw [if_pos ha]
  exact ⟨false, C, by rw [if_pos ha]⟩
theorem run_not {C : CS} {s : BS} {i : Nat} (h : ¬ (i ∈ E.sm ∧ readyP E s i = true)) : ∃ c, runP E C s i = ((false, c), s, C) ∧ c ≠ 0 := by
 unfold runP
 by_cases h1 : i ∈ E.sm
 ·rw [if_neg (by simpa using h1)]
  by_cases h2 : s.st i = 1
  ·rw [if_neg (by simpa using h2)]
   have h3 : readyP E s i = false := by
    cases hr : readyP E s i with
    | false => rfl
    | true => exact absurd ⟨h1, hr⟩ h
   rw [if_pos h3]
   exact ⟨11, rfl, by decide⟩
  ·rw [if_pos h2]; exact ⟨12, rfl, by decide⟩
 ·rw [if_pos h1]; exact ⟨6, rfl, by decide⟩
theorem BWell.run (h : BWell E o is) {C : CS} {s : BS} (I : BInv E s) (i : Nat) : BInv E (runP E C s i).2.1 := by
 by_cases hr : i ∈ E.sm ∧ readyP E s i = true
 ·obtain ⟨b, C', e⟩ := run_ready (C := C) hr.1 hr.2
  rw [e]
  exact h.step I hr.1 hr.2 b
 ·obtain ⟨c, e, _⟩ := run_not (C := C) hr
  rw [e]
  exact I

def ranP (s : BS) (k : Nat) : Bool := s.st k == 2 || s.st k == 3
theorem ran_fail {s : BS} {i : Nat} (k : Nat) : ranP (failP E s i) k = (decide (k = i) || ranP s k) := by
 have e : ∀ k, (setP s i 3).st k = if k = i then 3 else s.st k := fun _ => rfl
 unfold ranP failP
 rcases spread_cases (E := E) (s := setP s i 3) k with ⟨_, h2, h3⟩ | ⟨_, h2⟩
 ·rw [h2]
  rw [e] at h3
  by_cases hk : k = i
  ·rw [if_pos hk] at h3; omega
  ·rw [if_neg hk] at h3
   rw [h3, decide_eq_false hk]
   rfl
 ·rw [h2, e]
  by_cases hk : k = i
  ·rw [if_pos hk, decide_eq_true hk]; rfl
  ·rw [if_neg hk, decide_eq_false hk, Bool.false_or]
theorem ran_done {s : BS} {i : Nat} {b : Bool} (k : Nat) : ranP (doneP s i b) k = (decide (k = i) || ranP s k) := by
 have e : ∀ k, (doneP s i b).st k = if k = i then 2 else s.st k := fun _ => rfl
 unfold ranP
 rw [e]
 by_cases hk : k = i
 ·rw [if_pos hk, decide_eq_true hk]; rfl
 ·rw [if_neg hk, decide_eq_false hk, Bool.false_or]
theorem ran_step {s : BS} {i : Nat} {b : Bool} (k : Nat) : ranP (if (E.ans i).2 ≠ 0 then failP E s i else doneP s i b) k = (decide (k = i) || ranP s k) := by
 split
 ·exact ran_fail k
 ·exact ran_done k
theorem ready_not_ran {s : BS} {i : Nat} (hr : readyP E s i = true) : ranP s i = false := by
 unfold ranP
 rw [(ready_iff.1 hr).1]
 rfl

theorem BWell.over (h : BWell E o is) {s : BS} (I : BInv E s) (hn : ∀ i ∈ E.sm, readyP E s i = false) : ∀ i ∈ E.sm, s.st i ≠ 1 := by
 have key : ∀ (j : Nat) i, o[j]? = some i → i ∈ E.sm → s.st i ≠ 1 := by
  intro j
  induction j using Nat.strongRecOn with
  | ind j ih =>
   intro i hj hi h1
   have : readyP E s i = true := by
    rw [ready_iff]
    refine ⟨h1, fun k hk hnd => ?_⟩
    have hko := h.ord.need j i hj k (h.lt k hk) hnd
    obtain ⟨t, ht, e⟩ := List.mem_take_iff_getElem.1 hko
    have h2 := ih t (by omega) k (by rw [← e]; exact List.getElem?_eq_getElem (by omega)) hk
    have h3 := I.clos i hi h1 k hk hnd
    have h4 := I.rng k hk
    omega
   rw [hn i hi] at this
   cases this
 intro i hi
 obtain ⟨j, hj⟩ := List.getElem?_of_mem (h.cov i hi)
 exact key j i hj hi

end
end Go.Proofs.YtnmhaipjfpongacGreatDoor

namespace Go.Proofs.YtnmhaipjfpongacGreatDoor

section
variable {E : BE} {o : List Nat} {is : Nat → Bool}
end

def CacheOk (L : FL) : Prop := ∀ k x, L.lookup k = some x → ∃ kind word ins, k = keyT kind word ins ∧ runCode kind word ins = 0 ∧ x = runOut kind word ins
theorem CacheOk.nil : CacheOk [] := fun _ _ h => by cases h
theorem CacheOk.hit {L : FL} (h : CacheOk L) {kind word : B} {ins : List B} {x : B} (hx : L.lookup (keyT kind word ins) = some x) : runCode kind word ins = 0 ∧ x = runOut kind word ins := by
 obtain ⟨k, w, i, e, h1, h2⟩ := h _ _ hx
 obtain ⟨rfl, rfl, rfl⟩ := keyT_inj e
 exact ⟨h1, h2⟩

theorem lookup_drop {k s : B} : ∀ (L : FL), s ≠ k → (L.filter fun p => !(p.1 == k)).lookup s = L.lookup s
 | [], _ => rfl
 | (a, x) :: L, h => by
  by_cases ha : a = k
  ·subst ha
   have hs : (s == a) = false := beq_eq_false_iff_ne.2 h
   rw [List.filter_cons_of_neg (by simp), lookup_drop L h, List.lookup, hs]
  ·rw [List.filter_cons_of_pos (by simpa using ha)]
   simp only [List.lookup]
   rw [lookup_drop L h]
theorem lookup_gone {k : B} : ∀ (L : FL), (L.filter fun p => !(p.1 == k)).lookup k = none
 | [] => rfl
 | (a, x) :: L => by
  by_cases ha : a = k
  ·subst ha
   rw [List.filter_cons_of_neg (by simp)]
   exact lookup_gone L
  ·have hs : (k == a) = false := beq_eq_false_iff_ne.2 (Ne.symm ha)
   rw [List.filter_cons_of_pos (by simpa using ha)]
   simp only [List.lookup, hs]
   exact lookup_gone L
theorem lookup_app (L : FL) (k x s : B) : (L ++ [(k, x)]).lookup s = match L.lookup s with | some y => some y | none => if s = k then some x else none := by
 rw [List.lookup_append]
 cases h : L.lookup s with
 | some y => rfl
 | none =>
  rw [Option.none_or]
  by_cases e : s = k
  ·subst e; simp [List.lookup]
  ·have : (s == k) = false := beq_eq_false_iff_ne.2 e
   simp [List.lookup, this, e]
theorem lookup_last (L : FL) (k x s : B) : ((L.filter fun p => !(p.1 == k)) ++ [(k, x)]).lookup s = if s = k then some x else L.lookup s := by
 rw [lookup_app]
 by_cases e : s = k
 ·subst e
  rw [lookup_gone, if_pos rfl]
  simp
 ·rw [lookup_drop L e, if_neg e, if_neg e]
  cases L.lookup s <;> rfl
theorem lookup_get (L : FL) (k s : B) : (getL L k).lookup s = L.lookup s := by
 unfold getL
 cases h : L.lookup k with
 | none => rfl
 | some x =>
  simp only
  rw [lookup_last]
  by_cases e : s = k
  ·rw [if_pos e, e, h]
  ·rw [if_neg e]
theorem lookup_tail {L : FL} {s x : B} (hn : (L.map (·.1)).Nodup) (h : L.tail.lookup s = some x) : L.lookup s = some x := by
 cases L with
 | nil => exact h
 | cons p L =>
  obtain ⟨a, y⟩ := p
  have hm := mem_of_lookup h
  rw [List.map_cons, List.nodup_cons] at hn
  have : (s == a) = false := beq_eq_false_iff_ne.2 fun e => hn.1 (List.mem_map.2 ⟨(s, x), hm, e⟩)
  rw [List.lookup, this]
  exact h
theorem nodup_last {L : FL} (hn : (L.map (·.1)).Nodup) (k x : B) : (((L.filter fun p => !(p.1 == k)) ++ [(k, x)]).map (·.1)).Nodup := by
 rw [List.map_append, List.map_cons, List.map_nil]
 have h1 : ((L.filter fun p => !(p.1 == k)).map (·.1)).Nodup := hn.sublist ((List.filter_sublist).map _)
 refine List.nodup_append.2 ⟨h1, List.nodup_cons.2 ⟨by simp, List.nodup_nil⟩, fun a ha b hb e => ?_⟩
 rw [List.mem_singleton] at hb
 obtain ⟨p, hp, rfl⟩ := List.mem_map.1 ha
 have := (List.mem_filter.1 hp).2
 rw [e, hb] at this
 simp at this
theorem put_lookup {L : FL} {many : Nat} {k x s y : B} (hn : (L.map (·.1)).Nodup) (h : (putL many L k x).lookup s = some y) : (s = k ∧ y = x) ∨ L.lookup s = some y := by
 have key : ((L.filter fun p => !(p.1 == k)) ++ [(k, x)]).lookup s = some y → (s = k ∧ y = x) ∨ L.lookup s = some y := fun h => by
  rw [lookup_last] at h
  by_cases e : s = k
  ·rw [if_pos e] at h; exact .inl ⟨e, (Option.some.inj h).symm⟩
  ·rw [if_neg e] at h; exact .inr h
 unfold putL at h
 split at h
 ·exact key (lookup_tail (nodup_last hn k x) h)
 ·exact key h
theorem CacheOk.get {L : FL} (h : CacheOk L) (k : B) : CacheOk (getL L k) := fun s x hs => h s x (by rwa [lookup_get] at hs)
theorem CacheOk.put {L : FL} (h : CacheOk L) (hn : (L.map (·.1)).Nodup) (many : Nat) {kind word : B} {ins : List B} (h0 : runCode kind word ins = 0) : CacheOk (putL many L (keyT kind word ins) (runOut kind word ins)) := fun s x hs => by
 rcases put_lookup hn hs with ⟨rfl, rfl⟩ | hs
 ·exact ⟨kind, word, ins, rfl, h0, rfl⟩
 ·exact h s x hs

end Go.Proofs.YtnmhaipjfpongacGreatDoor

namespace Go.Proofs.YtnmhaipjfpongacGreatDoor

def layY (E : BE) (s : BS) (O : FL) (i : Nat) : FL := if mst E s i = 2 then putT O (E.rule i).out (E.ans i).1 else if 3 ≤ mst E s i then delT O (E.rule i).out else O
def outY (E : BE) (s : BS) (O : FL) (o : List Nat) : FL := o.foldl (layY E s) O
theorem outY_step {E : BE} {s : BS} {O : FL} {o : List Nat} {j i : Nat} (h : o[j]? = some i) : outY E s O (o.take (j + 1)) = layY E s (outY E s O (o.take j)) i := by
 unfold outY
 rw [List.take_add_one, h, List.foldl_append]
 rfl

theorem rule_path {r : Rule} (h : ruleCode r = 0) : pathOk r.out = true := by
 unfold ruleCode at h
 cases hp : pathOk r.out with
 | true => rfl
 | false => rw [if_pos hp] at h; cases h
section
variable {E : BE} {s : BS} {O : FL} {o : List Nat} {is : Nat → Bool}
theorem rule_mem {i : Nat} (hi : i < E.l.length) : E.rule i ∈ E.l := List.mem_of_getElem? (BE.rule_at hi)
end

end Go.Proofs.YtnmhaipjfpongacGreatDoor

namespace Go.Proofs.YtnmhaipjfpongacGreatDoor
open Go.ChangeShapes Go.WideShapes Go.ChangeAt Go.RowKit

abbrev RowP (base : Nat) (w : World) (v : Value) (l : List Nat) : Prop := w.ownsRow base 187 1 v l.length (l.map PTR)
theorem infoStepP : (Tryz.prog.info? 187).map (fun i => (i.zero, i.size, i.bytes)) = some (some (.pointer none), 1, 8) := by kernel_rfl
theorem RowP.nil (base : Nat) (w : World) : RowP base w (.slice none 0 0) [] := World.ownsRow_nil _ _ _ _
theorem RowP.rd {base : Nat} {w : World} {v : Value} {l : List Nat} (h : RowP base w v l) : Rd PTR w v l := Rd.of_row h
theorem RowP.base {base : Nat} {w : World} {v : Value} {l : List Nat} (h : RowP base w v l) : ∀ i, v.ownBlock = some i → base ≤ i := fun i hi => (h.lt i hi).1

theorem wpPtr {P : Program} (hP : P = Tryz.prog) {ops : Array Oper} {rest : List Oper} {o : Oper} {a : Act} {Q : Exit → Act → World → Prop} (s x : Operand) (w0 : World) (base : Nat) (v : Value) (l : List Nat) (k : Nat) (W : World) (hgd : o.guard = none)
  (ho : o.op = .call { callee := .builtin .append, args := #[s, x], argTypes := #[251, 251] }) (hs : a.eval s = v) (hx : a.eval x = .slice (some ⟨W.heap.size, 0, none⟩) 1 1)
  (hrow : RowP base W v l) (hl : l.length ≤ 1000000) (hbase : base ≤ W.heap.size) (hxt : Ext w0 W) (hb0 : w0.heap.size ≤ base)
  (hK : ∀ g cap w', Hid (RowP base w' (.slice (some ⟨g, 0, none⟩) (l.length + 1) cap) (l ++ [k])) → Hid (Ext w0 w') → Hid (W.grownBy w' v.ownBlock) →
   wpList P ops Q rest (a.put o.dst (.slice (some ⟨g, 0, none⟩) (l.length + 1) cap)) w') :
  wpList P ops Q (o :: rest) a (W.alloc (.cells #[PTR k] 187 (0, 0))) := by
 subst hP
 have hf : ∀ q : List Nat, q.flatMap (fun k => [PTR k]) = q.map PTR := fun q => by induction q with
  | nil => rfl
  | cons x q ih => rw [List.flatMap_cons, List.map_cons, ih]; rfl
 refine wpList_appS (fun k : Nat => [PTR k]) 251 187 1 8 _ infoStepP Tryz.underlying251 rfl (by decide) (fun _ => rfl) (fun _ u hu => by cases List.mem_singleton.1 hu; rfl) (by decide) s x base v l k W _ rfl hgd ho hs hx (by rw [hf]; exact hrow) hl hbase ?_
 intro g cap w' h1 h2 h3
 rw [hf] at h1
 refine hK g cap w' (Lib.hid ?_) (Lib.hid (grown_ext hxt (fun i hi => Nat.le_trans hb0 (hrow.base i hi)) h2)) (Lib.hid h2)
 show World.ownsRow _ _ _ _ _ (l ++ [k]).length _
 rw [List.length_append]
 exact h1

def BE.needs (E : BE) (ins : List B) : List Nat := ins.filterMap E.by_
theorem needs_step {E : BE} {ins : List B} {t : Nat} {q : B} (h : ins[t]? = some q) : E.needs (ins.take (t + 1)) = E.needs (ins.take t) ++ (match E.by_ q with | some k => [k] | none => []) := by
 unfold BE.needs
 rw [List.take_add_one, h, List.filterMap_append]
 congr 1
 cases hb : E.by_ q <;> simp [hb]
theorem needs_len (E : BE) (ins : List B) : (E.needs ins).length ≤ ins.length := List.length_filterMap_le _ _
theorem needs_mem {E : BE} {ins : List B} {k : Nat} (h : k ∈ E.needs ins) : k ∈ E.sm ∧ (E.rule k).out ∈ ins := by
 obtain ⟨q, hq, e⟩ := List.mem_filterMap.1 h
 obtain ⟨h1, h2⟩ := by_some e
 exact ⟨h1, by rw [h2]; exact hq⟩

def RetP (K : BK) (l : List Nat) (w : World) (e : Ending) (w' : World) : Prop := ∃ v, e = .returned v ∧ RowP w.heap.size w' v (l.map K.blk) ∧ Ext w w'

set_option maxRecDepth 100000 in
set_option maxHeartbeats 4000000 in
theorem needs_any (w : World) (P : Nat → Addr) (base : Nat) (E : BE) (K : BK) (s : BS) (i : Nat) (hi : i ∈ E.sm) (h : BldAt w P base E K s) (hl : (E.rule i).ins.length ≤ 900000) :
  Calls Tryz.prog 186 #[PTR K.b, PTR (K.blk i)] w (RetP K (E.needs (E.rule i).ins) w) := by
 have HB := Lib.hid h
 have c1 := (h.cell 1).trans (rfl : _ = some (Value.map (some K.lb)))
 have c2 := (h.cell 2).trans (rfl : _ = some (Value.map (some K.bb)))
 have c3 := (h.stepCell hi 3).trans (rfl : _ = some (K.iv i))
 obtain ⟨au, cu, hiv, _, _, hc⟩ := (h.ins i hi).rd
 rw [hiv] at c3
 obtain ⟨ins, hins⟩ : ∃ ins, ins = (E.rule i).ins := ⟨_, rfl⟩
 rw [← hins] at hl c3 hc ⊢
 have HC := Lib.hid hc
 have hinz : (ins.length : Int) ≤ 900000 := by omega
 clear h hi hiv hc hins
 go_enter Tryz.func186, Tryz.ntmps186
 go_wp2_with fail
 go_loopw [5, 7, 8, 9, 16] (fun q _ _ _ t wr => ∃ (j : Nat) (qv : Value), qv = q ∧ j ≤ ins.length ∧ t = .int .i64 j ∧ Hid (RowP w.heap.size wr qv ((E.needs (ins.take j)).map K.blk)) ∧ Hid (Ext w wr)) (fun _ _ _ _ t _ => ins.length - (intOf t).toNat)
 case atStart => exact ⟨0, _, rfl, Nat.zero_le _, rfl, Lib.hid (RowP.nil _ _), Lib.hid (Only.refl _ _)⟩
 case round =>
  obtain ⟨j, qv, rfl, hj, rfl, HR, HX⟩ := hrel
  by_cases hlt : j < ins.length
  ·have hltz : (j : Int) < (ins.length : Int) := by omega
   have hj0 : (0 : Int) ≤ (j : Int) := by omega
   obtain ⟨b, off, rfl, hcell⟩ := HC.out (by intro h; rw [h] at hlt; simp at hlt)
   obtain ⟨q, hq⟩ : ∃ y, ins[j]? = some y := ⟨_, List.getElem?_eq_getElem hlt⟩
   have d0 := HX.out.cellOf (hcell j q hq) (fun h => h)
   have d1 := HX.out.cellOf c1 (fun h => h)
   have d2 := HX.out.cellOf c2 (fun h => h)
   have hlk := KMap.look (P := Tryz.prog) keyOk_str (HB.out.outs.later HX.out (fun h => h)) Tryz.underlying181 Tryz.underlying9 (z := .int .i64 0) (by kernel_rfl) q
   rw [show (List.map (fun i => ((E.rule i).out, i)) E.sm).lookup q = E.by_ q from rfl] at hlk
   have hst := needs_step (E := E) hq
   have hnl : ((E.needs (ins.take j)).map K.blk).length ≤ 900000 := by
    have h1 := needs_len E (ins.take j)
    rw [List.length_take] at h1
    rw [List.length_map]
    omega
   cases hby : E.by_ q with
   | none =>
    rw [hby] at hlk hst
    simp only [List.append_nil] at hst
    simp only [Option.isSome_none] at hlk
    rw [← hst] at HR
    clear hcell hq hst hby hnl
    go_wp2_with fail
    go_roundw
    case rel => exact ⟨j + 1, _, rfl, by omega, by go_num, HR, HX⟩
    case measure => simp [intOf]; omega
   | some k =>
    rw [hby] at hlk hst
    simp only [Option.isSome_some] at hlk
    have hls := KMap.look1 (P := Tryz.prog) keyOk_int (HB.out.steps.later HX.out (fun h => h)) Tryz.underlying184 Tryz.underlying3 (z := .pointer none) (by kernel_rfl) (k : Int)
    rw [steps_lookup (by_some hby).1] at hls
    simp only at hls
    have HST : Hid ((E.needs (ins.take (j + 1))).map K.blk = (E.needs (ins.take j)).map K.blk ++ [K.blk k]) := Lib.hid (by rw [hst]; simp)
    have HNL := Lib.hid hnl
    clear hcell hq hst hby hnl
    generalize (E.needs (ins.take j)).map K.blk = nl at HR HST HNL
    go_wp2_with (at_builtin; refine wpPtr rfl (.tmp 30) (.tmp 37) w w.heap.size _ nl (K.blk k) wr rfl rfl rfl rfl HR.out (Nat.le_trans HNL.out (by decide)) HX.out.size HX.out (Nat.le_refl _) ?_; intro g5 cap5 w5 HR5 HX5 _)
    go_roundw
    case rel => exact ⟨j + 1, _, rfl, by omega, by go_num, by rw [HST.out]; exact HR5, HX5⟩
    case measure => simp [intOf]; omega
  ·have hltz : ¬ (j : Int) < (ins.length : Int) := by omega
   rw [List.take_of_length_le (by omega)] at HR
   go_wp2_with fail
   go_ret
   exact ⟨_, rfl, HR.out, HX.out⟩
end Go.Proofs.YtnmhaipjfpongacGreatDoor
