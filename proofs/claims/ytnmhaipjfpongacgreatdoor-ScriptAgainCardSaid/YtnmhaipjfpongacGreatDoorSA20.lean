/- Texts of this seat laid together for one claim: I0, Z0, Bm0, Z1, G11, I5, I1. No condition of its own: what each proves stands with its theorems. -/
import Derived.Test.YtnmhaipjfpongacGreatDoorSA19
import Derived.Test.YtnmhaipjfpongacGreatDoorSA3
import Derived.Test.YtnmhaipjfpongacGreatDoorSA2
import Derived.Test.YtnmhaipjfpongacGreatDoorSA5
import Derived.Test.YtnmhaipjfpongacGreatDoorSA18
import Derived.Test.YtnmhaipjfpongacGreatDoorSA6
import Derived.Test.YtnmhaipjfpongacGreatDoorSA12
namespace Go.Proofs.YtnmhaipjfpongacGreatDoor

abbrev Tld := B × Nat
def ruleOf (l : List Rule) (p : B) : Option Rule := l.find? fun r => r.out == p
def wMade (W : B → Tld) (r : Rule) : Tld := match r.ins.find? fun q => (W q).2 != 0 with
 | some q => W q
 | none => (runOut r.kind r.word (r.ins.map fun q => (W q).1), runCode r.kind r.word (r.ins.map fun q => (W q).1))
def wLeaf (T : FL) (p : B) : Tld := match T.lookup p with | some s => (s, 0) | none => ([], 6)
def wStep (l : List Rule) (T : FL) (W : B → Tld) (p : B) : Tld := match ruleOf l p with | none => wLeaf T p | some r => wMade W r

theorem rule_idx {l : List Rule} {p : B} : (∃ (k : Nat) (r : Rule), idx (fun r => r.out == p) l = (k : Int) ∧ l[k]? = some r ∧ ruleOf l p = some r) ∨ (idx (fun r => r.out == p) l = -1 ∧ ruleOf l p = none) := by
 unfold idx ruleOf
 cases hf : l.findIdx? (fun r => r.out == p) with
 | none =>
  rw [List.findIdx?_eq_none_iff] at hf
  exact .inr ⟨rfl, List.find?_eq_none.2 (fun x hx => by rw [hf x hx]; decide)⟩
 | some k =>
  rw [List.findIdx?_eq_some_iff_getElem] at hf
  obtain ⟨h3, h4, h5⟩ := hf
  refine .inl ⟨k, l[k], rfl, List.getElem?_eq_getElem h3, ?_⟩
  rw [List.find?_eq_some_iff_getElem]
  exact ⟨h4, k, h3, rfl, fun j hj => by simpa using h5 j hj⟩

theorem made_bad {W : B → Tld} {r : Rule} {j : Nat} {q : B} (hq : r.ins[j]? = some q) (h : (W q).2 ≠ 0) (hb : ∀ x ∈ r.ins.take j, (W x).2 = 0) : wMade W r = W q := by
 have : r.ins.find? (fun q => (W q).2 != 0) = some q := by
  rw [List.find?_eq_some_iff_getElem]
  obtain ⟨h1, h2⟩ := List.getElem?_eq_some_iff.1 hq
  exact ⟨by simpa using h, j, h1, h2, fun i hi => by
   have := hb r.ins[i] (List.mem_take_iff_getElem.2 ⟨i, by omega, rfl⟩)
   rw [this]; decide⟩
 unfold wMade
 rw [this]
theorem made_ok {W : B → Tld} {r : Rule} (hb : ∀ x ∈ r.ins, (W x).2 = 0) : wMade W r = (runOut r.kind r.word (r.ins.map fun q => (W q).1), runCode r.kind r.word (r.ins.map fun q => (W q).1)) := by
 have : r.ins.find? (fun q => (W q).2 != 0) = none := List.find?_eq_none.2 fun x hx => by rw [hb x hx]; decide
 unfold wMade
 rw [this]

structure Asks (l : List Rule) (T : FL) (W : B → Tld) (D : B → Prop) (rk : B → Nat) : Prop where
 step : ∀ p, D p → W p = wStep l T W p
 down : ∀ p, D p → ∀ r, ruleOf l p = some r → ∀ q ∈ r.ins, D q ∧ rk q < rk p
 len : ∀ p, D p → (W p).1.length ≤ 2000
 code : ∀ p, D p → (W p).2 ≤ 12

theorem wMade_congr {W V : B → Tld} {r : Rule} (h : ∀ q ∈ r.ins, W q = V q) : wMade W r = wMade V r := by
 have h1 : r.ins.find? (fun q => (W q).2 != 0) = r.ins.find? (fun q => (V q).2 != 0) := by
  generalize r.ins = k at h
  induction k with
  | nil => rfl
  | cons x k ih => rw [List.find?_cons, List.find?_cons, h x (.head _), ih fun q hq => h q (.tail _ hq)]
 have h2 : r.ins.map (fun q => (W q).1) = r.ins.map (fun q => (V q).1) := List.map_congr_left fun q hq => by rw [h q hq]
 unfold wMade
 rw [h1, h2]
 cases hf : r.ins.find? (fun q => (V q).2 != 0) with
 | none => rfl
 | some q => exact h q (List.mem_of_find?_eq_some hf)

def wantF (l : List Rule) (T : FL) : Nat → B → Tld
 | 0, _ => ([], 0)
 | n + 1, p => wStep l T (wantF l T n) p
def wantW (l : List Rule) (T : FL) : B → Tld := wantF l T (l.length + 1)

structure Ranked (l : List Rule) (D : B → Prop) (rk : B → Nat) : Prop where
 down : ∀ p, D p → ∀ r, ruleOf l p = some r → ∀ q ∈ r.ins, D q ∧ rk q < rk p

theorem wantF_stable {l : List Rule} {T : FL} {D : B → Prop} {rk : B → Nat} (h : Ranked l D rk) : ∀ (n m : Nat) (p : B), D p → rk p < n → rk p < m → wantF l T n p = wantF l T m p
 | 0, _, _, _, h1, _ => by omega
 | _ + 1, 0, _, _, _, h2 => by omega
 | n + 1, m + 1, p, hd, h1, h2 => by
  unfold wantF wStep
  cases hr : ruleOf l p with
  | none => rfl
  | some r =>
   refine wMade_congr fun q hq => ?_
   obtain ⟨h3, h4⟩ := h.down p hd r hr q hq
   exact wantF_stable h n m q h3 (by omega) (by omega)

theorem runOut_le (a b : B) (l : List B) : (runOut a b l).length ≤ 2000 := by
 unfold runOut
 by_cases h : runCode a b l = 0
 ·rw [if_pos h]
  unfold runCode at h
  split at h
  ·split at h
   ·cases h
   ·omega
  ·rename_i h2; exact absurd h h2
 ·rw [if_neg h]; exact Nat.zero_le _
theorem runCode_le12 (a b : B) (l : List B) : runCode a b l ≤ 12 := by
 unfold runCode
 have := actCode_le a b l.length
 split
 ·split <;> omega
 ·exact this
theorem runOut_zero {a b : B} {l : List B} (h : runCode a b l ≠ 0) : runOut a b l = [] := if_neg h

structure TldOk (x : Tld) : Prop where
 len : x.1.length ≤ 2000
 code : x.2 ≤ 12
 zero : x.2 ≠ 0 → x.1 = []
theorem wStep_ok {l : List Rule} {T : FL} {W : B → Tld} (hT : ∀ p s, T.lookup p = some s → s.length ≤ 2000) (hW : ∀ q, TldOk (W q)) (p : B) : TldOk (wStep l T W p) := by
 unfold wStep
 cases hr : ruleOf l p with
 | none =>
  simp only [wLeaf]
  cases hl : T.lookup p with
  | none => exact ⟨by simp, by simp, fun _ => rfl⟩
  | some s => exact ⟨hT p s hl, by simp, fun h => absurd rfl h⟩
 | some r =>
  simp only [wMade]
  cases hf : r.ins.find? (fun q => (W q).2 != 0) with
  | none => exact ⟨runOut_le _ _ _, runCode_le12 _ _ _, runOut_zero⟩
  | some q => exact hW q
theorem wantF_ok {l : List Rule} {T : FL} (hT : ∀ p s, T.lookup p = some s → s.length ≤ 2000) : ∀ (n : Nat) (p : B), TldOk (wantF l T n p)
 | 0, _ => ⟨by simp [wantF], by simp [wantF], fun h => absurd rfl h⟩
 | n + 1, p => wStep_ok hT (wantF_ok hT n) p

theorem asks_want {l : List Rule} {T : FL} {D : B → Prop} {rk : B → Nat} (h : Ranked l D rk) (hb : ∀ p, D p → rk p ≤ l.length) (hT : ∀ p s, T.lookup p = some s → s.length ≤ 2000) : Asks l T (wantW l T) D rk :=
  ⟨fun p hd => by
    show wStep l T (wantF l T l.length) p = wStep l T (wantW l T) p
    unfold wStep
    cases hr : ruleOf l p with
    | none => rfl
    | some r =>
      refine wMade_congr fun q hq => ?_
      obtain ⟨h3, h4⟩ := h.down p hd r hr q hq
      have := hb p hd
      exact wantF_stable h _ _ q h3 (by omega) (by omega),
   h.down, fun p _ => (wantF_ok hT _ p).len, fun p _ => (wantF_ok hT _ p).code⟩

def rankO (l : List Rule) (o : List Nat) (p : B) : Nat := match l.findIdx? (fun r => r.out == p) with | none => 0 | some k => o.idxOf k + 1
def InO (l : List Rule) (o : List Nat) (p : B) : Prop := ∀ k, l.findIdx? (fun r => r.out == p) = some k → k ∈ o

theorem findI_some {l : List Rule} {p : B} {k : Nat} (h : l.findIdx? (fun r => r.out == p) = some k) : ∃ r, l[k]? = some r ∧ r.out = p ∧ ruleOf l p = some r := by
 rw [List.findIdx?_eq_some_iff_getElem] at h
 obtain ⟨h3, h4, h5⟩ := h
 refine ⟨l[k], List.getElem?_eq_getElem h3, beq_iff_eq.1 h4, ?_⟩
 unfold ruleOf
 rw [List.find?_eq_some_iff_getElem]
 exact ⟨h4, k, h3, rfl, fun j hj => by simpa using h5 j hj⟩
theorem ruleOf_idx {l : List Rule} {p : B} {r : Rule} (h : ruleOf l p = some r) : ∃ k, l.findIdx? (fun r => r.out == p) = some k ∧ l[k]? = some r := by
 cases hf : l.findIdx? (fun r => r.out == p) with
 | none =>
  rw [List.findIdx?_eq_none_iff] at hf
  unfold ruleOf at h
  have h1 := List.find?_some h
  have h2 := hf r (List.mem_of_find?_eq_some h)
  rw [h2] at h1
  cases h1
 | some k =>
  obtain ⟨r', h1, _, h3⟩ := findI_some hf
  rw [h] at h3
  cases h3
  exact ⟨k, rfl, h1⟩

theorem ranked_order {l : List Rule} {is : Nat → Bool} {o : List Nat} (hO : Ordered l.length (needB l) is o) : Ranked l (InO l o) (rankO l o) ∧ ∀ p, InO l o p → rankO l o p ≤ l.length := by
 have key : ∀ k, k ∈ o → o.idxOf k < o.length := fun k hk => List.idxOf_lt_length_of_mem hk
 refine ⟨⟨fun p hp r hr q hq => ?_⟩, fun p hp => ?_⟩
 ·obtain ⟨k, hk, hkr⟩ := ruleOf_idx hr
  have hko := hp k hk
  have hj := key k hko
  have hat : o[o.idxOf k]? = some k := by rw [List.getElem?_eq_getElem hj, List.getElem_idxOf]
  have hneed := hO.need _ _ hat
  have hrp : rankO l o p = o.idxOf k + 1 := by unfold rankO; rw [hk]
  have hq2 : ∀ k', l.findIdx? (fun r => r.out == q) = some k' → k' ∈ o.take (o.idxOf k) := fun k' hk' => by
   obtain ⟨r', h1, h2, _⟩ := findI_some hk'
   refine hneed k' (List.getElem?_eq_some_iff.1 h1).1 ?_
   unfold needB
   rw [hkr, h1]
   simp only [h2]
   simpa using hq
  refine ⟨fun k' hk' => List.mem_of_mem_take (hq2 k' hk'), ?_⟩
  rw [hrp]
  unfold rankO
  cases hf : l.findIdx? (fun r => r.out == q) with
  | none => exact Nat.succ_pos _
  | some k' =>
   have := hq2 k' hf
   obtain ⟨t, ht, he⟩ := List.mem_take_iff_getElem.1 this
   have hlt : o.idxOf k' ≤ t := by
    have hnd := hO.nodup
    have h6 : o.idxOf k' = t := by rw [← he]; exact hnd.idxOf_getElem t (by omega)
    omega
   simp only
   omega
 ·have hl := hO.len
  have hm := manyB_le l.length is
  unfold rankO
  cases hf : l.findIdx? (fun r => r.out == p) with
  | none => exact Nat.zero_le _
  | some k => have := key k (hp k hf); simp only; omega
end Go.Proofs.YtnmhaipjfpongacGreatDoor

namespace Go.Proofs.YtnmhaipjfpongacGreatDoor

structure BE where
 l : List Rule
 sm : List Nat
 T : FL
def BE.rule (E : BE) (i : Nat) : Rule := (E.l[i]?).getD ⟨[], [], [], []⟩
def BE.W (E : BE) : B → Tld := wantW E.l E.T
def BE.ans (E : BE) (i : Nat) : Tld := E.W (E.rule i).out
def BE.args (E : BE) (i : Nat) : List B := (E.rule i).ins.map fun q => (E.W q).1
def BE.key (E : BE) (i : Nat) : B := keyT (E.rule i).kind (E.rule i).word (E.args i)
def BE.nd (E : BE) (i k : Nat) : Bool := needB E.l i k

structure BS where
 st : Nat → Nat
 hit : Nat → Bool
def BS.new : BS := ⟨fun _ => 1, fun _ => false⟩

def readyP (E : BE) (s : BS) (i : Nat) : Bool := s.st i == 1 && E.sm.all fun k => !(E.nd i k) || s.st k == 2

theorem ready_iff {E : BE} {s : BS} {i : Nat} : readyP E s i = true ↔ s.st i = 1 ∧ ∀ k ∈ E.sm, E.nd i k = true → s.st k = 2 := by
 unfold readyP
 rw [Bool.and_eq_true, beq_iff_eq, List.all_eq_true]
 constructor
 ·rintro ⟨h1, h2⟩
  refine ⟨h1, fun k hk hn => ?_⟩
  have := h2 k hk
  rw [hn] at this
  simpa using this
 ·rintro ⟨h1, h2⟩
  refine ⟨h1, fun k hk => ?_⟩
  cases hn : E.nd i k with
  | false => rfl
  | true => rw [h2 k hk hn]; rfl

inductive LeftP (E : BE) (s : BS) : Nat → Prop
 | one {i k : Nat} : i ∈ E.sm → s.st i = 1 → k ∈ E.sm → E.nd i k = true → 3 ≤ s.st k → LeftP E s i
 | more {i k : Nat} : i ∈ E.sm → s.st i = 1 → k ∈ E.sm → E.nd i k = true → LeftP E s k → LeftP E s i
theorem LeftP.mem {E : BE} {s : BS} {i : Nat} (h : LeftP E s i) : i ∈ E.sm ∧ s.st i = 1 := by cases h <;> exact ⟨‹_›, ‹_›⟩

def setP (s : BS) (i x : Nat) : BS := ⟨fun k => if k = i then x else s.st k, s.hit⟩
def doneP (s : BS) (i : Nat) (h : Bool) : BS := ⟨fun k => if k = i then 2 else s.st k, fun k => if k = i then h else s.hit k⟩
open Classical in
noncomputable def spreadP (E : BE) (s : BS) : BS := ⟨fun k => if LeftP E s k then 4 else s.st k, s.hit⟩
noncomputable def failP (E : BE) (s : BS) (i : Nat) : BS := spreadP E (setP s i 3)

theorem spread_left {E : BE} {s : BS} {k : Nat} (h : LeftP E s k) : (spreadP E s).st k = 4 := by
 unfold spreadP
 exact if_pos h
theorem spread_same {E : BE} {s : BS} {k : Nat} (h : ¬ LeftP E s k) : (spreadP E s).st k = s.st k := by
 unfold spreadP
 exact if_neg h
theorem spread_cases {E : BE} {s : BS} (k : Nat) : (LeftP E s k ∧ (spreadP E s).st k = 4 ∧ s.st k = 1) ∨ (¬ LeftP E s k ∧ (spreadP E s).st k = s.st k) := by
 by_cases h : LeftP E s k
 ·exact .inl ⟨h, spread_left h, h.mem.2⟩
 ·exact .inr ⟨h, spread_same h⟩

structure BInv (E : BE) (s : BS) : Prop where
 rng : ∀ i ∈ E.sm, 1 ≤ s.st i ∧ s.st i ≤ 4
 ran : ∀ i ∈ E.sm, s.st i = 2 ∨ s.st i = 3 → ∀ k ∈ E.sm, E.nd i k = true → s.st k = 2
 left : ∀ i ∈ E.sm, s.st i = 4 → ∃ k ∈ E.sm, E.nd i k = true ∧ 3 ≤ s.st k
 clos : ∀ i ∈ E.sm, s.st i = 1 → ∀ k ∈ E.sm, E.nd i k = true → s.st k ≤ 2
 two : ∀ i ∈ E.sm, s.st i = 2 → (E.ans i).2 = 0
 three : ∀ i ∈ E.sm, s.st i = 3 → (E.ans i).2 ≠ 0

theorem BInv.new (E : BE) : BInv E .new :=
 ⟨fun _ _ => ⟨Nat.le_refl _, by simp [BS.new]⟩, fun _ _ h => by simp [BS.new] at h, fun _ _ h => by simp [BS.new] at h, fun _ _ _ _ _ _ => by simp [BS.new], fun _ _ h => by simp [BS.new] at h, fun _ _ h => by simp [BS.new] at h⟩

theorem BInv.done {E : BE} {s : BS} {i : Nat} (I : BInv E s) (hi : i ∈ E.sm) (hr : readyP E s i = true) (ha : (E.ans i).2 = 0) (b : Bool) : BInv E (doneP s i b) := by
 obtain ⟨h1, h2⟩ := ready_iff.1 hr
 have e : ∀ k, (doneP s i b).st k = if k = i then 2 else s.st k := fun _ => rfl
 refine ⟨fun k hk => ?_, fun k hk hs j hj hn => ?_, fun k hk hs => ?_, fun k hk hs j hj hn => ?_, fun k hk hs => ?_, fun k hk hs => ?_⟩
 ·rw [e]; split
  ·omega
  ·exact I.rng k hk
 ·rw [e] at hs ⊢
  by_cases hji : j = i
  ·rw [if_pos hji]
  ·rw [if_neg hji]
   by_cases hki : k = i
   ·subst hki; exact h2 j hj hn
   ·rw [if_neg hki] at hs; exact I.ran k hk hs j hj hn
 ·rw [e] at hs
  by_cases hki : k = i
  ·rw [if_pos hki] at hs; omega
  ·rw [if_neg hki] at hs
   obtain ⟨j, h3, h4, h5⟩ := I.left k hk hs
   refine ⟨j, h3, h4, ?_⟩
   rw [e, if_neg (fun e2 => by rw [e2] at h5; omega)]
   exact h5
 ·rw [e] at hs ⊢
  by_cases hki : k = i
  ·rw [if_pos hki] at hs; omega
  ·rw [if_neg hki] at hs
   have := I.clos k hk hs j hj hn
   split <;> omega
 ·rw [e] at hs
  by_cases hki : k = i
  ·rw [hki]; exact ha
  ·rw [if_neg hki] at hs; exact I.two k hk hs
 ·rw [e] at hs
  by_cases hki : k = i
  ·rw [if_pos hki] at hs; omega
  ·rw [if_neg hki] at hs; exact I.three k hk hs

theorem BInv.fail {E : BE} {s : BS} {i : Nat} (I : BInv E s) (hi : i ∈ E.sm) (hr : readyP E s i = true) (ha : (E.ans i).2 ≠ 0) (hself : E.nd i i = false) : BInv E (failP E s i) := by
 obtain ⟨h1, h2⟩ := ready_iff.1 hr
 have e : ∀ k, (setP s i 3).st k = if k = i then 3 else s.st k := fun _ => rfl
 have hni : ¬ LeftP E (setP s i 3) i := fun h => by have := h.mem.2; rw [e, if_pos rfl] at this; omega
 -- a rule that is neither left now nor the failed one has the state that it had
 have same : ∀ k, k ≠ i → ¬ LeftP E (setP s i 3) k → (failP E s i).st k = s.st k := fun k hk hl => by
  unfold failP; rw [spread_same hl, e, if_neg hk]
 have me : (failP E s i).st i = 3 := by unfold failP; rw [spread_same hni, e, if_pos rfl]
 have lf : ∀ k, LeftP E (setP s i 3) k → (failP E s i).st k = 4 ∧ s.st k = 1 ∧ k ≠ i := fun k hk => by
  have hki : k ≠ i := fun e2 => hni (e2 ▸ hk)
  have h4 := hk.mem.2
  rw [e, if_neg hki] at h4
  exact ⟨by unfold failP; exact spread_left hk, h4, hki⟩
 have two_stays : ∀ k, s.st k = 2 → (failP E s i).st k = 2 := fun k hk => by
  have hki : k ≠ i := fun e2 => by rw [e2] at hk; omega
  rw [same k hki (fun h => by have := (lf k h).2.1; omega)]; exact hk
 refine ⟨fun k hk => ?_, fun k hk hs j hj hn => ?_, fun k hk hs => ?_, fun k hk hs j hj hn => ?_, fun k hk hs => ?_, fun k hk hs => ?_⟩
 ·by_cases hl : LeftP E (setP s i 3) k
  ·rw [(lf k hl).1]; omega
  ·by_cases hki : k = i
   ·rw [hki, me]; omega
   ·rw [same k hki hl]; exact I.rng k hk
 ·by_cases hl : LeftP E (setP s i 3) k
  ·rw [(lf k hl).1] at hs; omega
  ·by_cases hki : k = i
   ·subst hki
    exact two_stays j (h2 j hj hn)
   ·rw [same k hki hl] at hs
    exact two_stays j (I.ran k hk hs j hj hn)
 ·by_cases hl : LeftP E (setP s i 3) k
  ·cases hl with
   | @one _ j _ _ hj hn hge =>
    refine ⟨j, hj, hn, ?_⟩
    by_cases hji : j = i
    ·rw [hji, me]; omega
    ·rw [e, if_neg hji] at hge
     by_cases hlj : LeftP E (setP s i 3) j
     ·rw [(lf j hlj).1]; omega
     ·rw [same j hji hlj]; exact hge
   | @more _ j _ _ hj hn hlj => exact ⟨j, hj, hn, by rw [(lf j hlj).1]; omega⟩
  ·by_cases hki : k = i
   ·rw [hki, me] at hs; omega
   ·rw [same k hki hl] at hs
    obtain ⟨j, hj, hn, hge⟩ := I.left k hk hs
    refine ⟨j, hj, hn, ?_⟩
    by_cases hji : j = i
    ·rw [hji, me]; omega
    ·by_cases hlj : LeftP E (setP s i 3) j
     ·rw [(lf j hlj).1]; omega
     ·rw [same j hji hlj]; exact hge
 ·by_cases hl : LeftP E (setP s i 3) k
  ·rw [(lf k hl).1] at hs; omega
  ·by_cases hki : k = i
   ·rw [hki, me] at hs; omega
   ·rw [same k hki hl] at hs
    have hk1 : (setP s i 3).st k = 1 := by rw [e, if_neg hki]; exact hs
    by_cases hlj : LeftP E (setP s i 3) j
    ·exact absurd (.more hk hk1 hj hn hlj) hl
    ·by_cases hji : j = i
     ·exact absurd (.one hk hk1 hj hn (by rw [e, if_pos hji]; omega)) hl
     ·rw [same j hji hlj]; exact I.clos k hk hs j hj hn
 ·by_cases hl : LeftP E (setP s i 3) k
  ·rw [(lf k hl).1] at hs; omega
  ·by_cases hki : k = i
   ·rw [hki, me] at hs; omega
   ·rw [same k hki hl] at hs; exact I.two k hk hs
 ·by_cases hl : LeftP E (setP s i 3) k
  ·rw [(lf k hl).1] at hs; omega
  ·by_cases hki : k = i
   ·rw [hki]; exact ha
   ·rw [same k hki hl] at hs; exact I.three k hk hs

abbrev CS := Option (Nat × FL)
noncomputable def runP (E : BE) (C : CS) (s : BS) (i : Nat) : (Bool × Nat) × BS × CS :=
 if i ∉ E.sm then ((false, 6), s, C)
 else if s.st i ≠ 1 then ((false, 12), s, C)
 else if readyP E s i = false then ((false, 11), s, C)
 else if (E.ans i).2 ≠ 0 then ((false, 0), failP E s i, C)
 else match C with
  | none => ((false, 0), doneP s i false, none)
  | some (many, L) => match L.lookup (E.key i) with
   | some _ => ((true, 0), doneP s i true, some (many, getL L (E.key i)))
   | none => ((false, 0), doneP s i false, some (many, putL many L (E.key i) (E.ans i).1))
end Go.Proofs.YtnmhaipjfpongacGreatDoor

namespace Go.Proofs.YtnmhaipjfpongacGreatDoor

def mst (E : BE) (s : BS) (i : Nat) : Nat := if i ∈ E.sm then s.st i else 0
theorem mst_in {E : BE} {s : BS} {i : Nat} (h : i ∈ E.sm) : mst E s i = s.st i := if_pos h
theorem mst_out {E : BE} {s : BS} {i : Nat} (h : i ∉ E.sm) : mst E s i = 0 := if_neg h
end Go.Proofs.YtnmhaipjfpongacGreatDoor

namespace Go.Proofs.YtnmhaipjfpongacGreatDoor
open Go.ChangeShapes Go.WideShapes Go.ChangeAt Go.RowKit

abbrev PTR (b : Nat) : Value := .pointer (some ⟨b, 0, none⟩)

structure BK where
 b : Nat
 tb : Nat
 tmb : Nat
 lb : Nat
 bb : Nat
 cp : Value
 blk : Nat → Nat
 iv : Nat → Value

def outC (E : BE) (s : BS) (i : Nat) : Value := S (if s.st i = 2 then (E.ans i).1 else [])
def whyC (P : Nat → Addr) (E : BE) (s : BS) (i : Nat) : Value := if s.st i = 3 then errC P (E.ans i).2 else .nilIface
abbrev stepC (P : Nat → Addr) (E : BE) (K : BK) (s : BS) (i : Nat) : Array Value :=
 #[S (E.rule i).out, S (E.rule i).kind, S (E.rule i).word, K.iv i, IN (s.st i), .bool (s.st i == 2 && s.hit i), outC E s i, whyC P E s i]

structure BldAt (w : World) (P : Nat → Addr) (base : Nat) (E : BE) (K : BK) (s : BS) : Prop where
 cells : w.heap[K.b]? = some (.cells #[PTR K.tb, .map (some K.lb), .map (some K.bb), K.cp] 186 (0, 0))
 tree : TreeAt w K.tb K.tmb E.T
 steps : KMap (.int .i64) I PTR w K.lb (E.sm.map fun (i : Nat) => ((i : Int), K.blk i))
 outs : KMap .string S IN w K.bb (E.sm.map fun i => ((E.rule i).out, i))
 step : ∀ i ∈ E.sm, w.heap[K.blk i]? = some (.cells (stepC P E K s i) 189 (0, 0))
 ins : ∀ i ∈ E.sm, Row base w (K.iv i) (E.rule i).ins
 inj : ∀ i ∈ E.sm, ∀ j ∈ E.sm, K.blk i = K.blk j → i = j
 lo : base ≤ K.b ∧ base ≤ K.tb ∧ base ≤ K.tmb ∧ base ≤ K.lb ∧ base ≤ K.bb ∧ ∀ i ∈ E.sm, base ≤ K.blk i

def InBld (E : BE) (K : BK) (i : Nat) : Prop := i = K.b ∨ i = K.tb ∨ i = K.tmb ∨ i = K.lb ∨ i = K.bb ∨ (∃ j ∈ E.sm, i = K.blk j) ∨ ∃ j ∈ E.sm, (K.iv j).ownBlock = some i
def InSteps (E : BE) (K : BK) (i : Nat) : Prop := ∃ j ∈ E.sm, i = K.blk j

section
variable {w w' : World} {P : Nat → Addr} {base : Nat} {E : BE} {K : BK} {s s' : BS} {p : Nat → Prop}

theorem BldAt.later (h : BldAt w P base E K s) (ho : Only p w w') (hp : ∀ i, InBld E K i → ¬ p i) : BldAt w' P base E K s :=
  ⟨ho.heapOf h.cells (hp _ (.inl rfl)), h.tree.later ho (hp _ (.inr (.inl rfl))) (hp _ (.inr (.inr (.inl rfl)))), h.steps.later ho (hp _ (.inr (.inr (.inr (.inl rfl))))), h.outs.later ho (hp _ (.inr (.inr (.inr (.inr (.inl rfl)))))),
   fun i hi => ho.heapOf (h.step i hi) (hp _ (.inr (.inr (.inr (.inr (.inr (.inl ⟨i, hi, rfl⟩))))))), fun i hi => ho.row (h.ins i hi) (fun k e => hp k (.inr (.inr (.inr (.inr (.inr (.inr ⟨i, hi, e⟩)))))) ), h.inj, h.lo⟩
theorem BldAt.ext (h : BldAt w P base E K s) (ho : Ext w w') : BldAt w' P base E K s := h.later ho (fun _ _ h => h)
theorem BldAt.lt (h : BldAt w P base E K s) : ∀ i, InBld E K i → i < w.heap.size := by
 rintro i (rfl | rfl | rfl | rfl | rfl | ⟨j, hj, rfl⟩ | ⟨j, hj, e⟩)
 ·exact lt_of_heap h.cells
 ·exact lt_of_heap h.tree.cells
 ·exact h.tree.map.lt
 ·exact h.steps.lt
 ·exact h.outs.lt
 ·exact lt_of_heap (h.step j hj)
 ·exact ((h.ins j hj).lt i e).2
theorem BldAt.ge (h : BldAt w P base E K s) : ∀ i, InBld E K i → base ≤ i := by
 obtain ⟨h1, h2, h3, h4, h5, h6⟩ := h.lo
 rintro i (rfl | rfl | rfl | rfl | rfl | ⟨j, hj, rfl⟩ | ⟨j, hj, e⟩)
 ·exact h1
 ·exact h2
 ·exact h3
 ·exact h4
 ·exact h5
 ·exact h6 j hj
 ·exact ((h.ins j hj).lt i e).1
theorem InSteps.bld {i : Nat} (h : InSteps E K i) : InBld E K i := .inr (.inr (.inr (.inr (.inr (.inl h)))))

theorem BldAt.ne_step (h : BldAt w P base E K s) {b : Nat} {cs : Array Value} {e : TypeId} {fr : Nat × Nat} (hb : w.heap[b]? = some (.cells cs e fr)) (he : e ≠ 189) : ¬ InSteps E K b := by
 rintro ⟨j, hj, rfl⟩
 have := h.step j hj
 rw [hb] at this
 cases this
 exact he rfl
theorem BldAt.ne_stepMap (h : BldAt w P base E K s) {b : Nat} {d : TypeDesc} {L : List (Value × Value)} (hb : MapAt d w b L) : ¬ InSteps E K b := by
 rintro ⟨j, hj, rfl⟩
 exact heap_ne_map (h.step j hj) hb rfl
theorem BldAt.ne_stepRow (h : BldAt w P base E K s) {b : Nat} {v : Value} {l : List B} {k : Nat} (hb : Row b w v l) (hk : v.ownBlock = some k) : ¬ InSteps E K k := by
 rintro ⟨j, hj, rfl⟩
 rcases hb.2 with ⟨rfl, _⟩ | ⟨g, cap, cur, rfl, _, hh, _⟩
 ·cases hk
 ·cases hk
  have := h.step j hj
  rw [hh] at this
  cases this

theorem BldAt.change (h : BldAt w P base E K s) (ho : Only (InSteps E K) w w') (hs : ∀ i ∈ E.sm, w'.heap[K.blk i]? = some (.cells (stepC P E K s' i) 189 (0, 0))) : BldAt w' P base E K s' :=
  ⟨ho.heapOf h.cells (h.ne_step h.cells (by decide)), h.tree.later ho (h.ne_step h.tree.cells (by decide)) (h.ne_stepMap h.tree.map), h.steps.later ho (h.ne_stepMap h.steps), h.outs.later ho (h.ne_stepMap h.outs), hs,
   fun i hi => ho.row (h.ins i hi) (fun _ e => h.ne_stepRow (h.ins i hi) e), h.inj, h.lo⟩

theorem BldAt.stepCell (h : BldAt w P base E K s) {i : Nat} (hi : i ∈ E.sm) (j : Nat) : w.cell? ⟨K.blk i, j, none⟩ = (stepC P E K s i)[j]? := cell_of_heap (h.step i hi) j
theorem BldAt.free (h : BldAt w P base E K s) {i : Nat} (hi : i ∈ E.sm) (j : Nat) : w.frozen? ⟨K.blk i, j, none⟩ = false := free_of_heap (h.step i hi) j
theorem BldAt.cell (h : BldAt w P base E K s) (j : Nat) : w.cell? ⟨K.b, j, none⟩ = (#[PTR K.tb, .map (some K.lb), .map (some K.bb), K.cp] : Array Value)[j]? := cell_of_heap h.cells j
end

def BE.by_ (E : BE) (q : B) : Option Nat := (E.sm.map fun i => ((E.rule i).out, i)).lookup q
theorem by_some {E : BE} {q : B} {k : Nat} (h : E.by_ q = some k) : k ∈ E.sm ∧ (E.rule k).out = q := by
 have := mem_of_lookup h
 obtain ⟨i, hi, e⟩ := List.mem_map.1 this
 cases e
 exact ⟨hi, rfl⟩
theorem by_none {E : BE} {q : B} (h : E.by_ q = none) : ∀ k ∈ E.sm, (E.rule k).out ≠ q := fun k hk e => not_mem_of_lookup h (List.mem_map.2 ⟨((E.rule k).out, k), List.mem_map.2 ⟨k, hk, rfl⟩, e⟩)
theorem steps_lookup {E : BE} {K : BK} {k : Nat} (h : k ∈ E.sm) : (E.sm.map fun (i : Nat) => ((i : Int), K.blk i)).lookup (k : Int) = some (K.blk k) := by
 generalize E.sm = l at h
 induction l with
 | nil => cases h
 | cons x l ih =>
  rw [List.map_cons, List.lookup_cons]
  by_cases e : k = x
  ·subst e; simp
  ·have : ((k : Int) == (x : Int)) = false := beq_eq_false_iff_ne.2 (by omega)
   rw [this]
   simp only
   exact ih (by rcases List.mem_cons.1 h with h | h; exact absurd h e; exact h)
theorem steps_miss {E : BE} {K : BK} {z : Int} (h : ∀ k ∈ E.sm, (k : Int) ≠ z) : (E.sm.map fun (i : Nat) => ((i : Int), K.blk i)).lookup z = none := by
 generalize E.sm = l at h
 induction l with
 | nil => rfl
 | cons x l ih =>
  rw [List.map_cons, List.lookup_cons]
  have : (z == (x : Int)) = false := beq_eq_false_iff_ne.2 fun e => h x (.head _) e.symm
  rw [this]
  exact ih fun k hk => h k (.tail _ hk)
end Go.Proofs.YtnmhaipjfpongacGreatDoor

namespace Go.Proofs.YtnmhaipjfpongacGreatDoor
open Go.ChangeShapes Go.WideShapes Go.ChangeAt Go.RowKit

theorem enters_Part1 : ∀ args w, (callFunc 164 args).run Tryz.prog w = .ok (.enter 164 args) w := fun args w => by kernel_rfl

theorem any_natP (l : List Nat) (j : Nat) : (l.map fun k : Nat => (k : Int)).any (fun y => (j : Int) == y) = l.contains j := by
 rw [Bool.eq_iff_iff, List.any_eq_true, List.contains_eq_mem, decide_eq_true_eq]
 constructor
 ·rintro ⟨x, hx, e⟩
  obtain ⟨k, hk, rfl⟩ := List.mem_map.1 hx
  rw [beq_iff_eq] at e
  have : j = k := by omega
  rw [this]; exact hk
 ·intro h
  exact ⟨(j : Int), List.mem_map.2 ⟨j, h, rfl⟩, beq_iff_eq.2 rfl⟩

theorem Part1_test (w : World) (bx : Nat) (lv : Value) (l : List Nat) (j : Nat) (hb : w.cell? ⟨bx, 0, none⟩ = some lv) (hr : Rd IN w lv l) :
  Calls Tryz.prog 164 #[I j, .pointer (some ⟨bx, 0, none⟩)] w (RetE (.bool (l.contains j)) w) := by
 have HI := Lib.hid (containsI_any w lv _ (j : Int) hr.ints)
 rw [any_natP] at HI
 generalize l.contains j = q at HI ⊢
 obtain ⟨a, cap, rfl, _, _, _⟩ := hr
 go_enter Tryz.func164, Tryz.ntmps164
 go_wp2_with fail
 refine (HI.out).mono ?_
 rintro e w1 ⟨rfl, rfl⟩
 go_wp2_with fail
 go_ret
 exact ⟨rfl, Only.refl _ _⟩

def partB (l : List Rule) (sm : List Nat) : Option (List Nat) := orderB l.length (needB l) (fun i => sm.contains i)
def partFault (l : List Rule) (sm : List Nat) : Nat × Int := if (partB l sm).isSome then (0, -1) else (9, -1)

set_option maxRecDepth 100000 in
set_option maxHeartbeats 4000000 in
theorem graphPart_any (w : World) (P : Nat → Addr) (l : List Rule) (v sv : Value) (sm : List Nat) (hv : RdR w v l) (hr : RightS l) (hs : ∀ r ∈ l, r.ins.length ≤ 900000) (hsm : Rd IN w sv sm) (hE : Errs w P [8]) :
  Calls Tryz.prog 94 #[v, sv] w (RetOE P (partFault l sm) ((partB l sm).getD []) w) := by
 have HRD := Lib.hid hv
 have HSM := Lib.hid hsm
 have HR := Lib.hid hr
 have HS := Lib.hid hs
 have HEE := Lib.hid hE
 have h40 := hr.1
 obtain ⟨a, cap, rfl, _, _, _⟩ := hv
 obtain ⟨a2, cap2, rfl, _, _, _⟩ := hsm
 have HB0 := Lib.hid ((MapKept.heap_alloc w (.cells #[.slice a2 sm.length cap2] 46 (0, 0))).1)
 have HX0 : Hid (Ext w (w.alloc (.cells #[.slice a2 sm.length cap2] 46 (0, 0)))) := Lib.hid (Only.alloc _ _ _)
 have HED := Lib.hid (edges_any _ l _ (HRD.out.ext HX0.out) HR.out HS.out)
 obtain ⟨F, hF⟩ : ∃ F, F = partFault l sm := ⟨_, rfl⟩
 obtain ⟨O, hO⟩ : ∃ O, O = (partB l sm).getD [] := ⟨_, rfl⟩
 rw [← hF, ← hO]
 unfold partFault at hF
 have HF := Lib.hid hF
 have HO := Lib.hid hO
 clear hF hO hr hs hE
 go_enter Tryz.func94, Tryz.ntmps94
 go_wp2_with fail
 refine HED.out.mono ?_
 rintro e w2 ⟨v2, rfl, hll, ho⟩
 have hb2 := cell_of_heap (ho.heapOf HB0.out (fun h => h)) 0
 have hor := order1_any 164 (.pointer (some ⟨w.heap.size, 0, none⟩)) (fun i => sm.contains i) w2 v2 l.length (needB l) (by omega) hll enters_Part1
  (fun w3 hx i _ => Part1_test w3 w.heap.size _ sm i (hx.cellOf (hb2.trans rfl) (fun h => h)) (HSM.out.ext ((HX0.out.then ho).then hx)))
 change Calls _ _ _ _ (RetOrder (partB l sm) w2) at hor
 have HOR := Lib.hid hor
 have HX2 := Lib.hid (HX0.out.then ho)
 have HLL := Lib.hid hll
 obtain ⟨a3, c3, rfl, _, _, _⟩ := HLL.out
 rw [List.length_map, List.length_range] at HOR ⊢
 clear hor hb2 ho hll
 cases hol : partB l sm with
 | none =>
  have hF2 := HF.out
  have hO2 := HO.out
  rw [hol] at HOR hF2 hO2
  clear HF HO
  have hF3 : F = (9, -1) := hF2
  have hO3 : O = [] := hO2
  subst hF3
  subst hO3
  clear hol hF2 hO2
  go_wp2_with fail
  refine (HOR.out).mono ?_
  rintro e w3 ⟨v3, rfl, hrow, ho⟩
  have HX3 := Lib.hid (HX2.out.then ho)
  have HROW := Lib.hid hrow
  clear hrow ho
  have c0 := (HEE.out.ext HX3.out).var 8 _ (by decide) rfl
  go_wp2_with fail
  go_quiet (fail)
  go_wp2_with fail
  go_ret2
  exact ⟨_, _, rfl, RowI.nil _ _, .inr (.inl ⟨by decide, rfl, rfl⟩), HX3.out.thenDrewN _⟩
 | some o =>
  have hF2 := HF.out
  have hO2 := HO.out
  rw [hol] at HOR hF2 hO2
  clear HF HO
  have hF3 : F = (0, -1) := hF2
  have hO3 : O = o := hO2
  subst hF3
  subst hO3
  clear hol hF2 hO2
  go_wp2_with fail
  refine (HOR.out).mono ?_
  rintro e w3 ⟨v3, rfl, hrow, ho⟩
  have HX3 := Lib.hid (HX2.out.then ho)
  have HROW := Lib.hid hrow
  clear hrow ho
  obtain ⟨a4, c4, rfl, _, _, _⟩ := HROW.out.rd
  go_wp2_with fail
  go_ret2
  exact ⟨_, _, rfl, HROW.out.down HX2.out.size, ErrAt.nil _ _ _, HX3.out⟩
end Go.Proofs.YtnmhaipjfpongacGreatDoor

namespace Go.Proofs.YtnmhaipjfpongacGreatDoor

open Classical in
noncomputable def reachB (l : List Rule) (outs : List B) (i : Nat) : Bool := decide (Reach (needB l) (needKs l outs) i)
open Classical in
theorem reachB_iff {l : List Rule} {outs : List B} {i : Nat} : reachB l outs i = true ↔ Reach (needB l) (needKs l outs) i := by
 unfold reachB
 exact decide_eq_true_iff
noncomputable def needL (l : List Rule) (outs : List B) : List Nat := (List.range l.length).filter (reachB l outs)
theorem mem_needL {l : List Rule} {outs : List B} {i : Nat} : i ∈ needL l outs ↔ i < l.length ∧ Reach (needB l) (needKs l outs) i := by
 unfold needL
 rw [List.mem_filter, List.mem_range, reachB_iff]
theorem needOk_eq {l : List Rule} {outs : List B} {out : List Nat} (h : NeedOk l.length (needB l) (needKs l outs) out) : out = needL l outs := by
 obtain ⟨N, rfl, hN⟩ := h
 unfold needL
 refine List.filter_congr fun i hi => ?_
 rw [Bool.eq_iff_iff, hN i (List.mem_range.1 hi), reachB_iff]
theorem needL_rise (l : List Rule) (outs : List B) : (needL l outs).Pairwise fun x y => x < y := List.pairwise_lt_range.filter _

structure Clo (l : List Rule) (sm : List Nat) : Prop where
 lt : ∀ i ∈ sm, i < l.length
 rise : sm.Pairwise fun x y => x < y
 clos : ∀ i ∈ sm, ∀ k, k < l.length → needB l i k = true → k ∈ sm
theorem Clo.need (l : List Rule) (outs : List B) : Clo l (needL l outs) :=
 ⟨fun _ hi => (mem_needL.1 hi).1, needL_rise l outs, fun _ hi _ hk hn => mem_needL.2 ⟨hk, .step (mem_needL.1 hi).2 hn⟩⟩

theorem order_covers {n : Nat} {nd : Nat → Nat → Bool} {is : Nat → Bool} {o : List Nat} (h : orderB n nd is = some o) {i : Nat} (hi : i < n) (his : is i = true) : i ∈ o := by
 obtain ⟨h1, h2⟩ := orderB_some h
 refine Classical.byContradiction fun hn => ?_
 have h3 : (i :: o).Nodup := List.nodup_cons.2 ⟨hn, h1.nodup⟩
 have h4 := nodup_len (b := (List.range n).filter is) h3 fun x hx => by
  rcases List.mem_cons.1 hx with rfl | hx
  ·exact List.mem_filter.2 ⟨List.mem_range.2 hi, his⟩
  ·exact List.mem_filter.2 ⟨List.mem_range.2 (h1.lt x hx), h1.is x hx⟩
 rw [List.length_cons, h2] at h4
 unfold manyB at h4
 omega

def ruleAt (l : List Rule) (i : Nat) : Rule := (l[i]?).getD ⟨[], [], [], []⟩
theorem ruleAt_eq {l : List Rule} {i : Nat} (h : i < l.length) : l[i]? = some (ruleAt l i) := by
 unfold ruleAt
 rw [List.getElem?_eq_getElem h]
 rfl

section
variable {l : List Rule} {sm : List Nat}
theorem clo_nodup (h : Clo l sm) : sm.Nodup := h.rise.imp fun h => Nat.ne_of_lt h
theorem find_outI {l : List Rule} (hn : (l.map Rule.out).Nodup) {i : Nat} {r : Rule} (h : l[i]? = some r) : l.findIdx? (fun q => q.out == r.out) = some i := by
 obtain ⟨h1, h2⟩ := List.getElem?_eq_some_iff.1 h
 rw [List.findIdx?_eq_some_iff_getElem]
 refine ⟨h1, by rw [h2]; exact beq_iff_eq.2 rfl, fun j hj => ?_⟩
 rw [Bool.not_eq_true]
 refine beq_eq_false_iff_ne.2 fun e => ?_
 have := nodup_inj hn (i := j) (j := i) (x := r.out) (by rw [List.getElem?_map, List.getElem?_eq_getElem (by omega), Option.map_some, e]) (by rw [List.getElem?_map, h]; rfl)
 omega
theorem madeI_at {l : List Rule} (hn : (l.map Rule.out).Nodup) {i : Nat} {r : Rule} (h : l[i]? = some r) : madeI l r.out = i := by
 unfold madeI idx
 rw [find_outI hn h]
 exact Int.toNat_natCast i
theorem made_out {l : List Rule} {r : Rule} (h : r ∈ l) : madeB l r.out = true := List.any_eq_true.2 ⟨r, h, beq_iff_eq.2 rfl⟩
end

noncomputable def wantRes (l : List Rule) (T : FL) (out : B) : B × (Nat × Int) :=
 if (sheetFault l).1 ≠ 0 then ([], sheetFault l)
 else if madeB l out = false then ([], (6, -1))
 else match partB l (needL l [out]) with
  | none => ([], (9, -1))
  | some _ => ((wantW l T out).1, ((wantW l T out).2, -1))

end Go.Proofs.YtnmhaipjfpongacGreatDoor

namespace Go.Proofs.YtnmhaipjfpongacGreatDoor
open Go.ChangeShapes Go.WideShapes Go.ChangeAt Go.RowKit

abbrev tEnc (P : Nat → Addr) (x : Tld) : Value := .agg #[S x.1, errC P x.2]

theorem wpTextH {P : Program} (hP : P = Tryz.prog) {ops : Array Oper} {rest : List Oper} {o : Oper} {a : Act} {Q : Exit → Act → World → Prop} (s x : Operand) (w0 : World) (base : Nat) (v : Value) (l : List B) (k : B) (W : World) (H : Nat) (hH : W.heap.size = H) (hgd : o.guard = none)
  (ho : o.op = .call { callee := .builtin .append, args := #[s, x], argTypes := #[53, 53] }) (hs : a.eval s = v) (hx : a.eval x = .slice (some ⟨H, 0, none⟩) 1 1)
  (hrow : Row base W v l) (hl : l.length ≤ 1000000) (hbase : base ≤ W.heap.size) (hxt : Ext w0 W) (hb0 : w0.heap.size ≤ base)
  (hK : ∀ g cap w', Hid (Row base w' (.slice (some ⟨g, 0, none⟩) (l.length + 1) cap) (l ++ [k])) → Hid (Ext w0 w') → Hid (W.grownBy w' v.ownBlock) →
   wpList P ops Q rest (a.put o.dst (.slice (some ⟨g, 0, none⟩) (l.length + 1) cap)) w') :
  wpList P ops Q (o :: rest) a (W.alloc (.cells #[S k] 9 (0, 0))) := by
 subst hH
 exact wpText hP s x w0 base v l k W hgd ho hs hx hrow hl hbase hxt hb0 hK

structure AskAt (w0 w : World) (P : Nat → Addr) (ab tb kb : Nat) (lv : Value) (L : List (B × Tld)) : Prop where
 ext : Ext w0 w
 cells : w.heap[ab]? = some (.cells #[.pointer (some ⟨tb, 0, none⟩), lv, .map (some kb)] 153 (0, 0))
 map : KMap .string S (tEnc P) w kb L
 lo : w0.heap.size ≤ ab ∧ w0.heap.size ≤ kb ∧ ab ≠ kb
theorem AskAt.later {w0 w w' : World} {P : Nat → Addr} {ab tb kb : Nat} {lv : Value} {L : List (B × Tld)} {p : Nat → Prop} (h : AskAt w0 w P ab tb kb lv L) (ho : Only p w w') (hp : ∀ b, p b → w0.heap.size ≤ b ∧ b ≠ ab ∧ b ≠ kb) : AskAt w0 w' P ab tb kb lv L :=
 ⟨h.ext.trans ho (fun _ _ h => h) (fun i hi e => by have := (hp i e).1; omega), ho.heapOf h.cells (fun e => (hp _ e).2.1 rfl), h.map.later ho (fun e => (hp _ e).2.2 rfl), h.lo⟩
theorem AskAt.grow {w0 w w' : World} {P : Nat → Addr} {ab tb kb : Nat} {lv : Value} {L : List (B × Tld)} (h : AskAt w0 w P ab tb kb lv L) (ho : Ext w w') : AskAt w0 w' P ab tb kb lv L := h.later ho (fun _ h => h.elim)

def Knows (W : B → Tld) (L : List (B × Tld)) : Prop := ∀ p x, L.lookup p = some x → x = W p

def OfPost (w0 : World) (P : Nat → Addr) (ab tb kb : Nat) (lv : Value) (W : B → Tld) (x : Tld) (w : World) (e : Ending) (w' : World) : Prop :=
 e = .returned (tEnc P x) ∧ ∃ L, AskAt w0 w' P ab tb kb lv L ∧ Knows W L ∧ Only (fun b => b = kb) w w'

theorem made_results (tmps : Array Value) (W : World) (h : Nat) (t ev : Value) (h4 : tmps[4]? = some (.pointer (some ⟨h, 0, none⟩))) (d0 : W.cell? ⟨h, 0, none⟩ = some t) (d1 : W.cell? ⟨h, 1, none⟩ = some ev) :
  (results Tryz.f167 tmps).run Tryz.prog W = .ok (.agg #[t, ev]) W := by
 simp only [results, Tryz.results167]
 simp [go_sem, h4, d0, d1]

set_option maxRecDepth 100000 in
set_option maxHeartbeats 4000000 in
theorem made_any (w0 : World) (P : Nat → Addr) (ab tb kb : Nat) (lv : Value) (W : B → Tld) (n : Nat) (D : B → Prop) (rk : B → Nat) (hlen : ∀ p, D p → (W p).1.length ≤ 2000) (hA : ActVars w0 P)
  (hof : ∀ p, D p → rk p < n → ∀ w L, AskAt w0 w P ab tb kb lv L → Knows W L → Calls Tryz.prog 95 #[.pointer (some ⟨ab, 0, none⟩), S p] w (OfPost w0 P ab tb kb lv W (W p) w))
  (r : Rule) (hr : ∀ q ∈ r.ins, D q ∧ rk q < n) (hm : r.ins.length ≤ 12) (hw : r.word.length ≤ 1000) (w : World) (u : Value) (hu : Rd S w0 u r.ins) (L : List (B × Tld)) (hL : AskAt w0 w P ab tb kb lv L) (hK : Knows W L) :
  Calls Tryz.prog 167 #[.pointer (some ⟨ab, 0, none⟩), AggR r u] w (OfPost w0 P ab tb kb lv W (wMade W r) w) := by
 obtain ⟨au, cu, rfl, _, _, hc⟩ := hu
 have HC := Lib.hid hc
 have HOF := Lib.hid hof
 have HR := Lib.hid hr
 have HLN := Lib.hid hlen
 have HAV := Lib.hid hA
 obtain ⟨X, hX⟩ : ∃ X, X = wMade W r := ⟨_, rfl⟩
 rw [← hX]
 have HX := Lib.hid hX
 have hmz : (r.ins.length : Int) ≤ 12 := by omega
 clear hc hof hr hlen hA hX
 have HL0 := Lib.hid (hL.grow ((Only.alloc (fun _ => False) w (.cells #[S r.out, S r.kind, S r.word, .slice au r.ins.length cu] 55 (0, 0))).thenAlloc (.cells #[S [], .nilIface] 155 (0, 0))))
 have HK0 := Lib.hid hK
 have hKB := hL.map.lt
 have hAB := lt_of_heap hL.cells
 have hW0 := hL.ext.size
 clear hL hK
 go_enter Tryz.func167, Tryz.ntmps167
 go_wp2_with fail
 have hkw := HL0.out.map.lt
 have HRB0 : Hid (((w.alloc (.cells #[S r.out, S r.kind, S r.word, .slice au r.ins.length cu] 55 (0, 0))).alloc (.cells #[S [], .nilIface] 155 (0, 0))).heap[w.heap.size]? = some (.cells #[S r.out, S r.kind, S r.word, .slice au r.ins.length cu] 55 (0, 0))) := Lib.hid ((Only.alloc (fun _ => False) _ _).heapOf (MapKept.heap_alloc w _).1 (fun h => h))
 have HSB0 : Hid (((w.alloc (.cells #[S r.out, S r.kind, S r.word, .slice au r.ins.length cu] 55 (0, 0))).alloc (.cells #[S [], .nilIface] 155 (0, 0))).heap[w.heap.size + 1]? = some (.cells #[S [], .nilIface] 155 (0, 0))) := Lib.hid (by
  have h := (MapKept.heap_alloc (w.alloc (.cells #[S r.out, S r.kind, S r.word, .slice au r.ins.length cu] 55 (0, 0))) (.cells #[S [], .nilIface] 155 (0, 0))).1
  simpa using h)
 have HO0 : Hid (Only (fun b => b = kb) w ((w.alloc (.cells #[S r.out, S r.kind, S r.word, .slice au r.ins.length cu] 55 (0, 0))).alloc (.cells #[S [], .nilIface] 155 (0, 0)))) := Lib.hid ((Only.alloc _ w _).thenAlloc _)
 obtain ⟨rb, hrb⟩ : ∃ rb, rb = w.heap.size := ⟨_, rfl⟩
 obtain ⟨sb, hsb⟩ : ∃ sb, sb = w.heap.size + 1 := ⟨_, rfl⟩
 obtain ⟨bs, hbs⟩ : ∃ bs, bs = w.heap.size + 2 := ⟨_, rfl⟩
 rw [← hrb] at HRB0
 rw [← hsb] at HSB0
 rw [← hsb, ← hrb]
 have HBZ : Hid (bs ≤ ((w.alloc (.cells #[S r.out, S r.kind, S r.word, .slice au r.ins.length cu] 55 (0, 0))).alloc (.cells #[S [], .nilIface] 155 (0, 0))).heap.size) := Lib.hid (by simp; omega)
 have HLO : Hid (kb < w.heap.size ∧ ab < w.heap.size ∧ w0.heap.size ≤ w.heap.size ∧ rb = w.heap.size ∧ sb = w.heap.size + 1 ∧ bs = w.heap.size + 2) := Lib.hid ⟨hKB, hAB, hW0, hrb, hsb, hbs⟩
 clear hrb hsb hbs hKB hAB hW0 hkw
 generalize ((w.alloc (.cells #[S r.out, S r.kind, S r.word, .slice au r.ins.length cu] 55 (0, 0))).alloc (.cells #[S [], .nilIface] 155 (0, 0))) = wq at HL0 HRB0 HSB0 HO0 HBZ ⊢
 go_loopw [5, 7, 8, 14] (fun q _ _ i wr => ∃ (j : Nat) (qv : Value) (L : List (B × Tld)), qv = q ∧ j ≤ r.ins.length ∧ i = .int .i64 j ∧ Hid (AskAt w0 wr P ab tb kb lv L) ∧ Hid (Knows W L) ∧ Hid (Row bs wr qv ((r.ins.take j).map fun q => (W q).1)) ∧ Hid (∀ x ∈ r.ins.take j, (W x).2 = 0) ∧ Hid (Only (fun b => b = kb) w wr) ∧ Hid (wr.heap[rb]? = some (.cells #[S r.out, S r.kind, S r.word, .slice au r.ins.length cu] 55 (0, 0))) ∧ Hid (wr.heap[sb]? = some (.cells #[S [], .nilIface] 155 (0, 0))) ∧ Hid (bs ≤ wr.heap.size)) (fun _ _ _ i _ => r.ins.length - (intOf i).toNat)
 case atStart => exact ⟨0, _, L, rfl, Nat.zero_le _, rfl, HL0, HK0, Lib.hid (Row.nil _ _), Lib.hid (by simp), HO0, HRB0, HSB0, HBZ⟩
 case round =>
  clear HL0 HK0 HRB0 HSB0 HO0 HBZ
  obtain ⟨j, qv, L, rfl, hj, rfl, HL, HK, HQ, HZ, HO, HRB, HSB, HB⟩ := hrel
  by_cases hlt : j < r.ins.length
  ·have hltz : (j : Int) < (r.ins.length : Int) := by omega
   have hj0 : (0 : Int) ≤ (j : Int) := by omega
   obtain ⟨b, off, rfl, hcell⟩ := HC.out (by intro h; rw [h] at hlt; simp at hlt)
   obtain ⟨q, hq⟩ : ∃ y, r.ins[j]? = some y := ⟨_, List.getElem?_eq_getElem hlt⟩
   have d0 := HL.out.ext.cellOf (hcell j q hq) (fun h => h)
   obtain ⟨hq1, hq2⟩ := HR.out q (List.mem_of_getElem? hq)
   have HCA := Lib.hid (HOF.out q hq1 hq2 wr L HL.out HK.out)
   have HQN := Lib.hid hq
   have HTM : Hid ((r.ins.take (j + 1)).map (fun q => (W q).1) = (r.ins.take j).map (fun q => (W q).1) ++ [(W q).1]) := Lib.hid (by rw [List.take_add_one, hq]; simp)
   have hql : ((r.ins.take j).map fun q => (W q).1).length ≤ 1000000 := by rw [List.length_map, List.length_take]; omega
   have HQL := Lib.hid hql
   obtain ⟨aq, cq, hqf, _, _, _⟩ := HQ.out.rd
   rw [List.length_map, show (r.ins.take j).length = j by rw [List.length_take]; omega] at hqf
   subst hqf
   clear hcell hq hq2 hql
   have r0 := cell_of_heap HRB.out 0
   go_wp2_with fail
   refine HCA.out.mono ?_
   rintro e w3 ⟨rfl, L3, hL3, hK3, ho3⟩
   have hbk : ∀ b, (Value.slice aq j cq).ownBlock = some b → ¬ b = kb := fun b hb e => by have := (HQ.out.lt b hb).1; have := HLO.out; omega
   have HL3 := Lib.hid hL3
   have HK3 := Lib.hid hK3
   have HQ3 : Hid (Row bs w3 (.slice aq j cq) ((r.ins.take j).map fun q => (W q).1)) := Lib.hid (ho3.row HQ.out hbk)
   have HO3 := Lib.hid (HO.out.then ho3)
   have HRB3 := Lib.hid (ho3.heapOf HRB.out (fun e => by have := HLO.out; omega))
   have HSB3 := Lib.hid (ho3.heapOf HSB.out (fun e => by have := HLO.out; omega))
   have HB3 := Lib.hid (Nat.le_trans HB.out ho3.size)
   clear hL3 hK3 ho3 hbk HQ HO HRB HSB HB HL HK r0
   obtain ⟨s, c, hsc⟩ : ∃ s c, W q = (s, c) := ⟨_, _, rfl⟩
   have HSC := Lib.hid hsc
   have HSL : Hid (s.length ≤ 2000) := Lib.hid (by have := HLN.out q hq1; rw [hsc] at this; exact this)
   rw [hsc] at HTM ⊢
   clear hsc hq1
   cases c with
   | zero =>
    have hz : tEnc P (s, 0) = .agg #[S s, .nilIface] := rfl
    rw [hz]
    have HLA := Lib.hid (HL3.out.grow (Only.alloc (fun _ => False) w3 (.cells #[S s, .nilIface] 155 (0, 0))))
    have HQA := Lib.hid (HQ3.out.ext (Only.alloc (fun _ => False) w3 (.cells #[S s, .nilIface] 155 (0, 0))))
    have HBA : Hid (bs ≤ (w3.alloc (.cells #[S s, .nilIface] 155 (0, 0))).heap.size) := Lib.hid (by simp; have := HB3.out; omega)
    have HZ2 : Hid (∀ x ∈ r.ins.take (j + 1), (W x).2 = 0) := Lib.hid (fun x hx => by
     rw [List.take_add_one, HQN.out] at hx
     rcases List.mem_append.1 hx with hx | hx
     ·exact HZ.out x hx
     ·rw [Option.toList_some, List.mem_singleton] at hx
      rw [hx, HSC.out])
    generalize (r.ins.take j).map (fun q => (W q).1) = Xs at HQA HTM HQL
    clear HZ HQ3
    go_wp2_with (at_builtin; refine wpTextH rfl (.tmp 25) (.tmp 28) w0 bs _ Xs s (w3.alloc (.cells #[S s, .nilIface] 155 (0, 0))) (w3.heap.size + 1) (by simp) rfl rfl rfl rfl HQA.out HQL.out HBA.out HLA.out.ext (by have := HLO.out; omega) ?_; intro g5 cap5 w5 HR5 _ HG5; have HO5 := Only.of_grown HG5.out; have HOW : ∀ b, (Value.slice aq j cq).ownBlock = some b → bs ≤ b := HQA.out.base; have HL5 := Lib.hid (HLA.out.later HO5 (fun b hb => by have := HOW b hb; have := HLO.out; omega)); have HO6 := Lib.hid ((HO3.out.thenAlloc _).thenGrown HG5.out (fun i hi => .inr (by have := HOW i hi; have := HLO.out; omega))); have HRB5 := Lib.hid (HO5.heapOf ((Only.alloc (fun _ => False) w3 _).heapOf HRB3.out (fun h => h)) (fun hb => by have := HOW _ hb; have := HLO.out; omega)); have HSB5 := Lib.hid (HO5.heapOf ((Only.alloc (fun _ => False) w3 _).heapOf HSB3.out (fun h => h)) (fun hb => by have := HOW _ hb; have := HLO.out; omega)); have HB5 := Lib.hid (Nat.le_trans HBA.out HO5.size); clear HO5 HOW)
    go_roundw
    case rel => exact ⟨j + 1, _, L3, rfl, by omega, by go_num, HL5, HK3, by rw [HTM.out]; exact HR5, HZ2, HO6, HRB5, HSB5, HB5⟩
    case measure => simp [intOf]; omega
   | succ c =>
    have hz : tEnc P (s, c + 1) = .agg #[S s, errV (P c)] := rfl
    rw [hz]
    have hsb := (Only.alloc (fun _ => False) w3 (.cells #[S s, errV (P c)] 155 (0, 0))).heapOf HSB3.out (fun h => h)
    have s0 : (w3.alloc (.cells #[S s, errV (P c)] 155 (0, 0))).cell? ⟨sb, 0, none⟩ = some (S []) := (cell_of_heap hsb 0).trans rfl
    have s1 : (w3.alloc (.cells #[S s, errV (P c)] 155 (0, 0))).cell? ⟨sb, 1, none⟩ = some .nilIface := (cell_of_heap hsb 1).trans rfl
    have f0 := free_of_heap hsb 0
    have f1 := free_of_heap hsb 1
    have HXE : Hid (X = (s, c + 1)) := Lib.hid (by rw [HX.out, made_bad HQN.out (by rw [HSC.out]; exact Nat.succ_ne_zero c) HZ.out, HSC.out])
    have hs0 : Only (fun b => b = sb) (w3.alloc (.cells #[S s, errV (P c)] 155 (0, 0))) (((w3.alloc (.cells #[S s, errV (P c)] 155 (0, 0))).setCell ⟨sb, 0, none⟩ (S s)).setCell ⟨sb, 1, none⟩ (errV (P c))) := (Only.set (p := fun b => b = sb) (S s) rfl).then (Only.set (p := fun b => b = sb) (errV (P c)) rfl)
    have HFA := Lib.hid ((HL3.out.grow (Only.alloc (fun _ => False) w3 (.cells #[S s, errV (P c)] 155 (0, 0)))).later hs0 (fun b e => by have := HLO.out; omega))
    have HFO := Lib.hid ((HO3.out.thenAlloc (.cells #[S s, errV (P c)] 155 (0, 0))).trans hs0 (fun _ _ h => h) (fun i hi e => by have := HLO.out; omega))
    have hcf := heap_setCell_same (heap_setCell_same hsb 0 (S s)) 1 (errV (P c))
    have HF0 := Lib.hid ((cell_of_heap hcf 0).trans (rfl : _ = some (S s)))
    have HF1 := Lib.hid ((cell_of_heap hcf 1).trans (rfl : _ = some (errV (P c))))
    clear hsb hs0 hcf
    go_wp2_with fail
    exact bodyPost_ret (v := .agg #[S s, errV (P c)]) (made_results _ _ sb _ _ rfl HF0.out HF1.out) rfl ⟨by rw [HXE.out]; rfl, L3, HFA.out, HK3.out, HFO.out⟩
  ·have hltz : ¬ (j : Int) < (r.ins.length : Int) := by omega
   obtain rfl : j = r.ins.length := by omega
   rw [List.take_length] at HQ HZ
   have HXE : Hid (X = (runOut r.kind r.word (r.ins.map fun q => (W q).1), runCode r.kind r.word (r.ins.map fun q => (W q).1))) := Lib.hid (by rw [HX.out, made_ok HZ.out])
   have hsum : sumLen (r.ins.map fun q => (W q).1) + (r.ins.map fun q => (W q).1).length ≤ 900000 := by
    have h3 : ∀ k : List B, (∀ q ∈ k, (W q).1.length ≤ 2000) → sumLen (k.map fun q => (W q).1) ≤ k.length * 2000 := by
     intro k
     induction k with
     | nil => intro _; simp [sumLen]
     | cons x k ih =>
      intro hk
      rw [List.map_cons, sum_cons, List.length_cons, Nat.succ_mul]
      have := ih fun y hy => hk y (.tail _ hy)
      have := hk x (.head _)
      omega
    have h4 := h3 r.ins (fun q hq => HLN.out q (HR.out q hq).1)
    have h5 : r.ins.length * 2000 ≤ 12 * 2000 := Nat.mul_le_mul_right _ hm
    rw [List.length_map]
    omega
   have HRUN := Lib.hid (actRun_any wr P r.kind r.word (r.ins.map fun q => (W q).1) qv HQ.out.rd hsum hw (HAV.out.ext HL.out.ext))
   have r1 : wr.cell? ⟨rb, 1, none⟩ = some (S r.kind) := (cell_of_heap HRB.out 1).trans rfl
   have r2 : wr.cell? ⟨rb, 2, none⟩ = some (S r.word) := (cell_of_heap HRB.out 2).trans rfl
   clear hsum hlt hj
   generalize runOut r.kind r.word (r.ins.map fun q => (W q).1) = RO at HXE HRUN
   generalize runCode r.kind r.word (r.ins.map fun q => (W q).1) = RC at HXE HRUN
   go_wp2_with fail
   refine (HRUN.out).mono ?_
   rintro e w3 ⟨rfl, ho3⟩
   have HO3 := Lib.hid (HO.out.ext ho3)
   have HL3 := Lib.hid (HL.out.grow ho3)
   have HHO := Lib.hid ho3
   clear ho3
   have hsb := HHO.out.heapOf HSB.out (fun h => h)
   have s0 : w3.cell? ⟨sb, 0, none⟩ = some (S []) := (cell_of_heap hsb 0).trans rfl
   have s1 : w3.cell? ⟨sb, 1, none⟩ = some .nilIface := (cell_of_heap hsb 1).trans rfl
   have f0 := free_of_heap hsb 0
   have f1 := free_of_heap hsb 1
   obtain ⟨ER, hER⟩ : ∃ ER, ER = errC P RC := ⟨_, rfl⟩
   rw [← hER]
   have HER := Lib.hid hER
   have hform : ER = .nilIface ∨ ∃ c, ER = errV (P c) := by
    rw [hER]
    cases RC with
    | zero => exact .inl rfl
    | succ c => exact .inr ⟨c, rfl⟩
   have hs0 : Only (fun b => b = sb) w3 ((w3.setCell ⟨sb, 0, none⟩ (S RO)).setCell ⟨sb, 1, none⟩ ER) := (Only.set (p := fun b => b = sb) (S RO) rfl).then (Only.set (p := fun b => b = sb) ER rfl)
   have HFA := Lib.hid (HL3.out.later hs0 (fun b e => by have := HLO.out; omega))
   have HFO := Lib.hid (HO3.out.trans hs0 (fun _ _ h => h) (fun i hi e => by have := HLO.out; omega))
   have hcf := heap_setCell_same (heap_setCell_same hsb 0 (S RO)) 1 ER
   have HF0 := Lib.hid ((cell_of_heap hcf 0).trans (rfl : _ = some (S RO)))
   have HF1 := Lib.hid ((cell_of_heap hcf 1).trans (rfl : _ = some ER))
   clear hsb hs0 hER hcf
   rcases hform with rfl | ⟨c, rfl⟩
   all_goals
    go_wp2_with fail
    exact bodyPost_ret (v := .agg #[S RO, _]) (made_results _ _ sb _ _ rfl HF0.out HF1.out) rfl ⟨by rw [HXE.out, HER.out], L, HFA.out, HK.out, HFO.out⟩
end Go.Proofs.YtnmhaipjfpongacGreatDoor
