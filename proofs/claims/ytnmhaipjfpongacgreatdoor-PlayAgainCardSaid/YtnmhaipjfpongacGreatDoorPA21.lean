/- Texts of this seat laid together for one claim: Z0, Bm0, Z1. No condition of its own: what each proves stands with its theorems. -/
import Derived.Test.YtnmhaipjfpongacGreatDoorPA3
import Derived.Test.YtnmhaipjfpongacGreatDoorPA20
import Derived.Test.YtnmhaipjfpongacGreatDoorPA7
import Derived.Test.YtnmhaipjfpongacGreatDoorPA19
import Derived.Test.YtnmhaipjfpongacGreatDoorPA8
namespace Go.Proofs.YtnmhaipjfpongacGreatDoor

structure BE where
 l : List Rule
 sm : List Nat
 T : FL
def BE.rule (E : BE) (i : Nat) : Rule := (E.l[i]?).getD ⟨[], [], [], []⟩
def BE.W (E : BE) : B → Tld := wantW E.l E.T
def BE.ans (E : BE) (i : Nat) : Tld := E.W (E.rule i).out
def BE.args (E : BE) (i : Nat) : List B := (E.rule i).ins.map fun q => (E.W q).1
def BE.key (E : BE) (i : Nat) : B := keyT (E.rule i).kind (E.rule i).word (E.args i)
def BE.nd (E : BE) (i k : Nat) : Bool := needB E.l i k

structure BS where
 st : Nat → Nat
 hit : Nat → Bool
def BS.new : BS := ⟨fun _ => 1, fun _ => false⟩

def readyP (E : BE) (s : BS) (i : Nat) : Bool := s.st i == 1 && E.sm.all fun k => !(E.nd i k) || s.st k == 2

theorem ready_iff {E : BE} {s : BS} {i : Nat} : readyP E s i = true ↔ s.st i = 1 ∧ ∀ k ∈ E.sm, E.nd i k = true → s.st k = 2 := by
 unfold readyP
 rw [Bool.and_eq_true, beq_iff_eq, List.all_eq_true]
 constructor
 ·rintro ⟨h1, h2⟩
  refine ⟨h1, fun k hk hn => ?_⟩
  have := h2 k hk
  rw [hn] at this
  simpa using this
 ·rintro ⟨h1, h2⟩
  refine ⟨h1, fun k hk => ?_⟩
  cases hn : E.nd i k with
  | false => rfl
  | true => rw [h2 k hk hn]; rfl

inductive LeftP (E : BE) (s : BS) : Nat → Prop
 | one {i k : Nat} : i ∈ E.sm → s.st i = 1 → k ∈ E.sm → E.nd i k = true → 3 ≤ s.st k → LeftP E s i
 | more {i k : Nat} : i ∈ E.sm → s.st i = 1 → k ∈ E.sm → E.nd i k = true → LeftP E s k → LeftP E s i
theorem LeftP.mem {E : BE} {s : BS} {i : Nat} (h : LeftP E s i) : i ∈ E.sm ∧ s.st i = 1 := by cases h <;> exact ⟨‹_›, ‹_›⟩

def setP (s : BS) (i x : Nat) : BS := ⟨fun k => if k = i then x else s.st k, s.hit⟩
def doneP (s : BS) (i : Nat) (h : Bool) : BS := ⟨fun k => if k = i then 2 else s.st k, fun k => if k = i then h else s.hit k⟩
open Classical in
noncomputable def spreadP (E : BE) (s : BS) : BS := ⟨fun k => if LeftP E s k then 4 else s.st k, s.hit⟩
noncomputable def failP (E : BE) (s : BS) (i : Nat) : BS := spreadP E (setP s i 3)

theorem spread_left {E : BE} {s : BS} {k : Nat} (h : LeftP E s k) : (spreadP E s).st k = 4 := by
 unfold spreadP
 exact if_pos h
theorem spread_same {E : BE} {s : BS} {k : Nat} (h : ¬ LeftP E s k) : (spreadP E s).st k = s.st k := by
 unfold spreadP
 exact if_neg h
theorem spread_cases {E : BE} {s : BS} (k : Nat) : (LeftP E s k ∧ (spreadP E s).st k = 4 ∧ s.st k = 1) ∨ (¬ LeftP E s k ∧ (spreadP E s).st k = s.st k) := by
 by_cases h : LeftP E s k
 ·exact .inl ⟨h, spread_left h, h.mem.2⟩
 ·exact .inr ⟨h, spread_same h⟩

structure BInv (E : BE) (s : BS) : Prop where
 rng : ∀ i ∈ E.sm, 1 ≤ s.st i ∧ s.st i ≤ 4
 ran : ∀ i ∈ E.sm, s.st i = 2 ∨ s.st i = 3 → ∀ k ∈ E.sm, E.nd i k = true → s.st k = 2
 left : ∀ i ∈ E.sm, s.st i = 4 → ∃ k ∈ E.sm, E.nd i k = true ∧ 3 ≤ s.st k
 clos : ∀ i ∈ E.sm, s.st i = 1 → ∀ k ∈ E.sm, E.nd i k = true → s.st k ≤ 2
 two : ∀ i ∈ E.sm, s.st i = 2 → (E.ans i).2 = 0
 three : ∀ i ∈ E.sm, s.st i = 3 → (E.ans i).2 ≠ 0

theorem BInv.new (E : BE) : BInv E .new :=
 ⟨fun _ _ => ⟨Nat.le_refl _, by simp [BS.new]⟩, fun _ _ h => by simp [BS.new] at h, fun _ _ h => by simp [BS.new] at h, fun _ _ _ _ _ _ => by simp [BS.new], fun _ _ h => by simp [BS.new] at h, fun _ _ h => by simp [BS.new] at h⟩

theorem BInv.done {E : BE} {s : BS} {i : Nat} (I : BInv E s) (hi : i ∈ E.sm) (hr : readyP E s i = true) (ha : (E.ans i).2 = 0) (b : Bool) : BInv E (doneP s i b) := by
 obtain ⟨h1, h2⟩ := ready_iff.1 hr
 have e : ∀ k, (doneP s i b).st k = if k = i then 2 else s.st k := fun _ => rfl
 refine ⟨fun k hk => ?_, fun k hk hs j hj hn => ?_, fun k hk hs => ?_, fun k hk hs j hj hn => ?_, fun k hk hs => ?_, fun k hk hs => ?_⟩
 ·rw [e]; split
  ·omega
  ·exact I.rng k hk
 ·rw [e] at hs ⊢
  by_cases hji : j = i
  ·rw [if_pos hji]
  ·rw [if_neg hji]
   by_cases hki : k = i
   ·subst hki; exact h2 j hj hn
   ·rw [if_neg hki] at hs; exact I.ran k hk hs j hj hn
 ·rw [e] at hs
  by_cases hki : k = i
  ·rw [if_pos hki] at hs; omega
  ·rw [if_neg hki] at hs
   obtain ⟨j, h3, h4, h5⟩ := I.left k hk hs
   refine ⟨j, h3, h4, ?_⟩
   rw [e, if_neg (fun e2 => by rw [e2] at h5; omega)]
   exact h5
 ·rw [e] at hs ⊢
  by_cases hki : k = i
  ·rw [if_pos hki] at hs; omega
  ·rw [if_neg hki] at hs
   have := I.clos k hk hs j hj hn
   split <;> omega
 ·rw [e] at hs
  by_cases hki : k = i
  ·rw [hki]; exact ha
  ·rw [if_neg hki] at hs; exact I.two k hk hs
 ·rw [e] at hs
  by_cases hki : k = i
  ·rw [if_pos hki] at hs; omega
  ·rw [if_neg hki] at hs; exact I.three k hk hs

theorem BInv.fail {E : BE} {s : BS} {i : Nat} (I : BInv E s) (hi : i ∈ E.sm) (hr : readyP E s i = true) (ha : (E.ans i).2 ≠ 0) (hself : E.nd i i = false) : BInv E (failP E s i) := by
 obtain ⟨h1, h2⟩ := ready_iff.1 hr
 have e : ∀ k, (setP s i 3).st k = if k = i then 3 else s.st k := fun _ => rfl
 have hni : ¬ LeftP E (setP s i 3) i := fun h => by have := h.mem.2; rw [e, if_pos rfl] at this; omega
 -- a rule that is neither left now nor the failed one has the state that it had
 have same : ∀ k, k ≠ i → ¬ LeftP E (setP s i 3) k → (failP E s i).st k = s.st k := fun k hk hl => by
  unfold failP; rw [spread_same hl, e, if_neg hk]
 have me : (failP E s i).st i = 3 := by unfold failP; rw [spread_same hni, e, if_pos rfl]
 have lf : ∀ k, LeftP E (setP s i 3) k → (failP E s i).st k = 4 ∧ s.st k = 1 ∧ k ≠ i := fun k hk => by
  have hki : k ≠ i := fun e2 => hni (e2 ▸ hk)
  have h4 := hk.mem.2
  rw [e, if_neg hki] at h4
  exact ⟨by unfold failP; exact spread_left hk, h4, hki⟩
 have two_stays : ∀ k, s.st k = 2 → (failP E s i).st k = 2 := fun k hk => by
  have hki : k ≠ i := fun e2 => by rw [e2] at hk; omega
  rw [same k hki (fun h => by have := (lf k h).2.1; omega)]; exact hk
 refine ⟨fun k hk => ?_, fun k hk hs j hj hn => ?_, fun k hk hs => ?_, fun k hk hs j hj hn => ?_, fun k hk hs => ?_, fun k hk hs => ?_⟩
 ·by_cases hl : LeftP E (setP s i 3) k
  ·rw [(lf k hl).1]; omega
  ·by_cases hki : k = i
   ·rw [hki, me]; omega
   ·rw [same k hki hl]; exact I.rng k hk
 ·by_cases hl : LeftP E (setP s i 3) k
  ·rw [(lf k hl).1] at hs; omega
  ·by_cases hki : k = i
   ·subst hki
    exact two_stays j (h2 j hj hn)
   ·rw [same k hki hl] at hs
    exact two_stays j (I.ran k hk hs j hj hn)
 ·by_cases hl : LeftP E (setP s i 3) k
  ·cases hl with
   | @one _ j _ _ hj hn hge =>
    refine ⟨j, hj, hn, ?_⟩
    by_cases hji : j = i
    ·rw [hji, me]; omega
    ·rw [e, if_neg hji] at hge
     by_cases hlj : LeftP E (setP s i 3) j
     ·rw [(lf j hlj).1]; omega
     ·rw [same j hji hlj]; exact hge
   | @more _ j _ _ hj hn hlj => exact ⟨j, hj, hn, by rw [(lf j hlj).1]; omega⟩
  ·by_cases hki : k = i
   ·rw [hki, me] at hs; omega
   ·rw [same k hki hl] at hs
    obtain ⟨j, hj, hn, hge⟩ := I.left k hk hs
    refine ⟨j, hj, hn, ?_⟩
    by_cases hji : j = i
    ·rw [hji, me]; omega
    ·by_cases hlj : LeftP E (setP s i 3) j
     ·rw [(lf j hlj).1]; omega
     ·rw [same j hji hlj]; exact hge
 ·by_cases hl : LeftP E (setP s i 3) k
  ·rw [(lf k hl).1] at hs; omega
  ·by_cases hki : k = i
   ·rw [hki, me] at hs; omega
   ·rw [same k hki hl] at hs
    have hk1 : (setP s i 3).st k = 1 := by rw [e, if_neg hki]; exact hs
    by_cases hlj : LeftP E (setP s i 3) j
    ·exact absurd (.more hk hk1 hj hn hlj) hl
    ·by_cases hji : j = i
     ·exact absurd (.one hk hk1 hj hn (by rw [e, if_pos hji]; omega)) hl
     ·rw [same j hji hlj]; exact I.clos k hk hs j hj hn
 ·by_cases hl : LeftP E (setP s i 3) k
  ·rw [(lf k hl).1] at hs; omega
  ·by_cases hki : k = i
   ·rw [hki, me] at hs; omega
   ·rw [same k hki hl] at hs; exact I.two k hk hs
 ·by_cases hl : LeftP E (setP s i 3) k
  ·rw [(lf k hl).1] at hs; omega
  ·by_cases hki : k = i
   ·rw [hki]; exact ha
   ·rw [same k hki hl] at hs; exact I.three k hk hs

abbrev CS := Option (Nat × FL)
noncomputable def runP (E : BE) (C : CS) (s : BS) (i : Nat) : (Bool × Nat) × BS × CS :=
 if i ∉ E.sm then ((false, 6), s, C)
 else if s.st i ≠ 1 then ((false, 12), s, C)
 else if readyP E s i = false then ((false, 11), s, C)
 else if (E.ans i).2 ≠ 0 then ((false, 0), failP E s i, C)
 else match C with
  | none => ((false, 0), doneP s i false, none)
  | some (many, L) => match L.lookup (E.key i) with
   | some _ => ((true, 0), doneP s i true, some (many, getL L (E.key i)))
   | none => ((false, 0), doneP s i false, some (many, putL many L (E.key i) (E.ans i).1))
end Go.Proofs.YtnmhaipjfpongacGreatDoor

namespace Go.Proofs.YtnmhaipjfpongacGreatDoor

def mst (E : BE) (s : BS) (i : Nat) : Nat := if i ∈ E.sm then s.st i else 0
theorem mst_in {E : BE} {s : BS} {i : Nat} (h : i ∈ E.sm) : mst E s i = s.st i := if_pos h
theorem mst_out {E : BE} {s : BS} {i : Nat} (h : i ∉ E.sm) : mst E s i = 0 := if_neg h
end Go.Proofs.YtnmhaipjfpongacGreatDoor

namespace Go.Proofs.YtnmhaipjfpongacGreatDoor
open Go.ChangeShapes Go.WideShapes Go.ChangeAt Go.RowKit

abbrev PTR (b : Nat) : Value := .pointer (some ⟨b, 0, none⟩)

structure BK where
 b : Nat
 tb : Nat
 tmb : Nat
 lb : Nat
 bb : Nat
 cp : Value
 blk : Nat → Nat
 iv : Nat → Value

def outC (E : BE) (s : BS) (i : Nat) : Value := S (if s.st i = 2 then (E.ans i).1 else [])
def whyC (P : Nat → Addr) (E : BE) (s : BS) (i : Nat) : Value := if s.st i = 3 then errC P (E.ans i).2 else .nilIface
abbrev stepC (P : Nat → Addr) (E : BE) (K : BK) (s : BS) (i : Nat) : Array Value :=
 #[S (E.rule i).out, S (E.rule i).kind, S (E.rule i).word, K.iv i, IN (s.st i), .bool (s.st i == 2 && s.hit i), outC E s i, whyC P E s i]

structure BldAt (w : World) (P : Nat → Addr) (base : Nat) (E : BE) (K : BK) (s : BS) : Prop where
 cells : w.heap[K.b]? = some (.cells #[PTR K.tb, .map (some K.lb), .map (some K.bb), K.cp] 186 (0, 0))
 tree : TreeAt w K.tb K.tmb E.T
 steps : KMap (.int .i64) I PTR w K.lb (E.sm.map fun (i : Nat) => ((i : Int), K.blk i))
 outs : KMap .string S IN w K.bb (E.sm.map fun i => ((E.rule i).out, i))
 step : ∀ i ∈ E.sm, w.heap[K.blk i]? = some (.cells (stepC P E K s i) 189 (0, 0))
 ins : ∀ i ∈ E.sm, Row base w (K.iv i) (E.rule i).ins
 inj : ∀ i ∈ E.sm, ∀ j ∈ E.sm, K.blk i = K.blk j → i = j
 lo : base ≤ K.b ∧ base ≤ K.tb ∧ base ≤ K.tmb ∧ base ≤ K.lb ∧ base ≤ K.bb ∧ ∀ i ∈ E.sm, base ≤ K.blk i

def InBld (E : BE) (K : BK) (i : Nat) : Prop := i = K.b ∨ i = K.tb ∨ i = K.tmb ∨ i = K.lb ∨ i = K.bb ∨ (∃ j ∈ E.sm, i = K.blk j) ∨ ∃ j ∈ E.sm, (K.iv j).ownBlock = some i
def InSteps (E : BE) (K : BK) (i : Nat) : Prop := ∃ j ∈ E.sm, i = K.blk j

section
variable {w w' : World} {P : Nat → Addr} {base : Nat} {E : BE} {K : BK} {s s' : BS} {p : Nat → Prop}

theorem BldAt.later (h : BldAt w P base E K s) (ho : Only p w w') (hp : ∀ i, InBld E K i → ¬ p i) : BldAt w' P base E K s :=
  ⟨ho.heapOf h.cells (hp _ (.inl rfl)), h.tree.later ho (hp _ (.inr (.inl rfl))) (hp _ (.inr (.inr (.inl rfl)))), h.steps.later ho (hp _ (.inr (.inr (.inr (.inl rfl))))), h.outs.later ho (hp _ (.inr (.inr (.inr (.inr (.inl rfl)))))),
   fun i hi => ho.heapOf (h.step i hi) (hp _ (.inr (.inr (.inr (.inr (.inr (.inl ⟨i, hi, rfl⟩))))))), fun i hi => ho.row (h.ins i hi) (fun k e => hp k (.inr (.inr (.inr (.inr (.inr (.inr ⟨i, hi, e⟩)))))) ), h.inj, h.lo⟩
theorem BldAt.ext (h : BldAt w P base E K s) (ho : Ext w w') : BldAt w' P base E K s := h.later ho (fun _ _ h => h)
theorem BldAt.lt (h : BldAt w P base E K s) : ∀ i, InBld E K i → i < w.heap.size := by
 rintro i (rfl | rfl | rfl | rfl | rfl | ⟨j, hj, rfl⟩ | ⟨j, hj, e⟩)
 ·exact lt_of_heap h.cells
 ·exact lt_of_heap h.tree.cells
 ·exact h.tree.map.lt
 ·exact h.steps.lt
 ·exact h.outs.lt
 ·exact lt_of_heap (h.step j hj)
 ·exact ((h.ins j hj).lt i e).2
theorem BldAt.ge (h : BldAt w P base E K s) : ∀ i, InBld E K i → base ≤ i := by
 obtain ⟨h1, h2, h3, h4, h5, h6⟩ := h.lo
 rintro i (rfl | rfl | rfl | rfl | rfl | ⟨j, hj, rfl⟩ | ⟨j, hj, e⟩)
 ·exact h1
 ·exact h2
 ·exact h3
 ·exact h4
 ·exact h5
 ·exact h6 j hj
 ·exact ((h.ins j hj).lt i e).1
theorem InSteps.bld {i : Nat} (h : InSteps E K i) : InBld E K i := .inr (.inr (.inr (.inr (.inr (.inl h)))))

theorem BldAt.ne_step (h : BldAt w P base E K s) {b : Nat} {cs : Array Value} {e : TypeId} {fr : Nat × Nat} (hb : w.heap[b]? = some (.cells cs e fr)) (he : e ≠ 189) : ¬ InSteps E K b := by
 rintro ⟨j, hj, rfl⟩
 have := h.step j hj
 rw [hb] at this
 cases this
 exact he rfl
theorem BldAt.ne_stepMap (h : BldAt w P base E K s) {b : Nat} {d : TypeDesc} {L : List (Value × Value)} (hb : MapAt d w b L) : ¬ InSteps E K b := by
 rintro ⟨j, hj, rfl⟩
 exact heap_ne_map (h.step j hj) hb rfl
theorem BldAt.ne_stepRow (h : BldAt w P base E K s) {b : Nat} {v : Value} {l : List B} {k : Nat} (hb : Row b w v l) (hk : v.ownBlock = some k) : ¬ InSteps E K k := by
 rintro ⟨j, hj, rfl⟩
 rcases hb.2 with ⟨rfl, _⟩ | ⟨g, cap, cur, rfl, _, hh, _⟩
 ·cases hk
 ·cases hk
  have := h.step j hj
  rw [hh] at this
  cases this

theorem BldAt.change (h : BldAt w P base E K s) (ho : Only (InSteps E K) w w') (hs : ∀ i ∈ E.sm, w'.heap[K.blk i]? = some (.cells (stepC P E K s' i) 189 (0, 0))) : BldAt w' P base E K s' :=
  ⟨ho.heapOf h.cells (h.ne_step h.cells (by decide)), h.tree.later ho (h.ne_step h.tree.cells (by decide)) (h.ne_stepMap h.tree.map), h.steps.later ho (h.ne_stepMap h.steps), h.outs.later ho (h.ne_stepMap h.outs), hs,
   fun i hi => ho.row (h.ins i hi) (fun _ e => h.ne_stepRow (h.ins i hi) e), h.inj, h.lo⟩

theorem BldAt.stepCell (h : BldAt w P base E K s) {i : Nat} (hi : i ∈ E.sm) (j : Nat) : w.cell? ⟨K.blk i, j, none⟩ = (stepC P E K s i)[j]? := cell_of_heap (h.step i hi) j
theorem BldAt.free (h : BldAt w P base E K s) {i : Nat} (hi : i ∈ E.sm) (j : Nat) : w.frozen? ⟨K.blk i, j, none⟩ = false := free_of_heap (h.step i hi) j
theorem BldAt.cell (h : BldAt w P base E K s) (j : Nat) : w.cell? ⟨K.b, j, none⟩ = (#[PTR K.tb, .map (some K.lb), .map (some K.bb), K.cp] : Array Value)[j]? := cell_of_heap h.cells j
end

def BE.by_ (E : BE) (q : B) : Option Nat := (E.sm.map fun i => ((E.rule i).out, i)).lookup q
theorem by_some {E : BE} {q : B} {k : Nat} (h : E.by_ q = some k) : k ∈ E.sm ∧ (E.rule k).out = q := by
 have := mem_of_lookup h
 obtain ⟨i, hi, e⟩ := List.mem_map.1 this
 cases e
 exact ⟨hi, rfl⟩
theorem by_none {E : BE} {q : B} (h : E.by_ q = none) : ∀ k ∈ E.sm, (E.rule k).out ≠ q := fun k hk e => not_mem_of_lookup h (List.mem_map.2 ⟨((E.rule k).out, k), List.mem_map.2 ⟨k, hk, rfl⟩, e⟩)
theorem steps_lookup {E : BE} {K : BK} {k : Nat} (h : k ∈ E.sm) : (E.sm.map fun (i : Nat) => ((i : Int), K.blk i)).lookup (k : Int) = some (K.blk k) := by
 generalize E.sm = l at h
 induction l with
 | nil => cases h
 | cons x l ih =>
  rw [List.map_cons, List.lookup_cons]
  by_cases e : k = x
  ·subst e; simp
  ·have : ((k : Int) == (x : Int)) = false := beq_eq_false_iff_ne.2 (by omega)
   rw [this]
   simp only
   exact ih (by rcases List.mem_cons.1 h with h | h; exact absurd h e; exact h)
theorem steps_miss {E : BE} {K : BK} {z : Int} (h : ∀ k ∈ E.sm, (k : Int) ≠ z) : (E.sm.map fun (i : Nat) => ((i : Int), K.blk i)).lookup z = none := by
 generalize E.sm = l at h
 induction l with
 | nil => rfl
 | cons x l ih =>
  rw [List.map_cons, List.lookup_cons]
  have : (z == (x : Int)) = false := beq_eq_false_iff_ne.2 fun e => h x (.head _) e.symm
  rw [this]
  exact ih fun k hk => h k (.tail _ hk)
end Go.Proofs.YtnmhaipjfpongacGreatDoor
