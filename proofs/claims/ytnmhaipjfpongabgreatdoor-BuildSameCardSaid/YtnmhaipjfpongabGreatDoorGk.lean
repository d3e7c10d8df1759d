/- Texts of this seat laid together: Z0, Z1, Z2, Z3, Z4, Z5. No condition of its own: what each proves stands with its theorems. -/
import Derived.Test.YtnmhaipjfpongabGreatDoorGm
import Derived.Test.YtnmhaipjfpongabGreatDoorGe
import Derived.Test.YtnmhaipjfpongabGreatDoorGd
import Derived.Test.YtnmhaipjfpongabGreatDoorJ3x
import Derived.Test.YtnmhaipjfpongabGreatDoorGf
import Derived.Test.YtnmhaipjfpongabGreatDoorJ1x
import Derived.Test.YtnmhaipjfpongabGreatDoorG1x
namespace Go.Proofs.YtnmhaipjfpongabGreatDoor

/-- What a build is made of. -/
structure BE where
  l : List Rule
  sm : List Nat
  T : FL
def BE.rule (E : BE) (i : Nat) : Rule := (E.l[i]?).getD ⟨[], [], [], []⟩
def BE.W (E : BE) : B → Tld := wantW E.l E.T
def BE.ans (E : BE) (i : Nat) : Tld := E.W (E.rule i).out
def BE.args (E : BE) (i : Nat) : List B := (E.rule i).ins.map fun q => (E.W q).1
def BE.key (E : BE) (i : Nat) : B := keyT (E.rule i).kind (E.rule i).word (E.args i)
def BE.nd (E : BE) (i k : Nat) : Bool := needB E.l i k

/-- States: 1 waits, 2 done, 3 failed, 4 left; was it had from the cache? -/
structure BS where
  st : Nat → Nat
  hit : Nat → Bool
def BS.new : BS := ⟨fun _ => 1, fun _ => false⟩

def readyP (E : BE) (s : BS) (i : Nat) : Bool := s.st i == 1 && E.sm.all fun k => !(E.nd i k) || s.st k == 2

theorem ready_iff {E : BE} {s : BS} {i : Nat} : readyP E s i = true ↔ s.st i = 1 ∧ ∀ k ∈ E.sm, E.nd i k = true → s.st k = 2 := by
  unfold readyP
  rw [Bool.and_eq_true, beq_iff_eq, List.all_eq_true]
  constructor
  · rintro ⟨h1, h2⟩
    refine ⟨h1, fun k hk hn => ?_⟩
    have := h2 k hk
    rw [hn] at this
    simpa using this
  · rintro ⟨h1, h2⟩
    refine ⟨h1, fun k hk => ?_⟩
    cases hn : E.nd i k with
    | false => rfl
    | true => rw [h2 k hk hn]; rfl

/-- Left: it waits, and needs one that is failed or left. -/
inductive LeftP (E : BE) (s : BS) : Nat → Prop
  | one {i k : Nat} : i ∈ E.sm → s.st i = 1 → k ∈ E.sm → E.nd i k = true → 3 ≤ s.st k → LeftP E s i
  | more {i k : Nat} : i ∈ E.sm → s.st i = 1 → k ∈ E.sm → E.nd i k = true → LeftP E s k → LeftP E s i
theorem LeftP.mem {E : BE} {s : BS} {i : Nat} (h : LeftP E s i) : i ∈ E.sm ∧ s.st i = 1 := by cases h <;> exact ⟨‹_›, ‹_›⟩

def setP (s : BS) (i x : Nat) : BS := ⟨fun k => if k = i then x else s.st k, s.hit⟩
def doneP (s : BS) (i : Nat) (h : Bool) : BS := ⟨fun k => if k = i then 2 else s.st k, fun k => if k = i then h else s.hit k⟩
open Classical in
noncomputable def spreadP (E : BE) (s : BS) : BS := ⟨fun k => if LeftP E s k then 4 else s.st k, s.hit⟩
noncomputable def failP (E : BE) (s : BS) (i : Nat) : BS := spreadP E (setP s i 3)

theorem spread_left {E : BE} {s : BS} {k : Nat} (h : LeftP E s k) : (spreadP E s).st k = 4 := by
  unfold spreadP
  exact if_pos h
theorem spread_same {E : BE} {s : BS} {k : Nat} (h : ¬ LeftP E s k) : (spreadP E s).st k = s.st k := by
  unfold spreadP
  exact if_neg h
theorem spread_cases {E : BE} {s : BS} (k : Nat) : (LeftP E s k ∧ (spreadP E s).st k = 4 ∧ s.st k = 1) ∨ (¬ LeftP E s k ∧ (spreadP E s).st k = s.st k) := by
  by_cases h : LeftP E s k
  · exact .inl ⟨h, spread_left h, h.mem.2⟩
  · exact .inr ⟨h, spread_same h⟩

/-- What is so on the way. -/
structure BInv (E : BE) (s : BS) : Prop where
  rng : ∀ i ∈ E.sm, 1 ≤ s.st i ∧ s.st i ≤ 4
  ran : ∀ i ∈ E.sm, s.st i = 2 ∨ s.st i = 3 → ∀ k ∈ E.sm, E.nd i k = true → s.st k = 2
  left : ∀ i ∈ E.sm, s.st i = 4 → ∃ k ∈ E.sm, E.nd i k = true ∧ 3 ≤ s.st k
  clos : ∀ i ∈ E.sm, s.st i = 1 → ∀ k ∈ E.sm, E.nd i k = true → s.st k ≤ 2
  two : ∀ i ∈ E.sm, s.st i = 2 → (E.ans i).2 = 0
  three : ∀ i ∈ E.sm, s.st i = 3 → (E.ans i).2 ≠ 0

theorem BInv.new (E : BE) : BInv E .new :=
  ⟨fun _ _ => ⟨Nat.le_refl _, by simp [BS.new]⟩, fun _ _ h => by simp [BS.new] at h, fun _ _ h => by simp [BS.new] at h, fun _ _ _ _ _ _ => by simp [BS.new], fun _ _ h => by simp [BS.new] at h, fun _ _ h => by simp [BS.new] at h⟩

theorem BInv.done {E : BE} {s : BS} {i : Nat} (I : BInv E s) (hi : i ∈ E.sm) (hr : readyP E s i = true) (ha : (E.ans i).2 = 0) (b : Bool) : BInv E (doneP s i b) := by
  obtain ⟨h1, h2⟩ := ready_iff.1 hr
  have e : ∀ k, (doneP s i b).st k = if k = i then 2 else s.st k := fun _ => rfl
  refine ⟨fun k hk => ?_, fun k hk hs j hj hn => ?_, fun k hk hs => ?_, fun k hk hs j hj hn => ?_, fun k hk hs => ?_, fun k hk hs => ?_⟩
  · rw [e]; split
    · omega
    · exact I.rng k hk
  · rw [e] at hs ⊢
    by_cases hji : j = i
    · rw [if_pos hji]
    · rw [if_neg hji]
      by_cases hki : k = i
      · subst hki; exact h2 j hj hn
      · rw [if_neg hki] at hs; exact I.ran k hk hs j hj hn
  · rw [e] at hs
    by_cases hki : k = i
    · rw [if_pos hki] at hs; omega
    · rw [if_neg hki] at hs
      obtain ⟨j, h3, h4, h5⟩ := I.left k hk hs
      refine ⟨j, h3, h4, ?_⟩
      rw [e, if_neg (fun e2 => by rw [e2] at h5; omega)]
      exact h5
  · rw [e] at hs ⊢
    by_cases hki : k = i
    · rw [if_pos hki] at hs; omega
    · rw [if_neg hki] at hs
      have := I.clos k hk hs j hj hn
      split <;> omega
  · rw [e] at hs
    by_cases hki : k = i
    · rw [hki]; exact ha
    · rw [if_neg hki] at hs; exact I.two k hk hs
  · rw [e] at hs
    by_cases hki : k = i
    · rw [if_pos hki] at hs; omega
    · rw [if_neg hki] at hs; exact I.three k hk hs

theorem BInv.fail {E : BE} {s : BS} {i : Nat} (I : BInv E s) (hi : i ∈ E.sm) (hr : readyP E s i = true) (ha : (E.ans i).2 ≠ 0) (hself : E.nd i i = false) : BInv E (failP E s i) := by
  obtain ⟨h1, h2⟩ := ready_iff.1 hr
  have e : ∀ k, (setP s i 3).st k = if k = i then 3 else s.st k := fun _ => rfl
  have hni : ¬ LeftP E (setP s i 3) i := fun h => by have := h.mem.2; rw [e, if_pos rfl] at this; omega
  -- a rule that is neither left now nor the failed one has the state that it had
  have same : ∀ k, k ≠ i → ¬ LeftP E (setP s i 3) k → (failP E s i).st k = s.st k := fun k hk hl => by
    unfold failP; rw [spread_same hl, e, if_neg hk]
  have me : (failP E s i).st i = 3 := by unfold failP; rw [spread_same hni, e, if_pos rfl]
  have lf : ∀ k, LeftP E (setP s i 3) k → (failP E s i).st k = 4 ∧ s.st k = 1 ∧ k ≠ i := fun k hk => by
    have hki : k ≠ i := fun e2 => hni (e2 ▸ hk)
    have h4 := hk.mem.2
    rw [e, if_neg hki] at h4
    exact ⟨by unfold failP; exact spread_left hk, h4, hki⟩
  have two_stays : ∀ k, s.st k = 2 → (failP E s i).st k = 2 := fun k hk => by
    have hki : k ≠ i := fun e2 => by rw [e2] at hk; omega
    rw [same k hki (fun h => by have := (lf k h).2.1; omega)]; exact hk
  refine ⟨fun k hk => ?_, fun k hk hs j hj hn => ?_, fun k hk hs => ?_, fun k hk hs j hj hn => ?_, fun k hk hs => ?_, fun k hk hs => ?_⟩
  · by_cases hl : LeftP E (setP s i 3) k
    · rw [(lf k hl).1]; omega
    · by_cases hki : k = i
      · rw [hki, me]; omega
      · rw [same k hki hl]; exact I.rng k hk
  · by_cases hl : LeftP E (setP s i 3) k
    · rw [(lf k hl).1] at hs; omega
    · by_cases hki : k = i
      · subst hki
        exact two_stays j (h2 j hj hn)
      · rw [same k hki hl] at hs
        exact two_stays j (I.ran k hk hs j hj hn)
  · by_cases hl : LeftP E (setP s i 3) k
    · cases hl with
      | @one _ j _ _ hj hn hge =>
        refine ⟨j, hj, hn, ?_⟩
        by_cases hji : j = i
        · rw [hji, me]; omega
        · rw [e, if_neg hji] at hge
          by_cases hlj : LeftP E (setP s i 3) j
          · rw [(lf j hlj).1]; omega
          · rw [same j hji hlj]; exact hge
      | @more _ j _ _ hj hn hlj => exact ⟨j, hj, hn, by rw [(lf j hlj).1]; omega⟩
    · by_cases hki : k = i
      · rw [hki, me] at hs; omega
      · rw [same k hki hl] at hs
        obtain ⟨j, hj, hn, hge⟩ := I.left k hk hs
        refine ⟨j, hj, hn, ?_⟩
        by_cases hji : j = i
        · rw [hji, me]; omega
        · by_cases hlj : LeftP E (setP s i 3) j
          · rw [(lf j hlj).1]; omega
          · rw [same j hji hlj]; exact hge
  · by_cases hl : LeftP E (setP s i 3) k
    · rw [(lf k hl).1] at hs; omega
    · by_cases hki : k = i
      · rw [hki, me] at hs; omega
      · rw [same k hki hl] at hs
        have hk1 : (setP s i 3).st k = 1 := by rw [e, if_neg hki]; exact hs
        by_cases hlj : LeftP E (setP s i 3) j
        · exact absurd (.more hk hk1 hj hn hlj) hl
        · by_cases hji : j = i
          · exact absurd (.one hk hk1 hj hn (by rw [e, if_pos hji]; omega)) hl
          · rw [same j hji hlj]; exact I.clos k hk hs j hj hn
  · by_cases hl : LeftP E (setP s i 3) k
    · rw [(lf k hl).1] at hs; omega
    · by_cases hki : k = i
      · rw [hki, me] at hs; omega
      · rw [same k hki hl] at hs; exact I.two k hk hs
  · by_cases hl : LeftP E (setP s i 3) k
    · rw [(lf k hl).1] at hs; omega
    · by_cases hki : k = i
      · rw [hki]; exact ha
      · rw [same k hki hl] at hs; exact I.three k hk hs

/-! ### a run -/
abbrev CS := Option (Nat × FL)
noncomputable def runP (E : BE) (C : CS) (s : BS) (i : Nat) : (Bool × Nat) × BS × CS :=
  if i ∉ E.sm then ((false, 6), s, C)
  else if s.st i ≠ 1 then ((false, 12), s, C)
  else if readyP E s i = false then ((false, 11), s, C)
  else if (E.ans i).2 ≠ 0 then ((false, 0), failP E s i, C)
  else match C with
    | none => ((false, 0), doneP s i false, none)
    | some (many, L) => match L.lookup (E.key i) with
      | some _ => ((true, 0), doneP s i true, some (many, getL L (E.key i)))
      | none => ((false, 0), doneP s i false, some (many, putL many L (E.key i) (E.ans i).1))
end Go.Proofs.YtnmhaipjfpongabGreatDoor

namespace Go.Proofs.YtnmhaipjfpongabGreatDoor
open Go.ChangeShapes Go.WideShapes Go.ChangeAt Go.RowKit

abbrev PTR (b : Nat) : Value := .pointer (some ⟨b, 0, none⟩)

/-- Where a build lies. -/
structure BK where
  b : Nat
  tb : Nat
  tmb : Nat
  lb : Nat
  bb : Nat
  cp : Value
  blk : Nat → Nat
  iv : Nat → Value

def outC (E : BE) (s : BS) (i : Nat) : Value := S (if s.st i = 2 then (E.ans i).1 else [])
def whyC (P : Nat → Addr) (E : BE) (s : BS) (i : Nat) : Value := if s.st i = 3 then errC P (E.ans i).2 else .nilIface
abbrev stepC (P : Nat → Addr) (E : BE) (K : BK) (s : BS) (i : Nat) : Array Value :=
  #[S (E.rule i).out, S (E.rule i).kind, S (E.rule i).word, K.iv i, IN (s.st i), .bool (s.st i == 2 && s.hit i), outC E s i, whyC P E s i]

structure BldAt (w : World) (P : Nat → Addr) (base : Nat) (E : BE) (K : BK) (s : BS) : Prop where
  cells : w.heap[K.b]? = some (.cells #[PTR K.tb, .map (some K.lb), .map (some K.bb), K.cp] 187 (0, 0))
  tree : TreeAt w K.tb K.tmb E.T
  steps : KMap (.int .i64) I PTR w K.lb (E.sm.map fun (i : Nat) => ((i : Int), K.blk i))
  outs : KMap .string S IN w K.bb (E.sm.map fun i => ((E.rule i).out, i))
  step : ∀ i ∈ E.sm, w.heap[K.blk i]? = some (.cells (stepC P E K s i) 190 (0, 0))
  ins : ∀ i ∈ E.sm, Row base w (K.iv i) (E.rule i).ins
  inj : ∀ i ∈ E.sm, ∀ j ∈ E.sm, K.blk i = K.blk j → i = j
  lo : base ≤ K.b ∧ base ≤ K.tb ∧ base ≤ K.tmb ∧ base ≤ K.lb ∧ base ≤ K.bb ∧ ∀ i ∈ E.sm, base ≤ K.blk i

/-- The blocks of a build. -/
def InBld (E : BE) (K : BK) (i : Nat) : Prop := i = K.b ∨ i = K.tb ∨ i = K.tmb ∨ i = K.lb ∨ i = K.bb ∨ (∃ j ∈ E.sm, i = K.blk j) ∨ ∃ j ∈ E.sm, (K.iv j).ownBlock = some i
/-- The blocks of its steps: what a run may change. -/
def InSteps (E : BE) (K : BK) (i : Nat) : Prop := ∃ j ∈ E.sm, i = K.blk j

section
variable {w w' : World} {P : Nat → Addr} {base : Nat} {E : BE} {K : BK} {s s' : BS} {p : Nat → Prop}

theorem BldAt.later (h : BldAt w P base E K s) (ho : Only p w w') (hp : ∀ i, InBld E K i → ¬ p i) : BldAt w' P base E K s :=
  ⟨ho.heapOf h.cells (hp _ (.inl rfl)), h.tree.later ho (hp _ (.inr (.inl rfl))) (hp _ (.inr (.inr (.inl rfl)))), h.steps.later ho (hp _ (.inr (.inr (.inr (.inl rfl))))), h.outs.later ho (hp _ (.inr (.inr (.inr (.inr (.inl rfl)))))),
   fun i hi => ho.heapOf (h.step i hi) (hp _ (.inr (.inr (.inr (.inr (.inr (.inl ⟨i, hi, rfl⟩))))))), fun i hi => ho.row (h.ins i hi) (fun k e => hp k (.inr (.inr (.inr (.inr (.inr (.inr ⟨i, hi, e⟩)))))) ), h.inj, h.lo⟩
theorem BldAt.ext (h : BldAt w P base E K s) (ho : Ext w w') : BldAt w' P base E K s := h.later ho (fun _ _ h => h)
theorem BldAt.lt (h : BldAt w P base E K s) : ∀ i, InBld E K i → i < w.heap.size := by
  rintro i (rfl | rfl | rfl | rfl | rfl | ⟨j, hj, rfl⟩ | ⟨j, hj, e⟩)
  · exact lt_of_heap h.cells
  · exact lt_of_heap h.tree.cells
  · exact h.tree.map.lt
  · exact h.steps.lt
  · exact h.outs.lt
  · exact lt_of_heap (h.step j hj)
  · exact ((h.ins j hj).lt i e).2
theorem BldAt.ge (h : BldAt w P base E K s) : ∀ i, InBld E K i → base ≤ i := by
  obtain ⟨h1, h2, h3, h4, h5, h6⟩ := h.lo
  rintro i (rfl | rfl | rfl | rfl | rfl | ⟨j, hj, rfl⟩ | ⟨j, hj, e⟩)
  · exact h1
  · exact h2
  · exact h3
  · exact h4
  · exact h5
  · exact h6 j hj
  · exact ((h.ins j hj).lt i e).1
theorem InSteps.bld {i : Nat} (h : InSteps E K i) : InBld E K i := .inr (.inr (.inr (.inr (.inr (.inl h)))))

/-- A block of other cells is none of the steps. -/
theorem BldAt.ne_step (h : BldAt w P base E K s) {b : Nat} {cs : Array Value} {e : TypeId} {fr : Nat × Nat} (hb : w.heap[b]? = some (.cells cs e fr)) (he : e ≠ 190) : ¬ InSteps E K b := by
  rintro ⟨j, hj, rfl⟩
  have := h.step j hj
  rw [hb] at this
  cases this
  exact he rfl
theorem BldAt.ne_stepMap (h : BldAt w P base E K s) {b : Nat} {d : TypeDesc} {L : List (Value × Value)} (hb : MapAt d w b L) : ¬ InSteps E K b := by
  rintro ⟨j, hj, rfl⟩
  exact heap_ne_map (h.step j hj) hb rfl
theorem BldAt.ne_stepRow (h : BldAt w P base E K s) {b : Nat} {v : Value} {l : List B} {k : Nat} (hb : Row b w v l) (hk : v.ownBlock = some k) : ¬ InSteps E K k := by
  rintro ⟨j, hj, rfl⟩
  rcases hb.2 with ⟨rfl, _⟩ | ⟨g, cap, cur, rfl, _, hh, _⟩
  · cases hk
  · cases hk
    have := h.step j hj
    rw [hh] at this
    cases this

/-- Steps change, nothing else. -/
theorem BldAt.change (h : BldAt w P base E K s) (ho : Only (InSteps E K) w w') (hs : ∀ i ∈ E.sm, w'.heap[K.blk i]? = some (.cells (stepC P E K s' i) 190 (0, 0))) : BldAt w' P base E K s' :=
  ⟨ho.heapOf h.cells (h.ne_step h.cells (by decide)), h.tree.later ho (h.ne_step h.tree.cells (by decide)) (h.ne_stepMap h.tree.map), h.steps.later ho (h.ne_stepMap h.steps), h.outs.later ho (h.ne_stepMap h.outs), hs,
   fun i hi => ho.row (h.ins i hi) (fun _ e => h.ne_stepRow (h.ins i hi) e), h.inj, h.lo⟩

theorem BldAt.stepCell (h : BldAt w P base E K s) {i : Nat} (hi : i ∈ E.sm) (j : Nat) : w.cell? ⟨K.blk i, j, none⟩ = (stepC P E K s i)[j]? := cell_of_heap (h.step i hi) j
theorem BldAt.free (h : BldAt w P base E K s) {i : Nat} (hi : i ∈ E.sm) (j : Nat) : w.frozen? ⟨K.blk i, j, none⟩ = false := free_of_heap (h.step i hi) j
theorem BldAt.cell (h : BldAt w P base E K s) (j : Nat) : w.cell? ⟨K.b, j, none⟩ = (#[PTR K.tb, .map (some K.lb), .map (some K.bb), K.cp] : Array Value)[j]? := cell_of_heap h.cells j
end

/-- Which step makes a path. -/
def BE.by_ (E : BE) (q : B) : Option Nat := (E.sm.map fun i => ((E.rule i).out, i)).lookup q
theorem by_some {E : BE} {q : B} {k : Nat} (h : E.by_ q = some k) : k ∈ E.sm ∧ (E.rule k).out = q := by
  have := mem_of_lookup h
  obtain ⟨i, hi, e⟩ := List.mem_map.1 this
  cases e
  exact ⟨hi, rfl⟩
theorem by_none {E : BE} {q : B} (h : E.by_ q = none) : ∀ k ∈ E.sm, (E.rule k).out ≠ q := fun k hk e => not_mem_of_lookup h (List.mem_map.2 ⟨((E.rule k).out, k), List.mem_map.2 ⟨k, hk, rfl⟩, e⟩)
theorem steps_lookup {E : BE} {K : BK} {k : Nat} (h : k ∈ E.sm) : (E.sm.map fun (i : Nat) => ((i : Int), K.blk i)).lookup (k : Int) = some (K.blk k) := by
  generalize E.sm = l at h
  induction l with
  | nil => cases h
  | cons x l ih =>
    rw [List.map_cons, List.lookup_cons]
    by_cases e : k = x
    · subst e; simp
    · have : ((k : Int) == (x : Int)) = false := beq_eq_false_iff_ne.2 (by omega)
      rw [this]
      simp only
      exact ih (by rcases List.mem_cons.1 h with h | h; exact absurd h e; exact h)
theorem steps_miss {E : BE} {K : BK} {z : Int} (h : ∀ k ∈ E.sm, (k : Int) ≠ z) : (E.sm.map fun (i : Nat) => ((i : Int), K.blk i)).lookup z = none := by
  generalize E.sm = l at h
  induction l with
  | nil => rfl
  | cons x l ih =>
    rw [List.map_cons, List.lookup_cons]
    have : (z == (x : Int)) = false := beq_eq_false_iff_ne.2 fun e => h x (.head _) e.symm
    rw [this]
    exact ih fun k hk => h k (.tail _ hk)
end Go.Proofs.YtnmhaipjfpongabGreatDoor

namespace Go.Proofs.YtnmhaipjfpongabGreatDoor

/-- What a right build is made of: rules, those that are needed, an order of theirs. -/
structure BWell (E : BE) (o : List Nat) (is : Nat → Bool) : Prop where
  right : RightS E.l
  ord : Ordered E.l.length (needB E.l) is o
  lt : ∀ i ∈ E.sm, i < E.l.length
  cov : ∀ i ∈ E.sm, i ∈ o
  clos : ∀ i ∈ E.sm, ∀ k, k < E.l.length → needB E.l i k = true → k ∈ E.sm
  rise : E.sm.Pairwise fun x y => x < y
  bytes : ∀ p s, E.T.lookup p = some s → s.length ≤ 2000

section
variable {E : BE} {o : List Nat} {is : Nat → Bool}

theorem BWell.nodup (h : BWell E o is) : E.sm.Nodup := h.rise.imp fun h => Nat.ne_of_lt h
theorem BE.rule_at {i : Nat} (h : i < E.l.length) : E.l[i]? = some (E.rule i) := by
  unfold BE.rule
  rw [List.getElem?_eq_getElem h]
  rfl
theorem find_out {l : List Rule} (hn : (l.map Rule.out).Nodup) {i : Nat} {r : Rule} (h : l[i]? = some r) : l.findIdx? (fun q => q.out == r.out) = some i := by
  obtain ⟨h1, h2⟩ := List.getElem?_eq_some_iff.1 h
  rw [List.findIdx?_eq_some_iff_getElem]
  refine ⟨h1, by rw [h2]; exact beq_iff_eq.2 rfl, fun j hj => ?_⟩
  rw [Bool.not_eq_true]
  refine beq_eq_false_iff_ne.2 fun e => ?_
  have := nodup_inj hn (i := j) (j := i) (x := r.out) (by rw [List.getElem?_map, List.getElem?_eq_getElem (by omega), Option.map_some, e]) (by rw [List.getElem?_map, h]; rfl)
  omega
theorem rule_out {l : List Rule} (hn : (l.map Rule.out).Nodup) {i : Nat} {r : Rule} (h : l[i]? = some r) : ruleOf l r.out = some r := by
  obtain ⟨r', h1, _, h3⟩ := findI_some (find_out hn h)
  rw [h] at h1
  cases h1
  exact h3
theorem need_iff {i k : Nat} (hi : i < E.l.length) (hk : k < E.l.length) : E.nd i k = true ↔ (E.rule k).out ∈ (E.rule i).ins := by
  unfold BE.nd needB
  rw [BE.rule_at hi, BE.rule_at hk]
  simp

theorem BWell.asks (h : BWell E o is) : Asks E.l E.T E.W (InO E.l o) (rankO E.l o) := by
  obtain ⟨h1, h2⟩ := ranked_order h.ord
  exact asks_want h1 h2 h.bytes
theorem BWell.inO (h : BWell E o is) {i : Nat} (hi : i ∈ E.sm) : InO E.l o (E.rule i).out := fun k hk => by
  rw [find_out h.right.2.2 (BE.rule_at (h.lt i hi))] at hk
  cases hk
  exact h.cov i hi
theorem BWell.ans (h : BWell E o is) {i : Nat} (hi : i ∈ E.sm) : E.ans i = wMade E.W (E.rule i) := by
  have := h.asks.step _ (h.inO hi)
  unfold BE.ans
  rw [this]
  unfold wStep
  rw [rule_out h.right.2.2 (BE.rule_at (h.lt i hi))]
theorem BWell.ok (h : BWell E o is) (p : B) : TldOk (E.W p) := wantF_ok h.bytes _ p

/-- An input is another rule's, or a leaf. -/
theorem BWell.input (h : BWell E o is) {i : Nat} (hi : i ∈ E.sm) {q : B} (hq : q ∈ (E.rule i).ins) :
    (∃ k ∈ E.sm, E.nd i k = true ∧ (E.rule k).out = q ∧ E.by_ q = some k ∧ E.W q = E.ans k) ∨ (E.by_ q = none ∧ E.W q = wLeaf E.T q) := by
  have hdown := h.asks.down _ (h.inO hi) _ (rule_out h.right.2.2 (BE.rule_at (h.lt i hi))) q hq
  cases hf : E.l.findIdx? (fun r => r.out == q) with
  | some k =>
    obtain ⟨r, h1, h2, _⟩ := findI_some hf
    have hk := (List.getElem?_eq_some_iff.1 h1).1
    have hr : E.rule k = r := by unfold BE.rule; rw [h1]; rfl
    have hn : E.nd i k = true := (need_iff (h.lt i hi) hk).2 (by rw [hr, h2]; exact hq)
    have hks := h.clos i hi k hk hn
    refine .inl ⟨k, hks, hn, by rw [hr, h2], ?_, by unfold BE.ans; rw [hr, h2]⟩
    cases hb : E.by_ q with
    | none => exact absurd (by rw [hr, h2]) (by_none hb k hks)
    | some k' =>
      obtain ⟨h3, h4⟩ := by_some hb
      have := nodup_inj h.right.2.2 (i := k') (j := k) (x := q) (by rw [List.getElem?_map, BE.rule_at (h.lt k' h3), Option.map_some, h4]) (by rw [List.getElem?_map, h1, Option.map_some, h2])
      rw [this]
  | none =>
    refine .inr ⟨?_, ?_⟩
    · cases hb : E.by_ q with
      | none => rfl
      | some k =>
        obtain ⟨h3, h4⟩ := by_some hb
        rw [List.findIdx?_eq_none_iff] at hf
        have := hf _ (List.mem_of_getElem? (BE.rule_at (h.lt k h3)))
        rw [h4] at this
        simp at this
    · rw [h.asks.step q hdown.1]
      unfold wStep
      have : ruleOf E.l q = none := by
        unfold ruleOf
        rw [List.findIdx?_eq_none_iff] at hf
        exact List.find?_eq_none.2 fun x hx => by rw [hf x hx]; decide
      rw [this]

/-- What a rule needs is done, what is a leaf is there: it is a command's answer. -/
theorem BWell.runs (h : BWell E o is) {s : BS} (I : BInv E s) {i : Nat} (hi : i ∈ E.sm) (hr : readyP E s i = true) :
    (∃ (j : Nat) (q : B), (E.rule i).ins[j]? = some q ∧ E.by_ q = none ∧ E.T.lookup q = none ∧ E.ans i = ([], 6) ∧ ∀ x ∈ (E.rule i).ins.take j, (E.W x).2 = 0) ∨
    ((∀ q ∈ (E.rule i).ins, (E.W q).2 = 0) ∧ E.ans i = (runOut (E.rule i).kind (E.rule i).word (E.args i), runCode (E.rule i).kind (E.rule i).word (E.args i))) := by
  have hdone : ∀ q ∈ (E.rule i).ins, (E.W q).2 = 0 ∨ (E.by_ q = none ∧ E.T.lookup q = none ∧ E.W q = ([], 6)) := fun q hq => by
    rcases h.input hi hq with ⟨k, hk, hn, _, _, e⟩ | ⟨h1, e⟩
    · left
      rw [e]
      exact I.two k hk ((ready_iff.1 hr).2 k hk hn)
    · rw [e]
      unfold wLeaf
      cases hl : E.T.lookup q with
      | some x => exact .inl rfl
      | none => exact .inr ⟨h1, rfl, rfl⟩
  cases hf : (E.rule i).ins.findIdx? (fun q => (E.W q).2 != 0) with
  | some j =>
    left
    rw [List.findIdx?_eq_some_iff_getElem] at hf
    obtain ⟨h1, h2, h3⟩ := hf
    have hq : (E.rule i).ins[j]? = some (E.rule i).ins[j] := List.getElem?_eq_getElem h1
    have hz : ∀ x ∈ (E.rule i).ins.take j, (E.W x).2 = 0 := fun x hx => by
      obtain ⟨t, ht, rfl⟩ := List.mem_take_iff_getElem.1 hx
      have := h3 t (by omega)
      simpa using this
    rcases hdone _ (List.mem_of_getElem? hq) with h4 | ⟨h4, h5, h6⟩
    · rw [h4] at h2; cases h2
    · exact ⟨j, _, hq, h4, h5, by rw [h.ans hi, made_bad hq (by rw [h6]; decide) hz, h6], hz⟩
  | none =>
    right
    rw [List.findIdx?_eq_none_iff] at hf
    have hz : ∀ q ∈ (E.rule i).ins, (E.W q).2 = 0 := fun q hq => by simpa using hf q hq
    exact ⟨hz, by rw [h.ans hi, made_ok hz]; rfl⟩

/-- No rule needs itself. -/
theorem BWell.self (h : BWell E o is) {i : Nat} (hi : i ∈ E.sm) : E.nd i i = false := by
  cases hn : E.nd i i with
  | false => rfl
  | true =>
    obtain ⟨j, hj⟩ := List.getElem?_of_mem (h.cov i hi)
    have h1 := h.ord.need j i hj i (h.lt i hi) hn
    obtain ⟨t, ht, e⟩ := List.mem_take_iff_getElem.1 h1
    have h2 : o[t]? = some i := by rw [← e]; exact List.getElem?_eq_getElem (by omega)
    have := nodup_inj h.ord.nodup h2 hj
    omega

theorem BWell.step (h : BWell E o is) {s : BS} (I : BInv E s) {i : Nat} (hi : i ∈ E.sm) (hr : readyP E s i = true) (b : Bool) : BInv E (if (E.ans i).2 ≠ 0 then failP E s i else doneP s i b) := by
  by_cases ha : (E.ans i).2 = 0
  · rw [if_neg (by simpa using ha)]
    exact I.done hi hr ha b
  · rw [if_pos ha]
    exact I.fail hi hr ha (h.self hi)
theorem run_ready {C : CS} {s : BS} {i : Nat} (hi : i ∈ E.sm) (hr : readyP E s i = true) : ∃ b C', runP E C s i = ((b, 0), (if (E.ans i).2 ≠ 0 then failP E s i else doneP s i b), C') := by
  have h1 := (ready_iff.1 hr).1
  unfold runP
  rw [if_neg (by simpa using hi), if_neg (by simpa using h1), if_neg (by rw [hr]; decide)]
  by_cases ha : (E.ans i).2 = 0
  · rw [if_neg (by simpa using ha)]
    rcases C with _ | ⟨many, L⟩
    · exact ⟨false, none, by rw [if_neg (by simpa using ha)]⟩
    · simp only
      cases hl : L.lookup (E.key i) with
      | none => exact ⟨false, _, by rw [if_neg (by simpa using ha)]⟩
      | some x => exact ⟨true, _, by rw [if_neg (by simpa using ha)]⟩
  · rw [if_pos ha]
    exact ⟨false, C, by rw [if_pos ha]⟩
theorem run_not {C : CS} {s : BS} {i : Nat} (h : ¬ (i ∈ E.sm ∧ readyP E s i = true)) : ∃ c, runP E C s i = ((false, c), s, C) ∧ c ≠ 0 := by
  unfold runP
  by_cases h1 : i ∈ E.sm
  · rw [if_neg (by simpa using h1)]
    by_cases h2 : s.st i = 1
    · rw [if_neg (by simpa using h2)]
      have h3 : readyP E s i = false := by
        cases hr : readyP E s i with
        | false => rfl
        | true => exact absurd ⟨h1, hr⟩ h
      rw [if_pos h3]
      exact ⟨11, rfl, by decide⟩
    · rw [if_pos h2]; exact ⟨12, rfl, by decide⟩
  · rw [if_pos h1]; exact ⟨6, rfl, by decide⟩
theorem BWell.run (h : BWell E o is) {C : CS} {s : BS} (I : BInv E s) (i : Nat) : BInv E (runP E C s i).2.1 := by
  by_cases hr : i ∈ E.sm ∧ readyP E s i = true
  · obtain ⟨b, C', e⟩ := run_ready (C := C) hr.1 hr.2
    rw [e]
    exact h.step I hr.1 hr.2 b
  · obtain ⟨c, e, _⟩ := run_not (C := C) hr
    rw [e]
    exact I

/-- Which have run. -/
def ranP (s : BS) (k : Nat) : Bool := s.st k == 2 || s.st k == 3
theorem ran_fail {s : BS} {i : Nat} (k : Nat) : ranP (failP E s i) k = (decide (k = i) || ranP s k) := by
  have e : ∀ k, (setP s i 3).st k = if k = i then 3 else s.st k := fun _ => rfl
  unfold ranP failP
  rcases spread_cases (E := E) (s := setP s i 3) k with ⟨_, h2, h3⟩ | ⟨_, h2⟩
  · rw [h2]
    rw [e] at h3
    by_cases hk : k = i
    · rw [if_pos hk] at h3; omega
    · rw [if_neg hk] at h3
      rw [h3, decide_eq_false hk]
      rfl
  · rw [h2, e]
    by_cases hk : k = i
    · rw [if_pos hk, decide_eq_true hk]; rfl
    · rw [if_neg hk, decide_eq_false hk, Bool.false_or]
theorem ran_done {s : BS} {i : Nat} {b : Bool} (k : Nat) : ranP (doneP s i b) k = (decide (k = i) || ranP s k) := by
  have e : ∀ k, (doneP s i b).st k = if k = i then 2 else s.st k := fun _ => rfl
  unfold ranP
  rw [e]
  by_cases hk : k = i
  · rw [if_pos hk, decide_eq_true hk]; rfl
  · rw [if_neg hk, decide_eq_false hk, Bool.false_or]
theorem ran_step {s : BS} {i : Nat} {b : Bool} (k : Nat) : ranP (if (E.ans i).2 ≠ 0 then failP E s i else doneP s i b) k = (decide (k = i) || ranP s k) := by
  split
  · exact ran_fail k
  · exact ran_done k
theorem ready_not_ran {s : BS} {i : Nat} (hr : readyP E s i = true) : ranP s i = false := by
  unfold ranP
  rw [(ready_iff.1 hr).1]
  rfl

/-- None is ready: none waits. -/
theorem BWell.over (h : BWell E o is) {s : BS} (I : BInv E s) (hn : ∀ i ∈ E.sm, readyP E s i = false) : ∀ i ∈ E.sm, s.st i ≠ 1 := by
  have key : ∀ (j : Nat) i, o[j]? = some i → i ∈ E.sm → s.st i ≠ 1 := by
    intro j
    induction j using Nat.strongRecOn with
    | ind j ih =>
      intro i hj hi h1
      have : readyP E s i = true := by
        rw [ready_iff]
        refine ⟨h1, fun k hk hnd => ?_⟩
        have hko := h.ord.need j i hj k (h.lt k hk) hnd
        obtain ⟨t, ht, e⟩ := List.mem_take_iff_getElem.1 hko
        have h2 := ih t (by omega) k (by rw [← e]; exact List.getElem?_eq_getElem (by omega)) hk
        have h3 := I.clos i hi h1 k hk hnd
        have h4 := I.rng k hk
        omega
      rw [hn i hi] at this
      cases this
  intro i hi
  obtain ⟨j, hj⟩ := List.getElem?_of_mem (h.cov i hi)
  exact key j i hj hi

/-- What is left is not to be had. -/
theorem BWell.four (h : BWell E o is) {s : BS} (I : BInv E s) : ∀ i ∈ E.sm, s.st i = 4 → (E.ans i).2 ≠ 0 := by
  have key : ∀ (j : Nat) i, o[j]? = some i → i ∈ E.sm → s.st i = 4 → (E.ans i).2 ≠ 0 := by
    intro j
    induction j using Nat.strongRecOn with
    | ind j ih =>
      intro i hj hi h4
      obtain ⟨k, hk, hnd, hge⟩ := I.left i hi h4
      have hko := h.ord.need j i hj k (h.lt k hk) hnd
      obtain ⟨t, ht, e⟩ := List.mem_take_iff_getElem.1 hko
      have hbad : (E.ans k).2 ≠ 0 := by
        have h5 := I.rng k hk
        rcases (show s.st k = 3 ∨ s.st k = 4 by omega) with h6 | h6
        · exact I.three k hk h6
        · exact ih t (by omega) k (by rw [← e]; exact List.getElem?_eq_getElem (by omega)) hk h6
      have hmem := (need_iff (h.lt i hi) (h.lt k hk)).1 hnd
      rw [h.ans hi]
      unfold wMade
      cases hf : (E.rule i).ins.find? (fun q => (E.W q).2 != 0) with
      | some q => simpa using List.find?_some hf
      | none => exact absurd (List.find?_eq_none.1 hf _ hmem) (by rw [Classical.not_not]; simpa [BE.ans] using hbad)
  intro i hi
  obtain ⟨j, hj⟩ := List.getElem?_of_mem (h.cov i hi)
  exact key j i hj hi
end
end Go.Proofs.YtnmhaipjfpongabGreatDoor

namespace Go.Proofs.YtnmhaipjfpongabGreatDoor
open Go.ChangeShapes Go.WideShapes Go.ChangeAt Go.RowKit

/-! ### rows of steps -/
abbrev RowP (base : Nat) (w : World) (v : Value) (l : List Nat) : Prop := w.ownsRow base 188 1 v l.length (l.map PTR)
theorem infoStepP : (Tryz.prog.info? 188).map (fun i => (i.zero, i.size, i.bytes)) = some (some (.pointer none), 1, 8) := by kernel_rfl
theorem RowP.nil (base : Nat) (w : World) : RowP base w (.slice none 0 0) [] := World.ownsRow_nil _ _ _ _
theorem RowP.ext {base : Nat} {w w' : World} {v : Value} {l : List Nat} (h : RowP base w v l) (ho : Ext w w') : RowP base w' v l := ho.row h fun _ _ h => h
theorem RowP.rd {base : Nat} {w : World} {v : Value} {l : List Nat} (h : RowP base w v l) : Rd PTR w v l := Rd.of_row h
theorem RowP.base {base : Nat} {w : World} {v : Value} {l : List Nat} (h : RowP base w v l) : ∀ i, v.ownBlock = some i → base ≤ i := fun i hi => (h.lt i hi).1

/-- 'append(l, x)', a step. -/
theorem wpPtr {P : Program} (hP : P = Tryz.prog) {ops : Array Oper} {rest : List Oper} {o : Oper} {a : Act} {Q : Exit → Act → World → Prop} (s x : Operand) (w0 : World) (base : Nat) (v : Value) (l : List Nat) (k : Nat) (W : World) (hgd : o.guard = none)
    (ho : o.op = .call { callee := .builtin .append, args := #[s, x], argTypes := #[254, 254] }) (hs : a.eval s = v) (hx : a.eval x = .slice (some ⟨W.heap.size, 0, none⟩) 1 1)
    (hrow : RowP base W v l) (hl : l.length ≤ 1000000) (hbase : base ≤ W.heap.size) (hxt : Ext w0 W) (hb0 : w0.heap.size ≤ base)
    (hK : ∀ g cap w', Hid (RowP base w' (.slice (some ⟨g, 0, none⟩) (l.length + 1) cap) (l ++ [k])) → Hid (Ext w0 w') → Hid (W.grownBy w' v.ownBlock) →
      wpList P ops Q rest (a.put o.dst (.slice (some ⟨g, 0, none⟩) (l.length + 1) cap)) w') :
    wpList P ops Q (o :: rest) a (W.alloc (.cells #[PTR k] 188 (0, 0))) := by
  subst hP
  have hf : ∀ q : List Nat, q.flatMap (fun k => [PTR k]) = q.map PTR := fun q => by induction q with
    | nil => rfl
    | cons x q ih => rw [List.flatMap_cons, List.map_cons, ih]; rfl
  refine wpList_appS (fun k : Nat => [PTR k]) 254 188 1 8 _ infoStepP Tryz.underlying254 rfl (by decide) (fun _ => rfl) (fun _ u hu => by cases List.mem_singleton.1 hu; rfl) (by decide) s x base v l k W _ rfl hgd ho hs hx (by rw [hf]; exact hrow) hl hbase ?_
  intro g cap w' h1 h2 h3
  rw [hf] at h1
  refine hK g cap w' (Lib.hid ?_) (Lib.hid (grown_ext hxt (fun i hi => Nat.le_trans hb0 (hrow.base i hi)) h2)) (Lib.hid h2)
  show World.ownsRow _ _ _ _ _ (l ++ [k]).length _
  rw [List.length_append]
  exact h1

/-! ### what a step needs -/
def BE.needs (E : BE) (ins : List B) : List Nat := ins.filterMap E.by_
theorem needs_step {E : BE} {ins : List B} {t : Nat} {q : B} (h : ins[t]? = some q) : E.needs (ins.take (t + 1)) = E.needs (ins.take t) ++ (match E.by_ q with | some k => [k] | none => []) := by
  unfold BE.needs
  rw [List.take_add_one, h, List.filterMap_append]
  congr 1
  cases hb : E.by_ q <;> simp [hb]
theorem needs_len (E : BE) (ins : List B) : (E.needs ins).length ≤ ins.length := List.length_filterMap_le _ _
theorem needs_mem {E : BE} {ins : List B} {k : Nat} (h : k ∈ E.needs ins) : k ∈ E.sm ∧ (E.rule k).out ∈ ins := by
  obtain ⟨q, hq, e⟩ := List.mem_filterMap.1 h
  obtain ⟨h1, h2⟩ := by_some e
  exact ⟨h1, by rw [h2]; exact hq⟩

def RetP (K : BK) (l : List Nat) (w : World) (e : Ending) (w' : World) : Prop := ∃ v, e = .returned v ∧ RowP w.heap.size w' v (l.map K.blk) ∧ Ext w w'

set_option maxRecDepth 100000 in
set_option maxHeartbeats 4000000 in
theorem needs_any (w : World) (P : Nat → Addr) (base : Nat) (E : BE) (K : BK) (s : BS) (i : Nat) (hi : i ∈ E.sm) (h : BldAt w P base E K s) (hl : (E.rule i).ins.length ≤ 900000) :
    Calls Tryz.prog 197 #[PTR K.b, PTR (K.blk i)] w (RetP K (E.needs (E.rule i).ins) w) := by
  have HB := Lib.hid h
  have c1 := (h.cell 1).trans (rfl : _ = some (Value.map (some K.lb)))
  have c2 := (h.cell 2).trans (rfl : _ = some (Value.map (some K.bb)))
  have c3 := (h.stepCell hi 3).trans (rfl : _ = some (K.iv i))
  obtain ⟨au, cu, hiv, _, _, hc⟩ := (h.ins i hi).rd
  rw [hiv] at c3
  obtain ⟨ins, hins⟩ : ∃ ins, ins = (E.rule i).ins := ⟨_, rfl⟩
  rw [← hins] at hl c3 hc ⊢
  have HC := Lib.hid hc
  have hinz : (ins.length : Int) ≤ 900000 := by omega
  clear h hi hiv hc hins
  go_enter Tryz.func197, Tryz.ntmps197
  go_wp2_with fail
  go_loopw [5, 7, 8, 9, 16] (fun q _ _ _ t wr => ∃ (j : Nat) (qv : Value), qv = q ∧ j ≤ ins.length ∧ t = .int .i64 j ∧ Hid (RowP w.heap.size wr qv ((E.needs (ins.take j)).map K.blk)) ∧ Hid (Ext w wr)) (fun _ _ _ _ t _ => ins.length - (intOf t).toNat)
  case atStart => exact ⟨0, _, rfl, Nat.zero_le _, rfl, Lib.hid (RowP.nil _ _), Lib.hid (Only.refl _ _)⟩
  case round =>
    obtain ⟨j, qv, rfl, hj, rfl, HR, HX⟩ := hrel
    by_cases hlt : j < ins.length
    · have hltz : (j : Int) < (ins.length : Int) := by omega
      have hj0 : (0 : Int) ≤ (j : Int) := by omega
      obtain ⟨b, off, rfl, hcell⟩ := HC.out (by intro h; rw [h] at hlt; simp at hlt)
      obtain ⟨q, hq⟩ : ∃ y, ins[j]? = some y := ⟨_, List.getElem?_eq_getElem hlt⟩
      have d0 := HX.out.cellOf (hcell j q hq) (fun h => h)
      have d1 := HX.out.cellOf c1 (fun h => h)
      have d2 := HX.out.cellOf c2 (fun h => h)
      have hlk := KMap.look (P := Tryz.prog) keyOk_str (HB.out.outs.later HX.out (fun h => h)) Tryz.underlying185 Tryz.underlying9 (z := .int .i64 0) (by kernel_rfl) q
      rw [show (List.map (fun i => ((E.rule i).out, i)) E.sm).lookup q = E.by_ q from rfl] at hlk
      have hst := needs_step (E := E) hq
      have hnl : ((E.needs (ins.take j)).map K.blk).length ≤ 900000 := by
        have h1 := needs_len E (ins.take j)
        rw [List.length_take] at h1
        rw [List.length_map]
        omega
      cases hby : E.by_ q with
      | none =>
        rw [hby] at hlk hst
        simp only [List.append_nil] at hst
        simp only [Option.isSome_none] at hlk
        rw [← hst] at HR
        clear hcell hq hst hby hnl
        go_wp2_with fail
        go_roundw
        case rel => exact ⟨j + 1, _, rfl, by omega, by go_num, HR, HX⟩
        case measure => simp [intOf]; omega
      | some k =>
        rw [hby] at hlk hst
        simp only [Option.isSome_some] at hlk
        have hls := KMap.look1 (P := Tryz.prog) keyOk_int (HB.out.steps.later HX.out (fun h => h)) Tryz.underlying184 Tryz.underlying3 (z := .pointer none) (by kernel_rfl) (k : Int)
        rw [steps_lookup (by_some hby).1] at hls
        simp only at hls
        have HST : Hid ((E.needs (ins.take (j + 1))).map K.blk = (E.needs (ins.take j)).map K.blk ++ [K.blk k]) := Lib.hid (by rw [hst]; simp)
        have HNL := Lib.hid hnl
        clear hcell hq hst hby hnl
        generalize (E.needs (ins.take j)).map K.blk = nl at HR HST HNL
        go_wp2_with (at_builtin; refine wpPtr rfl (.tmp 30) (.tmp 37) w w.heap.size _ nl (K.blk k) wr rfl rfl rfl rfl HR.out (Nat.le_trans HNL.out (by decide)) HX.out.size HX.out (Nat.le_refl _) ?_; intro g5 cap5 w5 HR5 HX5 _)
        go_roundw
        case rel => exact ⟨j + 1, _, rfl, by omega, by go_num, by rw [HST.out]; exact HR5, HX5⟩
        case measure => simp [intOf]; omega
    · have hltz : ¬ (j : Int) < (ins.length : Int) := by omega
      rw [List.take_of_length_le (by omega)] at HR
      go_wp2_with fail
      go_ret
      exact ⟨_, rfl, HR.out, HX.out⟩
end Go.Proofs.YtnmhaipjfpongabGreatDoor

namespace Go.Proofs.YtnmhaipjfpongabGreatDoor
open Go.ChangeShapes Go.WideShapes Go.ChangeAt Go.RowKit
open Go.MapKept (Stamped)
open Go.ChangeMaps (setBlock)

theorem needs_iff {E : BE} {o : List Nat} {is : Nat → Bool} (h : BWell E o is) {i : Nat} (hi : i ∈ E.sm) {k : Nat} : k ∈ E.needs (E.rule i).ins ↔ k ∈ E.sm ∧ E.nd i k = true := by
  constructor
  · intro hk
    obtain ⟨h1, h2⟩ := needs_mem hk
    exact ⟨h1, (need_iff (h.lt i hi) (h.lt k h1)).2 h2⟩
  · rintro ⟨h1, h2⟩
    have h3 := (need_iff (h.lt i hi) (h.lt k h1)).1 h2
    refine List.mem_filterMap.2 ⟨_, h3, ?_⟩
    rcases h.input hi h3 with ⟨k', hk', _, h4, h5, _⟩ | ⟨h4, _⟩
    · rw [h5]
      have := nodup_inj h.right.2.2 (i := k') (j := k) (x := (E.rule k).out) (by rw [List.getElem?_map, BE.rule_at (h.lt k' hk'), Option.map_some, h4]) (by rw [List.getElem?_map, BE.rule_at (h.lt k h1)]; rfl)
      rw [this]
    · exact absurd rfl (by_none h4 k h1)
theorem needs_anyP {E : BE} {o : List Nat} {is : Nat → Bool} (h : BWell E o is) {i : Nat} (hi : i ∈ E.sm) (f : Nat → Bool) : (E.needs (E.rule i).ins).any f = true ↔ ∃ k ∈ E.sm, E.nd i k = true ∧ f k = true := by
  rw [List.any_eq_true]
  constructor
  · rintro ⟨k, hk, hf⟩
    obtain ⟨h1, h2⟩ := (needs_iff h hi).1 hk
    exact ⟨k, h1, h2, hf⟩
  · rintro ⟨k, h1, h2, hf⟩
    exact ⟨k, (needs_iff h hi).2 ⟨h1, h2⟩, hf⟩

/-- A test of steps as one of their blocks. -/
def onBlk (E : BE) (K : BK) (q : Nat → Bool) (b : Nat) : Bool := E.sm.any fun k => K.blk k == b && q k
theorem onBlk_eq {E : BE} {K : BK} {q : Nat → Bool} (hj : ∀ i ∈ E.sm, ∀ j ∈ E.sm, K.blk i = K.blk j → i = j) {k : Nat} (hk : k ∈ E.sm) : onBlk E K q (K.blk k) = q k := by
  unfold onBlk
  rw [Bool.eq_iff_iff, List.any_eq_true]
  constructor
  · rintro ⟨j, h1, h2⟩
    rw [Bool.and_eq_true, beq_iff_eq] at h2
    rw [← hj j h1 k hk h2.1]
    exact h2.2
  · intro h
    exact ⟨k, hk, by simp [h]⟩
theorem onBlk_any {E : BE} {K : BK} {q : Nat → Bool} (hj : ∀ i ∈ E.sm, ∀ j ∈ E.sm, K.blk i = K.blk j → i = j) {l : List Nat} (hl : ∀ k ∈ l, k ∈ E.sm) : (l.map K.blk).any (onBlk E K q) = l.any q := by
  induction l with
  | nil => rfl
  | cons x l ih => rw [List.map_cons, List.any_cons, List.any_cons, onBlk_eq hj (hl x (.head _)), ih fun k hk => hl k (.tail _ hk)]

/-! ### the tests -/
theorem enters_ready1 : ∀ args w, (callFunc 198 args).run Tryz.prog w = .ok (.enter 198 args) w := fun args w => by kernel_rfl
theorem enters_fail1 : ∀ args w, (callFunc 199 args).run Tryz.prog w = .ok (.enter 199 args) w := fun args w => by kernel_rfl
theorem enters_over1 : ∀ args w, (callFunc 130 args).run Tryz.prog w = .ok (.enter 130 args) w := fun args w => by kernel_rfl

section
variable {w : World} {P : Nat → Addr} {base : Nat} {E : BE} {K : BK} {s : BS}
theorem ready1_test (h : BldAt w P base E K s) {k : Nat} (hk : k ∈ E.sm) : Calls Tryz.prog 198 #[PTR (K.blk k)] w (RetE (.bool (s.st k != 2)) w) := by
  have c := (h.stepCell hk 4).trans (rfl : _ = some (IN (s.st k)))
  obtain ⟨q, hq⟩ : ∃ q, (((s.st k : Nat) : Int) != 2) = q := ⟨_, rfl⟩
  have hq2 : (s.st k != 2) = q := by rw [← hq, Bool.eq_iff_iff, bne_iff_ne, bne_iff_ne]; omega
  rw [hq2]
  clear h hq2
  go_enter Tryz.func198, Tryz.ntmps198
  go_wp2_with fail
  go_ret
  exact ⟨rfl, Only.refl _ _⟩
theorem fail1_test (h : BldAt w P base E K s) {k : Nat} (hk : k ∈ E.sm) : Calls Tryz.prog 199 #[PTR (K.blk k)] w (RetE (.bool (decide (3 ≤ s.st k))) w) := by
  have c := (h.stepCell hk 4).trans (rfl : _ = some (IN (s.st k)))
  by_cases h3 : 3 ≤ s.st k
  · have hz : (3 : Int) ≤ ((s.st k : Nat) : Int) := by omega
    rw [decide_eq_true h3]
    clear h h3
    go_enter Tryz.func199, Tryz.ntmps199
    go_wp2_with fail
    go_ret
    exact ⟨rfl, Only.refl _ _⟩
  · have hz : ¬ (3 : Int) ≤ ((s.st k : Nat) : Int) := by omega
    rw [decide_eq_false h3]
    clear h h3
    go_enter Tryz.func199, Tryz.ntmps199
    go_wp2_with fail
    go_ret
    exact ⟨rfl, Only.refl _ _⟩
theorem over1_test (h : BldAt w P base E K s) {k : Nat} (hk : k ∈ E.sm) : Calls Tryz.prog 130 #[PTR (K.blk k)] w (RetE (.bool (s.st k == 1)) w) := by
  have c := (h.stepCell hk 4).trans (rfl : _ = some (IN (s.st k)))
  obtain ⟨q, hq⟩ : ∃ q, (((s.st k : Nat) : Int) == 1) = q := ⟨_, rfl⟩
  have hq2 : (s.st k == 1) = q := by rw [← hq, Bool.eq_iff_iff, beq_iff_eq, beq_iff_eq]; omega
  rw [hq2]
  clear h hq2
  go_enter Tryz.func130, Tryz.ntmps130
  go_wp2_with fail
  go_ret
  exact ⟨rfl, Only.refl _ _⟩
end

/-! ### is a step ready? -/
set_option maxRecDepth 100000 in
set_option maxHeartbeats 2000000 in
theorem ready_any (w : World) (P : Nat → Addr) (base : Nat) (E : BE) (K : BK) (s : BS) (o : List Nat) (is : Nat → Bool) (i : Nat) (hi : i ∈ E.sm) (h : BldAt w P base E K s) (hW : BWell E o is) (hl : (E.rule i).ins.length ≤ 900000) :
    Calls Tryz.prog 124 #[PTR K.b, PTR (K.blk i)] w (RetE (.bool (readyP E s i)) w) := by
  have c := (h.stepCell hi 4).trans (rfl : _ = some (IN (s.st i)))
  have HB := Lib.hid h
  by_cases h1 : s.st i = 1
  · have HN := Lib.hid (needs_any w P base E K s i hi h hl)
    have hsub : ∀ k ∈ E.needs (E.rule i).ins, k ∈ E.sm := fun k hk => (needs_mem hk).1
    have hr : readyP E s i = !(E.needs (E.rule i).ins).any fun k => s.st k != 2 := by
      rw [Bool.eq_iff_iff, ready_iff, Bool.not_eq_true', Bool.eq_false_iff, Ne, needs_anyP hW hi]
      constructor
      · rintro ⟨_, h2⟩ ⟨k, hk, hn, hf⟩
        rw [h2 k hk hn] at hf
        cases hf
      · intro h2
        refine ⟨h1, fun k hk hn => Classical.byContradiction fun h3 => h2 ⟨k, hk, hn, bne_iff_ne.2 h3⟩⟩
    rw [hr]
    have HCT := Lib.hid (fun (w1 : World) (v1 : Value) (hx : Ext w w1) (hv : Rd PTR w1 v1 ((E.needs (E.rule i).ins).map K.blk)) =>
      containsFunc_S0 198 (onBlk E K fun k => s.st k != 2) w1 v1 _ hv enters_ready1 (fun w2 hx2 x hxm => by
        obtain ⟨k, hk, rfl⟩ := List.mem_map.1 hxm
        rw [onBlk_eq h.inj (hsub k hk)]
        exact ready1_test (h.ext (hx.then hx2)) (hsub k hk)))
    have HAN := Lib.hid (onBlk_any (q := fun k => s.st k != 2) h.inj hsub)
    replace c : w.cell? ⟨K.blk i, 4, none⟩ = some (.int .i64 1) := by rw [c, h1]; rfl
    generalize (E.needs (E.rule i).ins).any (fun k => s.st k != 2) = q at HAN ⊢
    clear h h1 hr hsub hi hl hW
    go_enter Tryz.func124, Tryz.ntmps124
    go_wp2_with fail
    refine HN.out.mono ?_
    rintro e w1 ⟨v1, rfl, hrow, ho⟩
    have HX1 := Lib.hid ho
    have hct := HCT.out w1 v1 ho hrow.rd
    rw [HAN.out] at hct
    have HC := Lib.hid hct
    obtain ⟨a1, n1, rfl, _, _, _⟩ := hrow.rd
    rw [List.length_map] at HC
    clear hrow ho hct
    go_wp2_with fail
    refine (HC.out).mono ?_
    rintro e w2 ⟨rfl, ho⟩
    have HX2 := Lib.hid (HX1.out.then ho)
    clear ho
    go_wp2_with fail
    go_ret
    exact ⟨rfl, HX2.out⟩
  · have hr : readyP E s i = false := by
      unfold readyP
      rw [beq_eq_false_iff_ne.2 h1]
      rfl
    rw [hr]
    have hz : (((s.st i : Nat) : Int) == 1) = false := beq_eq_false_iff_ne.2 (by omega)
    clear h h1 hr hi hl hW
    go_enter Tryz.func124, Tryz.ntmps124
    go_wp2_with fail
    go_ret
    exact ⟨rfl, Only.refl _ _⟩

/-! ### a step of a range over a map -/
theorem next_only {P : Program} {w : World} {ty : TypeId} {r bm clock : Nat} {seen : Array Nat} {es : Array MapEntry} (hr : w.heap[r]? = some (.mapIter (some bm) clock seen clock)) (hb : w.heap[bm]? = some (.map es clock)) (hbr : bm ≠ r) (hst : Stamped es clock) :
    ((leftOf es seen).size = 0 ∧ (Instr.next (.pointer (some ⟨r, 0, none⟩)) false ty).run P w = .ok (.tuple #[.bool false]) w) ∨
    ∃ e ∈ (leftOf es seen).toList, ∃ w1 : World, Only (fun i => i = r) w w1 ∧ w1.heap[r]? = some (.mapIter (some bm) clock (seen.push e.born) clock) ∧
      (Instr.next (.pointer (some ⟨r, 0, none⟩)) false ty).run P w = .ok (.tuple #[.bool true, e.key, e.val]) w1 ∧ (Instr.entry (.pointer (some ⟨r, 0, none⟩))).run P w1 = .ok (.tuple #[e.key, e.val]) w1 := by
  rcases run_next_at (P := P) w ty r bm clock clock seen es clock hr hb hst.1 (Nat.le_refl _) with h | ⟨e, he, w1, hw, hrun⟩
  · exact .inl h
  · have hx1 : Only (fun i => i = r) w w1 := by rcases hw with rfl | rfl; exact Only.refl _ _; exact Only.drew _ _
    have hh1 : w1.heap = w.heap := by rcases hw with rfl | rfl <;> rfl
    have hlr : r < w1.heap.size := by rw [hh1]; exact lt_of_heap hr
    have hr1 : (setBlock w1 r (.mapIter (some bm) clock (seen.push e.born) clock)).heap[r]? = some (.mapIter (some bm) clock (seen.push e.born) clock) := by
      simp [setBlock, hlr]
    have hb1 : (setBlock w1 r (.mapIter (some bm) clock (seen.push e.born) clock)).heap[bm]? = some (.map es clock) := by
      have : w1.heap[bm]? = some (.map es clock) := by rw [hh1]; exact hb
      simp only [setBlock]
      rw [Array.getElem?_setIfInBounds_ne (Ne.symm hbr)]
      exact this
    exact .inr ⟨e, he, _, hx1.then (only_setBlock w1 r _), hr1, hrun, run_entry_at _ r bm clock seen es clock e hr1 hb1 (mem_left he).1 hst.2.1⟩

/-! ### numbers, rising -/
theorem rise_sort {l k : List Nat} (hn : l.Nodup) (hm : ∀ x, x ∈ l ↔ x ∈ k) (hk : k.Pairwise fun x y => x < y) : sortN l = k := by
  have hp : l.Perm k := (List.perm_ext_iff_of_nodup hn (hk.imp fun h => Nat.ne_of_lt h)).2 hm
  have hes : k.Pairwise fun x y => decide (x ≤ y) = true := hk.imp fun h => decide_eq_true (Nat.le_of_lt h)
  have hss : (sortN l).Pairwise fun x y => decide (x ≤ y) = true := by
    unfold sortN
    refine List.pairwise_mergeSort (le := fun x y : Nat => decide (x ≤ y)) (fun a b c h1 h2 => ?_) (fun a b => ?_) _
    · exact decide_eq_true (Nat.le_trans (of_decide_eq_true h1) (of_decide_eq_true h2))
    · rcases Nat.le_total a b with h | h
      · rw [decide_eq_true h]; rfl
      · rw [decide_eq_true h, Bool.or_true]
  exact List.Perm.eq_of_pairwise (fun a b _ _ h1 h2 => Nat.le_antisymm (of_decide_eq_true h1) (of_decide_eq_true h2)) hss hes ((List.mergeSort_perm _ _).trans hp)

/-- The entries of a build's map. -/
structure Ents (E : BE) (K : BK) (es : Array MapEntry) : Prop where
  perm : (es.toList.map fun e => (e.key, e.val)).Perm ((E.sm.map fun (i : Nat) => ((i : Int), K.blk i)).map fun p => (I p.1, PTR p.2))
  nodup : E.sm.Nodup
theorem Ents.of {E : BE} {K : BK} {es : Array MapEntry} (h : Ents E K es) {e : MapEntry} (he : e ∈ es.toList) : ∃ k ∈ E.sm, e.key = IN k ∧ e.val = PTR (K.blk k) := by
  have := h.perm.mem_iff.1 (List.mem_map.2 ⟨e, he, rfl⟩)
  obtain ⟨p, hp, e1⟩ := List.mem_map.1 this
  obtain ⟨k, hk, rfl⟩ := List.mem_map.1 hp
  exact ⟨k, hk, (Prod.mk.inj e1).1.symm, (Prod.mk.inj e1).2.symm⟩
theorem Ents.to {E : BE} {K : BK} {es : Array MapEntry} (h : Ents E K es) {k : Nat} (hk : k ∈ E.sm) : ∃ e ∈ es.toList, e.key = IN k ∧ e.val = PTR (K.blk k) := by
  have := h.perm.mem_iff.2 (List.mem_map.2 ⟨((k : Int), K.blk k), List.mem_map.2 ⟨k, hk, rfl⟩, rfl⟩)
  obtain ⟨e, he, e1⟩ := List.mem_map.1 this
  exact ⟨e, he, (Prod.mk.inj e1).1, (Prod.mk.inj e1).2⟩
theorem nodup_mapI : ∀ {l : List Nat}, l.Nodup → (l.map IN).Nodup
  | [], _ => List.nodup_nil
  | x :: l, h => by
    rw [List.nodup_cons] at h
    rw [List.map_cons, List.nodup_cons]
    refine ⟨fun hm => ?_, nodup_mapI h.2⟩
    obtain ⟨y, hy, e⟩ := List.mem_map.1 hm
    have : (y : Int) = (x : Int) := by simpa [IN] using e
    have : y = x := by omega
    exact h.1 (this ▸ hy)
theorem Ents.key {E : BE} {K : BK} {es : Array MapEntry} (h : Ents E K es) {e e' : MapEntry} (he : e ∈ es.toList) (he' : e' ∈ es.toList) (hk : e.key = e'.key) : e = e' := by
  have hn : (es.toList.map (·.key)).Nodup := by
    have h1 := h.perm.map (·.1)
    rw [List.map_map, List.map_map, List.map_map] at h1
    have h2 : (es.toList.map (·.key)).Perm (E.sm.map IN) := h1
    exact h2.nodup_iff.2 (nodup_mapI h.nodup)
  obtain ⟨i, hi⟩ := List.getElem?_of_mem he
  obtain ⟨j, hj⟩ := List.getElem?_of_mem he'
  have hij : i = j := nodup_inj hn (i := i) (j := j) (x := e.key) (by rw [List.getElem?_map, hi]; rfl) (by rw [List.getElem?_map, hj, hk]; rfl)
  subst hij
  rw [hi] at hj
  exact Option.some.inj hj

/-- Those that have been taken, of what is seen. -/
structure Taken (E : BE) (es : Array MapEntry) (p : Nat → Bool) (seen : Array Nat) (ks : List Nat) : Prop where
  nodup : ks.Nodup
  mem : ∀ k, k ∈ ks ↔ k ∈ E.sm ∧ p k = true ∧ ∃ e ∈ es.toList, e.key = IN k ∧ seen.contains e.born = true
theorem Taken.start (E : BE) (es : Array MapEntry) (p : Nat → Bool) : Taken E es p #[] [] := ⟨List.nodup_nil, fun k => by simp⟩
theorem IN_inj {a b : Nat} (h : IN a = IN b) : a = b := by
  have : (a : Int) = (b : Int) := by simpa [IN] using h
  omega
theorem Taken.skip {E : BE} {K : BK} {es : Array MapEntry} {p : Nat → Bool} {seen : Array Nat} {ks : List Nat} (h : Taken E es p seen ks) (_hE : Ents E K es) {clock : Nat} (hst : Stamped es clock) {e : MapEntry} (he : e ∈ (leftOf es seen).toList) {k : Nat} (hk : e.key = IN k) (hp : p k = false) : Taken E es p (seen.push e.born) ks := by
  refine ⟨h.nodup, fun j => ?_⟩
  rw [h.mem]
  constructor
  · rintro ⟨h1, h2, e', h3, h4, h5⟩
    exact ⟨h1, h2, e', h3, h4, by rw [contains_push, h5]; rfl⟩
  · rintro ⟨h1, h2, e', h3, h4, h5⟩
    refine ⟨h1, h2, e', h3, h4, ?_⟩
    rw [contains_push] at h5
    rcases Bool.or_eq_true _ _ ▸ h5 with h6 | h6
    · exact h6
    · have := born_inj hst.2.1 h3 (mem_left he).1 (beq_iff_eq.1 h6)
      subst this
      rw [hk] at h4
      rw [← IN_inj h4, hp] at h2
      cases h2
theorem Taken.push {E : BE} {K : BK} {es : Array MapEntry} {p : Nat → Bool} {seen : Array Nat} {ks : List Nat} (h : Taken E es p seen ks) (hE : Ents E K es) {clock : Nat} (hst : Stamped es clock) {e : MapEntry} (he : e ∈ (leftOf es seen).toList) {k : Nat} (hks : k ∈ E.sm) (hk : e.key = IN k) (hp : p k = true) : Taken E es p (seen.push e.born) (ks ++ [k]) := by
  have hnew : k ∉ ks := fun hm => by
    obtain ⟨_, _, e', h3, h4, h5⟩ := (h.mem k).1 hm
    have := hE.key h3 (mem_left he).1 (h4.trans hk.symm)
    subst this
    rw [(mem_left he).2] at h5
    cases h5
  refine ⟨List.nodup_append.2 ⟨h.nodup, List.nodup_cons.2 ⟨by simp, List.nodup_nil⟩, fun a ha b hb e2 => by rw [List.mem_singleton] at hb; subst hb; subst e2; exact hnew ha⟩, fun j => ?_⟩
  rw [List.mem_append, List.mem_singleton, h.mem]
  constructor
  · rintro (⟨h1, h2, e', h3, h4, h5⟩ | rfl)
    · exact ⟨h1, h2, e', h3, h4, by rw [contains_push, h5]; rfl⟩
    · exact ⟨hks, hp, e, (mem_left he).1, hk, by rw [contains_push]; simp⟩
  · rintro ⟨h1, h2, e', h3, h4, h5⟩
    rw [contains_push] at h5
    rcases Bool.or_eq_true _ _ ▸ h5 with h6 | h6
    · exact .inl ⟨h1, h2, e', h3, h4, h6⟩
    · have := born_inj hst.2.1 h3 (mem_left he).1 (beq_iff_eq.1 h6)
      subst this
      rw [hk] at h4
      exact .inr (IN_inj h4).symm
theorem Taken.all {E : BE} {K : BK} {es : Array MapEntry} {p : Nat → Bool} {seen : Array Nat} {ks : List Nat} (h : Taken E es p seen ks) (hE : Ents E K es) (hr : E.sm.Pairwise fun x y => x < y) (h0 : (leftOf es seen).size = 0) : sortN ks = E.sm.filter p := by
  refine rise_sort h.nodup (fun k => ?_) (hr.filter _)
  rw [h.mem, List.mem_filter]
  constructor
  · rintro ⟨h1, h2, _⟩; exact ⟨h1, h2⟩
  · rintro ⟨h1, h2⟩
    obtain ⟨e, he, h3, _⟩ := hE.to h1
    exact ⟨h1, h2, e, he, h3, all_seen es seen h0 e he⟩
theorem Taken.len {E : BE} {es : Array MapEntry} {p : Nat → Bool} {seen : Array Nat} {ks : List Nat} (h : Taken E es p seen ks) : ks.length ≤ E.sm.length := nodup_len h.nodup fun k hk => ((h.mem k).1 hk).1
end Go.Proofs.YtnmhaipjfpongabGreatDoor

namespace Go.Proofs.YtnmhaipjfpongabGreatDoor
open Go.ChangeShapes Go.WideShapes Go.ChangeAt Go.RowKit
open Go.MapKept (Stamped)
open Go.ChangeMaps (setBlock)

def RetNs (l : List Nat) (w : World) (e : Ending) (w' : World) : Prop := ∃ v, e = .returned v ∧ RowI w.heap.size w' v l ∧ Ext w w'

set_option maxRecDepth 100000 in
set_option maxHeartbeats 4000000 in
theorem numbers0_any (g : Nat) (w : World) (P : Nat → Addr) (base : Nat) (E : BE) (K : BK) (s : BS) (h : BldAt w P base E K s) (p : Nat → Bool) (hr : E.sm.Pairwise fun x y => x < y) (hl : E.sm.length ≤ 1000) (eg : ∀ args w, (callFunc g args).run Tryz.prog w = .ok (.enter g args) w)
    (hp : ∀ w1, Ext w w1 → ∀ k ∈ E.sm, Calls Tryz.prog g #[PTR (K.blk k)] w1 (RetE (.bool (p k)) w1)) :
    Calls Tryz.prog 123 #[PTR K.b, .func (.func g) #[] #[]] w (RetNs (E.sm.filter p) w) := by
  have c1 := (h.cell 1).trans (rfl : _ = some (Value.map (some K.lb)))
  obtain ⟨es, clock, hb, hpm, _, _, hst⟩ := h.steps
  have hrg := run_range_map (P := Tryz.prog) w 184 3 188 K.lb es clock Tryz.underlying184 hb
  have HEN : Hid (Ents E K es) := Lib.hid ⟨hpm, hr.imp fun h => Nat.ne_of_lt h⟩
  have HB := Lib.hid hb
  have HS := Lib.hid hst
  have HP := Lib.hid hp
  have HR := Lib.hid hr
  have HL := Lib.hid hl
  have hmr : K.lb ≠ w.heap.size := Nat.ne_of_lt (lt_of_heap hb)
  have HMR := Lib.hid hmr
  clear h hb hpm hst hp hr hl hmr
  go_enter Tryz.func123, Tryz.ntmps123
  go_wp2_with fail
  go_loopw [5, 6, 7] (fun q _ _ w' => ∃ (seen : Array Nat) (qv : Value) (ks : List Nat), qv = q ∧ Hid (Ext w w') ∧ Hid (w'.heap[w.heap.size]? = some (.mapIter (some K.lb) clock seen clock)) ∧ Hid (RowI (w.heap.size + 1) w' qv ks) ∧ Hid (Taken E es p seen ks)) (fun _ _ _ w' => (leftOf es (w'.iterSeen w.heap.size)).size)
  case atStart => exact ⟨#[], _, [], rfl, Lib.hid (Only.alloc _ _ _), Lib.hid (MapKept.heap_alloc w _).1, Lib.hid (RowI.nil _ _), Lib.hid (Taken.start E es p)⟩
  case round =>
    clear hrg
    obtain ⟨seen, qv, ks, rfl, HX, HIT, HQ, HT⟩ := hrel
    have law := next_only (P := Tryz.prog) (ty := 0) HIT.out (HX.out.heapOf HB.out (fun h => h)) HMR.out HS.out
    rcases law with ⟨h0, hrun⟩ | ⟨e, he, w3, ho3, hr3, hrun, hen⟩
    · have hso := sort_rowI wr (w.heap.size + 1) qv ks HQ.out (by have := HT.out.len; have := HL.out; omega)
      rw [HT.out.all HEN.out HR.out h0] at hso
      have HSO := Lib.hid hso
      clear hso h0
      rcases HQ.out.cases with ⟨rfl, hnil⟩ | ⟨g1, cp, rfl⟩
      · clear hnil
        go_wp2_with fail
        refine HSO.out.mono ?_
        rintro e w6 ⟨rfl, hr6, ho6⟩
        have HF : Hid (Ext w w6) := Lib.hid (HX.out.trans ho6 (fun _ _ h => h) (fun i hi e => by cases e))
        have HR6 := Lib.hid (hr6.down (Nat.le_succ _))
        clear hr6 ho6
        go_wp2_with fail
        go_ret
        exact ⟨_, rfl, HR6.out, HF.out⟩
      · go_wp2_with fail
        refine HSO.out.mono ?_
        rintro e w6 ⟨rfl, hr6, ho6⟩
        have HF : Hid (Ext w w6) := Lib.hid (HX.out.trans ho6 (fun _ _ h => h) (fun i hi e => by have := HQ.out.base i e; omega))
        have HR6 := Lib.hid (hr6.down (Nat.le_succ _))
        clear hr6 ho6
        go_wp2_with fail
        go_ret
        exact ⟨_, rfl, HR6.out, HF.out⟩
    · obtain ⟨k, hks, hek, hev⟩ := HEN.out.of (mem_left he).1
      rw [hek, hev] at hrun hen
      have HE2 := Lib.hid he
      have HEK := Lib.hid hek
      have HKS := Lib.hid hks
      have hx3 : Ext w w3 := HX.out.trans ho3 (fun _ _ h => h) (fun i hi e => by omega)
      have HX3 := Lib.hid hx3
      have HIT3 := Lib.hid hr3
      have HQ3 : Hid (RowI (w.heap.size + 1) w3 qv ks) := Lib.hid (ho3.row HQ.out (fun i e e2 => by have := HQ.out.base i e; omega))
      have hpc := HP.out w3 hx3 k hks
      cases hpk : p k with
      | true =>
        rw [hpk] at hpc
        have HPC := Lib.hid hpc
        have HT3 := Lib.hid (HT.out.push HEN.out HS.out he hks hek hpk)
        have HKL : Hid (ks.length ≤ 1000000) := Lib.hid (by have := HT.out.len; have := HL.out; omega)
        clear he hek hev hks hx3 hr3 hpc hpk ho3
        go_wp2_with fail
        refine HPC.out.mono ?_
        rintro e1 w4 ⟨rfl, ho4⟩
        have HX4 := Lib.hid (HX3.out.then ho4)
        have HIT4 := Lib.hid (ho4.heapOf HIT3.out (fun h => h))
        have HQ4 := Lib.hid (HQ3.out.ext ho4)
        clear ho4
        go_wp2_with (at_builtin; refine wpNum rfl (.tmp 21) (.tmp 23) w (w.heap.size + 1) _ ks k w4 rfl rfl rfl rfl HQ4.out HKL.out (lt_of_heap HIT4.out) HX4.out (Nat.le_succ _) ?_; intro g5 cap5 w5 HR5 HX5 HG5; have HIT5 := Lib.hid ((Only.of_grown HG5.out).heapOf HIT4.out (fun e => by have := HQ4.out.base _ e; omega)))
        go_roundw
        case rel => exact ⟨_, _, _, rfl, HX5, HIT5, HR5, HT3⟩
        case measure =>
          rw [iterSeen_of HIT5.out, iterSeen_of HIT.out]
          exact left_shrinks es seen _ HE2.out
      | false =>
        rw [hpk] at hpc
        have HPC := Lib.hid hpc
        have HT3 := Lib.hid (HT.out.skip HEN.out HS.out he hek hpk)
        clear he hek hev hks hx3 hr3 hpc hpk ho3
        go_wp2_with fail
        refine HPC.out.mono ?_
        rintro e1 w4 ⟨rfl, ho4⟩
        have HX4 := Lib.hid (HX3.out.then ho4)
        have HIT4 := Lib.hid (ho4.heapOf HIT3.out (fun h => h))
        have HQ4 := Lib.hid (HQ3.out.ext ho4)
        clear ho4
        go_wp2_with fail
        go_roundw
        case rel => exact ⟨_, _, _, rfl, HX4, HIT4, HQ4, HT3⟩
        case measure =>
          rw [iterSeen_of HIT4.out, iterSeen_of HIT.out]
          exact left_shrinks es seen _ HE2.out

set_option maxRecDepth 100000 in
set_option maxHeartbeats 4000000 in
theorem numbersM_any (g : Nat) (w : World) (P : Nat → Addr) (base : Nat) (E : BE) (K : BK) (s : BS) (h : BldAt w P base E K s) (p : Nat → Bool) (hr : E.sm.Pairwise fun x y => x < y) (hl : E.sm.length ≤ 1000) (eg : ∀ args w, (callFunc g args).run Tryz.prog w = .ok (.enter g args) w)
    (hp : ∀ w1, Ext w w1 → ∀ k ∈ E.sm, Calls Tryz.prog g #[PTR K.b, PTR (K.blk k)] w1 (RetE (.bool (p k)) w1)) :
    Calls Tryz.prog 123 #[PTR K.b, .func (.func g) #[PTR K.b] #[]] w (RetNs (E.sm.filter p) w) := by
  have c1 := (h.cell 1).trans (rfl : _ = some (Value.map (some K.lb)))
  obtain ⟨es, clock, hb, hpm, _, _, hst⟩ := h.steps
  have hrg := run_range_map (P := Tryz.prog) w 184 3 188 K.lb es clock Tryz.underlying184 hb
  have HEN : Hid (Ents E K es) := Lib.hid ⟨hpm, hr.imp fun h => Nat.ne_of_lt h⟩
  have HB := Lib.hid hb
  have HS := Lib.hid hst
  have HP := Lib.hid hp
  have HR := Lib.hid hr
  have HL := Lib.hid hl
  have hmr : K.lb ≠ w.heap.size := Nat.ne_of_lt (lt_of_heap hb)
  have HMR := Lib.hid hmr
  clear h hb hpm hst hp hr hl hmr
  go_enter Tryz.func123, Tryz.ntmps123
  go_wp2_with fail
  go_loopw [5, 6, 7] (fun q _ _ w' => ∃ (seen : Array Nat) (qv : Value) (ks : List Nat), qv = q ∧ Hid (Ext w w') ∧ Hid (w'.heap[w.heap.size]? = some (.mapIter (some K.lb) clock seen clock)) ∧ Hid (RowI (w.heap.size + 1) w' qv ks) ∧ Hid (Taken E es p seen ks)) (fun _ _ _ w' => (leftOf es (w'.iterSeen w.heap.size)).size)
  case atStart => exact ⟨#[], _, [], rfl, Lib.hid (Only.alloc _ _ _), Lib.hid (MapKept.heap_alloc w _).1, Lib.hid (RowI.nil _ _), Lib.hid (Taken.start E es p)⟩
  case round =>
    clear hrg
    obtain ⟨seen, qv, ks, rfl, HX, HIT, HQ, HT⟩ := hrel
    have law := next_only (P := Tryz.prog) (ty := 0) HIT.out (HX.out.heapOf HB.out (fun h => h)) HMR.out HS.out
    rcases law with ⟨h0, hrun⟩ | ⟨e, he, w3, ho3, hr3, hrun, hen⟩
    · have hso := sort_rowI wr (w.heap.size + 1) qv ks HQ.out (by have := HT.out.len; have := HL.out; omega)
      rw [HT.out.all HEN.out HR.out h0] at hso
      have HSO := Lib.hid hso
      clear hso h0
      rcases HQ.out.cases with ⟨rfl, hnil⟩ | ⟨g1, cp, rfl⟩
      · clear hnil
        go_wp2_with fail
        refine HSO.out.mono ?_
        rintro e w6 ⟨rfl, hr6, ho6⟩
        have HF : Hid (Ext w w6) := Lib.hid (HX.out.trans ho6 (fun _ _ h => h) (fun i hi e => by cases e))
        have HR6 := Lib.hid (hr6.down (Nat.le_succ _))
        clear hr6 ho6
        go_wp2_with fail
        go_ret
        exact ⟨_, rfl, HR6.out, HF.out⟩
      · go_wp2_with fail
        refine HSO.out.mono ?_
        rintro e w6 ⟨rfl, hr6, ho6⟩
        have HF : Hid (Ext w w6) := Lib.hid (HX.out.trans ho6 (fun _ _ h => h) (fun i hi e => by have := HQ.out.base i e; omega))
        have HR6 := Lib.hid (hr6.down (Nat.le_succ _))
        clear hr6 ho6
        go_wp2_with fail
        go_ret
        exact ⟨_, rfl, HR6.out, HF.out⟩
    · obtain ⟨k, hks, hek, hev⟩ := HEN.out.of (mem_left he).1
      rw [hek, hev] at hrun hen
      have HE2 := Lib.hid he
      have HEK := Lib.hid hek
      have HKS := Lib.hid hks
      have hx3 : Ext w w3 := HX.out.trans ho3 (fun _ _ h => h) (fun i hi e => by omega)
      have HX3 := Lib.hid hx3
      have HIT3 := Lib.hid hr3
      have HQ3 : Hid (RowI (w.heap.size + 1) w3 qv ks) := Lib.hid (ho3.row HQ.out (fun i e e2 => by have := HQ.out.base i e; omega))
      have hpc := HP.out w3 hx3 k hks
      cases hpk : p k with
      | true =>
        rw [hpk] at hpc
        have HPC := Lib.hid hpc
        have HT3 := Lib.hid (HT.out.push HEN.out HS.out he hks hek hpk)
        have HKL : Hid (ks.length ≤ 1000000) := Lib.hid (by have := HT.out.len; have := HL.out; omega)
        clear he hek hev hks hx3 hr3 hpc hpk ho3
        go_wp2_with fail
        refine HPC.out.mono ?_
        rintro e1 w4 ⟨rfl, ho4⟩
        have HX4 := Lib.hid (HX3.out.then ho4)
        have HIT4 := Lib.hid (ho4.heapOf HIT3.out (fun h => h))
        have HQ4 := Lib.hid (HQ3.out.ext ho4)
        clear ho4
        go_wp2_with (at_builtin; refine wpNum rfl (.tmp 21) (.tmp 23) w (w.heap.size + 1) _ ks k w4 rfl rfl rfl rfl HQ4.out HKL.out (lt_of_heap HIT4.out) HX4.out (Nat.le_succ _) ?_; intro g5 cap5 w5 HR5 HX5 HG5; have HIT5 := Lib.hid ((Only.of_grown HG5.out).heapOf HIT4.out (fun e => by have := HQ4.out.base _ e; omega)))
        go_roundw
        case rel => exact ⟨_, _, _, rfl, HX5, HIT5, HR5, HT3⟩
        case measure =>
          rw [iterSeen_of HIT5.out, iterSeen_of HIT.out]
          exact left_shrinks es seen _ HE2.out
      | false =>
        rw [hpk] at hpc
        have HPC := Lib.hid hpc
        have HT3 := Lib.hid (HT.out.skip HEN.out HS.out he hek hpk)
        clear he hek hev hks hx3 hr3 hpc hpk ho3
        go_wp2_with fail
        refine HPC.out.mono ?_
        rintro e1 w4 ⟨rfl, ho4⟩
        have HX4 := Lib.hid (HX3.out.then ho4)
        have HIT4 := Lib.hid (ho4.heapOf HIT3.out (fun h => h))
        have HQ4 := Lib.hid (HQ3.out.ext ho4)
        clear ho4
        go_wp2_with fail
        go_roundw
        case rel => exact ⟨_, _, _, rfl, HX4, HIT4, HQ4, HT3⟩
        case measure =>
          rw [iterSeen_of HIT4.out, iterSeen_of HIT.out]
          exact left_shrinks es seen _ HE2.out

theorem enters_ready : ∀ args w, (callFunc 124 args).run Tryz.prog w = .ok (.enter 124 args) w := fun args w => by kernel_rfl

/-- Those that are ready. -/
def readyL (E : BE) (s : BS) : List Nat := E.sm.filter (readyP E s)
def overP (E : BE) (s : BS) : Bool := (E.sm.filter fun k => s.st k == 1).length == 0

section
variable {w : World} {P : Nat → Addr} {base : Nat} {E : BE} {K : BK} {s : BS} {o : List Nat} {is : Nat → Bool}
theorem readyL_any (h : BldAt w P base E K s) (hW : BWell E o is) (hl : ∀ i ∈ E.sm, (E.rule i).ins.length ≤ 900000) (hn : E.sm.length ≤ 1000) :
    Calls Tryz.prog 56 #[PTR K.b] w (RetNs (readyL E s) w) := by
  have HN := Lib.hid (numbersM_any 124 w P base E K s h (readyP E s) hW.rise hn enters_ready (fun w1 hx k hk => ready_any w1 P base E K s o is k hk (h.ext hx) hW (hl k hk)))
  change Hid (Calls _ _ _ _ (RetNs (readyL E s) w)) at HN
  generalize readyL E s = q at HN ⊢
  clear h hW hl hn
  go_enter Tryz.func56, Tryz.ntmps56
  go_wp2_with fail
  refine HN.out.mono ?_
  rintro e w1 ⟨v, rfl, hr, ho⟩
  have HR := Lib.hid hr
  have HO := Lib.hid ho
  obtain ⟨a, c, rfl, _, _, _⟩ := hr.rd
  clear hr ho
  go_wp2_with fail
  go_ret
  exact ⟨_, rfl, HR.out, HO.out⟩

theorem over_any (h : BldAt w P base E K s) (hr : E.sm.Pairwise fun x y => x < y) (hn : E.sm.length ≤ 1000) :
    Calls Tryz.prog 59 #[PTR K.b] w (RetE (.bool (overP E s)) w) := by
  have HN := Lib.hid (numbers0_any 130 w P base E K s h (fun k => s.st k == 1) hr hn enters_over1 (fun w1 hx k hk => over1_test (h.ext hx) hk))
  obtain ⟨R, hR⟩ : ∃ R, R = overP E s := ⟨_, rfl⟩
  rw [← hR]
  unfold overP at hR
  generalize (E.sm.filter fun k => s.st k == 1) = q at HN hR
  have hz : ((q.length : Int) == 0) = R := by
    rw [hR, Bool.eq_iff_iff, beq_iff_eq, beq_iff_eq]
    omega
  clear h hr hn hR
  go_enter Tryz.func59, Tryz.ntmps59
  go_wp2_with fail
  refine HN.out.mono ?_
  rintro e w1 ⟨v, rfl, hr, ho⟩
  have HO := Lib.hid ho
  obtain ⟨a, c, rfl, _, _, _⟩ := hr.rd
  clear hr ho
  go_wp2_with fail
  go_ret
  exact ⟨rfl, HO.out⟩
end
end Go.Proofs.YtnmhaipjfpongabGreatDoor
