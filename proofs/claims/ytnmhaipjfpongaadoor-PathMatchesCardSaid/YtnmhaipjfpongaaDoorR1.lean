/- A range over strings.SplitSeq: what the iterator keeps in a cell of its own, and what a loop over it comes to. No condition but how the captured variables lie. -/
import Derived.Test.YtnmhaipjfpongaaDoorQ5
import Derived.RangeFuncNested
import Derived.RangeFuncBound
import Derived.RangeFuncCalls
import Derived.RangeFuncLeaves
import Derived.RangeFuncBox
import Derived.Shelf.Abstract
import Derived.WalkKit
import Derived.OwnWalkIn
import Derived.TacticsInMore
import Derived.LoopNIn
import Derived.LoopIn
namespace Go.Proofs.YtnmhaipjfpongaaDoor
open Go.ChangeShapes Go.WideShapes Go.ChangeAt Go.RowKit
open Go.MapKept (heap_alloc)

/-- An iterator over texts that keeps what is left in a cell of its own (block sb); 'keep': the blocks that a round must leave. -/
def Splits (F : Fence) (n : Nat) (P : Program) (gf : Nat) (lb : Array Value) (sb : Nat) (keep : Nat → Prop) (xs : List B) (W0 : World) (l : Nat) : Prop :=
  ∀ I Ix : List B → World → Prop, (∀ pre W u, I pre W → I pre (W.setCell ⟨sb, 0, none⟩ u)) →
    (∀ pre x W1, I pre W1 → pre ++ [x] <+: xs → YieldAt F (n - 1) P l #[S x] W1 fun e W' =>
      (e = .returned (.bool true) ∧ I (pre ++ [x]) W' ∧ ∀ k, keep k → k < W1.heap.size → W'.heap[k]? = W1.heap[k]?) ∨ (e = .returned (.bool false) ∧ Ix (pre ++ [x]) W')) →
    I [] W0 →
    CallsIn F n P gf (#[.func (.yield l) #[] #[]] ++ lb) W0 fun e W' => (∃ v, e = .returned v) ∧ (I xs W' ∨ ∃ pre, Ix pre W')

/-- How a round's body may be left. -/
def SplitPost (keep : Nat → Prop) (I Ix : List B → World → Prop) (xs : List B) (W : World) : Exit → Act → World → Prop
  | .normal, _, W' => Only (fun k => ¬ keep k) W W' ∧ I xs W'
  | .ret, _, W' => Only (fun k => ¬ keep k) W W' ∧ Ix xs W'
  | .exit _, _, _ => False
  | .goto _, _, _ => False
  | .panic _, _, _ => False
  | .outgrown, _, _ => False

theorem only_putObj {p : Nat → Prop} (W : World) (l : Nat) (o : Obj) (h : p l) : Only p W (W.putObj l o) :=
  ⟨rfl, rfl, rfl, by simp, fun k _ hk => World.putObj_heap_other fun e => hk (e ▸ h)⟩

variable {F : Fence} {n : Nat} {P : Program}

theorem range_split {g : Operand} {ps : Array Tmp} {assign body : Code} {Q : Exit → Act → World → Prop} {a : Act} {w : World}
    (hro : F.round = none) (h1 : 1 ≤ n) {gf : Nat} {lb : Array Value} (hg : a.eval g = .func (.func gf) #[] lb) (hFg : F.fn gf) (eg : ∀ args w, (callFunc gf args).run P w = .ok (.enter gf args) w)
    {sb : Nat} (hsb : sb < w.heap.size) {keep : Nat → Prop} (hk0 : keep w.heap.size) (hk1 : keep (w.heap.size + 1)) {xs : List B} (hps : ps.size = 1)
    (hit : ∀ o o', Splits F (n - 1) P gf lb sb keep xs ((w.alloc o).alloc o') (w.heap.size + 1))
    (I Ix : List B → World → Prop) (hI : ∀ s A B, I s A → Only (fun k => k = w.heap.size ∨ k = w.heap.size + 1) A B → I s B) (hIx : ∀ s A B, Ix s A → Only (fun k => k = w.heap.size ∨ k = w.heap.size + 1) A B → Ix s B)
    (hset : ∀ s A u, I s A → I s (A.setCell ⟨sb, 0, none⟩ u)) (h0 : I [] w) (a₁ : B → Act)
    (hassign : ∀ (x : B) (W : World) (K : Act → World → Prop), K (a₁ x) W → assign.wpIn (F.inRound (w.heap.size + 1)) (n - 1 - 1) P (Exit.then K (fun _ _ _ => False)) { tmps := (ps.zip #[S x]).foldl (fun t (p, v) => t.setIfInBounds p v) a.tmps, defers := [] } W)
    (hbody : ∀ (pre : List B) (x : B) (W : World), I pre W → pre ++ [x] <+: xs → w.heap.size + 1 < W.heap.size → body.wpIn (F.inRound (w.heap.size + 1)) (n - 1 - 1) P (SplitPost keep I Ix (pre ++ [x]) W) (a₁ x) W)
    (hdone : ∀ W : World, I xs W → W.heap[w.heap.size]? = some (.deferred (some [])) → Q .normal { a with defers := { target := .collected w.heap.size, args := #[] } :: a.defers } W)
    (hstop : ∀ (pre : List B) (W : World), Ix pre W → W.heap[w.heap.size]? = some (.deferred (some [])) → Code.ret.wpIn F n P Q { a with defers := { target := .collected w.heap.size, args := #[] } :: a.defers } W) :
    (Code.rangeFunc g ps assign body).wpIn F n P Q a w := by
  obtain ⟨D, hD⟩ : ∃ D, D = w.heap.size := ⟨_, rfl⟩
  obtain ⟨L, hL⟩ : ∃ L, L = w.heap.size + 1 := ⟨_, rfl⟩
  refine wpIn_rangeFunc fun fn hfn => ?_
  rw [hro]
  let rec_ : LoopState → Option Code → Loop := fun st pe => { state := st, pending := pe, fn, tmps := a.tmps, params := ps, assign, body, defers := w.heap.size }
  let W1 := (w.alloc (.deferred (some []))).alloc (.loop (rec_ .ready none))
  have hL1 : W1.heap[w.heap.size + 1]? = some (.loop (rec_ .ready none)) := by
    have := World.alloc_heap_new (w.alloc (.deferred (some []))) (.loop (rec_ .ready none)); rwa [World.size_alloc] at this
  have hD1 : W1.heap[w.heap.size]? = some (.deferred (some [])) := (Below.heap_alloc _ _ _ (by simp)).trans (World.alloc_heap_new w _)
  have hI1 : I [] W1 := hI _ _ _ h0 ((Only.alloc _ w _).then (Only.alloc _ _ _))
  refine ⟨w.heap.size + 1, [{ target := .collected w.heap.size, args := #[] }], W1, { target := .fn (.func gf) lb, args := #[.func (.yield (w.heap.size + 1)) #[] #[]] }, W1, gf,
    #[.func (.yield (w.heap.size + 1)) #[] #[]] ++ lb, W1, run_enterLoop_outer _ _ _ _ _, ?_, ?_, ?_, fun _ => h1, ?_⟩
  · simp only [resolve, hg]
    simp [go_sem]
  · intro f' hf'; simp [Target.leads] at hf'; subst hf'; exact hFg
  · simp [invoke, go_sem, eg]
  -- the blocks of the law's own, and what a step on them leaves
  have put : ∀ (p : Nat → Prop), p (w.heap.size + 1) → ∀ (W : World) (o : Obj), Only p W (W.putObj (w.heap.size + 1) o) := fun p hp W o => only_putObj W _ o hp
  refine (hit _ _
    (fun pre W => I pre W ∧ W.heap[w.heap.size + 1]? = some (.loop (rec_ .ready none)) ∧ W.heap[w.heap.size]? = some (.deferred (some [])))
    (fun pre W => Ix pre W ∧ W.heap[w.heap.size + 1]? = some (.loop (rec_ .done (some .ret))) ∧ W.heap[w.heap.size]? = some (.deferred (some [])))
    (fun pre W u h => ⟨hset _ _ _ h.1, (Below.heap_setCell _ _ _ _ (by simp; omega)).trans h.2.1, (Below.heap_setCell _ _ _ _ (by simp; omega)).trans h.2.2⟩) ?_ ⟨hI1, hL1, hD1⟩).mono ?_
  · rintro pre x W ⟨hi, hl, hd⟩ hpre
    have hlt : w.heap.size + 1 < W.heap.size := (Array.getElem?_eq_some_iff.1 hl).1
    refine ⟨fn, _, assign, body, run_yield (P := P) (args := #[S x]) hl (by simp [rec_, hps]), roundIn_of_wpIn hfn (hassign x W _ ⟨_, run_beginRound hl rfl, ?_⟩)⟩
    let Wb := W.putObj (w.heap.size + 1) (.loop { rec_ .ready none with state := .busy })
    have hlb : Wb.heap[w.heap.size + 1]? = some (.loop { rec_ .ready none with state := .busy }) := World.putObj_heap_same hlt
    have hdb : Wb.heap[w.heap.size]? = some (.deferred (some [])) := (World.putObj_heap_other (by omega)).trans hd
    refine wpIn_mono (hbody pre x Wb (hI _ _ _ hi (put _ (.inr rfl) W _)) hpre (by simpa [Wb] using hlt)) ?_
    intro e a3 W3 hp
    cases e with
    | normal =>
      obtain ⟨ho, hi3⟩ := hp
      have hl3 := ho.heapOf hlb (fun h => h hk1)
      have hd3 := ho.heapOf hdb (fun h => h hk0)
      have hlt3 := lt_of_heap hl3
      refine ⟨_, _, run_endRound (P := P) none hl3, .inl ⟨rfl, ⟨hI _ _ _ hi3 (put _ (.inr rfl) W3 _), World.putObj_heap_same hlt3, (World.putObj_heap_other (by omega)).trans hd3⟩, fun k hk hkl => ?_⟩⟩
      by_cases e : k = w.heap.size + 1
      · subst e
        rw [World.putObj_heap_same hlt3, hl]
        rfl
      · rw [World.putObj_heap_other e]
        rw [ho.block k (by simpa [Wb] using hkl) (fun h => h hk)]
        exact World.putObj_heap_other e
    | ret =>
      obtain ⟨ho, hi3⟩ := hp
      have hl3 := ho.heapOf hlb (fun h => h hk1)
      have hd3 := ho.heapOf hdb (fun h => h hk0)
      have hlt3 := lt_of_heap hl3
      exact ⟨_, _, run_endRound (P := P) (some .ret) hl3, .inr ⟨rfl, hIx _ _ _ hi3 (put _ (.inr rfl) W3 _), World.putObj_heap_same hlt3, (World.putObj_heap_other (by omega)).trans hd3⟩⟩
    | exit id => exact hp.elim
    | goto t => exact hp.elim
    | panic ch => exact hp.elim
    | outgrown => exact hp.elim
  · rintro e W2 ⟨⟨v, rfl⟩, ⟨hi, hl, hd⟩ | ⟨pre, hi, hl, hd⟩⟩
    · exact ⟨none, _, run_endLoop (P := P) hl (by simp [rec_]), hdone _ (hI _ _ _ hi (put _ (.inr rfl) W2 _)) ((World.putObj_heap_other (by omega)).trans hd)⟩
    · exact ⟨some .ret, _, run_endLoop (P := P) hl (by simp [rec_]), hstop pre _ (hIx _ _ _ hi (put _ (.inr rfl) W2 _)) ((World.putObj_heap_other (by omega)).trans hd)⟩
end Go.Proofs.YtnmhaipjfpongaaDoor
