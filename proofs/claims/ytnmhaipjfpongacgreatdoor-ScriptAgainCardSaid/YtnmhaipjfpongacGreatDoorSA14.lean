/- Texts of this seat laid together for one claim: G0. No condition of its own: what each proves stands with its theorems. -/
import Derived.Test.YtnmhaipjfpongacGreatDoorSA12
namespace Go.Proofs.YtnmhaipjfpongacGreatDoor

def needB (l : List Rule) (i k : Nat) : Bool := match l[i]?, l[k]? with
 | some r, some q => r.ins.contains q.out
 | _, _ => false

theorem needB_lt {l : List Rule} {i k : Nat} (h : needB l i k = true) : i < l.length ∧ k < l.length := by
 unfold needB at h
 split at h
 ·rename_i r q h1 h2
  exact ⟨(List.getElem?_eq_some_iff.1 h1).1, (List.getElem?_eq_some_iff.1 h2).1⟩
 ·cases h

def edgeB (n : Nat) (nd : Nat → Nat → Bool) (i : Nat) : List Nat := (List.range n).filter (nd i)
theorem mem_edge {n : Nat} {nd : Nat → Nat → Bool} {i j : Nat} : j ∈ edgeB n nd i ↔ j < n ∧ nd i j = true := by
 unfold edgeB
 rw [List.mem_filter, List.mem_range]

def freeB (n : Nat) (nd : Nat → Nat → Bool) (is : Nat → Bool) (done : List Nat) (i : Nat) : Bool := is i && !done.contains i && !(edgeB n nd i).any fun j => !done.contains j
def nextB (n : Nat) (nd : Nat → Nat → Bool) (is : Nat → Bool) (done : List Nat) : Option Nat := (List.range n).find? (freeB n nd is done)
def manyB (n : Nat) (is : Nat → Bool) : Nat := ((List.range n).filter is).length

def orderGo (n : Nat) (nd : Nat → Nat → Bool) (is : Nat → Bool) : Nat → List Nat → Option (List Nat)
 | 0, out => if out.length < manyB n is then none else some out
 | f + 1, out => if out.length < manyB n is then match nextB n nd is out with
   | none => none
   | some k => orderGo n nd is f (out ++ [k])
  else some out
def orderB (n : Nat) (nd : Nat → Nat → Bool) (is : Nat → Bool) : Option (List Nat) := orderGo n nd is n []

structure Ordered (n : Nat) (nd : Nat → Nat → Bool) (is : Nat → Bool) (out : List Nat) : Prop where
 nodup : out.Nodup
 lt : ∀ i ∈ out, i < n
 is : ∀ i ∈ out, is i = true
 need : ∀ (j : Nat) i, out[j]? = some i → ∀ k < n, nd i k = true → k ∈ out.take j

theorem Ordered.nil (n : Nat) (nd : Nat → Nat → Bool) (is : Nat → Bool) : Ordered n nd is [] := ⟨List.nodup_nil, by simp, by simp, by simp⟩
theorem Ordered.len {n : Nat} {nd : Nat → Nat → Bool} {is : Nat → Bool} {out : List Nat} (h : Ordered n nd is out) : out.length ≤ manyB n is :=
 nodup_len h.nodup (fun i hi => List.mem_filter.2 ⟨List.mem_range.2 (h.lt i hi), h.is i hi⟩)

theorem nextB_some {n : Nat} {nd : Nat → Nat → Bool} {is : Nat → Bool} {out : List Nat} {k : Nat} (h : nextB n nd is out = some k) : k < n ∧ is k = true ∧ k ∉ out ∧ ∀ j < n, nd k j = true → j ∈ out := by
 have h1 := List.find?_some h
 have h2 := List.mem_of_find?_eq_some h
 unfold freeB at h1
 rw [Bool.and_eq_true, Bool.and_eq_true, Bool.not_eq_true', Bool.not_eq_true', List.any_eq_false] at h1
 obtain ⟨⟨a, b⟩, c⟩ := h1
 refine ⟨List.mem_range.1 h2, a, fun hm => ?_, fun j hj hn => ?_⟩
 ·rw [List.contains_eq_mem, decide_eq_true hm] at b; cases b
 ·have := c j (mem_edge.2 ⟨hj, hn⟩)
  rw [Bool.not_eq_true', Bool.not_eq_false, List.contains_eq_mem] at this
  exact of_decide_eq_true this

theorem Ordered.next {n : Nat} {nd : Nat → Nat → Bool} {is : Nat → Bool} {out : List Nat} {k : Nat} (h : Ordered n nd is out) (hk : nextB n nd is out = some k) : Ordered n nd is (out ++ [k]) := by
 obtain ⟨h1, h2, h3, h4⟩ := nextB_some hk
 refine ⟨?_, ?_, ?_, ?_⟩
 ·rw [List.nodup_append]
  refine ⟨h.nodup, by simp, fun a ha b hb e => ?_⟩
  rw [List.mem_singleton] at hb
  subst hb; subst e
  exact h3 ha
 ·intro i hi
  rcases List.mem_append.1 hi with hi | hi
  ·exact h.lt i hi
  ·rw [List.mem_singleton.1 hi]; exact h1
 ·intro i hi
  rcases List.mem_append.1 hi with hi | hi
  ·exact h.is i hi
  ·rw [List.mem_singleton.1 hi]; exact h2
 ·intro j i hj m hm hn
  by_cases hlt : j < out.length
  ·rw [List.getElem?_append_left hlt] at hj
   rw [List.take_append_of_le_length (by omega)]
   exact h.need j i hj m hm hn
  ·rw [List.getElem?_append_right (by omega)] at hj
   have hj0 : j - out.length = 0 := by
    have := (List.getElem?_eq_some_iff.1 hj).1
    simp at this; omega
   rw [hj0] at hj
   cases hj
   rw [show j = out.length by omega, List.take_left]
   exact h4 m hm hn

theorem orderGo_some {n : Nat} {nd : Nat → Nat → Bool} {is : Nat → Bool} : ∀ {f : Nat} {out o : List Nat}, Ordered n nd is out → orderGo n nd is f out = some o → Ordered n nd is o ∧ o.length = manyB n is
 | 0, out, o, h, e => by
  unfold orderGo at e
  split at e
  ·cases e
  ·cases e; exact ⟨h, Nat.le_antisymm h.len (by omega)⟩
 | f + 1, out, o, h, e => by
  unfold orderGo at e
  split at e
  ·split at e
   ·cases e
   ·rename_i k hk
    exact orderGo_some (h.next hk) e
  ·cases e; exact ⟨h, Nat.le_antisymm h.len (by omega)⟩

theorem orderGo_none {n : Nat} {nd : Nat → Nat → Bool} {is : Nat → Bool} : ∀ {f : Nat} {out : List Nat}, Ordered n nd is out → manyB n is ≤ out.length + f → orderGo n nd is f out = none → ∃ o, Ordered n nd is o ∧ o.length < manyB n is ∧ nextB n nd is o = none
 | 0, out, h, hf, e => by
  unfold orderGo at e
  split at e
  ·omega
  ·cases e
 | f + 1, out, h, hf, e => by
  unfold orderGo at e
  split at e
  ·rename_i hlt
   split at e
   ·rename_i hn; exact ⟨out, h, hlt, hn⟩
   ·rename_i k hk
    exact orderGo_none (h.next hk) (by rw [List.length_append]; simp; omega) e
  ·cases e

theorem manyB_le (n : Nat) (is : Nat → Bool) : manyB n is ≤ n := by
 unfold manyB
 have := List.length_filter_le is (List.range n)
 rw [List.length_range] at this
 exact this

theorem orderB_some {n : Nat} {nd : Nat → Nat → Bool} {is : Nat → Bool} {o : List Nat} (h : orderB n nd is = some o) : Ordered n nd is o ∧ o.length = manyB n is := orderGo_some (Ordered.nil n nd is) h
theorem orderB_none {n : Nat} {nd : Nat → Nat → Bool} {is : Nat → Bool} (h : orderB n nd is = none) : ∃ o, Ordered n nd is o ∧ o.length < manyB n is ∧ nextB n nd is o = none :=
 orderGo_none (Ordered.nil n nd is) (by have := manyB_le n is; simp; omega) h

def Way (nd : Nat → Nat → Bool) (tg : Nat) : Nat → Nat → Prop
 | 0, i => i = tg
 | s + 1, i => ∃ j, nd i j = true ∧ Way nd tg s j

theorem Ordered.no_way {n : Nat} {nd : Nat → Nat → Bool} {is : Nat → Bool} {o : List Nat} (h : Ordered n nd is o) (hnd : ∀ i j, nd i j = true → j < n) : ∀ {s i j : Nat} {tg : Nat}, o[j]? = some i → 1 ≤ s → Way nd tg s i → ∃ j', j' < j ∧ o[j']? = some tg
 | 0, _, _, _, _, h1, _ => by omega
 | s + 1, i, j, tg, hj, _, ⟨k, hk, hw⟩ => by
  have hm := h.need j i hj k (hnd i k hk) hk
  obtain ⟨j1, hj1⟩ := List.getElem?_of_mem hm
  rw [List.getElem?_take] at hj1
  split at hj1
  ·rename_i hlt
   cases s with
   | zero =>
    have : k = tg := hw
    subst this
    exact ⟨j1, hlt, hj1⟩
   | succ s =>
    obtain ⟨j2, h2, h3⟩ := h.no_way hnd (s := s + 1) hj1 (by omega) hw
    exact ⟨j2, by omega, h3⟩
  ·cases hj1

theorem Ordered.no_circle {n : Nat} {nd : Nat → Nat → Bool} {is : Nat → Bool} {o : List Nat} (h : Ordered n nd is o) (hnd : ∀ i j, nd i j = true → j < n) {s i : Nat} (hi : i ∈ o) (hs : 1 ≤ s) : ¬ Way nd i s i := by
 intro hw
 obtain ⟨j, hj⟩ := List.getElem?_of_mem hi
 obtain ⟨j', h1, h2⟩ := h.no_way hnd hj hs hw
 have := nodup_inj h.nodup hj h2
 omega

theorem circle_of {n : Nat} {nd : Nat → Nat → Bool} {p : Nat → Prop} (hn : ∀ i, p i → i < n) (hs : ∀ i, p i → ∃ j, nd i j = true ∧ p j) {a : Nat} (ha : p a) : ∃ i s, p i ∧ 1 ≤ s ∧ Way nd i s i := by
 classical
 -- the walk from a
 let nx : {i // p i} → {i // p i} := fun x => ⟨(hs x.1 x.2).choose, (hs x.1 x.2).choose_spec.2⟩
 let f : Nat → {i // p i} := fun k => Nat.rec ⟨a, ha⟩ (fun _ x => nx x) k
 have hf : ∀ k, nd (f k).1 (f (k + 1)).1 = true := fun k => (hs (f k).1 (f k).2).choose_spec.1
 have hway : ∀ s k, Way nd (f (k + s)).1 s (f k).1 := by
  intro s
  induction s with
  | zero => intro k; rfl
  | succ s ih =>
   intro k
   refine ⟨(f (k + 1)).1, hf k, ?_⟩
   have := ih (k + 1)
   rwa [show k + 1 + s = k + (s + 1) by omega] at this
 -- two of the first n + 1 are one
 have hdup : ∃ i j, i < j ∧ (f i).1 = (f j).1 := by
  by_cases h : ∃ i j, i < j ∧ (f i).1 = (f j).1
  ·exact h
  ·exfalso
   have hnd : ((List.range (n + 1)).map fun k => (f k).1).Nodup := by
    rw [List.nodup_iff_pairwise_ne, List.pairwise_map]
    refine List.Pairwise.imp_of_mem ?_ (List.pairwise_lt_range (n := n + 1))
    intro x y _ _ hxy e
    exact h ⟨x, y, hxy, e⟩
   have hsub : ∀ x ∈ ((List.range (n + 1)).map fun k => (f k).1), x ∈ List.range n := by
    intro x hx
    obtain ⟨k, _, rfl⟩ := List.mem_map.1 hx
    exact List.mem_range.2 (hn _ (f k).2)
   have := nodup_len hnd hsub
   simp at this
   omega
 obtain ⟨i, j, hij, e⟩ := hdup
 refine ⟨(f i).1, j - i, (f i).2, by omega, ?_⟩
 have := hway (j - i) i
 rw [show i + (j - i) = j by omega, ← e] at this
 exact this

theorem orderB_circle {n : Nat} {nd : Nat → Nat → Bool} {is : Nat → Bool} (h : orderB n nd is = none) (hcl : ∀ i j, i < n → is i = true → nd i j = true → j < n ∧ is j = true) : ∃ i s, i < n ∧ is i = true ∧ 1 ≤ s ∧ Way nd i s i := by
 obtain ⟨o, ho, hlen, hnx⟩ := orderB_none h
 -- one is left
 have hleft : ∃ a, a < n ∧ is a = true ∧ a ∉ o := by
  by_cases hx : ∃ a, a < n ∧ is a = true ∧ a ∉ o
  ·exact hx
  ·exfalso
   have hsub : ∀ a ∈ (List.range n).filter is, a ∈ o := by
    intro a ha
    rw [List.mem_filter, List.mem_range] at ha
    exact Classical.byContradiction fun hn => hx ⟨a, ha.1, ha.2, hn⟩
   have hnd2 : ((List.range n).filter is).Nodup := List.nodup_range.filter _
   have := nodup_len hnd2 hsub
   unfold manyB at hlen
   omega
 obtain ⟨a, h1, h2, h3⟩ := hleft
 have hs : ∀ i, (i < n ∧ is i = true ∧ i ∉ o) → ∃ j, nd i j = true ∧ (j < n ∧ is j = true ∧ j ∉ o) := by
  rintro i ⟨hi, hii, hio⟩
  unfold nextB at hnx
  rw [List.find?_eq_none] at hnx
  have := hnx i (List.mem_range.2 hi)
  unfold freeB at this
  have hc : o.contains i = false := by rw [List.contains_eq_mem]; exact decide_eq_false hio
  rw [hii, hc] at this
  simp only [Bool.not_false, Bool.true_and, Bool.and_true, Bool.not_eq_true', Bool.not_eq_false] at this
  obtain ⟨j, hj, hjo⟩ := List.any_eq_true.1 this
  obtain ⟨hjn, hnj⟩ := mem_edge.1 hj
  refine ⟨j, hnj, hjn, (hcl i j hi hii hnj).2, fun hm => ?_⟩
  rw [List.contains_eq_mem, decide_eq_true hm] at hjo
  cases hjo
 obtain ⟨i, s, ⟨x1, x2, _⟩, h5, h6⟩ := circle_of (n := n) (nd := nd) (p := fun i => i < n ∧ is i = true ∧ i ∉ o) (fun i h => h.1) hs ⟨h1, h2, h3⟩
 exact ⟨i, s, x1, x2, h5, h6⟩

end Go.Proofs.YtnmhaipjfpongacGreatDoor
