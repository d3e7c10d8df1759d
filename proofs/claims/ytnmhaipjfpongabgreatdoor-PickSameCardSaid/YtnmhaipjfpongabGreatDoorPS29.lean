/- Texts of this seat laid together for one claim: I0, I1. No condition of its own: what each proves stands with its theorems. -/
import Derived.Test.YtnmhaipjfpongabGreatDoorPS28
import Derived.Test.YtnmhaipjfpongabGreatDoorPS7
import Derived.Test.YtnmhaipjfpongabGreatDoorPS19
namespace Go.Proofs.YtnmhaipjfpongabGreatDoor

abbrev Tld := B × Nat
def ruleOf (l : List Rule) (p : B) : Option Rule := l.find? fun r => r.out == p
def wMade (W : B → Tld) (r : Rule) : Tld := match r.ins.find? fun q => (W q).2 != 0 with
 | some q => W q
 | none => (runOut r.kind r.word (r.ins.map fun q => (W q).1), runCode r.kind r.word (r.ins.map fun q => (W q).1))
def wLeaf (T : FL) (p : B) : Tld := match T.lookup p with | some s => (s, 0) | none => ([], 6)
def wStep (l : List Rule) (T : FL) (W : B → Tld) (p : B) : Tld := match ruleOf l p with | none => wLeaf T p | some r => wMade W r

theorem made_bad {W : B → Tld} {r : Rule} {j : Nat} {q : B} (hq : r.ins[j]? = some q) (h : (W q).2 ≠ 0) (hb : ∀ x ∈ r.ins.take j, (W x).2 = 0) : wMade W r = W q := by
 have : r.ins.find? (fun q => (W q).2 != 0) = some q := by
  rw [List.find?_eq_some_iff_getElem]
  obtain ⟨h1, h2⟩ := List.getElem?_eq_some_iff.1 hq
  exact ⟨by simpa using h, j, h1, h2, fun i hi => by
   have := hb r.ins[i] (List.mem_take_iff_getElem.2 ⟨i, by omega, rfl⟩)
   rw [this]; decide⟩
 unfold wMade
 rw [this]
theorem made_ok {W : B → Tld} {r : Rule} (hb : ∀ x ∈ r.ins, (W x).2 = 0) : wMade W r = (runOut r.kind r.word (r.ins.map fun q => (W q).1), runCode r.kind r.word (r.ins.map fun q => (W q).1)) := by
 have : r.ins.find? (fun q => (W q).2 != 0) = none := List.find?_eq_none.2 fun x hx => by rw [hb x hx]; decide
 unfold wMade
 rw [this]

structure Asks (l : List Rule) (T : FL) (W : B → Tld) (D : B → Prop) (rk : B → Nat) : Prop where
 step : ∀ p, D p → W p = wStep l T W p
 down : ∀ p, D p → ∀ r, ruleOf l p = some r → ∀ q ∈ r.ins, D q ∧ rk q < rk p
 len : ∀ p, D p → (W p).1.length ≤ 2000
 code : ∀ p, D p → (W p).2 ≤ 12

theorem wMade_congr {W V : B → Tld} {r : Rule} (h : ∀ q ∈ r.ins, W q = V q) : wMade W r = wMade V r := by
 have h1 : r.ins.find? (fun q => (W q).2 != 0) = r.ins.find? (fun q => (V q).2 != 0) := by
  generalize r.ins = k at h
  induction k with
  | nil => rfl
  | cons x k ih => rw [List.find?_cons, List.find?_cons, h x (.head _), ih fun q hq => h q (.tail _ hq)]
 have h2 : r.ins.map (fun q => (W q).1) = r.ins.map (fun q => (V q).1) := List.map_congr_left fun q hq => by rw [h q hq]
 unfold wMade
 rw [h1, h2]
 cases hf : r.ins.find? (fun q => (V q).2 != 0) with
 | none => rfl
 | some q => exact h q (List.mem_of_find?_eq_some hf)

def wantF (l : List Rule) (T : FL) : Nat → B → Tld
 | 0, _ => ([], 0)
 | n + 1, p => wStep l T (wantF l T n) p
def wantW (l : List Rule) (T : FL) : B → Tld := wantF l T (l.length + 1)

structure Ranked (l : List Rule) (D : B → Prop) (rk : B → Nat) : Prop where
 down : ∀ p, D p → ∀ r, ruleOf l p = some r → ∀ q ∈ r.ins, D q ∧ rk q < rk p

theorem wantF_stable {l : List Rule} {T : FL} {D : B → Prop} {rk : B → Nat} (h : Ranked l D rk) : ∀ (n m : Nat) (p : B), D p → rk p < n → rk p < m → wantF l T n p = wantF l T m p
 | 0, _, _, _, h1, _ => by omega
 | _ + 1, 0, _, _, _, h2 => by omega
 | n + 1, m + 1, p, hd, h1, h2 => by
  unfold wantF wStep
  cases hr : ruleOf l p with
  | none => rfl
  | some r =>
   refine wMade_congr fun q hq => ?_
   obtain ⟨h3, h4⟩ := h.down p hd r hr q hq
   exact wantF_stable h n m q h3 (by omega) (by omega)

theorem runOut_le (a b : B) (l : List B) : (runOut a b l).length ≤ 2000 := by
 unfold runOut
 by_cases h : runCode a b l = 0
 ·rw [if_pos h]
  unfold runCode at h
  split at h
  ·split at h
   ·cases h
   ·omega
  ·rename_i h2; exact absurd h h2
 ·rw [if_neg h]; exact Nat.zero_le _
theorem runCode_le12 (a b : B) (l : List B) : runCode a b l ≤ 12 := by
 unfold runCode
 have := actCode_le a b l.length
 split
 ·split <;> omega
 ·exact this
theorem runOut_zero {a b : B} {l : List B} (h : runCode a b l ≠ 0) : runOut a b l = [] := if_neg h

structure TldOk (x : Tld) : Prop where
 len : x.1.length ≤ 2000
 code : x.2 ≤ 12
 zero : x.2 ≠ 0 → x.1 = []
theorem wStep_ok {l : List Rule} {T : FL} {W : B → Tld} (hT : ∀ p s, T.lookup p = some s → s.length ≤ 2000) (hW : ∀ q, TldOk (W q)) (p : B) : TldOk (wStep l T W p) := by
 unfold wStep
 cases hr : ruleOf l p with
 | none =>
  simp only [wLeaf]
  cases hl : T.lookup p with
  | none => exact ⟨by simp, by simp, fun _ => rfl⟩
  | some s => exact ⟨hT p s hl, by simp, fun h => absurd rfl h⟩
 | some r =>
  simp only [wMade]
  cases hf : r.ins.find? (fun q => (W q).2 != 0) with
  | none => exact ⟨runOut_le _ _ _, runCode_le12 _ _ _, runOut_zero⟩
  | some q => exact hW q
theorem wantF_ok {l : List Rule} {T : FL} (hT : ∀ p s, T.lookup p = some s → s.length ≤ 2000) : ∀ (n : Nat) (p : B), TldOk (wantF l T n p)
 | 0, _ => ⟨by simp [wantF], by simp [wantF], fun h => absurd rfl h⟩
 | n + 1, p => wStep_ok hT (wantF_ok hT n) p

theorem asks_want {l : List Rule} {T : FL} {D : B → Prop} {rk : B → Nat} (h : Ranked l D rk) (hb : ∀ p, D p → rk p ≤ l.length) (hT : ∀ p s, T.lookup p = some s → s.length ≤ 2000) : Asks l T (wantW l T) D rk :=
  ⟨fun p hd => by
    show wStep l T (wantF l T l.length) p = wStep l T (wantW l T) p
    unfold wStep
    cases hr : ruleOf l p with
    | none => rfl
    | some r =>
      refine wMade_congr fun q hq => ?_
      obtain ⟨h3, h4⟩ := h.down p hd r hr q hq
      have := hb p hd
      exact wantF_stable h _ _ q h3 (by omega) (by omega),
   h.down, fun p _ => (wantF_ok hT _ p).len, fun p _ => (wantF_ok hT _ p).code⟩

def rankO (l : List Rule) (o : List Nat) (p : B) : Nat := match l.findIdx? (fun r => r.out == p) with | none => 0 | some k => o.idxOf k + 1
def InO (l : List Rule) (o : List Nat) (p : B) : Prop := ∀ k, l.findIdx? (fun r => r.out == p) = some k → k ∈ o

theorem findI_some {l : List Rule} {p : B} {k : Nat} (h : l.findIdx? (fun r => r.out == p) = some k) : ∃ r, l[k]? = some r ∧ r.out = p ∧ ruleOf l p = some r := by
 rw [List.findIdx?_eq_some_iff_getElem] at h
 obtain ⟨h3, h4, h5⟩ := h
 refine ⟨l[k], List.getElem?_eq_getElem h3, beq_iff_eq.1 h4, ?_⟩
 unfold ruleOf
 rw [List.find?_eq_some_iff_getElem]
 exact ⟨h4, k, h3, rfl, fun j hj => by simpa using h5 j hj⟩
theorem ruleOf_idx {l : List Rule} {p : B} {r : Rule} (h : ruleOf l p = some r) : ∃ k, l.findIdx? (fun r => r.out == p) = some k ∧ l[k]? = some r := by
 cases hf : l.findIdx? (fun r => r.out == p) with
 | none =>
  rw [List.findIdx?_eq_none_iff] at hf
  unfold ruleOf at h
  have h1 := List.find?_some h
  have h2 := hf r (List.mem_of_find?_eq_some h)
  rw [h2] at h1
  cases h1
 | some k =>
  obtain ⟨r', h1, _, h3⟩ := findI_some hf
  rw [h] at h3
  cases h3
  exact ⟨k, rfl, h1⟩

theorem ranked_order {l : List Rule} {is : Nat → Bool} {o : List Nat} (hO : Ordered l.length (needB l) is o) : Ranked l (InO l o) (rankO l o) ∧ ∀ p, InO l o p → rankO l o p ≤ l.length := by
 have key : ∀ k, k ∈ o → o.idxOf k < o.length := fun k hk => List.idxOf_lt_length_of_mem hk
 refine ⟨⟨fun p hp r hr q hq => ?_⟩, fun p hp => ?_⟩
 ·obtain ⟨k, hk, hkr⟩ := ruleOf_idx hr
  have hko := hp k hk
  have hj := key k hko
  have hat : o[o.idxOf k]? = some k := by rw [List.getElem?_eq_getElem hj, List.getElem_idxOf]
  have hneed := hO.need _ _ hat
  have hrp : rankO l o p = o.idxOf k + 1 := by unfold rankO; rw [hk]
  have hq2 : ∀ k', l.findIdx? (fun r => r.out == q) = some k' → k' ∈ o.take (o.idxOf k) := fun k' hk' => by
   obtain ⟨r', h1, h2, _⟩ := findI_some hk'
   refine hneed k' (List.getElem?_eq_some_iff.1 h1).1 ?_
   unfold needB
   rw [hkr, h1]
   simp only [h2]
   simpa using hq
  refine ⟨fun k' hk' => List.mem_of_mem_take (hq2 k' hk'), ?_⟩
  rw [hrp]
  unfold rankO
  cases hf : l.findIdx? (fun r => r.out == q) with
  | none => exact Nat.succ_pos _
  | some k' =>
   have := hq2 k' hf
   obtain ⟨t, ht, he⟩ := List.mem_take_iff_getElem.1 this
   have hlt : o.idxOf k' ≤ t := by
    have hnd := hO.nodup
    have h6 : o.idxOf k' = t := by rw [← he]; exact hnd.idxOf_getElem t (by omega)
    omega
   simp only
   omega
 ·have hl := hO.len
  have hm := manyB_le l.length is
  unfold rankO
  cases hf : l.findIdx? (fun r => r.out == p) with
  | none => exact Nat.zero_le _
  | some k => have := key k (hp k hf); simp only; omega
end Go.Proofs.YtnmhaipjfpongabGreatDoor

namespace Go.Proofs.YtnmhaipjfpongabGreatDoor
open Go.ChangeShapes Go.WideShapes Go.ChangeAt Go.RowKit

abbrev tEnc (P : Nat → Addr) (x : Tld) : Value := .agg #[S x.1, errC P x.2]

structure AskAt (w0 w : World) (P : Nat → Addr) (ab tb kb : Nat) (lv : Value) (L : List (B × Tld)) : Prop where
 ext : Ext w0 w
 cells : w.heap[ab]? = some (.cells #[.pointer (some ⟨tb, 0, none⟩), lv, .map (some kb)] 180 (0, 0))
 map : KMap .string S (tEnc P) w kb L
 lo : w0.heap.size ≤ ab ∧ w0.heap.size ≤ kb ∧ ab ≠ kb
theorem AskAt.later {w0 w w' : World} {P : Nat → Addr} {ab tb kb : Nat} {lv : Value} {L : List (B × Tld)} {p : Nat → Prop} (h : AskAt w0 w P ab tb kb lv L) (ho : Only p w w') (hp : ∀ b, p b → w0.heap.size ≤ b ∧ b ≠ ab ∧ b ≠ kb) : AskAt w0 w' P ab tb kb lv L :=
 ⟨h.ext.trans ho (fun _ _ h => h) (fun i hi e => by have := (hp i e).1; omega), ho.heapOf h.cells (fun e => (hp _ e).2.1 rfl), h.map.later ho (fun e => (hp _ e).2.2 rfl), h.lo⟩
theorem AskAt.grow {w0 w w' : World} {P : Nat → Addr} {ab tb kb : Nat} {lv : Value} {L : List (B × Tld)} (h : AskAt w0 w P ab tb kb lv L) (ho : Ext w w') : AskAt w0 w' P ab tb kb lv L := h.later ho (fun _ h => h.elim)

def Knows (W : B → Tld) (L : List (B × Tld)) : Prop := ∀ p x, L.lookup p = some x → x = W p

end Go.Proofs.YtnmhaipjfpongabGreatDoor
