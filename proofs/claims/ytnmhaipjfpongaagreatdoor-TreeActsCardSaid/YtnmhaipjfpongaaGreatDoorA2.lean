/- Ground words of the proofs of this seat, of no program: slices of structs as lists, and 'append' of one struct to a row that the call owns. No condition. -/
import Derived.Test.YtnmhaipjfpongaaGreatDoorA0
import Derived.Deep.AppendLies
import Derived.OwnWalk
namespace Go.Proofs.YtnmhaipjfpongaaGreatDoor
open Go.ChangeShapes Go.WideShapes Go.ChangeAt Go.RowKit

/-- A slice whose elements are n cells each. -/
def RdS {α : Type} (n : Nat) (enc : α → List Value) (w : World) (v : Value) (l : List α) : Prop :=
  ∃ a cap, v = .slice a l.length cap ∧ l.length ≤ cap ∧ cap ≤ maxLen ∧ (l ≠ [] → ∃ b off, a = some ⟨b, off, none⟩ ∧ ∀ i x, l[i]? = some x → ∀ j u, (enc x)[j]? = some u → w.cell? ⟨b, off + i * n + j, none⟩ = some u)

theorem RdS.nil {α : Type} (n : Nat) (enc : α → List Value) (w : World) : RdS n enc w (.slice none 0 0) [] := ⟨none, 0, rfl, Nat.le_refl _, Nat.zero_le _, fun h => absurd rfl h⟩

theorem flat_len {α : Type} {enc : α → List Value} {n : Nat} (hn : ∀ x, (enc x).length = n) : ∀ l : List α, (l.flatMap enc).length = l.length * n
  | [] => by simp
  | y :: l => by rw [List.flatMap_cons, List.length_append, hn, flat_len hn l, List.length_cons, Nat.succ_mul, Nat.add_comm]

theorem flat_at {α : Type} {enc : α → List Value} {n : Nat} (hn : ∀ x, (enc x).length = n) : ∀ (l : List α) (i : Nat) (x : α), l[i]? = some x → ∀ j u, (enc x)[j]? = some u → (l.flatMap enc)[i * n + j]? = some u
  | [], i, x, h, _, _, _ => by simp at h
  | y :: l, 0, x, h, j, u, hu => by
    have hy : y = x := by simpa using h
    subst hy
    have hj : j < (enc y).length := (List.getElem?_eq_some_iff.1 hu).1
    rw [List.flatMap_cons, Nat.zero_mul, Nat.zero_add, List.getElem?_append_left hj, hu]
  | y :: l, i + 1, x, h, j, u, hu => by
    have h' : l[i]? = some x := by simpa using h
    have := flat_at hn l i x h' j u hu
    have e : (i + 1) * n + j - (enc y).length = i * n + j := by rw [hn, Nat.succ_mul]; omega
    rw [List.flatMap_cons, List.getElem?_append_right (by rw [hn, Nat.succ_mul]; omega), e, this]

theorem RdS.of_row {α : Type} {n : Nat} {enc : α → List Value} (hn : ∀ x, (enc x).length = n) {w : World} {base : Nat} {e : TypeId} {v : Value} {l : List α} (h : w.ownsRow base e n v l.length (l.flatMap enc)) : RdS n enc w v l := by
  obtain ⟨h1, h2⟩ := h
  rcases h2 with ⟨rfl, h2⟩ | ⟨g, cap, cur, rfl, hg, hh, hc, hm, hs, ht⟩
  · exact ⟨none, 0, by rw [h2], by omega, Nat.zero_le _, fun h => absurd (List.length_eq_zero_iff.1 h2) h⟩
  · refine ⟨_, cap, rfl, hc, hm, fun _ => ⟨g, 0, rfl, fun i x hx j u hu => ?_⟩⟩
    have hf := flat_at hn l i x hx j u hu
    have hlt := (List.getElem?_eq_some_iff.1 hf).1
    rw [h1] at hlt
    have hcell : cur[i * n + j]? = (cur.toList.take (l.length * n))[i * n + j]? := by rw [List.getElem?_take_of_lt hlt]; simp
    rw [ht, hf] at hcell
    rw [Nat.zero_add]
    simp [World.cell?, hh, hcell]

theorem RdS.later {α : Type} {n : Nat} {enc : α → List Value} {w w' : World} {v : Value} {l : List α} (h : RdS n enc w v l) {p : Nat → Prop} (ho : Only p w w') (hp : ∀ k, v.ownBlock = some k → ¬ p k) : RdS n enc w' v l := by
  obtain ⟨a, cap, rfl, h1, h2, h3⟩ := h
  refine ⟨a, cap, rfl, h1, h2, fun hl => ?_⟩
  obtain ⟨b, off, rfl, hc⟩ := h3 hl
  exact ⟨b, off, rfl, fun i x hx j u hu => ho.cellOf (hc i x hx j u hu) (hp b rfl)⟩

theorem RdS.ext {α : Type} {n : Nat} {enc : α → List Value} {w w' : World} {v : Value} {l : List α} (h : RdS n enc w v l) (ho : Ext w w') : RdS n enc w' v l := h.later ho fun _ _ h => h

/-- 's[1:]'. -/
theorem RdS.tail {α : Type} {n : Nat} {enc : α → List Value} {w : World} {b off cap : Nat} {x : α} {l : List α} (h : RdS n enc w (.slice (some ⟨b, off, none⟩) (l.length + 1) cap) (x :: l)) (b' off' : Nat) (hb : l ≠ [] → b' = b ∧ off' = off + n) : RdS n enc w (.slice (some ⟨b', off', none⟩) l.length (cap - 1)) l := by
  obtain ⟨a, cap', hv, h1, h2, h3⟩ := h
  cases hv
  refine ⟨_, _, rfl, by simp at h1; omega, by omega, fun hl => ?_⟩
  obtain ⟨b0, off0, he, hc⟩ := h3 (by simp)
  cases he
  obtain ⟨rfl, rfl⟩ := hb hl
  refine ⟨_, _, rfl, fun i y hy j u hu => ?_⟩
  have := hc (i + 1) y (by simpa using hy) j u hu
  rw [Nat.succ_mul] at this
  rw [show off + n + i * n + j = off + (i * n + n) + j by omega]
  exact this

theorem cells_new (W : World) (cs : Array Value) (e : TypeId) : ∀ j u, cs.toList[j]? = some u → (W.alloc (.cells cs e (0, 0))).cell? ((⟨W.heap.size, 0, none⟩ : Addr).add j) = some u :=
  World.news_of_block (MapKept.heap_alloc W (.cells cs e (0, 0))).1

/-- 'append(l, x)' at a slice of structs, the row the call's own. -/
theorem wpList_appS {P : Program} {α : Type} (enc : α → List Value) (t e : TypeId) (n by_ : Nat) (z : Value) (hinfo : (P.info? e).map (fun i => (i.zero, i.size, i.bytes)) = some (some z, n, by_)) (ht : P.underlying t = some (.slice e)) (hzs : z.cells.size = n) (hn0 : 0 < n)
    (hlen : ∀ x, (enc x).length = n) (h1c : ∀ x, ∀ u ∈ enc x, u.oneCell' = true) (hby : by_ ≤ 1000)
    {ops : Array Oper} {rest : List Oper} {o : Oper} {a : Act} {Q : Exit → Act → World → Prop} (s x : Operand) (base : Nat) (v : Value) (l : List α) (k : α) (W : World) (cs : Array Value) (hcs : cs.toList = enc k) (hgd : o.guard = none)
    (ho : o.op = .call { callee := .builtin .append, args := #[s, x], argTypes := #[t, t] }) (hs : a.eval s = v) (hx : a.eval x = .slice (some ⟨W.heap.size, 0, none⟩) 1 1)
    (hrow : W.ownsRow base e n v l.length (l.flatMap enc)) (hl : l.length ≤ 1000000) (hbase : base ≤ W.heap.size)
    (hK : ∀ g cap w', w'.ownsRow base e n (.slice (some ⟨g, 0, none⟩) (l.length + 1) cap) (l.length + 1) ((l ++ [k]).flatMap enc) → W.grownBy w' v.ownBlock → (∀ i, Value.ownBlock (.slice (some ⟨g, 0, none⟩) (l.length + 1) cap) = some i → v.ownBlock = some i ∨ W.heap.size ≤ i) →
      wpList P ops Q rest (a.put o.dst (.slice (some ⟨g, 0, none⟩) (l.length + 1) cap)) w') :
    wpList P ops Q (o :: rest) a (W.alloc (.cells cs e (0, 0))) := by
  obtain ⟨i0, hi, hz0, hz1, hz2⟩ := info_parts hinfo
  have hb : (l.length + 1) * by_ ≤ 1000001 * 1000 := Nat.mul_le_mul (by omega) hby
  refine wpList_append_lies _ hgd s x t ho base e i0 z n by_ ht hi hz0 hz1 hz2 hzs hn0 v l.length (l.flatMap enc) hs (hrow.alloc _) ⟨W.heap.size, 0, none⟩ 1 1 (enc k) hx (by rw [hlen, Nat.one_mul])
    (fun j u hu => cells_new W cs e j u (by rw [hcs]; exact hu)) (h1c k) (by decide) ?_ ?_ ?_ (W.heap.size + 1) (by simp) ?_
  · unfold maxLen; omega
  · omega
  · simp; omega
  · intro g cap w' hown hg hat hlt
    refine hK g cap w' (by simpa using hown) ?_ ?_
    · exact ((Only.alloc (fun i => v.ownBlock = some i) W _).then (Only.of_grown hg)).grown
    · intro i e
      cases e
      rcases hat with h | h
      · exact .inl h
      · exact .inr (by rw [h]; exact Nat.le_succ _)
end Go.Proofs.YtnmhaipjfpongaaGreatDoor
