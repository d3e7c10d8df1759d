/- Rules: plain words, and how rules lie in memory. No condition. -/
import Derived.Test.YtnmhaipjfpongacGreatDoorGj
namespace Go.Proofs.YtnmhaipjfpongacGreatDoor
open Go.ChangeShapes Go.WideShapes Go.ChangeAt Go.RowKit

theorem nodup_len {α : Type} [DecidableEq α] : ∀ {a b : List α}, a.Nodup → (∀ x ∈ a, x ∈ b) → a.length ≤ b.length
  | [], _, _, _ => Nat.zero_le _
  | x :: a, b, h, hs => by
    rw [List.nodup_cons] at h
    have hx := hs x (.head _)
    have := nodup_len (a := a) (b := b.erase x) h.2 (fun y hy => (List.mem_erase_of_ne (fun (e : y = x) => h.1 (e ▸ hy))).2 (hs y (.tail _ hy)))
    rw [List.length_erase_of_mem hx] at this
    have := List.length_pos_of_mem hx
    rw [List.length_cons]
    omega
theorem nodup_inj {α : Type} {l : List α} (h : l.Nodup) {i j : Nat} {x : α} (hi : l[i]? = some x) (hj : l[j]? = some x) : i = j := by
  obtain ⟨a, ha⟩ := List.getElem?_eq_some_iff.1 hi
  obtain ⟨b, hb⟩ := List.getElem?_eq_some_iff.1 hj
  rcases Nat.lt_trichotomy i j with e | e | e
  · exact absurd (ha.trans hb.symm) (List.pairwise_iff_getElem.1 h i j a b e)
  · exact e
  · exact absurd (hb.trans ha.symm) (List.pairwise_iff_getElem.1 h j i b a e)


structure Rule where
  out : B
  kind : B
  word : B
  ins : List B

/-- How long a rule's texts are. -/
structure RuleSm (n : Nat) (r : Rule) : Prop where
  out : r.out.length ≤ n
  kind : r.kind.length ≤ n
  word : r.word.length ≤ n
  many : r.ins.length ≤ n
  ins : ∀ s ∈ r.ins, s.length ≤ n

def ruleCode (r : Rule) : Nat :=
  if pathOk r.out = false then 4
  else if actCode r.kind r.word r.ins.length ≠ 0 then actCode r.kind r.word r.ins.length
  else if r.ins.all pathOk = false then 4
  else if r.out ∈ r.ins ∨ ¬ r.ins.Nodup then 7 else 0

/-- An error and its place (-1: none). -/
def sheetGo (seen : List B) (i : Nat) : List Rule → Nat × Int
  | [] => (0, -1)
  | r :: l => if ruleCode r ≠ 0 then (ruleCode r, (i : Int)) else if r.out ∈ seen then (7, (i : Int)) else sheetGo (seen ++ [r.out]) (i + 1) l
def sheetFault (l : List Rule) : Nat × Int := if 40 < l.length then (2, -1) else sheetGo [] 0 l

theorem actCode_le (a b : B) (n : Nat) : actCode a b n ≤ 12 := by
  unfold actCode
  split
  · omega
  · split
    · omega
    · split <;> omega
theorem ruleCode_le (r : Rule) : ruleCode r ≤ 12 := by
  unfold ruleCode
  have := actCode_le r.kind r.word r.ins.length
  repeat' split
  all_goals omega

/-- A sheet that is right. -/
def RightS (l : List Rule) : Prop := l.length ≤ 40 ∧ (∀ r ∈ l, ruleCode r = 0) ∧ (l.map Rule.out).Nodup

theorem sheetGo_ok : ∀ (l : List Rule) (seen : List B) (i : Nat), (sheetGo seen i l).1 = 0 ↔ (∀ r ∈ l, ruleCode r = 0) ∧ (l.map Rule.out).Nodup ∧ ∀ r ∈ l, r.out ∉ seen
  | [], _, _ => by simp [sheetGo]
  | r :: l, seen, i => by
    unfold sheetGo
    by_cases h1 : ruleCode r = 0
    · rw [if_neg (by simpa using h1)]
      by_cases h2 : r.out ∈ seen
      · rw [if_pos h2]
        simp [h2]
      · rw [if_neg h2, sheetGo_ok l (seen ++ [r.out]) (i + 1)]
        simp only [List.mem_cons, forall_eq_or_imp, h1, true_and, List.map_cons, List.nodup_cons, List.mem_append, List.not_mem_nil, or_false, not_or]
        constructor
        · rintro ⟨a, b, c⟩
          refine ⟨a, ⟨fun h => ?_, b⟩, h2, fun x hx => (c x hx).1⟩
          obtain ⟨x, hx, e⟩ := List.mem_map.1 h
          exact (c x hx).2 e
        · rintro ⟨a, ⟨b, c⟩, _, d⟩
          exact ⟨a, c, fun x hx => ⟨d x hx, fun e => b (List.mem_map.2 ⟨x, hx, e⟩)⟩⟩
    · rw [if_pos h1]
      simp [h1]

theorem sheet_ok {l : List Rule} : (sheetFault l).1 = 0 ↔ RightS l := by
  unfold sheetFault RightS
  by_cases h : 40 < l.length
  · rw [if_pos h]
    simp
    omega
  · rw [if_neg h, sheetGo_ok]
    simp
    omega

theorem sheetGo_zero : ∀ (l : List Rule) (seen : List B) (i : Nat), (sheetGo seen i l).1 = 0 → (sheetGo seen i l).2 = -1
  | [], _, _, _ => rfl
  | r :: l, seen, i, h => by
    unfold sheetGo at h ⊢
    by_cases h1 : ruleCode r ≠ 0
    · rw [if_pos h1] at h; exact absurd h h1
    · rw [if_neg h1] at h ⊢
      by_cases h2 : r.out ∈ seen
      · rw [if_pos h2] at h; cases h
      · rw [if_neg h2] at h ⊢; exact sheetGo_zero l _ _ h
theorem sheet_zero {l : List Rule} (h : (sheetFault l).1 = 0) : sheetFault l = (0, -1) := by
  have : (sheetFault l).2 = -1 := by
    unfold sheetFault at h ⊢
    by_cases h1 : 40 < l.length
    · rw [if_pos h1]
    · rw [if_neg h1] at h ⊢; exact sheetGo_zero _ _ _ h
  exact Prod.ext h this

/-! ### rules in memory -/
def RdR (w : World) (v : Value) (l : List Rule) : Prop :=
  ∃ a cap, v = .slice a l.length cap ∧ l.length ≤ cap ∧ cap ≤ maxLen ∧ (l ≠ [] → ∃ b off, a = some ⟨b, off, none⟩ ∧
    ∀ (i : Nat) r, l[i]? = some r → ∃ u, Rd S w u r.ins ∧ w.cell? ⟨b, off + i * 4, none⟩ = some (S r.out) ∧ w.cell? ⟨b, off + i * 4 + 1, none⟩ = some (S r.kind) ∧ w.cell? ⟨b, off + i * 4 + 2, none⟩ = some (S r.word) ∧ w.cell? ⟨b, off + i * 4 + 3, none⟩ = some u)

theorem RdR.nil (w : World) : RdR w (.slice none 0 0) [] := ⟨none, 0, rfl, Nat.le_refl _, Nat.zero_le _, fun h => absurd rfl h⟩
theorem RdR.ext {w w' : World} {v : Value} {l : List Rule} (h : RdR w v l) (ho : Ext w w') : RdR w' v l := by
  obtain ⟨a, cap, h1, h2, h3, h4⟩ := h
  refine ⟨a, cap, h1, h2, h3, fun hl => ?_⟩
  obtain ⟨b, off, h5, h6⟩ := h4 hl
  refine ⟨b, off, h5, fun i r hr => ?_⟩
  obtain ⟨u, c, c0, c1, c2, c3⟩ := h6 i r hr
  exact ⟨u, c.ext ho, ho.cellOf c0 (fun h => h), ho.cellOf c1 (fun h => h), ho.cellOf c2 (fun h => h), ho.cellOf c3 (fun h => h)⟩

/-- The first so many. -/
theorem RdR.take {w : World} {a : Option Addr} {cap : Nat} {l : List Rule} (h : RdR w (.slice a l.length cap) l) (j : Nat) (hj : j ≤ l.length) : RdR w (.slice a j cap) (l.take j) := by
  obtain ⟨a', cap', h1, h2, h3, h4⟩ := h
  cases h1
  have e : (l.take j).length = j := by rw [List.length_take]; omega
  refine ⟨a, cap, by rw [e], by omega, h3, fun hl => ?_⟩
  obtain ⟨b, off, h5, h6⟩ := h4 (fun e => hl (by rw [e]; simp))
  refine ⟨b, off, h5, fun i r hr => h6 i r ?_⟩
  rw [List.getElem?_take] at hr
  split at hr
  · exact hr
  · cases hr

/-- A rule by value. -/
abbrev AggR (r : Rule) (u : Value) : Value := .agg #[S r.out, S r.kind, S r.word, u]

/-! ### the first that is so -/
def idx {α : Type} (p : α → Bool) (l : List α) : Int := match l.findIdx? p with | some i => (i : Int) | none => -1
theorem idx_hit {α : Type} {p : α → Bool} {l : List α} {k : Nat} {x : α} (hx : l[k]? = some x) (hp : p x = true) (hb : ∀ j y, j < k → l[j]? = some y → p y = false) : idx p l = k := by
  have : l.findIdx? p = some k := by
    rw [List.findIdx?_eq_some_iff_getElem]
    obtain ⟨h1, h2⟩ := List.getElem?_eq_some_iff.1 hx
    refine ⟨h1, by rw [h2]; exact hp, fun j hj => ?_⟩
    have := hb j _ hj (List.getElem?_eq_getElem (by omega))
    simpa using this
  unfold idx
  rw [this]
theorem idx_none {α : Type} {p : α → Bool} {l : List α} (hb : ∀ (j : Nat) y, l[j]? = some y → p y = false) : idx p l = -1 := by
  have : l.findIdx? p = none := by
    rw [List.findIdx?_eq_none_iff]
    intro x hx
    obtain ⟨i, hi⟩ := List.getElem?_of_mem hx
    exact hb i x hi
  unfold idx
  rw [this]
theorem idx_any {α : Type} (p : α → Bool) (l : List α) : decide (0 ≤ idx p l) = l.any p := by
  unfold idx
  cases h : l.findIdx? p with
  | none =>
    rw [List.findIdx?_eq_none_iff] at h
    have : l.any p = false := by rw [List.any_eq_false]; intro x hx; simpa using h x hx
    rw [this]
    rfl
  | some i =>
    rw [List.findIdx?_eq_some_iff_getElem] at h
    obtain ⟨h1, h2, _⟩ := h
    have : l.any p = true := List.any_eq_true.2 ⟨l[i], List.getElem_mem h1, h2⟩
    rw [this]
    exact decide_eq_true (Int.natCast_nonneg i)
theorem idx_le {α : Type} (p : α → Bool) (l : List α) : -1 ≤ idx p l ∧ idx p l < l.length + 1 := by
  unfold idx
  cases h : l.findIdx? p with
  | none => simp; omega
  | some i =>
    rw [List.findIdx?_eq_some_iff_getElem] at h
    obtain ⟨h1, _⟩ := h
    simp; omega
end Go.Proofs.YtnmhaipjfpongacGreatDoor
