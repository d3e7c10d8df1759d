/- The closed fact of chapter 6, and the place of a text in a list. No condition. -/
import Derived.Test.YtnmhaipjfpongacGreatDoorGd
namespace Go.Proofs.YtnmhaipjfpongacGreatDoor
open Go.ChangeShapes Go.WideShapes Go.ChangeAt Go.RowKit

theorem Only.new {a b c : World} {p : Nat → Prop} (h : Ext a b) (k : Only p b c) (hp : ∀ i, p i → a.heap.size ≤ i) : Ext a c :=
  h.trans k (fun _ _ h => h) fun i hi h => absurd (hp i h) (by omega)

theorem new_step {p q : Nat → Prop} {n m : Nat} (h : ∀ i, p i → n ≤ i) (k : ∀ i, q i → p i ∨ m ≤ i) (hm : n ≤ m) : ∀ i, q i → n ≤ i := fun i hi => by
  rcases k i hi with h' | h'
  · exact h i h'
  · omega

theorem idx_before (s : B) : ∀ (l : List B) (j : Nat), j < l.idxOf s → ¬ l.getD j [] = s := by
  intro l
  induction l with
  | nil => intro j hj; simp at hj
  | cons x l ih =>
    intro j hj
    by_cases h : x = s
    · subst h; simp at hj
    · have e : List.idxOf s (x :: l) = l.idxOf s + 1 := by rw [List.idxOf_cons, beq_eq_false_iff_ne.2 h]; rfl
      rw [e] at hj
      cases j with
      | zero => simpa using h
      | succ j => simpa using ih j (by omega)

theorem idx_at (l : List B) (s : B) (h : l.idxOf s < l.length) : l.getD (l.idxOf s) [] = s := by
  rw [List.getD_eq_getElem?_getD, List.getElem?_eq_getElem h]
  exact List.getElem_idxOf h

set_option maxHeartbeats 400000 in
theorem index_any (w : World) (v : Value) (l : List B) (s : B) (hv : Rd S w v l) :
    Calls Tryz.prog 89 #[v, S s] w fun e w' => e = .returned (I (if l.idxOf s < l.length then (l.idxOf s : Int) else -1)) ∧ w = w' := by
  obtain ⟨a, cap, rfl, hcap, hm, hc⟩ := hv
  have hm' : l.length ≤ 9223372036854775807 := by unfold maxLen at hm; omega
  clear hm
  have hle : l.idxOf s ≤ l.length := List.idxOf_le_length
  obtain ⟨n, hn⟩ : ∃ n, n = l.idxOf s := ⟨_, rfl⟩
  have h1 := Lib.hid (idx_before s l)
  have h2 := Lib.hid (idx_at l s)
  rw [← hn] at h1 h2 hle ⊢
  clear hn
  go_enter Tryz.func89, Tryz.ntmps89
  go_wp2
  go_loop [5] (fun i => ∃ k : Nat, k ≤ n ∧ i = .int .i64 k) (fun i => n + 1 - (intOf i).toNat)
  case atStart => exact ⟨0, Nat.zero_le _, rfl⟩
  case round =>
    obtain ⟨k, hk, rfl⟩ := hrel
    by_cases hlt : k < l.length
    · obtain ⟨b, off, rfl, hcell⟩ := hc (by intro h; rw [h] at hlt; simp at hlt)
      have hcl := hcell k _ (getElem?_getD [] hlt)
      clear hcell hc
      by_cases hkn : k < n
      · have hne := h1.out k hkn
        generalize l.getD k [] = x at *
        have hb : (x == s) = false := beq_eq_false_iff_ne.2 hne
        clear hne
        go_wp2
        go_round
        case rel => exact ⟨k + 1, by omega, by go_num⟩
        case measure => simp [intOf]; omega
      · have hkn : k = n := by omega
        subst hkn
        rw [h2.out hlt] at hcl
        go_wp2
        go_ret
        exact ⟨rfl, rfl⟩
    · clear hc
      have : k = n := by omega
      subst this
      go_wp2
      go_ret
      exact ⟨rfl, rfl⟩
end Go.Proofs.YtnmhaipjfpongacGreatDoor
