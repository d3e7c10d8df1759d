/- The plain law of CacheKeys: two keys are one only if kind, word and inputs are. And the walk. No condition but how the lists lie, their lengths, and the table of powers. -/
import Derived.Test.YtnmhaipjfpongabGreatDoorY2x
namespace Go.Proofs.YtnmhaipjfpongabGreatDoor
open Go.ChangeShapes Go.WideShapes Go.ChangeAt Go.RowKit

theorem digit_ne {k : Nat} (h : k < 10) : UInt8.ofNat (48 + k) ≠ 58 := by
  intro e
  have := congrArg UInt8.toNat e
  simp at this
  omega

theorem digit_inj {a b : Nat} (ha : a < 10) (hb : b < 10) (e : UInt8.ofNat (48 + a) = UInt8.ofNat (48 + b)) : a = b := by
  have := congrArg UInt8.toNat e
  simp only [UInt8.toNat_ofNat'] at this
  omega

theorem dec_no (u : Nat) : (58 : UInt8) ∉ Lib.decDigits u := by
  induction u using Nat.strongRecOn with
  | _ u ih =>
    by_cases h : u < 10
    · rw [Lib.decDigits_one h, List.mem_singleton]
      exact fun e => digit_ne h e.symm
    · rw [Lib.decDigits, dif_neg h, List.mem_append, List.mem_singleton]
      rintro (e | e)
      · exact ih (u / 10) (by omega) e
      · exact digit_ne (Nat.mod_lt u (by decide)) e.symm

theorem dec_neK (u : Nat) : Lib.decDigits u ≠ [] := by
  by_cases h : u < 10
  · rw [Lib.decDigits_one h]; simp
  · rw [Lib.decDigits, dif_neg h]; simp

theorem dec_inj : ∀ (u v : Nat), Lib.decDigits u = Lib.decDigits v → u = v := by
  intro u
  induction u using Nat.strongRecOn with
  | _ u ih =>
    intro v e
    by_cases h : u < 10
    · by_cases h' : v < 10
      · rw [Lib.decDigits_one h, Lib.decDigits_one h'] at e
        exact digit_inj h h' (by simpa using e)
      · rw [Lib.decDigits_one h, Lib.decDigits.eq_def v, dif_neg h'] at e
        have := congrArg List.length e
        simp at this
        exact absurd this (dec_neK (v / 10))
    · by_cases h' : v < 10
      · rw [Lib.decDigits_one h', Lib.decDigits.eq_def u, dif_neg h] at e
        have := congrArg List.length e
        simp at this
        exact absurd this (dec_neK (u / 10))
      · rw [Lib.decDigits.eq_def u, Lib.decDigits.eq_def v, dif_neg h, dif_neg h'] at e
        obtain ⟨e1, e2⟩ := List.append_inj' e rfl
        have i1 := ih (u / 10) (by omega) (v / 10) e1
        have i2 := digit_inj (Nat.mod_lt u (by decide)) (Nat.mod_lt v (by decide)) (by simpa using e2)
        omega

theorem split_at {x : UInt8} : ∀ {d d' a a' : B}, x ∉ d → x ∉ d' → d ++ x :: a = d' ++ x :: a' → d = d' ∧ a = a'
  | [], [], a, a', _, _, e => ⟨rfl, by simpa using e⟩
  | [], y :: d', a, a', _, h', e => by
    have : x = y := by simpa using congrArg List.head? e
    exact absurd (this ▸ List.mem_cons_self) h'
  | y :: d, [], a, a', h, _, e => by
    have : y = x := by simpa using congrArg List.head? e
    exact absurd (this ▸ List.mem_cons_self) h
  | y :: d, z :: d', a, a', h, h', e => by
    rw [List.cons_append, List.cons_append, List.cons.injEq] at e
    obtain ⟨rfl, e⟩ := e
    obtain ⟨rfl, rfl⟩ := split_at (fun hm => h (List.mem_cons_of_mem _ hm)) (fun hm => h' (List.mem_cons_of_mem _ hm)) e
    exact ⟨rfl, rfl⟩

theorem cnt_parse {s t r r' : B} (e : cnt s ++ r = cnt t ++ r') : s = t ∧ r = r' := by
  unfold cnt at e
  rw [List.append_assoc, List.append_assoc, List.cons_append, List.cons_append] at e
  obtain ⟨e1, e2⟩ := split_at (dec_no _) (dec_no _) e
  exact List.append_inj e2 (dec_inj _ _ e1)

theorem cnt_ne (s r : B) : cnt s ++ r ≠ [] := by simp [cnt]

theorem flat_inj : ∀ {l l' : List B}, l.flatMap cnt = l'.flatMap cnt → l = l'
  | [], [], _ => rfl
  | [], y :: l', e => by rw [List.flatMap_cons] at e; exact absurd e.symm (cnt_ne _ _)
  | x :: l, [], e => by rw [List.flatMap_cons] at e; exact absurd e (cnt_ne _ _)
  | x :: l, y :: l', e => by
    rw [List.flatMap_cons, List.flatMap_cons] at e
    obtain ⟨h1, h2⟩ := cnt_parse e
    rw [h1, flat_inj h2]

theorem keyT_inj {k w k' w' : B} {l l' : List B} (e : keyT k w l = keyT k' w' l') : k = k' ∧ w = w' ∧ l = l' := by
  unfold keyT at e
  rw [List.append_assoc, List.append_assoc] at e
  obtain ⟨h1, h2⟩ := cnt_parse e
  obtain ⟨h3, h4⟩ := cnt_parse h2
  exact ⟨h1, h3, flat_inj h4⟩
end Go.Proofs.YtnmhaipjfpongabGreatDoor
