/- The plain law of CacheKeys: two keys are one only if kind, word and inputs are. And the walk. No condition but how the lists lie, their lengths, and the table of powers. -/
import Derived.Test.YtnmhaipjfpongaaDoorY2
namespace Go.Proofs.YtnmhaipjfpongaaDoor
open Go.ChangeShapes Go.WideShapes Go.ChangeAt Go.RowKit

theorem digit_ne {k : Nat} (h : k < 10) : UInt8.ofNat (48 + k) ≠ 58 := by
  intro e
  have := congrArg UInt8.toNat e
  simp at this
  omega

theorem digit_inj {a b : Nat} (ha : a < 10) (hb : b < 10) (e : UInt8.ofNat (48 + a) = UInt8.ofNat (48 + b)) : a = b := by
  have := congrArg UInt8.toNat e
  simp only [UInt8.toNat_ofNat'] at this
  omega

theorem dec_no (u : Nat) : (58 : UInt8) ∉ Lib.decDigits u := by
  induction u using Nat.strongRecOn with
  | _ u ih =>
    by_cases h : u < 10
    · rw [Lib.decDigits_one h, List.mem_singleton]
      exact fun e => digit_ne h e.symm
    · rw [Lib.decDigits, dif_neg h, List.mem_append, List.mem_singleton]
      rintro (e | e)
      · exact ih (u / 10) (by omega) e
      · exact digit_ne (Nat.mod_lt u (by decide)) e.symm

theorem dec_ne (u : Nat) : Lib.decDigits u ≠ [] := by
  by_cases h : u < 10
  · rw [Lib.decDigits_one h]; simp
  · rw [Lib.decDigits, dif_neg h]; simp

theorem dec_inj : ∀ (u v : Nat), Lib.decDigits u = Lib.decDigits v → u = v := by
  intro u
  induction u using Nat.strongRecOn with
  | _ u ih =>
    intro v e
    by_cases h : u < 10
    · by_cases h' : v < 10
      · rw [Lib.decDigits_one h, Lib.decDigits_one h'] at e
        exact digit_inj h h' (by simpa using e)
      · rw [Lib.decDigits_one h, Lib.decDigits.eq_def v, dif_neg h'] at e
        have := congrArg List.length e
        simp at this
        exact absurd this (dec_ne (v / 10))
    · by_cases h' : v < 10
      · rw [Lib.decDigits_one h', Lib.decDigits.eq_def u, dif_neg h] at e
        have := congrArg List.length e
        simp at this
        exact absurd this (dec_ne (u / 10))
      · rw [Lib.decDigits.eq_def u, Lib.decDigits.eq_def v, dif_neg h, dif_neg h'] at e
        obtain ⟨e1, e2⟩ := List.append_inj' e rfl
        have i1 := ih (u / 10) (by omega) (v / 10) e1
        have i2 := digit_inj (Nat.mod_lt u (by decide)) (Nat.mod_lt v (by decide)) (by simpa using e2)
        omega

theorem split_at {x : UInt8} : ∀ {d d' a a' : B}, x ∉ d → x ∉ d' → d ++ x :: a = d' ++ x :: a' → d = d' ∧ a = a'
  | [], [], a, a', _, _, e => ⟨rfl, by simpa using e⟩
  | [], y :: d', a, a', _, h', e => by
    have : x = y := by simpa using congrArg List.head? e
    exact absurd (this ▸ List.mem_cons_self) h'
  | y :: d, [], a, a', h, _, e => by
    have : y = x := by simpa using congrArg List.head? e
    exact absurd (this ▸ List.mem_cons_self) h
  | y :: d, z :: d', a, a', h, h', e => by
    rw [List.cons_append, List.cons_append, List.cons.injEq] at e
    obtain ⟨rfl, e⟩ := e
    obtain ⟨rfl, rfl⟩ := split_at (fun hm => h (List.mem_cons_of_mem _ hm)) (fun hm => h' (List.mem_cons_of_mem _ hm)) e
    exact ⟨rfl, rfl⟩

theorem cnt_parse {s t r r' : B} (e : cnt s ++ r = cnt t ++ r') : s = t ∧ r = r' := by
  unfold cnt at e
  rw [List.append_assoc, List.append_assoc, List.cons_append, List.cons_append] at e
  obtain ⟨e1, e2⟩ := split_at (dec_no _) (dec_no _) e
  exact List.append_inj e2 (dec_inj _ _ e1)

theorem cnt_ne (s r : B) : cnt s ++ r ≠ [] := by simp [cnt]

theorem flat_inj : ∀ {l l' : List B}, l.flatMap cnt = l'.flatMap cnt → l = l'
  | [], [], _ => rfl
  | [], y :: l', e => by rw [List.flatMap_cons] at e; exact absurd e.symm (cnt_ne _ _)
  | x :: l, [], e => by rw [List.flatMap_cons] at e; exact absurd e (cnt_ne _ _)
  | x :: l, y :: l', e => by
    rw [List.flatMap_cons, List.flatMap_cons] at e
    obtain ⟨h1, h2⟩ := cnt_parse e
    rw [h1, flat_inj h2]

theorem keyT_inj {k w k' w' : B} {l l' : List B} (e : keyT k w l = keyT k' w' l') : k = k' ∧ w = w' ∧ l = l' := by
  unfold keyT at e
  rw [List.append_assoc, List.append_assoc] at e
  obtain ⟨h1, h2⟩ := cnt_parse e
  obtain ⟨h3, h4⟩ := cnt_parse h2
  exact ⟨h1, h3, flat_inj h4⟩

set_option maxHeartbeats 4000000 in
theorem walkKeys (w : World) (kind word other second : B) (v1 v2 : Value) (ins more : List B) (hv1 : Rd S w v1 ins) (hv2 : Rd S w v2 more) (hp : Pow w) (a1 : kind.length ≤ 100) (a2 : word.length ≤ 100) (a3 : other.length ≤ 100) (a4 : second.length ≤ 100) :
    Calls Tryd.prog 6 #[S kind, S word, v1, S other, S second, v2] w fun e w' => e = .returned (.bool true) ∧ Ext w w' := by
  have c1 : ¬ 100 < (kind.length : Int) := by omega
  have c2 : ¬ 100 < (word.length : Int) := by omega
  have c3 : ¬ 100 < (other.length : Int) := by omega
  have c4 : ¬ 100 < (second.length : Int) := by omega
  have H1 := Lib.hid hv1
  have H2 := Lib.hid hv2
  have HP := Lib.hid hp
  clear hv1 hv2 hp
  go_enter Tryd.func6, Tryd.ntmps6
  go_wp2_with fail
  refine (cached_any w).mono ?_
  rintro e w1 ⟨rfl, ho⟩
  have HO := Lib.hid ho
  clear ho
  go_wp2_with fail
  refine (longTexts_any w1 v1 ins 10 300 (H1.out.ext HO.out) (by omega)).mono ?_
  rintro e w1' ⟨⟨r1, rfl, hr1, hb1⟩, rfl⟩
  have HB1 := Lib.hid hb1
  clear hb1
  go_wp2_with fail
  refine (longTexts_any w1 v2 more 10 300 (H2.out.ext HO.out) (by omega)).mono ?_
  rintro e w1' ⟨⟨r2, rfl, hr2, hb2⟩, rfl⟩
  have HB2 := Lib.hid hb2
  clear hb2
  rcases hr1 with rfl | rfl
  · rcases hr2 with rfl | rfl
    · obtain ⟨m1, m2⟩ := HB1.out rfl
      obtain ⟨m3, m4⟩ := HB2.out rfl
      have HM2 := Lib.hid (fun x hx => by have := m2 x hx; omega : ∀ x ∈ ins, x.length ≤ 300)
      have HM4 := Lib.hid (fun x hx => by have := m4 x hx; omega : ∀ x ∈ more, x.length ≤ 300)
      clear m2 m4 HB1 HB2
      obtain ⟨K1, hK1⟩ : ∃ K1, K1 = keyT kind word ins := ⟨_, rfl⟩
      obtain ⟨K2, hK2⟩ : ∃ K2, K2 = keyT other second more := ⟨_, rfl⟩
      have HK1 := Lib.hid hK1
      have HK2 := Lib.hid hK2
      clear hK1 hK2
      go_wp2_with fail
      refine (ownTexts_any w1 v1 ins (H1.out.ext HO.out) (by omega)).mono ?_
      rintro e w2 ⟨u1, rfl, hu1, ho⟩
      have HO2 := Lib.hid (HO.out.ext ho)
      have HU1 := Lib.hid hu1
      clear ho hu1
      go_wp2_with fail
      have hk := key_any w2 kind word u1 ins HU1.out a1 a2 (by omega) HM2.out (HP.out.ext HO2.out)
      rw [← HK1.out] at hk
      refine hk.mono ?_
      clear hk
      rintro e w3 ⟨rfl, ho⟩
      have HO3 := Lib.hid (HO2.out.ext ho)
      clear ho HU1
      go_wp2_with fail
      refine (ownTexts_any w3 v2 more (H2.out.ext HO3.out) (by omega)).mono ?_
      rintro e w4 ⟨u2, rfl, hu2, ho⟩
      have HO4 := Lib.hid (HO3.out.ext ho)
      have HU2 := Lib.hid hu2
      clear ho hu2
      go_wp2_with fail
      have hk := key_any w4 other second u2 more HU2.out a3 a4 (by omega) HM4.out (HP.out.ext HO4.out)
      rw [← HK2.out] at hk
      refine hk.mono ?_
      clear hk
      rintro e w5 ⟨rfl, ho⟩
      have HO5 := Lib.hid (HO4.out.ext ho)
      clear ho HU2
      have hof : ∀ w6, Ext w w6 → Calls Tryd.prog 30 #[S kind, S word, v1] w6 fun e w' => e = .returned (S K1) ∧ Ext w6 w' := fun w6 h6 => by
        have := keyOf_any w6 kind word v1 ins (H1.out.ext h6) a1 a2 (by omega) HM2.out
        rw [← HK1.out] at this
        exact this
      have HOF := Lib.hid hof
      clear hof
      by_cases e1 : kind = other
      · subst e1
        by_cases e2 : word = second
        · subst e2
          have hst := fun w6 (h6 : Ext w w6) => sameTexts_any w6 v1 v2 ins more (H1.out.ext h6) (H2.out.ext h6)
          have hkk : (K1 == K2) = (ins == more) := by
            rw [HK1.out, HK2.out]
            by_cases h : ins = more
            · subst h; simp
            · rw [beq_eq_false_iff_ne.2 h, beq_eq_false_iff_ne]
              exact fun e => h (keyT_inj e).2.2
          generalize (ins == more) = bv at hst hkk
          have HST := Lib.hid hst
          clear hst
          go_wp2_with fail
          refine (HST.out w5 HO5.out).mono ?_
          rintro e w6 ⟨rfl, hd⟩
          have HO6 := Lib.hid (HO5.out.ext hd.ext)
          clear hd
          go_wp2_with fail
          refine (HOF.out w6 HO6.out).mono ?_
          rintro e w7 ⟨rfl, ho⟩
          have HO7 := Lib.hid (HO6.out.ext ho)
          clear ho
          go_wp2_with fail
          go_ret
          exact ⟨rfl, HO7.out⟩
        · have hne : (word == second) = false := beq_eq_false_iff_ne.2 e2
          have hkk : (K1 == K2) = false := by
            rw [HK1.out, HK2.out, beq_eq_false_iff_ne]
            exact fun e => e2 (keyT_inj e).2.1
          clear e2
          go_wp2_with fail
          refine (HOF.out w5 HO5.out).mono ?_
          rintro e w7 ⟨rfl, ho⟩
          have HO7 := Lib.hid (HO5.out.ext ho)
          clear ho
          go_wp2_with fail
          go_ret
          exact ⟨rfl, HO7.out⟩
      · have hne : (kind == other) = false := beq_eq_false_iff_ne.2 e1
        have hkk : (K1 == K2) = false := by
          rw [HK1.out, HK2.out, beq_eq_false_iff_ne]
          exact fun e => e1 (keyT_inj e).1
        clear e1
        go_wp2_with fail
        refine (HOF.out w5 HO5.out).mono ?_
        rintro e w7 ⟨rfl, ho⟩
        have HO7 := Lib.hid (HO5.out.ext ho)
        clear ho
        go_wp2_with fail
        go_ret
        exact ⟨rfl, HO7.out⟩
    · go_wp2_with fail
      go_ret
      exact ⟨rfl, HO.out⟩
  · rcases hr2 with rfl | rfl
    · go_wp2_with fail
      go_ret
      exact ⟨rfl, HO.out⟩
    · go_wp2_with fail
      go_ret
      exact ⟨rfl, HO.out⟩
end Go.Proofs.YtnmhaipjfpongaaDoor
