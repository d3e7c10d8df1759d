/- The reference's partsOf, IsPath, SplitOf, CleanOf. No condition but the text's length. -/
import Derived.Test.YtnmhaipjfpongaaDoorT4
import Derived.Test.YtnmhaipjfpongaaDoorR5
namespace Go.Proofs.YtnmhaipjfpongaaDoor
open Go.ChangeShapes Go.WideShapes Go.ChangeAt Go.RowKit

theorem rowRd {W : World} {base : Nat} {g cap n : Nat} {l : List B} (h : W.ownsRow base 9 1 (.slice (some ⟨g, 0, none⟩) n cap) n (l.map S)) : ∀ i x, l[i]? = some x → W.cell? ⟨g, i, none⟩ = some (S x) := fun i x hx => by
  rcases h.2 with ⟨h2, _⟩ | ⟨g', cap', cur, hv, _, hh, _, _, hs, ht⟩
  · cases h2
  · cases hv
    have hn : l.length = n := by simpa using h.1
    have hi : i < l.length := (List.getElem?_eq_some_iff.1 hx).1
    have hcell : cur[i]? = (cur.toList.take (n * 1))[i]? := by rw [List.getElem?_take_of_lt (by omega)]; simp
    rw [ht, List.getElem?_map, hx] at hcell
    rw [cell_of_heap hh]
    simpa using hcell

def RefPartsIs (w : World) (st : Bool) (s : B) (e : Ending) (w' : World) : Prop :=
  Ext w w' ∧ ((partsOk st (cut s) = true ∧ ∃ g cap, e = .returned (.slice (some ⟨g, 0, none⟩) (cut s).length cap) ∧ ∀ i x, (cut s)[i]? = some x → w'.cell? ⟨g, i, none⟩ = some (S x)) ∨ (partsOk st (cut s) = false ∧ e = .returned (.slice none 0 0)))

set_option maxRecDepth 100000 in
set_option maxHeartbeats 1000000 in
theorem refParts_any (w : World) (st : Bool) (s : B) (hs : s.length ≤ 999999) : Calls Tryd.prog 57 #[S s, .bool st] w (RefPartsIs w st s) := by
  have HC := Lib.hid (refCut_any w s hs)
  have hcl := cut_len_le s
  obtain ⟨l, hl⟩ : ∃ l, l = cut s := ⟨_, rfl⟩
  unfold RefPartsIs
  rw [← hl] at hcl HC ⊢
  have hll : l.length ≤ 1000000 := by omega
  clear hl hs hcl
  by_cases h5 : l.length ≤ 5
  · have h5' : ¬ ((5 : Int) < (l.length : Int)) := by omega
    go_enter Tryd.func57, Tryd.ntmps57
    go_wp2_with fail
    refine HC.out.mono ?_
    rintro e w1 ⟨g, cap, rfl, hrow, ho⟩
    have HO := Lib.hid ho
    have HD := Lib.hid (rowRd hrow)
    clear ho hrow
    go_wp2_with fail
    go_loop [6] (fun i => ∃ j : Nat, j ≤ l.length ∧ i = .int .i64 j ∧ Hid (∀ k x, k < j → l[k]? = some x → nameOk st x = true)) (fun i => l.length - (intOf i).toNat)
    case atStart => exact ⟨0, Nat.zero_le _, rfl, Lib.hid (fun k x h => absurd h (Nat.not_lt_zero _))⟩
    case round =>
      obtain ⟨j, hj, rfl, HB⟩ := hrel
      by_cases hlt : j < l.length
      · have hltz : (j : Int) < (l.length : Int) := by omega
        obtain ⟨x, hx⟩ : ∃ x, l[j]? = some x := ⟨_, List.getElem?_eq_getElem hlt⟩
        have c1 := HD.out j x hx
        have HXX := Lib.hid hx
        have hn := isName_any w1 st x
        clear hx
        cases hq : nameOk st x with
        | true =>
          rw [hq] at hn
          have HN := Lib.hid hn
          have HQ := Lib.hid hq
          clear hn hq
          go_wp2_with fail
          refine HN.out.mono ?_
          rintro e w' ⟨rfl, rfl⟩
          go_wp2_with fail
          go_round
          case rel => exact ⟨j + 1, by omega, by go_num, Lib.hid (fun k y hk hy => by
            rcases Nat.lt_succ_iff_lt_or_eq.1 hk with h' | rfl
            · exact HB.out k y h' hy
            · rw [HXX.out] at hy; cases hy; exact HQ.out)⟩
          case measure => simp [intOf]; omega
        | false =>
          rw [hq] at hn
          have HN := Lib.hid hn
          have hbad : partsOk st l = false := by
            rw [Bool.eq_false_iff]
            intro h
            have := partsOk_all h x (List.mem_of_getElem? HXX.out)
            rw [hq] at this; cases this
          have HBD := Lib.hid hbad
          clear hn hq hbad
          go_wp2_with fail
          refine HN.out.mono ?_
          rintro e w' ⟨rfl, rfl⟩
          go_wp2_with fail
          go_ret
          exact ⟨HO.out, .inr ⟨HBD.out, rfl⟩⟩
      · have hltz : ¬ ((j : Int) < (l.length : Int)) := by omega
        have hok : partsOk st l = true := partsOk_mk h5 fun x hx => by
          obtain ⟨k, hk⟩ := List.getElem?_of_mem hx
          exact HB.out k x (by have := (List.getElem?_eq_some_iff.1 hk).1; omega) hk
        have HOK := Lib.hid hok
        clear hok
        go_wp2_with fail
        go_ret
        exact ⟨HO.out, .inl ⟨HOK.out, g, ⟨cap, rfl⟩, HD.out⟩⟩
  · have h5' : (5 : Int) < (l.length : Int) := by omega
    have hbad : partsOk st l = false := by
      rw [Bool.eq_false_iff]
      intro h
      exact h5 (partsOk_len h)
    have HBD := Lib.hid hbad
    clear hbad h5
    go_enter Tryd.func57, Tryd.ntmps57
    go_wp2_with fail
    refine HC.out.mono ?_
    rintro e w1 ⟨g, cap, rfl, hrow, ho⟩
    have HO := Lib.hid ho
    clear ho hrow
    go_wp2_with fail
    go_ret
    exact ⟨HO.out, .inr ⟨HBD.out, rfl⟩⟩

set_option maxRecDepth 100000 in
theorem isPath_any (w : World) (s : B) (hs : s.length ≤ 999999) : Calls Tryd.prog 39 #[S s] w fun e w' => e = .returned (.bool (pathOk s)) ∧ Ext w w' := by
  have HP := Lib.hid (refParts_any w false s hs)
  obtain ⟨r, hr⟩ : ∃ r, r = pathOk s := ⟨_, rfl⟩
  rw [← hr]
  have HR := Lib.hid hr
  obtain ⟨m, hm⟩ : ∃ m, (cut s).length = m + 1 := ⟨(cut s).length - 1, by have := cut_pos s; omega⟩
  have HM := Lib.hid hm
  have h0 : (0 : Int) < (m : Int) + 1 := by omega
  clear hr hm
  go_enter Tryd.func39, Tryd.ntmps39
  go_wp2_with fail
  refine HP.out.mono ?_
  rintro e w' ⟨ho, ⟨hok, g, cap, rfl, _⟩ | ⟨hok, rfl⟩⟩
  · have HO := Lib.hid ho
    have hr : r = true := HR.out.trans hok
    subst hr
    rw [HM.out]
    clear ho hok
    go_wp2_with fail
    go_ret
    exact ⟨rfl, HO.out⟩
  · have HO := Lib.hid ho
    have hr : r = false := HR.out.trans hok
    subst hr
    clear ho hok
    go_wp2_with fail
    go_ret
    exact ⟨rfl, HO.out⟩

/-! ### SplitOf -/
/-- The last slash of the first j bytes. -/
def LastAt (s : B) (j : Nat) (at_ : Int) : Prop := (at_ = -1 ∧ ∀ k, k < j → s[k]? ≠ some 47) ∨ (∃ a : Nat, at_ = a ∧ a < j ∧ s[a]? = some 47 ∧ ∀ k, a < k → k < j → s[k]? ≠ some 47)

theorem LastAt.hit {s : B} {j : Nat} (hj : s[j]? = some 47) : LastAt s (j + 1) j := .inr ⟨j, rfl, Nat.lt_succ_self _, hj, fun k h1 h2 => absurd h2 (by omega)⟩
theorem LastAt.miss {s : B} {j : Nat} {at_ : Int} {c : UInt8} (h : LastAt s j at_) (hj : s[j]? = some c) (hc : c ≠ 47) : LastAt s (j + 1) at_ := by
  have hn : s[j]? ≠ some 47 := by rw [hj]; intro e; exact hc (by simpa using e)
  rcases h with ⟨h1, h2⟩ | ⟨a, h1, h2, h3, h4⟩
  · exact .inl ⟨h1, fun k hk => by rcases Nat.lt_succ_iff_lt_or_eq.1 hk with h | rfl; exact h2 k h; exact hn⟩
  · exact .inr ⟨a, h1, by omega, h3, fun k hk1 hk => by rcases Nat.lt_succ_iff_lt_or_eq.1 hk with h | rfl; exact h4 k hk1 h; exact hn⟩

theorem split_none {s : B} (h : ∀ k, k < s.length → s[k]? ≠ some 47) : joinS (cut s).dropLast = [] ∧ (cut s).getLastD [] = s := by
  have : (47 : UInt8) ∉ s := fun hm => by
    obtain ⟨i, hi⟩ := List.getElem?_of_mem hm
    exact h i (List.getElem?_eq_some_iff.1 hi).1 hi
  rw [cut_plain s this]
  exact ⟨rfl, rfl⟩

theorem split_some {s : B} {a : Nat} (h3 : s[a]? = some 47) (h4 : ∀ k, a < k → k < s.length → s[k]? ≠ some 47) : joinS (cut s).dropLast = s.take a ∧ (cut s).getLastD [] = s.drop (a + 1) := by
  obtain ⟨hlt, he⟩ := List.getElem?_eq_some_iff.1 h3
  have hs : s = s.take a ++ 47 :: s.drop (a + 1) := by
    have h1 : s = s.take a ++ s.drop a := (List.take_append_drop a s).symm
    rw [List.drop_eq_getElem_cons hlt, he] at h1
    exact h1
  have hn : (47 : UInt8) ∉ s.drop (a + 1) := fun hm => by
    obtain ⟨i, hi⟩ := List.getElem?_of_mem hm
    rw [List.getElem?_drop] at hi
    exact h4 (a + 1 + i) (by omega) (List.getElem?_eq_some_iff.1 hi).1 hi
  have hc : cut s = cut (s.take a) ++ [s.drop (a + 1)] := by
    conv => lhs; rw [hs]
    rw [cut_app_any, cut_plain _ hn]
  rw [hc]
  refine ⟨by rw [List.dropLast_concat, join_cut], by simp [List.getLastD_eq_getLast?]⟩

def splitR (s : B) : B × B := if pathOk s then (joinS (cut s).dropLast, (cut s).getLastD []) else ([], [])

set_option maxRecDepth 100000 in
set_option maxHeartbeats 1000000 in
theorem splitOf_any (w : World) (s : B) (hs : s.length ≤ 999999) : Calls Tryd.prog 41 #[S s] w fun e w' => e = .returned (.tuple #[S (splitR s).1, S (splitR s).2]) ∧ Ext w w' := by
  have HP := Lib.hid (isPath_any w s hs)
  cases hb : pathOk s with
  | false =>
    rw [hb] at HP
    have hr : splitR s = ([], []) := by unfold splitR; rw [hb]; rfl
    rw [hr]
    clear hr hb
    go_enter Tryd.func41, Tryd.ntmps41
    go_wp2_with fail
    refine HP.out.mono ?_
    rintro e w1 ⟨rfl, ho⟩
    have HO := Lib.hid ho
    clear ho
    go_wp2_with fail
    go_ret2
    exact ⟨rfl, HO.out⟩
  | true =>
    rw [hb] at HP
    have hr : splitR s = (joinS (cut s).dropLast, (cut s).getLastD []) := by unfold splitR; rw [hb]; rfl
    rw [hr]
    obtain ⟨D, hD⟩ : ∃ D, D = joinS (cut s).dropLast := ⟨_, rfl⟩
    obtain ⟨Z, hZ⟩ : ∃ Z, Z = (cut s).getLastD [] := ⟨_, rfl⟩
    show Calls _ _ _ _ fun e w' => e = .returned (.tuple #[S (joinS (cut s).dropLast), S ((cut s).getLastD [])]) ∧ Ext w w'
    rw [← hD, ← hZ]
    have HD := Lib.hid hD
    have HZ := Lib.hid hZ
    clear hr hb hD hZ
    go_enter Tryd.func41, Tryd.ntmps41
    go_wp2_with fail
    refine HP.out.mono ?_
    rintro e w1 ⟨rfl, ho⟩
    have HO := Lib.hid ho
    clear ho
    go_wp2_with fail
    go_loop [5, 6] (fun a i => ∃ (j : Nat) (at_ : Int), j ≤ s.length ∧ i = .int .i64 j ∧ a = .int .i64 at_ ∧ Hid (LastAt s j at_)) (fun _ i => s.length - (intOf i).toNat)
    case atStart => exact ⟨0, -1, Nat.zero_le _, rfl, rfl, Lib.hid (.inl ⟨rfl, fun k h => absurd h (Nat.not_lt_zero _)⟩)⟩
    case round =>
      obtain ⟨j, at_, hj, rfl, rfl, HA⟩ := hrel
      by_cases hlt : j < s.length
      · have hltz : (j : Int) < (s.length : Int) := by omega
        obtain ⟨c, hc⟩ : ∃ c, s[j]? = some c := ⟨_, List.getElem?_eq_getElem hlt⟩
        have hg := ba_get hc
        have HC := Lib.hid hc
        clear hc
        by_cases h47 : c = 47
        · subst h47
          go_wp2_with fail
          go_round
          case rel => exact ⟨j + 1, j, by omega, by go_num, rfl, Lib.hid (LastAt.hit HC.out)⟩
          case measure => simp [intOf]; omega
        · have hz : ((c.toNat : Int) == 47) = false := by
            refine beq_eq_false_iff_ne.2 fun e => h47 ?_
            have e2 : c.toNat = (47 : UInt8).toNat := by rw [show (47 : UInt8).toNat = 47 from rfl]; omega
            exact UInt8.toNat_inj.1 e2
          go_wp2_with fail
          go_round
          case rel => exact ⟨j + 1, at_, by omega, by go_num, rfl, Lib.hid (HA.out.miss HC.out h47)⟩
          case measure => simp [intOf]; omega
      · have hltz : ¬ ((j : Int) < (s.length : Int)) := by omega
        have hj2 : j = s.length := by omega
        subst hj2
        rcases HA.out with ⟨rfl, h2⟩ | ⟨a, rfl, h2, h3, h4⟩
        · have hsp := split_none h2
          have hD := HD.out.trans hsp.1
          have hZ := HZ.out.trans hsp.2
          subst hD hZ
          clear hsp HA h2 HD HZ
          go_wp2_with fail
          go_ret2
          exact ⟨rfl, HO.out⟩
        · have hsp := split_some h3 h4
          have hD := HD.out.trans hsp.1
          have hZ := HZ.out.trans hsp.2
          have e1 := ba_take s a
          have e2 := ba_end s (a + 1)
          rw [← hD] at e1
          rw [← hZ] at e2
          have q0 : ¬ ((a : Int) < 0) := by omega
          have q1 : (0 : Int) ≤ (a : Int) := by omega
          have q2 : (a : Int) ≤ (s.length : Int) := by omega
          have q3 : (a : Int) + 1 ≤ (s.length : Int) := by omega
          have q4 : (0 : Int) ≤ (a : Int) + 1 := by omega
          clear hsp HA h3 h4 hD hZ HD HZ
          go_wp2_with fail
          go_quiet (fail)
          go_wp2
          go_ret2
          exact ⟨rfl, HO.out.ext (Only.drewN _ _ _)⟩
end Go.Proofs.YtnmhaipjfpongaaDoor
