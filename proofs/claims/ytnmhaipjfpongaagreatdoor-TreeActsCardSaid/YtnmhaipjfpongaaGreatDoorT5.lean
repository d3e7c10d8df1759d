/- The reference's partsOf, IsPath, SplitOf, CleanOf. No condition but the text's length. -/
import Derived.Test.YtnmhaipjfpongaaGreatDoorT4
import Derived.Test.YtnmhaipjfpongaaGreatDoorQ8
namespace Go.Proofs.YtnmhaipjfpongaaGreatDoor
open Go.ChangeShapes Go.WideShapes Go.ChangeAt Go.RowKit

theorem mem_cut_len (s x : B) (h : x ∈ cut s) : x.length ≤ s.length := by
  have e := congrArg List.length (join_cut s)
  obtain ⟨a, b, hab⟩ := List.append_of_mem h
  rw [← e, hab]
  cases a with
  | nil =>
    cases b with
    | nil => rw [List.nil_append, joinS_one]; exact Nat.le_refl _
    | cons y b => rw [List.nil_append, joinS_cons, List.length_append]; omega
  | cons z a =>
    rw [joinS_app _ _ (by simp) (by simp), List.length_append, List.length_cons]
    cases b with
    | nil => rw [joinS_one]; omega
    | cons y b => rw [joinS_cons, List.length_append]; omega

theorem rowRd {W : World} {base : Nat} {g cap n : Nat} {l : List B} (h : W.ownsRow base 9 1 (.slice (some ⟨g, 0, none⟩) n cap) n (l.map S)) : ∀ i x, l[i]? = some x → W.cell? ⟨g, i, none⟩ = some (S x) := fun i x hx => by
  rcases h.2 with ⟨h2, _⟩ | ⟨g', cap', cur, hv, _, hh, _, _, hs, ht⟩
  · cases h2
  · cases hv
    have hn : l.length = n := by simpa using h.1
    have hi : i < l.length := (List.getElem?_eq_some_iff.1 hx).1
    have hcell : cur[i]? = (cur.toList.take (n * 1))[i]? := by rw [List.getElem?_take_of_lt (by omega)]; simp
    rw [ht, List.getElem?_map, hx] at hcell
    rw [cell_of_heap hh]
    simpa using hcell

def RefPartsIs (w : World) (st : Bool) (s : B) (e : Ending) (w' : World) : Prop :=
  Ext w w' ∧ ((partsOk st (cut s) = true ∧ ∃ g cap, e = .returned (.slice (some ⟨g, 0, none⟩) (cut s).length cap) ∧ ∀ i x, (cut s)[i]? = some x → w'.cell? ⟨g, i, none⟩ = some (S x)) ∨ (partsOk st (cut s) = false ∧ e = .returned (.slice none 0 0)))

set_option maxRecDepth 100000 in
set_option maxHeartbeats 1000000 in
theorem refParts_any (w : World) (st : Bool) (s : B) (hs : s.length ≤ 999999) : Calls Tryz.prog 53 #[S s, .bool st] w (RefPartsIs w st s) := by
  have HC := Lib.hid (refCut_any w s hs)
  have hcl := cut_len_le s
  obtain ⟨l, hl⟩ : ∃ l, l = cut s := ⟨_, rfl⟩
  unfold RefPartsIs
  rw [← hl] at hcl HC ⊢
  have hll : l.length ≤ 1000000 := by omega
  clear hl hs hcl
  by_cases h5 : l.length ≤ 5
  · have h5' : ¬ ((5 : Int) < (l.length : Int)) := by omega
    go_enter Tryz.func53, Tryz.ntmps53
    go_wp2_with fail
    refine HC.out.mono ?_
    rintro e w1 ⟨g, cap, rfl, hrow, ho⟩
    have HO := Lib.hid ho
    have HD := Lib.hid (rowRd hrow)
    clear ho hrow
    go_wp2_with fail
    go_loop [6] (fun i => ∃ j : Nat, j ≤ l.length ∧ i = .int .i64 j ∧ Hid (∀ k x, k < j → l[k]? = some x → nameOk st x = true)) (fun i => l.length - (intOf i).toNat)
    case atStart => exact ⟨0, Nat.zero_le _, rfl, Lib.hid (fun k x h => absurd h (Nat.not_lt_zero _))⟩
    case round =>
      obtain ⟨j, hj, rfl, HB⟩ := hrel
      by_cases hlt : j < l.length
      · have hltz : (j : Int) < (l.length : Int) := by omega
        obtain ⟨x, hx⟩ : ∃ x, l[j]? = some x := ⟨_, List.getElem?_eq_getElem hlt⟩
        have c1 := HD.out j x hx
        have HXX := Lib.hid hx
        have hn := isName_any w1 st x
        clear hx
        cases hq : nameOk st x with
        | true =>
          rw [hq] at hn
          have HN := Lib.hid hn
          have HQ := Lib.hid hq
          clear hn hq
          go_wp2_with fail
          refine HN.out.mono ?_
          rintro e w' ⟨rfl, rfl⟩
          go_wp2_with fail
          go_round
          case rel => exact ⟨j + 1, by omega, by go_num, Lib.hid (fun k y hk hy => by
            rcases Nat.lt_succ_iff_lt_or_eq.1 hk with h' | rfl
            · exact HB.out k y h' hy
            · rw [HXX.out] at hy; cases hy; exact HQ.out)⟩
          case measure => simp [intOf]; omega
        | false =>
          rw [hq] at hn
          have HN := Lib.hid hn
          have hbad : partsOk st l = false := by
            rw [Bool.eq_false_iff]
            intro h
            have := partsOk_all h x (List.mem_of_getElem? HXX.out)
            rw [hq] at this; cases this
          have HBD := Lib.hid hbad
          clear hn hq hbad
          go_wp2_with fail
          refine HN.out.mono ?_
          rintro e w' ⟨rfl, rfl⟩
          go_wp2_with fail
          go_ret
          exact ⟨HO.out, .inr ⟨HBD.out, rfl⟩⟩
      · have hltz : ¬ ((j : Int) < (l.length : Int)) := by omega
        have hok : partsOk st l = true := partsOk_mk h5 fun x hx => by
          obtain ⟨k, hk⟩ := List.getElem?_of_mem hx
          exact HB.out k x (by have := (List.getElem?_eq_some_iff.1 hk).1; omega) hk
        have HOK := Lib.hid hok
        clear hok
        go_wp2_with fail
        go_ret
        exact ⟨HO.out, .inl ⟨HOK.out, g, ⟨cap, rfl⟩, HD.out⟩⟩
  · have h5' : (5 : Int) < (l.length : Int) := by omega
    have hbad : partsOk st l = false := by
      rw [Bool.eq_false_iff]
      intro h
      exact h5 (partsOk_len h)
    have HBD := Lib.hid hbad
    clear hbad h5
    go_enter Tryz.func53, Tryz.ntmps53
    go_wp2_with fail
    refine HC.out.mono ?_
    rintro e w1 ⟨g, cap, rfl, hrow, ho⟩
    have HO := Lib.hid ho
    clear ho hrow
    go_wp2_with fail
    go_ret
    exact ⟨HO.out, .inr ⟨HBD.out, rfl⟩⟩

set_option maxRecDepth 100000 in
theorem isPath_any (w : World) (s : B) (hs : s.length ≤ 999999) : Calls Tryz.prog 50 #[S s] w fun e w' => e = .returned (.bool (pathOk s)) ∧ Ext w w' := by
  have HP := Lib.hid (refParts_any w false s hs)
  obtain ⟨r, hr⟩ : ∃ r, r = pathOk s := ⟨_, rfl⟩
  rw [← hr]
  have HR := Lib.hid hr
  obtain ⟨m, hm⟩ : ∃ m, (cut s).length = m + 1 := ⟨(cut s).length - 1, by have := cut_pos s; omega⟩
  have HM := Lib.hid hm
  have h0 : (0 : Int) < (m : Int) + 1 := by omega
  clear hr hm
  go_enter Tryz.func50, Tryz.ntmps50
  go_wp2_with fail
  refine HP.out.mono ?_
  rintro e w' ⟨ho, ⟨hok, g, cap, rfl, _⟩ | ⟨hok, rfl⟩⟩
  · have HO := Lib.hid ho
    have hr : r = true := HR.out.trans hok
    subst hr
    rw [HM.out]
    clear ho hok
    go_wp2_with fail
    go_ret
    exact ⟨rfl, HO.out⟩
  · have HO := Lib.hid ho
    have hr : r = false := HR.out.trans hok
    subst hr
    clear ho hok
    go_wp2_with fail
    go_ret
    exact ⟨rfl, HO.out⟩

end Go.Proofs.YtnmhaipjfpongaaGreatDoor
