/- The reference's CleanOf. No condition but the text's length. -/
import Derived.Test.YtnmhaipjfpongaaDoorT5
namespace Go.Proofs.YtnmhaipjfpongaaDoor
open Go.ChangeShapes Go.WideShapes Go.ChangeAt Go.RowKit

theorem rowCut {W : World} {base : Nat} {v : Value} {o : List B} {k : Nat} (hk : o.length = k + 1) (h : W.ownsRow base 9 1 v o.length (o.map S)) : ∃ g cap, v = .slice (some ⟨g, 0, none⟩) (k + 1) cap ∧ k + 1 ≤ cap ∧ W.ownsRow base 9 1 (.slice (some ⟨g, 0, none⟩) k cap) o.dropLast.length (o.dropLast.map S) := by
  have hdl : o.dropLast.length = k := by simp [hk]
  rcases h.2 with ⟨_, h0⟩ | ⟨g, cap, cur, rfl, hg, hh, hcp, hm, hs, ht⟩
  · omega
  · refine ⟨g, cap, by rw [hk], by omega, ?_⟩
    rw [hk] at h
    rw [hdl]
    exact row_take h k (Nat.le_succ _) (by rw [← List.map_take, List.dropLast_eq_take, hk]; rfl)

theorem joinS_snoc {o : List B} {j : Nat} {x : B} (hj : 0 < j) (hx : o[j]? = some x) : joinS (o.take (j + 1)) = joinS (o.take j) ++ 47 :: x := by
  have hlt := (List.getElem?_eq_some_iff.1 hx).1
  rw [List.take_add_one, hx, joinS_app _ _ (by intro e; have h1 : (o.take j).length = 0 := (by rw [e]; rfl); rw [List.length_take] at h1; omega) (by simp)]
  rw [show (some x).toList = [x] from rfl, joinS_one]

theorem joinS_take_le (o : List B) (j : Nat) (h : ∀ x ∈ o, x.length ≤ 200) (ho : o.length ≤ 201) : (joinS (o.take j)).length ≤ 40401 := by
  have h1 := joinS_len (o.take j) 200 (fun x hx => h x (List.mem_of_mem_take hx))
  have h2 : (o.take j).length ≤ 201 := Nat.le_trans (List.length_take_le' _ _) ho
  have : (o.take j).length * 201 ≤ 201 * 201 := Nat.mul_le_mul_right _ h2
  omega

def cleanEnd : Option (List B) → B × Nat
  | none => ([], 3)
  | some l => if l = [] then ([], 6) else if pathOk (joinS l) then (joinS l, 0) else ([], 4)

theorem cleanR_end {s : B} (h : ¬ 200 < s.length) : cleanR s = cleanEnd (cleanL [] (cut s)) := by
  unfold cleanR cleanEnd
  rw [if_neg h]
  cases cleanL [] (cut s) <;> rfl

theorem cleanL_some_take {l : List B} {j : Nat} {o : List B} {x : B} (hx : l[j]? = some x) (h : cleanL [] (l.take j) = some o) : cleanL [] (l.take (j + 1)) = cleanL o [x] := by
  rw [List.take_add_one, hx, cleanL_app, h]; rfl

theorem cleanL_stop {l : List B} {j : Nat} (h : cleanL [] (l.take j) = none) : cleanL [] l = none := by
  rw [← List.take_append_drop j l, cleanL_app, h]; rfl

set_option maxRecDepth 100000 in
set_option maxHeartbeats 1000000 in
theorem refClean_long (w : World) (s : B) (h : 200 < s.length) : Calls Tryd.prog 40 #[S s] w fun e w' => e = .returned (.tuple #[S [], I 2]) ∧ Ext w w' := by
  have hl : (200 : Int) < (s.length : Int) := by omega
  go_enter Tryd.func40, Tryd.ntmps40
  go_wp2_with fail
  go_ret2
  exact ⟨rfl, Only.refl _ _⟩

def RefCleanIs (w : World) (t : B) (k : Nat) (e : Ending) (w' : World) : Prop := e = .returned (.tuple #[S t, I k]) ∧ Ext w w'

set_option maxRecDepth 100000 in
set_option maxHeartbeats 4000000 in
theorem refClean_short (w : World) (s : B) (h : ¬ 200 < s.length) (t : B) (k : Nat) (hr : cleanR s = (t, k)) : Calls Tryd.prog 40 #[S s] w (RefCleanIs w t k) := by
  have hl : ¬ ((200 : Int) < (s.length : Int)) := by omega
  have HC := Lib.hid (refCut_any w s (by omega))
  have hcl := cut_len_le s
  have hxl : ∀ x ∈ cut s, x.length ≤ 200 := fun x hx => by have := mem_cut_len s x hx; omega
  have hrr := (cleanR_end h).symm.trans hr
  obtain ⟨l, hll⟩ : ∃ l, l = cut s := ⟨_, rfl⟩
  rw [← hll] at hcl HC hxl hrr
  have hlen : l.length ≤ 201 := by omega
  have HRR := Lib.hid hrr
  have HXL := Lib.hid hxl
  clear hll hrr hxl hr h hcl
  go_enter Tryd.func40, Tryd.ntmps40
  go_wp2_with fail
  refine HC.out.mono ?_
  rintro e w1 ⟨g, cap, rfl, hrow, ho⟩
  have HO := Lib.hid ho
  have HD := Lib.hid (rowRd hrow)
  clear ho hrow
  go_wp2_with fail
  go_loopw [5, 6] (fun v i wr => ∃ (j : Nat) (o : List B) (v0 : Value), v0 = v ∧ j ≤ l.length ∧ i = .int .i64 j ∧ o.length ≤ j ∧ Hid (cleanL [] (l.take j) = some o) ∧ Hid (Ext w1 wr) ∧ Hid (wr.ownsRow w1.heap.size 9 1 v0 o.length (o.map S))) (fun _ i _ => l.length - (intOf i).toNat)
  case atStart => exact ⟨0, [], _, rfl, Nat.zero_le _, rfl, Nat.le_refl _, Lib.hid rfl, Lib.hid (Only.refl _ _), Lib.hid (World.ownsRow_nil _ _ _ _)⟩
  case round =>
    obtain ⟨j, o, v0, rfl, hj, rfl, hoj, HCL, HX, HR⟩ := hrel
    by_cases hlt : j < l.length
    · have hltz : (j : Int) < (l.length : Int) := by omega
      obtain ⟨x, hx⟩ : ∃ x, l[j]? = some x := ⟨_, List.getElem?_eq_getElem hlt⟩
      have c1 := HX.out.cellOf (HD.out j x hx) (fun h => h)
      have HST := Lib.hid (cleanL_some_take hx HCL.out)
      clear hx
      by_cases h0 : x = []
      · subst h0
        have HCC := Lib.hid (show cleanL o [[]] = some o by simp [cleanL])
        go_wp2_with fail
        go_roundw
        case rel => exact ⟨j + 1, o, _, rfl, by omega, by go_num, by omega, Lib.hid (HST.out.trans HCC.out), HX, HR⟩
        case measure => simp [intOf]; omega
      have g0 : (x == []) = false := beq_eq_false_iff_ne.2 h0
      by_cases h1 : x = [46]
      · have g1 : (x == [46]) = true := beq_iff_eq.2 h1
        have HCC := Lib.hid (show cleanL o [x] = some o by rw [h1]; simp [cleanL])
        clear h0 h1
        go_wp2_with fail
        go_roundw
        case rel => exact ⟨j + 1, o, _, rfl, by omega, by go_num, by omega, Lib.hid (HST.out.trans HCC.out), HX, HR⟩
        case measure => simp [intOf]; omega
      have g1 : (x == [46]) = false := beq_eq_false_iff_ne.2 h1
      by_cases h2 : x = [46, 46]
      · have g2 : (x == [46, 46]) = true := beq_iff_eq.2 h2
        by_cases hon : o = []
        · have hv : ∃ a cap, v0 = .slice a 0 cap := by
            have := HR.out.2
            rw [hon] at this
            rcases this with ⟨e, _⟩ | ⟨g, cap, cur, e, _⟩
            · exact ⟨_, _, e⟩
            · exact ⟨_, _, e⟩
          obtain ⟨a, cap2, rfl⟩ := hv
          have hb : ([], 3) = (t, k) := by
            rw [← HRR.out, cleanL_stop (HST.out.trans (by rw [h2, hon]; simp [cleanL]))]; rfl
          have ht : [] = t := congrArg Prod.fst hb
          have hk : 3 = k := congrArg Prod.snd hb
          subst ht hk
          clear h0 h1 h2 hb hon HRR
          go_wp2_with fail
          go_ret2
          exact ⟨rfl, HO.out.ext HX.out⟩
        · obtain ⟨m, hm⟩ : ∃ m, o.length = m + 1 := ⟨o.length - 1, by have := List.length_pos_iff.2 hon; omega⟩
          obtain ⟨g2b, cap2, rfl, hcap, hr2⟩ := rowCut hm HR.out
          have HR2 := Lib.hid hr2
          have HCC := Lib.hid (show cleanL o [x] = some o.dropLast by rw [h2]; simp [cleanL, hon])
          have q0 : ((m : Int) + 1 == 0) = false := beq_eq_false_iff_ne.2 (by omega)
          have q1 : (0 : Int) ≤ (m : Int) := by omega
          have q2 : (m : Int) ≤ (cap2 : Int) := by omega
          have HDL := Lib.hid (show o.dropLast.length ≤ j + 1 by rw [List.length_dropLast]; omega)
          have hmm : m ≤ 1000 := by omega
          clear h0 h1 h2 hon hr2
          go_wp2_with fail
          go_roundw
          case rel => exact ⟨j + 1, o.dropLast, _, rfl, by omega, by go_num, HDL.out, Lib.hid (HST.out.trans HCC.out), HX, HR2⟩
          case measure => simp [intOf]; omega
      · have g2 : (x == [46, 46]) = false := beq_eq_false_iff_ne.2 h2
        have HCC := Lib.hid (show cleanL o [x] = some (o ++ [x]) by rw [cleanL, if_neg (by rintro (e | e); exact h0 e; exact h1 e), if_neg h2]; rfl)
        clear h0 h1 h2
        go_wp2_with (at_builtin; refine wpList_text (.tmp 46) (.tmp 51) w1.heap.size _ o x _ rfl rfl rfl rfl HR.out (by omega) HX.out.size ?_; intro g5 cap5 w5 ho5 hg5; have HX5 : Hid (Ext w1 w5) := Lib.hid (HX.out.trans hg5 (fun _ _ h => h) (fun k hk hq => absurd hk (by omega))); have HO5 := Lib.hid ho5; clear ho5 hg5)
        go_roundw
        case rel => exact ⟨j + 1, o ++ [x], _, rfl, by omega, by go_num, by simp; omega, Lib.hid (HST.out.trans HCC.out), HX5, Lib.hid (by rw [List.length_append]; exact HO5.out)⟩
        case measure => simp [intOf]; omega
    · have hltz : ¬ ((j : Int) < (l.length : Int)) := by omega
      have hcl2 : cleanL [] l = some o := by have := HCL.out; rw [List.take_of_length_le (by omega)] at this; exact this
      have hrr := HRR.out
      rw [hcl2] at hrr
      have hol : ∀ y ∈ o, y.length ≤ 200 := fun y hy => by
        rcases cleanL_mem _ _ _ hcl2 y hy with h | h
        · cases h
        · exact HXL.out y h
      have hox : o.length ≤ 201 := by omega
      have HOL := Lib.hid hol
      have HX2 := Lib.hid (HO.out.ext HX.out)
      clear hcl2 hol
      by_cases hon : o = []
      · have hv : ∃ a cap, v0 = .slice a 0 cap := by
          have := HR.out.2
          rw [hon] at this
          rcases this with ⟨e, _⟩ | ⟨g, cap, cur, e, _⟩
          · exact ⟨_, _, e⟩
          · exact ⟨_, _, e⟩
        obtain ⟨a, cap2, rfl⟩ := hv
        have hb : ([], 6) = (t, k) := by rw [← hrr, hon]; rfl
        have ht : [] = t := congrArg Prod.fst hb
        have hk : 6 = k := congrArg Prod.snd hb
        subst ht hk
        clear hb hon HRR hrr
        go_wp2_with fail
        go_ret2
        exact ⟨rfl, HX2.out⟩
      · obtain ⟨m, hm⟩ : ∃ m, o.length = m + 1 := ⟨o.length - 1, by have := List.length_pos_iff.2 hon; omega⟩
        obtain ⟨g2b, cap2, rfl, hcap, _⟩ := rowCut hm HR.out
        have hrow := HR.out
        rw [hm] at hrow
        have HD2 := Lib.hid (rowRd hrow)
        obtain ⟨x0, hx0⟩ : ∃ x, o[0]? = some x := ⟨_, List.getElem?_eq_getElem (by omega)⟩
        have c0 : wr.cell? ⟨g2b, 0, none⟩ = some (S x0) := rowRd hrow 0 x0 hx0
        have hj0 : joinS (o.take 1) = x0 := by
          rw [List.take_add_one, hx0]; simp [joinS_one]
        have HJ0 := Lib.hid hj0
        have q0 : ((m : Int) + 1 == 0) = false := beq_eq_false_iff_ne.2 (by omega)
        have q00 : (0 : Int) < (m : Int) + 1 := by omega
        have hmm : m ≤ 1000 := by omega
        have HM := Lib.hid hm
        have hrr2 : (if pathOk (joinS o) then (joinS o, 0) else (([] : B), 4)) = (t, k) := by rw [← hrr]; unfold cleanEnd; simp only []; rw [if_neg hon]
        have HRR2 := Lib.hid hrr2
        clear hrr hrow hx0 hj0 hon hrr2 HRR
        go_wp2_with fail
        go_loop [7, 8] (fun tv i => ∃ q : Nat, 1 ≤ q ∧ q ≤ m + 1 ∧ i = .int .i64 q ∧ tv = S (joinS (o.take q))) (fun _ i => m + 1 - (intOf i).toNat)
        case atStart => exact ⟨1, Nat.le_refl _, by omega, rfl, by rw [HJ0.out]⟩
        case round =>
          obtain ⟨q, hq1, hq2, rfl, rfl⟩ := hrel
          by_cases hlt2 : q < m + 1
          · have hqz : (q : Int) < (m : Int) + 1 := by omega
            obtain ⟨x, hx⟩ : ∃ x, o[q]? = some x := ⟨_, List.getElem?_eq_getElem (by have := HM.out; omega)⟩
            have c1 := HD2.out q x hx
            have hst := joinS_snoc hq1 hx
            have hjl := joinS_take_le o q HOL.out hox
            have hxl := HOL.out x (List.mem_of_getElem? hx)
            obtain ⟨T, hT⟩ : ∃ T, T = joinS (o.take q) := ⟨_, rfl⟩
            rw [← hT] at hst hjl ⊢
            have hba : ((⟨T.toArray⟩ : ByteArray) ++ ⟨#[47]⟩ ++ ⟨x.toArray⟩) = ⟨(T ++ 47 :: x).toArray⟩ := by
              rw [show (⟨#[47]⟩ : ByteArray) = ⟨([47] : B).toArray⟩ from rfl, ba_cat, ba_cat]
              simp
            have HBA := Lib.hid hba
            have HST := Lib.hid hst
            have z1 : ¬ 9223372036854775807 < T.length + 1 := by omega
            have z2 : ¬ 9223372036854775807 < T.length + 1 + x.length := by omega
            clear hx hst hba hT
            go_wp2_with fail
            go_round
            case rel => exact ⟨q + 1, by omega, by omega, by go_num, by rw [HBA.out, HST.out]⟩
            case measure => simp [intOf]; omega
          · have hqz : ¬ ((q : Int) < (m : Int) + 1) := by omega
            have hto : o.take q = o := List.take_of_length_le (by have := HM.out; omega)
            have hjl : (joinS o).length ≤ 999999 := by have := joinS_take_le o q HOL.out hox; rw [hto] at this; omega
            rw [hto]
            have hp := isPath_any wr (joinS o) hjl
            obtain ⟨T, hT⟩ : ∃ T, T = joinS o := ⟨_, rfl⟩
            rw [← hT] at hp ⊢
            have HT := Lib.hid hT
            cases hb : pathOk T with
            | true =>
              rw [hb] at hp
              have HP := Lib.hid hp
              have he : (T, 0) = (t, k) := by rw [← HRR2.out, ← HT.out, hb]; rfl
              have ht : T = t := congrArg Prod.fst he
              have hk : 0 = k := congrArg Prod.snd he
              subst ht hk
              clear hp hb he hT hto hjl
              go_wp2_with fail
              refine HP.out.mono ?_
              rintro e w3 ⟨rfl, ho3⟩
              have HX3 := Lib.hid (HX2.out.ext ho3)
              clear ho3
              go_wp2_with fail
              go_ret2
              exact ⟨rfl, HX3.out⟩
            | false =>
              rw [hb] at hp
              have HP := Lib.hid hp
              have he : (([] : B), 4) = (t, k) := by rw [← HRR2.out, ← HT.out, hb]; rfl
              have ht : [] = t := congrArg Prod.fst he
              have hk : 4 = k := congrArg Prod.snd he
              subst ht hk
              clear hp hb he hT hto hjl
              go_wp2_with fail
              refine HP.out.mono ?_
              rintro e w3 ⟨rfl, ho3⟩
              have HX3 := Lib.hid (HX2.out.ext ho3)
              clear ho3
              go_wp2_with fail
              go_ret2
              exact ⟨rfl, HX3.out⟩

theorem refClean_any (w : World) (s : B) {t : B} {k : Nat} (hr : cleanR s = (t, k)) : Calls Tryd.prog 40 #[S s] w (RefCleanIs w t k) := by
  by_cases h : 200 < s.length
  · have : cleanR s = ([], 2) := by unfold cleanR; rw [if_pos h]
    rw [this] at hr
    cases hr
    exact refClean_long w s h
  · exact refClean_short w s h t k hr
end Go.Proofs.YtnmhaipjfpongaaDoor
