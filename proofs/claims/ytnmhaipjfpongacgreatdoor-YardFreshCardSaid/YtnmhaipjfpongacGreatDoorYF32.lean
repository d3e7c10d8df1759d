/- Texts of this seat laid together for one claim: F15. No condition of its own: what each proves stands with its theorems. -/
import Derived.Test.YtnmhaipjfpongacGreatDoorYF31
namespace Go.Proofs.YtnmhaipjfpongacGreatDoor
open Go.ChangeShapes Go.WideShapes Go.ChangeAt Go.RowKit

set_option maxRecDepth 100000 in
set_option maxHeartbeats 4000000 in
theorem made_sort (w : World) (nm wd : B) (l : List B) (v : Value) (he : KdIs .sort nm) (hv : Rd S w v l) (hb : sumLen l + l.length ≤ 900000) (hwd : wd = [] ∨ wd = [111, 110, 99, 101]) :
  Calls Tryz.prog 171 #[S nm, S wd, v] w (RetE (S (endedB (sortedB wd (allB l)))) w) := by
 obtain ⟨e1, e2, e3, e4, e5, e6, e7, e8⟩ := he
 change _ = false at e1; change _ = false at e2; change _ = false at e3; change _ = true at e4; change _ = false at e5; change _ = false at e6; change _ = false at e7; change _ = false at e8
 have hE : ∀ j, (endedB (allB (l.take j))).length ≤ 900000 := fun j => by
  have h2 := ended_all (l.take j)
  have h3 := sum_take l j
  have h4 : (l.take j).length ≤ l.length := List.length_take_le' _ _
  omega
 have hel : (endedB (allB l)).length ≤ 900000 := by have := ended_all l; omega
 have HX : Hid (∀ x ∈ l, x.length ≤ 900000) := Lib.hid fun x h => by have := sum_mem h; omega
 have HL := Lib.hid (fun W x (hx : x.length ≤ 900000) => refLines_any W x hx)
 have HLAY := Lib.hid (fun W b0 v acc s (hr : Row b0 W v acc) (h1 : ∃ X, acc = sortB X) (h2 : acc.length ≤ 900000) => lay_any W b0 v acc s hr (by obtain ⟨X, rfl⟩ := h1; exact sortB_pairwise X) h2)
 obtain ⟨a, cap, rfl, hcap, hm, hc⟩ := hv
 have hlm : (l.length : Int) ≤ 900000 := by omega
 obtain ⟨R, hR⟩ : ∃ R, R = endedB (sortedB wd (allB l)) := ⟨_, rfl⟩
 rw [← hR]
 have HC := Lib.hid hc
 have HE := Lib.hid hE
 have HR := Lib.hid hR
 have HEL := Lib.hid hel
 clear hc hE hR hel
 clear hm hcap hb
 go_enter Tryz.func171, Tryz.ntmps171
 go_wp2_with fail
 go_loopw [14, 15, 16, 17] (fun acc i _ _ wr => ∃ j : Nat, j ≤ l.length ∧ i = .int .i64 j ∧ Hid (Row w.heap.size wr acc (sortB (allB (l.take j)))) ∧ Hid (Ext w wr)) (fun _ i _ _ _ => l.length - (intOf i).toNat)
 case atStart => exact ⟨0, Nat.zero_le _, rfl, Lib.hid (by
  have : sortB (allB (l.take 0)) = [] := by rw [List.take_zero]; exact List.mergeSort_nil
  rw [this]; exact Row.nil _ _), Lib.hid (Only.refl _ _)⟩
 case round =>
  obtain ⟨j, hj, rfl, HROW, HXX⟩ := hrel
  by_cases hlt : j < l.length
  ·have hltz : (j : Int) < (l.length : Int) := by omega
   have hj0 : (0 : Int) ≤ (j : Int) := by omega
   obtain ⟨b0, off, rfl, hcell⟩ := HC.out (by intro h; rw [h] at hlt; simp at hlt)
   obtain ⟨x, hx⟩ : ∃ y, l[j]? = some y := ⟨_, List.getElem?_eq_getElem hlt⟩
   have d0 := HXX.out.cellOf (hcell j x hx) (fun h => h)
   have hx9 := HX.out x (List.mem_of_getElem? hx)
   have hst := all_step hx
   have hen := HE.out (j + 1)
   rw [hst] at hen
   have HLL := Lib.hid (HL.out wr x hx9)
   generalize linesB x = L at *
   obtain ⟨Y, hY⟩ : ∃ Y, Y = allB (l.take j) := ⟨_, rfl⟩
   rw [← hY] at hst hen HROW
   have hLz : L.length ≤ 900000 := by have h1 := len_ended (Y ++ L); rw [List.length_append] at h1; omega
   have HST := Lib.hid hst
   have HEN := Lib.hid hen
   clear hst hen
   clear hcell hx hY
   go_wp2_with fail
   refine (HLL.out).mono ?_
   rintro e w2 ⟨vL, rfl, ho, hr⟩
   have HX2 := Lib.hid (HXX.out.then ho)
   have HRR := Lib.hid hr
   have HROW2 := Lib.hid (HROW.out.ext ho)
   clear hr ho
   obtain ⟨aL, cL, rfl, hcapL, hmL, hcL⟩ := HRR.out
   have HCL := Lib.hid hcL
   clear hcL
   go_wp2_with fail
   go_loopw [14, 17] (fun acc k wq => ∃ i : Nat, i ≤ L.length ∧ k = .int .i64 i ∧ Hid (Row w.heap.size wq acc (sortB (Y ++ L.take i))) ∧ Hid (Ext w2 wq)) (fun _ k _ => L.length - (intOf k).toNat)
   case atStart => exact ⟨0, Nat.zero_le _, rfl, Lib.hid (by rw [List.take_zero, List.append_nil]; exact HROW2.out), Lib.hid (Only.refl _ _)⟩
   case round =>
    clear HROW HROW2
    obtain ⟨i, hi, rfl, HROW, HXW⟩ := hrel
    by_cases hlt2 : i < L.length
    ·have hlt2z : (i : Int) < (L.length : Int) := by omega
     have hi0 : (0 : Int) ≤ (i : Int) := by omega
     obtain ⟨bL, oL, rfl, hcell⟩ := HCL.out (by intro h; rw [h] at hlt2; simp at hlt2)
     obtain ⟨y, hy⟩ : ∃ y, L[i]? = some y := ⟨_, List.getElem?_eq_getElem hlt2⟩
     have d1 := HXW.out.cellOf (hcell i y hy) (fun h => h)
     have hlen : (sortB (Y ++ L.take i)).length ≤ 900000 := by
      rw [sortB_len]
      have h1 := len_ended (Y ++ L)
      have h2 := HEN.out
      have h3 : (L.take i).length ≤ L.length := List.length_take_le' _ _
      rw [List.length_append] at h1 ⊢
      omega
     have hlay := HLAY.out wr w.heap.size _ _ y HROW.out ⟨_, rfl⟩ hlen
     rw [sort_lay, List.append_assoc, show L.take i ++ [y] = L.take (i + 1) by rw [List.take_add_one, hy]; rfl] at hlay
     obtain ⟨va, hva⟩ : ∃ va : Value, ∃ _ : True, va = va := ⟨.nilIface, trivial, rfl⟩
     clear hva va
     have HLY := Lib.hid hlay
     clear hlay
     clear hcell hy hlen
     rcases HROW.out.cases with ⟨rfl, hnil⟩ | ⟨ga, capa, rfl⟩
     ·clear hnil
      go_wp2_with fail
      refine (HLY.out).mono ?_
      rintro e w4 ⟨v4, rfl, ho, hr⟩
      have HX4 := Lib.hid (HXW.out.then ho)
      have HR4 := Lib.hid (hr.down (HX2.out.then HXW.out).size)
      clear ho hr
      obtain ⟨a4, c4, rfl, _, _, _⟩ := HR4.out.rd
      go_wp2_with fail
      go_roundw
      case rel => exact ⟨i + 1, by omega, by go_num, HR4, HX4⟩
      case measure => simp [intOf]; omega
     ·go_wp2_with fail
      refine (HLY.out).mono ?_
      rintro e w4 ⟨v4, rfl, ho, hr⟩
      have HX4 := Lib.hid (HXW.out.then ho)
      have HR4 := Lib.hid (hr.down (HX2.out.then HXW.out).size)
      clear ho hr
      obtain ⟨a4, c4, rfl, _, _, _⟩ := HR4.out.rd
      go_wp2_with fail
      go_roundw
      case rel => exact ⟨i + 1, by omega, by go_num, HR4, HX4⟩
      case measure => simp [intOf]; omega
    ·have hlt2z : ¬ (i : Int) < (L.length : Int) := by omega
     have ht : L.take i = L := List.take_of_length_le (by omega)
     rw [ht, ← HST.out] at HROW
     have HX5 := Lib.hid (HX2.out.then HXW.out)
     obtain ⟨a4, c4, rfl, _, _, _⟩ := HROW.out.rd
     go_wp2_with fail
     go_roundw
     case rel => exact ⟨j + 1, by omega, by go_num, HROW, HX5⟩
     case measure => simp [intOf]; omega
  ·have hltz : ¬ (j : Int) < (l.length : Int) := by omega
   have ht : l.take j = l := List.take_of_length_le (by omega)
   rw [ht] at HROW
   have hR := HR.out
   have hlen : (endedB (sortB (allB l))).length ≤ 900000 := by have h1 : (endedB (sortB (allB l))).length = (endedB (allB l)).length := ended_perm (List.mergeSort_perm _ _); have := HEL.out; omega
   have hln := len_ended (sortB (allB l))
   unfold sortedB at hR
   generalize sortB (allB l) = T at *
   obtain ⟨aT, cT, rfl, hcapT, hmT, hcT⟩ := HROW.out.rd
   have hTl : (T.length : Int) ≤ 900000 := by omega
   have HLT : Hid (∀ k, (endedB (T.take k)).length ≤ 900000) := Lib.hid fun k => by have := ended_sub (List.take_sublist k T); omega
   have HLC : Hid (∀ k, k ≤ T.length → (endedB (keptB T k)).length ≤ 900000) := Lib.hid fun k hk => by
    have h1 : (keptB T k).Sublist T := ((kept_prefix T k T.length hk).sublist).trans (kept_all T ▸ compact_sublist T)
    have := ended_sub h1
    omega
   have HCT := Lib.hid hcT
   clear hcT
   clear hlen hln ht HE HL HLAY HEL HC HX hlt hj
   rcases hwd with rfl | rfl
   ·rw [if_neg (by decide)] at hR
    have HRR := Lib.hid hR
    clear hR
    go_wp2_with fail
    go_loopw [7, 18] (fun s i wq => ∃ (k : Nat) (A : B), k ≤ T.length ∧ i = .int .i64 k ∧ s = S A ∧ A.length ≤ 900000 ∧ Hid (A = endedB (T.take k)) ∧ Hid (Ext wr wq)) (fun _ i _ => T.length - (intOf i).toNat)
    case atStart => exact ⟨0, [], Nat.zero_le _, rfl, rfl, by simp, Lib.hid (by simp [endedB]), Lib.hid (Only.refl _ _)⟩
    case round =>
     obtain ⟨k, A, hk, rfl, rfl, hA9, HA, HXW⟩ := hrel
     by_cases hlt : k < T.length
     ·have hltz : (k : Int) < (T.length : Int) := by omega
      have hk0 : (0 : Int) ≤ (k : Int) := by omega
      obtain ⟨bT, oT, rfl, hcell⟩ := HCT.out (by intro h; rw [h] at hlt; simp at hlt)
      obtain ⟨y, hy⟩ : ∃ y, T[k]? = some y := ⟨_, List.getElem?_eq_getElem hlt⟩
      have d1 := HXW.out.cellOf (hcell k y hy) (fun h => h)
      have d2 := fun m => (HXW.out.thenDrewN m).cellOf (hcell k y hy) (fun h => h)
      have hst := ended_step hy
      rw [← HA.out] at hst
      have hb9 := HLT.out (k + 1)
      rw [hst] at hb9
      have hba : (⟨A.toArray⟩ : ByteArray) ++ ⟨y.toArray⟩ ++ ⟨#[10]⟩ = ⟨(A ++ (y ++ [10])).toArray⟩ := by rw [ba_app A y, ba_10, List.append_assoc]
      have hyl : A.length + y.length + 1 ≤ 900000 := by simp at hb9; omega
      have q1 : ¬ 9223372036854775807 < A.length + y.length := by omega
      have q2 : ¬ 9223372036854775807 < A.length + y.length + 1 := by omega
      have HBA := Lib.hid hba
      have HSS := Lib.hid hst
      have HB9 := Lib.hid hb9
      clear hba hst hb9
      clear hcell hy d1
      go_wp2_with fail
      go_quiet (fail)
      go_wp2_with fail
      go_roundw
      case rel => exact ⟨k + 1, A ++ (y ++ [10]), by omega, by go_num, congrArg Value.string HBA.out, HB9.out, Lib.hid HSS.out.symm, Lib.hid (HXW.out.thenDrewN _)⟩
      case measure => simp [intOf]; omega
     ·have hltz : ¬ (k : Int) < (T.length : Int) := by omega
      have ht : T.take k = T := List.take_of_length_le (by omega)
      rw [ht, ← HRR.out] at HA
      go_wp2_with fail
      go_ret
      exact ⟨by rw [HA.out]; rfl, HXX.out.then HXW.out⟩
   ·rw [if_pos rfl] at hR
    have hw1 : (([111, 110, 99, 101] : B) == []) = false := by decide
    have HRR := Lib.hid hR
    clear hR
    generalize ([111, 110, 99, 101] : B) = wd at *
    go_wp2_with fail
    go_loopw [7, 18] (fun s i wq => ∃ (k : Nat) (A : B), k ≤ T.length ∧ i = .int .i64 k ∧ s = S A ∧ A.length ≤ 900000 ∧ Hid (A = endedB (keptB T k)) ∧ Hid (Ext wr wq)) (fun _ i _ => T.length - (intOf i).toNat)
    case atStart => exact ⟨0, [], Nat.zero_le _, rfl, rfl, by simp, Lib.hid (by rw [kept_zero]; simp [endedB]), Lib.hid (Only.refl _ _)⟩
    case round =>
     obtain ⟨k, A, hk, rfl, rfl, hA9, HA, HXW⟩ := hrel
     by_cases hlt : k < T.length
     ·have hltz : (k : Int) < (T.length : Int) := by omega
      have hk0 : (0 : Int) ≤ (k : Int) := by omega
      obtain ⟨bT, oT, rfl, hcell⟩ := HCT.out (by intro h; rw [h] at hlt; simp at hlt)
      obtain ⟨y, hy⟩ : ∃ y, T[k]? = some y := ⟨_, List.getElem?_eq_getElem hlt⟩
      by_cases hold : ∃ k', k = k' + 1 ∧ T[k']? = some y
      ·obtain ⟨k', hkk, hy'⟩ := hold
       have d1 := HXW.out.cellOf (hcell k y hy) (fun h => h)
       have d2 := HXW.out.cellOf (hcell k' y hy') (fun h => h)
       have HKO := Lib.hid (kept_old (hkk ▸ hy) hy')
       have hwk : IntKind.i64.wrap ((k : Int) - 1) = (k' : Int) := by rw [show (k : Int) - 1 = (k' : Int) by omega]; exact IntWalk.i64_in _ (by omega)
       have hk1 : (0 : Int) ≤ (k' : Int) := by omega
       have hk2 : (k' : Int) < (T.length : Int) := by omega
       have hkz : ((k : Int) == 0) = false := beq_eq_false_iff_ne.2 (by omega)
       have hyy : (y == y) = true := by simp
       have HKK := Lib.hid hkk
       clear hcell hy hy' hkk
       go_wp2_with fail
       go_quiet (fail)
       clear hwk
       go_wp2_with fail
       go_roundw
       case rel => exact ⟨k + 1, A, by omega, by go_num, rfl, hA9, Lib.hid (by rw [HA.out, HKK.out, HKO.out]), Lib.hid (HXW.out.thenDrewN _)⟩
       case measure => simp [intOf]; omega
      ·have hnew : ∀ k' z, k = k' + 1 → T[k']? = some z → y ≠ z := fun k' z e1 e2 e3 => hold ⟨k', e1, by rw [e3]; exact e2⟩
       have hst : endedB (keptB T (k + 1)) = A ++ (y ++ [10]) := by rw [kept_new hy hnew, ended_app, HA.out]; simp [endedB]
       have hb9 := HLC.out (k + 1) hlt
       rw [hst] at hb9
       have hba : (⟨A.toArray⟩ : ByteArray) ++ ⟨y.toArray⟩ ++ ⟨#[10]⟩ = ⟨(A ++ (y ++ [10])).toArray⟩ := by rw [ba_app A y, ba_10, List.append_assoc]
       have hyl : A.length + y.length + 1 ≤ 900000 := by simp at hb9; omega
       have q1 : ¬ 9223372036854775807 < A.length + y.length := by omega
       have q2 : ¬ 9223372036854775807 < A.length + y.length + 1 := by omega
       have HBA := Lib.hid hba
       have HSS := Lib.hid hst
       have HB9 := Lib.hid hb9
       clear hba hst hb9
       have d1 := HXW.out.cellOf (hcell k y hy) (fun h => h)
       by_cases h0 : k = 0
       ·have d2 := fun m => (HXW.out.thenDrewN m).cellOf (hcell k y hy) (fun h => h)
        have hkz : ((k : Int) == 0) = true := beq_iff_eq.2 (by omega)
        clear hcell hy d1 hnew hold h0
        go_wp2_with fail
        go_quiet (fail)
        go_wp2_with fail
        go_roundw
        case rel => exact ⟨k + 1, A ++ (y ++ [10]), by omega, by go_num, congrArg Value.string HBA.out, HB9.out, Lib.hid HSS.out.symm, Lib.hid (HXW.out.thenDrewN _)⟩
        case measure => simp [intOf]; omega
       ·obtain ⟨k', hkk⟩ : ∃ k', k = k' + 1 := ⟨k - 1, by omega⟩
        obtain ⟨z, hz⟩ : ∃ z, T[k']? = some z := ⟨_, List.getElem?_eq_getElem (by omega)⟩
        have d2 := HXW.out.cellOf (hcell k' z hz) (fun h => h)
        have d3 := fun m => (HXW.out.thenDrewN m).cellOf (hcell k y hy) (fun h => h)
        have hne : (y == z) = false := beq_eq_false_iff_ne.2 (hnew k' z hkk hz)
        have hwk : IntKind.i64.wrap ((k : Int) - 1) = (k' : Int) := by rw [show (k : Int) - 1 = (k' : Int) by omega]; exact IntWalk.i64_in _ (by omega)
        have hk1 : (0 : Int) ≤ (k' : Int) := by omega
        have hk2 : (k' : Int) < (T.length : Int) := by omega
        have hkz : ((k : Int) == 0) = false := beq_eq_false_iff_ne.2 (by omega)
        clear hcell hy hz hkk hnew hold h0
        go_wp2_with fail
        go_quiet (fail)
        clear hwk
        go_wp2_with fail
        go_roundw
        case rel => exact ⟨k + 1, A ++ (y ++ [10]), by omega, by go_num, congrArg Value.string HBA.out, HB9.out, Lib.hid HSS.out.symm, Lib.hid (HXW.out.thenDrewN _)⟩
        case measure => simp [intOf]; omega
     ·have hltz : ¬ (k : Int) < (T.length : Int) := by omega
      obtain rfl : k = T.length := by omega
      rw [kept_all, ← HRR.out] at HA
      go_wp2_with fail
      go_ret
      exact ⟨by rw [HA.out]; rfl, HXX.out.then HXW.out⟩
end Go.Proofs.YtnmhaipjfpongacGreatDoor
