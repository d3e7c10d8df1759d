/- Texts of this seat laid together for one claim: I2, I3, F15, F16, S10. No condition of its own: what each proves stands with its theorems. -/
import Derived.BigQuiet
import Derived.Deep.QuietTactic
import Derived.Test.YtnmhaipjfpongacGreatDoorBR21
import Derived.Test.YtnmhaipjfpongacGreatDoorBR28
import Derived.Test.YtnmhaipjfpongacGreatDoorBR40
import Derived.Test.YtnmhaipjfpongacGreatDoorBR15
import Derived.Test.YtnmhaipjfpongacGreatDoorBR12
import Derived.Test.YtnmhaipjfpongacGreatDoorBR8
import Derived.Test.YtnmhaipjfpongacGreatDoorBR10
namespace Go.Proofs.YtnmhaipjfpongacGreatDoor
open Go.ChangeShapes Go.WideShapes Go.ChangeAt Go.RowKit

theorem lookup_filterG {α : Type} {k s : B} : ∀ (L : List (B × α)), s ≠ k → (L.filter fun p => !(p.1 == k)).lookup s = L.lookup s
 | [], _ => rfl
 | (a, x) :: L, h => by
  by_cases ha : a = k
  ·subst ha
   have hs : (s == a) = false := beq_eq_false_iff_ne.2 h
   rw [List.filter_cons_of_neg (by simp), lookup_filterG L h, List.lookup, hs]
  ·rw [List.filter_cons_of_pos (by simpa using ha)]
   simp only [List.lookup]
   rw [lookup_filterG L h]
theorem Knows.more {W : B → Tld} {L : List (B × Tld)} (h : Knows W L) {p : B} {x : Tld} (hx : x = W p) : Knows W ((p, x) :: L.filter fun q => !(q.1 == p)) := fun q y hq => by
 by_cases e : q = p
 ·subst e
  rw [List.lookup_cons, beq_self_eq_true] at hq
  cases hq
  exact hx
 ·have hs : (q == p) = false := beq_eq_false_iff_ne.2 e
  rw [List.lookup_cons, hs] at hq
  simp only at hq
  rw [lookup_filterG L e] at hq
  exact h q y hq
theorem AskAt.stored {w0 w w' : World} {P : Nat → Addr} {ab tb kb : Nat} {lv : Value} {L L' : List (B × Tld)} (h : AskAt w0 w P ab tb kb lv L) (ho : Only (fun b => b = kb) w w') (hm : KMap .string S (tEnc P) w' kb L') : AskAt w0 w' P ab tb kb lv L' :=
 ⟨h.ext.trans ho (fun _ _ h => h) (fun i hi e => by have := h.lo; omega), ho.heapOf h.cells (fun e => h.lo.2.2 e), hm, h.lo⟩

end Go.Proofs.YtnmhaipjfpongacGreatDoor

namespace Go.Proofs.YtnmhaipjfpongacGreatDoor
open Go.ChangeShapes Go.WideShapes Go.ChangeAt Go.RowKit

theorem ErrAt.errC (w : World) (P : Nat → Addr) (c : Nat) : ErrAt w P (c, -1) (errC P c) := by
 cases c with
 | zero => exact ErrAt.nil _ _ _
 | succ c => exact .inr (.inl ⟨by simp, rfl, rfl⟩)

theorem lit_rd (w : World) (out : B) : Rd S (w.alloc (.cells #[S out] 9 (0, 0))) (.slice (some ⟨w.heap.size, 0, none⟩) 1 1) [out] :=
 ⟨_, 1, rfl, Nat.le_refl _, by decide, fun _ => ⟨_, 0, rfl, fun i x hx => by
  have hz := (MapKept.heap_alloc w (.cells #[S out] 9 (0, 0))).1
  obtain ⟨rfl, hx2⟩ : i = 0 ∧ x = out := by
   rcases i with _ | i
   ·simp at hx; exact ⟨rfl, hx.symm⟩
   ·simp at hx
  subst hx2
  exact cell_of_heap hz 0⟩⟩

end Go.Proofs.YtnmhaipjfpongacGreatDoor

namespace Go.Proofs.YtnmhaipjfpongacGreatDoor
open Go.ChangeShapes Go.WideShapes Go.ChangeAt Go.RowKit

set_option maxRecDepth 100000 in
set_option maxHeartbeats 4000000 in
theorem made_sort (w : World) (nm wd : B) (l : List B) (v : Value) (he : KdIs .sort nm) (hv : Rd S w v l) (hb : sumLen l + l.length ≤ 900000) (hwd : wd = [] ∨ wd = [111, 110, 99, 101]) :
  Calls Tryz.prog 171 #[S nm, S wd, v] w (RetE (S (endedB (sortedB wd (allB l)))) w) := by
 obtain ⟨e1, e2, e3, e4, e5, e6, e7, e8⟩ := he
 change _ = false at e1; change _ = false at e2; change _ = false at e3; change _ = true at e4; change _ = false at e5; change _ = false at e6; change _ = false at e7; change _ = false at e8
 have hE : ∀ j, (endedB (allB (l.take j))).length ≤ 900000 := fun j => by
  have h2 := ended_all (l.take j)
  have h3 := sum_take l j
  have h4 : (l.take j).length ≤ l.length := List.length_take_le' _ _
  omega
 have hel : (endedB (allB l)).length ≤ 900000 := by have := ended_all l; omega
 have HX : Hid (∀ x ∈ l, x.length ≤ 900000) := Lib.hid fun x h => by have := sum_mem h; omega
 have HL := Lib.hid (fun W x (hx : x.length ≤ 900000) => refLines_any W x hx)
 have HLAY := Lib.hid (fun W b0 v acc s (hr : Row b0 W v acc) (h1 : ∃ X, acc = sortB X) (h2 : acc.length ≤ 900000) => lay_any W b0 v acc s hr (by obtain ⟨X, rfl⟩ := h1; exact sortB_pairwise X) h2)
 obtain ⟨a, cap, rfl, hcap, hm, hc⟩ := hv
 have hlm : (l.length : Int) ≤ 900000 := by omega
 obtain ⟨R, hR⟩ : ∃ R, R = endedB (sortedB wd (allB l)) := ⟨_, rfl⟩
 rw [← hR]
 have HC := Lib.hid hc
 have HE := Lib.hid hE
 have HR := Lib.hid hR
 have HEL := Lib.hid hel
 clear hc hE hR hel
 clear hm hcap hb
 go_enter Tryz.func171, Tryz.ntmps171
 go_wp2_with fail
 go_loopw [14, 15, 16, 17] (fun acc i _ _ wr => ∃ j : Nat, j ≤ l.length ∧ i = .int .i64 j ∧ Hid (Row w.heap.size wr acc (sortB (allB (l.take j)))) ∧ Hid (Ext w wr)) (fun _ i _ _ _ => l.length - (intOf i).toNat)
 case atStart => exact ⟨0, Nat.zero_le _, rfl, Lib.hid (by
  have : sortB (allB (l.take 0)) = [] := by rw [List.take_zero]; exact List.mergeSort_nil
  rw [this]; exact Row.nil _ _), Lib.hid (Only.refl _ _)⟩
 case round =>
  obtain ⟨j, hj, rfl, HROW, HXX⟩ := hrel
  by_cases hlt : j < l.length
  ·have hltz : (j : Int) < (l.length : Int) := by omega
   have hj0 : (0 : Int) ≤ (j : Int) := by omega
   obtain ⟨b0, off, rfl, hcell⟩ := HC.out (by intro h; rw [h] at hlt; simp at hlt)
   obtain ⟨x, hx⟩ : ∃ y, l[j]? = some y := ⟨_, List.getElem?_eq_getElem hlt⟩
   have d0 := HXX.out.cellOf (hcell j x hx) (fun h => h)
   have hx9 := HX.out x (List.mem_of_getElem? hx)
   have hst := all_step hx
   have hen := HE.out (j + 1)
   rw [hst] at hen
   have HLL := Lib.hid (HL.out wr x hx9)
   generalize linesB x = L at *
   obtain ⟨Y, hY⟩ : ∃ Y, Y = allB (l.take j) := ⟨_, rfl⟩
   rw [← hY] at hst hen HROW
   have hLz : L.length ≤ 900000 := by have h1 := len_ended (Y ++ L); rw [List.length_append] at h1; omega
   have HST := Lib.hid hst
   have HEN := Lib.hid hen
   clear hst hen
   clear hcell hx hY
   go_wp2_with fail
   refine (HLL.out).mono ?_
   rintro e w2 ⟨vL, rfl, ho, hr⟩
   have HX2 := Lib.hid (HXX.out.then ho)
   have HRR := Lib.hid hr
   have HROW2 := Lib.hid (HROW.out.ext ho)
   clear hr ho
   obtain ⟨aL, cL, rfl, hcapL, hmL, hcL⟩ := HRR.out
   have HCL := Lib.hid hcL
   clear hcL
   go_wp2_with fail
   go_loopw [14, 17] (fun acc k wq => ∃ i : Nat, i ≤ L.length ∧ k = .int .i64 i ∧ Hid (Row w.heap.size wq acc (sortB (Y ++ L.take i))) ∧ Hid (Ext w2 wq)) (fun _ k _ => L.length - (intOf k).toNat)
   case atStart => exact ⟨0, Nat.zero_le _, rfl, Lib.hid (by rw [List.take_zero, List.append_nil]; exact HROW2.out), Lib.hid (Only.refl _ _)⟩
   case round =>
    clear HROW HROW2
    obtain ⟨i, hi, rfl, HROW, HXW⟩ := hrel
    by_cases hlt2 : i < L.length
    ·have hlt2z : (i : Int) < (L.length : Int) := by omega
     have hi0 : (0 : Int) ≤ (i : Int) := by omega
     obtain ⟨bL, oL, rfl, hcell⟩ := HCL.out (by intro h; rw [h] at hlt2; simp at hlt2)
     obtain ⟨y, hy⟩ : ∃ y, L[i]? = some y := ⟨_, List.getElem?_eq_getElem hlt2⟩
     have d1 := HXW.out.cellOf (hcell i y hy) (fun h => h)
     have hlen : (sortB (Y ++ L.take i)).length ≤ 900000 := by
      rw [sortB_len]
      have h1 := len_ended (Y ++ L)
      have h2 := HEN.out
      have h3 : (L.take i).length ≤ L.length := List.length_take_le' _ _
      rw [List.length_append] at h1 ⊢
      omega
     have hlay := HLAY.out wr w.heap.size _ _ y HROW.out ⟨_, rfl⟩ hlen
     rw [sort_lay, List.append_assoc, show L.take i ++ [y] = L.take (i + 1) by rw [List.take_add_one, hy]; rfl] at hlay
     obtain ⟨va, hva⟩ : ∃ va : Value, ∃ _ : True, va = va := ⟨.nilIface, trivial, rfl⟩
     clear hva va
     have HLY := Lib.hid hlay
     clear hlay
     clear hcell hy hlen
     rcases HROW.out.cases with ⟨rfl, hnil⟩ | ⟨ga, capa, rfl⟩
     ·clear hnil
      go_wp2_with fail
      refine (HLY.out).mono ?_
      rintro e w4 ⟨v4, rfl, ho, hr⟩
      have HX4 := Lib.hid (HXW.out.then ho)
      have HR4 := Lib.hid (hr.down (HX2.out.then HXW.out).size)
      clear ho hr
      obtain ⟨a4, c4, rfl, _, _, _⟩ := HR4.out.rd
      go_wp2_with fail
      go_roundw
      case rel => exact ⟨i + 1, by omega, by go_num, HR4, HX4⟩
      case measure => simp [intOf]; omega
     ·go_wp2_with fail
      refine (HLY.out).mono ?_
      rintro e w4 ⟨v4, rfl, ho, hr⟩
      have HX4 := Lib.hid (HXW.out.then ho)
      have HR4 := Lib.hid (hr.down (HX2.out.then HXW.out).size)
      clear ho hr
      obtain ⟨a4, c4, rfl, _, _, _⟩ := HR4.out.rd
      go_wp2_with fail
      go_roundw
      case rel => exact ⟨i + 1, by omega, by go_num, HR4, HX4⟩
      case measure => simp [intOf]; omega
    ·have hlt2z : ¬ (i : Int) < (L.length : Int) := by omega
     have ht : L.take i = L := List.take_of_length_le (by omega)
     rw [ht, ← HST.out] at HROW
     have HX5 := Lib.hid (HX2.out.then HXW.out)
     obtain ⟨a4, c4, rfl, _, _, _⟩ := HROW.out.rd
     go_wp2_with fail
     go_roundw
     case rel => exact ⟨j + 1, by omega, by go_num, HROW, HX5⟩
     case measure => simp [intOf]; omega
  ·have hltz : ¬ (j : Int) < (l.length : Int) := by omega
   have ht : l.take j = l := List.take_of_length_le (by omega)
   rw [ht] at HROW
   have hR := HR.out
   have hlen : (endedB (sortB (allB l))).length ≤ 900000 := by have h1 : (endedB (sortB (allB l))).length = (endedB (allB l)).length := ended_perm (List.mergeSort_perm _ _); have := HEL.out; omega
   have hln := len_ended (sortB (allB l))
   unfold sortedB at hR
   generalize sortB (allB l) = T at *
   obtain ⟨aT, cT, rfl, hcapT, hmT, hcT⟩ := HROW.out.rd
   have hTl : (T.length : Int) ≤ 900000 := by omega
   have HLT : Hid (∀ k, (endedB (T.take k)).length ≤ 900000) := Lib.hid fun k => by have := ended_sub (List.take_sublist k T); omega
   have HLC : Hid (∀ k, k ≤ T.length → (endedB (keptB T k)).length ≤ 900000) := Lib.hid fun k hk => by
    have h1 : (keptB T k).Sublist T := ((kept_prefix T k T.length hk).sublist).trans (kept_all T ▸ compact_sublist T)
    have := ended_sub h1
    omega
   have HCT := Lib.hid hcT
   clear hcT
   clear hlen hln ht HE HL HLAY HEL HC HX hlt hj
   rcases hwd with rfl | rfl
   ·rw [if_neg (by decide)] at hR
    have HRR := Lib.hid hR
    clear hR
    go_wp2_with fail
    go_loopw [7, 18] (fun s i wq => ∃ (k : Nat) (A : B), k ≤ T.length ∧ i = .int .i64 k ∧ s = S A ∧ A.length ≤ 900000 ∧ Hid (A = endedB (T.take k)) ∧ Hid (Ext wr wq)) (fun _ i _ => T.length - (intOf i).toNat)
    case atStart => exact ⟨0, [], Nat.zero_le _, rfl, rfl, by simp, Lib.hid (by simp [endedB]), Lib.hid (Only.refl _ _)⟩
    case round =>
     obtain ⟨k, A, hk, rfl, rfl, hA9, HA, HXW⟩ := hrel
     by_cases hlt : k < T.length
     ·have hltz : (k : Int) < (T.length : Int) := by omega
      have hk0 : (0 : Int) ≤ (k : Int) := by omega
      obtain ⟨bT, oT, rfl, hcell⟩ := HCT.out (by intro h; rw [h] at hlt; simp at hlt)
      obtain ⟨y, hy⟩ : ∃ y, T[k]? = some y := ⟨_, List.getElem?_eq_getElem hlt⟩
      have d1 := HXW.out.cellOf (hcell k y hy) (fun h => h)
      have d2 := fun m => (HXW.out.thenDrewN m).cellOf (hcell k y hy) (fun h => h)
      have hst := ended_step hy
      rw [← HA.out] at hst
      have hb9 := HLT.out (k + 1)
      rw [hst] at hb9
      have hba : (⟨A.toArray⟩ : ByteArray) ++ ⟨y.toArray⟩ ++ ⟨#[10]⟩ = ⟨(A ++ (y ++ [10])).toArray⟩ := by rw [ba_app A y, ba_10, List.append_assoc]
      have hyl : A.length + y.length + 1 ≤ 900000 := by simp at hb9; omega
      have q1 : ¬ 9223372036854775807 < A.length + y.length := by omega
      have q2 : ¬ 9223372036854775807 < A.length + y.length + 1 := by omega
      have HBA := Lib.hid hba
      have HSS := Lib.hid hst
      have HB9 := Lib.hid hb9
      clear hba hst hb9
      clear hcell hy d1
      go_wp2_with fail
      go_quiet (fail)
      go_wp2_with fail
      go_roundw
      case rel => exact ⟨k + 1, A ++ (y ++ [10]), by omega, by go_num, congrArg Value.string HBA.out, HB9.out, Lib.hid HSS.out.symm, Lib.hid (HXW.out.thenDrewN _)⟩
      case measure => simp [intOf]; omega
     ·have hltz : ¬ (k : Int) < (T.length : Int) := by omega
      have ht : T.take k = T := List.take_of_length_le (by omega)
      rw [ht, ← HRR.out] at HA
      go_wp2_with fail
      go_ret
      exact ⟨by rw [HA.out]; rfl, HXX.out.then HXW.out⟩
   ·rw [if_pos rfl] at hR
    have hw1 : (([111, 110, 99, 101] : B) == []) = false := by decide
    have HRR := Lib.hid hR
    clear hR
    generalize ([111, 110, 99, 101] : B) = wd at *
    go_wp2_with fail
    go_loopw [7, 18] (fun s i wq => ∃ (k : Nat) (A : B), k ≤ T.length ∧ i = .int .i64 k ∧ s = S A ∧ A.length ≤ 900000 ∧ Hid (A = endedB (keptB T k)) ∧ Hid (Ext wr wq)) (fun _ i _ => T.length - (intOf i).toNat)
    case atStart => exact ⟨0, [], Nat.zero_le _, rfl, rfl, by simp, Lib.hid (by rw [kept_zero]; simp [endedB]), Lib.hid (Only.refl _ _)⟩
    case round =>
     obtain ⟨k, A, hk, rfl, rfl, hA9, HA, HXW⟩ := hrel
     by_cases hlt : k < T.length
     ·have hltz : (k : Int) < (T.length : Int) := by omega
      have hk0 : (0 : Int) ≤ (k : Int) := by omega
      obtain ⟨bT, oT, rfl, hcell⟩ := HCT.out (by intro h; rw [h] at hlt; simp at hlt)
      obtain ⟨y, hy⟩ : ∃ y, T[k]? = some y := ⟨_, List.getElem?_eq_getElem hlt⟩
      by_cases hold : ∃ k', k = k' + 1 ∧ T[k']? = some y
      ·obtain ⟨k', hkk, hy'⟩ := hold
       have d1 := HXW.out.cellOf (hcell k y hy) (fun h => h)
       have d2 := HXW.out.cellOf (hcell k' y hy') (fun h => h)
       have HKO := Lib.hid (kept_old (hkk ▸ hy) hy')
       have hwk : IntKind.i64.wrap ((k : Int) - 1) = (k' : Int) := by rw [show (k : Int) - 1 = (k' : Int) by omega]; exact IntWalk.i64_in _ (by omega)
       have hk1 : (0 : Int) ≤ (k' : Int) := by omega
       have hk2 : (k' : Int) < (T.length : Int) := by omega
       have hkz : ((k : Int) == 0) = false := beq_eq_false_iff_ne.2 (by omega)
       have hyy : (y == y) = true := by simp
       have HKK := Lib.hid hkk
       clear hcell hy hy' hkk
       go_wp2_with fail
       go_quiet (fail)
       clear hwk
       go_wp2_with fail
       go_roundw
       case rel => exact ⟨k + 1, A, by omega, by go_num, rfl, hA9, Lib.hid (by rw [HA.out, HKK.out, HKO.out]), Lib.hid (HXW.out.thenDrewN _)⟩
       case measure => simp [intOf]; omega
      ·have hnew : ∀ k' z, k = k' + 1 → T[k']? = some z → y ≠ z := fun k' z e1 e2 e3 => hold ⟨k', e1, by rw [e3]; exact e2⟩
       have hst : endedB (keptB T (k + 1)) = A ++ (y ++ [10]) := by rw [kept_new hy hnew, ended_app, HA.out]; simp [endedB]
       have hb9 := HLC.out (k + 1) hlt
       rw [hst] at hb9
       have hba : (⟨A.toArray⟩ : ByteArray) ++ ⟨y.toArray⟩ ++ ⟨#[10]⟩ = ⟨(A ++ (y ++ [10])).toArray⟩ := by rw [ba_app A y, ba_10, List.append_assoc]
       have hyl : A.length + y.length + 1 ≤ 900000 := by simp at hb9; omega
       have q1 : ¬ 9223372036854775807 < A.length + y.length := by omega
       have q2 : ¬ 9223372036854775807 < A.length + y.length + 1 := by omega
       have HBA := Lib.hid hba
       have HSS := Lib.hid hst
       have HB9 := Lib.hid hb9
       clear hba hst hb9
       have d1 := HXW.out.cellOf (hcell k y hy) (fun h => h)
       by_cases h0 : k = 0
       ·have d2 := fun m => (HXW.out.thenDrewN m).cellOf (hcell k y hy) (fun h => h)
        have hkz : ((k : Int) == 0) = true := beq_iff_eq.2 (by omega)
        clear hcell hy d1 hnew hold h0
        go_wp2_with fail
        go_quiet (fail)
        go_wp2_with fail
        go_roundw
        case rel => exact ⟨k + 1, A ++ (y ++ [10]), by omega, by go_num, congrArg Value.string HBA.out, HB9.out, Lib.hid HSS.out.symm, Lib.hid (HXW.out.thenDrewN _)⟩
        case measure => simp [intOf]; omega
       ·obtain ⟨k', hkk⟩ : ∃ k', k = k' + 1 := ⟨k - 1, by omega⟩
        obtain ⟨z, hz⟩ : ∃ z, T[k']? = some z := ⟨_, List.getElem?_eq_getElem (by omega)⟩
        have d2 := HXW.out.cellOf (hcell k' z hz) (fun h => h)
        have d3 := fun m => (HXW.out.thenDrewN m).cellOf (hcell k y hy) (fun h => h)
        have hne : (y == z) = false := beq_eq_false_iff_ne.2 (hnew k' z hkk hz)
        have hwk : IntKind.i64.wrap ((k : Int) - 1) = (k' : Int) := by rw [show (k : Int) - 1 = (k' : Int) by omega]; exact IntWalk.i64_in _ (by omega)
        have hk1 : (0 : Int) ≤ (k' : Int) := by omega
        have hk2 : (k' : Int) < (T.length : Int) := by omega
        have hkz : ((k : Int) == 0) = false := beq_eq_false_iff_ne.2 (by omega)
        clear hcell hy hz hkk hnew hold h0
        go_wp2_with fail
        go_quiet (fail)
        clear hwk
        go_wp2_with fail
        go_roundw
        case rel => exact ⟨k + 1, A ++ (y ++ [10]), by omega, by go_num, congrArg Value.string HBA.out, HB9.out, Lib.hid HSS.out.symm, Lib.hid (HXW.out.thenDrewN _)⟩
        case measure => simp [intOf]; omega
     ·have hltz : ¬ (k : Int) < (T.length : Int) := by omega
      obtain rfl : k = T.length := by omega
      rw [kept_all, ← HRR.out] at HA
      go_wp2_with fail
      go_ret
      exact ⟨by rw [HA.out]; rfl, HXX.out.then HXW.out⟩
end Go.Proofs.YtnmhaipjfpongacGreatDoor

namespace Go.Proofs.YtnmhaipjfpongacGreatDoor
open Go.ChangeShapes Go.WideShapes Go.ChangeAt Go.RowKit

theorem repl_len (p q : B) (hp : p ≠ []) : ∀ (n : Nat) (s : B), s.length ≤ n → (Lib.replaceAll s p q).length ≤ s.length * (1 + q.length)
 | 0, s, h => by
  rw [List.length_eq_zero_iff.1 (Nat.le_zero.1 h), repl_nil hp]
  simp
 | n + 1, [], _ => by rw [repl_nil hp]; simp
 | n + 1, c :: r, h => by
  have hp1 : 1 ≤ p.length := List.length_pos_iff.2 hp
  cases hh : p.isPrefixOf (c :: r) with
  | true =>
   rw [repl_here hp hh, List.length_append]
   have hle : ((c :: r).drop p.length).length ≤ r.length := by rw [List.length_drop, List.length_cons]; omega
   have h1 := repl_len p q hp n ((c :: r).drop p.length) (by simp at h; omega)
   have h2 : ((c :: r).drop p.length).length * (1 + q.length) ≤ r.length * (1 + q.length) := Nat.mul_le_mul_right _ hle
   have h3 : (c :: r).length * (1 + q.length) = r.length * (1 + q.length) + (1 + q.length) := by rw [List.length_cons, Nat.succ_mul]
   omega
  | false =>
   rw [repl_skip hp hh, List.length_cons]
   have h1 := repl_len p q hp n r (by simpa using h)
   have h3 : (c :: r).length * (1 + q.length) = r.length * (1 + q.length) + (1 + q.length) := by rw [List.length_cons, Nat.succ_mul]
   omega

theorem refMade_any (w : World) (k : Kd) (wd : B) (l : List B) (v : Value) (hk : k ≠ .write) (hv : Rd S w v l) (hb : sumLen l + l.length ≤ 900000) (hw : wd.length ≤ 1000) (h1 : k.least ≤ l.length) (h2 : k.word wd = true) :
  Calls Tryz.prog 171 #[S k.name, S wd, v] w (RetE (S (k.run wd l)) w) := by
 have hx : ∀ x r, l = x :: r → x.length ≤ 900000 := fun x r e => by subst e; rw [sum_cons] at hb; omega
 have he := kdIs k
 cases k with
 | write => exact absurd rfl hk
 | join => exact made_join w _ wd l v he hv h1 hb hw
 | sort => exact made_sort w _ wd l v he hv hb (by
   have h3 : (wd == [] || wd == [111, 110, 99, 101]) = true := h2
   rw [Bool.or_eq_true, beq_iff_eq, beq_iff_eq] at h3
   exact h3)
 | count => exact made_count w _ wd l v he hv hb
 | upper =>
  cases l with
  | nil => simp [Kd.least] at h1
  | cons x r => exact made_upper w _ wd x r v he hv (hx x r rfl)
 | lines =>
  cases l with
  | nil => simp [Kd.least] at h1
  | cons x r => exact made_lines w _ wd x r v he hv (hx x r rfl) hw
 | swap =>
  cases l with
  | nil => simp [Kd.least] at h1
  | cons x r =>
   have hxl := hx x r rfl
   refine made_swap w _ wd x r v he hv hxl hw h2 ?_
   have h3 := repl_len (cut1 61 wd).1 (cut1 61 wd).2.1 (pair_cut h2) x.length x (Nat.le_refl _)
   have h4 := (cut1_len 61 wd).2
   have h5 : x.length * (1 + (cut1 61 wd).2.1.length) ≤ 900000 * 1001 := Nat.mul_le_mul hxl (by omega)
   omega
 | head =>
  cases l with
  | nil => simp [Kd.least] at h1
  | cons x r =>
   obtain ⟨n, hn⟩ := Option.isSome_iff_exists.1 h2
   have := made_head w _ wd x r v n he hv (hx x r rfl) hw hn
   show Calls _ _ _ _ (RetE (S (endedB ((linesB x).take ((numB 3 wd).getD 0)))) w)
   rw [hn]
   exact this

set_option maxRecDepth 100000 in
set_option maxHeartbeats 2000000 in
theorem actOf_any (w : World) (name wd : B) (l : List B) (v : Value) (hv : Rd S w v l) (hb : sumLen l + l.length ≤ 900000) (hw : wd.length ≤ 1000) :
  Calls Tryz.prog 97 #[S name, S wd, v] w (RetE (.tuple #[S (runOut name wd l), I (runCode name wd l)]) w) := by
 have HE := Lib.hid (actError_any w name wd l.length (by omega))
 cases hc : actCode name wd l.length with
 | succ c =>
  have e1 : runCode name wd l = c + 1 := by unfold runCode; rw [hc, if_neg (Nat.succ_ne_zero _)]
  have e2 : runOut name wd l = [] := by unfold runOut; rw [e1, if_neg (Nat.succ_ne_zero _)]
  rw [e1, e2]
  rw [hc] at HE
  obtain ⟨a, cap, rfl, _, _, _⟩ := hv
  have hcz : (0 : Int) < ((c + 1 : Nat) : Int) := by omega
  generalize ((c + 1 : Nat) : Int) = z at *
  clear e1 e2 hc hb hw
  go_enter Tryz.func97, Tryz.ntmps97
  go_wp2_with fail
  refine (HE.out).mono ?_
  rintro e w1 ⟨rfl, ho⟩
  have HO := Lib.hid ho
  clear ho
  go_wp2_with fail
  go_ret2
  exact ⟨rfl, HO.out⟩
 | zero =>
  obtain ⟨k, hk, h1, h2, h3⟩ := actCode_ok hc
  obtain rfl := kind_name hk
  have e0 : actOut k.name wd l = k.run wd l := by unfold actOut; rw [hk]
  have e1 : runCode k.name wd l = if 2000 < (k.run wd l).length then 10 else 0 := by unfold runCode; rw [hc, if_pos rfl, e0]
  have e2 : runOut k.name wd l = if 2000 < (k.run wd l).length then [] else k.run wd l := by
   unfold runOut
   rw [e1, e0]
   by_cases h : 2000 < (k.run wd l).length
   ·rw [if_pos h, if_pos h, if_neg (by decide)]
   ·rw [if_neg h, if_neg h, if_pos rfl]
  rw [e1, e2]
  rw [hc] at HE
  by_cases hwr : k = .write
  ·subst hwr
   show Calls _ _ _ _ (RetE (.tuple #[S (if 2000 < wd.length then [] else wd), I (if 2000 < wd.length then 10 else 0 : Nat)]) w)
   rw [if_neg (by omega), if_neg (by omega)]
   have hlz : ¬ (2000 : Int) < (wd.length : Int) := by omega
   obtain ⟨_, _, _, _, _, _, _, e8⟩ := kdIs .write
   change _ = true at e8
   obtain ⟨a, cap, rfl, _, _, _⟩ := hv
   generalize Kd.write.name = nm at *
   clear e0 e1 e2 hk h1 h2 h3 hc hb hw
   go_enter Tryz.func97, Tryz.ntmps97
   go_wp2_with fail
   refine (HE.out).mono ?_
   rintro e w1 ⟨rfl, ho⟩
   have HO := Lib.hid ho
   clear ho
   go_wp2_with fail
   go_ret2
   exact ⟨rfl, HO.out⟩
  ·have HM := Lib.hid (fun W (hW : Ext w W) => refMade_any W k wd l v hwr (hv.ext hW) hb hw h1 h2)
   obtain ⟨_, _, _, _, _, _, _, e8⟩ := kdIs k
   have e9 : Kd.isN 7 k = false := by cases k <;> first | rfl | exact absurd rfl hwr
   rw [e9] at e8
   obtain ⟨a, cap, rfl, _, _, _⟩ := hv
   generalize k.run wd l = out at *
   generalize k.name = nm at *
   clear e0 e1 e2 hk h1 h2 h3 hc hb hw e9 hwr
   by_cases hl : 2000 < out.length
   ·rw [if_pos hl, if_pos hl]
    have hlz : (2000 : Int) < (out.length : Int) := by omega
    clear hl
    go_enter Tryz.func97, Tryz.ntmps97
    go_wp2_with fail
    refine (HE.out).mono ?_
    rintro e w1 ⟨rfl, ho⟩
    have HO := Lib.hid ho
    clear ho
    go_wp2_with fail
    refine (HM.out _ HO.out).mono ?_
    rintro e w2 ⟨rfl, ho⟩
    have HO2 := Lib.hid (HO.out.then ho)
    clear ho
    go_wp2_with fail
    go_ret2
    exact ⟨rfl, HO2.out⟩
   ·rw [if_neg hl, if_neg hl]
    have hlz : ¬ (2000 : Int) < (out.length : Int) := by omega
    clear hl
    go_enter Tryz.func97, Tryz.ntmps97
    go_wp2_with fail
    refine (HE.out).mono ?_
    rintro e w1 ⟨rfl, ho⟩
    have HO := Lib.hid ho
    clear ho
    go_wp2_with fail
    refine (HM.out _ HO.out).mono ?_
    rintro e w2 ⟨rfl, ho⟩
    have HO2 := Lib.hid (HO.out.then ho)
    clear ho
    go_wp2_with fail
    go_ret2
    exact ⟨rfl, HO2.out⟩

end Go.Proofs.YtnmhaipjfpongacGreatDoor

namespace Go.Proofs.YtnmhaipjfpongacGreatDoor
open Go.ChangeShapes Go.WideShapes Go.ChangeAt Go.RowKit

theorem sumI_le {l : List B} (h : ∀ x ∈ l, x.length ≤ 2000) : sumLen l ≤ l.length * 2000 := by
 induction l with
 | nil => simp [sumLen]
 | cons x l ih =>
  rw [sum_cons, List.length_cons, Nat.succ_mul]
  have := ih fun y hy => h y (.tail _ hy)
  have := h x (.head _)
  omega
theorem fnd_look (T : FL) (p : B) : (∃ (k : Nat) (q : B × B), fndT T p = (k : Int) ∧ T[k]? = some q ∧ T.lookup p = some q.2) ∨ (fndT T p = -1 ∧ T.lookup p = none) := by
 unfold fndT
 induction T with
 | nil => exact .inr ⟨rfl, rfl⟩
 | cons q T ih =>
  obtain ⟨a, x⟩ := q
  rw [List.findIdx?_cons, List.lookup_cons]
  by_cases h : a = p
  ·subst h
   exact .inl ⟨0, (a, x), by simp, rfl, by simp⟩
  ·have h1 : (a == p) = false := beq_eq_false_iff_ne.2 h
   have h2 : (p == a) = false := beq_eq_false_iff_ne.2 (Ne.symm h)
   simp only [h1, h2]
   rcases ih with ⟨k, q, h3, h4, h5⟩ | ⟨h3, h4⟩
   ·refine .inl ⟨k + 1, q, ?_, by simpa using h4, h5⟩
    cases hf : T.findIdx? (fun p_1 => p_1.1 == p) with
    | none => rw [hf] at h3; simp at h3
    | some j =>
     rw [hf] at h3
     have h6 : (j : Int) = (k : Int) := by simpa using h3
     obtain rfl : j = k := by omega
     simp
   ·refine .inr ⟨?_, h4⟩
    cases hf : T.findIdx? (fun p_1 => p_1.1 == p) with
    | none => simp
    | some j => rw [hf] at h3; simp at h3

end Go.Proofs.YtnmhaipjfpongacGreatDoor
