/- Package path: strings.Join at a slash; Check, Last, Dir, Match. No condition but lengths, how the lists lie, and what the variables hold. -/
import Derived.Test.YtnmhaipjfpongaaDoorQ7
import Derived.Test.YtnmhaipjfpongaaDoorE3
namespace Go.Proofs.YtnmhaipjfpongaaDoor
open Go.ChangeShapes Go.WideShapes Go.ChangeAt Go.RowKit
open Go.MapKept (heap_alloc)

theorem eqNil_some (a : Addr) (n c : Nat) (w : World) : (binOp .eql 29 (.slice (some a) n c) (.slice none 0 0)).run Tryd.prog w = .ok (.bool false) w := by kernel_rfl
theorem eqNil_none (w : World) : (binOp .eql 29 (.slice none 0 0) (.slice none 0 0)).run Tryd.prog w = .ok (.bool true) w := by kernel_rfl

attribute [local go_sem] eqNil_some eqNil_none

theorem join_any (w : World) (v : Value) (l : List B) (hv : RdC w v l) (hl : (joinS l).length ≤ 1000000) : Calls Tryd.prog 54 #[v, .string ⟨#[47]⟩] w fun e w' => e = .returned (S (joinS l)) ∧ Ext w w' := by
  obtain ⟨a, cap, rfl, h1, h2, h3⟩ := hv
  cases l with
  | nil =>
    refine (Tryd.strings_Join_none a cap ⟨#[47]⟩ w).mono ?_
    rintro e w' ⟨rfl, rfl⟩
    exact ⟨rfl, Only.refl _ _⟩
  | cons x r =>
    obtain ⟨b, off, rfl, hc⟩ := h3 (by simp)
    have hb : b < w.heap.size := lt_of_cell (hc 0 x rfl)
    have hcells : ∀ (j : Nat) y, ((x :: r).map fun z => (⟨z.toArray⟩ : ByteArray))[j]? = some y → w.cell? ⟨b, off + j, none⟩ = some (.string y) := fun j y hy => by
      rw [List.getElem?_map] at hy
      obtain ⟨z, hz, rfl⟩ := Option.map_eq_some_iff.1 hy
      exact hc j z hz
    have hm : (((x :: r).map fun z => (⟨z.toArray⟩ : ByteArray)).map (·.data.toList)) = x :: r := by
      rw [List.map_map]; exact List.map_id _
    have hj : Lib.join (((x :: r).map fun z => (⟨z.toArray⟩ : ByteArray)).map (·.data.toList)) (⟨#[47]⟩ : ByteArray).data.toList = joinS (x :: r) := by rw [hm]; rfl
    have hlen : ((x :: r).map fun z => (⟨z.toArray⟩ : ByteArray)).length = (x :: r).length := by simp
    have h := Tryd.strings_Join b off cap ((x :: r).map fun z => (⟨z.toArray⟩ : ByteArray)) ⟨#[47]⟩ w hcells hb (by rw [hlen]; omega) (by rw [hlen]; exact h1) (by rw [hj]; omega)
    rw [hlen] at h
    refine h.mono ?_
    rintro e w' ⟨rfl, hbl⟩
    exact ⟨by rw [hj], Only.of_below hbl⟩

theorem LiesAt.rdC {w : World} {b : Nat} {l : List B} (h : LiesAt w b l) (hl : l.length ≤ 1000000) : RdC w (.slice (some ⟨b, 0, none⟩) l.length l.length) l := by
  obtain ⟨t, h⟩ := h
  refine ⟨_, _, rfl, Nat.le_refl _, hl, fun _ => ⟨b, 0, rfl, fun i x hx => ?_⟩⟩
  rw [cell_of_heap h, Nat.zero_add]
  simp [hx]

set_option maxRecDepth 100000 in
theorem check_any (w : World) (s : B) (a : Addr) (hs : s.length ≤ 1000000) (hm : HasMax w) (he : w.cell? ⟨3, 0, none⟩ = some (errV a)) :
    Calls Tryd.prog 33 #[S s] w fun e w' => e = .returned (if pathOk s then .nilIface else errV a) ∧ Ext w w' := by
  have HP := Lib.hid (parts_any w false s hs hm)
  have HE := Lib.hid he
  clear he hm hs
  obtain ⟨r, hr⟩ : ∃ r, r = pathOk s := ⟨_, rfl⟩
  rw [← hr]
  have HR := Lib.hid hr
  clear hr
  go_enter Tryd.func33, Tryd.ntmps33
  go_wp2_with fail
  refine HP.out.mono ?_
  rintro e w' ⟨ho, ⟨hok, b, rfl, hl⟩ | ⟨hok, rfl⟩⟩
  · have HO := Lib.hid ho
    have hr : r = true := HR.out.trans hok
    subst hr
    clear ho hl hok
    go_wp2
    go_ret
    exact ⟨rfl, HO.out⟩
  · have HO := Lib.hid ho
    have hr : r = false := HR.out.trans hok
    subst hr
    have he := ho.cellOf HE.out (fun h => h)
    clear ho hok
    go_wp2
    go_ret
    exact ⟨rfl, HO.out⟩

set_option maxRecDepth 100000 in
theorem lastP_any (w : World) (s : B) (hs : s.length ≤ 1000000) (hm : HasMax w) :
    Calls Tryd.prog 35 #[S s] w fun e w' => e = .returned (S (if pathOk s then (cut s).getLastD [] else [])) ∧ Ext w w' := by
  have HP := Lib.hid (parts_any w false s hs hm)
  have hcl := cut_len_le s
  obtain ⟨r, hr⟩ : ∃ r, r = pathOk s := ⟨_, rfl⟩
  rw [← hr]
  have HR := Lib.hid hr
  obtain ⟨m, hm1⟩ : ∃ m, (cut s).length = m + 1 := ⟨(cut s).length - 1, by have := cut_pos s; omega⟩
  obtain ⟨x, hx⟩ : ∃ x, (cut s)[m]? = some x := ⟨_, List.getElem?_eq_getElem (by omega)⟩
  have hlast : (cut s).getLastD [] = x := by
    rw [List.getLastD_eq_getLast?, List.getLast?_eq_getElem?, hm1, Nat.add_sub_cancel, hx]; rfl
  rw [hlast]
  have HX := Lib.hid hx
  have HM := Lib.hid hm1
  have hml : m ≤ 1000000 := by omega
  have h0 : (0 : Int) ≤ (m : Int) := by omega
  have h1 : (m : Int) < (m : Int) + 1 := by omega
  clear hr hm hs hx hm1 hlast hcl
  go_enter Tryd.func35, Tryd.ntmps35
  go_wp2_with fail
  refine HP.out.mono ?_
  rintro e w' ⟨ho, ⟨hok, b, rfl, hl⟩ | ⟨hok, rfl⟩⟩
  · have HO := Lib.hid ho
    have hr : r = true := HR.out.trans hok
    subst hr
    have hc : w'.cell? ⟨b, m, none⟩ = some (S x) := by
      obtain ⟨t, hh⟩ := hl
      rw [cell_of_heap hh]; simp [HX.out]
    rw [HM.out]
    clear ho hl hok
    go_wp2
    go_ret
    exact ⟨rfl, HO.out⟩
  · have HO := Lib.hid ho
    have hr : r = false := HR.out.trans hok
    subst hr
    clear ho hok
    go_wp2
    go_ret
    exact ⟨rfl, HO.out⟩

set_option maxRecDepth 100000 in
set_option maxHeartbeats 1000000 in
theorem dir_any (w : World) (s : B) (hs' : s.length ≤ 999999) (hm : HasMax w) :
    Calls Tryd.prog 34 #[S s] w fun e w' => e = .returned (S (if pathOk s then joinS (cut s).dropLast else [])) ∧ Ext w w' := by
  have hs : s.length ≤ 1000000 := by omega
  have HP := Lib.hid (parts_any w false s hs hm)
  have hcl := cut_len_le s
  obtain ⟨r, hr⟩ : ∃ r, r = pathOk s := ⟨_, rfl⟩
  rw [← hr]
  have HR := Lib.hid hr
  obtain ⟨m, hm1⟩ : ∃ m, (cut s).length = m + 1 := ⟨(cut s).length - 1, by have := cut_pos s; omega⟩
  obtain ⟨l, hl⟩ : ∃ l, l = (cut s).dropLast := ⟨_, rfl⟩
  rw [← hl]
  have hll : l.length = m := by rw [hl]; simp [hm1]
  have hjl : (joinS l).length ≤ 1000000 := by
    have e : joinS (cut s) = s := join_cut s
    cases hm0 : l with
    | nil => simp [joinS_nil]
    | cons y ys =>
      have hne : cut s ≠ [] := cut_ne s
      have e2 : cut s = l ++ [(cut s).getLast hne] := by rw [hl]; exact (List.dropLast_concat_getLast hne).symm
      rw [e2, joinS_app l _ (by rw [hm0]; simp) (by simp)] at e
      have e3 := congrArg List.length e
      rw [List.length_append] at e3
      rw [← hm0]; omega
  have hrd : ∀ w' b, LiesAt w' b (cut s) → RdC w' (.slice (some ⟨b, 0, none⟩) m (m + 1)) l := fun w' b h => by
    obtain ⟨t, hh⟩ := h
    refine ⟨_, _, by rw [hll], by omega, by omega, fun _ => ⟨b, 0, rfl, fun i x hx => ?_⟩⟩
    rw [cell_of_heap hh, Nat.zero_add]
    have : (cut s)[i]? = some x := by
      rw [hl, List.getElem?_dropLast] at hx
      split at hx
      · exact hx
      · cases hx
    simp [this]
  have HRD := Lib.hid hrd
  have HJ := Lib.hid hjl
  have HM := Lib.hid hm1
  have hml : m ≤ 1000000 := by omega
  have h0 : (0 : Int) ≤ (m : Int) := by omega
  have h1 : (m : Int) ≤ (m : Int) + 1 := by omega
  clear hr hm hs hm1 hl hll hjl hrd hcl
  go_enter Tryd.func34, Tryd.ntmps34
  go_wp2_with fail
  refine HP.out.mono ?_
  rintro e w' ⟨ho, ⟨hok, b, rfl, hl⟩ | ⟨hok, rfl⟩⟩
  · have HO := Lib.hid ho
    have hr : r = true := HR.out.trans hok
    subst hr
    have HC := Lib.hid (join_any w' _ l (HRD.out w' b hl) HJ.out)
    rw [HM.out]
    clear ho hl hok
    go_wp2_with fail
    refine HC.out.mono ?_
    rintro e w2 ⟨rfl, ho⟩
    have HO2 := Lib.hid (HO.out.ext ho)
    clear ho
    go_wp2
    go_ret
    exact ⟨rfl, HO2.out⟩
  · have HO := Lib.hid ho
    have hr : r = false := HR.out.trans hok
    subst hr
    clear ho hok
    go_wp2
    go_ret
    exact ⟨rfl, HO.out⟩
end Go.Proofs.YtnmhaipjfpongaaDoor
