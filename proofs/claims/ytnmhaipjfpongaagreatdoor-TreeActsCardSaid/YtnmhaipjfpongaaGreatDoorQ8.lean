/- Package path: strings.Join at a slash; Check, Last, Dir, Match. No condition but lengths, how the lists lie, and what the variables hold. -/
import Derived.Test.YtnmhaipjfpongaaGreatDoorQ7
import Derived.Test.YtnmhaipjfpongaaGreatDoorE3
namespace Go.Proofs.YtnmhaipjfpongaaGreatDoor
open Go.ChangeShapes Go.WideShapes Go.ChangeAt Go.RowKit
open Go.MapKept (heap_alloc)

theorem eqNil_some (a : Addr) (n c : Nat) (w : World) : (binOp .eql 25 (.slice (some a) n c) (.slice none 0 0)).run Tryz.prog w = .ok (.bool false) w := by kernel_rfl
theorem eqNil_none (w : World) : (binOp .eql 25 (.slice none 0 0) (.slice none 0 0)).run Tryz.prog w = .ok (.bool true) w := by kernel_rfl

attribute [local go_sem] eqNil_some eqNil_none

theorem join_any (w : World) (v : Value) (l : List B) (hv : RdC w v l) (hl : (joinS l).length ≤ 1000000) : Calls Tryz.prog 73 #[v, .string ⟨#[47]⟩] w fun e w' => e = .returned (S (joinS l)) ∧ Ext w w' := by
  obtain ⟨a, cap, rfl, h1, h2, h3⟩ := hv
  cases l with
  | nil =>
    refine (Tryz.strings_Join_none a cap ⟨#[47]⟩ w).mono ?_
    rintro e w' ⟨rfl, rfl⟩
    exact ⟨rfl, Only.refl _ _⟩
  | cons x r =>
    obtain ⟨b, off, rfl, hc⟩ := h3 (by simp)
    have hb : b < w.heap.size := lt_of_cell (hc 0 x rfl)
    have hcells : ∀ (j : Nat) y, ((x :: r).map fun z => (⟨z.toArray⟩ : ByteArray))[j]? = some y → w.cell? ⟨b, off + j, none⟩ = some (.string y) := fun j y hy => by
      rw [List.getElem?_map] at hy
      obtain ⟨z, hz, rfl⟩ := Option.map_eq_some_iff.1 hy
      exact hc j z hz
    have hm : (((x :: r).map fun z => (⟨z.toArray⟩ : ByteArray)).map (·.data.toList)) = x :: r := by
      rw [List.map_map]; exact List.map_id _
    have hj : Lib.join (((x :: r).map fun z => (⟨z.toArray⟩ : ByteArray)).map (·.data.toList)) (⟨#[47]⟩ : ByteArray).data.toList = joinS (x :: r) := by rw [hm]; rfl
    have hlen : ((x :: r).map fun z => (⟨z.toArray⟩ : ByteArray)).length = (x :: r).length := by simp
    have h := Tryz.strings_Join b off cap ((x :: r).map fun z => (⟨z.toArray⟩ : ByteArray)) ⟨#[47]⟩ w hcells hb (by rw [hlen]; omega) (by rw [hlen]; exact h1) (by rw [hj]; omega)
    rw [hlen] at h
    refine h.mono ?_
    rintro e w' ⟨rfl, hbl⟩
    exact ⟨by rw [hj], Only.of_below hbl⟩

theorem LiesAt.rdC {w : World} {b : Nat} {l : List B} (h : LiesAt w b l) (hl : l.length ≤ 1000000) : RdC w (.slice (some ⟨b, 0, none⟩) l.length l.length) l := by
  obtain ⟨t, h⟩ := h
  refine ⟨_, _, rfl, Nat.le_refl _, hl, fun _ => ⟨b, 0, rfl, fun i x hx => ?_⟩⟩
  rw [cell_of_heap h, Nat.zero_add]
  simp [hx]

set_option maxRecDepth 100000 in
theorem check_any (w : World) (s : B) (a : Addr) (hs : s.length ≤ 1000000) (hm : HasMax w) (he : w.cell? ⟨7, 0, none⟩ = some (errV a)) :
    Calls Tryz.prog 48 #[S s] w fun e w' => e = .returned (if pathOk s then .nilIface else errV a) ∧ Ext w w' := by
  have HP := Lib.hid (parts_any w false s hs hm)
  have HE := Lib.hid he
  clear he hm hs
  obtain ⟨r, hr⟩ : ∃ r, r = pathOk s := ⟨_, rfl⟩
  rw [← hr]
  have HR := Lib.hid hr
  clear hr
  go_enter Tryz.func48, Tryz.ntmps48
  go_wp2_with fail
  refine HP.out.mono ?_
  rintro e w' ⟨ho, ⟨hok, b, rfl, hl⟩ | ⟨hok, rfl⟩⟩
  · have HO := Lib.hid ho
    have hr : r = true := HR.out.trans hok
    subst hr
    clear ho hl hok
    go_wp2
    go_ret
    exact ⟨rfl, HO.out⟩
  · have HO := Lib.hid ho
    have hr : r = false := HR.out.trans hok
    subst hr
    have he := ho.cellOf HE.out (fun h => h)
    clear ho hok
    go_wp2
    go_ret
    exact ⟨rfl, HO.out⟩

end Go.Proofs.YtnmhaipjfpongaaGreatDoor
