/- graph.Part: an order of some rules alone. No condition but how the rules lie, that they are right, and what the variables hold. -/
import Derived.Test.YtnmhaipjfpongacGreatDoorG4x
namespace Go.Proofs.YtnmhaipjfpongacGreatDoor
open Go.ChangeShapes Go.WideShapes Go.ChangeAt Go.RowKit

theorem enters_Part1 : ∀ args w, (callFunc 164 args).run Tryz.prog w = .ok (.enter 164 args) w := fun args w => by kernel_rfl

theorem any_natP (l : List Nat) (j : Nat) : (l.map fun k : Nat => (k : Int)).any (fun y => (j : Int) == y) = l.contains j := by
  rw [Bool.eq_iff_iff, List.any_eq_true, List.contains_eq_mem, decide_eq_true_eq]
  constructor
  · rintro ⟨x, hx, e⟩
    obtain ⟨k, hk, rfl⟩ := List.mem_map.1 hx
    rw [beq_iff_eq] at e
    have : j = k := by omega
    rw [this]; exact hk
  · intro h
    exact ⟨(j : Int), List.mem_map.2 ⟨j, h, rfl⟩, beq_iff_eq.2 rfl⟩

theorem Part1_test (w : World) (bx : Nat) (lv : Value) (l : List Nat) (j : Nat) (hb : w.cell? ⟨bx, 0, none⟩ = some lv) (hr : Rd IN w lv l) :
    Calls Tryz.prog 164 #[I j, .pointer (some ⟨bx, 0, none⟩)] w (RetE (.bool (l.contains j)) w) := by
  have HI := Lib.hid (containsI_any w lv _ (j : Int) hr.ints)
  rw [any_natP] at HI
  generalize l.contains j = q at HI ⊢
  obtain ⟨a, cap, rfl, _, _, _⟩ := hr
  go_enter Tryz.func164, Tryz.ntmps164
  go_wp2_with fail
  refine (HI.out).mono ?_
  rintro e w1 ⟨rfl, rfl⟩
  go_wp2_with fail
  go_ret
  exact ⟨rfl, Only.refl _ _⟩

/-- The order of some rules. -/
def partB (l : List Rule) (sm : List Nat) : Option (List Nat) := orderB l.length (needB l) (fun i => sm.contains i)
def partFault (l : List Rule) (sm : List Nat) : Nat × Int := if (partB l sm).isSome then (0, -1) else (9, -1)

set_option maxRecDepth 100000 in
set_option maxHeartbeats 4000000 in
theorem graphPart_any (w : World) (P : Nat → Addr) (l : List Rule) (v sv : Value) (sm : List Nat) (hv : RdR w v l) (hr : RightS l) (hs : ∀ r ∈ l, r.ins.length ≤ 900000) (hsm : Rd IN w sv sm) (hE : Errs w P [8]) :
    Calls Tryz.prog 94 #[v, sv] w (RetOE P (partFault l sm) ((partB l sm).getD []) w) := by
  have HRD := Lib.hid hv
  have HSM := Lib.hid hsm
  have HR := Lib.hid hr
  have HS := Lib.hid hs
  have HEE := Lib.hid hE
  have h40 := hr.1
  obtain ⟨a, cap, rfl, _, _, _⟩ := hv
  obtain ⟨a2, cap2, rfl, _, _, _⟩ := hsm
  have HB0 := Lib.hid ((MapKept.heap_alloc w (.cells #[.slice a2 sm.length cap2] 46 (0, 0))).1)
  have HX0 : Hid (Ext w (w.alloc (.cells #[.slice a2 sm.length cap2] 46 (0, 0)))) := Lib.hid (Only.alloc _ _ _)
  have HED := Lib.hid (edges_any _ l _ (HRD.out.ext HX0.out) HR.out HS.out)
  obtain ⟨F, hF⟩ : ∃ F, F = partFault l sm := ⟨_, rfl⟩
  obtain ⟨O, hO⟩ : ∃ O, O = (partB l sm).getD [] := ⟨_, rfl⟩
  rw [← hF, ← hO]
  unfold partFault at hF
  have HF := Lib.hid hF
  have HO := Lib.hid hO
  clear hF hO hr hs hE
  go_enter Tryz.func94, Tryz.ntmps94
  go_wp2_with fail
  refine HED.out.mono ?_
  rintro e w2 ⟨v2, rfl, hll, ho⟩
  have hb2 := cell_of_heap (ho.heapOf HB0.out (fun h => h)) 0
  have hor := order1_any 164 (.pointer (some ⟨w.heap.size, 0, none⟩)) (fun i => sm.contains i) w2 v2 l.length (needB l) (by omega) hll enters_Part1
    (fun w3 hx i _ => Part1_test w3 w.heap.size _ sm i (hx.cellOf (hb2.trans rfl) (fun h => h)) (HSM.out.ext ((HX0.out.then ho).then hx)))
  change Calls _ _ _ _ (RetOrder (partB l sm) w2) at hor
  have HOR := Lib.hid hor
  have HX2 := Lib.hid (HX0.out.then ho)
  have HLL := Lib.hid hll
  obtain ⟨a3, c3, rfl, _, _, _⟩ := HLL.out
  rw [List.length_map, List.length_range] at HOR ⊢
  clear hor hb2 ho hll
  cases hol : partB l sm with
  | none =>
    have hF2 := HF.out
    have hO2 := HO.out
    rw [hol] at HOR hF2 hO2
    clear HF HO
    have hF3 : F = (9, -1) := hF2
    have hO3 : O = [] := hO2
    subst hF3
    subst hO3
    clear hol hF2 hO2
    go_wp2_with fail
    refine (HOR.out).mono ?_
    rintro e w3 ⟨v3, rfl, hrow, ho⟩
    have HX3 := Lib.hid (HX2.out.then ho)
    have HROW := Lib.hid hrow
    clear hrow ho
    have c0 := (HEE.out.ext HX3.out).var 8 _ (by decide) rfl
    go_wp2_with fail
    go_quiet (fail)
    go_wp2_with fail
    go_ret2
    exact ⟨_, _, rfl, RowI.nil _ _, .inr (.inl ⟨by decide, rfl, rfl⟩), HX3.out.thenDrewN _⟩
  | some o =>
    have hF2 := HF.out
    have hO2 := HO.out
    rw [hol] at HOR hF2 hO2
    clear HF HO
    have hF3 : F = (0, -1) := hF2
    have hO3 : O = o := hO2
    subst hF3
    subst hO3
    clear hol hF2 hO2
    go_wp2_with fail
    refine (HOR.out).mono ?_
    rintro e w3 ⟨v3, rfl, hrow, ho⟩
    have HX3 := Lib.hid (HX2.out.then ho)
    have HROW := Lib.hid hrow
    clear hrow ho
    obtain ⟨a4, c4, rfl, _, _, _⟩ := HROW.out.rd
    go_wp2_with fail
    go_ret2
    exact ⟨_, _, rfl, HROW.out.down HX2.out.size, ErrAt.nil _ _ _, HX3.out⟩
end Go.Proofs.YtnmhaipjfpongacGreatDoor
