/- graph.Order; the numbers' IsOne: Order$1. No condition but how the rules lie, their lengths, and what the variables hold. -/
import Derived.Test.YtnmhaipjfpongacGreatDoorG3x
import Derived.Test.YtnmhaipjfpongacGreatDoorJ3x
namespace Go.Proofs.YtnmhaipjfpongacGreatDoor
open Go.ChangeShapes Go.WideShapes Go.ChangeAt Go.RowKit

theorem enters_Order1 : ∀ args w, (callFunc 172 args).run Tryz.prog w = .ok (.enter 172 args) w := fun args w => by kernel_rfl

theorem Order1_any (w : World) (i : Nat) : Calls Tryz.prog 172 #[I i] w (RetE (.bool true) w) := by
  go_enter Tryz.func172, Tryz.ntmps172
  go_wp2_with fail
  go_ret
  exact ⟨rfl, Only.refl _ _⟩

/-- The order of all rules, and its fault. -/
def orderL (l : List Rule) : Option (List Nat) := orderB l.length (needB l) (fun _ => true)
def orderFault (l : List Rule) : Nat × Int := if (sheetFault l).1 ≠ 0 then sheetFault l else if (orderL l).isSome then (0, -1) else (9, -1)
def orderOut (l : List Rule) : List Nat := if (sheetFault l).1 ≠ 0 then [] else (orderL l).getD []

def RetOE (P : Nat → Addr) (f : Nat × Int) (o : List Nat) (w : World) (e : Ending) (w' : World) : Prop := ∃ v ev, e = .returned (.tuple #[v, ev]) ∧ RowI w.heap.size w' v o ∧ ErrAt w' P f ev ∧ Ext w w'

set_option maxRecDepth 100000 in
set_option maxHeartbeats 4000000 in
theorem graphOrder_any (w : World) (P : Nat → Addr) (l : List Rule) (v : Value) (hv : RdR w v l) (hs : ∀ r ∈ l, RuleSm 900000 r) (hV : PV w P [1, 2, 3, 4, 6, 8, 9]) :
    Calls Tryz.prog 99 #[v] w (RetOE P (orderFault l) (orderOut l) w) := by
  have HSH := Lib.hid (sheet_any w P l v hv hs (hV.sub (by decide)))
  have HRD := Lib.hid hv
  have HVV := Lib.hid hV
  have HSM := Lib.hid (fun r hr => (hs r hr).many)
  obtain ⟨a, cap, rfl, _, _, _⟩ := hv
  obtain ⟨F, hF⟩ : ∃ F, F = orderFault l := ⟨_, rfl⟩
  obtain ⟨O, hO⟩ : ∃ O, O = orderOut l := ⟨_, rfl⟩
  rw [← hF, ← hO]
  have HF := Lib.hid hF
  have HO := Lib.hid hO
  clear hF hO hV hs
  by_cases h0 : (sheetFault l).1 = 0
  · have HR := Lib.hid (sheet_ok.1 h0)
    have HE := Lib.hid (fun W (hW : Ext w W) => edges_any W l _ (HRD.out.ext hW) HR.out HSM.out)
    have hF2 := HF.out
    have hO2 := HO.out
    unfold orderFault at hF2
    unfold orderOut at hO2
    rw [if_neg (by simpa using h0)] at hF2 hO2
    have HN0 := Lib.hid h0
    have h40 := HR.out.1
    have HF2 := Lib.hid hF2
    have HO2 := Lib.hid hO2
    clear hF2 hO2
    clear h0 HF HO
    go_enter Tryz.func99, Tryz.ntmps99
    go_wp2_with fail
    refine HSH.out.mono ?_
    rintro e w1 ⟨ev, rfl, he, ho⟩
    obtain rfl := he.zero HN0.out
    have HX1 := Lib.hid ho
    clear he ho
    go_wp2_with fail
    refine (HE.out w1 HX1.out).mono ?_
    rintro e w2 ⟨v2, rfl, hll, ho⟩
    have HX2 := Lib.hid (HX1.out.then ho)
    have HLL := Lib.hid hll
    clear hll ho
    have hor := order0_any 172 (fun _ => true) w2 v2 l.length (needB l) (by omega) HLL.out enters_Order1 (fun w3 _ i _ => Order1_any w3 i)
    change Calls _ _ _ _ (RetOrder (orderL l) w2) at hor
    have HOR := Lib.hid hor
    obtain ⟨a2, c2, rfl, _, _, _⟩ := HLL.out
    rw [List.length_map, List.length_range] at HOR
    clear hor
    cases hol : orderL l with
    | none =>
      have hF2 := HF2.out
      have hO2 := HO2.out
      rw [hol] at HOR hF2 hO2
      clear HF2 HO2
      have hF3 : F = (9, -1) := hF2
      have hO3 : O = [] := hO2
      subst hF3
      subst hO3
      clear hol hF2 hO2
      go_wp2_with fail
      refine (HOR.out).mono ?_
      rintro e w3 ⟨v3, rfl, hrow, ho⟩
      have HX3 := Lib.hid (HX2.out.then ho)
      have HROW := Lib.hid hrow
      clear hrow ho
      have c0 := (HVV.out.errs.ext HX3.out).var 8 _ (by decide) rfl
      go_wp2_with fail
      go_quiet (fail)
      go_wp2_with fail
      go_ret2
      exact ⟨_, _, rfl, RowI.nil _ _, .inr (.inl ⟨by decide, rfl, rfl⟩), HX3.out.thenDrewN _⟩
    | some o =>
      have hF2 := HF2.out
      have hO2 := HO2.out
      rw [hol] at HOR hF2 hO2
      clear HF2 HO2
      have hF3 : F = (0, -1) := hF2
      have hO3 : O = o := hO2
      subst hF3
      subst hO3
      clear hol hF2 hO2
      go_wp2_with fail
      refine (HOR.out).mono ?_
      rintro e w3 ⟨v3, rfl, hrow, ho⟩
      have HX3 := Lib.hid (HX2.out.then ho)
      have HROW := Lib.hid hrow
      clear hrow ho
      obtain ⟨a3, c3, rfl, _, _, _⟩ := HROW.out.rd
      go_wp2_with fail
      go_ret2
      exact ⟨_, _, rfl, HROW.out.down HX2.out.size, ErrAt.nil _ _ _, HX3.out⟩
  · have hF2 := HF.out
    have hO2 := HO.out
    unfold orderFault at hF2
    unfold orderOut at hO2
    rw [if_pos h0] at hF2 hO2
    subst hO2
    subst hF2
    have HN0 := Lib.hid h0
    clear h0 HF HO
    go_enter Tryz.func99, Tryz.ntmps99
    go_wp2_with fail
    refine HSH.out.mono ?_
    rintro e w1 ⟨ev, rfl, he, ho⟩
    obtain ⟨t, p, rfl⟩ := he.some HN0.out
    have HX1 := Lib.hid ho
    have HEE := Lib.hid he
    clear he ho
    go_wp2_with fail
    go_ret2
    exact ⟨_, _, rfl, RowI.nil _ _, HEE.out, HX1.out⟩
end Go.Proofs.YtnmhaipjfpongacGreatDoor
