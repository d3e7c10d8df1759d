/- Package path: Match. No condition but lengths, and what the variables hold. -/
import Derived.Test.YtnmhaipjfpongaaGreatDoorQ8
namespace Go.Proofs.YtnmhaipjfpongaaGreatDoor
open Go.ChangeShapes Go.WideShapes Go.ChangeAt Go.RowKit

attribute [local go_sem] eqNil_some eqNil_none

def matchOk (p s : B) : Bool := partsOk true (cut p) && pathOk s

def MatchIs (w : World) (p s : B) (a : Addr) (e : Ending) (w' : World) : Prop :=
  e = .returned (.tuple #[.bool (matchOk p s && fitsB (cut p) (cut s)), if matchOk p s then .nilIface else errV a]) ∧ Ext w w'

set_option maxRecDepth 100000 in
set_option maxHeartbeats 1000000 in
theorem match_any (w : World) (p s : B) (a : Addr) (hp : p.length ≤ 999999) (hs : s.length ≤ 999999) (hm : HasMax w) (he : w.cell? ⟨7, 0, none⟩ = some (errV a)) :
    Calls Tryz.prog 52 #[S p, S s] w (MatchIs w p s a) := by
  have HP := Lib.hid (parts_any w true p (by omega) hm)
  have HS := Lib.hid (fun w1 (h : Ext w w1) => parts_any w1 false s (by omega) (hm.ext h))
  have HE := Lib.hid he
  have c1 := cut_len_le p
  have c2 := cut_len_le s
  have HCL := Lib.hid (And.intro (show (cut p).length ≤ 1000000 by omega) (show (cut s).length ≤ 1000000 by omega))
  clear he hm hs hp c1 c2
  obtain ⟨r, hr⟩ : ∃ r, r = matchOk p s := ⟨_, rfl⟩
  unfold MatchIs
  rw [← hr]
  have HR := Lib.hid hr
  clear hr
  go_enter Tryz.func52, Tryz.ntmps52
  go_wp2_with fail
  refine HP.out.mono ?_
  rintro e w' ⟨ho, ⟨hok, b, rfl, hl⟩ | ⟨hok, rfl⟩⟩
  · have HO := Lib.hid ho
    have HL := Lib.hid hl
    have HK := Lib.hid hok
    clear ho hl hok
    go_wp2_with fail
    refine (HS.out _ HO.out).mono ?_
    rintro e w2 ⟨ho, ⟨hok, b2, rfl, hl⟩ | ⟨hok, rfl⟩⟩
    · have hr : r = true := by rw [HR.out]; unfold matchOk pathOk; rw [HK.out, hok]; rfl
      subst hr
      have HO2 := Lib.hid (HO.out.ext ho)
      have HF := Lib.hid (fits_any _ (cut p) (cut s) (Nat.le_refl _) w2 _ _ ((HL.out.ext ho).rdC HCL.out.1) (hl.rdC HCL.out.2))
      clear ho hl hok
      go_wp2_with fail
      refine HF.out.mono ?_
      rintro e w3 hst
      obtain ⟨rfl, ho⟩ := hst.ext
      have HO3 := Lib.hid (HO2.out.ext ho)
      clear ho hst
      go_wp2
      go_ret2
      exact ⟨rfl, HO3.out⟩
    · have hr : r = false := by rw [HR.out]; unfold matchOk pathOk; rw [hok]; simp
      subst hr
      have he2 := (HO.out.ext ho).cellOf HE.out (fun h => h)
      have HO2 := Lib.hid (HO.out.ext ho)
      clear ho hok
      go_wp2_with fail
      go_quiet (fail)
      go_wp2
      go_ret2
      exact ⟨rfl, HO2.out.ext (Only.drewN _ _ _)⟩
  · have hr : r = false := by rw [HR.out]; unfold matchOk pathOk; rw [hok]; rfl
    subst hr
    have HO := Lib.hid ho
    clear ho hok
    go_wp2_with fail
    refine (HS.out _ HO.out).mono ?_
    rintro e w2 ⟨ho, h⟩
    have he2 := (HO.out.ext ho).cellOf HE.out (fun h => h)
    have HO2 := Lib.hid (HO.out.ext ho)
    have hv : ∃ v, e = .returned v := by rcases h with ⟨_, b, rfl, _⟩ | ⟨_, rfl⟩ <;> exact ⟨_, rfl⟩
    obtain ⟨v, rfl⟩ := hv
    clear ho h
    go_wp2_with fail
    go_quiet (fail)
    go_wp2
    go_ret2
    exact ⟨rfl, HO2.out.ext (Only.drewN _ _ _)⟩
end Go.Proofs.YtnmhaipjfpongaaGreatDoor
