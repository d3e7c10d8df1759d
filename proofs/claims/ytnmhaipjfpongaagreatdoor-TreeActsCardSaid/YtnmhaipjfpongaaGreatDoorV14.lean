/- Package tree: Glob. No condition but that the tree is one, and lengths. -/
import Derived.Test.YtnmhaipjfpongaaGreatDoorV13
import Derived.Test.YtnmhaipjfpongaaGreatDoorQ9
namespace Go.Proofs.YtnmhaipjfpongaaGreatDoor
open Go.ChangeShapes Go.WideShapes Go.ChangeAt Go.RowKit

/-- What fits a pattern. -/
def fitT (pat p : B) : Bool := matchOk pat p && fitsB (cut pat) (cut p)
def globT (pat : B) (l : List B) : List B := if matchOk pat [97] then l.filter (fitT pat) else []

set_option maxRecDepth 100000 in
set_option maxHeartbeats 1000000 in
theorem glob_bad (w : World) (b : Nat) (pat : B) (P : Nat → Addr) (hs : Sents w P) (hm : HasMax w) (hp : pat.length ≤ 999999) (hk : matchOk pat [97] = false) :
    Calls Tryz.prog 21 #[.pointer (some ⟨b, 0, none⟩), S pat] w fun e w' => ∃ v, e = .returned (.tuple #[v, errV (P 3)]) ∧ Rd S w' v [] ∧ Ext w w' := by
  have HM := match_any w pat [97] (P 3) hp (by simp) hm (hs.var 3 _ rfl)
  unfold MatchIs at HM
  rw [hk] at HM
  have HM := Lib.hid HM
  clear hs hm hp hk
  go_enter Tryz.func21, Tryz.ntmps21
  go_wp2_with fail
  refine HM.out.mono ?_
  rintro e w1 ⟨rfl, ho⟩
  go_wp2_with fail
  go_ret2
  exact ⟨_, rfl, Rd.nil _ _, ho⟩

set_option maxRecDepth 100000 in
set_option maxHeartbeats 2000000 in
theorem glob_ok (w : World) (b mb : Nat) (L : FL) (pat : B) (P : Nat → Addr) (h : TreeAt w b mb L) (hr : Rising L) (h1 : ∀ q ∈ L, q.1.length ≤ 1000) (hn : L.length ≤ 60) (hs : Sents w P) (hm : HasMax w) (hp : pat.length ≤ 999999) (hk : matchOk pat [97] = true) (hok : ∀ q ∈ L, matchOk pat q.1 = true) :
    Calls Tryz.prog 21 #[.pointer (some ⟨b, 0, none⟩), S pat] w fun e w' => ∃ v, e = .returned (.tuple #[v, .nilIface]) ∧ Rd S w' v ((L.map (·.1)).filter (fitT pat)) ∧ Ext w w' := by
  have HMA := Lib.hid (fun W (hW : Ext w W) (q : B × B) (hq : q ∈ L) => match_any W pat q.1 (P 3) hp (by have := h1 q hq; omega) (hm.ext hW) ((hs.ext hW).var 3 _ rfl))
  have HM := match_any w pat [97] (P 3) hp (by simp) hm (hs.var 3 _ rfl)
  unfold MatchIs at HM
  rw [hk] at HM
  have HM := Lib.hid HM
  have HPA := Lib.hid (fun W (hW : Ext w W) => paths_any W b mb L (h.ext hW) hr (fun q hq => by have := h1 q hq; omega) (by omega))
  have HOK := Lib.hid hok
  clear h hs hm hp hk hr h1 hok
  go_enter Tryz.func21, Tryz.ntmps21
  go_wp2_with fail
  refine HM.out.mono ?_
  rintro e w1 ⟨rfl, ho⟩
  have HO1 := Lib.hid ho
  clear ho
  go_wp2_with fail
  refine (HPA.out _ HO1.out).mono ?_
  rintro e w2 ⟨v, rfl, hv, ho, _⟩
  have HO2 := Lib.hid (HO1.out.then ho)
  obtain ⟨a, cap, rfl, _, _, hc⟩ := hv
  simp only [List.length_map] at *
  have HC := Lib.hid hc
  clear ho hc
  go_wp2_with fail
  go_loopw [8, 24] (fun o i wr => ∃ j : Nat, j ≤ L.length ∧ i = .int .i64 j ∧ Hid (Ext w2 wr) ∧ Hid (wr.ownsRow w2.heap.size 9 1 o (((L.take j).map (·.1)).filter (fitT pat)).length ((((L.take j).map (·.1)).filter (fitT pat)).flatMap fun s => [S s]))) (fun _ i _ => L.length - (intOf i).toNat)
  case atStart => exact ⟨0, Nat.zero_le _, rfl, Lib.hid (Only.refl _ _), Lib.hid (World.ownsRow_nil _ _ _ _)⟩
  case round =>
    obtain ⟨j, hj, rfl, HX, HR⟩ := hrel
    by_cases hlt : j < L.length
    · have hltz : (j : Int) < (L.length : Int) := by omega
      obtain ⟨b0, off, rfl, hcell⟩ := HC.out (by intro h; rw [List.map_eq_nil_iff] at h; rw [h] at hlt; simp at hlt)
      obtain ⟨⟨p, x⟩, hq⟩ : ∃ y, L[j]? = some y := ⟨_, List.getElem?_eq_getElem hlt⟩
      have d0 : wr.cell? ⟨b0, off + j, none⟩ = some (S p) := HX.out.cellOf (hcell j p (by rw [List.getElem?_map, hq]; rfl)) (fun h => h)
      have hmem := List.mem_of_getElem? hq
      have hstep : ((L.take (j + 1)).map (·.1)).filter (fitT pat) = ((L.take j).map (·.1)).filter (fitT pat) ++ if fitT pat p then [p] else [] := by
        rw [List.take_add_one, hq]
        cases hf : fitT pat p <;> simp [hf]
      have hm1 := HMA.out wr (HO2.out.then HX.out) _ hmem
      unfold MatchIs at hm1
      have hok := HOK.out _ hmem
      simp only at hm1 hok
      have hfit : fitT pat p = fitsB (cut pat) (cut p) := by unfold fitT; rw [hok, Bool.true_and]
      rw [hok, Bool.true_and, ← hfit] at hm1
      have HM1 := Lib.hid hm1
      have HST := Lib.hid hstep
      have hgl : (((L.take j).map (·.1)).filter (fitT pat)).length ≤ 1000000 := by
        have := List.length_filter_le (fitT pat) ((L.take j).map (·.1))
        rw [List.length_map, List.length_take] at this
        omega
      obtain ⟨G, hG⟩ : ∃ G, Hid (G = ((L.take j).map (·.1)).filter (fitT pat)) := ⟨_, Lib.hid rfl⟩
      rw [← hG.out] at HR HST hgl
      clear hcell hq hmem hstep hm1 hok hfit
      cases hf : fitT pat p
      all_goals
        rw [hf] at HM1 HST
        go_wp2_with fail
        refine HM1.out.mono ?_
        rintro e w3 ⟨rfl, ho⟩
        have HX3 := Lib.hid (HX.out.then ho)
        have HR3 := Lib.hid (ho.row HR.out (fun _ _ h => h))
        clear ho
      · go_wp2_with fail
        go_roundw
        case rel => exact ⟨j + 1, by omega, by go_num, HX3, Lib.hid (by rw [HST.out]; simpa using HR3.out)⟩
        case measure => simp [intOf]; omega
      · go_wp2_with (at_builtin; refine wpList_appS (fun s => [S s]) 25 9 1 16 _ infoStr Tryz.underlying25 rfl (by decide) (fun _ => rfl) (fun _ u hu => by cases List.mem_singleton.1 hu; rfl) (by decide) _ _ w2.heap.size _ G p _ _ rfl rfl rfl rfl rfl HR3.out hgl HX3.out.size ?_; intro g5 cap5 w5 ho5 hg5 ha5; have b5 : Ext w2 w5 := grown_baseT HX3.out (row_geT HR3.out) hg5; have HX5 := Lib.hid b5; have HO5 := Lib.hid ho5; clear ho5 hg5 ha5 b5)
        go_roundw
        case rel => exact ⟨j + 1, by omega, by go_num, HX5, Lib.hid (by rw [HST.out, if_pos trivial, List.length_append]; exact HO5.out)⟩
        case measure => simp [intOf]; omega
    · have hltz : ¬ ((j : Int) < (L.length : Int)) := by omega
      have ht : L.take j = L := List.take_of_length_le (by omega)
      rw [ht, flat_one] at HR
      go_wp2_with fail
      go_ret2
      exact ⟨_, rfl, Rd.of_row HR.out, HO2.out.then HX.out⟩
end Go.Proofs.YtnmhaipjfpongaaGreatDoor
