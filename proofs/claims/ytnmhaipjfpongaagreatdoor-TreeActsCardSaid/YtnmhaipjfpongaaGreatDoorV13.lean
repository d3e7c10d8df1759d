/- The model's tree: Text. No condition but that the model is one, and lengths. -/
import Derived.Test.YtnmhaipjfpongaaGreatDoorV12
namespace Go.Proofs.YtnmhaipjfpongaaGreatDoor
open Go.ChangeShapes Go.WideShapes Go.ChangeAt Go.RowKit

theorem line_baF (F p d x : B) (hd : d = Lib.decDigits x.length) : ((⟨F.toArray⟩ : ByteArray) ++ ⟨p.toArray⟩ ++ ⟨#[32]⟩ ++ ⟨d.toArray⟩ ++ ⟨#[10]⟩ ++ ⟨x.toArray⟩ ++ ⟨#[10]⟩) = ⟨(F ++ lineT (p, x)).toArray⟩ := by
  rw [show (⟨#[32]⟩ : ByteArray) = ⟨([32] : B).toArray⟩ from rfl, show (⟨#[10]⟩ : ByteArray) = ⟨([10] : B).toArray⟩ from rfl]
  simp only [ba_app]
  simp [lineT, hd]

set_option maxRecDepth 100000 in
set_option maxHeartbeats 4000000 in
theorem textM_any (w : World) (base m : Nat) (slv : Value) (L : FL) (h : RTree w base m slv L) (h1 : ∀ q ∈ L, q.1.length ≤ 1000) (h2 : ∀ q ∈ L, q.2.length ≤ 2000) (hn : L.length ≤ 60) :
    Calls Tryz.prog 27 #[.pointer (some ⟨m, 0, none⟩)] w fun e w' => e = .returned (S (textT L)) ∧ Ext w w' := by
  obtain ⟨a, cap, hv, _, _, hc⟩ := h.rd
  subst hv
  obtain ⟨T, hT⟩ : ∃ T, Hid (T = textT L) := ⟨_, Lib.hid rfl⟩
  rw [← hT.out]
  have HM := Lib.hid h.cells
  have HC := Lib.hid hc
  have H1 := Lib.hid h1
  have H2 := Lib.hid h2
  clear hc h h1 h2
  go_enter Tryz.func27, Tryz.ntmps27
  go_wp2_with fail
  go_loopw [3, 4] (fun o i wr => ∃ j : Nat, j ≤ L.length ∧ i = .int .i64 j ∧ o = S (textT (L.take j)) ∧ Hid (Ext w wr)) (fun _ i _ => L.length - (intOf i).toNat)
  case atStart => exact ⟨0, Nat.zero_le _, rfl, rfl, Lib.hid (Only.refl _ _)⟩
  case round =>
    obtain ⟨j, hj, rfl, rfl, HX⟩ := hrel
    have c1 : wr.cell? ⟨m, 0, none⟩ = some (.slice a L.length cap) := (cell_of_heap (HX.out.heapOf HM.out (fun h => h)) 0).trans rfl
    by_cases hlt : j < L.length
    · have hltz : (j : Int) < (L.length : Int) := by omega
      obtain ⟨b, off, rfl, hcell⟩ := HC.out (by intro h; rw [h] at hlt; simp at hlt)
      obtain ⟨⟨p, x⟩, hq⟩ : ∃ y, L[j]? = some y := ⟨_, List.getElem?_eq_getElem hlt⟩
      have d0 : wr.cell? ⟨b, off + j * 2, none⟩ = some (S p) := HX.out.cellOf (hcell j _ hq 0 _ rfl) (fun h => h)
      have d1 : wr.cell? ⟨b, off + j * 2 + 1, none⟩ = some (S x) := HX.out.cellOf (hcell j _ hq 1 _ rfl) (fun h => h)
      have hxl := H2.out _ (List.mem_of_getElem? hq)
      have hpl := H1.out _ (List.mem_of_getElem? hq)
      have hxn : x.length ≤ 2000 := hxl
      have hpn : p.length ≤ 1000 := hpl
      have hit := fun W => decimal_any W x.length (by omega)
      have hdl := dec_le x.length (by omega)
      have hst := text_take_step hq
      have htl := text_take_len H1.out H2.out j
      obtain ⟨F, hF⟩ : ∃ F, F = textT (L.take j) := ⟨_, rfl⟩
      rw [← hF] at hst htl ⊢
      obtain ⟨d, hd⟩ : ∃ d, d = Lib.decDigits x.length := ⟨_, rfl⟩
      have hba := line_baF F p d x hd
      rw [← hd] at hdl
      simp only [← hd] at hit
      rw [← hst] at hba
      have q0 : ¬ 9223372036854775807 < F.length + p.length := by omega
      have q1 : ¬ 9223372036854775807 < F.length + p.length + 1 := by omega
      have q2 : ¬ 9223372036854775807 < F.length + p.length + 1 + d.length := by omega
      have q3 : ¬ 9223372036854775807 < F.length + p.length + 1 + d.length + 1 := by omega
      have q4 : ¬ 9223372036854775807 < F.length + p.length + 1 + d.length + 1 + x.length := by omega
      have q5 : ¬ 9223372036854775807 < F.length + p.length + 1 + d.length + 1 + x.length + 1 := by omega
      have HIT := Lib.hid hit
      have HBA := Lib.hid hba
      clear hcell hq hF hd hit hst hba htl hdl hxl hpl hxn hpn
      go_wp2_with fail
      go_region_held3 (fun w' => Ext w w' ∧ w'.cell? ⟨m, 0, none⟩ = some (.slice (some ⟨b, off, none⟩) L.length cap) ∧ w'.cell? ⟨b, off + j * 2, none⟩ = some (S p) ∧ w'.cell? ⟨b, off + j * 2 + 1, none⟩ = some (S x)) (first | exact ⟨HX5.out, e2, e0, e1⟩ | exact ⟨HX.out, c1, d0, d1⟩ | exact ⟨HX.out.thenDrew, c1, d0, d1⟩ | go_keep) ((go_at_call 58; refine (HIT.out _).mono ?_; rintro e w5 ⟨rfl, ho⟩; have HX5 : Hid (Ext w w5) := Lib.hid (Only.ext (by first | exact HX.out | exact HX.out.thenDrew) ho); have e0 : w5.cell? ⟨b, off + j * 2, none⟩ = some (S p) := ho.cellOf (by simpa using d0) (fun h => h); have e1 : w5.cell? ⟨b, off + j * 2 + 1, none⟩ = some (S x) := ho.cellOf (by simpa using d1) (fun h => h); have e2 : w5.cell? ⟨m, 0, none⟩ = some (.slice (some ⟨b, off, none⟩) L.length cap) := ho.cellOf (by simpa using c1) (fun h => h); clear ho))
      all_goals go_wp2
      all_goals
        refine ⟨⟨j + 1, by omega, by go_num, ?_, HX5⟩, (by simp [intOf]; omega)⟩
        exact congrArg Value.string HBA.out
    · have hltz : ¬ ((j : Int) < (L.length : Int)) := by omega
      have ht : L.take j = L := List.take_of_length_le (by omega)
      rw [ht, ← hT.out]
      go_wp2_with fail
      go_ret
      exact ⟨rfl, HX.out⟩
end Go.Proofs.YtnmhaipjfpongaaGreatDoor
