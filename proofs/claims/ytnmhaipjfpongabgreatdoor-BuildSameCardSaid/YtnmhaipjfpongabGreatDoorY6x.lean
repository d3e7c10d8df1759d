/- A command's key, at larger bounds. No condition but lengths, and the table of powers. -/
import Derived.Test.YtnmhaipjfpongabGreatDoorGe
namespace Go.Proofs.YtnmhaipjfpongabGreatDoor
open Go.ChangeShapes Go.WideShapes Go.ChangeAt Go.RowKit

theorem flat_take_lenK {ins : List B} (h : ∀ x ∈ ins, x.length ≤ 3000) : ∀ j, ((ins.take j).flatMap cnt).length ≤ 4000 * j
  | 0 => by simp
  | j + 1 => by
    have ih := flat_take_lenK h j
    cases hx : ins[j]? with
    | none =>
      have : ins.take (j + 1) = ins.take j := by rw [List.take_add_one, hx]; simp
      rw [this]; omega
    | some x =>
      have hl := cnt_len x (by have := h x (List.mem_of_getElem? hx); omega)
      have := h x (List.mem_of_getElem? hx)
      rw [flat_take_step hx, List.length_append]
      omega

set_option maxHeartbeats 1000000 in
theorem keyBig_any (w : World) (kind word : B) (v : Value) (ins : List B) (hv : Rd S w v ins) (h1 : kind.length ≤ 100) (h2 : word.length ≤ 100) (h3 : ins.length ≤ 12) (h4 : ∀ x ∈ ins, x.length ≤ 3000) (hp : Pow w) :
    Calls Tryz.prog 127 #[S kind, S word, v] w fun e w' => e = .returned (S (keyT kind word ins)) ∧ Ext w w' := by
  obtain ⟨a, cap, rfl, _, _, hc⟩ := hv
  have l1 := cnt_len kind (by omega)
  have l2 := cnt_len word (by omega)
  have hck : ∀ w1, Pow w1 → Calls Tryz.prog 200 #[S kind] w1 _ := fun w1 h => counted_any w1 kind (by omega) h
  have hcw : ∀ w1, Pow w1 → Calls Tryz.prog 200 #[S word] w1 _ := fun w1 h => counted_any w1 word (by omega) h
  obtain ⟨K, hK⟩ : ∃ K, K = keyT kind word ins := ⟨_, rfl⟩
  obtain ⟨ck, hk⟩ : ∃ ck, ck = cnt kind := ⟨_, rfl⟩
  obtain ⟨cw, hw⟩ : ∃ cw, cw = cnt word := ⟨_, rfl⟩
  have hKe : K = ck ++ cw ++ ins.flatMap cnt := by rw [hK, hk, hw]; rfl
  rw [← hK]
  simp only [← hk] at hck
  simp only [← hw] at hcw
  rw [← hk] at l1
  rw [← hw] at l2
  have l3 : ¬ 9223372036854775807 < ck.length + cw.length := by omega
  have l4 : ck.length + cw.length ≤ 242 := by omega
  have HKE := Lib.hid hKe
  have HCK := Lib.hid hck
  have HCW := Lib.hid hcw
  have HC := Lib.hid hc
  have H4 := Lib.hid h4
  have HP := Lib.hid hp
  clear hc hKe hck hcw hK hk hw h4 hp l1 l2 h1 h2
  go_enter Tryz.func127, Tryz.ntmps127
  go_wp2_with fail
  refine (HCK.out _ (HP.out.ext (Only.alloc (fun _ => False) w _))).mono ?_
  rintro e w1 ⟨rfl, ho⟩
  have HO1 := Lib.hid ((Only.alloc (fun _ => False) w (.cells #[.pointer none, .slice none 0 0] 152 (0, 0))).ext ho)
  have HB1 := Lib.hid ((IsB.fresh w).ext ho)
  clear ho
  go_wp2_with fail
  refine (HCW.out _ (HP.out.ext HO1.out)).mono ?_
  rintro e w2 ⟨rfl, ho⟩
  have HO2 := Lib.hid (HO1.out.ext ho)
  have HB2 := Lib.hid (HB1.out.ext ho)
  clear ho
  go_wp2_with fail
  rw [ba_app]
  refine (write_any w.heap.size w.heap.size [] (ck ++ cw) w2 HB2.out (by simp; omega) HO2.out.size).mono ?_
  rintro e w3 ⟨rfl, hb3, hbl⟩
  have HO3 := Lib.hid (ext_below HO2.out hbl)
  have HB3 := Lib.hid hb3
  clear hb3 hbl HB1 HB2 HCK HCW HO1 HO2
  go_wp2_with fail
  obtain ⟨b, hbE⟩ : ∃ b, b = w.heap.size := ⟨_, rfl⟩
  have HB3' : Hid (IsB w.heap.size b (ck ++ cw) w3) := by rw [hbE]; simpa using HB3
  rw [← hbE]
  clear hbE HB3
  go_loopw [18] (fun i wr => ∃ j : Nat, j ≤ ins.length ∧ i = .int .i64 j ∧ Hid (Ext w wr) ∧ Hid (IsB w.heap.size b (ck ++ cw ++ (ins.take j).flatMap cnt) wr)) (fun i _ => ins.length - (intOf i).toNat)
  case atStart => exact ⟨0, Nat.zero_le _, rfl, HO3, by simpa using HB3'⟩
  case round =>
    obtain ⟨j, hj, rfl, HX, HB⟩ := hrel
    by_cases hlt : j < ins.length
    · have hltz : (j : Int) < (ins.length : Int) := by omega
      obtain ⟨b0, off, rfl, hcell⟩ := HC.out (by intro h; rw [h] at hlt; simp at hlt)
      obtain ⟨x, hx⟩ : ∃ y, ins[j]? = some y := ⟨_, List.getElem?_eq_getElem hlt⟩
      have d0 : wr.cell? ⟨b0, off + j, none⟩ = some (S x) := HX.out.cellOf (hcell j x hx) (fun h => h)
      have hxl := H4.out x (List.mem_of_getElem? hx)
      have hst := flat_take_step hx
      have hfl := flat_take_lenK H4.out j
      have hcx := counted_any wr x (by omega) (HP.out.ext HX.out)
      have hcl := cnt_len x (by omega)
      obtain ⟨cx, hcx'⟩ : ∃ cx, cx = cnt x := ⟨_, rfl⟩
      rw [← hcx'] at hcx hst hcl
      have HST := Lib.hid hst
      have HCX := Lib.hid hcx
      clear hcell hx hst hcx hcx'
      obtain ⟨F, hF⟩ : ∃ F, F = (ins.take j).flatMap cnt := ⟨_, rfl⟩
      rw [← hF] at HB HST hfl
      clear hF
      go_wp2_with fail
      refine HCX.out.mono ?_
      rintro e w5 ⟨rfl, ho⟩
      have HX5 := Lib.hid (HX.out.ext ho)
      have HB5 := Lib.hid (HB.out.ext ho)
      clear ho
      go_wp2_with fail
      refine (write_any w.heap.size b _ cx w5 HB5.out (by simp; omega) HX5.out.size).mono ?_
      rintro e w6 ⟨rfl, hb6, hbl⟩
      have HX6 := Lib.hid (ext_below HX5.out hbl)
      have HB6 := Lib.hid hb6
      clear hb6 hbl
      go_wp2_with fail
      go_roundw
      case rel => exact ⟨j + 1, by omega, by go_num, HX6, Lib.hid (by rw [HST.out]; simpa using HB6.out)⟩
      case measure => simp [intOf]; omega
    · have hltz : ¬ ((j : Int) < (ins.length : Int)) := by omega
      have ht : ins.take j = ins := List.take_of_length_le (by omega)
      rw [ht, ← HKE.out] at HB
      go_wp2_with fail
      refine (Tryz.Builder_String_any w.heap.size b K wr HB.out HX.out.size).mono ?_
      rintro e w6 ⟨rfl, hbl⟩
      have HX6 := Lib.hid (ext_below HX.out hbl)
      clear hbl
      go_wp2_with fail
      go_ret
      exact ⟨rfl, HX6.out⟩
end Go.Proofs.YtnmhaipjfpongabGreatDoor
