/- The model's words on numbers: Byte, below, Decimal. No condition but the bounds. -/
import Derived.Test.YtnmhaipjfpongaaGreatDoorB1
import Derived.Laws.IdiomStrings
import Derived.Laws.BytesString
namespace Go.Proofs.YtnmhaipjfpongaaGreatDoor
open Go.ChangeShapes Go.WideShapes Go.ChangeAt Go.RowKit

theorem byte_conv (w : World) (n : Nat) (hn : n < 256) : (convert 98 9 (.slice (some ⟨w.heap.size, 0, none⟩) 1 1)).run Tryz.prog (w.alloc (.cells #[.int .u8 n] 5 (0, 0))) = .ok (S [UInt8.ofNat n]) (w.alloc (.cells #[.int .u8 n] 5 (0, 0))) := by
  refine run_convert_bytes_back _ 98 9 5 ⟨w.heap.size, 0, none⟩ 1 [UInt8.ofNat n] Tryz.underlying98 Tryz.underlying5 Tryz.underlying9 (fun j hj => ?_)
  obtain rfl : j = 0 := by simpa using hj
  have e : (UInt8.ofNat n).toNat = n := by simp; omega
  simp [Addr.add, e]

theorem IntKind.wraps_u8_ (n : Nat) (h : n < 256) : IntKind.u8.wrap (n : Int) = n := by simp [IntKind.wrap, IntKind.bits, IntKind.signed]; omega

theorem byte_any (w : World) (n : Nat) (hn : n < 256) : Calls Tryz.prog 140 #[I n] w fun e w' => e = .returned (S [UInt8.ofNat n]) ∧ Ext w w' := by
  have hw : IntKind.u8.wrap (n : Int) = n := IntKind.wraps_u8_ n hn
  have hc := byte_conv w n hn
  go_enter Tryz.func140, Tryz.ntmps140
  go_wp2
  go_ret
  exact ⟨rfl, Only.alloc _ _ _⟩

theorem below_any (n : Nat) (hn : n ≤ 1000000000) : ∀ w m, m = -(n : Int) → Calls Tryz.prog 86 #[.int .i64 m] w fun e w' => e = .returned (S (Lib.decDigits n)) ∧ Ext w w' := by
  induction n using Nat.strongRecOn with
  | _ n ih =>
    intro w m hm
    by_cases h10 : n < 10
    · have hb := byte_any w (48 + n) (by omega)
      have hd : Lib.decDigits n = [UInt8.ofNat (48 + n)] := Lib.decDigits_one h10
      rw [hd]
      obtain ⟨z, hz⟩ : ∃ z : Int, z = ((48 + n : Nat) : Int) := ⟨_, rfl⟩
      have e1 : (48 : Int) - m = z := by omega
      have c1 : -10 < m := by omega
      have b1 : 0 ≤ z := by omega
      have b2 : z ≤ 100 := by omega
      have b3 : m ≤ 0 := by omega
      rw [← hz] at hb
      generalize UInt8.ofNat (48 + n) = u at hb ⊢
      have HB := Lib.hid hb
      clear hb hd hm hz ih
      go_enter Tryz.func86, Tryz.ntmps86
      go_wp2_with (go_at_call 140; refine HB.out.mono ?_; rintro e w1 ⟨rfl, h1⟩)
      go_ret
      exact ⟨rfl, h1⟩
    · obtain ⟨q, hq⟩ : ∃ q : Int, q = -((n / 10 : Nat) : Int) := ⟨_, rfl⟩
      have hi := ih (n / 10) (by omega) (by omega) w q hq
      have hb := fun w => byte_any w (48 + n % 10) (by omega)
      have hd : Lib.decDigits n = Lib.decDigits (n / 10) ++ [UInt8.ofNat (48 + n % 10)] := by rw [Lib.decDigits, dif_neg h10]
      have hl := dec_le (n / 10) (by omega)
      have h1 : ¬ 9223372036854775807 < (Lib.decDigits (n / 10)).length + 1 := by omega
      rw [hd]
      obtain ⟨z, hz⟩ : ∃ z : Int, z = ((48 + n % 10 : Nat) : Int) := ⟨_, rfl⟩
      have e2 : m.tdiv 10 = q := by rw [hm, Int.neg_tdiv, hq]; rfl
      have e3 : (48 : Int) - m.tmod 10 = z := by
        rw [hm, Int.neg_tmod, show ((n : Int).tmod 10) = ((n % 10 : Nat) : Int) from rfl]
        omega
      have c1 : ¬ -10 < m := by omega
      have b1 : 0 ≤ z := by omega
      have b2 : z ≤ 100 := by omega
      have b3 : m ≤ 0 := by omega
      have b4 : -1000000000 ≤ m := by omega
      have b5 : -1000000000 ≤ q := by omega
      have b6 : q ≤ 0 := by omega
      simp only [← hz] at hb
      generalize UInt8.ofNat (48 + n % 10) = u at hb ⊢
      have HI := Lib.hid hi
      have HB := Lib.hid hb
      generalize hD : Lib.decDigits (n / 10) = D at HI h1 ⊢
      clear hi hb hm hd ih hz hq hl hD
      go_enter Tryz.func86, Tryz.ntmps86
      go_wp2_with (first | (go_at_call 86; refine HI.out.mono ?_; rintro e w1 ⟨rfl, h2⟩; have H2 := Lib.hid h2; clear h2) | (go_at_call 140; refine (HB.out _).mono ?_; rintro e w3 ⟨rfl, h3⟩))
      go_ret
      exact ⟨congrArg (fun x => Ending.returned (Value.string x)) (ba_app D [u]), H2.out.ext h3⟩

theorem decimal_any (w : World) (n : Nat) (hn : n ≤ 1000000000) : Calls Tryz.prog 58 #[I n] w fun e w' => e = .returned (S (Lib.decDigits n)) ∧ Ext w w' := by
  have hi := below_any n hn w (-(n : Int)) rfl
  have c1 : ¬ ((n : Int) < 0) := by omega
  have HI := Lib.hid hi
  clear hi
  go_enter Tryz.func58, Tryz.ntmps58
  go_wp2_with (go_at_call 86; refine HI.out.mono ?_; rintro e w1 ⟨rfl, h1⟩)
  go_ret
  exact ⟨rfl, h1⟩
end Go.Proofs.YtnmhaipjfpongaaGreatDoor
