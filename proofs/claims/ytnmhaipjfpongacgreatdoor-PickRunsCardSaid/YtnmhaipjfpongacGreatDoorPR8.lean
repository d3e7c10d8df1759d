/- Texts of this seat laid together for one claim: E4, B1, W1, D1. No condition of its own: what each proves stands with its theorems. -/
import Derived.Deep.LoopGhost
import Derived.WalkLawsBesides
import Derived.WalkSpells
import Derived.Test.YtnmhaipjfpongacGreatDoorPR7
import Derived.Lib.AppendIntMem
import Derived.Lib.ItoaLen
import Derived.Lib.SmallJoins
import Derived.Test.YtnmhaipjfpongacGreatDoorPR1
import Derived.IntWalk
import Derived.Lib.AtoiAllCases
import Derived.Test.YtnmhaipjfpongacGreatDoorPR5
import Derived.Laws.BytesString
import Derived.Laws.IdiomStrings
namespace Go.Proofs.YtnmhaipjfpongacGreatDoor
open Go.ChangeShapes Go.WideShapes Go.ChangeAt Go.RowKit

theorem getElem?_getD' {α : Type} {l : List α} {i : Nat} (d : α) (h : i < l.length) : l[i]? = some (l.getD i d) := by
 rw [List.getD_eq_getElem?_getD, List.getElem?_eq_getElem h]; rfl

def Drawn (w w' : World) : Prop := ∃ n, w' = w.drewN n
theorem Drawn.ext {w w' : World} (h : Drawn w w') : Ext w w' := by obtain ⟨n, rfl⟩ := h; exact Only.drewN _ _ _
theorem Drawn.refl (w : World) : Drawn w w := ⟨0, rfl⟩
theorem Drawn.more {w w' : World} (h : Drawn w w') (n : Nat) : Drawn w (w'.drewN n) := by obtain ⟨m, rfl⟩ := h; exact ⟨m + n, by simp [World.drewN, Nat.add_assoc]⟩

theorem beq_take {α : Type} [BEq α] [LawfulBEq α] (d : α) (a b : List α) (hl : a.length = b.length) (h : ∀ j, j < a.length → a.getD j d = b.getD j d) : a = b := by
 apply List.ext_getElem hl
 intro i h1 h2
 have := h i h1
 rw [List.getD_eq_getElem?_getD, List.getD_eq_getElem?_getD, List.getElem?_eq_getElem h1, List.getElem?_eq_getElem h2] at this
 simpa using this

set_option maxHeartbeats 1000000 in
theorem sameInts_any (w : World) (v1 v2 : Value) (a b : List Int) (h1 : Rd I w v1 a) (h2 : Rd I w v2 b) :
  Calls Tryz.prog 65 #[v1, v2] w fun e w' => e = .returned (.bool (a == b)) ∧ Drawn w w' := by
 obtain ⟨a1, cap1, rfl, _, hm1, hc1⟩ := h1
 obtain ⟨a2, cap2, rfl, _, _, hc2⟩ := h2
 have hl1 : a.length ≤ 9223372036854775807 := by unfold maxLen at hm1; omega
 clear hm1
 have H1 := Lib.hid hc1
 have H2 := Lib.hid hc2
 clear hc1 hc2
 by_cases hl : a.length = b.length
 ·obtain ⟨r, hr⟩ : ∃ r, Hid (r = (a == b)) := ⟨_, Lib.hid rfl⟩
  rw [← hr.out]
  have HL := Lib.hid hl
  have hne : ((a.length : Int) != (a.length : Int)) = false := by simp
  rw [← hl]
  clear hl
  go_enter Tryz.func65, Tryz.ntmps65
  go_wp2_with fail
  go_loopw [5] (fun i wr => ∃ k : Nat, k ≤ a.length ∧ i = .int .i64 k ∧ Drawn w wr ∧ Hid (∀ j, j < k → a.getD j 0 = b.getD j 0)) (fun i _ => a.length - (intOf i).toNat)
  case atStart => exact ⟨0, Nat.zero_le _, rfl, Drawn.refl _, fun j hj => absurd hj (Nat.not_lt_zero _)⟩
  case round =>
   obtain ⟨k, hk, rfl, hd, hp⟩ := hrel
   have HD := Lib.hid hd
   clear hd
   by_cases hlt : k < a.length
   ·obtain ⟨b1, o1, rfl, d1⟩ := H1.out (by intro h; rw [h] at hlt; simp at hlt)
    obtain ⟨b2, o2, rfl, d2⟩ := H2.out (by intro h; have h2 := HL.out; rw [h] at h2; have h3 : a.length = 0 := h2; omega)
    have e1 := HD.out.ext.cellOf (d1 k _ (getElem?_getD' 0 hlt)) (fun h => h)
    have e2 := HD.out.ext.cellOf (d2 k _ (getElem?_getD' 0 (by have := HL.out; omega))) (fun h => h)
    clear d1 d2
    have hltz : (k : Int) < (a.length : Int) := by omega
    by_cases hq : a.getD k 0 = b.getD k 0
    ·have HQ := Lib.hid hq
     rw [hq] at e1
     clear hq
     generalize b.getD k 0 = x at e1 e2
     have hxx : (x != x) = false := by simp
     go_wp2_with fail
     go_quiet (fail)
     go_wp2
     go_roundw
     case rel => exact ⟨k + 1, by omega, by go_num, HD.out.more _, fun j hj => by
      rcases Nat.lt_succ_iff_lt_or_eq.1 hj with h | rfl
      ·exact hp.out j h
      ·exact HQ.out⟩
     case measure => simp [intOf]; omega
    ·have hxx : (a.getD k 0 != b.getD k 0) = true := by simpa using hq
     have hF : (a == b) = false := beq_eq_false_iff_ne.2 fun e => hq (by rw [e])
     have HF := Lib.hid hF
     clear hF hq
     generalize a.getD k 0 = x at e1 hxx
     generalize b.getD k 0 = y at e2 hxx
     go_wp2_with fail
     go_quiet (fail)
     go_wp2
     go_ret
     exact ⟨by rw [hr.out, HF.out]; rfl, HD.out.more _⟩
   ·have hT : (a == b) = true := by
     rw [beq_iff_eq]
     exact beq_take 0 a b HL.out fun j hj => hp.out j (by omega)
    have HT := Lib.hid hT
    clear hT
    go_wp2_with fail
    go_ret
    exact ⟨by rw [hr.out, HT.out]; rfl, HD.out⟩
 ·have hne : ((a.length : Int) != (b.length : Int)) = true := by rw [bne_iff_ne]; omega
  have hF : (a == b) = false := beq_eq_false_iff_ne.2 fun e => hl (by rw [e])
  rw [hF]
  go_enter Tryz.func65, Tryz.ntmps65
  go_wp2_with fail
  go_ret
  exact ⟨rfl, Drawn.refl _⟩
end Go.Proofs.YtnmhaipjfpongacGreatDoor

namespace Go.Proofs.YtnmhaipjfpongacGreatDoor
open Go.ChangeShapes Go.WideShapes Go.ChangeAt Go.RowKit

theorem write_any (n0 b : Nat) (l s : B) (w : World) (h : Lib.IsBuilder 169 5 n0 b (Lib.byteCells l) w) (hlen : l.length + s.length ≤ 140737488355328) (hBw : n0 ≤ w.heap.size) :
  Calls Tryz.prog 106 #[.pointer (some ⟨b, 0, none⟩), S s] w fun e w' => e = .returned (.tuple #[I s.length, .nilIface]) ∧ Lib.IsBuilder 169 5 n0 b (Lib.byteCells (l ++ s)) w' ∧ Below n0 w w' := by
 have hsz : (⟨s.toArray⟩ : ByteArray).size = s.length := by simp [ByteArray.size]
 refine (Any.Builder_WriteString { Tryz.lays156 with } Tryz.Builder_Extra_156 n0 b (Lib.byteCells l) ⟨s.toArray⟩ w h (by rw [Lib.byteCells_length, hsz]; exact hlen) hBw).mono ?_
 rintro e w' ⟨rfl, h1, h2⟩
 refine ⟨by rw [hsz], .inr ?_, h2⟩
 have e1 : Lib.byteCells l ++ Lib.strCells ⟨s.toArray⟩ = Lib.byteCells (l ++ s) := by rw [Lib.strCells_eq]; simp [Lib.byteCells]
 rw [← e1]
 exact h1

abbrev Pow (w : World) : Prop := Lib.TabIs Tryz.prog w "internal/strconv.uint64pow10" .u64 Lib.pow10Tab

theorem Pow.ext {w w' : World} (h : Pow w) (ho : Ext w w') : Pow w' :=
 Go.Joins.tab_stays (g := 13) (by kernel_rfl) h ho.extBelow (Nat.le_refl _)

theorem itoa_any (w : World) (n : Nat) (hn : n ≤ 1000000000) (h : Pow w) : Calls Tryz.prog 107 #[I n] w fun e w' => e = .returned (S (Lib.decDigits n)) ∧ Ext w w' := by
 refine (Tryz.strconv_Itoa n (by omega) (by omega) w h).mono ?_
 rintro e w' ⟨rfl, k, os, rfl⟩
 exact ⟨by rw [Lib.itoa_nonneg], Only.of_below (Lib.below_grow w.heap.size w (Nat.le_refl _) k os)⟩

def cnt (s : B) : B := Lib.decDigits s.length ++ 58 :: s

theorem ba_app (a b : B) : ((⟨a.toArray⟩ : ByteArray) ++ ⟨b.toArray⟩) = ⟨(a ++ b).toArray⟩ := by
 ext1
 simp [ByteArray.data_append]

theorem dec_le (n : Nat) (h : n ≤ 1000000000) : (Lib.decDigits n).length ≤ 20 := by
 rw [Lib.decDigits_length]
 exact Lib.nDigits_le20 n (by omega)

theorem counted_any (w : World) (s : B) (hs : s.length ≤ 1000000) (h : Pow w) : Calls Tryz.prog 189 #[S s] w fun e w' => e = .returned (S (cnt s)) ∧ Ext w w' := by
 have hi := itoa_any w s.length (by omega) h
 have hd := dec_le s.length (by omega)
 have h1 : ¬ 9223372036854775807 < (Lib.decDigits s.length).length + 1 := by omega
 have h2 : ¬ 9223372036854775807 < (Lib.decDigits s.length).length + 1 + s.length := by omega
 have HI := Lib.hid hi
 clear hi h hd
 go_enter Tryz.func189, Tryz.ntmps189
 go_wp2_with (go_at_call 107; refine HI.out.mono ?_; rintro e w1 ⟨rfl, h1⟩)
 go_ret
 refine ⟨?_, h1⟩
 have e1 : ((⟨(Lib.decDigits s.length).toArray⟩ : ByteArray) ++ ⟨#[58]⟩ ++ ⟨s.toArray⟩) = ⟨(cnt s).toArray⟩ := by
  rw [show (⟨#[58]⟩ : ByteArray) = ⟨([58] : B).toArray⟩ from rfl, ba_app, ba_app]
  simp [cnt]
 exact congrArg (fun x => Ending.returned (Value.string x)) e1
end Go.Proofs.YtnmhaipjfpongacGreatDoor

namespace Go.Proofs.YtnmhaipjfpongacGreatDoor
open Go.ChangeShapes Go.WideShapes Go.ChangeAt Go.RowKit

def AtoiVars (w : World) : Prop := (∃ t p, w.cell? ⟨17, 0, none⟩ = some (.iface t p)) ∧ ∃ t p, w.cell? ⟨18, 0, none⟩ = some (.iface t p)
theorem AtoiVars.ext {w w' : World} (h : AtoiVars w) (ho : Ext w w') : AtoiVars w' := by
 obtain ⟨⟨t, p, h1⟩, t', p', h2⟩ := h
 exact ⟨⟨t, p, ho.cellOf h1 (fun h => h)⟩, t', p', ho.cellOf h2 (fun h => h)⟩

theorem atoi_ok (w : World) (s : B) (hs : s.length ≤ 1000000) (v : Int) (h : Lib.atoiAll s = .ok v) :
  Calls Tryz.prog 305 #[S s] w fun e w' => e = .returned (.tuple #[I v, .nilIface]) ∧ Ext w w' := by
 refine (Tryz.strconv_Atoi_ok ⟨s.toArray⟩ (by simp [ByteArray.size]; omega) v h w).mono ?_
 rintro e w' ⟨rfl, rfl | ⟨t, rfl⟩⟩
 ·exact ⟨rfl, Only.refl _ _⟩
 ·exact ⟨rfl, Only.of_below (Lib.bytesWorld_below _ _ _)⟩

def IfaceIs (w : World) (e : Ending) (w' : World) : Prop := ∃ v t p, e = .returned (.tuple #[I v, .iface t p]) ∧ Ext w w'

theorem atoi_bad (w : World) (s : B) (hs : s.length ≤ 1000000) (hv : AtoiVars w) (h : ∀ v, Lib.atoiAll s ≠ .ok v) :
  Calls Tryz.prog 305 #[S s] w (IfaceIs w) := by
 obtain ⟨⟨t, p, h1⟩, t', p', h2⟩ := hv
 cases hq : Lib.atoiAll s with
 | ok v => exact absurd hq (h v)
 | range =>
  refine (Tryz.strconv_Atoi_range ⟨s.toArray⟩ (by simp [ByteArray.size]; omega) hq _ w h2 (.inr ⟨_, _, rfl⟩)).mono ?_
  rintro e w' ⟨N, rfl, _, _, hb⟩
  exact ⟨_, _, _, rfl, Only.of_below hb⟩
 | _ =>
  refine (Any.strconv_Atoi_syntax Tryz.laysC172 ⟨s.toArray⟩ (by simp [ByteArray.size]; omega) hq _ w h1 (.inr ⟨_, _, rfl⟩)).mono ?_
  rintro e w' ⟨N, rfl, _, _, hb⟩
  exact ⟨_, _, _, rfl, Only.of_below hb⟩

def numB (k : Nat) (s : B) : Option Nat :=
 match Lib.atoiAll s with
 | .ok v => if s.length ≤ k ∧ 0 ≤ v ∧ Lib.decDigits v.toNat = s then some v.toNat else none
 | _ => none

theorem parse10_lt : ∀ (l : B) (acc u : Nat), Lib.parseUint10 acc l = .ok u → u < (acc + 1) * 10 ^ l.length
 | [], acc, u, h => by
  simp only [Lib.parseUint10] at h
  injection h with h
  simp; omega
 | c :: r, acc, u, h => by
  simp only [Lib.parseUint10] at h
  split at h
  ·rename_i hc
   split at h
   ·cases h
   ·split at h
    ·cases h
    ·have := parse10_lt r _ u h
     rw [List.length_cons, Nat.pow_succ]
     refine Nat.lt_of_lt_of_le this ?_
     rw [Nat.mul_comm (10 ^ r.length) 10, ← Nat.mul_assoc]
     exact Nat.mul_le_mul_right _ (by omega)
  ·cases h

theorem atoi_lt {s : B} {v : Int} (h : Lib.atoiAll s = .ok v) : v < 10 ^ s.length := by
 cases s with
 | nil => cases h
 | cons c r =>
  simp only [Lib.atoiAll] at h
  split at h
  ·cases h
  ·cases h
  ·rename_i u hu
   have hu2 : (u : Int) < 10 ^ (c :: r).length := by
    have hl : (if c.toNat = 43 ∨ c.toNat = 45 then r else c :: r).length ≤ (c :: r).length := by split <;> simp
    generalize (if c.toNat = 43 ∨ c.toNat = 45 then r else c :: r) = q at hu hl
    unfold Lib.parseMag at hu
    by_cases hq : q = []
    ·rw [if_pos hq] at hu; cases hu
    ·rw [if_neg hq] at hu
     have := parse10_lt _ 0 u hu
     have h2 := Nat.pow_le_pow_right (show 0 < 10 by omega) hl
     have h3 : u < 10 ^ (c :: r).length := by omega
     exact_mod_cast h3
   split at h
   ·cases h
   ·split at h
    ·cases h
    ·injection h with h
     have h0 : (0 : Int) < 10 ^ (c :: r).length := by exact_mod_cast Nat.pow_pos (show 0 < 10 by omega)
     split at h <;> omega

theorem numB_some {k : Nat} {s : B} {n : Nat} (h : numB k s = some n) : Lib.atoiAll s = .ok (n : Int) ∧ s.length ≤ k ∧ Lib.decDigits n = s := by
 unfold numB at h
 split at h
 ·rename_i v hv
  split at h
  ·rename_i hc
   cases h
   obtain ⟨h1, h2, h3⟩ := hc
   exact ⟨by rw [hv, Int.toNat_of_nonneg h2], h1, h3⟩
  ·cases h
 ·cases h

end Go.Proofs.YtnmhaipjfpongacGreatDoor

namespace Go.Proofs.YtnmhaipjfpongacGreatDoor
open Go.ChangeShapes Go.WideShapes Go.ChangeAt Go.RowKit

theorem byte_conv (w : World) (n : Nat) (hn : n < 256) : (convert 167 9 (.slice (some ⟨w.heap.size, 0, none⟩) 1 1)).run Tryz.prog (w.alloc (.cells #[.int .u8 n] 5 (0, 0))) = .ok (S [UInt8.ofNat n]) (w.alloc (.cells #[.int .u8 n] 5 (0, 0))) := by
 refine run_convert_bytes_back _ 167 9 5 ⟨w.heap.size, 0, none⟩ 1 [UInt8.ofNat n] Tryz.underlying167 Tryz.underlying5 Tryz.underlying9 (fun j hj => ?_)
 obtain rfl : j = 0 := by simpa using hj
 have e : (UInt8.ofNat n).toNat = n := by simp; omega
 simp [Addr.add, e]

theorem IntKind.wraps_u8_ (n : Nat) (h : n < 256) : IntKind.u8.wrap (n : Int) = n := by simp [IntKind.wrap, IntKind.bits, IntKind.signed]; omega

theorem byte_any (w : World) (n : Nat) (hn : n < 256) : Calls Tryz.prog 197 #[I n] w fun e w' => e = .returned (S [UInt8.ofNat n]) ∧ Ext w w' := by
 have hw : IntKind.u8.wrap (n : Int) = n := IntKind.wraps_u8_ n hn
 have hc := byte_conv w n hn
 go_enter Tryz.func197, Tryz.ntmps197
 go_wp2
 go_ret
 exact ⟨rfl, Only.alloc _ _ _⟩

theorem below_any (n : Nat) (hn : n ≤ 1000000000) : ∀ w m, m = -(n : Int) → Calls Tryz.prog 177 #[.int .i64 m] w fun e w' => e = .returned (S (Lib.decDigits n)) ∧ Ext w w' := by
 induction n using Nat.strongRecOn with
 | _ n ih =>
  intro w m hm
  by_cases h10 : n < 10
  ·have hb := byte_any w (48 + n) (by omega)
   have hd : Lib.decDigits n = [UInt8.ofNat (48 + n)] := Lib.decDigits_one h10
   rw [hd]
   obtain ⟨z, hz⟩ : ∃ z : Int, z = ((48 + n : Nat) : Int) := ⟨_, rfl⟩
   have e1 : (48 : Int) - m = z := by omega
   have c1 : -10 < m := by omega
   have b1 : 0 ≤ z := by omega
   have b2 : z ≤ 100 := by omega
   have b3 : m ≤ 0 := by omega
   rw [← hz] at hb
   generalize UInt8.ofNat (48 + n) = u at hb ⊢
   have HB := Lib.hid hb
   clear hb hd hm hz ih
   go_enter Tryz.func177, Tryz.ntmps177
   go_wp2_with (go_at_call 197; refine HB.out.mono ?_; rintro e w1 ⟨rfl, h1⟩)
   go_ret
   exact ⟨rfl, h1⟩
  ·obtain ⟨q, hq⟩ : ∃ q : Int, q = -((n / 10 : Nat) : Int) := ⟨_, rfl⟩
   have hi := ih (n / 10) (by omega) (by omega) w q hq
   have hb := fun w => byte_any w (48 + n % 10) (by omega)
   have hd : Lib.decDigits n = Lib.decDigits (n / 10) ++ [UInt8.ofNat (48 + n % 10)] := by rw [Lib.decDigits, dif_neg h10]
   have hl := dec_le (n / 10) (by omega)
   have h1 : ¬ 9223372036854775807 < (Lib.decDigits (n / 10)).length + 1 := by omega
   rw [hd]
   obtain ⟨z, hz⟩ : ∃ z : Int, z = ((48 + n % 10 : Nat) : Int) := ⟨_, rfl⟩
   have e2 : m.tdiv 10 = q := by rw [hm, Int.neg_tdiv, hq]; rfl
   have e3 : (48 : Int) - m.tmod 10 = z := by
    rw [hm, Int.neg_tmod, show ((n : Int).tmod 10) = ((n % 10 : Nat) : Int) from rfl]
    omega
   have c1 : ¬ -10 < m := by omega
   have b1 : 0 ≤ z := by omega
   have b2 : z ≤ 100 := by omega
   have b3 : m ≤ 0 := by omega
   have b4 : -1000000000 ≤ m := by omega
   have b5 : -1000000000 ≤ q := by omega
   have b6 : q ≤ 0 := by omega
   simp only [← hz] at hb
   generalize UInt8.ofNat (48 + n % 10) = u at hb ⊢
   have HI := Lib.hid hi
   have HB := Lib.hid hb
   generalize hD : Lib.decDigits (n / 10) = D at HI h1 ⊢
   clear hi hb hm hd ih hz hq hl hD
   go_enter Tryz.func177, Tryz.ntmps177
   go_wp2_with (first | (go_at_call 177; refine HI.out.mono ?_; rintro e w1 ⟨rfl, h2⟩; have H2 := Lib.hid h2; clear h2) | (go_at_call 197; refine (HB.out _).mono ?_; rintro e w3 ⟨rfl, h3⟩))
   go_ret
   exact ⟨congrArg (fun x => Ending.returned (Value.string x)) (ba_app D [u]), H2.out.ext h3⟩

theorem decimal_any (w : World) (n : Nat) (hn : n ≤ 1000000000) : Calls Tryz.prog 109 #[I n] w fun e w' => e = .returned (S (Lib.decDigits n)) ∧ Ext w w' := by
 have hi := below_any n hn w (-(n : Int)) rfl
 have c1 : ¬ ((n : Int) < 0) := by omega
 have HI := Lib.hid hi
 clear hi
 go_enter Tryz.func109, Tryz.ntmps109
 go_wp2_with (go_at_call 177; refine HI.out.mono ?_; rintro e w1 ⟨rfl, h1⟩)
 go_ret
 exact ⟨rfl, h1⟩
end Go.Proofs.YtnmhaipjfpongacGreatDoor
