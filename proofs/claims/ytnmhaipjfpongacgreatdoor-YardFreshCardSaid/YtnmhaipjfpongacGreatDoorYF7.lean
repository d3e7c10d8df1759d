/- Texts of this seat laid together for one claim: E3, E4, B1, W1, Q8, D1, Y1, Y2, Y3, Y6, L1, L2. No condition of its own: what each proves stands with its theorems. -/
import Derived.Lib.Hide
import Derived.Test.YtnmhaipjfpongacGreatDoorYF0
import Derived.Deep.LoopGhost
import Derived.WalkLawsBesides
import Derived.WalkSpells
import Derived.Lib.AppendIntMem
import Derived.Lib.ItoaLen
import Derived.Lib.SmallJoins
import Derived.Test.YtnmhaipjfpongacGreatDoorYF1
import Derived.IntWalk
import Derived.Lib.AtoiAllCases
import Derived.Test.YtnmhaipjfpongacGreatDoorYF6
import Derived.Test.YtnmhaipjfpongacGreatDoorYF5
import Derived.Laws.BytesString
import Derived.Laws.IdiomStrings
import Derived.Maps.AppendAt
import Derived.Test.YtnmhaipjfpongacGreatDoorYF3
import Derived.LaidHandle
import Derived.LaidLaws
namespace Go.Proofs.YtnmhaipjfpongacGreatDoor
open Go.ChangeShapes Go.WideShapes Go.ChangeAt Go.RowKit

def errVars : List Nat := [8, 2, 0, 9, 10, 1, 3, 4, 7, 11, 6, 5]

abbrev errV (a : Addr) : Value := .iface 390 (.pointer (some a))

structure Sents (w : World) (p : Nat → Addr) : Prop where
 var : ∀ i g, errVars[i]? = some g → w.cell? ⟨g, 0, none⟩ = some (errV (p i))
 row : ∀ i, i < 12 → ∃ c t, w.heap[(p i).block]? = some (.cells c t (0, 0))
 apart : ∀ i j, i < 12 → j < 12 → p i = p j → i = j
 typ : w.cell? ⟨12, 0, none⟩ = some errType

theorem Sents.ext {w w' : World} {p : Nat → Addr} (h : Sents w p) (ho : Ext w w') : Sents w' p :=
 ⟨fun i g hg => ho.cellOf (h.var i g hg) (fun h => h), fun i hi => by obtain ⟨c, t, hc⟩ := h.row i hi; exact ⟨c, t, ho.heapOf hc (fun h => h)⟩, h.apart, ho.cellOf h.typ (fun h => h)⟩

structure Errs (w : World) (p : Nat → Addr) (L : List Nat) : Prop where
 var : ∀ i g, i ∈ L → errVars[i]? = some g → w.cell? ⟨g, 0, none⟩ = some (errV (p i))
theorem Errs.ext {w w' : World} {p : Nat → Addr} {L : List Nat} (h : Errs w p L) (ho : Ext w w') : Errs w' p L := ⟨fun i g hi hg => ho.cellOf (h.var i g hi hg) (fun h => h)⟩
theorem Errs.sub {w : World} {p : Nat → Addr} {L K : List Nat} (h : Errs w p L) (hk : ∀ i ∈ K, i ∈ L) : Errs w p K := ⟨fun i g hi hg => h.var i g (hk i hi) hg⟩
theorem Sents.errs {w : World} {p : Nat → Addr} (h : Sents w p) (L : List Nat) : Errs w p L := ⟨fun i g _ hg => h.var i g hg⟩

end Go.Proofs.YtnmhaipjfpongacGreatDoor

namespace Go.Proofs.YtnmhaipjfpongacGreatDoor
open Go.ChangeShapes Go.WideShapes Go.ChangeAt Go.RowKit

def Drawn (w w' : World) : Prop := ∃ n, w' = w.drewN n
theorem Drawn.ext {w w' : World} (h : Drawn w w') : Ext w w' := by obtain ⟨n, rfl⟩ := h; exact Only.drewN _ _ _
theorem Drawn.refl (w : World) : Drawn w w := ⟨0, rfl⟩
theorem Drawn.more {w w' : World} (h : Drawn w w') (n : Nat) : Drawn w (w'.drewN n) := by obtain ⟨m, rfl⟩ := h; exact ⟨m + n, by simp [World.drewN, Nat.add_assoc]⟩

end Go.Proofs.YtnmhaipjfpongacGreatDoor

namespace Go.Proofs.YtnmhaipjfpongacGreatDoor
open Go.ChangeShapes Go.WideShapes Go.ChangeAt Go.RowKit

theorem write_any (n0 b : Nat) (l s : B) (w : World) (h : Lib.IsBuilder 169 5 n0 b (Lib.byteCells l) w) (hlen : l.length + s.length ≤ 140737488355328) (hBw : n0 ≤ w.heap.size) :
  Calls Tryz.prog 106 #[.pointer (some ⟨b, 0, none⟩), S s] w fun e w' => e = .returned (.tuple #[I s.length, .nilIface]) ∧ Lib.IsBuilder 169 5 n0 b (Lib.byteCells (l ++ s)) w' ∧ Below n0 w w' := by
 have hsz : (⟨s.toArray⟩ : ByteArray).size = s.length := by simp [ByteArray.size]
 refine (Any.Builder_WriteString { Tryz.lays156 with } Tryz.Builder_Extra_156 n0 b (Lib.byteCells l) ⟨s.toArray⟩ w h (by rw [Lib.byteCells_length, hsz]; exact hlen) hBw).mono ?_
 rintro e w' ⟨rfl, h1, h2⟩
 refine ⟨by rw [hsz], .inr ?_, h2⟩
 have e1 : Lib.byteCells l ++ Lib.strCells ⟨s.toArray⟩ = Lib.byteCells (l ++ s) := by rw [Lib.strCells_eq]; simp [Lib.byteCells]
 rw [← e1]
 exact h1

abbrev Pow (w : World) : Prop := Lib.TabIs Tryz.prog w "internal/strconv.uint64pow10" .u64 Lib.pow10Tab

theorem Pow.ext {w w' : World} (h : Pow w) (ho : Ext w w') : Pow w' :=
 Go.Joins.tab_stays (g := 13) (by kernel_rfl) h ho.extBelow (Nat.le_refl _)

theorem itoa_any (w : World) (n : Nat) (hn : n ≤ 1000000000) (h : Pow w) : Calls Tryz.prog 107 #[I n] w fun e w' => e = .returned (S (Lib.decDigits n)) ∧ Ext w w' := by
 refine (Tryz.strconv_Itoa n (by omega) (by omega) w h).mono ?_
 rintro e w' ⟨rfl, k, os, rfl⟩
 exact ⟨by rw [Lib.itoa_nonneg], Only.of_below (Lib.below_grow w.heap.size w (Nat.le_refl _) k os)⟩

def cnt (s : B) : B := Lib.decDigits s.length ++ 58 :: s

theorem ba_app (a b : B) : ((⟨a.toArray⟩ : ByteArray) ++ ⟨b.toArray⟩) = ⟨(a ++ b).toArray⟩ := by
 ext1
 simp [ByteArray.data_append]

theorem dec_le (n : Nat) (h : n ≤ 1000000000) : (Lib.decDigits n).length ≤ 20 := by
 rw [Lib.decDigits_length]
 exact Lib.nDigits_le20 n (by omega)

theorem counted_any (w : World) (s : B) (hs : s.length ≤ 1000000) (h : Pow w) : Calls Tryz.prog 189 #[S s] w fun e w' => e = .returned (S (cnt s)) ∧ Ext w w' := by
 have hi := itoa_any w s.length (by omega) h
 have hd := dec_le s.length (by omega)
 have h1 : ¬ 9223372036854775807 < (Lib.decDigits s.length).length + 1 := by omega
 have h2 : ¬ 9223372036854775807 < (Lib.decDigits s.length).length + 1 + s.length := by omega
 have HI := Lib.hid hi
 clear hi h hd
 go_enter Tryz.func189, Tryz.ntmps189
 go_wp2_with (go_at_call 107; refine HI.out.mono ?_; rintro e w1 ⟨rfl, h1⟩)
 go_ret
 refine ⟨?_, h1⟩
 have e1 : ((⟨(Lib.decDigits s.length).toArray⟩ : ByteArray) ++ ⟨#[58]⟩ ++ ⟨s.toArray⟩) = ⟨(cnt s).toArray⟩ := by
  rw [show (⟨#[58]⟩ : ByteArray) = ⟨([58] : B).toArray⟩ from rfl, ba_app, ba_app]
  simp [cnt]
 exact congrArg (fun x => Ending.returned (Value.string x)) e1
end Go.Proofs.YtnmhaipjfpongacGreatDoor

namespace Go.Proofs.YtnmhaipjfpongacGreatDoor
open Go.ChangeShapes Go.WideShapes Go.ChangeAt Go.RowKit

def AtoiVars (w : World) : Prop := (∃ t p, w.cell? ⟨17, 0, none⟩ = some (.iface t p)) ∧ ∃ t p, w.cell? ⟨18, 0, none⟩ = some (.iface t p)
theorem AtoiVars.ext {w w' : World} (h : AtoiVars w) (ho : Ext w w') : AtoiVars w' := by
 obtain ⟨⟨t, p, h1⟩, t', p', h2⟩ := h
 exact ⟨⟨t, p, ho.cellOf h1 (fun h => h)⟩, t', p', ho.cellOf h2 (fun h => h)⟩

theorem atoi_ok (w : World) (s : B) (hs : s.length ≤ 1000000) (v : Int) (h : Lib.atoiAll s = .ok v) :
  Calls Tryz.prog 305 #[S s] w fun e w' => e = .returned (.tuple #[I v, .nilIface]) ∧ Ext w w' := by
 refine (Tryz.strconv_Atoi_ok ⟨s.toArray⟩ (by simp [ByteArray.size]; omega) v h w).mono ?_
 rintro e w' ⟨rfl, rfl | ⟨t, rfl⟩⟩
 ·exact ⟨rfl, Only.refl _ _⟩
 ·exact ⟨rfl, Only.of_below (Lib.bytesWorld_below _ _ _)⟩

def IfaceIs (w : World) (e : Ending) (w' : World) : Prop := ∃ v t p, e = .returned (.tuple #[I v, .iface t p]) ∧ Ext w w'

theorem atoi_bad (w : World) (s : B) (hs : s.length ≤ 1000000) (hv : AtoiVars w) (h : ∀ v, Lib.atoiAll s ≠ .ok v) :
  Calls Tryz.prog 305 #[S s] w (IfaceIs w) := by
 obtain ⟨⟨t, p, h1⟩, t', p', h2⟩ := hv
 cases hq : Lib.atoiAll s with
 | ok v => exact absurd hq (h v)
 | range =>
  refine (Tryz.strconv_Atoi_range ⟨s.toArray⟩ (by simp [ByteArray.size]; omega) hq _ w h2 (.inr ⟨_, _, rfl⟩)).mono ?_
  rintro e w' ⟨N, rfl, _, _, hb⟩
  exact ⟨_, _, _, rfl, Only.of_below hb⟩
 | _ =>
  refine (Any.strconv_Atoi_syntax Tryz.laysC172 ⟨s.toArray⟩ (by simp [ByteArray.size]; omega) hq _ w h1 (.inr ⟨_, _, rfl⟩)).mono ?_
  rintro e w' ⟨N, rfl, _, _, hb⟩
  exact ⟨_, _, _, rfl, Only.of_below hb⟩

def numB (k : Nat) (s : B) : Option Nat :=
 match Lib.atoiAll s with
 | .ok v => if s.length ≤ k ∧ 0 ≤ v ∧ Lib.decDigits v.toNat = s then some v.toNat else none
 | _ => none

theorem parse10_lt : ∀ (l : B) (acc u : Nat), Lib.parseUint10 acc l = .ok u → u < (acc + 1) * 10 ^ l.length
 | [], acc, u, h => by
  simp only [Lib.parseUint10] at h
  injection h with h
  simp; omega
 | c :: r, acc, u, h => by
  simp only [Lib.parseUint10] at h
  split at h
  ·rename_i hc
   split at h
   ·cases h
   ·split at h
    ·cases h
    ·have := parse10_lt r _ u h
     rw [List.length_cons, Nat.pow_succ]
     refine Nat.lt_of_lt_of_le this ?_
     rw [Nat.mul_comm (10 ^ r.length) 10, ← Nat.mul_assoc]
     exact Nat.mul_le_mul_right _ (by omega)
  ·cases h

theorem atoi_lt {s : B} {v : Int} (h : Lib.atoiAll s = .ok v) : v < 10 ^ s.length := by
 cases s with
 | nil => cases h
 | cons c r =>
  simp only [Lib.atoiAll] at h
  split at h
  ·cases h
  ·cases h
  ·rename_i u hu
   have hu2 : (u : Int) < 10 ^ (c :: r).length := by
    have hl : (if c.toNat = 43 ∨ c.toNat = 45 then r else c :: r).length ≤ (c :: r).length := by split <;> simp
    generalize (if c.toNat = 43 ∨ c.toNat = 45 then r else c :: r) = q at hu hl
    unfold Lib.parseMag at hu
    by_cases hq : q = []
    ·rw [if_pos hq] at hu; cases hu
    ·rw [if_neg hq] at hu
     have := parse10_lt _ 0 u hu
     have h2 := Nat.pow_le_pow_right (show 0 < 10 by omega) hl
     have h3 : u < 10 ^ (c :: r).length := by omega
     exact_mod_cast h3
   split at h
   ·cases h
   ·split at h
    ·cases h
    ·injection h with h
     have h0 : (0 : Int) < 10 ^ (c :: r).length := by exact_mod_cast Nat.pow_pos (show 0 < 10 by omega)
     split at h <;> omega

theorem numB_some {k : Nat} {s : B} {n : Nat} (h : numB k s = some n) : Lib.atoiAll s = .ok (n : Int) ∧ s.length ≤ k ∧ Lib.decDigits n = s := by
 unfold numB at h
 split at h
 ·rename_i v hv
  split at h
  ·rename_i hc
   cases h
   obtain ⟨h1, h2, h3⟩ := hc
   exact ⟨by rw [hv, Int.toNat_of_nonneg h2], h1, h3⟩
  ·cases h
 ·cases h

end Go.Proofs.YtnmhaipjfpongacGreatDoor

namespace Go.Proofs.YtnmhaipjfpongacGreatDoor
open Go.ChangeShapes Go.WideShapes Go.ChangeAt Go.RowKit
open Go.MapKept (heap_alloc)
def RdC (w : World) (v : Value) (l : List B) : Prop :=
 ∃ a cap, v = .slice a l.length cap ∧ l.length ≤ cap ∧ cap ≤ 1000000 ∧ (l ≠ [] → ∃ b off, a = some ⟨b, off, none⟩ ∧ ∀ i x, l[i]? = some x → w.cell? ⟨b, off + i, none⟩ = some (S x))

theorem RdC.ext {w w' : World} {v : Value} {l : List B} (h : RdC w v l) (ho : Ext w w') : RdC w' v l := by
 obtain ⟨a, cap, rfl, h1, h2, h3⟩ := h
 refine ⟨a, cap, rfl, h1, h2, fun hl => ?_⟩
 obtain ⟨b, off, rfl, hc⟩ := h3 hl
 exact ⟨b, off, rfl, fun i x hx => ho.cellOf (hc i x hx) (fun h => h)⟩

theorem eqNil_some (a : Addr) (n c : Nat) (w : World) : (binOp .eql 53 (.slice (some a) n c) (.slice none 0 0)).run Tryz.prog w = .ok (.bool false) w := by kernel_rfl
theorem eqNil_none (w : World) : (binOp .eql 53 (.slice none 0 0) (.slice none 0 0)).run Tryz.prog w = .ok (.bool true) w := by kernel_rfl

attribute [local go_sem] eqNil_some eqNil_none

set_option maxRecDepth 100000 in
theorem check_any (w : World) (s : B) (a : Addr) (hs : s.length ≤ 1000000) (hm : HasMax w) (he : w.cell? ⟨9, 0, none⟩ = some (errV a)) :
  Calls Tryz.prog 112 #[S s] w fun e w' => e = .returned (if pathOk s then .nilIface else errV a) ∧ Ext w w' := by
 have HP := Lib.hid (parts_any w false s hs hm)
 have HE := Lib.hid he
 clear he hm hs
 obtain ⟨r, hr⟩ : ∃ r, r = pathOk s := ⟨_, rfl⟩
 rw [← hr]
 have HR := Lib.hid hr
 clear hr
 go_enter Tryz.func112, Tryz.ntmps112
 go_wp2_with fail
 refine HP.out.mono ?_
 rintro e w' ⟨ho, ⟨hok, b, rfl, hl⟩ | ⟨hok, rfl⟩⟩
 ·have HO := Lib.hid ho
  have hr : r = true := HR.out.trans hok
  subst hr
  clear ho hl hok
  go_wp2
  go_ret
  exact ⟨rfl, HO.out⟩
 ·have HO := Lib.hid ho
  have hr : r = false := HR.out.trans hok
  subst hr
  have he := ho.cellOf HE.out (fun h => h)
  clear ho hok
  go_wp2
  go_ret
  exact ⟨rfl, HO.out⟩

end Go.Proofs.YtnmhaipjfpongacGreatDoor

namespace Go.Proofs.YtnmhaipjfpongacGreatDoor
open Go.ChangeShapes Go.WideShapes Go.ChangeAt Go.RowKit

theorem byte_conv (w : World) (n : Nat) (hn : n < 256) : (convert 167 9 (.slice (some ⟨w.heap.size, 0, none⟩) 1 1)).run Tryz.prog (w.alloc (.cells #[.int .u8 n] 5 (0, 0))) = .ok (S [UInt8.ofNat n]) (w.alloc (.cells #[.int .u8 n] 5 (0, 0))) := by
 refine run_convert_bytes_back _ 167 9 5 ⟨w.heap.size, 0, none⟩ 1 [UInt8.ofNat n] Tryz.underlying167 Tryz.underlying5 Tryz.underlying9 (fun j hj => ?_)
 obtain rfl : j = 0 := by simpa using hj
 have e : (UInt8.ofNat n).toNat = n := by simp; omega
 simp [Addr.add, e]

theorem IntKind.wraps_u8_ (n : Nat) (h : n < 256) : IntKind.u8.wrap (n : Int) = n := by simp [IntKind.wrap, IntKind.bits, IntKind.signed]; omega

theorem byte_any (w : World) (n : Nat) (hn : n < 256) : Calls Tryz.prog 197 #[I n] w fun e w' => e = .returned (S [UInt8.ofNat n]) ∧ Ext w w' := by
 have hw : IntKind.u8.wrap (n : Int) = n := IntKind.wraps_u8_ n hn
 have hc := byte_conv w n hn
 go_enter Tryz.func197, Tryz.ntmps197
 go_wp2
 go_ret
 exact ⟨rfl, Only.alloc _ _ _⟩

theorem below_any (n : Nat) (hn : n ≤ 1000000000) : ∀ w m, m = -(n : Int) → Calls Tryz.prog 177 #[.int .i64 m] w fun e w' => e = .returned (S (Lib.decDigits n)) ∧ Ext w w' := by
 induction n using Nat.strongRecOn with
 | _ n ih =>
  intro w m hm
  by_cases h10 : n < 10
  ·have hb := byte_any w (48 + n) (by omega)
   have hd : Lib.decDigits n = [UInt8.ofNat (48 + n)] := Lib.decDigits_one h10
   rw [hd]
   obtain ⟨z, hz⟩ : ∃ z : Int, z = ((48 + n : Nat) : Int) := ⟨_, rfl⟩
   have e1 : (48 : Int) - m = z := by omega
   have c1 : -10 < m := by omega
   have b1 : 0 ≤ z := by omega
   have b2 : z ≤ 100 := by omega
   have b3 : m ≤ 0 := by omega
   rw [← hz] at hb
   generalize UInt8.ofNat (48 + n) = u at hb ⊢
   have HB := Lib.hid hb
   clear hb hd hm hz ih
   go_enter Tryz.func177, Tryz.ntmps177
   go_wp2_with (go_at_call 197; refine HB.out.mono ?_; rintro e w1 ⟨rfl, h1⟩)
   go_ret
   exact ⟨rfl, h1⟩
  ·obtain ⟨q, hq⟩ : ∃ q : Int, q = -((n / 10 : Nat) : Int) := ⟨_, rfl⟩
   have hi := ih (n / 10) (by omega) (by omega) w q hq
   have hb := fun w => byte_any w (48 + n % 10) (by omega)
   have hd : Lib.decDigits n = Lib.decDigits (n / 10) ++ [UInt8.ofNat (48 + n % 10)] := by rw [Lib.decDigits, dif_neg h10]
   have hl := dec_le (n / 10) (by omega)
   have h1 : ¬ 9223372036854775807 < (Lib.decDigits (n / 10)).length + 1 := by omega
   rw [hd]
   obtain ⟨z, hz⟩ : ∃ z : Int, z = ((48 + n % 10 : Nat) : Int) := ⟨_, rfl⟩
   have e2 : m.tdiv 10 = q := by rw [hm, Int.neg_tdiv, hq]; rfl
   have e3 : (48 : Int) - m.tmod 10 = z := by
    rw [hm, Int.neg_tmod, show ((n : Int).tmod 10) = ((n % 10 : Nat) : Int) from rfl]
    omega
   have c1 : ¬ -10 < m := by omega
   have b1 : 0 ≤ z := by omega
   have b2 : z ≤ 100 := by omega
   have b3 : m ≤ 0 := by omega
   have b4 : -1000000000 ≤ m := by omega
   have b5 : -1000000000 ≤ q := by omega
   have b6 : q ≤ 0 := by omega
   simp only [← hz] at hb
   generalize UInt8.ofNat (48 + n % 10) = u at hb ⊢
   have HI := Lib.hid hi
   have HB := Lib.hid hb
   generalize hD : Lib.decDigits (n / 10) = D at HI h1 ⊢
   clear hi hb hm hd ih hz hq hl hD
   go_enter Tryz.func177, Tryz.ntmps177
   go_wp2_with (first | (go_at_call 177; refine HI.out.mono ?_; rintro e w1 ⟨rfl, h2⟩; have H2 := Lib.hid h2; clear h2) | (go_at_call 197; refine (HB.out _).mono ?_; rintro e w3 ⟨rfl, h3⟩))
   go_ret
   exact ⟨congrArg (fun x => Ending.returned (Value.string x)) (ba_app D [u]), H2.out.ext h3⟩

theorem decimal_any (w : World) (n : Nat) (hn : n ≤ 1000000000) : Calls Tryz.prog 109 #[I n] w fun e w' => e = .returned (S (Lib.decDigits n)) ∧ Ext w w' := by
 have hi := below_any n hn w (-(n : Int)) rfl
 have c1 : ¬ ((n : Int) < 0) := by omega
 have HI := Lib.hid hi
 clear hi
 go_enter Tryz.func109, Tryz.ntmps109
 go_wp2_with (go_at_call 177; refine HI.out.mono ?_; rintro e w1 ⟨rfl, h1⟩)
 go_ret
 exact ⟨rfl, h1⟩
end Go.Proofs.YtnmhaipjfpongacGreatDoor

namespace Go.Proofs.YtnmhaipjfpongacGreatDoor
open Go.ChangeShapes Go.WideShapes Go.ChangeAt Go.RowKit

abbrev IsB (n0 b : Nat) (l : B) (w : World) : Prop := Lib.IsBuilder 169 5 n0 b (Lib.byteCells l) w

theorem builderAt_ext {n0 b : Nat} {p : Value} {bs : List Value} {w w' : World} (h : Lib.BuilderAt 169 5 n0 b p bs w) (ho : Ext w w') : Lib.BuilderAt 169 5 n0 b p bs w' := by
 obtain ⟨h1, v, h2, h3, h4⟩ := h
 exact ⟨h1, v, ho.heapOf h2 (fun h => h), ho.row h3 (fun _ _ h => h), h4⟩

theorem IsB.ext {n0 b : Nat} {l : B} {w w' : World} (h : IsB n0 b l w) (ho : Ext w w') : IsB n0 b l w' := by
 rcases h with h | h
 ·exact .inl (builderAt_ext h ho)
 ·exact .inr (builderAt_ext h ho)

theorem IsB.fresh (w : World) : IsB w.heap.size w.heap.size [] (w.alloc (.cells #[.pointer none, .slice none 0 0] 169 (0, 0))) :=
 .inl ⟨Nat.le_refl _, .slice none 0 0, (MapKept.heap_alloc w _).1, World.ownsRow_nil _ _ _ _, by intro h; cases h⟩

theorem ext_below {w w1 w2 : World} (h : Ext w w1) (hb : Below w.heap.size w1 w2) : Ext w w2 := Only.of_below (h.extBelow.trans hb)

def keyT (kind word : B) (ins : List B) : B := cnt kind ++ cnt word ++ ins.flatMap cnt

theorem cnt_len (s : B) (h : s.length ≤ 1000000) : (cnt s).length ≤ 21 + s.length := by
 have := dec_le s.length (by omega)
 simp [cnt]; omega

theorem flat_take_step {ins : List B} {j : Nat} {x : B} (hx : ins[j]? = some x) : (ins.take (j + 1)).flatMap cnt = (ins.take j).flatMap cnt ++ cnt x := by
 rw [List.take_add_one, hx]; simp

theorem longTexts_any (w : World) (v : Value) (l : List B) (many most : Int) (hv : Rd S w v l) (hm : 0 ≤ most ∧ most ≤ 1000000) :
  Calls Tryz.prog 50 #[v, .int .i64 many, .int .i64 most] w fun e w' => (∃ r : Int, e = .returned (.int .i64 r) ∧ (r = 0 ∨ r = 1) ∧ (r = 0 → (l.length : Int) ≤ many ∧ ∀ x ∈ l, (x.length : Int) ≤ most)) ∧ w = w' := by
 obtain ⟨a, cap, rfl, _, hm1, hc⟩ := hv
 have hl1 : l.length ≤ 9223372036854775807 := by unfold maxLen at hm1; omega
 obtain ⟨m0, m1⟩ := hm
 have HC := Lib.hid hc
 clear hc hm1
 by_cases hmany : many < (l.length : Int)
 ·go_enter Tryz.func50, Tryz.ntmps50
  go_wp2_with fail
  go_ret
  exact ⟨⟨1, rfl, .inr rfl, fun h => by cases h⟩, rfl⟩
 ·go_enter Tryz.func50, Tryz.ntmps50
  go_wp2_with fail
  go_loop [7, 8] (fun n i => ∃ (j : Nat) (m : Int), j ≤ l.length ∧ i = .int .i64 j ∧ n = .int .i64 m ∧ 0 ≤ m ∧ m ≤ most ∧ Hid (∀ i (q : B), i < j → l[i]? = some q → (q.length : Int) ≤ most)) (fun _ i => l.length - (intOf i).toNat)
  case atStart => exact ⟨0, 0, Nat.zero_le _, rfl, rfl, Int.le_refl _, m0, Lib.hid (fun i q h => absurd h (Nat.not_lt_zero _))⟩
  case round =>
   obtain ⟨j, m, hj, rfl, rfl, hm0, hmm, hb⟩ := hrel
   by_cases hlt : j < l.length
   ·have hltz : (j : Int) < (l.length : Int) := by omega
    obtain ⟨b0, off, rfl, hcell⟩ := HC.out (by intro h; rw [h] at hlt; simp at hlt)
    obtain ⟨x, hx⟩ : ∃ y, l[j]? = some y := ⟨_, List.getElem?_eq_getElem hlt⟩
    have d0 := hcell j x hx
    have HXX := Lib.hid hx
    clear hcell hx
    by_cases h1 : most < (x.length : Int)
    ·go_wp2_with fail
     go_ret
     exact ⟨⟨1, rfl, .inr rfl, fun h => by cases h⟩, rfl⟩
    by_cases h2 : most < m + (x.length : Int)
    ·go_wp2_with fail
     go_ret
     exact ⟨⟨1, rfl, .inr rfl, fun h => by cases h⟩, rfl⟩
    ·go_wp2_with fail
     go_round
     case rel => exact ⟨j + 1, m + x.length, by omega, by go_num, rfl, by omega, by omega, Lib.hid (fun i q hi hq => by
      rcases Nat.lt_succ_iff_lt_or_eq.1 hi with h | rfl
      ·exact hb.out i q h hq
      ·rw [HXX.out] at hq; cases hq; omega)⟩
     case measure => simp [intOf]; omega
   ·have hltz : ¬ ((j : Int) < (l.length : Int)) := by omega
    go_wp2_with fail
    go_ret
    refine ⟨⟨0, rfl, .inl rfl, fun _ => ?_⟩, rfl⟩
    intro x hx
    obtain ⟨i, hi⟩ := List.getElem?_of_mem hx
    exact hb.out i x (by have := (List.getElem?_eq_some_iff.1 hi).1; omega) hi
end Go.Proofs.YtnmhaipjfpongacGreatDoor

namespace Go.Proofs.YtnmhaipjfpongacGreatDoor
open Go.ChangeShapes Go.WideShapes Go.ChangeAt Go.RowKit

theorem cnt_ba (s : B) : ((⟨(Lib.decDigits s.length).toArray⟩ : ByteArray) ++ ⟨#[58]⟩ ++ ⟨s.toArray⟩) = ⟨(cnt s).toArray⟩ := by
 rw [show (⟨#[58]⟩ : ByteArray) = ⟨([58] : B).toArray⟩ from rfl, ba_app, ba_app]
 simp [cnt]

end Go.Proofs.YtnmhaipjfpongacGreatDoor

namespace Go.Proofs.YtnmhaipjfpongacGreatDoor
open Go.ChangeShapes Go.WideShapes Go.ChangeAt Go.RowKit

theorem digit_ne {k : Nat} (h : k < 10) : UInt8.ofNat (48 + k) ≠ 58 := by
 intro e
 have := congrArg UInt8.toNat e
 simp at this
 omega

theorem digit_inj {a b : Nat} (ha : a < 10) (hb : b < 10) (e : UInt8.ofNat (48 + a) = UInt8.ofNat (48 + b)) : a = b := by
 have := congrArg UInt8.toNat e
 simp only [UInt8.toNat_ofNat'] at this
 omega

theorem dec_no (u : Nat) : (58 : UInt8) ∉ Lib.decDigits u := by
 induction u using Nat.strongRecOn with
 | _ u ih =>
  by_cases h : u < 10
  ·rw [Lib.decDigits_one h, List.mem_singleton]
   exact fun e => digit_ne h e.symm
  ·rw [Lib.decDigits, dif_neg h, List.mem_append, List.mem_singleton]
   rintro (e | e)
   ·exact ih (u / 10) (by omega) e
   ·exact digit_ne (Nat.mod_lt u (by decide)) e.symm

theorem dec_neK (u : Nat) : Lib.decDigits u ≠ [] := by
 by_cases h : u < 10
 ·rw [Lib.decDigits_one h]; simp
 ·rw [Lib.decDigits, dif_neg h]; simp

theorem dec_inj : ∀ (u v : Nat), Lib.decDigits u = Lib.decDigits v → u = v := by
 intro u
 induction u using Nat.strongRecOn with
 | _ u ih =>
  intro v e
  by_cases h : u < 10
  ·by_cases h' : v < 10
   ·rw [Lib.decDigits_one h, Lib.decDigits_one h'] at e
    exact digit_inj h h' (by simpa using e)
   ·rw [Lib.decDigits_one h, Lib.decDigits.eq_def v, dif_neg h'] at e
    have := congrArg List.length e
    simp at this
    exact absurd this (dec_neK (v / 10))
  ·by_cases h' : v < 10
   ·rw [Lib.decDigits_one h', Lib.decDigits.eq_def u, dif_neg h] at e
    have := congrArg List.length e
    simp at this
    exact absurd this (dec_neK (u / 10))
   ·rw [Lib.decDigits.eq_def u, Lib.decDigits.eq_def v, dif_neg h, dif_neg h'] at e
    obtain ⟨e1, e2⟩ := List.append_inj' e rfl
    have i1 := ih (u / 10) (by omega) (v / 10) e1
    have i2 := digit_inj (Nat.mod_lt u (by decide)) (Nat.mod_lt v (by decide)) (by simpa using e2)
    omega

theorem split_at {x : UInt8} : ∀ {d d' a a' : B}, x ∉ d → x ∉ d' → d ++ x :: a = d' ++ x :: a' → d = d' ∧ a = a'
 | [], [], a, a', _, _, e => ⟨rfl, by simpa using e⟩
 | [], y :: d', a, a', _, h', e => by
  have : x = y := by simpa using congrArg List.head? e
  exact absurd (this ▸ List.mem_cons_self) h'
 | y :: d, [], a, a', h, _, e => by
  have : y = x := by simpa using congrArg List.head? e
  exact absurd (this ▸ List.mem_cons_self) h
 | y :: d, z :: d', a, a', h, h', e => by
  rw [List.cons_append, List.cons_append, List.cons.injEq] at e
  obtain ⟨rfl, e⟩ := e
  obtain ⟨rfl, rfl⟩ := split_at (fun hm => h (List.mem_cons_of_mem _ hm)) (fun hm => h' (List.mem_cons_of_mem _ hm)) e
  exact ⟨rfl, rfl⟩

theorem cnt_parse {s t r r' : B} (e : cnt s ++ r = cnt t ++ r') : s = t ∧ r = r' := by
 unfold cnt at e
 rw [List.append_assoc, List.append_assoc, List.cons_append, List.cons_append] at e
 obtain ⟨e1, e2⟩ := split_at (dec_no _) (dec_no _) e
 exact List.append_inj e2 (dec_inj _ _ e1)

theorem cnt_ne (s r : B) : cnt s ++ r ≠ [] := by simp [cnt]

theorem flat_inj : ∀ {l l' : List B}, l.flatMap cnt = l'.flatMap cnt → l = l'
 | [], [], _ => rfl
 | [], y :: l', e => by rw [List.flatMap_cons] at e; exact absurd e.symm (cnt_ne _ _)
 | x :: l, [], e => by rw [List.flatMap_cons] at e; exact absurd e (cnt_ne _ _)
 | x :: l, y :: l', e => by
  rw [List.flatMap_cons, List.flatMap_cons] at e
  obtain ⟨h1, h2⟩ := cnt_parse e
  rw [h1, flat_inj h2]

theorem keyT_inj {k w k' w' : B} {l l' : List B} (e : keyT k w l = keyT k' w' l') : k = k' ∧ w = w' ∧ l = l' := by
 unfold keyT at e
 rw [List.append_assoc, List.append_assoc] at e
 obtain ⟨h1, h2⟩ := cnt_parse e
 obtain ⟨h3, h4⟩ := cnt_parse h2
 exact ⟨h1, h3, flat_inj h4⟩
end Go.Proofs.YtnmhaipjfpongacGreatDoor

namespace Go.Proofs.YtnmhaipjfpongacGreatDoor
open Go.ChangeShapes Go.WideShapes Go.ChangeAt Go.RowKit

theorem flat_take_lenK {ins : List B} (h : ∀ x ∈ ins, x.length ≤ 3000) : ∀ j, ((ins.take j).flatMap cnt).length ≤ 4000 * j
 | 0 => by simp
 | j + 1 => by
  have ih := flat_take_lenK h j
  cases hx : ins[j]? with
  | none =>
   have : ins.take (j + 1) = ins.take j := by rw [List.take_add_one, hx]; simp
   rw [this]; omega
  | some x =>
   have hl := cnt_len x (by have := h x (List.mem_of_getElem? hx); omega)
   have := h x (List.mem_of_getElem? hx)
   rw [flat_take_step hx, List.length_append]
   omega

set_option maxHeartbeats 1000000 in
theorem keyBig_any (w : World) (kind word : B) (v : Value) (ins : List B) (hv : Rd S w v ins) (h1 : kind.length ≤ 100) (h2 : word.length ≤ 100) (h3 : ins.length ≤ 12) (h4 : ∀ x ∈ ins, x.length ≤ 3000) (hp : Pow w) :
  Calls Tryz.prog 123 #[S kind, S word, v] w fun e w' => e = .returned (S (keyT kind word ins)) ∧ Ext w w' := by
 obtain ⟨a, cap, rfl, _, _, hc⟩ := hv
 have l1 := cnt_len kind (by omega)
 have l2 := cnt_len word (by omega)
 have hck : ∀ w1, Pow w1 → Calls Tryz.prog 189 #[S kind] w1 _ := fun w1 h => counted_any w1 kind (by omega) h
 have hcw : ∀ w1, Pow w1 → Calls Tryz.prog 189 #[S word] w1 _ := fun w1 h => counted_any w1 word (by omega) h
 obtain ⟨K, hK⟩ : ∃ K, K = keyT kind word ins := ⟨_, rfl⟩
 obtain ⟨ck, hk⟩ : ∃ ck, ck = cnt kind := ⟨_, rfl⟩
 obtain ⟨cw, hw⟩ : ∃ cw, cw = cnt word := ⟨_, rfl⟩
 have hKe : K = ck ++ cw ++ ins.flatMap cnt := by rw [hK, hk, hw]; rfl
 rw [← hK]
 simp only [← hk] at hck
 simp only [← hw] at hcw
 rw [← hk] at l1
 rw [← hw] at l2
 have l3 : ¬ 9223372036854775807 < ck.length + cw.length := by omega
 have l4 : ck.length + cw.length ≤ 242 := by omega
 have HKE := Lib.hid hKe
 have HCK := Lib.hid hck
 have HCW := Lib.hid hcw
 have HC := Lib.hid hc
 have H4 := Lib.hid h4
 have HP := Lib.hid hp
 clear hc hKe hck hcw hK hk hw h4 hp l1 l2 h1 h2
 go_enter Tryz.func123, Tryz.ntmps123
 go_wp2_with fail
 refine (HCK.out _ (HP.out.ext (Only.alloc (fun _ => False) w _))).mono ?_
 rintro e w1 ⟨rfl, ho⟩
 have HO1 := Lib.hid ((Only.alloc (fun _ => False) w (.cells #[.pointer none, .slice none 0 0] 169 (0, 0))).ext ho)
 have HB1 := Lib.hid ((IsB.fresh w).ext ho)
 clear ho
 go_wp2_with fail
 refine (HCW.out _ (HP.out.ext HO1.out)).mono ?_
 rintro e w2 ⟨rfl, ho⟩
 have HO2 := Lib.hid (HO1.out.ext ho)
 have HB2 := Lib.hid (HB1.out.ext ho)
 clear ho
 go_wp2_with fail
 rw [ba_app]
 refine (write_any w.heap.size w.heap.size [] (ck ++ cw) w2 HB2.out (by simp; omega) HO2.out.size).mono ?_
 rintro e w3 ⟨rfl, hb3, hbl⟩
 have HO3 := Lib.hid (ext_below HO2.out hbl)
 have HB3 := Lib.hid hb3
 clear hb3 hbl HB1 HB2 HCK HCW HO1 HO2
 go_wp2_with fail
 obtain ⟨b, hbE⟩ : ∃ b, b = w.heap.size := ⟨_, rfl⟩
 have HB3' : Hid (IsB w.heap.size b (ck ++ cw) w3) := by rw [hbE]; simpa using HB3
 rw [← hbE]
 clear hbE HB3
 go_loopw [18] (fun i wr => ∃ j : Nat, j ≤ ins.length ∧ i = .int .i64 j ∧ Hid (Ext w wr) ∧ Hid (IsB w.heap.size b (ck ++ cw ++ (ins.take j).flatMap cnt) wr)) (fun i _ => ins.length - (intOf i).toNat)
 case atStart => exact ⟨0, Nat.zero_le _, rfl, HO3, by simpa using HB3'⟩
 case round =>
  obtain ⟨j, hj, rfl, HX, HB⟩ := hrel
  by_cases hlt : j < ins.length
  ·have hltz : (j : Int) < (ins.length : Int) := by omega
   obtain ⟨b0, off, rfl, hcell⟩ := HC.out (by intro h; rw [h] at hlt; simp at hlt)
   obtain ⟨x, hx⟩ : ∃ y, ins[j]? = some y := ⟨_, List.getElem?_eq_getElem hlt⟩
   have d0 : wr.cell? ⟨b0, off + j, none⟩ = some (S x) := HX.out.cellOf (hcell j x hx) (fun h => h)
   have hxl := H4.out x (List.mem_of_getElem? hx)
   have hst := flat_take_step hx
   have hfl := flat_take_lenK H4.out j
   have hcx := counted_any wr x (by omega) (HP.out.ext HX.out)
   have hcl := cnt_len x (by omega)
   obtain ⟨cx, hcx'⟩ : ∃ cx, cx = cnt x := ⟨_, rfl⟩
   rw [← hcx'] at hcx hst hcl
   have HST := Lib.hid hst
   have HCX := Lib.hid hcx
   clear hcell hx hst hcx hcx'
   obtain ⟨F, hF⟩ : ∃ F, F = (ins.take j).flatMap cnt := ⟨_, rfl⟩
   rw [← hF] at HB HST hfl
   clear hF
   go_wp2_with fail
   refine HCX.out.mono ?_
   rintro e w5 ⟨rfl, ho⟩
   have HX5 := Lib.hid (HX.out.ext ho)
   have HB5 := Lib.hid (HB.out.ext ho)
   clear ho
   go_wp2_with fail
   refine (write_any w.heap.size b _ cx w5 HB5.out (by simp; omega) HX5.out.size).mono ?_
   rintro e w6 ⟨rfl, hb6, hbl⟩
   have HX6 := Lib.hid (ext_below HX5.out hbl)
   have HB6 := Lib.hid hb6
   clear hb6 hbl
   go_wp2_with fail
   go_roundw
   case rel => exact ⟨j + 1, by omega, by go_num, HX6, Lib.hid (by rw [HST.out]; simpa using HB6.out)⟩
   case measure => simp [intOf]; omega
  ·have hltz : ¬ ((j : Int) < (ins.length : Int)) := by omega
   have ht : ins.take j = ins := List.take_of_length_le (by omega)
   rw [ht, ← HKE.out] at HB
   go_wp2_with fail
   refine (Tryz.Builder_String_any w.heap.size b K wr HB.out HX.out.size).mono ?_
   rintro e w6 ⟨rfl, hbl⟩
   have HX6 := Lib.hid (ext_below HX.out hbl)
   clear hbl
   go_wp2_with fail
   go_ret
   exact ⟨rfl, HX6.out⟩
end Go.Proofs.YtnmhaipjfpongacGreatDoor

namespace Go.Proofs.YtnmhaipjfpongacGreatDoor
open Go.ChangeShapes Go.WideShapes Go.ChangeAt Go.RowKit

def errNames : List String := ["kilnyard/api.ErrText", "kilnyard/api.ErrBound", "kilnyard/api.ErrShape", "kilnyard/api.ErrName", "kilnyard/api.ErrKind", "kilnyard/api.ErrNone", "kilnyard/api.ErrExist", "kilnyard/api.ErrFull", "kilnyard/api.ErrCycle", "kilnyard/api.ErrLong", "kilnyard/api.ErrTurn", "kilnyard/api.ErrDone"]
abbrev sent (s : B) : DataW Unit := .iface "*errors.errorString" (.ptr (.agg [.lit (.string s)]))
def isSent : DataW Unit → Bool
 | .iface n (.ptr (.agg [.lit (.string _)])) => n == "*errors.errorString"
 | _ => false

theorem isSent_eq {d : DataW Unit} (h : isSent d = true) : ∃ s, d = sent s := by
 unfold isSent at h
 split at h
 ·rename_i n s
  obtain rfl : n = "*errors.errorString" := by simpa using h
  exact ⟨s, rfl⟩
 ·cases h

theorem err_star : "*" ++ "errors.errorString" = "*errors.errorString" := by decide
theorem err_row (u : TypeId) (h : Tryz.prog.typeName? 3 u = some "*errors.errorString") : u = 390 :=
 typeName_ptr_named (nm := "errors.errorString") (by rw [err_star]; kernel_rfl) (by kernel_rfl) (by decide) u (by rw [err_star]; exact h)
theorem err_cells : Tryz.prog.cellsOf 392 = 1 := by kernel_rfl
theorem str_cells : Tryz.prog.cellsOf 9 = 1 := by kernel_rfl

theorem err_global {n : String} (h : n ∈ errNames) : ∃ g, Tryz.prog.globalNamed n = some g ∧ (Tryz.prog.globals[g]?).map (·.type) = some 32 := by
 have hall : (errNames.all fun n => match Tryz.prog.globalNamed n with | some g => (Tryz.prog.globals[g]?).map (·.type) == some 32 | none => false) = true := by kernel_rfl
 have := List.all_eq_true.1 hall n h
 revert this
 cases hg : Tryz.prog.globalNamed n with
 | none => intro h; cases h
 | some g => intro h; exact ⟨g, rfl, by simpa using h⟩

def Held (W : World) (n : String) (a : Addr) : Prop := W.var? Tryz.prog n = some #[errV a]

theorem Held.same {W : World} {n : String} {a b : Addr} (h : Held W n a) (h' : Held W n b) : a = b := by
 have := h.symm.trans h'
 simpa using this

set_option maxRecDepth 100000 in
theorem laid_held {W : World} : ∀ {l : List (String × DataW Unit)} {ps : List MemPlace}, DataW.LaidVars Tryz.prog W l ps → ps.Nodup →
  (∀ b off, MemPlace.cell b off ∈ ps → ∀ u v, W.cell? ⟨b, off, none⟩ = some (.iface u v) → Value.okWide Tryz.prog W .any 0 u v) →
  (∀ x ∈ l, x.1 ∈ errNames → ∃ s, x.2 = sent s) →
  (∀ x ∈ l, x.1 ∈ errNames → ∃ a, Held W x.1 a ∧ MemPlace.cell a.block a.off ∈ ps) ∧
  l.Pairwise (fun x y => ∀ a b, x.1 ∈ errNames → y.1 ∈ errNames → Held W x.1 a → Held W y.1 b → a ≠ b)
 | [], _, _, _, _, _ => ⟨fun x hx => (by cases hx), List.Pairwise.nil⟩
 | (n, d) :: r, ps, hv, hnd, hok, hs => by
  obtain ⟨g, t, cs, f, p, q, hg, ht, hvar, hd, hr, rfl⟩ := hv
  have hq : q.Nodup := (List.nodup_append.1 hnd).2.1
  obtain ⟨i1, i2⟩ := laid_held hr hq (fun b off hm => hok b off (List.mem_append_right _ hm)) (fun x hx => hs x (List.mem_cons_of_mem _ hx))
  have key : n ∈ errNames → ∃ a, Held W n a ∧ MemPlace.cell a.block a.off ∈ p := fun hn => by
   obtain ⟨s, hs0⟩ := hs (n, d) List.mem_cons_self hn
   have hs1 : d = sent s := hs0
   subst hs1
   obtain ⟨g', hg', ht'⟩ := err_global hn
   obtain rfl := Option.some.inj (hg.symm.trans hg')
   obtain rfl := Option.some.inj (ht.symm.trans ht')
   obtain ⟨lc⟩ := cs
   have ok0 : ∀ u v, lc = [.iface u v] → Value.okWide Tryz.prog W .any 0 u v := fun u v e => by
    subst e
    exact hok g 0 (by simp [MemPlace.row]) u v (by simpa using World.var?_cell hg hvar 0)
   obtain ⟨a, s', rfl, _, _, _, rfl⟩ := errorString_of_trod Tryz.underlying32 err_row Tryz.underlying390 Tryz.underlying392 rfl rfl Tryz.underlying9 err_cells str_cells hd ok0
   exact ⟨a, hvar, by simp [MemPlace.row]⟩
  refine ⟨fun x hx hn => ?_, List.Pairwise.cons (fun y hy a b hx hny ha hb => ?_) i2⟩
  ·rcases List.mem_cons.1 hx with rfl | hx
   ·obtain ⟨a, ha, hm⟩ := key hn
    exact ⟨a, ha, List.mem_append_left _ (List.mem_append_right _ hm)⟩
   ·obtain ⟨a, ha, hm⟩ := i1 x hx hn
    exact ⟨a, ha, List.mem_append_right _ hm⟩
  ·obtain ⟨a', ha', hm⟩ := key hx
   obtain ⟨b', hb', hm'⟩ := i1 y hy hny
   obtain rfl := ha.same ha'
   obtain rfl := hb.same hb'
   rintro rfl
   exact (List.nodup_append.1 hnd).2.2 _ (List.mem_append_right _ hm) _ hm' rfl

set_option maxRecDepth 100000 in
theorem held_of_laid {W : World} {l : List (String × DataW Unit)} (h : laidMet Tryz.prog l W) (hs : (l.all fun x => !(errNames.contains x.1) || isSent x.2) = true) :
  (∀ n ∈ errNames, (l.map (·.1)).contains n = true → ∃ a c t, Held W n a ∧ W.heap[a.block]? = some (.cells c t (0, 0))) ∧
  (∀ n m a, (l.map (·.1)).contains n = true → (l.map (·.1)).contains m = true → n ∈ errNames → m ∈ errNames → Held W n a → Held W m a → n = m) := by
 obtain ⟨ps, hv, hnd, hrows⟩ := h
 have hs' : ∀ x ∈ l, x.1 ∈ errNames → ∃ s, x.2 = sent s := fun x hx hn => by
  have := List.all_eq_true.1 hs x hx
  refine isSent_eq ?_
  simpa [hn] using this
 obtain ⟨h1, h2⟩ := laid_held hv hnd (fun b off hm => (hrows b off hm).2) hs'
 refine ⟨fun n hn hc => ?_, fun n m a hc hc' hn hm ha hb => ?_⟩
 ·obtain ⟨x, hx, rfl⟩ : ∃ x ∈ l, x.1 = n := by simpa using hc
  obtain ⟨a, ha, hm⟩ := h1 x hx hn
  obtain ⟨c, t, hct⟩ := (hrows a.block a.off hm).1
  exact ⟨a, c, t, ha, hct⟩
 ·obtain ⟨x, hx, rfl⟩ : ∃ x ∈ l, x.1 = n := by simpa using hc
  obtain ⟨y, hy, rfl⟩ : ∃ x ∈ l, x.1 = m := by simpa using hc'
  by_cases hxy : x.1 = y.1
  ·exact hxy
  obtain ⟨i, hi, rfl⟩ := List.mem_iff_getElem.1 hx
  obtain ⟨j, hj, rfl⟩ := List.mem_iff_getElem.1 hy
  rcases Nat.lt_trichotomy i j with h | h | h
  ·exact absurd rfl (List.pairwise_iff_getElem.1 h2 i j hi hj h a a hn hm ha hb)
  ·subst h; rfl
  ·exact absurd rfl (List.pairwise_iff_getElem.1 h2 j i hj hi h a a hm hn hb ha)

end Go.Proofs.YtnmhaipjfpongacGreatDoor

namespace Go.Proofs.YtnmhaipjfpongacGreatDoor
open Go.ChangeShapes Go.WideShapes Go.ChangeAt Go.RowKit

set_option maxRecDepth 100000 in
theorem laid_one {W : World} {n : String} {d : DataW Unit} {g : Nat} (hg : Tryz.prog.globalNamed n = some g) (ht : (Tryz.prog.globals[g]?).map (·.type) = some 32) (hd0 : isSent d = true) : ∀ {l : List (String × DataW Unit)} {ps : List MemPlace}, DataW.LaidVars Tryz.prog W l ps →
  (∀ b off, MemPlace.cell b off ∈ ps → ∀ u v, W.cell? ⟨b, off, none⟩ = some (.iface u v) → Value.okWide Tryz.prog W .any 0 u v) → (n, d) ∈ l → ∃ a, W.cell? ⟨g, 0, none⟩ = some (errV a)
 | [], _, _, _, h => by cases h
 | (n', d') :: r, ps, hv, hok, hm => by
  obtain ⟨g', t, cs, f, p, q, hg', ht', hvar, hd, hr, rfl⟩ := hv
  rcases List.mem_cons.1 hm with e | hm
  ·cases e
   obtain ⟨s, rfl⟩ := isSent_eq hd0
   obtain rfl := Option.some.inj (hg.symm.trans hg')
   obtain rfl := Option.some.inj (ht'.symm.trans ht)
   obtain ⟨lc⟩ := cs
   have ok0 : ∀ u v, lc = [.iface u v] → Value.okWide Tryz.prog W .any 0 u v := fun u v e => by
    subst e
    exact hok g 0 (by simp [MemPlace.row]) u v (by simpa using World.var?_cell hg hvar 0)
   obtain ⟨a, s', rfl, _, _, _, rfl⟩ := errorString_of_trod Tryz.underlying32 err_row Tryz.underlying390 Tryz.underlying392 rfl rfl Tryz.underlying9 err_cells str_cells hd ok0
   exact ⟨a, by simpa using World.var?_cell hg hvar 0⟩
  ·exact laid_one hg ht hd0 hr (fun b off hm => hok b off (List.mem_append_right _ hm)) hm

set_option maxRecDepth 100000 in
theorem one_of_laid {W : World} {l : List (String × DataW Unit)} (h : laidMet Tryz.prog l W) {n : String} {g : Nat} (hg : Tryz.prog.globalNamed n = some g) (ht : (Tryz.prog.globals[g]?).map (·.type) = some 32) (hs : (l.any fun x => x.1 == n && isSent x.2) = true) :
  ∃ a, W.cell? ⟨g, 0, none⟩ = some (errV a) := by
 obtain ⟨ps, hv, _, hrows⟩ := h
 obtain ⟨⟨n', d⟩, hm, hc⟩ := List.any_eq_true.1 hs
 simp only [Bool.and_eq_true, beq_iff_eq] at hc
 obtain ⟨rfl, hd⟩ := hc
 exact laid_one hg ht hd hv (fun b off hm => (hrows b off hm).2) hm
end Go.Proofs.YtnmhaipjfpongacGreatDoor
