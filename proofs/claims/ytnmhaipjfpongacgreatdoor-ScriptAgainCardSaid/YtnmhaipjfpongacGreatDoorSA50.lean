/- Texts of this seat laid together for one claim: Sa3, Sa4, Sa5, Sa6, L3, Sa7f, Sa7. No condition of its own: what each proves stands with its theorems. -/
import Derived.Test.YtnmhaipjfpongacGreatDoorSA49
import Derived.Test.YtnmhaipjfpongacGreatDoorSA23
import Derived.JoinedOf
import Derived.Test.YtnmhaipjfpongacGreatDoorChecked
import Derived.Test.YtnmhaipjfpongacGreatDoorRows
import Derived.ChangeMaps5
import Derived.LaidMore
import Derived.Lay
import Derived.Lib.LaidTab
import Derived.OpenShut
import Derived.SevenTiedAt
import Derived.SliceStrings
import Derived.Stop.Joined
import Derived.Stop.LaidErr
import Derived.Test.YtnmhaipjfpongacGreatDoorCards
import Derived.Test.YtnmhaipjfpongacGreatDoorTie
import Derived.Test.YtnmhaipjfpongacGreatDoorSA0
import Derived.Test.YtnmhaipjfpongacGreatDoorSA48
namespace Go.Proofs.YtnmhaipjfpongacGreatDoor
open Go.ChangeShapes Go.WideShapes Go.ChangeAt Go.RowKit

structure Ln where
 word : B
 p : List B
 text : B
 r : Rule
structure ShortLn (L : Ln) : Prop where
 word : L.word.length ≤ 60
 text : L.text.length ≤ 300
 many : L.p.length ≤ 6
 sum : sumLen L.p ≤ 300
 rule : ShortR1 L.r
abbrev lnV (L : Ln) (pv iv : Value) : Value := .agg #[S L.word, pv, S L.text, S L.r.out, S L.r.kind, S L.r.word, iv]
def RetLn (w : World) (e : Ending) (w' : World) : Prop := ∃ (t : B) (b : Bool), e = .returned (.tuple #[S t, .bool b]) ∧ t.length ≤ 999 ∧ Ext w w'
theorem mem_sum {l : List B} {x : B} {n : Nat} (h : sumLen l ≤ n) (hx : x ∈ l) : x.length ≤ n := Nat.le_trans (sum_mem hx) h
theorem join_sum (l : List B) (h1 : l.length ≤ 6) (h2 : sumLen l ≤ 300) : (Lib.join l [32]).length ≤ 306 := by
 have := join_take_le l [32] l.length
 rw [List.take_length] at this
 simp at this
 omega
theorem RdR.lit {w : World} {r : Rule} {iv : Value} (h : Rd S w iv r.ins) : RdR (w.alloc (.cells #[S r.out, S r.kind, S r.word, iv] 55 (0, 0))) (.slice (some ⟨w.heap.size, 0, none⟩) 1 1) [r] := by
 refine ⟨_, 1, rfl, Nat.le_refl _, by decide, fun _ => ⟨w.heap.size, 0, rfl, fun i q hq => ?_⟩⟩
 have hb := (MapKept.heap_alloc w (.cells #[S r.out, S r.kind, S r.word, iv] 55 (0, 0))).1
 match i, hq with
 | 0, hq =>
  cases hq
  exact ⟨iv, h.ext (Only.alloc _ _ _), (cell_of_heap hb 0).trans rfl, (cell_of_heap hb 1).trans rfl, (cell_of_heap hb 2).trans rfl, (cell_of_heap hb 3).trans rfl⟩
 | i + 1, hq => simp at hq

set_option maxRecDepth 100000 in
set_option maxHeartbeats 4000000 in
theorem lineOf_any (w : World) (L : Ln) (pv iv : Value) (hp : Rd S w pv L.p) (hi : Rd S w iv L.r.ins) (hs : ShortLn L) : Calls Tryz.prog 85 #[lnV L pv iv] w (RetLn w) := by
 obtain ⟨wd, P, tx, r⟩ := L
 obtain ⟨l1, l2, l3, l4, l5⟩ := hs
 simp only at hp hi
 replace l1 : wd.length ≤ 60 := l1
 replace l2 : tx.length ≤ 300 := l2
 replace l3 : P.length ≤ 6 := l3
 replace l4 : sumLen P ≤ 300 := l4
 replace l5 : ShortR1 r := l5
 have HP := Lib.hid hp
 have HI := Lib.hid hi
 have HRS := Lib.hid l5
 have HSM := Lib.hid l4
 have HMN := Lib.hid l3
 have HIP := Lib.hid (fun W s (hs : s ∈ P) => isPath_any W s (Nat.le_trans (mem_sum HSM.out hs) (by decide)))
 obtain ⟨ap, cp, rfl, _, _, hcp⟩ := hp
 have HC := Lib.hid hcp
 have hpz : (P.length : Int) ≤ 6 := by omega
 have hwz : (wd.length : Int) ≤ 60 := by omega
 have htz : (tx.length : Int) ≤ 300 := by omega
 have HWL : Hid (wd.length ≤ 60) := Lib.hid l1
 have HTL : Hid (tx.length ≤ 300) := Lib.hid l2
 have HXB := Lib.hid (Only.alloc (fun _ => False) w (.cells #[S wd, .slice ap P.length cp, S tx, S r.out, S r.kind, S r.word, iv] 136 (0, 0)))
 have HBX : Hid ((w.alloc (.cells #[S wd, .slice ap P.length cp, S tx, S r.out, S r.kind, S r.word, iv] 136 (0, 0))).heap[w.heap.size]? = some (.cells #[S wd, .slice ap P.length cp, S tx, S r.out, S r.kind, S r.word, iv] 136 (0, 0))) := Lib.hid (MapKept.heap_alloc w _).1
 clear hcp hi l1 l2 l3 l4 l5
 go_enter Tryz.func85, Tryz.ntmps85
 go_wp2_with fail
 have HD := Lib.hid (fun (wz : World) (h : Ext (w.alloc (.cells #[S wd, .slice ap P.length cp, S tx, S r.out, S r.kind, S r.word, iv] 136 (0, 0))) wz) => (h.heapOf HBX.out (fun h => h) : wz.heap[w.heap.size]? = some (.cells #[S wd, .slice ap P.length cp, S tx, S r.out, S r.kind, S r.word, iv] 136 (0, 0))))
 have HE := Lib.hid (fun (wz : World) (h : Ext (w.alloc (.cells #[S wd, .slice ap P.length cp, S tx, S r.out, S r.kind, S r.word, iv] 136 (0, 0))) wz) => HXB.out.then h)
 obtain ⟨J, hJ⟩ : ∃ J, J = Lib.join P [32] := ⟨_, rfl⟩
 have hJl : J.length ≤ 306 := by rw [hJ]; exact join_sum P HMN.out HSM.out
 have HJL := Lib.hid hJl
 have hJz : (J.length : Int) ≤ 306 := by omega
 have HJN := Lib.hid (fun (W : World) (h : Ext (w.alloc (.cells #[S wd, .slice ap P.length cp, S tx, S r.out, S r.kind, S r.word, iv] 136 (0, 0))) W) => joinedSame_any W _ P (HP.out.ext (HE.out W h)) (Nat.le_trans HMN.out (by decide)) (by have := HMN.out; have := HSM.out; omega))
 rw [← hJ] at HJN
 clear hJ hJl
 have HSW := Lib.hid (fun W => swapped_any W tx (Nat.le_trans HTL.out (by decide)))
 have HSH := Lib.hid (fun (W : World) (h : Ext (w.alloc (.cells #[S wd, .slice ap P.length cp, S tx, S r.out, S r.kind, S r.word, iv] 136 (0, 0))) W) => sheetOne_any _ _ r (RdR.lit (HI.out.ext (HE.out W h))) HRS.out)
 have HKS := Lib.hid (fun (wq : World) (h : Ext (w.alloc (.cells #[S wd, .slice ap P.length cp, S tx, S r.out, S r.kind, S r.word, iv] 136 (0, 0))) wq) => (⟨(cell_of_heap (HD.out _ h) 1).trans rfl, (cell_of_heap (HD.out _ h) 2).trans rfl⟩ : wq.cell? ⟨w.heap.size, 1, none⟩ = some (.slice ap P.length cp) ∧ wq.cell? ⟨w.heap.size, 2, none⟩ = some (S tx)))
 go_loopw [4, 5] (fun i _ wz => ∃ (k : Nat), k ≤ P.length ∧ i = .int .i64 k ∧ Hid (Ext (w.alloc (.cells #[S wd, .slice ap P.length cp, S tx, S r.out, S r.kind, S r.word, iv] 136 (0, 0))) wz)) (fun i _ _ => P.length - (intOf i).toNat)
 case atStart => exact ⟨0, Nat.zero_le _, rfl, Lib.hid (Only.refl _ _)⟩
 case round =>
  obtain ⟨k, hk, rfl, HZ⟩ := hrel
  have hb := HD.out _ HZ.out
  have m0 := (cell_of_heap hb 0).trans (rfl : _ = some (S wd))
  have m1 := (cell_of_heap hb 1).trans (rfl : _ = some (Value.slice ap P.length cp))
  have m2 := (cell_of_heap hb 2).trans (rfl : _ = some (S tx))
  have m3 := (cell_of_heap hb 3).trans (rfl : _ = some (S r.out))
  have m4 := (cell_of_heap hb 4).trans (rfl : _ = some (S r.kind))
  have m5 := (cell_of_heap hb 5).trans (rfl : _ = some (S r.word))
  have m6 := (cell_of_heap hb 6).trans (rfl : _ = some iv)
  clear hb
  by_cases hlt : k < P.length
  case pos =>
   have hltz : (k : Int) < (P.length : Int) := by omega
   have hk0 : (0 : Int) ≤ (k : Int) := by omega
   obtain ⟨bu, ou, rfl, hcell⟩ := HC.out (by intro h; rw [h] at hlt; simp at hlt)
   obtain ⟨y, hy⟩ : ∃ y, P[k]? = some y := ⟨_, List.getElem?_eq_getElem hlt⟩
   have e4 := (HE.out _ HZ.out).cellOf (hcell k y hy) (fun h => h)
   have HIY := Lib.hid (fun W => HIP.out W y (List.mem_of_getElem? hy))
   have HKL := Lib.hid hlt
   generalize pathOk y = q at HIY
   clear hcell hy hlt hk
   go_wp2_with fail
   refine (HIY.out _).mono ?_
   rintro e w2 ⟨rfl, ho⟩
   have HZ2 := Lib.hid (HZ.out.then ho)
   clear ho
   cases q
   case true =>
    go_wp2_with fail
    go_roundw
    case rel => exact ⟨k + 1, HKL.out, by go_num, HZ2⟩
    case measure => have := HKL.out; simp [intOf]; omega
   case false =>
    go_wp2_with fail
    go_ret2
    exact ⟨[], false, rfl, by simp, HE.out _ HZ2.out⟩
  case neg =>
   have hltz : ¬ (k : Int) < (P.length : Int) := by omega
   clear hlt hk
   by_cases h0 : wd = [99, 108, 101, 97, 114]
   ·subst h0
    go_wp2_with fail
    go_quiet (fail)
    go_wp2_with fail
    go_ret2
    exact ⟨_, _, rfl, by decide, HE.out _ (HZ.out.thenDrewN _)⟩
   have b0 : (wd == [99, 108, 101, 97, 114]) = false := beq_eq_false_iff_ne.2 h0
   by_cases h1 : wd = [115, 116, 97, 108, 101]
   ·subst h1
    go_wp2_with fail
    go_quiet (fail)
    go_wp2_with fail
    go_ret2
    exact ⟨_, _, rfl, by decide, HE.out _ (HZ.out.thenDrewN _)⟩
   have b1 : (wd == [115, 116, 97, 108, 101]) = false := beq_eq_false_iff_ne.2 h1
   by_cases h2 : wd = [111, 114, 100, 101, 114]
   ·subst h2
    go_wp2_with fail
    go_quiet (fail)
    go_wp2_with fail
    go_ret2
    exact ⟨_, _, rfl, by decide, HE.out _ (HZ.out.thenDrewN _)⟩
   have b2 : (wd == [111, 114, 100, 101, 114]) = false := beq_eq_false_iff_ne.2 h2
   by_cases h3 : wd = [108, 101, 97, 118, 101, 115]
   ·subst h3
    go_wp2_with fail
    go_quiet (fail)
    go_wp2_with fail
    go_ret2
    exact ⟨_, _, rfl, by decide, HE.out _ (HZ.out.thenDrewN _)⟩
   have b3 : (wd == [108, 101, 97, 118, 101, 115]) = false := beq_eq_false_iff_ne.2 h3
   by_cases h4 : wd = [102, 105, 108, 101, 115]
   ·subst h4
    go_wp2_with fail
    go_quiet (fail)
    go_wp2_with fail
    go_ret2
    exact ⟨_, _, rfl, by decide, HE.out _ (HZ.out.thenDrewN _)⟩
   have b4 : (wd == [102, 105, 108, 101, 115]) = false := beq_eq_false_iff_ne.2 h4
   by_cases h5 : wd = [109, 97, 107, 101]
   ·subst h5
    by_cases hP0 : P.length = 0
    ·have hPz : ((P.length : Int) == 0) = true := by rw [hP0]; rfl
     go_wp2_with fail
     go_ret2
     exact ⟨[109, 97, 107, 101], true, rfl, by decide, HE.out _ HZ.out⟩
    ·have hPz : ((P.length : Int) == 0) = false := beq_eq_false_iff_ne.2 (by omega)
     have HBA := Lib.hid (ba_app [109, 97, 107, 101, 32] J)
     go_wp2_with fail
     refine (HJN.out _ HZ.out).mono ?_
     rintro e w2 ⟨rfl, rfl⟩
     go_wp2_with fail
     go_ret2
     exact ⟨[109, 97, 107, 101, 32] ++ J, true, congrArg (fun x => Ending.returned (.tuple #[Value.string x, .bool true])) HBA.out, by have := HJL.out; simp only [List.length_append, List.length_cons, List.length_nil]; omega, HE.out _ HZ.out⟩
   have b5 : (wd == [109, 97, 107, 101]) = false := beq_eq_false_iff_ne.2 h5
   by_cases h6 : wd = [100, 114, 111, 112]
   ·subst h6
    have HBA := Lib.hid (show ((⟨#[100, 114, 111, 112]⟩ : ByteArray) ++ ⟨#[32]⟩ ++ ⟨J.toArray⟩) = ⟨([100, 114, 111, 112] ++ [32] ++ J).toArray⟩ from by rw [show (⟨#[100, 114, 111, 112]⟩ : ByteArray) = ⟨([100, 114, 111, 112] : B).toArray⟩ from rfl, show (⟨#[32]⟩ : ByteArray) = ⟨([32] : B).toArray⟩ from rfl, ba_app, ba_app])
    go_wp2_with fail
    go_quiet ((go_at_call 146; exact Calls.quiet_of_same ((HJN.out _ (HZ.out.thenDrewN _)).mono fun _ _ h => ⟨h.1, h.2.symm⟩)))
    go_wp2_with fail
    go_ret2
    exact ⟨[100, 114, 111, 112] ++ [32] ++ J, _, congrArg (fun x => Ending.returned (.tuple #[Value.string x, .bool _])) HBA.out, by have := HJL.out; simp only [List.length_append, List.length_cons, List.length_nil]; omega, HE.out _ (HZ.out.thenDrewN _)⟩
   have b6 : (wd == [100, 114, 111, 112]) = false := beq_eq_false_iff_ne.2 h6
   by_cases h7 : wd = [115, 104, 111, 119]
   ·subst h7
    have HBA := Lib.hid (show ((⟨#[115, 104, 111, 119]⟩ : ByteArray) ++ ⟨#[32]⟩ ++ ⟨J.toArray⟩) = ⟨([115, 104, 111, 119] ++ [32] ++ J).toArray⟩ from by rw [show (⟨#[115, 104, 111, 119]⟩ : ByteArray) = ⟨([115, 104, 111, 119] : B).toArray⟩ from rfl, show (⟨#[32]⟩ : ByteArray) = ⟨([32] : B).toArray⟩ from rfl, ba_app, ba_app])
    go_wp2_with fail
    go_quiet ((go_at_call 146; exact Calls.quiet_of_same ((HJN.out _ (HZ.out.thenDrewN _)).mono fun _ _ h => ⟨h.1, h.2.symm⟩)))
    go_wp2_with fail
    go_ret2
    exact ⟨[115, 104, 111, 119] ++ [32] ++ J, _, congrArg (fun x => Ending.returned (.tuple #[Value.string x, .bool _])) HBA.out, by have := HJL.out; simp only [List.length_append, List.length_cons, List.length_nil]; omega, HE.out _ (HZ.out.thenDrewN _)⟩
   have b7 : (wd == [115, 104, 111, 119]) = false := beq_eq_false_iff_ne.2 h7
   by_cases h8 : wd = [119, 97, 110, 116]
   ·subst h8
    have HBA := Lib.hid (show ((⟨#[119, 97, 110, 116]⟩ : ByteArray) ++ ⟨#[32]⟩ ++ ⟨J.toArray⟩) = ⟨([119, 97, 110, 116] ++ [32] ++ J).toArray⟩ from by rw [show (⟨#[119, 97, 110, 116]⟩ : ByteArray) = ⟨([119, 97, 110, 116] : B).toArray⟩ from rfl, show (⟨#[32]⟩ : ByteArray) = ⟨([32] : B).toArray⟩ from rfl, ba_app, ba_app])
    go_wp2_with fail
    go_quiet ((go_at_call 146; exact Calls.quiet_of_same ((HJN.out _ (HZ.out.thenDrewN _)).mono fun _ _ h => ⟨h.1, h.2.symm⟩)))
    go_wp2_with fail
    go_ret2
    exact ⟨[119, 97, 110, 116] ++ [32] ++ J, _, congrArg (fun x => Ending.returned (.tuple #[Value.string x, .bool _])) HBA.out, by have := HJL.out; simp only [List.length_append, List.length_cons, List.length_nil]; omega, HE.out _ (HZ.out.thenDrewN _)⟩
   have b8 : (wd == [119, 97, 110, 116]) = false := beq_eq_false_iff_ne.2 h8
   by_cases h9 : wd = [112, 117, 116]
   ·subst h9
    go_wp2_with fail
    refine wp_region_held_drew (S := fun wq => wq.cell? ⟨w.heap.size, 1, none⟩ = some (.slice ap P.length cp) ∧ wq.cell? ⟨w.heap.size, 2, none⟩ = some (S tx)) (by kernel_rfl) (HKS.out _ HZ.out.thenDrew) (fun hHeld => ?_)
    refine takeN 0 ?_
    refine takeN 1 ?_
    refine takeN 5 ?_
    refine takeN 6 ?_
    refine takeN 9 ?_
    refine takeN 10 ?_
    refine takeN 11 ?_
    refine takeN 12 ?_
    refine wpAnyH_ready (rs := [2]) (by kernel_rfl) (by simp) ?_
    refine AllReadyH.cons (o := _) rfl (fun K hK => ?_) AllReadyH.nil
    go_simp
    go_at_call 146
    refine (HJN.out _ HZ.out.thenDrew).mono ?_
    rintro e wi1 ⟨rfl, rfl⟩
    refine hK.out _ _ (HKS.out _ HZ.out.thenDrew) (fun hHeld => ?_)
    clear hK K
    try simp only [Act.put, List.setIfInBounds_toArray, List.set_cons_zero, List.set_cons_succ]
    have q1 : ¬ 9223372036854775807 < 4 + J.length := by omega
    have q2 : ¬ 9223372036854775807 < 4 + J.length + 1 := by omega
    refine takeN 3 ?_
    refine takeN 4 ?_
    refine wpAnyH_ready (rs := [7]) (by kernel_rfl) (by simp) ?_
    refine AllReadyH.cons (o := _) rfl (fun K hK => ?_) AllReadyH.nil
    go_simp
    go_at_call 147
    refine (HSW.out _).mono ?_
    rintro e we1 ⟨tq, rfl, _, htl, hoe⟩
    have HZ4 := Lib.hid (HZ.out.thenDrew.then hoe)
    refine hK.out _ _ (HKS.out _ HZ4.out) (fun hHeld => ?_)
    clear hK K
    try simp only [Act.put, List.setIfInBounds_toArray, List.set_cons_zero, List.set_cons_succ]
    have htq : (tq.length : Int) ≤ 300 := by have := HTL.out; omega
    have HTQ := Lib.hid (show tq.length ≤ 300 by omega)
    have HBA := Lib.hid (show ((⟨#[112, 117, 116, 32]⟩ : ByteArray) ++ ⟨J.toArray⟩ ++ ⟨#[32]⟩ ++ ⟨tq.toArray⟩) = ⟨([112, 117, 116, 32] ++ J ++ [32] ++ tq).toArray⟩ from by rw [show (⟨#[112, 117, 116, 32]⟩ : ByteArray) = ⟨([112, 117, 116, 32] : B).toArray⟩ from rfl, show (⟨#[32]⟩ : ByteArray) = ⟨([32] : B).toArray⟩ from rfl, ba_app, ba_app, ba_app])
    have q3 : ¬ 9223372036854775807 < 4 + J.length + 1 + tq.length := by omega
    clear hoe htl
    refine takeN 8 ?_
    refine takeN 13 ?_
    refine takeN 14 ?_
    refine wpAnyH_done (by kernel_rfl) ?_ _
    go_wp2_with fail
    go_ret2
    exact ⟨[112, 117, 116, 32] ++ J ++ [32] ++ tq, _, congrArg (fun x => Ending.returned (.tuple #[Value.string x, .bool _])) HBA.out, by have := HJL.out; have := HTQ.out; simp only [List.length_append, List.length_cons, List.length_nil]; omega, HE.out _ HZ4.out⟩
   have b9 : (wd == [112, 117, 116]) = false := beq_eq_false_iff_ne.2 h9
   by_cases h10 : wd = [114, 117, 108, 101]
   ·subst h10
    go_wp2_with fail
    refine (HSH.out _ HZ.out).mono ?_
    rintro e w2 ⟨t, rfl, ht1, ht2, ho⟩
    have HZ2 := Lib.hid ((HZ.out.then (Only.alloc _ _ _)).then ho)
    have htz1 : (1 : Int) ≤ (t.length : Int) := by omega
    have htz2 : (t.length : Int) ≤ 800 := by omega
    have htz3 : (0 : Int) ≤ (t.length : Int) - 1 := by omega
    have htz4 : (t.length : Int) - 1 ≤ (t.length : Int) := by omega
    have HT2 := Lib.hid ht2
    have n1 := (cell_of_heap (HD.out _ HZ2.out) 1).trans (rfl : _ = some (Value.slice ap P.length cp))
    have hcut : (⟨t.toArray⟩ : ByteArray).extract 0 ((t.length : Int) - 1).toNat = ⟨(t.take (t.length - 1)).toArray⟩ := by rw [show ((t.length : Int) - 1).toNat = t.length - 1 by omega, ba_mid, List.drop_zero]
    have HBA := Lib.hid (show ((⟨#[114, 117, 108, 101, 32]⟩ : ByteArray) ++ (⟨t.toArray⟩ : ByteArray).extract 0 (t.length - 1)) = ⟨([114, 117, 108, 101, 32] ++ t.take (t.length - 1)).toArray⟩ from by rw [ba_mid, List.drop_zero]; exact ba_app [114, 117, 108, 101, 32] _)
    clear ho ht1 ht2 hcut
    go_wp2_with fail
    go_quiet (fail)
    go_wp2_with fail
    go_ret2
    exact ⟨[114, 117, 108, 101, 32] ++ t.take (t.length - 1), _, congrArg (fun x => Ending.returned (.tuple #[Value.string x, .bool _])) HBA.out, by have := HT2.out; simp only [List.length_append, List.length_cons, List.length_nil, List.length_take]; omega, HE.out _ (HZ2.out.thenDrewN _)⟩
   have b10 : (wd == [114, 117, 108, 101]) = false := beq_eq_false_iff_ne.2 h10
   clear h0 h1 h2 h3 h4 h5 h6 h7 h8 h9 h10
   go_wp2_with fail
   go_ret2
   exact ⟨[], false, rfl, by simp, HE.out _ HZ.out⟩
end Go.Proofs.YtnmhaipjfpongacGreatDoor

namespace Go.Proofs.YtnmhaipjfpongacGreatDoor
open Go.ChangeShapes Go.WideShapes Go.ChangeAt Go.RowKit

def RetLgL (L : Ln) (w : World) (e : Ending) (w' : World) : Prop := ∃ b : Bool, e = .returned (.bool b) ∧ (b = false → ShortLn L) ∧ Ext w w'
set_option maxRecDepth 100000 in
set_option maxHeartbeats 4000000 in
theorem longLine_any (w : World) (L : Ln) (pv iv : Value) (hp : Rd S w pv L.p) (hi : Rd S w iv L.r.ins) (hwm : L.word.length ≤ maxLen ∧ L.text.length ≤ maxLen) : Calls Tryz.prog 84 #[lnV L pv iv] w (RetLgL L w) := by
 obtain ⟨wd, P, tx, r⟩ := L
 simp only at hp hi hwm
 have HX1 := Lib.hid (Only.alloc (fun _ => False) w (.cells #[S wd, pv, S tx, S r.out, S r.kind, S r.word, iv] 136 (0, 0)))
 have hb : (w.alloc (.cells #[S wd, pv, S tx, S r.out, S r.kind, S r.word, iv] 136 (0, 0))).heap[w.heap.size]? = some (.cells #[S wd, pv, S tx, S r.out, S r.kind, S r.word, iv] 136 (0, 0)) := (MapKept.heap_alloc w _).1
 have HX2 := Lib.hid (HX1.out.then (Only.alloc (fun _ => False) (w.alloc (.cells #[S wd, pv, S tx, S r.out, S r.kind, S r.word, iv] 136 (0, 0))) (.cells #[S r.out, S r.kind, S r.word, iv] 55 (0, 0))))
 have hb2 := (Only.alloc (fun _ => False) (w.alloc (.cells #[S wd, pv, S tx, S r.out, S r.kind, S r.word, iv] 136 (0, 0))) (.cells #[S r.out, S r.kind, S r.word, iv] 55 (0, 0))).heapOf hb (fun h => h)
 have m3 := (cell_of_heap hb 3).trans (rfl : _ = some (S r.out))
 have m4 := (cell_of_heap hb 4).trans (rfl : _ = some (S r.kind))
 have m5 := (cell_of_heap hb 5).trans (rfl : _ = some (S r.word))
 have m6 := (cell_of_heap hb 6).trans (rfl : _ = some iv)
 have n0 := (cell_of_heap hb2 0).trans (rfl : _ = some (S wd))
 have n1 := (cell_of_heap hb2 1).trans (rfl : _ = some pv)
 have n2 := (cell_of_heap hb2 2).trans (rfl : _ = some (S tx))
 have HLT := Lib.hid (longTextsS_any _ pv P 6 300 (hp.ext HX2.out) (by decide))
 have hsz : (w.alloc (.cells #[S wd, pv, S tx, S r.out, S r.kind, S r.word, iv] 136 (0, 0))).heap.size = w.heap.size + 1 := by simp
 have hlr := longRule1_any _ _ r (RdR.lit (hi.ext HX1.out))
 rw [hsz] at hlr
 have HLR := Lib.hid hlr
 have hwz : (wd.length : Int) ≤ 9223372036854775807 := by have := hwm.1; unfold maxLen at this; omega
 have htz : (tx.length : Int) ≤ 9223372036854775807 := by have := hwm.2; unfold maxLen at this; omega
 have HLE : Hid (¬ (60 : Int) < (wd.length : Int) → ¬ (300 : Int) < (tx.length : Int) → P.length ≤ 6 → sumLen P ≤ 300 → ShortR1 r → ShortLn ⟨wd, P, tx, r⟩) := Lib.hid (fun a b c d e => ⟨by simp only; omega, by simp only; omega, c, d, e⟩)
 clear hb hb2 hp hi hwm hsz hlr
 by_cases h1 : (60 : Int) < (wd.length : Int)
 case pos =>
  go_enter Tryz.func84, Tryz.ntmps84
  go_wp2_with fail
  go_ret
  exact ⟨true, rfl, (fun h => by cases h), HX2.out⟩
 by_cases h2 : (300 : Int) < (tx.length : Int)
 case pos =>
  go_enter Tryz.func84, Tryz.ntmps84
  go_wp2_with fail
  go_ret
  exact ⟨true, rfl, (fun h => by cases h), HX2.out⟩
 go_enter Tryz.func84, Tryz.ntmps84
 go_wp2_with fail
 refine HLT.out.mono ?_
 rintro e w2 ⟨⟨z1, rfl, hz1, hk1⟩, rfl⟩
 have HK1 := Lib.hid hk1
 clear hk1
 go_wp2_with fail
 refine HLR.out.mono ?_
 rintro e w2 ⟨⟨z2, rfl, hz2, hk2⟩, rfl⟩
 have HK2 := Lib.hid hk2
 have H12 := Lib.hid (And.intro h1 h2)
 clear hk2 h1 h2
 rcases hz1 with rfl | rfl <;> rcases hz2 with rfl | rfl <;> (go_wp2_with fail; go_ret)
 ·exact ⟨false, rfl, fun _ => HLE.out H12.out.1 H12.out.2 (by have := (HK1.out trivial).1; omega) (by have := (HK1.out trivial).2; omega) (HK2.out trivial), HX2.out⟩
 ·exact ⟨true, rfl, (fun h => by cases h), HX2.out⟩
 ·exact ⟨true, rfl, (fun h => by cases h), HX2.out⟩
 ·exact ⟨true, rfl, (fun h => by cases h), HX2.out⟩
end Go.Proofs.YtnmhaipjfpongacGreatDoor

namespace Go.Proofs.YtnmhaipjfpongacGreatDoor
open Go.ChangeShapes Go.WideShapes Go.ChangeAt Go.RowKit

def RdLn (w : World) (v : Value) (l : List Ln) : Prop :=
 ∃ a cap, v = .slice a l.length cap ∧ l.length ≤ cap ∧ cap ≤ maxLen ∧ (l ≠ [] → ∃ b off, a = some ⟨b, off, none⟩ ∧
  ∀ (i : Nat) x, l[i]? = some x → ∃ pv iv, Rd S w pv x.p ∧ Rd S w iv x.r.ins ∧ (x.word.length ≤ maxLen ∧ x.text.length ≤ maxLen) ∧ w.cell? ⟨b, off + i * 7, none⟩ = some (S x.word) ∧ w.cell? ⟨b, off + i * 7 + 1, none⟩ = some pv ∧ w.cell? ⟨b, off + i * 7 + 2, none⟩ = some (S x.text) ∧
   w.cell? ⟨b, off + i * 7 + 3, none⟩ = some (S x.r.out) ∧ w.cell? ⟨b, off + i * 7 + 4, none⟩ = some (S x.r.kind) ∧ w.cell? ⟨b, off + i * 7 + 5, none⟩ = some (S x.r.word) ∧ w.cell? ⟨b, off + i * 7 + 6, none⟩ = some iv)

theorem cellsLine : Tryz.prog.cellsOf 136 = 7 := by kernel_rfl
theorem cellsTexts : Tryz.prog.cellsOf 53 = 1 := by kernel_rfl

theorem rule_trod {H : Type} {enc : TypeId × Value → H} {w : World} {base : Nat} {spare : Nat → Bool} {held : Bool} {fuel : Nat} {c0 c1 c2 c3 : Value} {x : DataW H × List MemPlace}
  (h : DataW.trod enc Tryz.prog w base spare held fuel 55 [c0, c1, c2, c3] = some x) : ∃ r : Rule, c0 = S r.out ∧ c1 = S r.kind ∧ c2 = S r.word ∧ Rd S w c3 r.ins := by
 obtain ⟨xs, n, _, _, _, hlen, hf⟩ := DataW.trod_struct Tryz.underlying55 h
 replace hlen : xs.length = 4 := hlen
 have g : ∀ i, i < 4 → ∃ y, xs[i]? = some y := fun i hi => ⟨_, List.getElem?_eq_getElem (by omega)⟩
 have h0 := hf 0 _ rfl
 have h1 := hf 1 _ rfl
 have h2 := hf 2 _ rfl
 have h3 := hf 3 _ rfl
 change DataW.trod enc Tryz.prog w base spare held n 9 (([c0, c1, c2, c3].drop 0).take (Tryz.prog.cellsOf 9)) = _ at h0
 change DataW.trod enc Tryz.prog w base spare held n 9 (([c0, c1, c2, c3].drop 1).take (Tryz.prog.cellsOf 9)) = _ at h1
 change DataW.trod enc Tryz.prog w base spare held n 9 (([c0, c1, c2, c3].drop 2).take (Tryz.prog.cellsOf 9)) = _ at h2
 change DataW.trod enc Tryz.prog w base spare held n 53 (([c0, c1, c2, c3].drop 3).take (Tryz.prog.cellsOf 53)) = _ at h3
 rw [str_cells] at h0 h1 h2
 rw [cellsTexts] at h3
 obtain ⟨y0, e0⟩ := g 0 (by omega)
 obtain ⟨y1, e1⟩ := g 1 (by omega)
 obtain ⟨y2, e2⟩ := g 2 (by omega)
 obtain ⟨y3, e3⟩ := g 3 (by omega)
 rw [e0] at h0
 rw [e1] at h1
 rw [e2] at h2
 rw [e3] at h3
 obtain ⟨p, f0, _, _⟩ := DataW.trod_string Tryz.underlying9 h0
 obtain ⟨k, f1, _, _⟩ := DataW.trod_string Tryz.underlying9 h1
 obtain ⟨s, f2, _, _⟩ := DataW.trod_string Tryz.underlying9 h2
 obtain ⟨q, hq⟩ := texts_trod (v := c3) h3
 cases f0; cases f1; cases f2
 exact ⟨⟨p.data.toList, k.data.toList, s.data.toList, q⟩, rfl, rfl, rfl, hq⟩
theorem line_trod {H : Type} {enc : TypeId × Value → H} {w : World} {base : Nat} {spare : Nat → Bool} {held : Bool} {fuel : Nat} {c0 c1 c2 c3 c4 c5 c6 : Value} {x : DataW H × List MemPlace}
  (h : DataW.trod enc Tryz.prog w base spare held fuel 136 [c0, c1, c2, c3, c4, c5, c6] = some x) :
  ∃ L : Ln, (c0 = S L.word ∧ c2 = S L.text ∧ c3 = S L.r.out ∧ c4 = S L.r.kind ∧ c5 = S L.r.word) ∧ Rd S w c1 L.p ∧ Rd S w c6 L.r.ins ∧ L.word.length ≤ maxLen ∧ L.text.length ≤ maxLen := by
 obtain ⟨xs, n, _, _, _, hlen, hf⟩ := DataW.trod_struct Tryz.underlying136 h
 replace hlen : xs.length = 4 := hlen
 have g : ∀ i, i < 4 → ∃ y, xs[i]? = some y := fun i hi => ⟨_, List.getElem?_eq_getElem (by omega)⟩
 have h0 := hf 0 _ rfl
 have h1 := hf 1 _ rfl
 have h2 := hf 2 _ rfl
 have h3 := hf 3 _ rfl
 change DataW.trod enc Tryz.prog w base spare held n 9 (([c0, c1, c2, c3, c4, c5, c6].drop 0).take (Tryz.prog.cellsOf 9)) = _ at h0
 change DataW.trod enc Tryz.prog w base spare held n 53 (([c0, c1, c2, c3, c4, c5, c6].drop 1).take (Tryz.prog.cellsOf 53)) = _ at h1
 change DataW.trod enc Tryz.prog w base spare held n 9 (([c0, c1, c2, c3, c4, c5, c6].drop 2).take (Tryz.prog.cellsOf 9)) = _ at h2
 change DataW.trod enc Tryz.prog w base spare held n 55 (([c0, c1, c2, c3, c4, c5, c6].drop 3).take (Tryz.prog.cellsOf 55)) = _ at h3
 rw [str_cells] at h0 h2
 rw [cellsTexts] at h1
 rw [cellsRule] at h3
 obtain ⟨y0, e0⟩ := g 0 (by omega)
 obtain ⟨y1, e1⟩ := g 1 (by omega)
 obtain ⟨y2, e2⟩ := g 2 (by omega)
 obtain ⟨y3, e3⟩ := g 3 (by omega)
 rw [e0] at h0
 rw [e1] at h1
 rw [e2] at h2
 rw [e3] at h3
 obtain ⟨p, f0, _, z0⟩ := DataW.trod_string Tryz.underlying9 h0
 obtain ⟨s, f2, _, z2⟩ := DataW.trod_string Tryz.underlying9 h2
 obtain ⟨q, hq⟩ := texts_trod (v := c1) h1
 obtain ⟨r, d3, d4, d5, d6⟩ := rule_trod (c0 := c3) (c1 := c4) (c2 := c5) (c3 := c6) h3
 cases f0; cases f2
 exact ⟨⟨p.data.toList, q, s.data.toList, r⟩, ⟨rfl, rfl, d3, d4, d5⟩, hq, d6, z0, z2⟩

theorem open_lines {H : Type} {enc : TypeId × Value → H} {w : World} {base : Nat} {spare : Nat → Bool} {held : Bool} {fuel : Nat} {a : Option Addr} {len cap : Nat} {x : DataW H × List MemPlace}
  (h : DataW.trod enc Tryz.prog w base spare held fuel 133 [.slice a len cap] = some x) (_hr : ∀ n ∈ x.1.weights Tryz.prog 133, n ≤ 140737488351232) :
  ∃ l : List Ln, l.length = len ∧ RdLn w (.slice a len cap) l ∧ True := by
 rcases Go.Deep.open_slice Tryz.underlying133 h with ⟨h0, _⟩ | ⟨ad, len', cap', m, n, D, Pl, hcs, _, hl, hm, hmm, hxx, hi⟩
 ·cases h0
  exact ⟨[], rfl, ⟨none, 0, rfl, Nat.le_refl _, Nat.zero_le _, fun h => absurd rfl h⟩, trivial⟩
 ·cases hcs
  have key : ∀ i, ∃ y : Ln × Value × Value, i < len → (w.cell? ((ad.add (i * 7)).add 0) = some (S y.1.word) ∧ w.cell? ((ad.add (i * 7)).add 1) = some y.2.1 ∧ w.cell? ((ad.add (i * 7)).add 2) = some (S y.1.text) ∧ w.cell? ((ad.add (i * 7)).add 3) = some (S y.1.r.out) ∧ w.cell? ((ad.add (i * 7)).add 4) = some (S y.1.r.kind) ∧ w.cell? ((ad.add (i * 7)).add 5) = some (S y.1.r.word) ∧ w.cell? ((ad.add (i * 7)).add 6) = some y.2.2) ∧ Rd S w y.2.1 y.1.p ∧ Rd S w y.2.2 y.1.r.ins ∧ y.1.word.length ≤ maxLen ∧ y.1.text.length ≤ maxLen := by
   intro i
   by_cases hlt : i < len
   ·have him : i < m := by rw [hmm]; split <;> omega
    obtain ⟨cs', hc, ht'⟩ := hi i him
    rw [cellsLine] at hc
    obtain ⟨_, hcl, hat⟩ := World.cells?_some hc
    match cs', hcl, hat, ht' with
    | [c0, c1, c2, c3, c4, c5, c6], _, hat, ht' =>
     obtain ⟨L, ⟨e0, e2, e3, e4, e5⟩, hp, hi', z0, z2⟩ := line_trod ht'
     subst e0 e2 e3 e4 e5
     exact ⟨(L, c1, c6), fun _ => ⟨⟨hat 0 (by omega), hat 1 (by omega), hat 2 (by omega), hat 3 (by omega), hat 4 (by omega), hat 5 (by omega), hat 6 (by omega)⟩, hp, hi', z0, z2⟩⟩
   ·exact ⟨(⟨[], [], [], ⟨[], [], [], []⟩⟩, .nilIface, .nilIface), fun h => absurd h hlt⟩
  refine ⟨(List.range len).map fun i => (Classical.choose (key i)).1, by simp, ⟨some ad, cap, by simp, by simpa using hl, hm, fun hne => ?_⟩, trivial⟩
  have hpos : 0 < len := by
   rcases Nat.eq_zero_or_pos len with h | h
   ·subst h; simp at hne
   ·exact h
  obtain ⟨b, off, spot⟩ := ad
  have hs : spot = none := by
   have := (Classical.choose_spec (key 0) hpos).1.1
   simpa [Addr.add] using World.cell?_spot this
  subst hs
  refine ⟨b, off, rfl, fun i r hx => ?_⟩
  have hlt : i < len := by have := (List.getElem?_eq_some_iff.1 hx).1; simpa using this
  have he : (Classical.choose (key i)).1 = r := by
   rw [List.getElem?_map, List.getElem?_range hlt] at hx
   simpa using hx
  obtain ⟨⟨h0, h1, h2, h3, h4, h5, h6⟩, g1, g2, z0, z2⟩ := Classical.choose_spec (key i) hlt
  subst he
  have e := fun n => (congrArg (fun q : Addr => w.cell? (q.add n)) (addr_addR b off (i * 7))).trans (congrArg w.cell? (addr_addR b (off + i * 7) n))
  exact ⟨_, _, g1, g2, ⟨z0, z2⟩, (e 0).symm.trans h0, (e 1).symm.trans h1, (e 2).symm.trans h2, (e 3).symm.trans h3, (e 4).symm.trans h4, (e 5).symm.trans h5, (e 6).symm.trans h6⟩
end Go.Proofs.YtnmhaipjfpongacGreatDoor

namespace Go.Proofs.YtnmhaipjfpongacGreatDoor
open Go.ChangeShapes Go.WideShapes Go.ChangeAt Go.RowKit

theorem rd_pre {w : World} {a : Option Addr} {l : List B} {n cap k : Nat} (h : Rd S w (.slice a n cap) l) (hk : k ≤ l.length) : Rd S w (.slice a k cap) (l.take k) := by
 obtain ⟨a', cap', he, h1, h2, h3⟩ := h
 cases he
 refine ⟨a, cap, by rw [List.length_take, Nat.min_eq_left hk], by rw [List.length_take]; omega, h2, fun hne => ?_⟩
 obtain ⟨b, off, rfl, hc⟩ := h3 (by intro e; rw [e] at hne; simp at hne)
 refine ⟨b, off, rfl, fun i x hx => hc i x ?_⟩
 have hi := (List.getElem?_eq_some_iff.1 hx).1
 rw [List.length_take] at hi
 rwa [List.getElem?_take_of_lt (by omega)] at hx

set_option linter.unusedSimpArgs false in
set_option maxRecDepth 100000 in
set_option maxHeartbeats 16000000 in
theorem walkScriptAgain (w : World) (P : Nat → Addr) (ls : List Ln) (v0 : Value) (cut : Int) (hv0 : RdLn w v0 ls) (hcut : -9223372036854775808 ≤ cut ∧ cut ≤ 9223372036854775807) (hV : PVS w P) (hS : Sents w P) (hT : ErrTexts w P) :
  Calls Tryz.prog 11 #[v0, .int .i64 cut] w (RetE (.bool true) w) := by
 have HV := Lib.hid hV
 have HS := Lib.hid hS
 have HT := Lib.hid hT
 have HHE := Lib.hid (hello_any w P hV hS hT)
 obtain ⟨a0, q0, rfl, _, hm0, hc0⟩ := hv0
 have hr0 : ls.length ≤ 9223372036854775807 := by unfold maxLen at hm0; omega
 have H0 := Lib.hid hc0
 obtain ⟨hcut1, hcut2⟩ := hcut
 clear hV hS hT hm0 hc0
 go_enter Tryz.func11, Tryz.ntmps11
 go_wp2_with fail
 refine (HHE.out).mono ?_
 rintro e w1 ⟨rfl, ho⟩
 have HX1 := Lib.hid ho
 clear ho
 by_cases hl : (40 : Int) < (ls.length : Int)
 ·go_wp2_with fail
  go_ret
  exact ⟨rfl, HX1.out⟩
 by_cases hneg : cut < (0 : Int)
 ·go_wp2_with fail
  go_ret
  exact ⟨rfl, HX1.out⟩
 by_cases hbig : (ls.length : Int) < cut
 ·go_wp2_with fail
  go_ret
  exact ⟨rfl, HX1.out⟩
 have HL : Hid (ls.length ≤ 40) := Lib.hid (by omega)
 obtain ⟨bs, hbs⟩ : ∃ bs, bs = w1.heap.size := ⟨_, rfl⟩
 have HBS : Hid (w1.heap.size ≤ bs ∧ bs ≤ w1.heap.size) := Lib.hid ⟨by omega, by omega⟩
 clear hbs
 go_wp2_with fail
 clear hneg hbig hl
 go_loopw [6, 7, 8, 9, 10, 11] (fun q a i _ _ _ wr => ∃ (j k : Nat) (qv : Value) (own : List B), qv = q ∧ a = .int .i64 k ∧ k ≤ own.length ∧ j ≤ ls.length ∧ i = .int .i64 j ∧ own.length ≤ j ∧ Hid (Row bs wr qv own) ∧ Hid (∀ s ∈ own, s.length ≤ 999) ∧ Hid (Ext w1 wr)) (fun _ _ i _ _ _ _ => ls.length - (intOf i).toNat)
 case atStart => exact ⟨0, 0, _, [], rfl, rfl, Nat.le_refl _, Nat.zero_le _, rfl, Nat.le_refl _, Lib.hid (Row.nil _ _), Lib.hid (fun s hs => by cases hs), Lib.hid (Only.refl _ _)⟩
 case round =>
  obtain ⟨j, k, qv, own, rfl, rfl, hk, hj, rfl, hoj, HQ, HSH, HX⟩ := hrel
  have hj0 : (0 : Int) ≤ (j : Int) := by omega
  by_cases hlt : j < ls.length
  case pos =>
   have hltz : (j : Int) < (ls.length : Int) := by omega
   obtain ⟨b, off, rfl, hc⟩ := H0.out (by intro h; rw [h] at hlt; simp at hlt)
   obtain ⟨L, hL⟩ : ∃ s, ls[j]? = some s := ⟨_, List.getElem?_eq_getElem hlt⟩
   obtain ⟨pv, iv, hpv, hiv, hml, d0, d1, d2, d3, d4, d5, d6⟩ := hc j L hL
   have hx := HX1.out.then HX.out
   have e0 := hx.cellOf d0 (fun h => h)
   have e1 := hx.cellOf d1 (fun h => h)
   have e2 := hx.cellOf d2 (fun h => h)
   have e3 := hx.cellOf d3 (fun h => h)
   have e4 := hx.cellOf d4 (fun h => h)
   have e5 := hx.cellOf d5 (fun h => h)
   have e6 := hx.cellOf d6 (fun h => h)
   have HD := Lib.hid (And.intro d0 (And.intro d1 (And.intro d2 (And.intro d3 (And.intro d4 (And.intro d5 d6))))))
   have HPV := Lib.hid hpv
   have HIV := Lib.hid hiv
   have HLO := Lib.hid (longLine_any wr L pv iv (hpv.ext hx) (hiv.ext hx) hml)
   have HXR := Lib.hid hx
   have HJ := Lib.hid hlt
   have HKO := Lib.hid (And.intro hk hoj)
   clear hc hL hpv hiv hml d0 d1 d2 d3 d4 d5 d6 hx hlt hk hoj hj
   go_wp2_with fail
   refine HLO.out.mono ?_
   rintro e w2 ⟨long, rfl, hsh, ho2⟩
   have HX2 := Lib.hid (HXR.out.then ho2)
   have HXW := Lib.hid (HX.out.then ho2)
   cases long
   case true =>
    clear hsh ho2
    go_wp2_with fail
    go_ret
    exact ⟨rfl, HX2.out⟩
   case false =>
    have HLN := Lib.hid (lineOf_any w2 L pv iv (HPV.out.ext HX2.out) (HIV.out.ext HX2.out) (hsh rfl))
    replace e0 := HX2.out.cellOf HD.out.1 (fun h => h)
    replace e1 := HX2.out.cellOf HD.out.2.1 (fun h => h)
    replace e2 := HX2.out.cellOf HD.out.2.2.1 (fun h => h)
    replace e3 := HX2.out.cellOf HD.out.2.2.2.1 (fun h => h)
    replace e4 := HX2.out.cellOf HD.out.2.2.2.2.1 (fun h => h)
    replace e5 := HX2.out.cellOf HD.out.2.2.2.2.2.1 (fun h => h)
    replace e6 := HX2.out.cellOf HD.out.2.2.2.2.2.2 (fun h => h)
    have HR2 := Lib.hid (HQ.out.ext ho2)
    clear hsh ho2
    go_wp2_with fail
    refine HLN.out.mono ?_
    rintro e w3 ⟨s, is_, rfl, hsl, ho3⟩
    have HX3 := Lib.hid (HXW.out.then ho3)
    have HR3 := Lib.hid (HR2.out.ext ho3)
    have HSL := Lib.hid hsl
    clear ho3 hsl
    by_cases hjc : (j : Int) < cut
    case pos =>
     cases is_
     case true =>
      go_wp2_with (at_builtin; refine wpText rfl (.tmp 57) (.tmp 59) w1 bs qv own s w3 rfl rfl rfl rfl HR3.out (by have := HKO.out; have := HJ.out; have := HL.out; omega) (Nat.le_trans HBS.out.2 HX3.out.size) HX3.out HBS.out.1 ?_; intro g6 cap6 w6 HR6 HX6 _)
      go_roundw
      case rel => exact ⟨j + 1, own.length + 1, _, own ++ [s], rfl, by first | rfl | go_num, by rw [List.length_append]; exact Nat.le_refl _, HJ.out, by go_num, by rw [List.length_append]; have := HKO.out.2; simp; omega, HR6, Lib.hid (fun q hq => by
       rcases List.mem_append.1 hq with hq | hq
       ·exact HSH.out q hq
       ·rw [List.mem_singleton.1 hq]; exact HSL.out), HX6⟩
      case measure => have := HJ.out; simp [intOf]; omega
     case false =>
      obtain ⟨aq, cq, rfl, _⟩ := Row.rd HR3.out
      go_wp2_with fail
      go_roundw
      case rel => exact ⟨j + 1, own.length, _, own, rfl, by first | rfl | go_num, Nat.le_refl _, HJ.out, by go_num, by have := HKO.out.2; omega, HR3, HSH, HX3⟩
      case measure => have := HJ.out; simp [intOf]; omega
    case neg =>
     cases is_
     case true =>
      go_wp2_with (at_builtin; refine wpText rfl (.tmp 57) (.tmp 59) w1 bs qv own s w3 rfl rfl rfl rfl HR3.out (by have := HKO.out; have := HJ.out; have := HL.out; omega) (Nat.le_trans HBS.out.2 HX3.out.size) HX3.out HBS.out.1 ?_; intro g6 cap6 w6 HR6 HX6 _)
      go_roundw
      case rel => exact ⟨j + 1, k, _, own ++ [s], rfl, by first | rfl | go_num, by rw [List.length_append]; have := HKO.out.1; omega, HJ.out, by go_num, by rw [List.length_append]; have := HKO.out.2; simp; omega, HR6, Lib.hid (fun q hq => by
       rcases List.mem_append.1 hq with hq | hq
       ·exact HSH.out q hq
       ·rw [List.mem_singleton.1 hq]; exact HSL.out), HX6⟩
      case measure => have := HJ.out; simp [intOf]; omega
     case false =>
      go_wp2_with fail
      go_roundw
      case rel => exact ⟨j + 1, k, _, own, rfl, by first | rfl | go_num, HKO.out.1, HJ.out, by go_num, by have := HKO.out.2; omega, HR3, HSH, HX3⟩
      case measure => have := HJ.out; simp [intOf]; omega
  case neg =>
   have hltz : ¬ (j : Int) < (ls.length : Int) := by omega
   have HON := Lib.hid (show own.length ≤ 40 by have := HL.out; omega)
   have HK := Lib.hid hk
   have hkz : (k : Int) ≤ (own.length : Int) := by omega
   have hk0 : (0 : Int) ≤ (k : Int) := by omega
   have hoz : (own.length : Int) ≤ 40 := by have := HON.out; omega
   have HXR := Lib.hid (HX1.out.then HX.out)
   have HRQ := Lib.hid (Row.rd HQ.out)
   have hnz := Row.nz HQ.out
   obtain ⟨aq, cq, rfl, hcq, hmq, _⟩ := Row.rd HQ.out
   have hcz : (k : Int) ≤ (cq : Int) := by omega
   have hcz0 : (own.length : Int) ≤ (cq : Int) := by omega
   have hml : (cq : Int) ≤ 9223372036854775807 := by unfold maxLen at hmq; omega
   obtain ⟨O, hO⟩ : ∃ O, O = (runS ⟨⟨[], [], []⟩, []⟩ own).2 := ⟨_, rfl⟩
   have hOl : O.length = own.length := by rw [hO]; exact runS_len _ _
   have HOT : Hid ((runS ⟨⟨[], [], []⟩, []⟩ (own.take k)).2 = O.take k) := Lib.hid (by rw [hO]; exact runS_take _ _ _)
   have HOL := Lib.hid hOl
   have HRN : Hid (∀ W v (hv : Rd S W v own), Ext w W → Calls Tryz.prog 86 #[v] W (RetRun O W)) := Lib.hid (fun W v hv hx => by rw [hO]; exact scriptRun_any W P v own hv (by have := HON.out; omega) HSH.out (HV.out.ext hx) (HS.out.ext hx) (HT.out.ext hx))
   have HRT : Hid (∀ W v (hv : Rd S W v (own.take k)), Ext w W → Calls Tryz.prog 86 #[v] W (RetRun (O.take k) W)) := Lib.hid (fun W v hv hx => by rw [← HOT.out]; exact scriptRun_any W P v (own.take k) hv (by rw [List.length_take]; have := HON.out; omega) (fun s hs => HSH.out s (List.mem_of_mem_take hs)) (HV.out.ext hx) (HS.out.ext hx) (HT.out.ext hx))
   clear hlt hj hoj hk hcq hmq hO hOl
   go_wp2_with (at_builtin; refine wpTexts rfl (.tmp 67) (.tmp 68) wr wr.heap.size (.slice none 0 0) _ [] own wr rfl rfl rfl rfl HRQ.out hnz (Row.nil _ _) (by have := HON.out; simp; omega) (Nat.le_refl _) (Only.refl _ _) (Nat.le_refl _) ?_; intro ao m cap4 w4 hm HR4 HX4 _)
   have HX5 := Lib.hid (HXR.out.then HX4.out)
   have h4 := Row.rd HR4.out
   rw [hm, List.nil_append] at h4
   refine (HRN.out w4 _ h4 HX5.out).mono ?_
   rintro e w5 ⟨va, rfl, hra, ho5⟩
   have HX6 := Lib.hid (HX5.out.then ho5)
   have HRA := Lib.hid hra
   have HQ6 := Lib.hid (HRQ.out.ext (HX4.out.then ho5))
   clear hra ho5 h4
   go_wp2_with fail
   refine (HRT.out w5 _ (rd_pre HQ6.out HK.out) HX6.out).mono ?_
   rintro e w6 ⟨vb, rfl, hrb, ho6⟩
   have HX7 := Lib.hid (HX6.out.then ho6)
   have hA := (Row.rd HRA.out).ext ho6
   have hB := Row.rd hrb
   obtain ⟨aa, ca, ea, hca, hma, _⟩ := id hA
   rw [HOL.out] at ea
   subst ea
   obtain ⟨ab, cb, eb, hcb, hmb, _⟩ := id hB
   rw [List.length_take, HOL.out, Nat.min_eq_left HK.out] at eb
   subst eb
   have hst := sameTexts_any w6 _ _ (O.take k) (O.take k) (rd_pre hA (by rw [HOL.out]; exact HK.out)) hB
   rw [beq_self_eq_true] at hst
   have HST := Lib.hid hst
   rw [HOL.out] at hca
   have hcaz : (own.length : Int) ≤ (ca : Int) := by omega
   have hcak : (k : Int) ≤ (ca : Int) := by omega
   have hcam : (ca : Int) ≤ 9223372036854775807 := by unfold maxLen at hma; omega
   clear hrb ho6 hA hB hca hma hcb hmb hst
   go_wp2_with fail
   refine HST.out.mono ?_
   rintro e w7 ⟨rfl, hd⟩
   have HX8 := Lib.hid (HX7.out.then hd.ext)
   clear hd
   go_wp2_with fail
   go_ret
   exact ⟨rfl, HX8.out⟩
end Go.Proofs.YtnmhaipjfpongacGreatDoor

namespace Go.Proofs.YtnmhaipjfpongacGreatDoor
theorem prog_laidOut : laidOutB Tryz.pinned.checked.prog = true := by kernel_rfl
theorem prog_mapsRowed : mapsRowed Tryz.pinned.checked.prog = true := by kernel_rfl
theorem prog_stops : (Tryz.pinned.checked.prog.stops == []) = true := by kernel_rfl
theorem prog_stopKnobs : (Tryz.pinned.checked.prog.stopKnobs == []) = true := by kernel_rfl
theorem prog_stopsHeard : Tryz.pinned.checked.prog.stopsHeard = true := by kernel_rfl
theorem prog_mayEnter : Tryz.pinned.checked.prog.mayEnter = true := by kernel_rfl
end Go.Proofs.YtnmhaipjfpongacGreatDoor

namespace Go.Proofs.YtnmhaipjfpongacGreatDoor.scriptAgainFacts
theorem k0 : Rows.scriptAgainRow.wf (OpenSpec.ofChange Rows.scriptAgainSpec) = true := by kernel_rfl
theorem k3 : Tryz.f11.params.all (Tryz.pinned.checked.prog.readableRec ·) = true := by kernel_rfl
theorem k4 : namedTie Tryz.pinned.checked.prog Rows.scriptAgainRow.named Rows.scriptAgainSpec.vars = true := by kernel_rfl
theorem k5 : (Rows.scriptAgainRow.stops == []) = true := by kernel_rfl
theorem k7 : (Rows.scriptAgainRow.knobs == []) = true := by kernel_rfl
theorem k9 : (Rows.scriptAgainRow.inPlace == Tryz.pinned.checked.prog.inPlace 11) = true := by kernel_rfl
theorem k10 : (Rows.scriptAgainRow.unfollowed == Tryz.pinned.checked.prog.unfollowed 11) = true := by kernel_rfl
theorem k11 : (Rows.scriptAgainRow.recurses == Tryz.pinned.checked.prog.recurses 11) = true := by kernel_rfl
theorem k12 : (Rows.scriptAgainRow.named == Tryz.pinned.checked.prog.varsNamed 11) = true := by kernel_rfl
theorem k13 : (Rows.scriptAgainRow.maps == (Tryz.f11.params.toList ++ Rows.scriptAgainSpec.plain.varTypes Tryz.pinned.checked.prog).any (Tryz.pinned.checked.prog.mapsRec ·)) = true := by kernel_rfl
theorem k14 : (Rows.scriptAgainRow.ifaces == (Tryz.f11.params.toList ++ Rows.scriptAgainSpec.plain.varTypes Tryz.pinned.checked.prog).any (Tryz.pinned.checked.prog.ifacesRec ·)) = true := by kernel_rfl
theorem k15 : (Rows.scriptAgainRow.mapsOut == Tryz.pinned.checked.prog.mapsAmong Tryz.f11.resultTypes.toList) = true := by kernel_rfl
theorem k16 : (Rows.scriptAgainRow.loops == (Tryz.f11.params.toList ++ Rows.scriptAgainSpec.plain.varTypes Tryz.pinned.checked.prog).any (Tryz.pinned.checked.prog.loopsFrom ·)) = true := by kernel_rfl
theorem k17 : (Rows.scriptAgainRow.wideKeys == (Tryz.f11.params.toList ++ Rows.scriptAgainSpec.plain.varTypes Tryz.pinned.checked.prog ++ Tryz.f11.resultTypes.toList).any (Tryz.pinned.checked.prog.wideKeysFrom ·)) = true := by kernel_rfl
theorem k18 : Rows.scriptAgainSpec.vars.all (Tryz.pinned.checked.prog.varReadable ·) = true := by kernel_rfl
theorem k19 : Tryz.f11.resultTypes.all (fun t => Tryz.pinned.checked.prog.readableRec t && decide (t < Tryz.pinned.checked.prog.types.size)) = true := by kernel_rfl
theorem k20 : (Rows.scriptAgainRow.ifacesOut == Tryz.f11.resultTypes.toList.any (Tryz.pinned.checked.prog.ifacesRec ·)) = true := by kernel_rfl
theorem k21 : (Rows.scriptAgainRow.loopsOut == Tryz.f11.resultTypes.toList.any (Tryz.pinned.checked.prog.loopsFrom ·)) = true := by kernel_rfl
theorem k22 : (Rows.scriptAgainRow.plainKeys == Tryz.pinned.checked.prog.plainKeys) = true := by kernel_rfl
theorem k23 : Rows.scriptAgainRow.shortTexts.isNone = true := by kernel_rfl
theorem k26 : (Rows.scriptAgainRow.lifted == Tryz.pinned.checked.prog.liftsFinal) = true := by kernel_rfl
theorem k27 : (Tryz.pinned.checked.prog.make == some Rows.scriptAgainRow.make) = true := by kernel_rfl
theorem k28 : (Rows.scriptAgainRow.kinds == (if Rows.scriptAgainRow.domain.isEmpty then [] else Tryz.f11.params.toList.map fun t => match Tryz.pinned.checked.prog.underlying t with | some (.int k) => some k | _ => none)) = true := by kernel_rfl
theorem k29 : (Rows.scriptAgainRow.pinned == Rows.scriptAgainRow.pinnedBy) = true := by kernel_rfl
theorem k30 : (Rows.scriptAgainRow.veiled == (Tryz.f11.params.toList ++ Rows.scriptAgainSpec.plain.varTypes Tryz.pinned.checked.prog ++ Tryz.f11.resultTypes.toList).any (Tryz.pinned.checked.prog.veiledRec ·)) = true := by kernel_rfl
theorem k31 : Rows.scriptAgainRow.veiledFits Tryz.pinned.checked.prog Tryz.f11.params.toList (Tryz.f11.params.toList ++ Rows.scriptAgainSpec.plain.varTypes Tryz.pinned.checked.prog ++ Tryz.f11.resultTypes.toList) = true := by kernel_rfl
set_option maxRecDepth 100000 in
theorem facts : joinedFacts Tryz.pinned.checked.prog 11 Tryz.f11 Rows.scriptAgainSpec Rows.scriptAgainRow = true := by
 unfold joinedFacts
 simp only [Bool.and_eq_true]
 repeat' apply And.intro
 ·exact k0
 ·exact prog_laidOut
 ·exact prog_mapsRowed
 ·exact k3
 ·exact k4
 ·exact k5
 ·exact prog_stops
 ·exact k7
 ·exact prog_stopKnobs
 ·exact k9
 ·exact k10
 ·exact k11
 ·exact k12
 ·exact k13
 ·exact k14
 ·exact k15
 ·exact k16
 ·exact k17
 ·exact k18
 ·exact k19
 ·exact k20
 ·exact k21
 ·exact k22
 ·exact k23
 ·exact prog_stopsHeard
 ·exact prog_mayEnter
 ·exact k26
 ·exact k27
 ·exact k28
 ·exact k29
 ·exact k30
 ·exact k31
end Go.Proofs.YtnmhaipjfpongacGreatDoor.scriptAgainFacts

namespace Go.Proofs.YtnmhaipjfpongacGreatDoor.scriptAgainDone
open Go.ChangeShapes Go.WideShapes Go.ChangeAt Go.RowKit

theorem own : ownKnob Tryz.prog.godebug = none := by kernel_rfl
theorem laidOut : laidOutB Tryz.prog = true := by kernel_rfl

theorem max_of {W : World} (h : W.ShapedOpen Tryz.prog) : HasMax W :=
 cell_of_shapedOpen_int (zero := #[.int .i64 0]) (t := 3) h (of_decide_eq_true (by kernel_rfl)) (by kernel_rfl) rfl (by kernel_rfl) (by kernel_rfl) Tryz.underlying3

theorem sents {W : World} (h : laidMetH Tryz.prog Rows.scriptAgainRow.laid W) : ∃ p, Sents W p := by
 have h' : laidMet Tryz.prog (Rows.scriptAgainRow.laid.filter fun x => x.2.handleName?.isNone) W ∧ handlesMet Tryz.prog (Rows.scriptAgainRow.laid.filter fun x => x.2.handleName?.isSome) W := h
 exact sents_of h'.1 h'.2 (by decide +kernel) (by decide +kernel) (List.mem_cons_self ..)

theorem words {W : World} {p : Nat → Addr} (h : laidMetH Tryz.prog Rows.scriptAgainRow.laid W) (hs : Sents W p) : ErrTexts W p := by
 have h' : laidMet Tryz.prog (Rows.scriptAgainRow.laid.filter fun x => x.2.handleName?.isNone) W ∧ handlesMet Tryz.prog (Rows.scriptAgainRow.laid.filter fun x => x.2.handleName?.isSome) W := h
 exact texts_of h'.1 hs (by decide +kernel)

theorem pow_of {W : World} (h : laidMetH Tryz.prog Rows.scriptAgainRow.laid W) : Pow W := by
 have h' : laidMet Tryz.prog (Rows.scriptAgainRow.laid.filter fun x => x.2.handleName?.isNone) W ∧ handlesMet Tryz.prog (Rows.scriptAgainRow.laid.filter fun x => x.2.handleName?.isSome) W := h
 have h2 := (h'.1).tail.tail
 exact Lib.tabIs_of_head (g := 13) (by kernel_rfl) (by kernel_rfl) Tryz.underlying359 Tryz.underlying309 (by kernel_rfl) (by kernel_rfl) h2

theorem atoi_of {W : World} (h : laidMetH Tryz.prog Rows.scriptAgainRow.laid W) : AtoiVars W := by
 have h' : laidMet Tryz.prog (Rows.scriptAgainRow.laid.filter fun x => x.2.handleName?.isNone) W ∧ handlesMet Tryz.prog (Rows.scriptAgainRow.laid.filter fun x => x.2.handleName?.isSome) W := h
 obtain ⟨a1, e1⟩ := one_of_laid h'.1 (n := "strconv.ErrSyntax") (g := 17) (by kernel_rfl) (by kernel_rfl) (by decide +kernel)
 obtain ⟨a2, e2⟩ := one_of_laid h'.1 (n := "strconv.ErrRange") (g := 18) (by kernel_rfl) (by kernel_rfl) (by decide +kernel)
 exact ⟨⟨_, _, e1⟩, _, _, e2⟩

theorem start_met (os : Os) (args : Array Value) : laidMetH Tryz.prog Rows.scriptAgainRow.laid (((World.doorLaid Tryz.prog 400 os).layVars Tryz.prog (Rows.scriptAgainRow.laid.filter fun x => x.2.handleName?.isNone)).forCall (fun _ _ => 0) ⟨#[], args, []⟩).memory :=
 laidMetH_of_parts3 (fuel := 8) (laidMet_over args (by kernel_rfl) (by kernel_rfl)) (by kernel_rfl) (by kernel_rfl)

set_option maxRecDepth 100000 in
theorem lifted (os : Os) (started : os.Started) (H : Type) (enc : TypeId × Value → H) :
  ReturnsInHanded {} Tryz.checked os 11 .any (fun w args => (Rows.scriptAgainSpec.pre enc Tryz.prog Tryz.f11 [] false w args ∧ laidMetH Tryz.prog Rows.scriptAgainRow.laid w) ∧ sizedMet enc Tryz.prog Tryz.f11 (OpenSpec.ofChange Rows.scriptAgainSpec) false w args)
   (Rows.scriptAgainSpec.post enc Tryz.prog Tryz.f11 false true false false) := by
 refine handed_both (C := Tryz.checked) (X := fun w _ => laidMetH Tryz.prog Rows.scriptAgainRow.laid w) (fun _ _ _ hh h => h.of_heap hh) own started (by kernel_rfl) Tryz.func11
  (ChangeSpec.witness_shaped (enc := enc) (C := Tryz.checked) (os := os) (X := fun w _ => laidMetH Tryz.prog Rows.scriptAgainRow.laid w) false ((World.doorLaid Tryz.prog 400 os).layVars Tryz.prog (Rows.scriptAgainRow.laid.filter fun x => x.2.handleName?.isNone)) #[.slice none 0 0, .int .i64 0] 8 (World.layVars_os _ _ _) (World.shaped_of_ZipB (by kernel_rfl) (by kernel_rfl)) (by kernel_rfl) (by kernel_rfl) (by kernel_rfl) (start_met os _)) ?_
 intro W base args ds gs before hval0 hW _ hsz0 hL hsh _
 have hval : ∀ (j : Nat) t v, Tryz.f11.params[j]? = some t → args[j]? = some v → Value.okWide Tryz.prog W .any base t v := hval0
 have hsz : (DataW.weightsEach Tryz.prog (Tryz.f11.params.toList ++ Rows.scriptAgainSpec.plain.varTypes Tryz.prog) (ds ++ gs)).all (· ≤ reachBytes) = true := hsz0
 clear hsz0
 have hW' := hW
 obtain ⟨p, q, hA0, hV, rfl, hfz, hnd⟩ := hW
 have hA : DataW.TrodAll enc Tryz.prog W 0 (fun _ => true) true Tryz.f11.params.toList args.toList ds p := hA0
 rw [Tryz.params11] at hA hval hsz
 obtain ⟨v0, vs0, d0, ds0, p0, q0, hargs, rfl, rfl, h0, r0⟩ := trodAll_cons hA
 obtain ⟨v1, vs1, d1, ds1, p1, q1, rfl, rfl, rfl, h1, r1⟩ := trodAll_cons r0
 obtain ⟨rfl, rfl, rfl⟩ := trodAll_nil r1
 obtain rfl : args = #[v0, v1] := by cases args; simp_all
 obtain ⟨rfl, rfl⟩ := trodVars_none hV
 have k0 := h0
 have lt0 : ∀ x ∈ p0, x.block < W.heap.size := by obtain ⟨m, hm⟩ := k0; exact DataW.trod_lt m _ _ _ hm
 have rc0 := reach_arg hsz (j := 0) (t := 133) (d := d0) rfl rfl
 obtain ⟨a0, len0, cap0, rfl⟩ := okWide_slice Tryz.underlying133 (hval 0 133 v0 rfl rfl)
 obtain ⟨fuel0, hf0⟩ := h0
 obtain ⟨l0, hlen0, rd0, rb0⟩ := open_lines (x := (d0, p0)) (by simpa [Value.cells] using hf0) rc0
 obtain ⟨z1, rfl, rfl, rfl, wz1⟩ := open_int Tryz.underlying3 (hval 1 3 v1 rfl rfl) h1
 clear hA0 hval0
 simp only [List.append_nil] at hW'
 obtain ⟨pt, hs⟩ := sents hL
 have hwd := words hL hs
 have hmax := max_of hsh
 have hav := atoi_of hL
 have hpow := pow_of hL
 have walk : Calls Tryz.prog 11 #[.slice a0 len0 cap0, .int .i64 z1] W fun e w' => e = .returned (.bool true) ∧ Ext W w' :=
  walkScriptAgain W pt l0 _ z1 rd0 (by simpa [Lit.wf, IntKind.min, IntKind.max, IntKind.bits, IntKind.signed] using wz1) ⟨hs.errs _, hmax, hav, hpow⟩ hs hwd
 refine walk.mono fun e W' ⟨he, hext⟩ => ?_
 subst he
 have bel := hext.extBelow
 exact ⟨_, rfl, _, _, _, [], _, [], hW', trodAll_mk1 (shut_bool Tryz.underlying4 _), (trodAll_cons_mk (Below.trod laidOut (by kernel_rfl) (of_decide_eq_true (by kernel_rfl)) k0 bel lt0) (trodAll_cons_mk (shut_int Tryz.underlying3 wz1) trodAll_mk0)), rfl, bel.frame _, fun h => by cases h⟩

theorem fnNamed : Tryz.pinned.checked.prog.funcNamed Rows.scriptAgainRow.func = some 11 := by kernel_rfl
theorem facts : joinedFacts Tryz.pinned.checked.prog 11 Tryz.f11 Rows.scriptAgainSpec Rows.scriptAgainRow = true := scriptAgainFacts.facts
theorem inst : Tryz.f11.isInstance Tryz.pinned.checked.prog Rows.scriptAgainRow.origin Rows.scriptAgainRow.targs := of_decide_eq_true (by kernel_rfl)
theorem wrap : Tryz.f11.isWrapper Tryz.pinned.checked.prog Rows.scriptAgainRow.wrapper Rows.scriptAgainRow.mainSum := by
 unfold Func.isWrapper
 first | (rw [if_pos (by decide +kernel)]; kernel_rfl) | (rw [if_neg (by decide +kernel)]; exact ⟨rfl, rfl⟩)
theorem said : Rows.ScriptAgainSaid :=
 OpenClaim.holds_of_wide 11 Tryz.f11 rfl rfl rfl rfl rfl rfl rfl ⟨rfl, rfl, rfl, rfl, rfl⟩ rfl rfl rfl rfl rfl fnNamed Tryz.func11 facts
  inst wrap (fun os started H enc _ => lifted os started H enc)
end Go.Proofs.YtnmhaipjfpongacGreatDoor.scriptAgainDone
