/- Texts of this seat laid together for one claim: F3, F4. No condition of its own: what each proves stands with its theorems. -/
import Derived.Test.YtnmhaipjfpongacGreatDoorSA10
namespace Go.Proofs.YtnmhaipjfpongacGreatDoor
open Go.ChangeShapes Go.WideShapes Go.ChangeAt Go.RowKit

theorem ext_own {w w2 w3 : World} {v : Value} (h : Ext w w2) (ho : Only (fun i => v.ownBlock = some i) w2 w3) (hr : ∀ i, v.ownBlock = some i → w.heap.size ≤ i) : Ext w w3 :=
 h.trans ho (fun _ _ h => h) fun i hi e => by have := hr i e; omega

theorem contains_any (w : World) (s d : B) (hs : s.length ≤ 1000000) (hm : HasMax w) :
  Calls Tryz.prog 302 #[S s, S d] w fun e w' => e = .returned (.bool (Lib.contains s d)) ∧ w = w' := by
 obtain ⟨m, hm⟩ := hm
 refine (Tryz.strings_Contains ⟨s.toArray⟩ ⟨d.toArray⟩ m w (by simp [ByteArray.size]; omega) hm).mono ?_
 rintro e w' ⟨rfl, rfl⟩
 exact ⟨rfl, rfl⟩

theorem enters_lines1 : ∀ args w, (callFunc 301 args).run Tryz.prog w = .ok (.enter 301 args) w := fun args w => by kernel_rfl

theorem lines1_tests (b : Nat) (k : B) (l : List B) (w : World) (h : w.cell? ⟨b, 0, none⟩ = some (S k)) (hm : HasMax w) (hl : ∀ x ∈ l, x.length ≤ 1000000) :
  TestsOn l 301 #[.pointer (some ⟨b, 0, none⟩)] (fun s => !hasB k s) w := by
 intro x hx
 have HC := Lib.hid (contains_any w x k (hl x hx) hm)
 obtain ⟨r, hr⟩ : ∃ r, r = Lib.contains x k := ⟨_, rfl⟩
 have hr2 : hasB k x = r := hr.symm
 show Calls _ _ _ _ fun e w' => e = .returned (.bool (!hasB k x)) ∧ w = w'
 rw [hr2]
 rw [← hr] at HC
 clear hr hr2 hm hl hx
 go_enter Tryz.func301, Tryz.ntmps301
 go_wp2_with fail
 refine (HC.out).mono ?_
 rintro e w' ⟨rfl, rfl⟩
 go_wp2_with fail
 go_ret
 exact ⟨rfl, rfl⟩

set_option maxRecDepth 100000 in
set_option maxHeartbeats 2000000 in
theorem actLines_any (w : World) (wd x : B) (l : List B) (v : Value) (hv : Rd S w v (x :: l)) (hx : x.length ≤ 900000) (hm : HasMax w) :
  Calls Tryz.prog 260 #[S wd, v] w (RetE (S (endedB ((linesB x).filter (hasB wd)))) w) := by
 obtain ⟨b, off, cap, rfl, hc, hln⟩ := rd_head hv
 have hlz : (0 : Int) < ((l.length + 1 : Nat) : Int) := by omega
 have hx0 : Ext w (w.alloc (.cells #[S wd] 9 (0, 0))) := Only.alloc _ _ _
 have hq0 : (w.alloc (.cells #[S wd] 9 (0, 0))).cell? ⟨w.heap.size, 0, none⟩ = some (S wd) := (cell_of_heap (MapKept.heap_alloc w _).1 0).trans rfl
 have hs0 : (w.alloc (.cells #[S wd] 9 (0, 0))).heap.size = w.heap.size + 1 := by simp
 have HLI := Lib.hid (lines_any (w.alloc (.cells #[S wd] 9 (0, 0))) x hx (hm.ext hx0))
 have hee : (endedB (linesB x)).length ≤ 900001 := by have := ended_lines x; omega
 have HE := Lib.hid hee
 have hcA := hx0.cellOf hc (fun h => h)
 have HX0 := Lib.hid hx0
 have HQ0 := Lib.hid hq0
 have HS0 := Lib.hid hs0
 have HM := Lib.hid hm
 clear hx0 hq0 hs0 hm
 clear hv hx hee
 go_enter Tryz.func260, Tryz.ntmps260
 go_wp2_with fail
 refine (HLI.out).mono ?_
 rintro e w2 ⟨v2, rfl, ho, hr⟩
 have HX2 := Lib.hid (HX0.out.then ho)
 have HQ2 := Lib.hid (ho.cellOf HQ0.out (fun h => h))
 have HR := Lib.hid hr
 have HO := Lib.hid ho
 clear hr ho
 obtain ⟨g, hg⟩ : ∃ g, g = w.heap.size := ⟨_, rfl⟩
 have HG := Lib.hid hg
 rw [← hg] at HQ2 ⊢
 rw [HS0.out, ← hg] at HR
 clear hg
 have hdel := deleteFunc_on 301 (.pointer (some ⟨g, 0, none⟩)) (fun s => !hasB wd s) w2 (g + 1) v2 (linesB x) HR.out enters_lines1
  (fun w' hw' => lines1_tests g wd (linesB x) w' (hw'.cellOf HQ2.out (fun e => absurd (HR.out.base g e) (by omega))) ((HM.out.ext HX2.out).elim fun m h => ⟨m, hw'.cellOf h (fun e => by
   have h1 := HR.out.base _ e
   have h2 := lt_of_cell (HM.out.choose_spec)
   have := HG.out
   exact absurd h2 (by omega))⟩) (fun y hy => by have := ended_mem hy; have := HE.out; omega))
 have hff : (linesB x).filter (fun s => !(!hasB wd s)) = (linesB x).filter (hasB wd) := by congr 1; funext s; simp
 rw [hff] at hdel
 have HD := Lib.hid hdel
 clear hdel hff
 go_wp2_with fail
 refine (HD.out).mono ?_
 rintro e w3 ⟨v3, rfl, hr3, ho3, hb3⟩
 have HX3 := Lib.hid (ext_own HX2.out ho3 (fun i e => by have := HR.out.base i e; have := HG.out; omega))
 have HR3 := Lib.hid hr3
 clear hr3 ho3 hb3
 go_wp2_with fail
 refine (ended_any w3 v3 _ (Row.rd HR3.out) (by have := ended_sub (List.filter_sublist (l := linesB x) (p := hasB wd)); have := HE.out; omega)).mono ?_
 rintro e w4 ⟨rfl, ho4⟩
 have HX4 := Lib.hid (HX3.out.then ho4)
 clear ho4
 go_wp2_with fail
 go_ret
 exact ⟨rfl, HX4.out⟩

theorem compact_sublist (l : List B) : (Lib.compact l).Sublist l := by
 have h1 : ((List.range l.length).filter (Lib.keeps l.toArray)).Sublist (List.range l.length) := List.filter_sublist
 have h2 := h1.map (fun i => l.toArray[i]!)
 have h3 := Lib.range_map_get l.toArray
 rw [List.size_toArray] at h3
 rw [h3] at h2
 exact h2

theorem sorted_sub (wd : B) (l : List B) : (endedB (sortedB wd l)).length ≤ (endedB l).length := by
 unfold sortedB
 have hp : (endedB (sortB l)).length = (endedB l).length := ended_perm (List.mergeSort_perm _ _)
 split
 ·exact Nat.le_trans (ended_sub (compact_sublist _)) (Nat.le_of_eq hp)
 ·exact Nat.le_of_eq hp

set_option maxRecDepth 100000 in
set_option maxHeartbeats 2000000 in
theorem sorted_any (w : World) (wd : B) (l : List B) (v : Value) (hv : Rd S w v l) (hb : sumLen l + l.length ≤ 900000) (hm : HasMax w) :
  Calls Tryz.prog 262 #[S wd, v] w (RetE (S (endedB (sortedB wd (allB l)))) w) := by
 have HA := Lib.hid (all_any w v l hv hb hm)
 have hel : (endedB (allB l)).length ≤ 900000 := by have := ended_all l; omega
 have hll := len_ended (allB l)
 generalize allB l = L at *
 have HE := Lib.hid hel
 have HLL : Hid (L.length ≤ 1000000) := Lib.hid (by omega)
 have HSL := Lib.hid (sorted_sub wd L)
 have hsl : (sortB L).length = L.length := List.length_mergeSort _
 obtain ⟨T, hT⟩ : ∃ T, T = sortedB wd L := ⟨_, rfl⟩
 by_cases hw : wd = [111, 110, 99, 101]
 ·have hwz : (wd == [111, 110, 99, 101]) = true := beq_iff_eq.2 hw
  have ht : T = Lib.compact (sortB L) := by rw [hT]; exact if_pos hw
  rw [← hT] at HSL ⊢
  have HT := Lib.hid ht
  have HSS := Lib.hid hsl
  clear ht hsl
  clear hv hb hm hel hll hw hT
  go_enter Tryz.func262, Tryz.ntmps262
  go_wp2_with fail
  refine (HA.out).mono ?_
  rintro e w1 ⟨v1, rfl, ho, hr⟩
  have HX1 := Lib.hid ho
  have HR1 := Lib.hid hr
  clear ho hr
  go_wp2_with fail
  refine (sort_row w1 w.heap.size v1 L HR1.out HLL.out).mono ?_
  rintro e w2 ⟨rfl, hr2, ho2⟩
  have HX2 := Lib.hid (ext_own HX1.out ho2 HR1.out.base)
  have HR2 := Lib.hid hr2
  clear hr2 ho2
  go_wp2_with fail
  refine (compact_row w2 w.heap.size v1 (sortB L) HR2.out (by rw [HSS.out]; exact HLL.out)).mono ?_
  rintro e w3 ⟨v3, rfl, hr3, ho3⟩
  have HX3 := Lib.hid (ext_own HX2.out ho3 HR2.out.base)
  have HR3 := Lib.hid hr3
  clear hr3 ho3
  rw [← HT.out] at HR3
  go_wp2_with fail
  refine (ended_any w3 v3 _ (Row.rd HR3.out) (by have := HSL.out; have := HE.out; omega)).mono ?_
  rintro e w4 ⟨rfl, ho4⟩
  have HX4 := Lib.hid (HX3.out.then ho4)
  clear ho4
  go_wp2_with fail
  go_ret
  exact ⟨rfl, HX4.out⟩
 ·have hwz : (wd == [111, 110, 99, 101]) = false := beq_eq_false_iff_ne.2 hw
  have ht : T = sortB L := by rw [hT]; exact if_neg hw
  rw [← hT] at HSL ⊢
  have HT := Lib.hid ht
  have HSS := Lib.hid hsl
  clear ht hsl
  clear hv hb hm hel hll hw hT
  go_enter Tryz.func262, Tryz.ntmps262
  go_wp2_with fail
  refine (HA.out).mono ?_
  rintro e w1 ⟨v1, rfl, ho, hr⟩
  have HX1 := Lib.hid ho
  have HR1 := Lib.hid hr
  clear ho hr
  go_wp2_with fail
  refine (sort_row w1 w.heap.size v1 L HR1.out HLL.out).mono ?_
  rintro e w2 ⟨rfl, hr2, ho2⟩
  have HX2 := Lib.hid (ext_own HX1.out ho2 HR1.out.base)
  have HR2 := Lib.hid hr2
  clear hr2 ho2
  rw [← HT.out] at HR2
  go_wp2_with fail
  refine (ended_any w2 v1 _ (Row.rd HR2.out) (by have := HSL.out; have := HE.out; omega)).mono ?_
  rintro e w4 ⟨rfl, ho4⟩
  have HX4 := Lib.hid (HX2.out.then ho4)
  clear ho4
  go_wp2_with fail
  go_ret
  exact ⟨rfl, HX4.out⟩

theorem count_ba (d1 d2 : B) : ((⟨d1.toArray⟩ : ByteArray) ++ ⟨#[32]⟩ ++ ⟨d2.toArray⟩ ++ ⟨#[10]⟩) = ⟨(d1 ++ 32 :: d2 ++ [10]).toArray⟩ := by
 rw [show (⟨#[32]⟩ : ByteArray) = ⟨([32] : B).toArray⟩ from rfl, show (⟨#[10]⟩ : ByteArray) = ⟨([10] : B).toArray⟩ from rfl]
 simp only [ba_app]
 simp

set_option maxRecDepth 100000 in
set_option maxHeartbeats 2000000 in
theorem count_any (w : World) (wd : B) (l : List B) (v : Value) (hv : Rd S w v l) (hb : sumLen l + l.length ≤ 900000) (hm : HasMax w) (hp : Pow w) :
  Calls Tryz.prog 263 #[S wd, v] w (RetE (S (Lib.decDigits (allB l).length ++ 32 :: Lib.decDigits (sumLen l) ++ [10])) w) := by
 have HA := Lib.hid (all_any w v l hv hb hm)
 have hll : (allB l).length ≤ 900000 := by have := ended_all l; have := len_ended (allB l); omega
 have HI := Lib.hid (fun W (hW : Ext w W) (n : Nat) (hn : n ≤ 900000) => itoa_any W n (by omega) (hp.ext hW))
 have HST := Lib.hid (fun j => sum_take l j)
 have hsl : sumLen l ≤ 900000 := by omega
 obtain ⟨a, cap, rfl, hcap, hml, hc⟩ := hv
 have hlm : (l.length : Int) ≤ 900000 := by omega
 obtain ⟨N, hN⟩ : ∃ N, N = sumLen l := ⟨_, rfl⟩
 obtain ⟨L, hL⟩ : ∃ L, L = allB l := ⟨_, rfl⟩
 rw [← hL] at hll HA ⊢
 rw [← hN] at hsl ⊢
 have hd1 := dec_le L.length (by omega)
 have hd2 := dec_le N (by omega)
 have HNL := Lib.hid hN
 have HB := Lib.hid (count_ba (Lib.decDigits L.length) (Lib.decDigits N))
 generalize Lib.decDigits L.length ++ 32 :: Lib.decDigits N ++ [10] = R at HB ⊢
 have HI1 := Lib.hid (fun W (hW : Ext w W) => HI.out W hW L.length hll)
 have HI2 := Lib.hid (fun W (hW : Ext w W) => HI.out W hW N hsl)
 obtain ⟨d1, hD1⟩ : ∃ d, d = Lib.decDigits L.length := ⟨_, rfl⟩
 obtain ⟨d2, hD2⟩ : ∃ d, d = Lib.decDigits N := ⟨_, rfl⟩
 rw [← hD1] at HB HI1 hd1
 rw [← hD2] at HB HI2 hd2
 have q1 : ¬ 9223372036854775807 < d1.length + 1 := by omega
 have q2 : ¬ 9223372036854775807 < d1.length + 1 + d2.length := by omega
 have q3 : ¬ 9223372036854775807 < d1.length + 1 + d2.length + 1 := by omega
 have HC := Lib.hid hc
 clear hc
 clear hcap hml hm hp hN hL hD1 hD2 HI hd1 hd2 hb
 go_enter Tryz.func263, Tryz.ntmps263
 go_wp2_with fail
 go_loop [5, 7, 10] (fun n _ i => ∃ j : Nat, j ≤ l.length ∧ i = .int .i64 j ∧ ∃ m : Nat, n = .int .i64 m ∧ m ≤ N ∧ Hid (m = sumLen (l.take j))) (fun _ _ i => l.length - (intOf i).toNat)
 case atStart => exact ⟨0, Nat.zero_le _, rfl, 0, rfl, Nat.zero_le _, Lib.hid rfl⟩
 case round =>
  obtain ⟨j, hj, rfl, m, rfl, hm, HSU⟩ := hrel
  by_cases hlt : j < l.length
  ·have hltz : (j : Int) < (l.length : Int) := by omega
   obtain ⟨b0, off, rfl, hcell⟩ := HC.out (by intro h; rw [h] at hlt; simp at hlt)
   obtain ⟨x, hq⟩ : ∃ y, l[j]? = some y := ⟨_, List.getElem?_eq_getElem hlt⟩
   have d0 : w.cell? ⟨b0, off + j, none⟩ = some (S x) := hcell j x hq
   have hs := sum_step hq
   have hle : m + x.length ≤ N := by rw [HNL.out, HSU.out, ← hs]; exact HST.out _
   have HS := Lib.hid hs
   clear hcell hq hs
   go_wp2_with fail
   go_round
   case rel => exact ⟨j + 1, by omega, by go_num, m + x.length, by go_num, hle, Lib.hid (by rw [HS.out, HSU.out])⟩
   case measure => simp [intOf]; omega
  ·have hltz : ¬ ((j : Int) < (l.length : Int)) := by omega
   have ht : l.take j = l := List.take_of_length_le (by omega)
   rw [ht, ← HNL.out] at HSU
   obtain rfl := HSU.out
   go_wp2_with fail
   refine (HA.out).mono ?_
   rintro e w1 ⟨v1, rfl, ho, hr⟩
   have HX1 := Lib.hid ho
   have HR1 := Lib.hid hr.rd
   clear ho hr
   obtain ⟨a1, c1, rfl, _, _, _⟩ := HR1.out
   go_wp2_with fail
   refine (HI1.out w1 HX1.out).mono ?_
   rintro e w2 ⟨rfl, ho⟩
   have HX2 := Lib.hid (HX1.out.then ho)
   clear ho
   go_wp2_with fail
   refine (HI2.out w2 HX2.out).mono ?_
   rintro e w3 ⟨rfl, ho⟩
   have HX3 := Lib.hid (HX2.out.then ho)
   clear ho
   go_wp2_with fail
   go_ret
   exact ⟨congrArg (fun x => Ending.returned (Value.string x)) HB.out, HX3.out⟩

set_option maxRecDepth 100000 in
set_option maxHeartbeats 2000000 in
theorem swap_any (w : World) (wd x : B) (l : List B) (v : Value) (hv : Rd S w v (x :: l)) (hx : x.length ≤ 900000) (hw : wd.length ≤ 1000) (hw1 : (cut1 61 wd).1 ≠ []) (hm : HasMax w) :
  Calls Tryz.prog 265 #[S wd, v] w (RetE (S (Lib.replaceAll x (cut1 61 wd).1 (cut1 61 wd).2.1)) w) := by
 obtain ⟨b, off, cap, rfl, hc, hln⟩ := rd_head hv
 have hlz : (0 : Int) < ((l.length + 1 : Nat) : Int) := by omega
 have HCU := Lib.hid (cutD_any w 61 wd (by omega) hm)
 have ⟨hl1, hl2⟩ := cut1_len 61 wd
 generalize cut1 61 wd = r at *
 obtain ⟨p, q, f⟩ := r
 simp only at hw1 hl1 hl2 HCU ⊢
 have hp1 : 1 ≤ p.length := List.length_pos_iff.2 hw1
 have hrep : ∀ W, Ext w W → Calls Tryz.prog 272 #[S x, S p, S q] W (RetE (S (Lib.replaceAll x p q)) W) := fun W hW => by
  obtain ⟨m, hm⟩ := hm.ext hW
  have hk : Lib.countB ⟨x.toArray⟩ ⟨p.toArray⟩ ≤ 900001 := Nat.le_trans (Lib.count_le x p) (by omega)
  have h2 : Lib.countB ⟨x.toArray⟩ ⟨p.toArray⟩ * q.length ≤ 900001 * 1000 := Nat.mul_le_mul hk (by omega)
  refine (Tryz.strings_ReplaceAll ⟨x.toArray⟩ ⟨p.toArray⟩ ⟨q.toArray⟩ m W (by simp [ByteArray.size]; omega) hm (by simpa [ByteArray.size] using hp1) (by simp [ByteArray.size]; omega)).mono ?_
  rintro e w' ⟨rfl, hb⟩
  exact ⟨rfl, Only.of_below hb⟩
 have HRE := Lib.hid hrep
 clear hv hx hw hw1 hm hl1 hl2 hp1 hrep
 go_enter Tryz.func265, Tryz.ntmps265
 go_wp2_with fail
 refine (HCU.out).mono ?_
 rintro e w1 ⟨rfl, ho⟩
 have HO := Lib.hid ho
 clear ho
 have hc1 := HO.out.cellOf hc (fun h => h)
 clear hc
 go_wp2_with fail
 refine (HRE.out w1 HO.out).mono ?_
 rintro e w2 ⟨rfl, ho⟩
 have HX2 := Lib.hid (HO.out.then ho)
 clear ho
 go_wp2_with fail
 go_ret
 exact ⟨rfl, HX2.out⟩

set_option maxRecDepth 100000 in
set_option maxHeartbeats 2000000 in
theorem head_any (w : World) (wd x : B) (l : List B) (v : Value) (n : Nat) (hv : Rd S w v (x :: l)) (hx : x.length ≤ 900000) (hn : numB 3 wd = some n) (hm : HasMax w) :
  Calls Tryz.prog 267 #[S wd, v] w (RetE (S (endedB ((linesB x).take n))) w) := by
 obtain ⟨b, off, cap, rfl, hc, hln⟩ := rd_head hv
 have hlz : (0 : Int) < ((l.length + 1 : Nat) : Int) := by omega
 obtain ⟨hk, h4, hd⟩ := numB_some hn
 have HA := Lib.hid (atoi_ok w wd (by omega) n hk)
 have hlt := atoi_lt hk
 have hn9 : (n : Int) ≤ 1000 := by
  have h2 : (10 : Int) ^ wd.length ≤ 10 ^ 3 := by exact_mod_cast Nat.pow_le_pow_right (show 0 < 10 by omega) h4
  omega
 have HLI := Lib.hid (fun W (hW : Ext w W) => linesS_any W x hx (hm.ext hW))
 have hel : (endedB (linesB x)).length ≤ 900001 := by have := ended_lines x; omega
 have hll : ((linesB x).length : Int) ≤ 900001 := by have := len_ended (linesB x); omega
 generalize linesB x = L at *
 have HE := Lib.hid hel
 clear hv hx hn hk h4 hd hlt hm hel
 go_enter Tryz.func267, Tryz.ntmps267
 go_wp2_with fail
 refine (HA.out).mono ?_
 rintro e w1 ⟨rfl, ho⟩
 have HO := Lib.hid ho
 clear ho
 have hc1 := HO.out.cellOf hc (fun h => h)
 clear hc
 go_wp2_with fail
 refine (HLI.out w1 HO.out).mono ?_
 rintro e w2 ⟨g, cp, rfl, ho, hr⟩
 have HX2 := Lib.hid (HO.out.then ho)
 have HR := Lib.hid hr
 clear hr ho
 have HR2 := Lib.hid (HR.out.take (min n L.length) (Nat.min_le_right _ _))
 have hcp : (L.length : Int) ≤ (cp : Int) := by obtain ⟨_, _, hv, h, _⟩ := HR.out.rd; cases hv; omega
 have ht : L.take (min n L.length) = L.take n := by rw [← List.take_take, List.take_length]
 rw [ht] at HR2
 clear ht
 go_wp2_with fail
 rw [show (min (n : Int) (L.length : Int)).toNat = min n L.length by omega]
 refine (ended_any w2 _ (L.take n) HR2.out.rd (by have := ended_sub (List.take_sublist n L); have := HE.out; omega)).mono ?_
 rintro e w3 ⟨rfl, ho3⟩
 have HX3 := Lib.hid (HX2.out.then ho3)
 clear ho3
 go_wp2_with fail
 go_ret
 exact ⟨rfl, HX3.out⟩
end Go.Proofs.YtnmhaipjfpongacGreatDoor

namespace Go.Proofs.YtnmhaipjfpongacGreatDoor
open Go.ChangeShapes Go.WideShapes Go.ChangeAt Go.RowKit

abbrev FV (n : Nat) : Value := .func (.func n) #[] #[]
def Kd.wordF : Kd → Nat
 | .write => 255
 | .join => 255
 | .upper => 258
 | .lines => 255
 | .sort => 261
 | .count => 258
 | .swap => 264
 | .head => 266
def Kd.runF : Kd → Nat
 | .write => 256
 | .join => 257
 | .upper => 259
 | .lines => 260
 | .sort => 262
 | .count => 263
 | .swap => 265
 | .head => 267

def encK (k : Kd) : Value := .agg #[I k.least, I k.most, FV k.wordF, FV k.runF]

def KindsIs (w : World) (e : Ending) (w' : World) : Prop := ∃ b, e = .returned (.map (some b)) ∧ KMap .string S encK w' b kinds ∧ Ext w w'

set_option maxRecDepth 100000 in
set_option maxHeartbeats 2000000 in
theorem kinds_any (w : World) : Calls Tryz.prog 192 #[] w (KindsIs w) := by
 have hmm := @run_makeMap Tryz.prog
 have k0 := KMap.made w .string S encK
 obtain ⟨w1, r1, k1, o1, _⟩ := KMap.store (P := Tryz.prog) keyOk_str k0 Tryz.underlying258 Tryz.underlying9 [119, 114, 105, 116, 101] Kd.write
 have r1 : (Instr.mapUpdate 258 (.map (some w.heap.size)) (S [119, 114, 105, 116, 101]) (.agg #[I 0, I 0, FV 255, FV 256])).run Tryz.prog (w.alloc (.map #[] 0)) = .ok () w1 := r1
 obtain ⟨w2, r2, k2, o2, _⟩ := KMap.store (P := Tryz.prog) keyOk_str k1 Tryz.underlying258 Tryz.underlying9 [106, 111, 105, 110] Kd.join
 have r2 : (Instr.mapUpdate 258 (.map (some w.heap.size)) (S [106, 111, 105, 110]) (.agg #[I 1, I 8, FV 255, FV 257])).run Tryz.prog w1 = .ok () w2 := r2
 obtain ⟨w3, r3, k3, o3, _⟩ := KMap.store (P := Tryz.prog) keyOk_str k2 Tryz.underlying258 Tryz.underlying9 [117, 112, 112, 101, 114] Kd.upper
 have r3 : (Instr.mapUpdate 258 (.map (some w.heap.size)) (S [117, 112, 112, 101, 114]) (.agg #[I 1, I 1, FV 258, FV 259])).run Tryz.prog w2 = .ok () w3 := r3
 obtain ⟨w4, r4, k4, o4, _⟩ := KMap.store (P := Tryz.prog) keyOk_str k3 Tryz.underlying258 Tryz.underlying9 [108, 105, 110, 101, 115] Kd.lines
 have r4 : (Instr.mapUpdate 258 (.map (some w.heap.size)) (S [108, 105, 110, 101, 115]) (.agg #[I 1, I 1, FV 255, FV 260])).run Tryz.prog w3 = .ok () w4 := r4
 obtain ⟨w5, r5, k5, o5, _⟩ := KMap.store (P := Tryz.prog) keyOk_str k4 Tryz.underlying258 Tryz.underlying9 [115, 111, 114, 116] Kd.sort
 have r5 : (Instr.mapUpdate 258 (.map (some w.heap.size)) (S [115, 111, 114, 116]) (.agg #[I 1, I 8, FV 261, FV 262])).run Tryz.prog w4 = .ok () w5 := r5
 obtain ⟨w6, r6, k6, o6, _⟩ := KMap.store (P := Tryz.prog) keyOk_str k5 Tryz.underlying258 Tryz.underlying9 [99, 111, 117, 110, 116] Kd.count
 have r6 : (Instr.mapUpdate 258 (.map (some w.heap.size)) (S [99, 111, 117, 110, 116]) (.agg #[I 1, I 8, FV 258, FV 263])).run Tryz.prog w5 = .ok () w6 := r6
 obtain ⟨w7, r7, k7, o7, _⟩ := KMap.store (P := Tryz.prog) keyOk_str k6 Tryz.underlying258 Tryz.underlying9 [115, 119, 97, 112] Kd.swap
 have r7 : (Instr.mapUpdate 258 (.map (some w.heap.size)) (S [115, 119, 97, 112]) (.agg #[I 1, I 1, FV 264, FV 265])).run Tryz.prog w6 = .ok () w7 := r7
 obtain ⟨w8, r8, k8, o8, _⟩ := KMap.store (P := Tryz.prog) keyOk_str k7 Tryz.underlying258 Tryz.underlying9 [104, 101, 97, 100] Kd.head
 have r8 : (Instr.mapUpdate 258 (.map (some w.heap.size)) (S [104, 101, 97, 100]) (.agg #[I 1, I 1, FV 266, FV 267])).run Tryz.prog w7 = .ok () w8 := r8
 have hkk : KMap .string S encK w8 w.heap.size kinds := by
  refine Eq.mp (congrArg (KMap .string S encK w8 w.heap.size) ?_) k8
  kernel_rfl
 have HK := Lib.hid hkk
 clear hkk
 have hx : Ext w (w.alloc (.map #[] 0)) := Only.alloc _ _ _
 have x1 := hx.trans o1 (fun _ _ h => h) (fun i hi e => by omega)
 have x2 := x1.trans o2 (fun _ _ h => h) (fun i hi e => by omega)
 have x3 := x2.trans o3 (fun _ _ h => h) (fun i hi e => by omega)
 have x4 := x3.trans o4 (fun _ _ h => h) (fun i hi e => by omega)
 have x5 := x4.trans o5 (fun _ _ h => h) (fun i hi e => by omega)
 have x6 := x5.trans o6 (fun _ _ h => h) (fun i hi e => by omega)
 have x7 := x6.trans o7 (fun _ _ h => h) (fun i hi e => by omega)
 have x8 := x7.trans o8 (fun _ _ h => h) (fun i hi e => by omega)
 have HX := Lib.hid x8
 clear k0 hx k1 o1 x1 k2 o2 x2 k3 o3 x3 k4 o4 x4 k5 o5 x5 k6 o6 x6 k7 o7 x7 k8 o8 x8
 go_enter Tryz.func192, Tryz.ntmps192
 go_wp2_with fail
 go_ret
 exact ⟨_, rfl, HK.out, HX.out⟩

theorem any_word (w : World) (s : B) : Calls Tryz.prog 255 #[S s] w (RetE (.bool true) w) := by
 go_enter Tryz.func255, Tryz.ntmps255
 go_wp2_with fail
 go_ret
 exact ⟨rfl, Only.refl _ _⟩

theorem empty_word (w : World) (s : B) : Calls Tryz.prog 258 #[S s] w (RetE (.bool (s == [])) w) := by
 obtain ⟨r, hr⟩ : ∃ r, (s == []) = r := ⟨_, rfl⟩
 rw [hr]
 go_enter Tryz.func258, Tryz.ntmps258
 go_wp2_with fail
 go_ret
 exact ⟨rfl, Only.refl _ _⟩

theorem sort_word (w : World) (s : B) : Calls Tryz.prog 261 #[S s] w (RetE (.bool (s == [] || s == [111, 110, 99, 101])) w) := by
 cases h1 : s == [] with
 | true =>
  go_enter Tryz.func261, Tryz.ntmps261
  go_wp2_with fail
  go_ret
  exact ⟨rfl, Only.refl _ _⟩
 | false =>
  cases h2 : s == [111, 110, 99, 101]
  all_goals
   go_enter Tryz.func261, Tryz.ntmps261
   go_wp2_with fail
   go_ret
   exact ⟨rfl, Only.refl _ _⟩

theorem byteI (c : UInt8) (z : Int) (d : UInt8) (hz : z = d.toNat) : ((c.toNat : Int) == z) = (some c == some d) := by
 subst hz
 rw [Bool.eq_iff_iff]
 simp only [beq_iff_eq, Option.some.injEq]
 exact ⟨fun h => UInt8.toNat_inj.1 (by omega), fun h => by rw [h]⟩

theorem pair_word (w : World) (s : B) : Calls Tryz.prog 264 #[S s] w (RetE (.bool (pairB s)) w) := by
 have hC : Calls Tryz.prog 304 #[S s, .string ⟨#[61]⟩] w (fun e w' => e = .returned (I (s.count 61)) ∧ w = w') := by
  refine (Tryz.strings_Count_one ⟨s.toArray⟩ 61 w).mono ?_
  rintro e w' ⟨rfl, rfl⟩
  exact ⟨rfl, rfl⟩
 have HC := Lib.hid hC
 clear hC
 cases s with
 | nil =>
  simp only [List.count_nil] at HC
  go_enter Tryz.func264, Tryz.ntmps264
  go_wp2_with fail
  refine (HC.out).mono ?_
  rintro e w' ⟨rfl, rfl⟩
  go_wp2_with fail
  go_ret
  exact ⟨rfl, Only.refl _ _⟩
 | cons c r =>
  obtain ⟨n, hn⟩ : ∃ n, (c :: r).count 61 = n := ⟨_, rfl⟩
  unfold pairB
  rw [hn] at HC ⊢
  clear hn
  cases h1 : (n : Int) == 1 with
  | true =>
   have h1' : (n == 1) = true := by have := beq_iff_eq.1 h1; exact beq_iff_eq.2 (by omega)
   rw [h1']
   obtain ⟨z, hz⟩ : ∃ z : Bool, ((c.toNat : Int) == 61) = z := ⟨_, rfl⟩
   have e : (some c == some (61 : UInt8)) = z := by rw [← hz]; exact (byteI c 61 61 (by decide)).symm
   simp only [List.head?_cons, e]
   go_enter Tryz.func264, Tryz.ntmps264
   go_wp2_with fail
   refine (HC.out).mono ?_
   rintro e w' ⟨rfl, rfl⟩
   go_wp2_with fail
   go_ret
   exact ⟨by simp [bne]; exact hz, Only.refl _ _⟩
  | false =>
   have h1' : (n == 1) = false := beq_eq_false_iff_ne.2 fun e => by rw [e] at h1; simp at h1
   rw [h1']
   go_enter Tryz.func264, Tryz.ntmps264
   go_wp2_with fail
   refine (HC.out).mono ?_
   rintro e w' ⟨rfl, rfl⟩
   go_wp2_with fail
   go_ret
   exact ⟨rfl, Only.refl _ _⟩

set_option maxRecDepth 100000 in
set_option maxHeartbeats 2000000 in
theorem digits_word (w : World) (s : B) (hs : s.length ≤ 1000000) (hv : AtoiVars w) (hp : Pow w) : Calls Tryz.prog 266 #[S s] w (RetE (.bool (numB 3 s).isSome) w) := by
 by_cases hk : ∃ v, Lib.atoiAll s = .ok v
 ·obtain ⟨v, hk⟩ := hk
  have HA := Lib.hid (atoi_ok w s hs v hk)
  have hlt := atoi_lt hk
  by_cases h0 : 0 ≤ v
  ·obtain ⟨n, rfl⟩ := Int.eq_ofNat_of_zero_le h0
   by_cases h3 : s.length ≤ 3
   ·have h3z : (s.length : Int) ≤ 3 := by omega
    have h5 : n < 1000 := by
     have h2 : (10 : Int) ^ s.length ≤ 10 ^ 3 := by exact_mod_cast Nat.pow_le_pow_right (show 0 < 10 by omega) h3
     omega
    have hr : (numB 3 s).isSome = (Lib.decDigits n == s) := by
     unfold numB
     rw [hk]
     by_cases e : Lib.decDigits n = s
     ·simp [h3, e]
     ·simp [e]
    have HI := Lib.hid (fun w1 (hw : Ext w w1) => itoa_any w1 n (by omega) (hp.ext hw))
    rw [hr]
    obtain ⟨r, hr⟩ : ∃ r, (Lib.decDigits n == s) = r := ⟨_, rfl⟩
    rw [hr]
    clear hk hlt hs hv hp
    go_enter Tryz.func266, Tryz.ntmps266
    go_wp2_with fail
    refine (HA.out).mono ?_
    rintro e w1 ⟨rfl, ho⟩
    have HO := Lib.hid ho
    clear ho
    go_wp2_with fail
    refine (HI.out _ HO.out).mono ?_
    rintro e w2 ⟨rfl, ho⟩
    have HO2 := Lib.hid (HO.out.then ho)
    clear ho
    go_wp2_with fail
    go_ret
    exact ⟨rfl, HO2.out⟩
   ·have h3z : ¬ (s.length : Int) ≤ 3 := by omega
    have hr : (numB 3 s).isSome = false := by unfold numB; rw [hk]; simp [h3]
    rw [hr]
    clear hk hlt hs hv hp h3 hr
    go_enter Tryz.func266, Tryz.ntmps266
    go_wp2_with fail
    refine (HA.out).mono ?_
    rintro e w1 ⟨rfl, ho⟩
    have HO := Lib.hid ho
    clear ho
    go_wp2_with fail
    go_ret
    exact ⟨rfl, HO.out⟩
  ·have hr : (numB 3 s).isSome = false := by unfold numB; rw [hk]; simp [h0]
   rw [hr]
   have h0z : ¬ (0 ≤ v) := h0
   clear hk hlt hs hv hp hr
   go_enter Tryz.func266, Tryz.ntmps266
   go_wp2_with fail
   refine (HA.out).mono ?_
   rintro e w1 ⟨rfl, ho⟩
   have HO := Lib.hid ho
   clear ho
   go_wp2_with fail
   go_ret
   exact ⟨rfl, HO.out⟩
 ·have hr : (numB 3 s).isSome = false := by
   unfold numB
   split
   ·rename_i v e; exact absurd ⟨v, e⟩ hk
   ·rfl
  rw [hr]
  have HA := Lib.hid (atoi_bad w s hs hv (fun v e => hk ⟨v, e⟩))
  clear hk hs hv hp hr
  go_enter Tryz.func266, Tryz.ntmps266
  go_wp2_with fail
  refine (HA.out).mono ?_
  rintro e w1 ⟨v, t, p, rfl, ho⟩
  have HO := Lib.hid ho
  clear ho
  go_wp2_with fail
  go_ret
  exact ⟨rfl, HO.out⟩

theorem word_any (w : World) (k : Kd) (s : B) (hs : s.length ≤ 1000000) (hv : AtoiVars w) (hp : Pow w) : Calls Tryz.prog k.wordF #[S s] w (RetE (.bool (k.word s)) w) := by
 cases k
 ·exact any_word w s
 ·exact any_word w s
 ·exact empty_word w s
 ·exact any_word w s
 ·exact sort_word w s
 ·exact empty_word w s
 ·exact pair_word w s
 ·exact digits_word w s hs hv hp

theorem ent_anything : ∀ args w, (callFunc 255 args).run Tryz.prog w = .ok (.enter 255 args) w := fun args w => by kernel_rfl
theorem ent_empty : ∀ args w, (callFunc 258 args).run Tryz.prog w = .ok (.enter 258 args) w := fun args w => by kernel_rfl
theorem ent_kinds_3 : ∀ args w, (callFunc 261 args).run Tryz.prog w = .ok (.enter 261 args) w := fun args w => by kernel_rfl
theorem ent_pair : ∀ args w, (callFunc 264 args).run Tryz.prog w = .ok (.enter 264 args) w := fun args w => by kernel_rfl
theorem ent_digits : ∀ args w, (callFunc 266 args).run Tryz.prog w = .ok (.enter 266 args) w := fun args w => by kernel_rfl
theorem ent_kinds_1 : ∀ args w, (callFunc 256 args).run Tryz.prog w = .ok (.enter 256 args) w := fun args w => by kernel_rfl
theorem ent_kinds_2 : ∀ args w, (callFunc 257 args).run Tryz.prog w = .ok (.enter 257 args) w := fun args w => by kernel_rfl
theorem ent_upper : ∀ args w, (callFunc 259 args).run Tryz.prog w = .ok (.enter 259 args) w := fun args w => by kernel_rfl
theorem ent_lines : ∀ args w, (callFunc 260 args).run Tryz.prog w = .ok (.enter 260 args) w := fun args w => by kernel_rfl
theorem ent_sorted : ∀ args w, (callFunc 262 args).run Tryz.prog w = .ok (.enter 262 args) w := fun args w => by kernel_rfl
theorem ent_count : ∀ args w, (callFunc 263 args).run Tryz.prog w = .ok (.enter 263 args) w := fun args w => by kernel_rfl
theorem ent_swap : ∀ args w, (callFunc 265 args).run Tryz.prog w = .ok (.enter 265 args) w := fun args w => by kernel_rfl
theorem ent_head : ∀ args w, (callFunc 267 args).run Tryz.prog w = .ok (.enter 267 args) w := fun args w => by kernel_rfl
theorem enters_word : ∀ (k : Kd) args w, (callFunc k.wordF args).run Tryz.prog w = .ok (.enter k.wordF args) w
 | .write => ent_anything | .join => ent_anything | .upper => ent_empty | .lines => ent_anything | .sort => ent_kinds_3 | .count => ent_empty | .swap => ent_pair | .head => ent_digits
theorem enters_run : ∀ (k : Kd) args w, (callFunc k.runF args).run Tryz.prog w = .ok (.enter k.runF args) w
 | .write => ent_kinds_1 | .join => ent_kinds_2 | .upper => ent_upper | .lines => ent_lines | .sort => ent_sorted | .count => ent_count | .swap => ent_swap | .head => ent_head
end Go.Proofs.YtnmhaipjfpongacGreatDoor
