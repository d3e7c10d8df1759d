/- Texts of this seat laid together for one claim: Sc13. No condition of its own: what each proves stands with its theorems. -/
import Derived.Test.YtnmhaipjfpongacGreatDoorSR38
import Derived.Test.YtnmhaipjfpongacGreatDoorSR31
import Derived.Test.YtnmhaipjfpongacGreatDoorSR48
namespace Go.Proofs.YtnmhaipjfpongacGreatDoor
open Go.ChangeShapes Go.WideShapes Go.ChangeAt Go.RowKit

theorem cut_head1 (d : UInt8) : ∀ s : B, ∃ r, cutc d s = (cut1 d s).1 :: r
 | [] => ⟨[], rfl⟩
 | c :: r => by
  rw [cutc, cut1]
  split
  ·exact ⟨_, rfl⟩
  ·obtain ⟨q, hq⟩ := cut_head1 d r
   rw [hq]
   exact ⟨q, rfl⟩
abbrev wordsL : List B := [[112, 117, 116], [100, 114, 111, 112], [114, 117, 108, 101], [99, 108, 101, 97, 114], [109, 97, 107, 101], [115, 104, 111, 119], [119, 97, 110, 116], [115, 116, 97, 108, 101], [111, 114, 100, 101, 114], [108, 101, 97, 118, 101, 115], [102, 105, 108, 101, 115]]
abbrev wordsO : Obj := .cells #[S [112, 117, 116], S [100, 114, 111, 112], S [114, 117, 108, 101], S [99, 108, 101, 97, 114], S [109, 97, 107, 101], S [115, 104, 111, 119], S [119, 97, 110, 116], S [115, 116, 97, 108, 101], S [111, 114, 100, 101, 114], S [108, 101, 97, 118, 101, 115], S [102, 105, 108, 101, 115]] 9 (0, 0)
theorem play_none (y : YS) (s : B) (h1 : s ∉ [[99, 108, 101, 97, 114], [115, 116, 97, 108, 101], [111, 114, 100, 101, 114], [108, 101, 97, 118, 101, 115], [102, 105, 108, 101, 115], [109, 97, 107, 101]])
  (h2 : (cut1 32 s).1 ∉ [[112, 117, 116], [114, 117, 108, 101], [109, 97, 107, 101], [100, 114, 111, 112], [115, 104, 111, 119], [119, 97, 110, 116]] ∨ (cut1 32 s).2.2 = false) : tellP (playS y s) = errB 1 := by
 simp only [List.mem_cons, List.not_mem_nil, or_false, not_or] at h1 h2
 obtain ⟨a1, a2, a3, a4, a5, a6⟩ := h1
 have key : (playS y s).2.2 = 1 := by
  unfold playS
  rw [if_neg a1, if_neg a2, if_neg a3, if_neg a4, if_neg a5, if_neg a6]
  by_cases hi : (cut1 32 s).2.2 = false
  ·rw [if_pos hi]
  ·rw [if_neg hi]
   obtain ⟨b1, b2, b3, b4, b5, b6⟩ := h2.resolve_right hi
   rw [if_neg b1, if_neg b2]
   unfold aboutS
   simp only [b3, b4, b5, b6, if_false]
   split
   ·rfl
   ·split <;> rfl
 unfold tellP
 rw [if_neg (by rw [key]; decide), key]
theorem words_none (y : YS) (s : B) (h : (cut1 32 s).1 ∉ wordsL) : tellP (playS y s) = errB 1 := by
 have hl : ∀ q ∈ [[99, 108, 101, 97, 114], [115, 116, 97, 108, 101], [111, 114, 100, 101, 114], [108, 101, 97, 118, 101, 115], [102, 105, 108, 101, 115], [109, 97, 107, 101]], (cut1 32 q).1 ∈ wordsL := by decide +kernel
 have hs : ∀ q ∈ [[112, 117, 116], [114, 117, 108, 101], [109, 97, 107, 101], [100, 114, 111, 112], [115, 104, 111, 119], [119, 97, 110, 116]], q ∈ wordsL := by decide +kernel
 exact play_none y s (fun e => h (hl s e)) (.inl fun e => h (hs _ e))
theorem words_tail (y : YS) (s : B) (h : (cut1 32 s).1 ∈ [[115, 116, 97, 108, 101], [111, 114, 100, 101, 114], [108, 101, 97, 118, 101, 115], [102, 105, 108, 101, 115]]) (hn : (cut1 32 s).1 ≠ s) : tellP (playS y s) = errB 1 := by
 have hl : ∀ q ∈ [[99, 108, 101, 97, 114], [115, 116, 97, 108, 101], [111, 114, 100, 101, 114], [108, 101, 97, 118, 101, 115], [102, 105, 108, 101, 115], [109, 97, 107, 101]], (cut1 32 q).1 = q := by decide +kernel
 have hs : ∀ q ∈ ([[112, 117, 116], [114, 117, 108, 101], [109, 97, 107, 101], [100, 114, 111, 112], [115, 104, 111, 119], [119, 97, 110, 116]] : List B), q ∉ [[115, 116, 97, 108, 101], [111, 114, 100, 101, 114], [108, 101, 97, 118, 101, 115], [102, 105, 108, 101, 115]] := by decide +kernel
 exact play_none y s (fun e => hn (hl s e)) (.inl fun e => hs _ e h)
theorem runS_at {y : YS} {ss : List B} {j : Nat} {s : B} (h : ss[j]? = some s) : (runS y ss).2[j]? = some (tellP (playS (runS y (ss.take j)).1 s)) := by
 have h1 := congrArg Prod.snd (runS_step (y := y) h)
 rw [runS_take] at h1
 have hj := (List.getElem?_eq_some_iff.1 h).1
 have h2 : ((runS y ss).2.take (j + 1))[j]? = some (tellP (playS (runS y (ss.take j)).1 s)) := by
  rw [h1]
  show ((runS y (ss.take j)).2 ++ [_])[j]? = _
  rw [List.getElem?_append_right (by rw [runS_len, List.length_take]; omega), runS_len, List.length_take, Nat.min_eq_left (by omega), Nat.sub_self]
  rfl
 rwa [List.getElem?_take_of_lt (by omega)] at h2
theorem words_idx (y : YS) (s : B) (oj : B) (ho : oj = tellP (playS y s)) : ∀ z, z = idx (fun q => q == (cut1 32 s).1) wordsL →
  (z < 0 ∧ oj = errB 1) ∨ (¬ z < 0 ∧ ¬ 6 < z) ∨ (6 < z ∧ (cut1 32 s).1 = s) ∨ (6 < z ∧ (cut1 32 s).1 ≠ s ∧ oj = errB 1) := by
 rintro z rfl
 rcases idx_cases (fun q => q == (cut1 32 s).1) wordsL with ⟨k, hk, hlt, _⟩ | ⟨hk, hany⟩
 ·rw [hk]
  by_cases h6 : (6 : Int) < (k : Int)
  ·by_cases he : (cut1 32 s).1 = s
   ·exact .inr (.inr (.inl ⟨h6, he⟩))
   ·refine .inr (.inr (.inr ⟨h6, he, ?_⟩))
    rw [ho]
    refine words_tail y s ?_ he
    have hfi : wordsL.findIdx? (fun q => q == (cut1 32 s).1) = some k := by
     unfold idx at hk
     cases hf : wordsL.findIdx? (fun q => q == (cut1 32 s).1) with
     | none => rw [hf] at hk; simp at hk
     | some i => rw [hf] at hk; simp only at hk; exact congrArg some (by omega)
    obtain ⟨hl, hp, _⟩ := List.findIdx?_eq_some_iff_getElem.1 hfi
    have hp := eq_of_beq hp
    rw [← hp]
    have hk2 : k = 7 ∨ k = 8 ∨ k = 9 ∨ k = 10 := by simp at hlt; omega
    rcases hk2 with rfl | rfl | rfl | rfl
    ·exact .head _
    ·exact .tail _ (.head _)
    ·exact .tail _ (.tail _ (.head _))
    ·exact .tail _ (.tail _ (.tail _ (.head _)))
  ·exact .inr (.inl ⟨by omega, h6⟩)
 ·refine .inl ⟨by rw [hk]; decide, ?_⟩
  rw [ho]
  refine words_none y s fun hm => ?_
  have := List.any_eq_false.1 hany _ hm
  simp at this
set_option maxRecDepth 100000 in
set_option maxHeartbeats 2000000 in
theorem errorText1_any (w : World) : Calls Tryz.prog 90 #[.int .i64 1] w (RetE (S (errB 1)) w) := by
 go_enter Tryz.func90, Tryz.ntmps90
 go_wp2_with fail
 go_ret
 exact ⟨rfl, Only.alloc _ _ _⟩
set_option maxRecDepth 100000 in
set_option maxHeartbeats 2000000 in
theorem wordOf_any (w : World) (s : B) (hs : s.length ≤ 999999) : Calls Tryz.prog 88 #[S s] w (RetE (S (cut1 32 s).1) w) := by
 have HC := Lib.hid (refCutC_any w 32 32 rfl s hs)
 obtain ⟨r, hr⟩ := cut_head1 32 s
 rw [hr] at HC
 generalize (cut1 32 s).1 = q at HC ⊢
 clear hr hs
 go_enter Tryz.func88, Tryz.ntmps88
 go_wp2_with fail
 refine HC.out.mono ?_
 rintro e w1 ⟨g, cap, rfl, hrow, ho⟩
 have HX := Lib.hid ho
 have c0 := (hrow.cellAt 0 (by simp)).trans (rfl : _ = some (S q))
 have hp : (0 : Int) < ((q :: r).length : Int) := by rw [List.length_cons]; omega
 clear hrow ho
 go_wp2_with fail
 go_ret
 exact ⟨rfl, HX.out⟩
set_option maxRecDepth 100000 in
set_option maxHeartbeats 2000000 in
theorem scriptRun_many (w : World) (P : Nat → Addr) (v : Value) (ss : List B) (hv : Rd S w v ss) (hn : 100 < ss.length) (hV : PVS w P) : Calls Tryz.prog 86 #[v] w (RetE (.tuple #[.slice none 0 0, errV (P 1)]) w) := by
 have c0 := hV.errs.var 1 _ (by decide) rfl
 obtain ⟨av, cv, rfl, _, _, _⟩ := hv
 have hnz : (100 : Int) < (ss.length : Int) := by omega
 clear hV hn
 go_enter Tryz.func86, Tryz.ntmps86
 go_wp2_with fail
 go_quiet (fail)
 go_wp2_with fail
 go_ret2
 exact ⟨rfl, Only.drewN _ _ _⟩
set_option linter.unusedSimpArgs false in
set_option maxRecDepth 100000 in
set_option maxHeartbeats 16000000 in
theorem walkScriptReads (w : World) (P : Nat → Addr) (ls : List B) (v0 : Value) (hv0 : Rd S w v0 ls) (hV : PVS w P) (hS : Sents w P) (hT : ErrTexts w P) :
  Calls Tryz.prog 13 #[v0] w (RetE (.bool true) w) := by
 have H0 := Lib.hid hv0
 have HV := Lib.hid hV
 have HS := Lib.hid hS
 have HT := Lib.hid hT
 have HHE := Lib.hid (hello_any w P hV hS hT)
 obtain ⟨a0, q0, rfl, _, hm0, _⟩ := hv0
 have hr0 : ls.length ≤ 9223372036854775807 := by unfold maxLen at hm0; omega
 clear hV hS hT hm0
 go_enter Tryz.func13, Tryz.ntmps13
 go_wp2_with fail
 refine (HHE.out).mono ?_
 rintro e w1 ⟨rfl, ho⟩
 have HX1 := Lib.hid ho
 clear ho
 by_cases hl : (110 : Int) < (ls.length : Int)
 ·go_wp2_with fail
  go_ret
  exact ⟨rfl, HX1.out⟩
 have hlz : (ls.length : Int) ≤ 110 := by omega
 have HL : Hid (ls.length ≤ 110) := Lib.hid (by omega)
 clear hr0 hl
 obtain ⟨bs, hbs⟩ : ∃ bs, bs = w1.heap.size := ⟨_, rfl⟩
 have HBS : Hid (w1.heap.size ≤ bs ∧ bs ≤ w1.heap.size) := Lib.hid ⟨by omega, by omega⟩
 clear hbs
 go_wp2_with fail
 go_loopw [4, 5] (fun q i wr => ∃ (j : Nat) (qv : Value), qv = q ∧ j ≤ ls.length ∧ i = .int .i64 j ∧ Hid (Row bs wr qv (ls.take j)) ∧ Hid (∀ s ∈ ls.take j, s.length ≤ 100) ∧ Hid (Ext w1 wr)) (fun _ i _ => ls.length - (intOf i).toNat)
 case atStart => exact ⟨0, _, rfl, Nat.zero_le _, rfl, Lib.hid (by rw [List.take_zero]; exact Row.nil _ _), Lib.hid (fun s hs => by rw [List.take_zero] at hs; cases hs), Lib.hid (Only.refl _ _)⟩
 case round =>
  obtain ⟨j, qv, rfl, hj, rfl, HQ, HSH, HX⟩ := hrel
  have hj0 : (0 : Int) ≤ (j : Int) := by omega
  by_cases hlt : j < ls.length
  case pos =>
   have hltz : (j : Int) < (ls.length : Int) := by omega
   obtain ⟨_, _, ee, _, _, hc0⟩ := H0.out.ext (HX1.out.then HX.out)
   cases ee
   obtain ⟨b, off, rfl, hc⟩ := hc0 (by intro h; rw [h] at hlt; simp at hlt)
   obtain ⟨s, hs⟩ : ∃ s, ls[j]? = some s := ⟨_, List.getElem?_eq_getElem hlt⟩
   have d0 := hc j s hs
   have HTK : Hid (ls.take (j + 1) = ls.take j ++ [s]) := Lib.hid (by rw [List.take_add_one, hs]; rfl)
   have HLL : Hid ((ls.take j).length ≤ 1000) := Lib.hid (by rw [List.length_take]; have := HL.out; omega)
   have HJ := Lib.hid hlt
   clear hc hc0 hs hj hlt
   generalize ls.take j = lj at HQ HSH HTK HLL
   by_cases h100 : (100 : Int) < (s.length : Int)
   ·go_wp2_with fail
    go_ret
    exact ⟨rfl, HX1.out.then HX.out⟩
   ·have HSN : Hid (∀ q ∈ ls.take (j + 1), q.length ≤ 100) := Lib.hid (fun q hq => by
     rw [HTK.out] at hq
     rcases List.mem_append.1 hq with hq | hq
     ·exact HSH.out q hq
     ·rw [List.mem_singleton.1 hq]; omega)
    go_wp2_with (at_builtin; refine wpText rfl (.tmp 32) (.tmp 37) w1 bs qv lj s wr rfl rfl rfl rfl HQ.out (Nat.le_trans HLL.out (by decide)) (Nat.le_trans HBS.out.2 HX.out.size) HX.out HBS.out.1 ?_; intro g6 cap6 w6 HR6 HX6 _)
    go_roundw
    case rel => exact ⟨j + 1, _, rfl, HJ.out, by go_num, by rw [HTK.out]; exact HR6, HSN, HX6⟩
    case measure => have := HJ.out; simp [intOf]; omega
  case neg =>
   have hltz : ¬ (j : Int) < (ls.length : Int) := by omega
   rw [List.take_of_length_le (by omega)] at HQ HSH
   have hx := HX1.out.then HX.out
   clear hj hlt
   by_cases hm : 100 < ls.length
   case pos =>
    have hmz : (100 : Int) < (ls.length : Int) := by omega
    have HRU := Lib.hid (scriptRun_many wr P qv ls (Row.rd HQ.out) hm (HV.out.ext hx))
    have HCD := Lib.hid (fun W (hW : Ext w W) => coded3_any W (errV (P 1)) 2 (code_at W P (HS.out.ext hW) (errV (P 1)) (2, -1) (.inr (.inl ⟨by decide, rfl, rfl⟩)) (by decide) (fun h => by cases h) W (Only.refl _ _)))
    have HXR := Lib.hid hx
    obtain ⟨aq, cq, rfl, _⟩ := Row.rd HQ.out
    clear hm hx
    go_wp2_with fail
    refine HRU.out.mono ?_
    rintro e w3 ⟨rfl, ho3⟩
    have HX3 := Lib.hid (HXR.out.then ho3)
    clear ho3
    go_wp2_with fail
    refine (HCD.out _ HX3.out).mono ?_
    rintro e w4 ⟨rfl, ho4⟩
    have HX4 := Lib.hid (HX3.out.then ho4)
    clear ho4
    go_wp2_with fail
    go_ret
    exact ⟨rfl, HX4.out⟩
   case neg =>
    have hmz : ¬ (100 : Int) < (ls.length : Int) := by omega
    have hru := scriptRun_any wr P qv ls (Row.rd HQ.out) (by omega) (fun s hs => by have := HSH.out s hs; omega) (HV.out.ext hx) (HS.out.ext hx) (HT.out.ext hx)
    have HAT := Lib.hid (fun j s (h : ls[j]? = some s) => runS_at (y := yH0) h)
    have HLE : Hid ((runS yH0 ls).2.length = ls.length) := Lib.hid (runS_len _ _)
    have hru : Calls Tryz.prog 86 #[qv] wr (RetRun (runS yH0 ls).2 wr) := hru
    generalize (runS yH0 ls).2 = outs at hru HAT HLE
    have HRU := Lib.hid hru
    have HXR := Lib.hid hx
    obtain ⟨aq, cq, rfl, _⟩ := Row.rd HQ.out
    clear hm hx hru
    go_wp2_with fail
    refine HRU.out.mono ?_
    rintro e w3 ⟨vo, rfl, hro, ho3⟩
    have hx3 := HXR.out.then ho3
    have hA := Only.alloc (fun _ => False) w3 wordsO
    have hwr := rd_lit (ss := wordsL) (MapKept.heap_alloc w3 wordsO).1 rfl (by decide)
    have HW4 := Lib.hid hwr
    have HO4 := Lib.hid ((Row.rd hro).ext hA)
    have HXW := Lib.hid (hx3.then hA)
    obtain ⟨ao, co, rfl, _⟩ := Row.rd hro
    rw [HLE.out] at HO4 ⊢
    clear hx3 hA hwr hro ho3
    obtain ⟨w4, hw4⟩ : ∃ w4, w4 = w3.alloc wordsO := ⟨_, rfl⟩
    rw [← hw4] at HW4 HO4 HXW
    have HWE := Lib.hid hw4.symm
    obtain ⟨gw, hgw⟩ : ∃ gw, gw = w3.heap.size := ⟨_, rfl⟩
    rw [← hgw] at HW4
    have HGW := Lib.hid hgw.symm
    have HW4 : Hid (Rd S w4 (.slice (some ⟨gw, 0, none⟩) 11 11) wordsL) := HW4
    have HI0 := Lib.hid (H0.out.ext HXW.out)
    clear hw4 hgw
    go_wp2_with fail
    rw [HWE.out, HGW.out]
    go_loopw [9, 10] (fun i _ wr => ∃ (j : Nat), j ≤ ls.length ∧ i = .int .i64 j ∧ Hid (Ext w4 wr)) (fun i _ _ => ls.length - (intOf i).toNat)
    case atStart => exact ⟨0, Nat.zero_le _, rfl, Lib.hid (Only.refl _ _)⟩
    case round =>
     clear HX
     obtain ⟨j, hj, rfl, HX⟩ := hrel
     have hj0 : (0 : Int) ≤ (j : Int) := by omega
     by_cases hlt : j < ls.length
     case pos =>
      have hltz : (j : Int) < (ls.length : Int) := by omega
      obtain ⟨s, hs⟩ : ∃ s, ls[j]? = some s := ⟨_, List.getElem?_eq_getElem hlt⟩
      obtain ⟨_, _, ee, _, _, hc0⟩ := HI0.out.ext HX.out
      cases ee
      obtain ⟨bl, ol, rfl, hc⟩ := hc0 (by intro h; rw [h] at hlt; simp at hlt)
      have d0 := hc j s hs
      obtain ⟨_, _, ee, _, _, hco0⟩ := HO4.out.ext HX.out
      simp only [Value.slice.injEq] at ee
      obtain ⟨rfl, -, rfl⟩ := ee
      obtain ⟨bo, oo, rfl, hco⟩ := hco0 (by intro h; have := HLE.out; rw [h] at this; simp at this; omega)
      obtain ⟨oj, hoj⟩ : ∃ oj, outs[j]? = some oj := ⟨_, List.getElem?_eq_getElem (by rw [HLE.out]; exact hlt)⟩
      have e0 := hco j oj hoj
      have hojt := Option.some.inj (hoj.symm.trans (HAT.out j s hs))
      have HSL : Hid (s.length ≤ 999999) := Lib.hid (by have := HSH.out s (List.mem_of_getElem? hs); omega)
      have HWO := Lib.hid (wordOf_any wr s HSL.out)
      obtain ⟨z, hz⟩ : ∃ z, z = idx (fun q => q == (cut1 32 s).1) wordsL := ⟨_, rfl⟩
      have hcase := words_idx _ s oj hojt z hz
      have HIX := Lib.hid (fun W (hW : Ext wr W) => indexRef_any W _ wordsL (cut1 32 s).1 ((HW4.out.ext HX.out).ext hW))
      rw [← hz] at HIX
      have HIX : Hid (∀ W, Ext wr W → Calls Tryz.prog 89 #[.slice (some ⟨gw, 0, none⟩) 11 11, S (cut1 32 s).1] W (RetS (I z) W)) := HIX
      obtain ⟨eb, heb⟩ : ∃ eb, eb = errB 1 := ⟨_, rfl⟩
      have HER : Hid (∀ W, Ext wr W → Calls Tryz.prog 90 #[.int .i64 1] W (RetE (S eb) W)) := Lib.hid (fun W _ => by rw [heb]; exact errorText1_any W)
      rw [← heb] at hcase
      obtain ⟨wd, hwd⟩ : ∃ wd, wd = (cut1 32 s).1 := ⟨_, rfl⟩
      rw [← hwd] at hcase HIX HWO
      have HKS : Hid (∀ wq, Ext wr wq → wq.cell? ⟨bo, oo + j, none⟩ = some (S oj) ∧ wq.cell? ⟨bl, ol + j, none⟩ = some (S s)) := Lib.hid (fun wq hq => ⟨hq.cellOf e0 (fun h => h), hq.cellOf d0 (fun h => h)⟩)
      have HJ := Lib.hid hlt
      clear hc hc0 hco hco0 hs hoj hojt hz heb hwd e0 hj hlt
      go_wp2_with fail
      refine HWO.out.mono ?_
      rintro e w5 ⟨rfl, ho5⟩
      have HX3 := Lib.hid ho5
      clear ho5 d0
      rcases hcase with ⟨hz1, heq⟩ | ⟨hz1, hz2⟩ | ⟨hz1, heq⟩ | ⟨hz1, hne, heq⟩
      ·have hb1 : decide (z < (0 : Int)) = true := decide_eq_true hz1
       have hb2 : decide ((6 : Int) < z) = false := decide_eq_false (by omega)
       subst heq
       clear hz1
       go_wp2_with fail
       refine wp_region_held_drew (S := fun wq => wq.cell? ⟨bo, oo + j, none⟩ = some (S oj) ∧ wq.cell? ⟨bl, ol + j, none⟩ = some (S s)) (by kernel_rfl) (HKS.out _ HX3.out.thenDrew) (fun hHeld => ?_)
       refine takeN 0 ?_
       refine takeN 1 ?_
       refine wpAnyH_ready (rs := [2]) (by kernel_rfl) (by simp) ?_
       refine AllReadyH.cons (o := _) rfl (fun K hK => ?_) AllReadyH.nil
       go_simp
       go_at_call 89
       refine (HIX.out _ HX3.out.thenDrew).mono ?_
       rintro e wi1 ⟨rfl, rfl⟩
       refine hK.out _ _ (HKS.out _ HX3.out.thenDrew) (fun hHeld => ?_)
       clear hK K
       try simp only [Act.put, List.setIfInBounds_toArray, List.set_cons_zero, List.set_cons_succ]
       refine takeN 3 ?_
       refine takeN 4 ?_
       refine takeN 5 ?_
       refine takeN 6 ?_
       refine takeN 7 ?_
       refine takeN 8 ?_
       refine wpAnyH_ready (rs := [9]) (by kernel_rfl) (by simp) ?_
       refine AllReadyH.cons (o := _) rfl (fun K hK => ?_) AllReadyH.nil
       go_simp
       go_at_call 90
       refine (HER.out _ HX3.out.thenDrew).mono ?_
       rintro e we1 ⟨rfl, hoe⟩
       have HX4 := Lib.hid (HX3.out.thenDrew.then hoe)
       refine hK.out _ _ (HKS.out _ HX4.out) (fun hHeld => ?_)
       clear hK K
       try simp only [Act.put, List.setIfInBounds_toArray, List.set_cons_zero, List.set_cons_succ]
       clear hoe
       refine takeN 10 ?_
       refine takeN 11 ?_
       refine wpAnyH_done (by kernel_rfl) ?_ _
       go_wp2_with fail
       refine wp_region_held_drew (S := fun wq => wq.cell? ⟨bo, oo + j, none⟩ = some (S oj) ∧ wq.cell? ⟨bl, ol + j, none⟩ = some (S s)) (by kernel_rfl) (HKS.out _ HX4.out.thenDrew) (fun hHeld => ?_)
       refine takeN 0 ?_
       refine takeN 1 ?_
       refine wpAnyH_ready (rs := [2]) (by kernel_rfl) (by simp) ?_
       refine AllReadyH.cons (o := _) rfl (fun K hK => ?_) AllReadyH.nil
       go_simp
       go_at_call 89
       refine (HIX.out _ HX4.out.thenDrew).mono ?_
       rintro e wi2 ⟨rfl, rfl⟩
       refine hK.out _ _ (HKS.out _ HX4.out.thenDrew) (fun hHeld => ?_)
       clear hK K
       try simp only [Act.put, List.setIfInBounds_toArray, List.set_cons_zero, List.set_cons_succ]
       refine takeN 3 ?_
       refine takeN 4 ?_
       refine skipN 5 ?_
       refine skipN 6 ?_
       refine skipN 7 ?_
       refine skipN 8 ?_
       refine skipN 9 ?_
       refine skipN 10 ?_
       refine takeN 11 ?_
       refine takeN 12 ?_
       refine skipN 13 ?_
       refine skipN 14 ?_
       refine skipN 15 ?_
       refine skipN 16 ?_
       refine skipN 17 ?_
       refine skipN 18 ?_
       refine takeN 19 ?_
       refine wpAnyH_done (by kernel_rfl) ?_ _
       go_wp2_with fail
       go_roundw
       case rel => exact ⟨j + 1, HJ.out, by go_num, Lib.hid (HX.out.then HX4.out.thenDrew)⟩
       case measure => have := HJ.out; simp [intOf]; omega
      ·have hb1 : decide (z < (0 : Int)) = false := decide_eq_false (by omega)
       have hb2 : decide ((6 : Int) < z) = false := decide_eq_false (by omega)
       clear hz1 hz2
       go_wp2_with fail
       refine wp_region_held_drew (S := fun wq => wq.cell? ⟨bo, oo + j, none⟩ = some (S oj) ∧ wq.cell? ⟨bl, ol + j, none⟩ = some (S s)) (by kernel_rfl) (HKS.out _ HX3.out.thenDrew) (fun hHeld => ?_)
       refine takeN 0 ?_
       refine takeN 1 ?_
       refine wpAnyH_ready (rs := [2]) (by kernel_rfl) (by simp) ?_
       refine AllReadyH.cons (o := _) rfl (fun K hK => ?_) AllReadyH.nil
       go_simp
       go_at_call 89
       refine (HIX.out _ HX3.out.thenDrew).mono ?_
       rintro e wi1 ⟨rfl, rfl⟩
       refine hK.out _ _ (HKS.out _ HX3.out.thenDrew) (fun hHeld => ?_)
       clear hK K
       try simp only [Act.put, List.setIfInBounds_toArray, List.set_cons_zero, List.set_cons_succ]
       refine takeN 3 ?_
       refine takeN 4 ?_
       refine skipN 5 ?_
       refine skipN 6 ?_
       refine skipN 7 ?_
       refine skipN 8 ?_
       refine skipN 9 ?_
       refine skipN 10 ?_
       refine takeN 11 ?_
       refine wpAnyH_done (by kernel_rfl) ?_ _
       go_wp2_with fail
       refine wp_region_held_drew (S := fun wq => wq.cell? ⟨bo, oo + j, none⟩ = some (S oj) ∧ wq.cell? ⟨bl, ol + j, none⟩ = some (S s)) (by kernel_rfl) (HKS.out _ HX3.out.thenDrew.thenDrew) (fun hHeld => ?_)
       refine takeN 0 ?_
       refine takeN 1 ?_
       refine wpAnyH_ready (rs := [2]) (by kernel_rfl) (by simp) ?_
       refine AllReadyH.cons (o := _) rfl (fun K hK => ?_) AllReadyH.nil
       go_simp
       go_at_call 89
       refine (HIX.out _ HX3.out.thenDrew.thenDrew).mono ?_
       rintro e wi2 ⟨rfl, rfl⟩
       refine hK.out _ _ (HKS.out _ HX3.out.thenDrew.thenDrew) (fun hHeld => ?_)
       clear hK K
       try simp only [Act.put, List.setIfInBounds_toArray, List.set_cons_zero, List.set_cons_succ]
       refine takeN 3 ?_
       refine takeN 4 ?_
       refine skipN 5 ?_
       refine skipN 6 ?_
       refine skipN 7 ?_
       refine skipN 8 ?_
       refine skipN 9 ?_
       refine skipN 10 ?_
       refine takeN 11 ?_
       refine takeN 12 ?_
       refine skipN 13 ?_
       refine skipN 14 ?_
       refine skipN 15 ?_
       refine skipN 16 ?_
       refine skipN 17 ?_
       refine skipN 18 ?_
       refine takeN 19 ?_
       refine wpAnyH_done (by kernel_rfl) ?_ _
       go_wp2_with fail
       go_roundw
       case rel => exact ⟨j + 1, HJ.out, by go_num, Lib.hid (HX.out.then HX3.out.thenDrew.thenDrew)⟩
       case measure => have := HJ.out; simp [intOf]; omega
      ·have hb1 : decide (z < (0 : Int)) = false := decide_eq_false (by omega)
       have hb2 : decide ((6 : Int) < z) = true := decide_eq_true hz1
       have heq2 := heq.symm
       subst heq2
       clear hz1
       go_wp2_with fail
       refine wp_region_held_drew (S := fun wq => wq.cell? ⟨bo, oo + j, none⟩ = some (S oj) ∧ wq.cell? ⟨bl, ol + j, none⟩ = some (S s)) (by kernel_rfl) (HKS.out _ HX3.out.thenDrew) (fun hHeld => ?_)
       refine takeN 0 ?_
       refine takeN 1 ?_
       refine wpAnyH_ready (rs := [2]) (by kernel_rfl) (by simp) ?_
       refine AllReadyH.cons (o := _) rfl (fun K hK => ?_) AllReadyH.nil
       go_simp
       go_at_call 89
       refine (HIX.out _ HX3.out.thenDrew).mono ?_
       rintro e wi1 ⟨rfl, rfl⟩
       refine hK.out _ _ (HKS.out _ HX3.out.thenDrew) (fun hHeld => ?_)
       clear hK K
       try simp only [Act.put, List.setIfInBounds_toArray, List.set_cons_zero, List.set_cons_succ]
       refine takeN 3 ?_
       refine takeN 4 ?_
       refine skipN 5 ?_
       refine skipN 6 ?_
       refine skipN 7 ?_
       refine skipN 8 ?_
       refine skipN 9 ?_
       refine skipN 10 ?_
       refine takeN 11 ?_
       refine wpAnyH_done (by kernel_rfl) ?_ _
       go_wp2_with fail
       refine wp_region_held_drew (S := fun wq => wq.cell? ⟨bo, oo + j, none⟩ = some (S oj) ∧ wq.cell? ⟨bl, ol + j, none⟩ = some (S s)) (by kernel_rfl) (HKS.out _ HX3.out.thenDrew.thenDrew) (fun hHeld => ?_)
       refine takeN 0 ?_
       refine takeN 1 ?_
       refine wpAnyH_ready (rs := [2]) (by kernel_rfl) (by simp) ?_
       refine AllReadyH.cons (o := _) rfl (fun K hK => ?_) AllReadyH.nil
       go_simp
       go_at_call 89
       refine (HIX.out _ HX3.out.thenDrew.thenDrew).mono ?_
       rintro e wi2 ⟨rfl, rfl⟩
       refine hK.out _ _ (HKS.out _ HX3.out.thenDrew.thenDrew) (fun hHeld => ?_)
       clear hK K
       try simp only [Act.put, List.setIfInBounds_toArray, List.set_cons_zero, List.set_cons_succ]
       refine takeN 3 ?_
       refine takeN 4 ?_
       refine takeN 5 ?_
       refine takeN 6 ?_
       refine takeN 7 ?_
       refine takeN 8 ?_
       refine takeN 9 ?_
       refine takeN 10 ?_
       refine takeN 11 ?_
       refine takeN 12 ?_
       refine skipN 13 ?_
       refine skipN 14 ?_
       refine skipN 15 ?_
       refine skipN 16 ?_
       refine skipN 17 ?_
       refine skipN 18 ?_
       refine takeN 19 ?_
       refine wpAnyH_done (by kernel_rfl) ?_ _
       go_wp2_with fail
       go_roundw
       case rel => exact ⟨j + 1, HJ.out, by go_num, Lib.hid (HX.out.then HX3.out.thenDrew.thenDrew)⟩
       case measure => have := HJ.out; simp [intOf]; omega
      ·have hb1 : decide (z < (0 : Int)) = false := decide_eq_false (by omega)
       have hb2 : decide ((6 : Int) < z) = true := decide_eq_true hz1
       have hnb : (wd == s) = false := beq_eq_false_iff_ne.2 hne
       subst heq
       clear hz1 hne
       go_wp2_with fail
       refine wp_region_held_drew (S := fun wq => wq.cell? ⟨bo, oo + j, none⟩ = some (S oj) ∧ wq.cell? ⟨bl, ol + j, none⟩ = some (S s)) (by kernel_rfl) (HKS.out _ HX3.out.thenDrew) (fun hHeld => ?_)
       refine takeN 0 ?_
       refine takeN 1 ?_
       refine wpAnyH_ready (rs := [2]) (by kernel_rfl) (by simp) ?_
       refine AllReadyH.cons (o := _) rfl (fun K hK => ?_) AllReadyH.nil
       go_simp
       go_at_call 89
       refine (HIX.out _ HX3.out.thenDrew).mono ?_
       rintro e wi1 ⟨rfl, rfl⟩
       refine hK.out _ _ (HKS.out _ HX3.out.thenDrew) (fun hHeld => ?_)
       clear hK K
       try simp only [Act.put, List.setIfInBounds_toArray, List.set_cons_zero, List.set_cons_succ]
       refine takeN 3 ?_
       refine takeN 4 ?_
       refine skipN 5 ?_
       refine skipN 6 ?_
       refine skipN 7 ?_
       refine skipN 8 ?_
       refine skipN 9 ?_
       refine skipN 10 ?_
       refine takeN 11 ?_
       refine wpAnyH_done (by kernel_rfl) ?_ _
       go_wp2_with fail
       refine wp_region_held_drew (S := fun wq => wq.cell? ⟨bo, oo + j, none⟩ = some (S oj) ∧ wq.cell? ⟨bl, ol + j, none⟩ = some (S s)) (by kernel_rfl) (HKS.out _ HX3.out.thenDrew.thenDrew) (fun hHeld => ?_)
       refine takeN 0 ?_
       refine takeN 1 ?_
       refine wpAnyH_ready (rs := [2]) (by kernel_rfl) (by simp) ?_
       refine AllReadyH.cons (o := _) rfl (fun K hK => ?_) AllReadyH.nil
       go_simp
       go_at_call 89
       refine (HIX.out _ HX3.out.thenDrew.thenDrew).mono ?_
       rintro e wi2 ⟨rfl, rfl⟩
       refine hK.out _ _ (HKS.out _ HX3.out.thenDrew.thenDrew) (fun hHeld => ?_)
       clear hK K
       try simp only [Act.put, List.setIfInBounds_toArray, List.set_cons_zero, List.set_cons_succ]
       refine takeN 3 ?_
       refine takeN 4 ?_
       refine takeN 5 ?_
       refine takeN 6 ?_
       refine takeN 7 ?_
       refine takeN 8 ?_
       refine takeN 9 ?_
       refine takeN 10 ?_
       refine takeN 11 ?_
       refine takeN 12 ?_
       refine takeN 13 ?_
       refine takeN 14 ?_
       refine takeN 15 ?_
       refine takeN 16 ?_
       refine wpAnyH_ready (rs := [17]) (by kernel_rfl) (by simp) ?_
       refine AllReadyH.cons (o := _) rfl (fun K hK => ?_) AllReadyH.nil
       go_simp
       go_at_call 90
       refine (HER.out _ HX3.out.thenDrew.thenDrew).mono ?_
       rintro e we2 ⟨rfl, hoe⟩
       have HX5 := Lib.hid (HX3.out.thenDrew.thenDrew.then hoe)
       refine hK.out _ _ (HKS.out _ HX5.out) (fun hHeld => ?_)
       clear hK K
       try simp only [Act.put, List.setIfInBounds_toArray, List.set_cons_zero, List.set_cons_succ]
       clear hoe
       refine takeN 18 ?_
       refine takeN 19 ?_
       refine wpAnyH_done (by kernel_rfl) ?_ _
       go_wp2_with fail
       go_roundw
       case rel => exact ⟨j + 1, HJ.out, by go_num, Lib.hid (HX.out.then HX5.out)⟩
       case measure => have := HJ.out; simp [intOf]; omega
     case neg =>
      have hltz : ¬ (j : Int) < (ls.length : Int) := by omega
      clear hj hlt
      go_wp2_with fail
      go_ret
      exact ⟨rfl, HXW.out.then HX.out⟩
end Go.Proofs.YtnmhaipjfpongacGreatDoor
