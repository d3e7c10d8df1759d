/- Texts of this seat laid together for one claim: F5, F6, F7, J0, J1. No condition of its own: what each proves stands with its theorems. -/
import Derived.Laws.EntriesVeiled
import Derived.Test.YtnmhaipjfpongacGreatDoorSA11
import Derived.BigQuiet
import Derived.Deep.RegionHeld3
import Derived.Test.YtnmhaipjfpongacGreatDoorSA9
import Derived.Deep.LoopGhost
import Derived.Test.YtnmhaipjfpongacGreatDoorSA1
namespace Go.Proofs.YtnmhaipjfpongacGreatDoor
open Go.ChangeShapes Go.WideShapes Go.ChangeAt Go.RowKit

structure ActVars (w : World) (P : Nat → Addr) : Prop where
 errs : Errs w P [2, 4, 9]
 max : HasMax w
 atoi : AtoiVars w
 pow : Pow w
theorem ActVars.ext {w w' : World} {P : Nat → Addr} (h : ActVars w P) (ho : Ext w w') : ActVars w' P := ⟨h.errs.ext ho, h.max.ext ho, h.atoi.ext ho, h.pow.ext ho⟩

theorem kind_none {name : B} (h : kinds.lookup name = none) {w : World} {b : Nat} (hk : KMap .string S encK w b kinds) :
  (Instr.lookup 258 (.map (some b)) (S name) true).run Tryz.prog w = .ok (.tuple #[.agg #[I 0, I 0, .nilFunc, .nilFunc], .bool false]) w := by
 have := KMap.look (P := Tryz.prog) keyOk_str hk Tryz.underlying258 Tryz.underlying9 (z := .agg #[I 0, I 0, .nilFunc, .nilFunc]) (by kernel_rfl) name
 rw [h] at this
 exact this

theorem kind_some {name : B} {k : Kd} (h : kinds.lookup name = some k) {w : World} {b : Nat} (hk : KMap .string S encK w b kinds) :
  (Instr.lookup 258 (.map (some b)) (S name) true).run Tryz.prog w = .ok (.tuple #[.agg #[I k.least, I k.most, FV k.wordF, FV k.runF], .bool true]) w := by
 have := KMap.look (P := Tryz.prog) keyOk_str hk Tryz.underlying258 Tryz.underlying9 (z := .agg #[I 0, I 0, .nilFunc, .nilFunc]) (by kernel_rfl) name
 rw [h] at this
 exact this

theorem kind_some1 {name : B} {k : Kd} (h : kinds.lookup name = some k) {w : World} {b : Nat} (hk : KMap .string S encK w b kinds) :
  (Instr.lookup 258 (.map (some b)) (S name) false).run Tryz.prog w = .ok (.agg #[I k.least, I k.most, FV k.wordF, FV k.runF]) w := by
 have := KMap.look1 (P := Tryz.prog) keyOk_str hk Tryz.underlying258 Tryz.underlying9 (z := .agg #[I 0, I 0, .nilFunc, .nilFunc]) (by kernel_rfl) name
 rw [h] at this
 exact this

set_option maxRecDepth 100000 in
set_option maxHeartbeats 2000000 in
theorem actCheck_any (w : World) (P : Nat → Addr) (name wd : B) (n : Nat) (hw : wd.length ≤ 1000000) (hv : ActVars w P) :
  Calls Tryz.prog 191 #[S name, S wd, I n] w (RetE (errC P (actCode name wd n)) w) := by
 cases hk : kinds.lookup name with
 | none =>
  have hc : actCode name wd n = 5 := by unfold actCode; rw [hk]
  rw [hc]
  have HKN := Lib.hid (fun (w1 : World) b (h : KMap .string S encK w1 b kinds) => kind_none hk h)
  have HV := Lib.hid hv
  clear hc hk hv
  go_enter Tryz.func191, Tryz.ntmps191
  go_wp2_with fail
  refine (kinds_any w).mono ?_
  rintro e w1 ⟨b, rfl, hm, ho⟩
  have HO := Lib.hid ho
  have HM := Lib.hid hm
  clear ho hm
  have hlk := HKN.out w1 b HM.out
  have c0 := fun o => (HV.out.ext (HO.out.thenAlloc o)).errs.var 4 _ (by decide) rfl
  go_wp2_with fail
  go_ret
  exact ⟨rfl, by first | exact HO.out.thenAlloc _ | exact (HO.out.thenAlloc _).thenDrewN _⟩
 | some k =>
  have HKS := Lib.hid (fun (w1 : World) b (h : KMap .string S encK w1 b kinds) => kind_some hk h)
  have HWD := Lib.hid (fun W (hW : Ext w W) => word_any W k wd hw (hv.atoi.ext hW) (hv.pow.ext hW))
  have HV := Lib.hid hv
  have eg := enters_word k
  have hcode : actCode name wd n = if n < k.least ∨ k.most < n ∨ k.word wd = false then 3 else if 100 < wd.length then 10 else 0 := by unfold actCode; rw [hk]
  generalize k.wordF = gw at *
  generalize k.runF = gr at *
  generalize k.least = lo at *
  generalize k.most = hi at *
  generalize k.word wd = r at *
  clear hk hv
  by_cases h1 : n < lo
  ·rw [if_pos (.inl h1)] at hcode
   rw [hcode]
   have h1z : (n : Int) < (lo : Int) := by omega
   clear hcode h1 eg
   go_enter Tryz.func191, Tryz.ntmps191
   go_wp2_with fail
   refine (kinds_any w).mono ?_
   rintro e w1 ⟨b, rfl, hm, ho⟩
   have HO := Lib.hid ho
   have HM := Lib.hid hm
   clear ho hm
   have hlk := HKS.out w1 b HM.out
   have c0 := fun o => (HV.out.ext (HO.out.thenAlloc o)).errs.var 2 _ (by decide) rfl
   go_wp2_with fail
   go_ret
   exact ⟨rfl, HO.out.thenAlloc _⟩
  ·have h1z : ¬ (n : Int) < (lo : Int) := by omega
   by_cases h2 : hi < n
   ·rw [if_pos (.inr (.inl h2))] at hcode
    rw [hcode]
    have h2z : (hi : Int) < (n : Int) := by omega
    clear hcode h1 h2 eg
    go_enter Tryz.func191, Tryz.ntmps191
    go_wp2_with fail
    refine (kinds_any w).mono ?_
    rintro e w1 ⟨b, rfl, hm, ho⟩
    have HO := Lib.hid ho
    have HM := Lib.hid hm
    clear ho hm
    have hlk := HKS.out w1 b HM.out
    have c0 := fun o => (HV.out.ext (HO.out.thenAlloc o)).errs.var 2 _ (by decide) rfl
    go_wp2_with fail
    go_ret
    exact ⟨rfl, HO.out.thenAlloc _⟩
   ·have h2z : ¬ (hi : Int) < (n : Int) := by omega
    cases r with
    | false =>
     rw [if_pos (.inr (.inr rfl))] at hcode
     rw [hcode]
     clear hcode h1 h2
     go_enter Tryz.func191, Tryz.ntmps191
     go_wp2_with fail
     refine (kinds_any w).mono ?_
     rintro e w1 ⟨b, rfl, hm, ho⟩
     have HO := Lib.hid ho
     have HM := Lib.hid hm
     clear ho hm
     have hlk := HKS.out w1 b HM.out
     go_wp2_with fail
     refine (HWD.out _ (HO.out.thenAlloc _)).mono ?_
     rintro e w2 ⟨rfl, ho2⟩
     have HO2 := Lib.hid ((HO.out.thenAlloc _).then ho2)
     clear ho2
     have c0 := (HV.out.ext HO2.out).errs.var 2 _ (by decide) rfl
     go_wp2_with fail
     go_ret
     exact ⟨rfl, HO2.out⟩
    | true =>
     rw [if_neg (by simp; omega)] at hcode
     clear h1 h2
     by_cases h3 : 100 < wd.length
     ·rw [if_pos h3] at hcode
      rw [hcode]
      have h3z : (100 : Int) < (wd.length : Int) := by omega
      clear hcode h3
      go_enter Tryz.func191, Tryz.ntmps191
      go_wp2_with fail
      refine (kinds_any w).mono ?_
      rintro e w1 ⟨b, rfl, hm, ho⟩
      have HO := Lib.hid ho
      have HM := Lib.hid hm
      clear ho hm
      have hlk := HKS.out w1 b HM.out
      go_wp2_with fail
      refine (HWD.out _ (HO.out.thenAlloc _)).mono ?_
      rintro e w2 ⟨rfl, ho2⟩
      have HO2 := Lib.hid ((HO.out.thenAlloc _).then ho2)
      clear ho2
      have c0 := (HV.out.ext HO2.out).errs.var 9 _ (by decide) rfl
      go_wp2_with fail
      go_ret
      exact ⟨rfl, HO2.out⟩
     ·rw [if_neg h3] at hcode
      rw [hcode]
      have h3z : ¬ (100 : Int) < (wd.length : Int) := by omega
      clear hcode h3
      go_enter Tryz.func191, Tryz.ntmps191
      go_wp2_with fail
      refine (kinds_any w).mono ?_
      rintro e w1 ⟨b, rfl, hm, ho⟩
      have HO := Lib.hid ho
      have HM := Lib.hid hm
      clear ho hm
      have hlk := HKS.out w1 b HM.out
      go_wp2_with fail
      refine (HWD.out _ (HO.out.thenAlloc _)).mono ?_
      rintro e w2 ⟨rfl, ho2⟩
      have HO2 := Lib.hid ((HO.out.thenAlloc _).then ho2)
      clear ho2
      go_wp2_with fail
      go_ret
      exact ⟨rfl, HO2.out⟩

theorem join_le (sep : B) : ∀ l : List B, (Lib.join l sep).length ≤ sumLen l + l.length * sep.length
 | [] => by simp [Lib.join_nil]
 | x :: r => by
  have h : ∀ q : List B, (Lib.joinTail sep q).length ≤ sumLen q + q.length * sep.length := fun q => by
   induction q with
   | nil => simp [Lib.joinTail]
   | cons y q ih =>
    have e : Lib.joinTail sep (y :: q) = sep ++ y ++ Lib.joinTail sep q := by simp [Lib.joinTail]
    rw [e, sum_cons, List.length_cons, Nat.succ_mul]
    simp
    omega
  have e : Lib.join (x :: r) sep = x ++ Lib.joinTail sep r := Lib.join_cons x r sep
  rw [e, List.length_append, sum_cons, List.length_cons, Nat.succ_mul]
  have := h r
  omega

theorem joinX_any (w : World) (v : Value) (l : List B) (sep : B) (hv : Rd S w v l) (hn : l.length ≤ 1000000) (hl : (Lib.join l sep).length ≤ 140737488355328) :
  Calls Tryz.prog 144 #[v, S sep] w (RetE (S (Lib.join l sep)) w) := by
 obtain ⟨a, cap, rfl, h1, h2, h3⟩ := hv
 cases l with
 | nil =>
  refine (Tryz.strings_Join_none a cap ⟨sep.toArray⟩ w).mono ?_
  rintro e w' ⟨rfl, rfl⟩
  exact ⟨rfl, Only.refl _ _⟩
 | cons x r =>
  obtain ⟨b, off, rfl, hc⟩ := h3 (by simp)
  have hb : b < w.heap.size := lt_of_cell (hc 0 x rfl)
  have hcells : ∀ (j : Nat) y, ((x :: r).map fun z => (⟨z.toArray⟩ : ByteArray))[j]? = some y → w.cell? ⟨b, off + j, none⟩ = some (.string y) := fun j y hy => by
   rw [List.getElem?_map] at hy
   obtain ⟨z, hz, rfl⟩ := Option.map_eq_some_iff.1 hy
   exact hc j z hz
  have hm : (((x :: r).map fun z => (⟨z.toArray⟩ : ByteArray)).map (·.data.toList)) = x :: r := by
   rw [List.map_map]; exact List.map_id _
  have hj : Lib.join (((x :: r).map fun z => (⟨z.toArray⟩ : ByteArray)).map (·.data.toList)) (⟨sep.toArray⟩ : ByteArray).data.toList = Lib.join (x :: r) sep := by rw [hm]
  have hlen : ((x :: r).map fun z => (⟨z.toArray⟩ : ByteArray)).length = (x :: r).length := by simp
  have h := Tryz.strings_Join b off cap ((x :: r).map fun z => (⟨z.toArray⟩ : ByteArray)) ⟨sep.toArray⟩ w hcells hb (by rw [hlen]; omega) (by rw [hlen]; exact h1) (by rw [hj]; exact hl)
  rw [hlen] at h
  refine h.mono ?_
  rintro e w' ⟨rfl, hbl⟩
  exact ⟨by rw [hj], Only.of_below hbl⟩

theorem join_run (w : World) (wd : B) (l : List B) (v : Value) (hv : Rd S w v l) (hb : sumLen l + l.length ≤ 900000) (hw : wd.length ≤ 1000) :
  Calls Tryz.prog 257 #[S wd, v] w (RetE (S (Lib.join l wd)) w) := by
 have hj : Calls Tryz.prog 144 #[v, S wd] w (RetE (S (Lib.join l wd)) w) := joinX_any w v l wd hv (by omega) (by
  have h1 := join_le wd l
  have h2 : l.length * wd.length ≤ 900000 * 1000 := Nat.mul_le_mul (by omega) hw
  omega)
 have HJ := Lib.hid hj
 obtain ⟨a, cap, rfl, _, _, _⟩ := hv
 clear hj
 go_enter Tryz.func257, Tryz.ntmps257
 go_wp2_with fail
 refine (HJ.out).mono ?_
 rintro e w1 ⟨rfl, ho⟩
 have HO := Lib.hid ho
 clear ho
 go_wp2_with fail
 go_ret
 exact ⟨rfl, HO.out⟩

theorem write_run (w : World) (wd : B) (v : Value) : Calls Tryz.prog 256 #[S wd, v] w (RetE (S wd) w) := by
 go_enter Tryz.func256, Tryz.ntmps256
 go_wp2_with fail
 go_ret
 exact ⟨rfl, Only.refl _ _⟩

theorem pair_cut {wd : B} (h : pairB wd = true) : (cut1 61 wd).1 ≠ [] := by
 intro e
 obtain ⟨_, h2, h3⟩ := cut1_spec 61 wd
 unfold pairB at h
 cases hf : (cut1 61 wd).2.2 with
 | true =>
  have := h2 hf
  rw [e] at this
  rw [this] at h
  simp at h
 | false =>
  have := (h3 hf).1
  rw [this] at e
  simp only at e
  rw [e] at h
  simp at h

theorem run_kind (w : World) (P : Nat → Addr) (k : Kd) (wd : B) (l : List B) (v : Value) (hv : Rd S w v l) (hb : sumLen l + l.length ≤ 900000) (hw : wd.length ≤ 1000) (h1 : k.least ≤ l.length) (h2 : k.word wd = true) (hA : ActVars w P) :
  Calls Tryz.prog k.runF #[S wd, v] w (RetE (S (k.run wd l)) w) := by
 have hx : ∀ x r, l = x :: r → x.length ≤ 900000 := fun x r e => by subst e; rw [sum_cons] at hb; omega
 cases k with
 | write => exact write_run w wd v
 | join => exact join_run w wd l v hv hb hw
 | sort => exact sorted_any w wd l v hv hb hA.max
 | count => exact count_any w wd l v hv hb hA.max hA.pow
 | upper =>
  cases l with
  | nil => simp [Kd.least] at h1
  | cons x r => exact upper_any w wd x r v hv (by have := hx x r rfl; omega)
 | lines =>
  cases l with
  | nil => simp [Kd.least] at h1
  | cons x r => exact actLines_any w wd x r v hv (hx x r rfl) hA.max
 | swap =>
  cases l with
  | nil => simp [Kd.least] at h1
  | cons x r => exact swap_any w wd x r v hv (hx x r rfl) hw (pair_cut h2) hA.max
 | head =>
  cases l with
  | nil => simp [Kd.least] at h1
  | cons x r =>
   obtain ⟨n, hn⟩ := Option.isSome_iff_exists.1 h2
   have := head_any w wd x r v n hv (hx x r rfl) hn hA.max
   show Calls _ _ _ _ (RetE (S (endedB ((linesB x).take ((numB 3 wd).getD 0)))) w)
   rw [hn]
   exact this
end Go.Proofs.YtnmhaipjfpongacGreatDoor

namespace Go.Proofs.YtnmhaipjfpongacGreatDoor
open Go.ChangeShapes Go.WideShapes Go.ChangeAt Go.RowKit

theorem actCode_ok {name wd : B} {n : Nat} (h : actCode name wd n = 0) : ∃ k, kinds.lookup name = some k ∧ k.least ≤ n ∧ k.word wd = true ∧ wd.length ≤ 100 := by
 unfold actCode at h
 cases hk : kinds.lookup name with
 | none => rw [hk] at h; cases h
 | some k =>
  rw [hk] at h
  simp only at h
  split at h
  ·cases h
  ·rename_i h1
   split at h
   ·cases h
   ·refine ⟨k, rfl, by omega, ?_, by omega⟩
    cases hw : k.word wd with
    | true => rfl
    | false => exact absurd (.inr (.inr hw)) h1

set_option maxRecDepth 100000 in
set_option maxHeartbeats 2000000 in
theorem actRun_any (w : World) (P : Nat → Addr) (name wd : B) (l : List B) (v : Value) (hv : Rd S w v l) (hb : sumLen l + l.length ≤ 900000) (hw : wd.length ≤ 1000) (hA : ActVars w P) :
  Calls Tryz.prog 125 #[S name, S wd, v] w (RetE (.tuple #[S (runOut name wd l), errC P (runCode name wd l)]) w) := by
 have HC := Lib.hid (actCheck_any w P name wd l.length (by omega) hA)
 cases hc : actCode name wd l.length with
 | succ c =>
  have e1 : runCode name wd l = c + 1 := by unfold runCode; rw [hc, if_neg (Nat.succ_ne_zero _)]
  have e2 : runOut name wd l = [] := by unfold runOut; rw [e1, if_neg (Nat.succ_ne_zero _)]
  rw [e1, e2, show errC P (c + 1) = errV (P c) from rfl]
  rw [hc, show errC P (c + 1) = errV (P c) from rfl] at HC
  obtain ⟨a, cap, rfl, _, _, _⟩ := hv
  clear e1 e2 hc hA hb hw
  go_enter Tryz.func125, Tryz.ntmps125
  go_wp2_with fail
  refine (HC.out).mono ?_
  rintro e w1 ⟨rfl, ho⟩
  have HO := Lib.hid ho
  clear ho
  go_wp2_with fail
  go_ret2
  exact ⟨rfl, HO.out⟩
 | zero =>
  obtain ⟨k, hk, h1, h2, h3⟩ := actCode_ok hc
  have HR := Lib.hid (fun W (hW : Ext w W) => run_kind W P k wd l v (hv.ext hW) hb hw h1 h2 (hA.ext hW))
  have HKS := Lib.hid (fun (w1 : World) b (h : KMap .string S encK w1 b kinds) => kind_some1 hk h)
  have eg := enters_run k
  rw [hc, show errC P 0 = .nilIface from rfl] at HC
  have e0 : actOut name wd l = k.run wd l := by unfold actOut; rw [hk]
  have e1 : runCode name wd l = if 2000 < (k.run wd l).length then 10 else 0 := by unfold runCode; rw [hc, if_pos rfl, e0]
  have e2 : runOut name wd l = if 2000 < (k.run wd l).length then [] else k.run wd l := by
   unfold runOut
   rw [e1, e0]
   by_cases h : 2000 < (k.run wd l).length
   ·rw [if_pos h, if_pos h, if_neg (by decide)]
   ·rw [if_neg h, if_neg h, if_pos rfl]
  rw [e1, e2]
  have HV := Lib.hid hA
  generalize k.run wd l = out at *
  generalize k.wordF = gw at *
  generalize k.runF = gr at *
  generalize k.least = lo at *
  generalize k.most = hi at *
  have hfd : ∀ w, (Instr.field 257 (.agg #[I lo, I hi, FV gw, FV gr]) 3).run Tryz.prog w = .ok (FV gr) w := fun w => by kernel_rfl
  obtain ⟨a, cap, rfl, _, _, _⟩ := hv
  clear e0 e1 e2 hk h1 h2 h3 hc hA
  by_cases hl : 2000 < out.length
  ·rw [if_pos hl, if_pos hl, show errC P 10 = errV (P 9) from rfl]
   have hlz : (2000 : Int) < (out.length : Int) := by omega
   clear hl
   go_enter Tryz.func125, Tryz.ntmps125
   go_wp2_with fail
   refine (HC.out).mono ?_
   rintro e w1 ⟨rfl, ho⟩
   have HO := Lib.hid ho
   clear ho
   go_wp2_with fail
   refine (kinds_any w1).mono ?_
   rintro e w2 ⟨b, rfl, hm, ho⟩
   have HO2 := Lib.hid (HO.out.then ho)
   have HM := Lib.hid hm
   clear hm ho
   have hlk := HKS.out w2 b HM.out
   go_wp2_with fail
   refine (HR.out _ HO2.out).mono ?_
   rintro e w3 ⟨rfl, ho⟩
   have HO3 := Lib.hid (HO2.out.then ho)
   clear ho
   have c0 := (HV.out.ext HO3.out).errs.var 9 _ (by decide) rfl
   go_wp2_with fail
   go_quiet (fail)
   go_wp2
   go_ret2
   exact ⟨rfl, HO3.out.thenDrewN _⟩
  ·rw [if_neg hl, if_neg hl, show errC P 0 = .nilIface from rfl]
   have hlz : ¬ (2000 : Int) < (out.length : Int) := by omega
   clear hl
   go_enter Tryz.func125, Tryz.ntmps125
   go_wp2_with fail
   refine (HC.out).mono ?_
   rintro e w1 ⟨rfl, ho⟩
   have HO := Lib.hid ho
   clear ho
   go_wp2_with fail
   refine (kinds_any w1).mono ?_
   rintro e w2 ⟨b, rfl, hm, ho⟩
   have HO2 := Lib.hid (HO.out.then ho)
   have HM := Lib.hid hm
   clear hm ho
   have hlk := HKS.out w2 b HM.out
   go_wp2_with fail
   refine (HR.out _ HO2.out).mono ?_
   rintro e w3 ⟨rfl, ho⟩
   have HO3 := Lib.hid (HO2.out.then ho)
   clear ho
   go_wp2_with fail
   go_ret2
   exact ⟨rfl, HO3.out⟩
end Go.Proofs.YtnmhaipjfpongacGreatDoor

namespace Go.Proofs.YtnmhaipjfpongacGreatDoor
open Go.ChangeShapes Go.WideShapes Go.ChangeAt Go.RowKit

theorem sortB_len (l : List B) : (sortB l).length = l.length := List.length_mergeSort _
end Go.Proofs.YtnmhaipjfpongacGreatDoor

namespace Go.Proofs.YtnmhaipjfpongacGreatDoor
open Go.ChangeShapes Go.WideShapes Go.ChangeAt Go.RowKit

theorem nodup_len {α : Type} [DecidableEq α] : ∀ {a b : List α}, a.Nodup → (∀ x ∈ a, x ∈ b) → a.length ≤ b.length
 | [], _, _, _ => Nat.zero_le _
 | x :: a, b, h, hs => by
  rw [List.nodup_cons] at h
  have hx := hs x (.head _)
  have := nodup_len (a := a) (b := b.erase x) h.2 (fun y hy => (List.mem_erase_of_ne (fun (e : y = x) => h.1 (e ▸ hy))).2 (hs y (.tail _ hy)))
  rw [List.length_erase_of_mem hx] at this
  have := List.length_pos_of_mem hx
  rw [List.length_cons]
  omega
theorem nodup_inj {α : Type} {l : List α} (h : l.Nodup) {i j : Nat} {x : α} (hi : l[i]? = some x) (hj : l[j]? = some x) : i = j := by
 obtain ⟨a, ha⟩ := List.getElem?_eq_some_iff.1 hi
 obtain ⟨b, hb⟩ := List.getElem?_eq_some_iff.1 hj
 rcases Nat.lt_trichotomy i j with e | e | e
 ·exact absurd (ha.trans hb.symm) (List.pairwise_iff_getElem.1 h i j a b e)
 ·exact e
 ·exact absurd (hb.trans ha.symm) (List.pairwise_iff_getElem.1 h j i b a e)


structure Rule where
 out : B
 kind : B
 word : B
 ins : List B

structure RuleSm (n : Nat) (r : Rule) : Prop where
 out : r.out.length ≤ n
 kind : r.kind.length ≤ n
 word : r.word.length ≤ n
 many : r.ins.length ≤ n
 ins : ∀ s ∈ r.ins, s.length ≤ n

def ruleCode (r : Rule) : Nat :=
 if pathOk r.out = false then 4
 else if actCode r.kind r.word r.ins.length ≠ 0 then actCode r.kind r.word r.ins.length
 else if r.ins.all pathOk = false then 4
 else if r.out ∈ r.ins ∨ ¬ r.ins.Nodup then 7 else 0

def sheetGo (seen : List B) (i : Nat) : List Rule → Nat × Int
 | [] => (0, -1)
 | r :: l => if ruleCode r ≠ 0 then (ruleCode r, (i : Int)) else if r.out ∈ seen then (7, (i : Int)) else sheetGo (seen ++ [r.out]) (i + 1) l
def sheetFault (l : List Rule) : Nat × Int := if 40 < l.length then (2, -1) else sheetGo [] 0 l

theorem actCode_le (a b : B) (n : Nat) : actCode a b n ≤ 12 := by
 unfold actCode
 split
 ·omega
 ·split
  ·omega
  ·split <;> omega
theorem ruleCode_le (r : Rule) : ruleCode r ≤ 12 := by
 unfold ruleCode
 have := actCode_le r.kind r.word r.ins.length
 repeat' split
 all_goals omega

def RightS (l : List Rule) : Prop := l.length ≤ 40 ∧ (∀ r ∈ l, ruleCode r = 0) ∧ (l.map Rule.out).Nodup

theorem sheetGo_ok : ∀ (l : List Rule) (seen : List B) (i : Nat), (sheetGo seen i l).1 = 0 ↔ (∀ r ∈ l, ruleCode r = 0) ∧ (l.map Rule.out).Nodup ∧ ∀ r ∈ l, r.out ∉ seen
 | [], _, _ => by simp [sheetGo]
 | r :: l, seen, i => by
  unfold sheetGo
  by_cases h1 : ruleCode r = 0
  ·rw [if_neg (by simpa using h1)]
   by_cases h2 : r.out ∈ seen
   ·rw [if_pos h2]
    simp [h2]
   ·rw [if_neg h2, sheetGo_ok l (seen ++ [r.out]) (i + 1)]
    simp only [List.mem_cons, forall_eq_or_imp, h1, true_and, List.map_cons, List.nodup_cons, List.mem_append, List.not_mem_nil, or_false, not_or]
    constructor
    ·rintro ⟨a, b, c⟩
     refine ⟨a, ⟨fun h => ?_, b⟩, h2, fun x hx => (c x hx).1⟩
     obtain ⟨x, hx, e⟩ := List.mem_map.1 h
     exact (c x hx).2 e
    ·rintro ⟨a, ⟨b, c⟩, _, d⟩
     exact ⟨a, c, fun x hx => ⟨d x hx, fun e => b (List.mem_map.2 ⟨x, hx, e⟩)⟩⟩
  ·rw [if_pos h1]
   simp [h1]

theorem sheet_ok {l : List Rule} : (sheetFault l).1 = 0 ↔ RightS l := by
 unfold sheetFault RightS
 by_cases h : 40 < l.length
 ·rw [if_pos h]
  simp
  omega
 ·rw [if_neg h, sheetGo_ok]
  simp
  omega

theorem sheetGo_zero : ∀ (l : List Rule) (seen : List B) (i : Nat), (sheetGo seen i l).1 = 0 → (sheetGo seen i l).2 = -1
 | [], _, _, _ => rfl
 | r :: l, seen, i, h => by
  unfold sheetGo at h ⊢
  by_cases h1 : ruleCode r ≠ 0
  ·rw [if_pos h1] at h; exact absurd h h1
  ·rw [if_neg h1] at h ⊢
   by_cases h2 : r.out ∈ seen
   ·rw [if_pos h2] at h; cases h
   ·rw [if_neg h2] at h ⊢; exact sheetGo_zero l _ _ h
theorem sheet_zero {l : List Rule} (h : (sheetFault l).1 = 0) : sheetFault l = (0, -1) := by
 have : (sheetFault l).2 = -1 := by
  unfold sheetFault at h ⊢
  by_cases h1 : 40 < l.length
  ·rw [if_pos h1]
  ·rw [if_neg h1] at h ⊢; exact sheetGo_zero _ _ _ h
 exact Prod.ext h this

def RdR (w : World) (v : Value) (l : List Rule) : Prop :=
 ∃ a cap, v = .slice a l.length cap ∧ l.length ≤ cap ∧ cap ≤ maxLen ∧ (l ≠ [] → ∃ b off, a = some ⟨b, off, none⟩ ∧
  ∀ (i : Nat) r, l[i]? = some r → ∃ u, Rd S w u r.ins ∧ w.cell? ⟨b, off + i * 4, none⟩ = some (S r.out) ∧ w.cell? ⟨b, off + i * 4 + 1, none⟩ = some (S r.kind) ∧ w.cell? ⟨b, off + i * 4 + 2, none⟩ = some (S r.word) ∧ w.cell? ⟨b, off + i * 4 + 3, none⟩ = some u)

theorem RdR.nil (w : World) : RdR w (.slice none 0 0) [] := ⟨none, 0, rfl, Nat.le_refl _, Nat.zero_le _, fun h => absurd rfl h⟩
theorem RdR.ext {w w' : World} {v : Value} {l : List Rule} (h : RdR w v l) (ho : Ext w w') : RdR w' v l := by
 obtain ⟨a, cap, h1, h2, h3, h4⟩ := h
 refine ⟨a, cap, h1, h2, h3, fun hl => ?_⟩
 obtain ⟨b, off, h5, h6⟩ := h4 hl
 refine ⟨b, off, h5, fun i r hr => ?_⟩
 obtain ⟨u, c, c0, c1, c2, c3⟩ := h6 i r hr
 exact ⟨u, c.ext ho, ho.cellOf c0 (fun h => h), ho.cellOf c1 (fun h => h), ho.cellOf c2 (fun h => h), ho.cellOf c3 (fun h => h)⟩

theorem RdR.take {w : World} {a : Option Addr} {cap : Nat} {l : List Rule} (h : RdR w (.slice a l.length cap) l) (j : Nat) (hj : j ≤ l.length) : RdR w (.slice a j cap) (l.take j) := by
 obtain ⟨a', cap', h1, h2, h3, h4⟩ := h
 cases h1
 have e : (l.take j).length = j := by rw [List.length_take]; omega
 refine ⟨a, cap, by rw [e], by omega, h3, fun hl => ?_⟩
 obtain ⟨b, off, h5, h6⟩ := h4 (fun e => hl (by rw [e]; simp))
 refine ⟨b, off, h5, fun i r hr => h6 i r ?_⟩
 rw [List.getElem?_take] at hr
 split at hr
 ·exact hr
 ·cases hr

abbrev AggR (r : Rule) (u : Value) : Value := .agg #[S r.out, S r.kind, S r.word, u]

def idx {α : Type} (p : α → Bool) (l : List α) : Int := match l.findIdx? p with | some i => (i : Int) | none => -1
theorem idx_hit {α : Type} {p : α → Bool} {l : List α} {k : Nat} {x : α} (hx : l[k]? = some x) (hp : p x = true) (hb : ∀ j y, j < k → l[j]? = some y → p y = false) : idx p l = k := by
 have : l.findIdx? p = some k := by
  rw [List.findIdx?_eq_some_iff_getElem]
  obtain ⟨h1, h2⟩ := List.getElem?_eq_some_iff.1 hx
  refine ⟨h1, by rw [h2]; exact hp, fun j hj => ?_⟩
  have := hb j _ hj (List.getElem?_eq_getElem (by omega))
  simpa using this
 unfold idx
 rw [this]
theorem idx_none {α : Type} {p : α → Bool} {l : List α} (hb : ∀ (j : Nat) y, l[j]? = some y → p y = false) : idx p l = -1 := by
 have : l.findIdx? p = none := by
  rw [List.findIdx?_eq_none_iff]
  intro x hx
  obtain ⟨i, hi⟩ := List.getElem?_of_mem hx
  exact hb i x hi
 unfold idx
 rw [this]
theorem idx_any {α : Type} (p : α → Bool) (l : List α) : decide (0 ≤ idx p l) = l.any p := by
 unfold idx
 cases h : l.findIdx? p with
 | none =>
  rw [List.findIdx?_eq_none_iff] at h
  have : l.any p = false := by rw [List.any_eq_false]; intro x hx; simpa using h x hx
  rw [this]
  rfl
 | some i =>
  rw [List.findIdx?_eq_some_iff_getElem] at h
  obtain ⟨h1, h2, _⟩ := h
  have : l.any p = true := List.any_eq_true.2 ⟨l[i], List.getElem_mem h1, h2⟩
  rw [this]
  exact decide_eq_true (Int.natCast_nonneg i)
end Go.Proofs.YtnmhaipjfpongacGreatDoor

namespace Go.Proofs.YtnmhaipjfpongacGreatDoor
open Go.ChangeShapes Go.WideShapes Go.ChangeAt Go.RowKit

set_option maxHeartbeats 1000000 in
theorem indexFunc_R1 (g : Nat) (x0 : Value) (p : Rule → Bool) (w : World) (v : Value) (l : List Rule) (hv : RdR w v l) (eg : ∀ args w, (callFunc g args).run Tryz.prog w = .ok (.enter g args) w)
  (hp : ∀ w1, Ext w w1 → ∀ r u, r ∈ l → Rd S w1 u r.ins → Calls Tryz.prog g #[AggR r u, x0] w1 (RetE (.bool (p r)) w1)) :
  Calls Tryz.prog 161 #[v, .func (.func g) #[] #[x0]] w (RetE (I (idx p l)) w) := by
 obtain ⟨a, cap, rfl, hcap, hm, hc⟩ := hv
 have hm' : l.length ≤ 9223372036854775807 := by unfold maxLen at hm; omega
 obtain ⟨R, hR⟩ : ∃ R, Hid (R = idx p l) := ⟨_, Lib.hid rfl⟩
 rw [← hR.out]
 clear hm
 have HP := Lib.hid hp
 have HC := Lib.hid hc
 clear hp hc
 go_enter Tryz.func161, Tryz.ntmps161
 go_wp2
 go_loopw [8] (fun i wr => ∃ k : Nat, k ≤ l.length ∧ i = .int .i64 k ∧ Hid (∀ j x, j < k → l[j]? = some x → p x = false) ∧ Hid (Ext w wr)) (fun i _ => l.length + 1 - (intOf i).toNat)
 case atStart => exact ⟨0, Nat.zero_le _, rfl, Lib.hid (fun j x h => absurd h (Nat.not_lt_zero _)), Lib.hid (Only.refl _ _)⟩
 case round =>
  obtain ⟨k, hk, rfl, HB, HX⟩ := hrel
  by_cases hlt : k < l.length
  ·obtain ⟨b, off, rfl, hcell⟩ := HC.out (by intro h; rw [h] at hlt; simp at hlt)
   obtain ⟨x, hx⟩ : ∃ y, l[k]? = some y := ⟨_, List.getElem?_eq_getElem hlt⟩
   obtain ⟨u, hu, c0, c1, c2, c3⟩ := hcell k x hx
   have d0 := HX.out.cellOf c0 (fun h => h)
   have d1 := HX.out.cellOf c1 (fun h => h)
   have d2 := HX.out.cellOf c2 (fun h => h)
   have d3 := HX.out.cellOf c3 (fun h => h)
   have hp1 := HP.out wr HX.out x u (List.mem_of_getElem? hx) (hu.ext HX.out)
   clear hu c0 c1 c2 c3
   have HXX := Lib.hid hx
   clear hcell hx
   cases hq : p x with
   | false =>
    rw [hq] at hp1
    have HQ := Lib.hid hq
    have HP1 := Lib.hid hp1
    clear hq hp1
    go_wp2_with fail
    refine (HP1.out).mono ?_
    rintro e w' ⟨rfl, ho⟩
    have HX2 := Lib.hid (HX.out.ext ho)
    clear ho
    go_wp2
    go_roundw
    case rel => exact ⟨k + 1, by omega, by go_num, Lib.hid (fun j y hj hy => by
     rcases Nat.lt_succ_iff_lt_or_eq.1 hj with h | rfl
     ·exact HB.out j y h hy
     ·rw [HXX.out] at hy; cases hy; exact HQ.out), HX2⟩
    case measure => simp [intOf]; omega
   | true =>
    rw [hq] at hp1
    have HK := Lib.hid (idx_hit HXX.out hq HB.out)
    have HP1 := Lib.hid hp1
    clear hp1
    clear hq
    go_wp2_with fail
    refine (HP1.out).mono ?_
    rintro e w' ⟨rfl, ho⟩
    have HX2 := Lib.hid (HX.out.ext ho)
    clear ho
    go_wp2
    go_ret
    exact ⟨by rw [hR.out, HK.out]; rfl, HX2.out⟩
  ·have HK := Lib.hid (idx_none (p := p) (l := l) fun j y hy => HB.out j y (by have := (List.getElem?_eq_some_iff.1 hy).1; omega) hy)
   go_wp2
   go_ret
   exact ⟨by rw [hR.out, HK.out]; rfl, HX.out⟩

theorem containsFunc_R1 (g : Nat) (x0 : Value) (p : Rule → Bool) (w : World) (v : Value) (l : List Rule) (hv : RdR w v l) (eg : ∀ args w, (callFunc g args).run Tryz.prog w = .ok (.enter g args) w)
  (hp : ∀ w1, Ext w w1 → ∀ r u, r ∈ l → Rd S w1 u r.ins → Calls Tryz.prog g #[AggR r u, x0] w1 (RetE (.bool (p r)) w1)) :
  Calls Tryz.prog 158 #[v, .func (.func g) #[] #[x0]] w (RetE (.bool (l.any p)) w) := by
 have HI := Lib.hid (indexFunc_R1 g x0 p w v l hv eg hp)
 rw [← idx_any]
 generalize idx p l = R at HI ⊢
 obtain ⟨a, cap, rfl, _, _, _⟩ := hv
 clear hp eg
 go_enter Tryz.func158, Tryz.ntmps158
 go_wp2_with fail
 refine (HI.out).mono ?_
 rintro e w1 ⟨rfl, ho⟩
 have HO := Lib.hid ho
 clear ho
 go_wp2_with fail
 go_ret
 exact ⟨rfl, HO.out⟩

set_option maxHeartbeats 1000000 in
theorem indexFunc_I1 (g : Nat) (x0 : Value) (p : Int → Bool) (w : World) (v : Value) (l : List Int) (hv : Rd I w v l) (eg : ∀ args w, (callFunc g args).run Tryz.prog w = .ok (.enter g args) w)
  (hp : ∀ w1, Ext w w1 → ∀ x, x ∈ l → Calls Tryz.prog g #[I x, x0] w1 (RetE (.bool (p x)) w1)) :
  Calls Tryz.prog 278 #[v, .func (.func g) #[] #[x0]] w (RetE (I (idx p l)) w) := by
 obtain ⟨a, cap, rfl, hcap, hm, hc⟩ := hv
 have hm' : l.length ≤ 9223372036854775807 := by unfold maxLen at hm; omega
 obtain ⟨R, hR⟩ : ∃ R, Hid (R = idx p l) := ⟨_, Lib.hid rfl⟩
 rw [← hR.out]
 clear hm
 have HP := Lib.hid hp
 have HC := Lib.hid hc
 clear hp hc
 go_enter Tryz.func278, Tryz.ntmps278
 go_wp2
 go_loopw [8] (fun i wr => ∃ k : Nat, k ≤ l.length ∧ i = .int .i64 k ∧ Hid (∀ j x, j < k → l[j]? = some x → p x = false) ∧ Hid (Ext w wr)) (fun i _ => l.length + 1 - (intOf i).toNat)
 case atStart => exact ⟨0, Nat.zero_le _, rfl, Lib.hid (fun j x h => absurd h (Nat.not_lt_zero _)), Lib.hid (Only.refl _ _)⟩
 case round =>
  obtain ⟨k, hk, rfl, HB, HX⟩ := hrel
  by_cases hlt : k < l.length
  ·obtain ⟨b, off, rfl, hcell⟩ := HC.out (by intro h; rw [h] at hlt; simp at hlt)
   obtain ⟨x, hx⟩ : ∃ y, l[k]? = some y := ⟨_, List.getElem?_eq_getElem hlt⟩
   have d0 := HX.out.cellOf (hcell k x hx) (fun h => h)
   have hp1 := HP.out wr HX.out x (List.mem_of_getElem? hx)
   have HXX := Lib.hid hx
   clear hcell hx
   cases hq : p x with
   | false =>
    rw [hq] at hp1
    have HQ := Lib.hid hq
    have HP1 := Lib.hid hp1
    clear hq hp1
    go_wp2_with fail
    refine (HP1.out).mono ?_
    rintro e w' ⟨rfl, ho⟩
    have HX2 := Lib.hid (HX.out.ext ho)
    clear ho
    go_wp2
    go_roundw
    case rel => exact ⟨k + 1, by omega, by go_num, Lib.hid (fun j y hj hy => by
     rcases Nat.lt_succ_iff_lt_or_eq.1 hj with h | rfl
     ·exact HB.out j y h hy
     ·rw [HXX.out] at hy; cases hy; exact HQ.out), HX2⟩
    case measure => simp [intOf]; omega
   | true =>
    rw [hq] at hp1
    have HK := Lib.hid (idx_hit HXX.out hq HB.out)
    have HP1 := Lib.hid hp1
    clear hp1
    clear hq
    go_wp2_with fail
    refine (HP1.out).mono ?_
    rintro e w' ⟨rfl, ho⟩
    have HX2 := Lib.hid (HX.out.ext ho)
    clear ho
    go_wp2
    go_ret
    exact ⟨by rw [hR.out, HK.out]; rfl, HX2.out⟩
  ·have HK := Lib.hid (idx_none (p := p) (l := l) fun j y hy => HB.out j y (by have := (List.getElem?_eq_some_iff.1 hy).1; omega) hy)
   go_wp2
   go_ret
   exact ⟨by rw [hR.out, HK.out]; rfl, HX.out⟩

theorem containsFunc_I1 (g : Nat) (x0 : Value) (p : Int → Bool) (w : World) (v : Value) (l : List Int) (hv : Rd I w v l) (eg : ∀ args w, (callFunc g args).run Tryz.prog w = .ok (.enter g args) w)
  (hp : ∀ w1, Ext w w1 → ∀ x, x ∈ l → Calls Tryz.prog g #[I x, x0] w1 (RetE (.bool (p x)) w1)) :
  Calls Tryz.prog 211 #[v, .func (.func g) #[] #[x0]] w (RetE (.bool (l.any p)) w) := by
 have HI := Lib.hid (indexFunc_I1 g x0 p w v l hv eg hp)
 rw [← idx_any]
 generalize idx p l = R at HI ⊢
 obtain ⟨a, cap, rfl, _, _, _⟩ := hv
 clear hp eg
 go_enter Tryz.func211, Tryz.ntmps211
 go_wp2_with fail
 refine (HI.out).mono ?_
 rintro e w1 ⟨rfl, ho⟩
 have HO := Lib.hid ho
 clear ho
 go_wp2_with fail
 go_ret
 exact ⟨rfl, HO.out⟩

set_option maxHeartbeats 1000000 in
theorem indexFunc_S0 (g : Nat) (p : Nat → Bool) (w : World) (v : Value) (l : List Nat) (hv : Rd (fun b => .pointer (some ⟨b, 0, none⟩)) w v l) (eg : ∀ args w, (callFunc g args).run Tryz.prog w = .ok (.enter g args) w)
  (hp : ∀ w1, Ext w w1 → ∀ x, x ∈ l → Calls Tryz.prog g #[.pointer (some ⟨x, 0, none⟩)] w1 (RetE (.bool (p x)) w1)) :
  Calls Tryz.prog 252 #[v, .func (.func g) #[] #[]] w (RetE (I (idx p l)) w) := by
 obtain ⟨a, cap, rfl, hcap, hm, hc⟩ := hv
 have hm' : l.length ≤ 9223372036854775807 := by unfold maxLen at hm; omega
 obtain ⟨R, hR⟩ : ∃ R, Hid (R = idx p l) := ⟨_, Lib.hid rfl⟩
 rw [← hR.out]
 clear hm
 have HP := Lib.hid hp
 have HC := Lib.hid hc
 clear hp hc
 go_enter Tryz.func252, Tryz.ntmps252
 go_wp2
 go_loopw [8] (fun i wr => ∃ k : Nat, k ≤ l.length ∧ i = .int .i64 k ∧ Hid (∀ j x, j < k → l[j]? = some x → p x = false) ∧ Hid (Ext w wr)) (fun i _ => l.length + 1 - (intOf i).toNat)
 case atStart => exact ⟨0, Nat.zero_le _, rfl, Lib.hid (fun j x h => absurd h (Nat.not_lt_zero _)), Lib.hid (Only.refl _ _)⟩
 case round =>
  obtain ⟨k, hk, rfl, HB, HX⟩ := hrel
  by_cases hlt : k < l.length
  ·obtain ⟨b, off, rfl, hcell⟩ := HC.out (by intro h; rw [h] at hlt; simp at hlt)
   obtain ⟨x, hx⟩ : ∃ y, l[k]? = some y := ⟨_, List.getElem?_eq_getElem hlt⟩
   have d0 := HX.out.cellOf (hcell k x hx) (fun h => h)
   have hp1 := HP.out wr HX.out x (List.mem_of_getElem? hx)
   have HXX := Lib.hid hx
   clear hcell hx
   cases hq : p x with
   | false =>
    rw [hq] at hp1
    have HQ := Lib.hid hq
    have HP1 := Lib.hid hp1
    clear hq hp1
    go_wp2_with fail
    refine (HP1.out).mono ?_
    rintro e w' ⟨rfl, ho⟩
    have HX2 := Lib.hid (HX.out.ext ho)
    clear ho
    go_wp2
    go_roundw
    case rel => exact ⟨k + 1, by omega, by go_num, Lib.hid (fun j y hj hy => by
     rcases Nat.lt_succ_iff_lt_or_eq.1 hj with h | rfl
     ·exact HB.out j y h hy
     ·rw [HXX.out] at hy; cases hy; exact HQ.out), HX2⟩
    case measure => simp [intOf]; omega
   | true =>
    rw [hq] at hp1
    have HK := Lib.hid (idx_hit HXX.out hq HB.out)
    have HP1 := Lib.hid hp1
    clear hp1
    clear hq
    go_wp2_with fail
    refine (HP1.out).mono ?_
    rintro e w' ⟨rfl, ho⟩
    have HX2 := Lib.hid (HX.out.ext ho)
    clear ho
    go_wp2
    go_ret
    exact ⟨by rw [hR.out, HK.out]; rfl, HX2.out⟩
  ·have HK := Lib.hid (idx_none (p := p) (l := l) fun j y hy => HB.out j y (by have := (List.getElem?_eq_some_iff.1 hy).1; omega) hy)
   go_wp2
   go_ret
   exact ⟨by rw [hR.out, HK.out]; rfl, HX.out⟩

theorem containsFunc_S0 (g : Nat) (p : Nat → Bool) (w : World) (v : Value) (l : List Nat) (hv : Rd (fun b => .pointer (some ⟨b, 0, none⟩)) w v l) (eg : ∀ args w, (callFunc g args).run Tryz.prog w = .ok (.enter g args) w)
  (hp : ∀ w1, Ext w w1 → ∀ x, x ∈ l → Calls Tryz.prog g #[.pointer (some ⟨x, 0, none⟩)] w1 (RetE (.bool (p x)) w1)) :
  Calls Tryz.prog 185 #[v, .func (.func g) #[] #[]] w (RetE (.bool (l.any p)) w) := by
 have HI := Lib.hid (indexFunc_S0 g  p w v l hv eg hp)
 rw [← idx_any]
 generalize idx p l = R at HI ⊢
 obtain ⟨a, cap, rfl, _, _, _⟩ := hv
 clear hp eg
 go_enter Tryz.func185, Tryz.ntmps185
 go_wp2_with fail
 refine (HI.out).mono ?_
 rintro e w1 ⟨rfl, ho⟩
 have HO := Lib.hid ho
 clear ho
 go_wp2_with fail
 go_ret
 exact ⟨rfl, HO.out⟩

end Go.Proofs.YtnmhaipjfpongacGreatDoor
