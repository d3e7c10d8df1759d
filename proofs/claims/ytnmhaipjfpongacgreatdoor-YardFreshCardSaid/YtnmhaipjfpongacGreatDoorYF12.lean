/- Texts of this seat laid together for one claim: F5, F6, W2, F7. No condition of its own: what each proves stands with its theorems. -/
import Derived.Laws.EntriesVeiled
import Derived.Test.YtnmhaipjfpongacGreatDoorYF11
import Derived.BigQuiet
import Derived.Test.YtnmhaipjfpongacGreatDoorYF9
import Derived.Test.YtnmhaipjfpongacGreatDoorYF7
import Derived.Deep.RegionHeld3
namespace Go.Proofs.YtnmhaipjfpongacGreatDoor
open Go.ChangeShapes Go.WideShapes Go.ChangeAt Go.RowKit

structure ActVars (w : World) (P : Nat → Addr) : Prop where
 errs : Errs w P [2, 4, 9]
 max : HasMax w
 atoi : AtoiVars w
 pow : Pow w
theorem ActVars.ext {w w' : World} {P : Nat → Addr} (h : ActVars w P) (ho : Ext w w') : ActVars w' P := ⟨h.errs.ext ho, h.max.ext ho, h.atoi.ext ho, h.pow.ext ho⟩

theorem kind_none {name : B} (h : kinds.lookup name = none) {w : World} {b : Nat} (hk : KMap .string S encK w b kinds) :
  (Instr.lookup 258 (.map (some b)) (S name) true).run Tryz.prog w = .ok (.tuple #[.agg #[I 0, I 0, .nilFunc, .nilFunc], .bool false]) w := by
 have := KMap.look (P := Tryz.prog) keyOk_str hk Tryz.underlying258 Tryz.underlying9 (z := .agg #[I 0, I 0, .nilFunc, .nilFunc]) (by kernel_rfl) name
 rw [h] at this
 exact this

theorem kind_some {name : B} {k : Kd} (h : kinds.lookup name = some k) {w : World} {b : Nat} (hk : KMap .string S encK w b kinds) :
  (Instr.lookup 258 (.map (some b)) (S name) true).run Tryz.prog w = .ok (.tuple #[.agg #[I k.least, I k.most, FV k.wordF, FV k.runF], .bool true]) w := by
 have := KMap.look (P := Tryz.prog) keyOk_str hk Tryz.underlying258 Tryz.underlying9 (z := .agg #[I 0, I 0, .nilFunc, .nilFunc]) (by kernel_rfl) name
 rw [h] at this
 exact this

theorem kind_some1 {name : B} {k : Kd} (h : kinds.lookup name = some k) {w : World} {b : Nat} (hk : KMap .string S encK w b kinds) :
  (Instr.lookup 258 (.map (some b)) (S name) false).run Tryz.prog w = .ok (.agg #[I k.least, I k.most, FV k.wordF, FV k.runF]) w := by
 have := KMap.look1 (P := Tryz.prog) keyOk_str hk Tryz.underlying258 Tryz.underlying9 (z := .agg #[I 0, I 0, .nilFunc, .nilFunc]) (by kernel_rfl) name
 rw [h] at this
 exact this

set_option maxRecDepth 100000 in
set_option maxHeartbeats 2000000 in
theorem actCheck_any (w : World) (P : Nat → Addr) (name wd : B) (n : Nat) (hw : wd.length ≤ 1000000) (hv : ActVars w P) :
  Calls Tryz.prog 191 #[S name, S wd, I n] w (RetE (errC P (actCode name wd n)) w) := by
 cases hk : kinds.lookup name with
 | none =>
  have hc : actCode name wd n = 5 := by unfold actCode; rw [hk]
  rw [hc]
  have HKN := Lib.hid (fun (w1 : World) b (h : KMap .string S encK w1 b kinds) => kind_none hk h)
  have HV := Lib.hid hv
  clear hc hk hv
  go_enter Tryz.func191, Tryz.ntmps191
  go_wp2_with fail
  refine (kinds_any w).mono ?_
  rintro e w1 ⟨b, rfl, hm, ho⟩
  have HO := Lib.hid ho
  have HM := Lib.hid hm
  clear ho hm
  have hlk := HKN.out w1 b HM.out
  have c0 := fun o => (HV.out.ext (HO.out.thenAlloc o)).errs.var 4 _ (by decide) rfl
  go_wp2_with fail
  go_ret
  exact ⟨rfl, by first | exact HO.out.thenAlloc _ | exact (HO.out.thenAlloc _).thenDrewN _⟩
 | some k =>
  have HKS := Lib.hid (fun (w1 : World) b (h : KMap .string S encK w1 b kinds) => kind_some hk h)
  have HWD := Lib.hid (fun W (hW : Ext w W) => word_any W k wd hw (hv.atoi.ext hW) (hv.pow.ext hW))
  have HV := Lib.hid hv
  have eg := enters_word k
  have hcode : actCode name wd n = if n < k.least ∨ k.most < n ∨ k.word wd = false then 3 else if 100 < wd.length then 10 else 0 := by unfold actCode; rw [hk]
  generalize k.wordF = gw at *
  generalize k.runF = gr at *
  generalize k.least = lo at *
  generalize k.most = hi at *
  generalize k.word wd = r at *
  clear hk hv
  by_cases h1 : n < lo
  ·rw [if_pos (.inl h1)] at hcode
   rw [hcode]
   have h1z : (n : Int) < (lo : Int) := by omega
   clear hcode h1 eg
   go_enter Tryz.func191, Tryz.ntmps191
   go_wp2_with fail
   refine (kinds_any w).mono ?_
   rintro e w1 ⟨b, rfl, hm, ho⟩
   have HO := Lib.hid ho
   have HM := Lib.hid hm
   clear ho hm
   have hlk := HKS.out w1 b HM.out
   have c0 := fun o => (HV.out.ext (HO.out.thenAlloc o)).errs.var 2 _ (by decide) rfl
   go_wp2_with fail
   go_ret
   exact ⟨rfl, HO.out.thenAlloc _⟩
  ·have h1z : ¬ (n : Int) < (lo : Int) := by omega
   by_cases h2 : hi < n
   ·rw [if_pos (.inr (.inl h2))] at hcode
    rw [hcode]
    have h2z : (hi : Int) < (n : Int) := by omega
    clear hcode h1 h2 eg
    go_enter Tryz.func191, Tryz.ntmps191
    go_wp2_with fail
    refine (kinds_any w).mono ?_
    rintro e w1 ⟨b, rfl, hm, ho⟩
    have HO := Lib.hid ho
    have HM := Lib.hid hm
    clear ho hm
    have hlk := HKS.out w1 b HM.out
    have c0 := fun o => (HV.out.ext (HO.out.thenAlloc o)).errs.var 2 _ (by decide) rfl
    go_wp2_with fail
    go_ret
    exact ⟨rfl, HO.out.thenAlloc _⟩
   ·have h2z : ¬ (hi : Int) < (n : Int) := by omega
    cases r with
    | false =>
     rw [if_pos (.inr (.inr rfl))] at hcode
     rw [hcode]
     clear hcode h1 h2
     go_enter Tryz.func191, Tryz.ntmps191
     go_wp2_with fail
     refine (kinds_any w).mono ?_
     rintro e w1 ⟨b, rfl, hm, ho⟩
     have HO := Lib.hid ho
     have HM := Lib.hid hm
     clear ho hm
     have hlk := HKS.out w1 b HM.out
     go_wp2_with fail
     refine (HWD.out _ (HO.out.thenAlloc _)).mono ?_
     rintro e w2 ⟨rfl, ho2⟩
     have HO2 := Lib.hid ((HO.out.thenAlloc _).then ho2)
     clear ho2
     have c0 := (HV.out.ext HO2.out).errs.var 2 _ (by decide) rfl
     go_wp2_with fail
     go_ret
     exact ⟨rfl, HO2.out⟩
    | true =>
     rw [if_neg (by simp; omega)] at hcode
     clear h1 h2
     by_cases h3 : 100 < wd.length
     ·rw [if_pos h3] at hcode
      rw [hcode]
      have h3z : (100 : Int) < (wd.length : Int) := by omega
      clear hcode h3
      go_enter Tryz.func191, Tryz.ntmps191
      go_wp2_with fail
      refine (kinds_any w).mono ?_
      rintro e w1 ⟨b, rfl, hm, ho⟩
      have HO := Lib.hid ho
      have HM := Lib.hid hm
      clear ho hm
      have hlk := HKS.out w1 b HM.out
      go_wp2_with fail
      refine (HWD.out _ (HO.out.thenAlloc _)).mono ?_
      rintro e w2 ⟨rfl, ho2⟩
      have HO2 := Lib.hid ((HO.out.thenAlloc _).then ho2)
      clear ho2
      have c0 := (HV.out.ext HO2.out).errs.var 9 _ (by decide) rfl
      go_wp2_with fail
      go_ret
      exact ⟨rfl, HO2.out⟩
     ·rw [if_neg h3] at hcode
      rw [hcode]
      have h3z : ¬ (100 : Int) < (wd.length : Int) := by omega
      clear hcode h3
      go_enter Tryz.func191, Tryz.ntmps191
      go_wp2_with fail
      refine (kinds_any w).mono ?_
      rintro e w1 ⟨b, rfl, hm, ho⟩
      have HO := Lib.hid ho
      have HM := Lib.hid hm
      clear ho hm
      have hlk := HKS.out w1 b HM.out
      go_wp2_with fail
      refine (HWD.out _ (HO.out.thenAlloc _)).mono ?_
      rintro e w2 ⟨rfl, ho2⟩
      have HO2 := Lib.hid ((HO.out.thenAlloc _).then ho2)
      clear ho2
      go_wp2_with fail
      go_ret
      exact ⟨rfl, HO2.out⟩

theorem join_le (sep : B) : ∀ l : List B, (Lib.join l sep).length ≤ sumLen l + l.length * sep.length
 | [] => by simp [Lib.join_nil]
 | x :: r => by
  have h : ∀ q : List B, (Lib.joinTail sep q).length ≤ sumLen q + q.length * sep.length := fun q => by
   induction q with
   | nil => simp [Lib.joinTail]
   | cons y q ih =>
    have e : Lib.joinTail sep (y :: q) = sep ++ y ++ Lib.joinTail sep q := by simp [Lib.joinTail]
    rw [e, sum_cons, List.length_cons, Nat.succ_mul]
    simp
    omega
  have e : Lib.join (x :: r) sep = x ++ Lib.joinTail sep r := Lib.join_cons x r sep
  rw [e, List.length_append, sum_cons, List.length_cons, Nat.succ_mul]
  have := h r
  omega

theorem joinX_any (w : World) (v : Value) (l : List B) (sep : B) (hv : Rd S w v l) (hn : l.length ≤ 1000000) (hl : (Lib.join l sep).length ≤ 140737488355328) :
  Calls Tryz.prog 144 #[v, S sep] w (RetE (S (Lib.join l sep)) w) := by
 obtain ⟨a, cap, rfl, h1, h2, h3⟩ := hv
 cases l with
 | nil =>
  refine (Tryz.strings_Join_none a cap ⟨sep.toArray⟩ w).mono ?_
  rintro e w' ⟨rfl, rfl⟩
  exact ⟨rfl, Only.refl _ _⟩
 | cons x r =>
  obtain ⟨b, off, rfl, hc⟩ := h3 (by simp)
  have hb : b < w.heap.size := lt_of_cell (hc 0 x rfl)
  have hcells : ∀ (j : Nat) y, ((x :: r).map fun z => (⟨z.toArray⟩ : ByteArray))[j]? = some y → w.cell? ⟨b, off + j, none⟩ = some (.string y) := fun j y hy => by
   rw [List.getElem?_map] at hy
   obtain ⟨z, hz, rfl⟩ := Option.map_eq_some_iff.1 hy
   exact hc j z hz
  have hm : (((x :: r).map fun z => (⟨z.toArray⟩ : ByteArray)).map (·.data.toList)) = x :: r := by
   rw [List.map_map]; exact List.map_id _
  have hj : Lib.join (((x :: r).map fun z => (⟨z.toArray⟩ : ByteArray)).map (·.data.toList)) (⟨sep.toArray⟩ : ByteArray).data.toList = Lib.join (x :: r) sep := by rw [hm]
  have hlen : ((x :: r).map fun z => (⟨z.toArray⟩ : ByteArray)).length = (x :: r).length := by simp
  have h := Tryz.strings_Join b off cap ((x :: r).map fun z => (⟨z.toArray⟩ : ByteArray)) ⟨sep.toArray⟩ w hcells hb (by rw [hlen]; omega) (by rw [hlen]; exact h1) (by rw [hj]; exact hl)
  rw [hlen] at h
  refine h.mono ?_
  rintro e w' ⟨rfl, hbl⟩
  exact ⟨by rw [hj], Only.of_below hbl⟩

theorem join_run (w : World) (wd : B) (l : List B) (v : Value) (hv : Rd S w v l) (hb : sumLen l + l.length ≤ 900000) (hw : wd.length ≤ 1000) :
  Calls Tryz.prog 257 #[S wd, v] w (RetE (S (Lib.join l wd)) w) := by
 have hj : Calls Tryz.prog 144 #[v, S wd] w (RetE (S (Lib.join l wd)) w) := joinX_any w v l wd hv (by omega) (by
  have h1 := join_le wd l
  have h2 : l.length * wd.length ≤ 900000 * 1000 := Nat.mul_le_mul (by omega) hw
  omega)
 have HJ := Lib.hid hj
 obtain ⟨a, cap, rfl, _, _, _⟩ := hv
 clear hj
 go_enter Tryz.func257, Tryz.ntmps257
 go_wp2_with fail
 refine (HJ.out).mono ?_
 rintro e w1 ⟨rfl, ho⟩
 have HO := Lib.hid ho
 clear ho
 go_wp2_with fail
 go_ret
 exact ⟨rfl, HO.out⟩

theorem write_run (w : World) (wd : B) (v : Value) : Calls Tryz.prog 256 #[S wd, v] w (RetE (S wd) w) := by
 go_enter Tryz.func256, Tryz.ntmps256
 go_wp2_with fail
 go_ret
 exact ⟨rfl, Only.refl _ _⟩

theorem pair_cut {wd : B} (h : pairB wd = true) : (cut1 61 wd).1 ≠ [] := by
 intro e
 obtain ⟨_, h2, h3⟩ := cut1_spec 61 wd
 unfold pairB at h
 cases hf : (cut1 61 wd).2.2 with
 | true =>
  have := h2 hf
  rw [e] at this
  rw [this] at h
  simp at h
 | false =>
  have := (h3 hf).1
  rw [this] at e
  simp only at e
  rw [e] at h
  simp at h

theorem run_kind (w : World) (P : Nat → Addr) (k : Kd) (wd : B) (l : List B) (v : Value) (hv : Rd S w v l) (hb : sumLen l + l.length ≤ 900000) (hw : wd.length ≤ 1000) (h1 : k.least ≤ l.length) (h2 : k.word wd = true) (hA : ActVars w P) :
  Calls Tryz.prog k.runF #[S wd, v] w (RetE (S (k.run wd l)) w) := by
 have hx : ∀ x r, l = x :: r → x.length ≤ 900000 := fun x r e => by subst e; rw [sum_cons] at hb; omega
 cases k with
 | write => exact write_run w wd v
 | join => exact join_run w wd l v hv hb hw
 | sort => exact sorted_any w wd l v hv hb hA.max
 | count => exact count_any w wd l v hv hb hA.max hA.pow
 | upper =>
  cases l with
  | nil => simp [Kd.least] at h1
  | cons x r => exact upper_any w wd x r v hv (by have := hx x r rfl; omega)
 | lines =>
  cases l with
  | nil => simp [Kd.least] at h1
  | cons x r => exact actLines_any w wd x r v hv (hx x r rfl) hA.max
 | swap =>
  cases l with
  | nil => simp [Kd.least] at h1
  | cons x r => exact swap_any w wd x r v hv (hx x r rfl) hw (pair_cut h2) hA.max
 | head =>
  cases l with
  | nil => simp [Kd.least] at h1
  | cons x r =>
   obtain ⟨n, hn⟩ := Option.isSome_iff_exists.1 h2
   have := head_any w wd x r v n hv (hx x r rfl) hn hA.max
   show Calls _ _ _ _ (RetE (S (endedB ((linesB x).take ((numB 3 wd).getD 0)))) w)
   rw [hn]
   exact this
end Go.Proofs.YtnmhaipjfpongacGreatDoor

namespace Go.Proofs.YtnmhaipjfpongacGreatDoor
open Go.ChangeShapes Go.WideShapes Go.ChangeAt Go.RowKit

theorem actCode_ok {name wd : B} {n : Nat} (h : actCode name wd n = 0) : ∃ k, kinds.lookup name = some k ∧ k.least ≤ n ∧ k.word wd = true ∧ wd.length ≤ 100 := by
 unfold actCode at h
 cases hk : kinds.lookup name with
 | none => rw [hk] at h; cases h
 | some k =>
  rw [hk] at h
  simp only at h
  split at h
  ·cases h
  ·rename_i h1
   split at h
   ·cases h
   ·refine ⟨k, rfl, by omega, ?_, by omega⟩
    cases hw : k.word wd with
    | true => rfl
    | false => exact absurd (.inr (.inr hw)) h1

set_option maxRecDepth 100000 in
set_option maxHeartbeats 2000000 in
theorem actRun_any (w : World) (P : Nat → Addr) (name wd : B) (l : List B) (v : Value) (hv : Rd S w v l) (hb : sumLen l + l.length ≤ 900000) (hw : wd.length ≤ 1000) (hA : ActVars w P) :
  Calls Tryz.prog 125 #[S name, S wd, v] w (RetE (.tuple #[S (runOut name wd l), errC P (runCode name wd l)]) w) := by
 have HC := Lib.hid (actCheck_any w P name wd l.length (by omega) hA)
 cases hc : actCode name wd l.length with
 | succ c =>
  have e1 : runCode name wd l = c + 1 := by unfold runCode; rw [hc, if_neg (Nat.succ_ne_zero _)]
  have e2 : runOut name wd l = [] := by unfold runOut; rw [e1, if_neg (Nat.succ_ne_zero _)]
  rw [e1, e2, show errC P (c + 1) = errV (P c) from rfl]
  rw [hc, show errC P (c + 1) = errV (P c) from rfl] at HC
  obtain ⟨a, cap, rfl, _, _, _⟩ := hv
  clear e1 e2 hc hA hb hw
  go_enter Tryz.func125, Tryz.ntmps125
  go_wp2_with fail
  refine (HC.out).mono ?_
  rintro e w1 ⟨rfl, ho⟩
  have HO := Lib.hid ho
  clear ho
  go_wp2_with fail
  go_ret2
  exact ⟨rfl, HO.out⟩
 | zero =>
  obtain ⟨k, hk, h1, h2, h3⟩ := actCode_ok hc
  have HR := Lib.hid (fun W (hW : Ext w W) => run_kind W P k wd l v (hv.ext hW) hb hw h1 h2 (hA.ext hW))
  have HKS := Lib.hid (fun (w1 : World) b (h : KMap .string S encK w1 b kinds) => kind_some1 hk h)
  have eg := enters_run k
  rw [hc, show errC P 0 = .nilIface from rfl] at HC
  have e0 : actOut name wd l = k.run wd l := by unfold actOut; rw [hk]
  have e1 : runCode name wd l = if 2000 < (k.run wd l).length then 10 else 0 := by unfold runCode; rw [hc, if_pos rfl, e0]
  have e2 : runOut name wd l = if 2000 < (k.run wd l).length then [] else k.run wd l := by
   unfold runOut
   rw [e1, e0]
   by_cases h : 2000 < (k.run wd l).length
   ·rw [if_pos h, if_pos h, if_neg (by decide)]
   ·rw [if_neg h, if_neg h, if_pos rfl]
  rw [e1, e2]
  have HV := Lib.hid hA
  generalize k.run wd l = out at *
  generalize k.wordF = gw at *
  generalize k.runF = gr at *
  generalize k.least = lo at *
  generalize k.most = hi at *
  have hfd : ∀ w, (Instr.field 257 (.agg #[I lo, I hi, FV gw, FV gr]) 3).run Tryz.prog w = .ok (FV gr) w := fun w => by kernel_rfl
  obtain ⟨a, cap, rfl, _, _, _⟩ := hv
  clear e0 e1 e2 hk h1 h2 h3 hc hA
  by_cases hl : 2000 < out.length
  ·rw [if_pos hl, if_pos hl, show errC P 10 = errV (P 9) from rfl]
   have hlz : (2000 : Int) < (out.length : Int) := by omega
   clear hl
   go_enter Tryz.func125, Tryz.ntmps125
   go_wp2_with fail
   refine (HC.out).mono ?_
   rintro e w1 ⟨rfl, ho⟩
   have HO := Lib.hid ho
   clear ho
   go_wp2_with fail
   refine (kinds_any w1).mono ?_
   rintro e w2 ⟨b, rfl, hm, ho⟩
   have HO2 := Lib.hid (HO.out.then ho)
   have HM := Lib.hid hm
   clear hm ho
   have hlk := HKS.out w2 b HM.out
   go_wp2_with fail
   refine (HR.out _ HO2.out).mono ?_
   rintro e w3 ⟨rfl, ho⟩
   have HO3 := Lib.hid (HO2.out.then ho)
   clear ho
   have c0 := (HV.out.ext HO3.out).errs.var 9 _ (by decide) rfl
   go_wp2_with fail
   go_quiet (fail)
   go_wp2
   go_ret2
   exact ⟨rfl, HO3.out.thenDrewN _⟩
  ·rw [if_neg hl, if_neg hl, show errC P 0 = .nilIface from rfl]
   have hlz : ¬ (2000 : Int) < (out.length : Int) := by omega
   clear hl
   go_enter Tryz.func125, Tryz.ntmps125
   go_wp2_with fail
   refine (HC.out).mono ?_
   rintro e w1 ⟨rfl, ho⟩
   have HO := Lib.hid ho
   clear ho
   go_wp2_with fail
   refine (kinds_any w1).mono ?_
   rintro e w2 ⟨b, rfl, hm, ho⟩
   have HO2 := Lib.hid (HO.out.then ho)
   have HM := Lib.hid hm
   clear hm ho
   have hlk := HKS.out w2 b HM.out
   go_wp2_with fail
   refine (HR.out _ HO2.out).mono ?_
   rintro e w3 ⟨rfl, ho⟩
   have HO3 := Lib.hid (HO2.out.then ho)
   clear ho
   go_wp2_with fail
   go_ret2
   exact ⟨rfl, HO3.out⟩
end Go.Proofs.YtnmhaipjfpongacGreatDoor

namespace Go.Proofs.YtnmhaipjfpongacGreatDoor

def putsT (T : FL) (l : FL) : FL := l.foldl (fun T q => putT T q.1 q.2) T
def putsC : FL → FL → Nat
 | _, [] => 0
 | T, q :: l => if putCode T q.1 q.2 = 0 then putsC (putT T q.1 q.2) l else putCode T q.1 q.2

theorem putsT_step {T l : FL} {j : Nat} {q : B × B} (h : l[j]? = some q) : putsT T (l.take (j + 1)) = putT (putsT T (l.take j)) q.1 q.2 := by
 unfold putsT
 rw [List.take_add_one, h, List.foldl_append]
 rfl

theorem putsC_step {T : FL} : ∀ {l : FL} {j : Nat} {q : B × B}, l[j]? = some q → putsC T (l.take j) = 0 → putsC T (l.take (j + 1)) = putCode (putsT T (l.take j)) q.1 q.2
 | [], _, _, h, _ => by simp at h
 | x :: l, 0, q, h, _ => by
  obtain rfl : x = q := by simpa using h
  simp [putsC, putsT]
  intro e; exact e.symm
 | x :: l, j + 1, q, h, h0 => by
  simp only [List.take_succ_cons, putsC] at h0 ⊢
  split
  ·rename_i hc
   rw [if_pos hc] at h0
   exact putsC_step (l := l) (by simpa using h) h0
  ·rename_i hc
   rw [if_neg hc] at h0
   exact absurd h0 hc

instance (L : FL) : Decidable (Rising L) := inferInstanceAs (Decidable (List.Pairwise _ L))

theorem Rising.next {l : FL} (h : Rising l) {i : Nat} {x y : B × B} (hx : l[i]? = some x) (hy : l[i + 1]? = some y) : x.1 < y.1 := by
 obtain ⟨h1, rfl⟩ := List.getElem?_eq_some_iff.1 hx
 obtain ⟨h2, rfl⟩ := List.getElem?_eq_some_iff.1 hy
 exact List.pairwise_iff_getElem.1 h i (i + 1) h1 h2 (Nat.lt_succ_self i)

theorem dig_toNat {k : Nat} (h : k < 10) : (UInt8.ofNat (48 + k)).toNat = 48 + k := by
 have : ∀ k : Fin 10, (UInt8.ofNat (48 + k.val)).toNat = 48 + k.val := by decide +kernel
 exact this ⟨k, h⟩

theorem dec_all (u : Nat) : ∀ c ∈ Lib.decDigits u, 48 ≤ c.toNat ∧ c.toNat ≤ 57 := by
 induction u using Nat.strongRecOn with
 | _ u ih =>
  intro c hc
  by_cases h : u < 10
  ·rw [Lib.decDigits_one h, List.mem_singleton] at hc
   subst hc
   rw [dig_toNat h]; omega
  ·rw [Lib.decDigits, dif_neg h] at hc
   rcases List.mem_append.1 hc with hc | hc
   ·exact ih (u / 10) (by omega) c hc
   ·rw [List.mem_singleton] at hc
    subst hc
    rw [dig_toNat (Nat.mod_lt _ (by decide))]
    have := Nat.mod_lt u (show 0 < 10 by decide)
    omega

theorem dec_ne (u : Nat) : Lib.decDigits u ≠ [] := by
 have h1 := Lib.decDigits_length u
 have h2 := Lib.nDigits_pos u
 intro e
 rw [e] at h1
 simp at h1
 omega

theorem nDigits_le : ∀ (k u : Nat), 1 ≤ k → u < 10 ^ k → Lib.nDigits u ≤ k
 | 0, _, h, _ => absurd h (by decide)
 | k + 1, u, _, h => by
  by_cases h0 : u < 10
  ·rw [Lib.nDigits_small h0]; omega
  ·rw [Lib.nDigits_big h0]
   have hk : 1 ≤ k := by
    rcases Nat.eq_zero_or_pos k with e | e
    ·subst e; simp at h; omega
    ·exact e
   rw [Nat.pow_succ] at h
   have := nDigits_le k (u / 10) hk (by omega)
   omega

theorem parse_app {b : B} : ∀ {a : B} {acc v : Nat}, Lib.parseUint10 acc a = .ok v → Lib.parseUint10 acc (a ++ b) = Lib.parseUint10 v b
 | [], acc, v, h => by
  simp only [Lib.parseUint10] at h
  injection h with h
  rw [h]; rfl
 | c :: r, acc, v, h => by
  rw [List.cons_append]
  simp only [Lib.parseUint10] at h ⊢
  split at h
  ·rename_i hc
   rw [if_pos hc]
   split at h
   ·cases h
   ·rename_i h1
    rw [if_neg h1]
    split at h
    ·cases h
    ·rename_i h2
     rw [if_neg h2]
     exact parse_app h
  ·cases h

theorem parse_dec (u : Nat) : u < 1000000 → Lib.parseUint10 0 (Lib.decDigits u) = .ok u := by
 induction u using Nat.strongRecOn with
 | _ u ih =>
  intro hu
  by_cases h : u < 10
  ·rw [Lib.decDigits_one h]
   simp only [Lib.parseUint10, dig_toNat h]
   rw [if_pos (by omega), if_neg (by omega), if_neg (by omega)]
   congr 1; omega
  ·rw [Lib.decDigits, dif_neg h, parse_app (ih (u / 10) (by omega) (by omega))]
   have hm := Nat.mod_lt u (show 0 < 10 by decide)
   simp only [Lib.parseUint10, dig_toNat hm]
   rw [if_pos (by omega), if_neg (by omega), if_neg (by omega)]
   congr 1; omega

theorem num_dec {u : Nat} (h : u < 10000) : numB 4 (Lib.decDigits u) = some u := by
 have hp := parse_dec u (by omega)
 have hl : (Lib.decDigits u).length ≤ 4 := by rw [Lib.decDigits_length]; exact nDigits_le 4 u (by decide) h
 have ha : Lib.atoiAll (Lib.decDigits u) = .ok (u : Int) := by
  cases hd : Lib.decDigits u with
  | nil => exact absurd hd (dec_ne u)
  | cons c r =>
   have hc := dec_all u c (by rw [hd]; exact .head _)
   rw [hd] at hp
   have h1 : ¬ (c.toNat = 43 ∨ c.toNat = 45) := by omega
   have h2 : ¬ c.toNat = 45 := by omega
   simp only [Lib.atoiAll, Lib.parseMag, if_neg h1, hp]
   have h3 : ¬ (9223372036854775808 ≤ u) := by omega
   simp [h2, h3]
 unfold numB
 rw [ha]
 simp only
 rw [if_pos ⟨hl, by omega, rfl⟩]
 rfl

def Apart (L : FL) : Prop := ∀ q ∈ L, ∀ r ∈ L, aboveB q.1 r.1 = false

theorem aboveB_self (p : B) : aboveB p p = false := by
 unfold aboveB
 cases h : (p ++ [47]).isPrefixOf p with
 | false => rfl
 | true =>
  have := (List.isPrefixOf_iff_prefix.1 h).length_le
  rw [List.length_append] at this
  simp at this
  exact absurd this (by omega)

theorem Apart.nil : Apart [] := by intro q hq; simp at hq
theorem Apart.del {L : FL} (h : Apart L) (p : B) : Apart (delT L p) := fun q hq r hr => h q (List.mem_filter.1 hq).1 r (List.mem_filter.1 hr).1

theorem putCode_clash {L : FL} {p x : B} (h : putCode L p x = 0) : clash L p = false := by
 unfold putCode at h
 split at h
 ·split at h
  ·omega
  ·split at h
   ·omega
   ·rename_i h3; simpa using h3
 ·omega

theorem Apart.put {L : FL} (h : Apart L) (hr : Rising L) (p x : B) : Apart (putT L p x) := by
 unfold putT
 by_cases h0 : putCode L p x = 0
 ·rw [if_pos h0]
  have hc := putCode_clash h0
  unfold clash at hc
  rw [List.any_eq_false] at hc
  have key : ∀ q ∈ L, aboveB p q.1 = false ∧ aboveB q.1 p = false := fun q hq => by
   have := hc q hq
   simpa using this
  intro q hq r hr'
  rcases mem_set hr hq with rfl | hq
  ·rcases mem_set hr hr' with rfl | hr'
   ·exact aboveB_self _
   ·exact (key r hr').1
  ·rcases mem_set hr hr' with rfl | hr'
   ·exact (key q hq).2
   ·exact h q hq r hr'
 ·rw [if_neg h0]; exact h

theorem ins_last {p x : B} : ∀ {T : FL}, (∀ r ∈ T, r.1 < p) → insT T p x = T ++ [(p, x)]
 | [], _ => rfl
 | q :: T, h => by
  have h0 := h q (.head _)
  have ih := ins_last (x := x) (T := T) fun r hr => h r (.tail _ hr)
  unfold insT at ih ⊢
  rw [List.takeWhile_cons_of_pos (by simpa using h0), List.dropWhile_cons_of_pos (by simpa using h0), List.cons_append, ih]
  rfl

theorem puts_back {L : FL} (hf : Fits L) (ha : Apart L) : ∀ j, j ≤ L.length → putsC [] (L.take j) = 0 ∧ putsT [] (L.take j) = L.take j
 | 0, _ => ⟨rfl, rfl⟩
 | j + 1, hj => by
  obtain ⟨h1, h2⟩ := puts_back hf ha j (by omega)
  obtain ⟨q, hq⟩ : ∃ q, L[j]? = some q := ⟨_, List.getElem?_eq_getElem (by omega)⟩
  have hm := List.mem_of_getElem? hq
  have hlt : ∀ r ∈ L.take j, r.1 < q.1 := by
   intro r hr
   obtain ⟨i, hi⟩ := List.getElem?_of_mem hr
   rw [List.getElem?_take] at hi
   split at hi
   ·rename_i hij
    obtain ⟨a1, rfl⟩ := List.getElem?_eq_some_iff.1 hi
    obtain ⟨a2, rfl⟩ := List.getElem?_eq_some_iff.1 hq
    exact List.pairwise_iff_getElem.1 hf.rising i j a1 a2 hij
   ·cases hi
  have hlk : (L.take j).lookup q.1 = none := by
   cases hl : (L.take j).lookup q.1 with
   | none => rfl
   | some y =>
    exfalso
    exact ltB_irrefl _ (hlt (q.1, y) (mem_of_lookup hl))
  have hc : clash (L.take j) q.1 = false := by
   unfold clash
   rw [List.any_eq_false]
   intro r hr
   have hr' := List.mem_of_mem_take hr
   rw [ha q hm r hr', ha r hr' q hm]
   decide
  have hcode : putCode (L.take j) q.1 q.2 = 0 := by
   unfold putCode
   have h60 := hf.few
   rw [if_pos (hf.path q hm), if_neg (by have := hf.bytes q hm; omega), hc, if_neg (by decide), hlk, if_neg (by simp; omega)]
  refine ⟨?_, ?_⟩
  ·rw [putsC_step hq h1, h2, hcode]
  ·rw [putsT_step hq, h2]
   unfold putT setT
   rw [if_pos hcode, hlk, if_neg (by simp), ins_last hlt, List.take_add_one, hq]
   rfl

end Go.Proofs.YtnmhaipjfpongacGreatDoor

namespace Go.Proofs.YtnmhaipjfpongacGreatDoor
open Go.ChangeShapes Go.WideShapes Go.ChangeAt Go.RowKit

theorem sortB_pairwise (l : List B) : (sortB l).Pairwise fun x y => decide (x ≤ y) = true :=
 List.pairwise_mergeSort (fun a b c h1 h2 => by
  have h1 : a ≤ b := of_decide_eq_true h1
  have h2 : b ≤ c := of_decide_eq_true h2
  exact decide_eq_true (List.le_trans h1 h2)) (fun a b => by
  rcases List.le_total a b with h | h
  ·simp [decide_eq_true h]
  ·simp [decide_eq_true h]) _
theorem sortB_of {l k : List B} (hp : l.Perm k) (hk : k.Pairwise fun x y => decide (x ≤ y) = true) : sortB l = k := by
 refine List.Perm.eq_of_pairwise (fun a b _ _ h1 h2 => ?_) (sortB_pairwise l) hk ((List.mergeSort_perm _ _).trans hp)
 exact List.le_antisymm (of_decide_eq_true h1) (of_decide_eq_true h2)
theorem sortB_perm {l k : List B} (hp : l.Perm k) : sortB l = sortB k := sortB_of (hp.trans (List.mergeSort_perm _ _).symm) (sortB_pairwise k)
theorem sortB_len (l : List B) : (sortB l).length = l.length := List.length_mergeSort _
def keptB (l : List B) (i : Nat) : List B := Lib.compactUpTo l.toArray i
theorem kept_all (l : List B) : keptB l l.length = Lib.compact l := rfl
theorem kept_zero (l : List B) : keptB l 0 = [] := rfl
theorem getB {l : List B} {i : Nat} {x : B} (h : l[i]? = some x) : l.toArray[i]! = x := by
 obtain ⟨h1, rfl⟩ := List.getElem?_eq_some_iff.1 h
 rw [getElem!_pos _ i (by simpa using h1)]
 simp
theorem kept_new {l : List B} {i : Nat} {x : B} (h : l[i]? = some x) (hn : ∀ k y, i = k + 1 → l[k]? = some y → x ≠ y) : keptB l (i + 1) = keptB l i ++ [x] := by
 unfold keptB
 rw [Lib.compactUpTo_succ, getB h]
 have : Lib.keeps l.toArray i = true := by
  cases i with
  | zero => simp [Lib.keeps]
  | succ k =>
   obtain ⟨y, hy⟩ : ∃ y, l[k]? = some y := ⟨_, List.getElem?_eq_getElem (by have := (List.getElem?_eq_some_iff.1 h).1; omega)⟩
   have := hn k y rfl hy
   refine Lib.keeps_pos ?_
   rw [getB h, Nat.add_sub_cancel, getB hy]
   exact this
 rw [if_pos this]
theorem kept_old {l : List B} {k : Nat} {x : B} (h : l[k + 1]? = some x) (hy : l[k]? = some x) : keptB l (k + 1 + 1) = keptB l (k + 1) := by
 unfold keptB
 rw [Lib.compactUpTo_succ, Lib.keeps_neg (by omega) (by rw [getB h, Nat.add_sub_cancel, getB hy])]
 simp
theorem kept_prefix (l : List B) : ∀ i n, i ≤ n → keptB l i <+: keptB l n
 | i, 0, h => by rw [Nat.le_zero.1 h]; exact List.prefix_refl _
 | i, n + 1, h => by
  by_cases e : i = n + 1
  ·subst e; exact List.prefix_refl _
  ·refine (kept_prefix l i n (by omega)).trans ?_
   unfold keptB
   rw [Lib.compactUpTo_succ]
   exact List.prefix_append _ _
def RetRd (l : List B) (w : World) (e : Ending) (w' : World) : Prop := ∃ v, e = .returned v ∧ Ext w w' ∧ Rd S w' v l

set_option maxRecDepth 100000 in
set_option maxHeartbeats 1000000 in
theorem refLines_any (w : World) (s : B) (hs : s.length ≤ 900000) : Calls Tryz.prog 221 #[S s] w (RetRd (linesB s) w) := by
 have hle := cutc_len_le 10 s
 have hC := refCutC_any w 10 10 (by decide) s (by omega)
 obtain ⟨i, x, hix⟩ : ∃ i x, cutc 10 s = i ++ [x] := ⟨_, _, (List.dropLast_concat_getLast (cutc_ne 10 s)).symm⟩
 have hlb : linesB s = if x = [] then i else i ++ [x] := by unfold linesB; rw [hix]; simp
 rw [hlb]
 rw [hix, List.length_append, List.length_singleton] at hC
 have hil : (i.length : Int) ≤ 1000000 := by rw [hix] at hle; simp at hle; omega
 have hi0 : (0 : Int) ≤ (i.length : Int) := by omega
 have HC := Lib.hid hC
 by_cases hx : x = []
 ·have hxq : (x == []) = true := beq_iff_eq.2 hx
  rw [if_pos hx]
  clear hle hix hlb hs hx hC
  go_enter Tryz.func221, Tryz.ntmps221
  go_wp2_with fail
  refine (HC.out).mono ?_
  rintro e w1 ⟨g, cap, rfl, hr, ho⟩
  have HO := Lib.hid ho
  have HR := Lib.hid hr
  clear ho hr
  have HR2 : Hid (Row w.heap.size w1 (.slice (some ⟨g, 0, none⟩) (i.length + 1) cap) (i ++ [x])) := Lib.hid (by simpa [Row] using HR.out)
  obtain ⟨_, _, hv, hcp, _, hcc⟩ := HR2.out.rd
  obtain ⟨_, _, hg, hcell⟩ := hcc (by simp)
  simp only [List.length_append, List.length_singleton] at hv
  cases hv
  cases hg
  have hc : w1.cell? ⟨g, i.length, none⟩ = some (S x) := by simpa using hcell i.length x (by simp)
  have hcz : (i.length : Int) + 1 ≤ (cap : Int) := by simp at hcp; omega
  clear hcell hcp hcc
  go_wp2_with fail
  go_ret
  exact ⟨_, rfl, HO.out, by simpa using (HR2.out.take i.length (by simp)).rd⟩
 ·have hxq : (x == []) = false := beq_eq_false_iff_ne.2 hx
  rw [if_neg hx]
  clear hle hix hlb hs hx hC
  go_enter Tryz.func221, Tryz.ntmps221
  go_wp2_with fail
  refine (HC.out).mono ?_
  rintro e w1 ⟨g, cap, rfl, hr, ho⟩
  have HO := Lib.hid ho
  have HR := Lib.hid hr
  clear ho hr
  have HR2 : Hid (Row w.heap.size w1 (.slice (some ⟨g, 0, none⟩) (i.length + 1) cap) (i ++ [x])) := Lib.hid (by simpa [Row] using HR.out)
  obtain ⟨_, _, hv, hcp, _, hcc⟩ := HR2.out.rd
  obtain ⟨_, _, hg, hcell⟩ := hcc (by simp)
  simp only [List.length_append, List.length_singleton] at hv
  cases hv
  cases hg
  have hc : w1.cell? ⟨g, i.length, none⟩ = some (S x) := by simpa using hcell i.length x (by simp)
  have hcz : (i.length : Int) + 1 ≤ (cap : Int) := by simp at hcp; omega
  clear hcell hcp hcc
  go_wp2_with fail
  go_ret
  exact ⟨_, rfl, HO.out, HR2.out.rd⟩

end Go.Proofs.YtnmhaipjfpongacGreatDoor
