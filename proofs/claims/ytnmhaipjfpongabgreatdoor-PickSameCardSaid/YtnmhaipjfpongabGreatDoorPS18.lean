/- Texts of this seat laid together for one claim: F5. No condition of its own: what each proves stands with its theorems. -/
import Derived.Laws.EntriesVeiled
import Derived.Test.YtnmhaipjfpongabGreatDoorPS17
namespace Go.Proofs.YtnmhaipjfpongabGreatDoor
open Go.ChangeShapes Go.WideShapes Go.ChangeAt Go.RowKit

structure ActVars (w : World) (P : Nat → Addr) : Prop where
 errs : Errs w P [2, 4, 9]
 max : HasMax w
 atoi : AtoiVars w
 pow : Pow w
theorem ActVars.ext {w w' : World} {P : Nat → Addr} (h : ActVars w P) (ho : Ext w w') : ActVars w' P := ⟨h.errs.ext ho, h.max.ext ho, h.atoi.ext ho, h.pow.ext ho⟩

theorem kind_none {name : B} (h : kinds.lookup name = none) {w : World} {b : Nat} (hk : KMap .string S encK w b kinds) :
  (Instr.lookup 141 (.map (some b)) (S name) true).run Tryz.prog w = .ok (.tuple #[.agg #[I 0, I 0, .nilFunc, .nilFunc], .bool false]) w := by
 have := KMap.look (P := Tryz.prog) keyOk_str hk Tryz.underlying141 Tryz.underlying9 (z := .agg #[I 0, I 0, .nilFunc, .nilFunc]) (by kernel_rfl) name
 rw [h] at this
 exact this

theorem kind_some {name : B} {k : Kd} (h : kinds.lookup name = some k) {w : World} {b : Nat} (hk : KMap .string S encK w b kinds) :
  (Instr.lookup 141 (.map (some b)) (S name) true).run Tryz.prog w = .ok (.tuple #[.agg #[I k.least, I k.most, FV k.wordF, FV k.runF], .bool true]) w := by
 have := KMap.look (P := Tryz.prog) keyOk_str hk Tryz.underlying141 Tryz.underlying9 (z := .agg #[I 0, I 0, .nilFunc, .nilFunc]) (by kernel_rfl) name
 rw [h] at this
 exact this

theorem kind_some1 {name : B} {k : Kd} (h : kinds.lookup name = some k) {w : World} {b : Nat} (hk : KMap .string S encK w b kinds) :
  (Instr.lookup 141 (.map (some b)) (S name) false).run Tryz.prog w = .ok (.agg #[I k.least, I k.most, FV k.wordF, FV k.runF]) w := by
 have := KMap.look1 (P := Tryz.prog) keyOk_str hk Tryz.underlying141 Tryz.underlying9 (z := .agg #[I 0, I 0, .nilFunc, .nilFunc]) (by kernel_rfl) name
 rw [h] at this
 exact this

set_option maxRecDepth 100000 in
set_option maxHeartbeats 2000000 in
theorem actCheck_any (w : World) (P : Nat → Addr) (name wd : B) (n : Nat) (hw : wd.length ≤ 1000000) (hv : ActVars w P) :
  Calls Tryz.prog 45 #[S name, S wd, I n] w (RetE (errC P (actCode name wd n)) w) := by
 cases hk : kinds.lookup name with
 | none =>
  have hc : actCode name wd n = 5 := by unfold actCode; rw [hk]
  rw [hc]
  have HKN := Lib.hid (fun (w1 : World) b (h : KMap .string S encK w1 b kinds) => kind_none hk h)
  have HV := Lib.hid hv
  clear hc hk hv
  go_enter Tryz.func45, Tryz.ntmps45
  go_wp2_with fail
  refine (kinds_any w).mono ?_
  rintro e w1 ⟨b, rfl, hm, ho⟩
  have HO := Lib.hid ho
  have HM := Lib.hid hm
  clear ho hm
  have hlk := HKN.out w1 b HM.out
  have c0 := fun o => (HV.out.ext (HO.out.thenAlloc o)).errs.var 4 _ (by decide) rfl
  go_wp2_with fail
  go_ret
  exact ⟨rfl, by first | exact HO.out.thenAlloc _ | exact (HO.out.thenAlloc _).thenDrewN _⟩
 | some k =>
  have HKS := Lib.hid (fun (w1 : World) b (h : KMap .string S encK w1 b kinds) => kind_some hk h)
  have HWD := Lib.hid (fun W (hW : Ext w W) => word_any W k wd hw (hv.atoi.ext hW) (hv.pow.ext hW))
  have HV := Lib.hid hv
  have eg := enters_word k
  have hcode : actCode name wd n = if n < k.least ∨ k.most < n ∨ k.word wd = false then 3 else if 100 < wd.length then 10 else 0 := by unfold actCode; rw [hk]
  generalize k.wordF = gw at *
  generalize k.runF = gr at *
  generalize k.least = lo at *
  generalize k.most = hi at *
  generalize k.word wd = r at *
  clear hk hv
  by_cases h1 : n < lo
  ·rw [if_pos (.inl h1)] at hcode
   rw [hcode]
   have h1z : (n : Int) < (lo : Int) := by omega
   clear hcode h1 eg
   go_enter Tryz.func45, Tryz.ntmps45
   go_wp2_with fail
   refine (kinds_any w).mono ?_
   rintro e w1 ⟨b, rfl, hm, ho⟩
   have HO := Lib.hid ho
   have HM := Lib.hid hm
   clear ho hm
   have hlk := HKS.out w1 b HM.out
   have c0 := fun o => (HV.out.ext (HO.out.thenAlloc o)).errs.var 2 _ (by decide) rfl
   go_wp2_with fail
   go_ret
   exact ⟨rfl, HO.out.thenAlloc _⟩
  ·have h1z : ¬ (n : Int) < (lo : Int) := by omega
   by_cases h2 : hi < n
   ·rw [if_pos (.inr (.inl h2))] at hcode
    rw [hcode]
    have h2z : (hi : Int) < (n : Int) := by omega
    clear hcode h1 h2 eg
    go_enter Tryz.func45, Tryz.ntmps45
    go_wp2_with fail
    refine (kinds_any w).mono ?_
    rintro e w1 ⟨b, rfl, hm, ho⟩
    have HO := Lib.hid ho
    have HM := Lib.hid hm
    clear ho hm
    have hlk := HKS.out w1 b HM.out
    have c0 := fun o => (HV.out.ext (HO.out.thenAlloc o)).errs.var 2 _ (by decide) rfl
    go_wp2_with fail
    go_ret
    exact ⟨rfl, HO.out.thenAlloc _⟩
   ·have h2z : ¬ (hi : Int) < (n : Int) := by omega
    cases r with
    | false =>
     rw [if_pos (.inr (.inr rfl))] at hcode
     rw [hcode]
     clear hcode h1 h2
     go_enter Tryz.func45, Tryz.ntmps45
     go_wp2_with fail
     refine (kinds_any w).mono ?_
     rintro e w1 ⟨b, rfl, hm, ho⟩
     have HO := Lib.hid ho
     have HM := Lib.hid hm
     clear ho hm
     have hlk := HKS.out w1 b HM.out
     go_wp2_with fail
     refine (HWD.out _ (HO.out.thenAlloc _)).mono ?_
     rintro e w2 ⟨rfl, ho2⟩
     have HO2 := Lib.hid ((HO.out.thenAlloc _).then ho2)
     clear ho2
     have c0 := (HV.out.ext HO2.out).errs.var 2 _ (by decide) rfl
     go_wp2_with fail
     go_ret
     exact ⟨rfl, HO2.out⟩
    | true =>
     rw [if_neg (by simp; omega)] at hcode
     clear h1 h2
     by_cases h3 : 100 < wd.length
     ·rw [if_pos h3] at hcode
      rw [hcode]
      have h3z : (100 : Int) < (wd.length : Int) := by omega
      clear hcode h3
      go_enter Tryz.func45, Tryz.ntmps45
      go_wp2_with fail
      refine (kinds_any w).mono ?_
      rintro e w1 ⟨b, rfl, hm, ho⟩
      have HO := Lib.hid ho
      have HM := Lib.hid hm
      clear ho hm
      have hlk := HKS.out w1 b HM.out
      go_wp2_with fail
      refine (HWD.out _ (HO.out.thenAlloc _)).mono ?_
      rintro e w2 ⟨rfl, ho2⟩
      have HO2 := Lib.hid ((HO.out.thenAlloc _).then ho2)
      clear ho2
      have c0 := (HV.out.ext HO2.out).errs.var 9 _ (by decide) rfl
      go_wp2_with fail
      go_ret
      exact ⟨rfl, HO2.out⟩
     ·rw [if_neg h3] at hcode
      rw [hcode]
      have h3z : ¬ (100 : Int) < (wd.length : Int) := by omega
      clear hcode h3
      go_enter Tryz.func45, Tryz.ntmps45
      go_wp2_with fail
      refine (kinds_any w).mono ?_
      rintro e w1 ⟨b, rfl, hm, ho⟩
      have HO := Lib.hid ho
      have HM := Lib.hid hm
      clear ho hm
      have hlk := HKS.out w1 b HM.out
      go_wp2_with fail
      refine (HWD.out _ (HO.out.thenAlloc _)).mono ?_
      rintro e w2 ⟨rfl, ho2⟩
      have HO2 := Lib.hid ((HO.out.thenAlloc _).then ho2)
      clear ho2
      go_wp2_with fail
      go_ret
      exact ⟨rfl, HO2.out⟩

theorem join_le (sep : B) : ∀ l : List B, (Lib.join l sep).length ≤ sumLen l + l.length * sep.length
 | [] => by simp [Lib.join_nil]
 | x :: r => by
  have h : ∀ q : List B, (Lib.joinTail sep q).length ≤ sumLen q + q.length * sep.length := fun q => by
   induction q with
   | nil => simp [Lib.joinTail]
   | cons y q ih =>
    have e : Lib.joinTail sep (y :: q) = sep ++ y ++ Lib.joinTail sep q := by simp [Lib.joinTail]
    rw [e, sum_cons, List.length_cons, Nat.succ_mul]
    simp
    omega
  have e : Lib.join (x :: r) sep = x ++ Lib.joinTail sep r := Lib.join_cons x r sep
  rw [e, List.length_append, sum_cons, List.length_cons, Nat.succ_mul]
  have := h r
  omega

theorem joinX_any (w : World) (v : Value) (l : List B) (sep : B) (hv : Rd S w v l) (hn : l.length ≤ 1000000) (hl : (Lib.join l sep).length ≤ 140737488355328) :
  Calls Tryz.prog 161 #[v, S sep] w (RetE (S (Lib.join l sep)) w) := by
 obtain ⟨a, cap, rfl, h1, h2, h3⟩ := hv
 cases l with
 | nil =>
  refine (Tryz.strings_Join_none a cap ⟨sep.toArray⟩ w).mono ?_
  rintro e w' ⟨rfl, rfl⟩
  exact ⟨rfl, Only.refl _ _⟩
 | cons x r =>
  obtain ⟨b, off, rfl, hc⟩ := h3 (by simp)
  have hb : b < w.heap.size := lt_of_cell (hc 0 x rfl)
  have hcells : ∀ (j : Nat) y, ((x :: r).map fun z => (⟨z.toArray⟩ : ByteArray))[j]? = some y → w.cell? ⟨b, off + j, none⟩ = some (.string y) := fun j y hy => by
   rw [List.getElem?_map] at hy
   obtain ⟨z, hz, rfl⟩ := Option.map_eq_some_iff.1 hy
   exact hc j z hz
  have hm : (((x :: r).map fun z => (⟨z.toArray⟩ : ByteArray)).map (·.data.toList)) = x :: r := by
   rw [List.map_map]; exact List.map_id _
  have hj : Lib.join (((x :: r).map fun z => (⟨z.toArray⟩ : ByteArray)).map (·.data.toList)) (⟨sep.toArray⟩ : ByteArray).data.toList = Lib.join (x :: r) sep := by rw [hm]
  have hlen : ((x :: r).map fun z => (⟨z.toArray⟩ : ByteArray)).length = (x :: r).length := by simp
  have h := Tryz.strings_Join b off cap ((x :: r).map fun z => (⟨z.toArray⟩ : ByteArray)) ⟨sep.toArray⟩ w hcells hb (by rw [hlen]; omega) (by rw [hlen]; exact h1) (by rw [hj]; exact hl)
  rw [hlen] at h
  refine h.mono ?_
  rintro e w' ⟨rfl, hbl⟩
  exact ⟨by rw [hj], Only.of_below hbl⟩

theorem join_run (w : World) (wd : B) (l : List B) (v : Value) (hv : Rd S w v l) (hb : sumLen l + l.length ≤ 900000) (hw : wd.length ≤ 1000) :
  Calls Tryz.prog 160 #[S wd, v] w (RetE (S (Lib.join l wd)) w) := by
 have hj : Calls Tryz.prog 161 #[v, S wd] w (RetE (S (Lib.join l wd)) w) := joinX_any w v l wd hv (by omega) (by
  have h1 := join_le wd l
  have h2 : l.length * wd.length ≤ 900000 * 1000 := Nat.mul_le_mul (by omega) hw
  omega)
 have HJ := Lib.hid hj
 obtain ⟨a, cap, rfl, _, _, _⟩ := hv
 clear hj
 go_enter Tryz.func160, Tryz.ntmps160
 go_wp2_with fail
 refine (HJ.out).mono ?_
 rintro e w1 ⟨rfl, ho⟩
 have HO := Lib.hid ho
 clear ho
 go_wp2_with fail
 go_ret
 exact ⟨rfl, HO.out⟩

theorem write_run (w : World) (wd : B) (v : Value) : Calls Tryz.prog 159 #[S wd, v] w (RetE (S wd) w) := by
 go_enter Tryz.func159, Tryz.ntmps159
 go_wp2_with fail
 go_ret
 exact ⟨rfl, Only.refl _ _⟩

theorem pair_cut {wd : B} (h : pairB wd = true) : (cut1 61 wd).1 ≠ [] := by
 intro e
 obtain ⟨_, h2, h3⟩ := cut1_spec 61 wd
 unfold pairB at h
 cases hf : (cut1 61 wd).2.2 with
 | true =>
  have := h2 hf
  rw [e] at this
  rw [this] at h
  simp at h
 | false =>
  have := (h3 hf).1
  rw [this] at e
  simp only at e
  rw [e] at h
  simp at h

theorem run_kind (w : World) (P : Nat → Addr) (k : Kd) (wd : B) (l : List B) (v : Value) (hv : Rd S w v l) (hb : sumLen l + l.length ≤ 900000) (hw : wd.length ≤ 1000) (h1 : k.least ≤ l.length) (h2 : k.word wd = true) (hA : ActVars w P) :
  Calls Tryz.prog k.runF #[S wd, v] w (RetE (S (k.run wd l)) w) := by
 have hx : ∀ x r, l = x :: r → x.length ≤ 900000 := fun x r e => by subst e; rw [sum_cons] at hb; omega
 cases k with
 | write => exact write_run w wd v
 | join => exact join_run w wd l v hv hb hw
 | sort => exact sorted_any w wd l v hv hb hA.max
 | count => exact count_any w wd l v hv hb hA.max hA.pow
 | upper =>
  cases l with
  | nil => simp [Kd.least] at h1
  | cons x r => exact upper_any w wd x r v hv (by have := hx x r rfl; omega)
 | lines =>
  cases l with
  | nil => simp [Kd.least] at h1
  | cons x r => exact actLines_any w wd x r v hv (hx x r rfl) hA.max
 | swap =>
  cases l with
  | nil => simp [Kd.least] at h1
  | cons x r => exact swap_any w wd x r v hv (hx x r rfl) hw (pair_cut h2) hA.max
 | head =>
  cases l with
  | nil => simp [Kd.least] at h1
  | cons x r =>
   obtain ⟨n, hn⟩ := Option.isSome_iff_exists.1 h2
   have := head_any w wd x r v n hv (hx x r rfl) hn hA.max
   show Calls _ _ _ _ (RetE (S (endedB ((linesB x).take ((numB 3 wd).getD 0)))) w)
   rw [hn]
   exact this
end Go.Proofs.YtnmhaipjfpongabGreatDoor
