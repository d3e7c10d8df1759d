/- Texts of this seat laid together: F6, F7. No condition of its own: what each proves stands with its theorems. -/
import Derived.Test.YtnmhaipjfpongacGreatDoorGi
import Derived.BigQuiet
import Derived.Test.YtnmhaipjfpongacGreatDoorGh
import Derived.Deep.RegionHeld3
namespace Go.Proofs.YtnmhaipjfpongacGreatDoor
open Go.ChangeShapes Go.WideShapes Go.ChangeAt Go.RowKit

theorem actCode_ok {name wd : B} {n : Nat} (h : actCode name wd n = 0) : ∃ k, kinds.lookup name = some k ∧ k.least ≤ n ∧ k.word wd = true ∧ wd.length ≤ 100 := by
  unfold actCode at h
  cases hk : kinds.lookup name with
  | none => rw [hk] at h; cases h
  | some k =>
    rw [hk] at h
    simp only at h
    split at h
    · cases h
    · rename_i h1
      split at h
      · cases h
      · refine ⟨k, rfl, by omega, ?_, by omega⟩
        cases hw : k.word wd with
        | true => rfl
        | false => exact absurd (.inr (.inr hw)) h1

set_option maxRecDepth 100000 in
set_option maxHeartbeats 2000000 in
theorem actRun_any (w : World) (P : Nat → Addr) (name wd : B) (l : List B) (v : Value) (hv : Rd S w v l) (hb : sumLen l + l.length ≤ 900000) (hw : wd.length ≤ 1000) (hA : ActVars w P) :
    Calls Tryz.prog 125 #[S name, S wd, v] w (RetE (.tuple #[S (runOut name wd l), errC P (runCode name wd l)]) w) := by
  have HC := Lib.hid (actCheck_any w P name wd l.length (by omega) hA)
  cases hc : actCode name wd l.length with
  | succ c =>
    have e1 : runCode name wd l = c + 1 := by unfold runCode; rw [hc, if_neg (Nat.succ_ne_zero _)]
    have e2 : runOut name wd l = [] := by unfold runOut; rw [e1, if_neg (Nat.succ_ne_zero _)]
    rw [e1, e2, show errC P (c + 1) = errV (P c) from rfl]
    rw [hc, show errC P (c + 1) = errV (P c) from rfl] at HC
    obtain ⟨a, cap, rfl, _, _, _⟩ := hv
    clear e1 e2 hc hA hb hw
    go_enter Tryz.func125, Tryz.ntmps125
    go_wp2_with fail
    refine (HC.out).mono ?_
    rintro e w1 ⟨rfl, ho⟩
    have HO := Lib.hid ho
    clear ho
    go_wp2_with fail
    go_ret2
    exact ⟨rfl, HO.out⟩
  | zero =>
    obtain ⟨k, hk, h1, h2, h3⟩ := actCode_ok hc
    have HR := Lib.hid (fun W (hW : Ext w W) => run_kind W P k wd l v (hv.ext hW) hb hw h1 h2 (hA.ext hW))
    have HKS := Lib.hid (fun (w1 : World) b (h : KMap .string S encK w1 b kinds) => kind_some1 hk h)
    have eg := enters_run k
    rw [hc, show errC P 0 = .nilIface from rfl] at HC
    have e0 : actOut name wd l = k.run wd l := by unfold actOut; rw [hk]
    have e1 : runCode name wd l = if 2000 < (k.run wd l).length then 10 else 0 := by unfold runCode; rw [hc, if_pos rfl, e0]
    have e2 : runOut name wd l = if 2000 < (k.run wd l).length then [] else k.run wd l := by
      unfold runOut
      rw [e1, e0]
      by_cases h : 2000 < (k.run wd l).length
      · rw [if_pos h, if_pos h, if_neg (by decide)]
      · rw [if_neg h, if_neg h, if_pos rfl]
    rw [e1, e2]
    have HV := Lib.hid hA
    generalize k.run wd l = out at *
    generalize k.wordF = gw at *
    generalize k.runF = gr at *
    generalize k.least = lo at *
    generalize k.most = hi at *
    have hfd : ∀ w, (Instr.field 257 (.agg #[I lo, I hi, FV gw, FV gr]) 3).run Tryz.prog w = .ok (FV gr) w := fun w => by kernel_rfl
    obtain ⟨a, cap, rfl, _, _, _⟩ := hv
    clear e0 e1 e2 hk h1 h2 h3 hc hA
    by_cases hl : 2000 < out.length
    · rw [if_pos hl, if_pos hl, show errC P 10 = errV (P 9) from rfl]
      have hlz : (2000 : Int) < (out.length : Int) := by omega
      clear hl
      go_enter Tryz.func125, Tryz.ntmps125
      go_wp2_with fail
      refine (HC.out).mono ?_
      rintro e w1 ⟨rfl, ho⟩
      have HO := Lib.hid ho
      clear ho
      go_wp2_with fail
      refine (kinds_any w1).mono ?_
      rintro e w2 ⟨b, rfl, hm, ho⟩
      have HO2 := Lib.hid (HO.out.then ho)
      have HM := Lib.hid hm
      clear hm ho
      have hlk := HKS.out w2 b HM.out
      go_wp2_with fail
      refine (HR.out _ HO2.out).mono ?_
      rintro e w3 ⟨rfl, ho⟩
      have HO3 := Lib.hid (HO2.out.then ho)
      clear ho
      have c0 := (HV.out.ext HO3.out).errs.var 9 _ (by decide) rfl
      go_wp2_with fail
      go_quiet (fail)
      go_wp2
      go_ret2
      exact ⟨rfl, HO3.out.thenDrewN _⟩
    · rw [if_neg hl, if_neg hl, show errC P 0 = .nilIface from rfl]
      have hlz : ¬ (2000 : Int) < (out.length : Int) := by omega
      clear hl
      go_enter Tryz.func125, Tryz.ntmps125
      go_wp2_with fail
      refine (HC.out).mono ?_
      rintro e w1 ⟨rfl, ho⟩
      have HO := Lib.hid ho
      clear ho
      go_wp2_with fail
      refine (kinds_any w1).mono ?_
      rintro e w2 ⟨b, rfl, hm, ho⟩
      have HO2 := Lib.hid (HO.out.then ho)
      have HM := Lib.hid hm
      clear hm ho
      have hlk := HKS.out w2 b HM.out
      go_wp2_with fail
      refine (HR.out _ HO2.out).mono ?_
      rintro e w3 ⟨rfl, ho⟩
      have HO3 := Lib.hid (HO2.out.then ho)
      clear ho
      go_wp2_with fail
      go_ret2
      exact ⟨rfl, HO3.out⟩
end Go.Proofs.YtnmhaipjfpongacGreatDoor

namespace Go.Proofs.YtnmhaipjfpongacGreatDoor
open Go.ChangeShapes Go.WideShapes Go.ChangeAt Go.RowKit

/-! ### lines -/
theorem lines_ended {L : List B} (h : ∀ x ∈ L, (10 : UInt8) ∉ x) : linesB (endedB L) = L := by
  have e : endedB L = joinc 10 (L ++ [[]]) := by
    cases L with
    | nil => simp [endedB, joinc_one]
    | cons x l => rw [ended_join (by simp), joinc_app 10 (x :: l) [[]] (by simp) (by simp), joinc_one]
  unfold linesB
  rw [e, cutc_join 10 (L ++ [[]]) (by simp) (fun x hx => by
    rcases List.mem_append.1 hx with hx | hx
    · exact h x hx
    · rw [List.mem_singleton.1 hx]; simp)]
  simp

theorem mem_lines {s x : B} (h : x ∈ linesB s) : (10 : UInt8) ∉ x := mem_cut_c 10 s x ((linesB_sub s).subset h)
theorem mem_all {l : List B} {x : B} (h : x ∈ allB l) : (10 : UInt8) ∉ x := by
  obtain ⟨s, _, hs⟩ := List.mem_flatMap.1 h
  exact mem_lines hs

/-! ### sorting -/
def leB (x y : B) : Bool := decide (x ≤ y)
theorem sortB_pairwise (l : List B) : (sortB l).Pairwise fun x y => decide (x ≤ y) = true :=
  List.pairwise_mergeSort (fun a b c h1 h2 => by
    have h1 : a ≤ b := of_decide_eq_true h1
    have h2 : b ≤ c := of_decide_eq_true h2
    exact decide_eq_true (List.le_trans h1 h2)) (fun a b => by
    rcases List.le_total a b with h | h
    · simp [decide_eq_true h]
    · simp [decide_eq_true h]) _
theorem sortB_of {l k : List B} (hp : l.Perm k) (hk : k.Pairwise fun x y => decide (x ≤ y) = true) : sortB l = k := by
  refine List.Perm.eq_of_pairwise (fun a b _ _ h1 h2 => ?_) (sortB_pairwise l) hk ((List.mergeSort_perm _ _).trans hp)
  exact List.le_antisymm (of_decide_eq_true h1) (of_decide_eq_true h2)
theorem sortB_perm {l k : List B} (hp : l.Perm k) : sortB l = sortB k := sortB_of (hp.trans (List.mergeSort_perm _ _).symm) (sortB_pairwise k)
theorem sortB_idem (l : List B) : sortB (sortB l) = sortB l := sortB_of (List.Perm.refl _) (sortB_pairwise l)
theorem sortB_len (l : List B) : (sortB l).length = l.length := List.length_mergeSort _
theorem mem_sort {l : List B} {x : B} (h : x ∈ sortB l) : x ∈ l := (List.mergeSort_perm _ _).subset h
theorem sortB_step {l : List B} {i : Nat} {x y : B} (hx : (sortB l)[i]? = some x) (hy : (sortB l)[i + 1]? = some y) : Op.bytesLess y x = false := by
  obtain ⟨h1, rfl⟩ := List.getElem?_eq_some_iff.1 hx
  obtain ⟨h2, rfl⟩ := List.getElem?_eq_some_iff.1 hy
  have := List.pairwise_iff_getElem.1 (sortB_pairwise l) i (i + 1) h1 h2 (Nat.lt_succ_self _)
  rw [bytesLess_eq]
  exact decide_eq_false (List.not_lt.2 (of_decide_eq_true this))

/-! ### each once -/
def keptB (l : List B) (i : Nat) : List B := Lib.compactUpTo l.toArray i
theorem kept_all (l : List B) : keptB l l.length = Lib.compact l := rfl
theorem kept_zero (l : List B) : keptB l 0 = [] := rfl
theorem getB {l : List B} {i : Nat} {x : B} (h : l[i]? = some x) : l.toArray[i]! = x := by
  obtain ⟨h1, rfl⟩ := List.getElem?_eq_some_iff.1 h
  rw [getElem!_pos _ i (by simpa using h1)]
  simp
theorem kept_new {l : List B} {i : Nat} {x : B} (h : l[i]? = some x) (hn : ∀ k y, i = k + 1 → l[k]? = some y → x ≠ y) : keptB l (i + 1) = keptB l i ++ [x] := by
  unfold keptB
  rw [Lib.compactUpTo_succ, getB h]
  have : Lib.keeps l.toArray i = true := by
    cases i with
    | zero => simp [Lib.keeps]
    | succ k =>
      obtain ⟨y, hy⟩ : ∃ y, l[k]? = some y := ⟨_, List.getElem?_eq_getElem (by have := (List.getElem?_eq_some_iff.1 h).1; omega)⟩
      have := hn k y rfl hy
      refine Lib.keeps_pos ?_
      rw [getB h, Nat.add_sub_cancel, getB hy]
      exact this
  rw [if_pos this]
theorem kept_old {l : List B} {k : Nat} {x : B} (h : l[k + 1]? = some x) (hy : l[k]? = some x) : keptB l (k + 1 + 1) = keptB l (k + 1) := by
  unfold keptB
  rw [Lib.compactUpTo_succ, Lib.keeps_neg (by omega) (by rw [getB h, Nat.add_sub_cancel, getB hy])]
  simp
theorem kept_prefix (l : List B) : ∀ i n, i ≤ n → keptB l i <+: keptB l n
  | i, 0, h => by rw [Nat.le_zero.1 h]; exact List.prefix_refl _
  | i, n + 1, h => by
    by_cases e : i = n + 1
    · subst e; exact List.prefix_refl _
    · refine (kept_prefix l i n (by omega)).trans ?_
      unfold keptB
      rw [Lib.compactUpTo_succ]
      exact List.prefix_append _ _
theorem kept_at {l : List B} {i : Nat} {x : B} (h : l[i]? = some x) (hn : ∀ k y, i = k + 1 → l[k]? = some y → x ≠ y) : (Lib.compact l)[(keptB l i).length]? = some x := by
  have hi := (List.getElem?_eq_some_iff.1 h).1
  obtain ⟨t, ht⟩ := kept_prefix l (i + 1) l.length hi
  rw [kept_all, kept_new h hn] at ht
  rw [← ht, List.append_assoc, List.getElem?_append_right (Nat.le_refl _)]
  simp

/-! ### the reference's lines -/
def RetRd (l : List B) (w : World) (e : Ending) (w' : World) : Prop := ∃ v, e = .returned v ∧ Ext w w' ∧ Rd S w' v l

set_option maxRecDepth 100000 in
set_option maxHeartbeats 1000000 in
theorem refLines_any (w : World) (s : B) (hs : s.length ≤ 900000) : Calls Tryz.prog 221 #[S s] w (RetRd (linesB s) w) := by
  have hle := cutc_len_le 10 s
  have hC := refCutC_any w 10 10 (by decide) s (by omega)
  obtain ⟨i, x, hix⟩ : ∃ i x, cutc 10 s = i ++ [x] := ⟨_, _, (List.dropLast_concat_getLast (cutc_ne 10 s)).symm⟩
  have hlb : linesB s = if x = [] then i else i ++ [x] := by unfold linesB; rw [hix]; simp
  rw [hlb]
  rw [hix, List.length_append, List.length_singleton] at hC
  have hil : (i.length : Int) ≤ 1000000 := by rw [hix] at hle; simp at hle; omega
  have hi0 : (0 : Int) ≤ (i.length : Int) := by omega
  have HC := Lib.hid hC
  by_cases hx : x = []
  · have hxq : (x == []) = true := beq_iff_eq.2 hx
    rw [if_pos hx]
    clear hle hix hlb hs hx hC
    go_enter Tryz.func221, Tryz.ntmps221
    go_wp2_with fail
    refine (HC.out).mono ?_
    rintro e w1 ⟨g, cap, rfl, hr, ho⟩
    have HO := Lib.hid ho
    have HR := Lib.hid hr
    clear ho hr
    have HR2 : Hid (Row w.heap.size w1 (.slice (some ⟨g, 0, none⟩) (i.length + 1) cap) (i ++ [x])) := Lib.hid (by simpa [Row] using HR.out)
    obtain ⟨_, _, hv, hcp, _, hcc⟩ := HR2.out.rd
    obtain ⟨_, _, hg, hcell⟩ := hcc (by simp)
    simp only [List.length_append, List.length_singleton] at hv
    cases hv
    cases hg
    have hc : w1.cell? ⟨g, i.length, none⟩ = some (S x) := by simpa using hcell i.length x (by simp)
    have hcz : (i.length : Int) + 1 ≤ (cap : Int) := by simp at hcp; omega
    clear hcell hcp hcc
    go_wp2_with fail
    go_ret
    exact ⟨_, rfl, HO.out, by simpa using (HR2.out.take i.length (by simp)).rd⟩
  · have hxq : (x == []) = false := beq_eq_false_iff_ne.2 hx
    rw [if_neg hx]
    clear hle hix hlb hs hx hC
    go_enter Tryz.func221, Tryz.ntmps221
    go_wp2_with fail
    refine (HC.out).mono ?_
    rintro e w1 ⟨g, cap, rfl, hr, ho⟩
    have HO := Lib.hid ho
    have HR := Lib.hid hr
    clear ho hr
    have HR2 : Hid (Row w.heap.size w1 (.slice (some ⟨g, 0, none⟩) (i.length + 1) cap) (i ++ [x])) := Lib.hid (by simpa [Row] using HR.out)
    obtain ⟨_, _, hv, hcp, _, hcc⟩ := HR2.out.rd
    obtain ⟨_, _, hg, hcell⟩ := hcc (by simp)
    simp only [List.length_append, List.length_singleton] at hv
    cases hv
    cases hg
    have hc : w1.cell? ⟨g, i.length, none⟩ = some (S x) := by simpa using hcell i.length x (by simp)
    have hcz : (i.length : Int) + 1 ≤ (cap : Int) := by simp at hcp; omega
    clear hcell hcp hcc
    go_wp2_with fail
    go_ret
    exact ⟨_, rfl, HO.out, HR2.out.rd⟩

/-! ### commands at lists that a call lays out -/
theorem rd_new (w : World) (l : List B) (hl : l.length ≤ 1000000) : Rd S (w.alloc (.cells (l.map S).toArray 9 (0, 0))) (.slice (some ⟨w.heap.size, 0, none⟩) l.length l.length) l :=
  (row_fresh (base := 0) (MapKept.heap_alloc w _).1 (Nat.zero_le _) (by unfold maxLen; omega)).rd

def RunOk (s : B) (w : World) (e : Ending) (w' : World) : Prop := e = .returned (.tuple #[S s, .nilIface]) ∧ Ext w w'

theorem run1_ok (w : World) (P : Nat → Addr) (name wd a s : B) (hw : wd.length ≤ 1000) (ha : a.length ≤ 800000) (hA : ActVars w P) (h1 : runCode name wd [a] = 0) (h2 : actOut name wd [a] = s) :
    Calls Tryz.prog 125 #[S name, S wd, .slice (some ⟨w.heap.size, 0, none⟩) 1 1] (w.alloc (.cells #[S a] 9 (0, 0))) (RunOk s w) := by
  refine (actRun_any (w.alloc (.cells #[S a] 9 (0, 0))) P name wd [a] _ (rd_new w [a] (by simp)) (by simp [sumLen]; omega) hw (hA.ext (Only.alloc _ _ _))).mono ?_
  rintro e w' ⟨rfl, ho⟩
  refine ⟨?_, (Only.alloc _ _ _).then ho⟩
  unfold runOut
  rw [h1, if_pos rfl, h2]
  rfl

theorem run3_ok (w : World) (P : Nat → Addr) (name wd a b c s : B) (hw : wd.length ≤ 1000) (ha : a.length ≤ 100000) (hb : b.length ≤ 100000) (hc : c.length ≤ 100000) (hA : ActVars w P) (h1 : runCode name wd [a, b, c] = 0) (h2 : actOut name wd [a, b, c] = s) :
    Calls Tryz.prog 125 #[S name, S wd, .slice (some ⟨w.heap.size, 0, none⟩) 3 3] (w.alloc (.cells #[S a, S b, S c] 9 (0, 0))) (RunOk s w) := by
  refine (actRun_any (w.alloc (.cells #[S a, S b, S c] 9 (0, 0))) P name wd [a, b, c] _ (rd_new w [a, b, c] (by simp)) (by simp [sumLen]; omega) hw (hA.ext (Only.alloc _ _ _))).mono ?_
  rintro e w' ⟨rfl, ho⟩
  refine ⟨?_, (Only.alloc _ _ _).then ho⟩
  unfold runOut
  rw [h1, if_pos rfl, h2]
  rfl

theorem run2_ok (w : World) (P : Nat → Addr) (name wd a b s : B) (hw : wd.length ≤ 1000) (ha : a.length ≤ 100000) (hb : b.length ≤ 100000) (hA : ActVars w P) (h1 : runCode name wd [a, b] = 0) (h2 : actOut name wd [a, b] = s) :
    Calls Tryz.prog 125 #[S name, S wd, .slice (some ⟨w.heap.size, 0, none⟩) 2 2] (w.alloc (.cells #[S a, S b] 9 (0, 0))) (RunOk s w) := by
  refine (actRun_any (w.alloc (.cells #[S a, S b] 9 (0, 0))) P name wd [a, b] _ (rd_new w [a, b] (by simp)) (by simp [sumLen]; omega) hw (hA.ext (Only.alloc _ _ _))).mono ?_
  rintro e w' ⟨rfl, ho⟩
  refine ⟨?_, (Only.alloc _ _ _).then ho⟩
  unfold runOut
  rw [h1, if_pos rfl, h2]
  rfl

/-! ### a condition held in a region may grow on the way -/
theorem heldMono {P : Program} {ops : Array Oper} {Q : Exit → Act → World → Prop} {md : Region.Mode} {S S' : World → Prop} (h : ∀ w, S' w → S w) : ∀ (fuel : Nat) (listed : Array Bool) (a : Act) (w : World), wpAnyH P md ops Q S' fuel listed a w → wpAnyH P md ops Q S fuel listed a w
  | 0, _, _, _, hh => hh
  | fuel + 1, _, _, _, hh => ⟨hh.1, fun i hi => wpOp_mono (fun a' w' h' => ⟨h w' h'.1, heldMono h fuel _ a' w' h'.2⟩) (hh.2 i hi)⟩
theorem heldMore {P : Program} {ops : Array Oper} {Q : Exit → Act → World → Prop} {md : Region.Mode} {S S' : World → Prop} {fuel : Nat} {listed : Array Bool} {a : Act} {w : World} (h : ∀ w, S' w → S w) (hh : S' w ∧ wpAnyH P md ops Q S' fuel listed a w) : S w ∧ wpAnyH P md ops Q S fuel listed a w :=
  ⟨h _ hh.1, heldMono h fuel listed a w hh.2⟩

theorem run_zero {name wd : B} {l : List B} (h1 : actCode name wd l.length = 0) (h2 : (actOut name wd l).length ≤ 2000) : runCode name wd l = 0 := by
  unfold runCode
  rw [if_pos h1, if_neg (by omega)]
theorem act_sort (wd : B) (l : List B) : actOut [115, 111, 114, 116] wd l = endedB (sortedB wd (allB l)) := by kernel_rfl
theorem act_count (wd : B) (l : List B) : actOut [99, 111, 117, 110, 116] wd l = Lib.decDigits (allB l).length ++ 32 :: Lib.decDigits (sumLen l) ++ [10] := by kernel_rfl

/-- A list whose first element is known. -/
def RetHead (d : B) (w : World) (e : Ending) (w' : World) : Prop := ∃ g n cap, e = .returned (.slice (some ⟨g, 0, none⟩) (n + 1) cap) ∧ w'.cell? ⟨g, 0, none⟩ = some (S d) ∧ Ext w w'

theorem dec_no32 (n : Nat) : (32 : UInt8) ∉ Lib.decDigits n := fun h => by
  have := dec_all n 32 h
  simp at this

theorem cut_head (w : World) (d r : B) (hd : (32 : UInt8) ∉ d) (hl : (d ++ 32 :: r).length ≤ 999999) : Calls Tryz.prog 156 #[S (d ++ 32 :: r), .int .u8 32] w (RetHead d w) := by
  have h := refCutC_any w 32 32 (by decide) (d ++ 32 :: r) hl
  rw [cutc_app 32 d r hd] at h
  refine h.mono ?_
  rintro e w' ⟨g, cap, rfl, hr, ho⟩
  obtain ⟨_, _, hv, _, _, hc⟩ := Row.rd (base := w.heap.size) (l := d :: cutc 32 r) hr
  obtain ⟨_, _, hg, hcell⟩ := hc (by simp)
  cases hv
  cases hg
  exact ⟨g, _, cap, rfl, by simpa using hcell 0 d rfl, ho⟩

end Go.Proofs.YtnmhaipjfpongacGreatDoor
