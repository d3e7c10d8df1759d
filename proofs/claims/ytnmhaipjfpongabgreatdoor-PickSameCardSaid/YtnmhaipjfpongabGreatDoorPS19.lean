/- Texts of this seat laid together for one claim: F6, W2, J0, F10, W3, W5. No condition of its own: what each proves stands with its theorems. -/
import Derived.BigQuiet
import Derived.Test.YtnmhaipjfpongabGreatDoorPS18
import Derived.Test.YtnmhaipjfpongabGreatDoorPS12
import Derived.Test.YtnmhaipjfpongabGreatDoorPS6
import Derived.Deep.RegionHeld3
import Derived.Deep.CutBlock
import Derived.Deep.DeepCutAuto
import Derived.Deep.LoopGhost
import Derived.IntWalk
import Derived.Sort.Walk0
import Derived.Deep.AppendLies
import Derived.Deep.RegionLaw
namespace Go.Proofs.YtnmhaipjfpongabGreatDoor
open Go.ChangeShapes Go.WideShapes Go.ChangeAt Go.RowKit

theorem actCode_ok {name wd : B} {n : Nat} (h : actCode name wd n = 0) : ∃ k, kinds.lookup name = some k ∧ k.least ≤ n ∧ k.word wd = true ∧ wd.length ≤ 100 := by
 unfold actCode at h
 cases hk : kinds.lookup name with
 | none => rw [hk] at h; cases h
 | some k =>
  rw [hk] at h
  simp only at h
  split at h
  ·cases h
  ·rename_i h1
   split at h
   ·cases h
   ·refine ⟨k, rfl, by omega, ?_, by omega⟩
    cases hw : k.word wd with
    | true => rfl
    | false => exact absurd (.inr (.inr hw)) h1

set_option maxRecDepth 100000 in
set_option maxHeartbeats 2000000 in
theorem actRun_any (w : World) (P : Nat → Addr) (name wd : B) (l : List B) (v : Value) (hv : Rd S w v l) (hb : sumLen l + l.length ≤ 900000) (hw : wd.length ≤ 1000) (hA : ActVars w P) :
  Calls Tryz.prog 29 #[S name, S wd, v] w (RetE (.tuple #[S (runOut name wd l), errC P (runCode name wd l)]) w) := by
 have HC := Lib.hid (actCheck_any w P name wd l.length (by omega) hA)
 cases hc : actCode name wd l.length with
 | succ c =>
  have e1 : runCode name wd l = c + 1 := by unfold runCode; rw [hc, if_neg (Nat.succ_ne_zero _)]
  have e2 : runOut name wd l = [] := by unfold runOut; rw [e1, if_neg (Nat.succ_ne_zero _)]
  rw [e1, e2, show errC P (c + 1) = errV (P c) from rfl]
  rw [hc, show errC P (c + 1) = errV (P c) from rfl] at HC
  obtain ⟨a, cap, rfl, _, _, _⟩ := hv
  clear e1 e2 hc hA hb hw
  go_enter Tryz.func29, Tryz.ntmps29
  go_wp2_with fail
  refine (HC.out).mono ?_
  rintro e w1 ⟨rfl, ho⟩
  have HO := Lib.hid ho
  clear ho
  go_wp2_with fail
  go_ret2
  exact ⟨rfl, HO.out⟩
 | zero =>
  obtain ⟨k, hk, h1, h2, h3⟩ := actCode_ok hc
  have HR := Lib.hid (fun W (hW : Ext w W) => run_kind W P k wd l v (hv.ext hW) hb hw h1 h2 (hA.ext hW))
  have HKS := Lib.hid (fun (w1 : World) b (h : KMap .string S encK w1 b kinds) => kind_some1 hk h)
  have eg := enters_run k
  rw [hc, show errC P 0 = .nilIface from rfl] at HC
  have e0 : actOut name wd l = k.run wd l := by unfold actOut; rw [hk]
  have e1 : runCode name wd l = if 2000 < (k.run wd l).length then 10 else 0 := by unfold runCode; rw [hc, if_pos rfl, e0]
  have e2 : runOut name wd l = if 2000 < (k.run wd l).length then [] else k.run wd l := by
   unfold runOut
   rw [e1, e0]
   by_cases h : 2000 < (k.run wd l).length
   ·rw [if_pos h, if_pos h, if_neg (by decide)]
   ·rw [if_neg h, if_neg h, if_pos rfl]
  rw [e1, e2]
  have HV := Lib.hid hA
  generalize k.run wd l = out at *
  generalize k.wordF = gw at *
  generalize k.runF = gr at *
  generalize k.least = lo at *
  generalize k.most = hi at *
  have hfd : ∀ w, (Instr.field 140 (.agg #[I lo, I hi, FV gw, FV gr]) 3).run Tryz.prog w = .ok (FV gr) w := fun w => by kernel_rfl
  obtain ⟨a, cap, rfl, _, _, _⟩ := hv
  clear e0 e1 e2 hk h1 h2 h3 hc hA
  by_cases hl : 2000 < out.length
  ·rw [if_pos hl, if_pos hl, show errC P 10 = errV (P 9) from rfl]
   have hlz : (2000 : Int) < (out.length : Int) := by omega
   clear hl
   go_enter Tryz.func29, Tryz.ntmps29
   go_wp2_with fail
   refine (HC.out).mono ?_
   rintro e w1 ⟨rfl, ho⟩
   have HO := Lib.hid ho
   clear ho
   go_wp2_with fail
   refine (kinds_any w1).mono ?_
   rintro e w2 ⟨b, rfl, hm, ho⟩
   have HO2 := Lib.hid (HO.out.then ho)
   have HM := Lib.hid hm
   clear hm ho
   have hlk := HKS.out w2 b HM.out
   go_wp2_with fail
   refine (HR.out _ HO2.out).mono ?_
   rintro e w3 ⟨rfl, ho⟩
   have HO3 := Lib.hid (HO2.out.then ho)
   clear ho
   have c0 := (HV.out.ext HO3.out).errs.var 9 _ (by decide) rfl
   go_wp2_with fail
   go_quiet (fail)
   go_wp2
   go_ret2
   exact ⟨rfl, HO3.out.thenDrewN _⟩
  ·rw [if_neg hl, if_neg hl, show errC P 0 = .nilIface from rfl]
   have hlz : ¬ (2000 : Int) < (out.length : Int) := by omega
   clear hl
   go_enter Tryz.func29, Tryz.ntmps29
   go_wp2_with fail
   refine (HC.out).mono ?_
   rintro e w1 ⟨rfl, ho⟩
   have HO := Lib.hid ho
   clear ho
   go_wp2_with fail
   refine (kinds_any w1).mono ?_
   rintro e w2 ⟨b, rfl, hm, ho⟩
   have HO2 := Lib.hid (HO.out.then ho)
   have HM := Lib.hid hm
   clear hm ho
   have hlk := HKS.out w2 b HM.out
   go_wp2_with fail
   refine (HR.out _ HO2.out).mono ?_
   rintro e w3 ⟨rfl, ho⟩
   have HO3 := Lib.hid (HO2.out.then ho)
   clear ho
   go_wp2_with fail
   go_ret2
   exact ⟨rfl, HO3.out⟩
end Go.Proofs.YtnmhaipjfpongabGreatDoor

namespace Go.Proofs.YtnmhaipjfpongabGreatDoor

theorem fileB_lt {s : B} {r : B × B × B} (h : fileB s = some r) : r.2.2.length < s.length ∧ r.1.length ≤ s.length ∧ r.2.1.length ≤ s.length := by
 obtain ⟨hd, rest, p, dg, n, e1, e2, hn, hr, rfl⟩ := fileB_some h
 have h1 := (cut1_spec 10 s).2.1
 rw [e1] at h1
 have h1 := h1 rfl
 have h2 := cut1_len 32 hd
 rw [e2] at h2
 have h3 : s.length = hd.length + 1 + rest.length := by rw [h1]; simp; omega
 have h4 : n < rest.length := (List.getElem?_eq_some_iff.1 hr).1
 simp at h2 ⊢
 omega

def filesB : Nat → B → Option FL
 | 0, _ => none
 | n + 1, s => if s = [] then some [] else match fileB s with
  | none => none
  | some r => (filesB n r.2.2).map fun l => (r.1, r.2.1) :: l

theorem filesB_nil (n : Nat) : filesB (n + 1) [] = some [] := rfl
theorem filesB_bad {n : Nat} {s : B} (hs : s ≠ []) (h : fileB s = none) : filesB (n + 1) s = none := by rw [filesB, if_neg hs, h]
theorem filesB_more {n : Nat} {s : B} {r : B × B × B} (hs : s ≠ []) (h : fileB s = some r) : filesB (n + 1) s = (filesB n r.2.2).map fun l => (r.1, r.2.1) :: l := by rw [filesB, if_neg hs, h]

def putsT (T : FL) (l : FL) : FL := l.foldl (fun T q => putT T q.1 q.2) T
def putsC : FL → FL → Nat
 | _, [] => 0
 | T, q :: l => if putCode T q.1 q.2 = 0 then putsC (putT T q.1 q.2) l else putCode T q.1 q.2

instance (L : FL) : Decidable (Rising L) := inferInstanceAs (Decidable (List.Pairwise _ L))

def readC (s : B) : Nat := match filesB (s.length + 1) s with
 | none => 1
 | some l => if putsC [] l = 0 then if Rising l then 0 else 3 else putsC [] l
def readT (s : B) : FL := match filesB (s.length + 1) s with
 | none => []
 | some l => putsT [] l

theorem Rising.next {l : FL} (h : Rising l) {i : Nat} {x y : B × B} (hx : l[i]? = some x) (hy : l[i + 1]? = some y) : x.1 < y.1 := by
 obtain ⟨h1, rfl⟩ := List.getElem?_eq_some_iff.1 hx
 obtain ⟨h2, rfl⟩ := List.getElem?_eq_some_iff.1 hy
 exact List.pairwise_iff_getElem.1 h i (i + 1) h1 h2 (Nat.lt_succ_self i)

def Apart (L : FL) : Prop := ∀ q ∈ L, ∀ r ∈ L, aboveB q.1 r.1 = false

theorem aboveB_self (p : B) : aboveB p p = false := by
 unfold aboveB
 cases h : (p ++ [47]).isPrefixOf p with
 | false => rfl
 | true =>
  have := (List.isPrefixOf_iff_prefix.1 h).length_le
  rw [List.length_append] at this
  simp at this
  exact absurd this (by omega)

theorem Apart.nil : Apart [] := by intro q hq; simp at hq
theorem putCode_clash {L : FL} {p x : B} (h : putCode L p x = 0) : clash L p = false := by
 unfold putCode at h
 split at h
 ·split at h
  ·omega
  ·split at h
   ·omega
   ·rename_i h3; simpa using h3
 ·omega

theorem Apart.put {L : FL} (h : Apart L) (hr : Rising L) (p x : B) : Apart (putT L p x) := by
 unfold putT
 by_cases h0 : putCode L p x = 0
 ·rw [if_pos h0]
  have hc := putCode_clash h0
  unfold clash at hc
  rw [List.any_eq_false] at hc
  have key : ∀ q ∈ L, aboveB p q.1 = false ∧ aboveB q.1 p = false := fun q hq => by
   have := hc q hq
   simpa using this
  intro q hq r hr'
  rcases mem_set hr hq with rfl | hq
  ·rcases mem_set hr hr' with rfl | hr'
   ·exact aboveB_self _
   ·exact (key r hr').1
  ·rcases mem_set hr hr' with rfl | hr'
   ·exact (key q hq).2
   ·exact h q hq r hr'
 ·rw [if_neg h0]; exact h

end Go.Proofs.YtnmhaipjfpongabGreatDoor

namespace Go.Proofs.YtnmhaipjfpongabGreatDoor
open Go.ChangeShapes Go.WideShapes Go.ChangeAt Go.RowKit

theorem nodup_len {α : Type} [DecidableEq α] : ∀ {a b : List α}, a.Nodup → (∀ x ∈ a, x ∈ b) → a.length ≤ b.length
 | [], _, _, _ => Nat.zero_le _
 | x :: a, b, h, hs => by
  rw [List.nodup_cons] at h
  have hx := hs x (.head _)
  have := nodup_len (a := a) (b := b.erase x) h.2 (fun y hy => (List.mem_erase_of_ne (fun (e : y = x) => h.1 (e ▸ hy))).2 (hs y (.tail _ hy)))
  rw [List.length_erase_of_mem hx] at this
  have := List.length_pos_of_mem hx
  rw [List.length_cons]
  omega
theorem nodup_inj {α : Type} {l : List α} (h : l.Nodup) {i j : Nat} {x : α} (hi : l[i]? = some x) (hj : l[j]? = some x) : i = j := by
 obtain ⟨a, ha⟩ := List.getElem?_eq_some_iff.1 hi
 obtain ⟨b, hb⟩ := List.getElem?_eq_some_iff.1 hj
 rcases Nat.lt_trichotomy i j with e | e | e
 ·exact absurd (ha.trans hb.symm) (List.pairwise_iff_getElem.1 h i j a b e)
 ·exact e
 ·exact absurd (hb.trans ha.symm) (List.pairwise_iff_getElem.1 h j i b a e)


structure Rule where
 out : B
 kind : B
 word : B
 ins : List B

structure RuleSm (n : Nat) (r : Rule) : Prop where
 out : r.out.length ≤ n
 kind : r.kind.length ≤ n
 word : r.word.length ≤ n
 many : r.ins.length ≤ n
 ins : ∀ s ∈ r.ins, s.length ≤ n

def ruleCode (r : Rule) : Nat :=
 if pathOk r.out = false then 4
 else if actCode r.kind r.word r.ins.length ≠ 0 then actCode r.kind r.word r.ins.length
 else if r.ins.all pathOk = false then 4
 else if r.out ∈ r.ins ∨ ¬ r.ins.Nodup then 7 else 0

def sheetGo (seen : List B) (i : Nat) : List Rule → Nat × Int
 | [] => (0, -1)
 | r :: l => if ruleCode r ≠ 0 then (ruleCode r, (i : Int)) else if r.out ∈ seen then (7, (i : Int)) else sheetGo (seen ++ [r.out]) (i + 1) l
def sheetFault (l : List Rule) : Nat × Int := if 40 < l.length then (2, -1) else sheetGo [] 0 l

theorem actCode_le (a b : B) (n : Nat) : actCode a b n ≤ 12 := by
 unfold actCode
 split
 ·omega
 ·split
  ·omega
  ·split <;> omega
def RightS (l : List Rule) : Prop := l.length ≤ 40 ∧ (∀ r ∈ l, ruleCode r = 0) ∧ (l.map Rule.out).Nodup

theorem sheetGo_ok : ∀ (l : List Rule) (seen : List B) (i : Nat), (sheetGo seen i l).1 = 0 ↔ (∀ r ∈ l, ruleCode r = 0) ∧ (l.map Rule.out).Nodup ∧ ∀ r ∈ l, r.out ∉ seen
 | [], _, _ => by simp [sheetGo]
 | r :: l, seen, i => by
  unfold sheetGo
  by_cases h1 : ruleCode r = 0
  ·rw [if_neg (by simpa using h1)]
   by_cases h2 : r.out ∈ seen
   ·rw [if_pos h2]
    simp [h2]
   ·rw [if_neg h2, sheetGo_ok l (seen ++ [r.out]) (i + 1)]
    simp only [List.mem_cons, forall_eq_or_imp, h1, true_and, List.map_cons, List.nodup_cons, List.mem_append, List.not_mem_nil, or_false, not_or]
    constructor
    ·rintro ⟨a, b, c⟩
     refine ⟨a, ⟨fun h => ?_, b⟩, h2, fun x hx => (c x hx).1⟩
     obtain ⟨x, hx, e⟩ := List.mem_map.1 h
     exact (c x hx).2 e
    ·rintro ⟨a, ⟨b, c⟩, _, d⟩
     exact ⟨a, c, fun x hx => ⟨d x hx, fun e => b (List.mem_map.2 ⟨x, hx, e⟩)⟩⟩
  ·rw [if_pos h1]
   simp [h1]

theorem sheet_ok {l : List Rule} : (sheetFault l).1 = 0 ↔ RightS l := by
 unfold sheetFault RightS
 by_cases h : 40 < l.length
 ·rw [if_pos h]
  simp
  omega
 ·rw [if_neg h, sheetGo_ok]
  simp
  omega

theorem sheetGo_zero : ∀ (l : List Rule) (seen : List B) (i : Nat), (sheetGo seen i l).1 = 0 → (sheetGo seen i l).2 = -1
 | [], _, _, _ => rfl
 | r :: l, seen, i, h => by
  unfold sheetGo at h ⊢
  by_cases h1 : ruleCode r ≠ 0
  ·rw [if_pos h1] at h; exact absurd h h1
  ·rw [if_neg h1] at h ⊢
   by_cases h2 : r.out ∈ seen
   ·rw [if_pos h2] at h; cases h
   ·rw [if_neg h2] at h ⊢; exact sheetGo_zero l _ _ h
theorem sheet_zero {l : List Rule} (h : (sheetFault l).1 = 0) : sheetFault l = (0, -1) := by
 have : (sheetFault l).2 = -1 := by
  unfold sheetFault at h ⊢
  by_cases h1 : 40 < l.length
  ·rw [if_pos h1]
  ·rw [if_neg h1] at h ⊢; exact sheetGo_zero _ _ _ h
 exact Prod.ext h this

def RdR (w : World) (v : Value) (l : List Rule) : Prop :=
 ∃ a cap, v = .slice a l.length cap ∧ l.length ≤ cap ∧ cap ≤ maxLen ∧ (l ≠ [] → ∃ b off, a = some ⟨b, off, none⟩ ∧
  ∀ (i : Nat) r, l[i]? = some r → ∃ u, Rd S w u r.ins ∧ w.cell? ⟨b, off + i * 4, none⟩ = some (S r.out) ∧ w.cell? ⟨b, off + i * 4 + 1, none⟩ = some (S r.kind) ∧ w.cell? ⟨b, off + i * 4 + 2, none⟩ = some (S r.word) ∧ w.cell? ⟨b, off + i * 4 + 3, none⟩ = some u)

theorem RdR.nil (w : World) : RdR w (.slice none 0 0) [] := ⟨none, 0, rfl, Nat.le_refl _, Nat.zero_le _, fun h => absurd rfl h⟩
theorem RdR.ext {w w' : World} {v : Value} {l : List Rule} (h : RdR w v l) (ho : Ext w w') : RdR w' v l := by
 obtain ⟨a, cap, h1, h2, h3, h4⟩ := h
 refine ⟨a, cap, h1, h2, h3, fun hl => ?_⟩
 obtain ⟨b, off, h5, h6⟩ := h4 hl
 refine ⟨b, off, h5, fun i r hr => ?_⟩
 obtain ⟨u, c, c0, c1, c2, c3⟩ := h6 i r hr
 exact ⟨u, c.ext ho, ho.cellOf c0 (fun h => h), ho.cellOf c1 (fun h => h), ho.cellOf c2 (fun h => h), ho.cellOf c3 (fun h => h)⟩

theorem RdR.take {w : World} {a : Option Addr} {cap : Nat} {l : List Rule} (h : RdR w (.slice a l.length cap) l) (j : Nat) (hj : j ≤ l.length) : RdR w (.slice a j cap) (l.take j) := by
 obtain ⟨a', cap', h1, h2, h3, h4⟩ := h
 cases h1
 have e : (l.take j).length = j := by rw [List.length_take]; omega
 refine ⟨a, cap, by rw [e], by omega, h3, fun hl => ?_⟩
 obtain ⟨b, off, h5, h6⟩ := h4 (fun e => hl (by rw [e]; simp))
 refine ⟨b, off, h5, fun i r hr => h6 i r ?_⟩
 rw [List.getElem?_take] at hr
 split at hr
 ·exact hr
 ·cases hr

abbrev AggR (r : Rule) (u : Value) : Value := .agg #[S r.out, S r.kind, S r.word, u]

def idx {α : Type} (p : α → Bool) (l : List α) : Int := match l.findIdx? p with | some i => (i : Int) | none => -1
theorem idx_hit {α : Type} {p : α → Bool} {l : List α} {k : Nat} {x : α} (hx : l[k]? = some x) (hp : p x = true) (hb : ∀ j y, j < k → l[j]? = some y → p y = false) : idx p l = k := by
 have : l.findIdx? p = some k := by
  rw [List.findIdx?_eq_some_iff_getElem]
  obtain ⟨h1, h2⟩ := List.getElem?_eq_some_iff.1 hx
  refine ⟨h1, by rw [h2]; exact hp, fun j hj => ?_⟩
  have := hb j _ hj (List.getElem?_eq_getElem (by omega))
  simpa using this
 unfold idx
 rw [this]
theorem idx_none {α : Type} {p : α → Bool} {l : List α} (hb : ∀ (j : Nat) y, l[j]? = some y → p y = false) : idx p l = -1 := by
 have : l.findIdx? p = none := by
  rw [List.findIdx?_eq_none_iff]
  intro x hx
  obtain ⟨i, hi⟩ := List.getElem?_of_mem hx
  exact hb i x hi
 unfold idx
 rw [this]
theorem idx_any {α : Type} (p : α → Bool) (l : List α) : decide (0 ≤ idx p l) = l.any p := by
 unfold idx
 cases h : l.findIdx? p with
 | none =>
  rw [List.findIdx?_eq_none_iff] at h
  have : l.any p = false := by rw [List.any_eq_false]; intro x hx; simpa using h x hx
  rw [this]
  rfl
 | some i =>
  rw [List.findIdx?_eq_some_iff_getElem] at h
  obtain ⟨h1, h2, _⟩ := h
  have : l.any p = true := List.any_eq_true.2 ⟨l[i], List.getElem_mem h1, h2⟩
  rw [this]
  exact decide_eq_true (Int.natCast_nonneg i)
end Go.Proofs.YtnmhaipjfpongabGreatDoor

namespace Go.Proofs.YtnmhaipjfpongabGreatDoor
open Go.ChangeShapes Go.WideShapes Go.ChangeAt Go.RowKit

theorem Rd.takeS {α : Type} {enc : α → Value} {w : World} {a : Option Addr} {cap : Nat} {l : List α} (h : Rd enc w (.slice a l.length cap) l) (j : Nat) (hj : j ≤ l.length) : Rd enc w (.slice a j cap) (l.take j) := by
 obtain ⟨a', cap', h1, h2, h3, h4⟩ := h
 cases h1
 have e : (l.take j).length = j := by rw [List.length_take]; omega
 refine ⟨a, cap, by rw [e], by omega, h3, fun hl => ?_⟩
 obtain ⟨b, off, h5, h6⟩ := h4 (fun e => hl (by rw [e]; simp))
 refine ⟨b, off, h5, fun i r hr => h6 i r ?_⟩
 rw [List.getElem?_take] at hr
 split at hr
 ·exact hr
 ·cases hr

theorem Row.cases {base : Nat} {w : World} {v : Value} {l : List B} (h : Row base w v l) : (v = .slice none 0 0 ∧ l = []) ∨ ∃ g cap, v = .slice (some ⟨g, 0, none⟩) l.length cap := by
 rcases h.2 with ⟨h1, h2⟩ | ⟨g, cap, _, h1, _⟩
 ·exact .inl ⟨h1, by cases l with
   | nil => rfl
   | cons x l => simp at h2⟩
 ·exact .inr ⟨g, cap, h1⟩

end Go.Proofs.YtnmhaipjfpongabGreatDoor

namespace Go.Proofs.YtnmhaipjfpongabGreatDoor
open Go.ChangeShapes Go.WideShapes Go.ChangeAt Go.RowKit

def ReadIs (w : World) (P : Nat → Addr) (s : B) (e : Ending) (w' : World) : Prop :=
 (readC s ≠ 0 → e = .returned (.tuple #[.pointer none, errC P (readC s)]) ∧ Ext w w') ∧
 (readC s = 0 → ∃ b mb, e = .returned (.tuple #[.pointer (some ⟨b, 0, none⟩), .nilIface]) ∧ TreeAt w' b mb (readT s) ∧ Ext w w' ∧ w.heap.size ≤ b ∧ w.heap.size ≤ mb)

theorem ReadIs.bad {w w' : World} {P : Nat → Addr} {s : B} {v : Value} {c : Nat} (h : readC s = c) (h0 : c ≠ 0) (hv : v = errC P c) (ho : Ext w w') : ReadIs w P s (.returned (.tuple #[.pointer none, v])) w' := by
 subst hv
 refine ⟨fun _ => ⟨by rw [h], ho⟩, fun e => absurd (h ▸ e) h0⟩

theorem ReadIs.good {w w' : World} {P : Nat → Addr} {s : B} {b mb : Nat} {T : FL} (h : readC s = 0) (hT : readT s = T) (ht : TreeAt w' b mb T) (ho : Ext w w') (hb : w.heap.size ≤ b) (hm : w.heap.size ≤ mb) :
  ReadIs w P s (.returned (.tuple #[.pointer (some ⟨b, 0, none⟩), .nilIface])) w' :=
 ⟨fun e => absurd h e, fun _ => ⟨b, mb, rfl, hT ▸ ht, ho, hb, hm⟩⟩

def Parted (s : B) (l : FL) (r : B) : Prop := (∃ n, r.length < n ∧ filesB (s.length + 1) s = (filesB n r).map (l ++ ·)) ∧ l.length + r.length ≤ s.length ∧ ∀ q ∈ l, q.1.length ≤ s.length

theorem Parted.start (s : B) : Parted s [] s := ⟨⟨s.length + 1, Nat.lt_succ_self _, by cases filesB (s.length + 1) s <;> simp⟩, by simp, by simp⟩

theorem Parted.next {s r : B} {l : FL} (h : Parted s l r) (hr : r ≠ []) {q : B × B × B} (hq : fileB r = some q) : Parted s (l ++ [(q.1, q.2.1)]) q.2.2 := by
 obtain ⟨⟨n, hn, he⟩, hl, hp⟩ := h
 have hlt := fileB_lt hq
 cases n with
 | zero => omega
 | succ n =>
  rw [filesB_more hr hq] at he
  refine ⟨⟨n, by omega, ?_⟩, by rw [List.length_append]; simp; omega, fun x hx => ?_⟩
  ·rw [he, Option.map_map]
   congr 1
   funext t
   simp
  ·rcases List.mem_append.1 hx with hx | hx
   ·exact hp x hx
   ·rw [List.mem_singleton] at hx
    subst hx
    show q.1.length ≤ _
    omega

theorem Parted.bad {s r : B} {l : FL} (h : Parted s l r) (hr : r ≠ []) (hq : fileB r = none) : filesB (s.length + 1) s = none := by
 obtain ⟨⟨n, hn, he⟩, _, _⟩ := h
 cases n with
 | zero => omega
 | succ n => rw [filesB_bad hr hq] at he; exact he

theorem Parted.whole {s : B} {l : FL} (h : Parted s l []) : filesB (s.length + 1) s = some l := by
 obtain ⟨⟨n, hn, he⟩, _, _⟩ := h
 cases n with
 | zero => simp at hn
 | succ n => rw [filesB_nil] at he; simpa using he

end Go.Proofs.YtnmhaipjfpongabGreatDoor

namespace Go.Proofs.YtnmhaipjfpongabGreatDoor
open Go.ChangeShapes Go.WideShapes Go.ChangeAt Go.RowKit

theorem step_appS {P : Program} {α : Type} (enc : α → List Value) (t e : TypeId) (n by_ : Nat) (z : Value) (hinfo : (P.info? e).map (fun i => (i.zero, i.size, i.bytes)) = some (some z, n, by_)) (ht : P.underlying t = some (.slice e)) (hzs : z.cells.size = n) (hn0 : 0 < n)
  (hlen : ∀ x, (enc x).length = n) (h1c : ∀ x, ∀ u ∈ enc x, u.oneCell' = true) (hby : by_ ≤ 1000)
  {ops : Array Oper} {o : Oper} {a : Act} {K : Act → World → Prop} {Q : Exit → Act → World → Prop} {E : Prop} (s x : Operand) (base : Nat) (v : Value) (l : List α) (k : α) (W : World) (cs : Array Value) (hcs : cs.toList = enc k) (hgd : o.guard = none)
  (ho : o.op = .call { callee := .builtin .append, args := #[s, x], argTypes := #[t, t] }) (hs : a.eval s = v) (hx : a.eval x = .slice (some ⟨W.heap.size, 0, none⟩) 1 1)
  (hrow : W.ownsRow base e n v l.length (l.flatMap enc)) (hl : l.length ≤ 1000000) (hbase : base ≤ W.heap.size)
  (hK : ∀ g cap w', w'.ownsRow base e n (.slice (some ⟨g, 0, none⟩) (l.length + 1) cap) (l.length + 1) ((l ++ [k]).flatMap enc) → W.grownBy w' v.ownBlock → (∀ i, Value.ownBlock (.slice (some ⟨g, 0, none⟩) (l.length + 1) cap) = some i → v.ownBlock = some i ∨ W.heap.size ≤ i) →
   K (a.put o.dst (.slice (some ⟨g, 0, none⟩) (l.length + 1) cap)) w') :
  if Region.wanted o (yielded ops a.tmps) = true then Oper.wp P o a (W.alloc (.cells cs e (0, 0))) K Q else E := by
 obtain ⟨i0, hi, hz0, hz1, hz2⟩ := info_parts hinfo
 have hb : (l.length + 1) * by_ ≤ 1000001 * 1000 := Nat.mul_le_mul (by omega) hby
 refine step_append_lies _ hgd s x t ho base e i0 z n by_ ht hi hz0 hz1 hz2 hzs hn0 v l.length (l.flatMap enc) hs (hrow.alloc _) ⟨W.heap.size, 0, none⟩ 1 1 (enc k) hx (by rw [hlen, Nat.one_mul])
  (fun j u hu => cells_new W cs e j u (by rw [hcs]; exact hu)) (h1c k) (by decide) ?_ ?_ ?_ (W.heap.size + 1) (by simp) ?_
 ·unfold maxLen; omega
 ·omega
 ·simp; omega
 ·intro g cap w' hown hg hat hlt
  refine hK g cap w' (by simpa using hown) ?_ ?_
  ·exact ((Only.alloc (fun i => v.ownBlock = some i) W _).then (Only.of_grown hg)).grown
  ·intro i e
   cases e
   rcases hat with h | h
   ·exact .inl h
   ·exact .inr (by rw [h]; exact Nat.le_succ _)

theorem RTree.down {w : World} {b b' m : Nat} {slv : Value} {L : FL} (h : RTree w b' m slv L) (hb : b ≤ b') : RTree w b m slv L :=
 ⟨h.cells, h.row.1, h.row.2.imp id fun ⟨g, cap, cur, e, hg, r⟩ => ⟨g, cap, cur, e, Nat.le_trans hb hg, r⟩⟩

end Go.Proofs.YtnmhaipjfpongabGreatDoor
