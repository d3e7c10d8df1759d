/- Texts of this seat laid together for one claim: I0, G11, I5, I1, I2, I3. No condition of its own: what each proves stands with its theorems. -/
import Derived.Test.YtnmhaipjfpongacGreatDoorPL28
import Derived.Test.YtnmhaipjfpongacGreatDoorPL9
import Derived.Test.YtnmhaipjfpongacGreatDoorPL25
import Derived.Test.YtnmhaipjfpongacGreatDoorPL17
import Derived.BigQuiet
import Derived.Deep.QuietTactic
namespace Go.Proofs.YtnmhaipjfpongacGreatDoor

abbrev Tld := B × Nat
def ruleOf (l : List Rule) (p : B) : Option Rule := l.find? fun r => r.out == p
def wMade (W : B → Tld) (r : Rule) : Tld := match r.ins.find? fun q => (W q).2 != 0 with
 | some q => W q
 | none => (runOut r.kind r.word (r.ins.map fun q => (W q).1), runCode r.kind r.word (r.ins.map fun q => (W q).1))
def wLeaf (T : FL) (p : B) : Tld := match T.lookup p with | some s => (s, 0) | none => ([], 6)
def wStep (l : List Rule) (T : FL) (W : B → Tld) (p : B) : Tld := match ruleOf l p with | none => wLeaf T p | some r => wMade W r

theorem made_bad {W : B → Tld} {r : Rule} {j : Nat} {q : B} (hq : r.ins[j]? = some q) (h : (W q).2 ≠ 0) (hb : ∀ x ∈ r.ins.take j, (W x).2 = 0) : wMade W r = W q := by
 have : r.ins.find? (fun q => (W q).2 != 0) = some q := by
  rw [List.find?_eq_some_iff_getElem]
  obtain ⟨h1, h2⟩ := List.getElem?_eq_some_iff.1 hq
  exact ⟨by simpa using h, j, h1, h2, fun i hi => by
   have := hb r.ins[i] (List.mem_take_iff_getElem.2 ⟨i, by omega, rfl⟩)
   rw [this]; decide⟩
 unfold wMade
 rw [this]
theorem made_ok {W : B → Tld} {r : Rule} (hb : ∀ x ∈ r.ins, (W x).2 = 0) : wMade W r = (runOut r.kind r.word (r.ins.map fun q => (W q).1), runCode r.kind r.word (r.ins.map fun q => (W q).1)) := by
 have : r.ins.find? (fun q => (W q).2 != 0) = none := List.find?_eq_none.2 fun x hx => by rw [hb x hx]; decide
 unfold wMade
 rw [this]

structure Asks (l : List Rule) (T : FL) (W : B → Tld) (D : B → Prop) (rk : B → Nat) : Prop where
 step : ∀ p, D p → W p = wStep l T W p
 down : ∀ p, D p → ∀ r, ruleOf l p = some r → ∀ q ∈ r.ins, D q ∧ rk q < rk p
 len : ∀ p, D p → (W p).1.length ≤ 2000
 code : ∀ p, D p → (W p).2 ≤ 12

theorem wMade_congr {W V : B → Tld} {r : Rule} (h : ∀ q ∈ r.ins, W q = V q) : wMade W r = wMade V r := by
 have h1 : r.ins.find? (fun q => (W q).2 != 0) = r.ins.find? (fun q => (V q).2 != 0) := by
  generalize r.ins = k at h
  induction k with
  | nil => rfl
  | cons x k ih => rw [List.find?_cons, List.find?_cons, h x (.head _), ih fun q hq => h q (.tail _ hq)]
 have h2 : r.ins.map (fun q => (W q).1) = r.ins.map (fun q => (V q).1) := List.map_congr_left fun q hq => by rw [h q hq]
 unfold wMade
 rw [h1, h2]
 cases hf : r.ins.find? (fun q => (V q).2 != 0) with
 | none => rfl
 | some q => exact h q (List.mem_of_find?_eq_some hf)

def wantF (l : List Rule) (T : FL) : Nat → B → Tld
 | 0, _ => ([], 0)
 | n + 1, p => wStep l T (wantF l T n) p
def wantW (l : List Rule) (T : FL) : B → Tld := wantF l T (l.length + 1)

structure Ranked (l : List Rule) (D : B → Prop) (rk : B → Nat) : Prop where
 down : ∀ p, D p → ∀ r, ruleOf l p = some r → ∀ q ∈ r.ins, D q ∧ rk q < rk p

theorem wantF_stable {l : List Rule} {T : FL} {D : B → Prop} {rk : B → Nat} (h : Ranked l D rk) : ∀ (n m : Nat) (p : B), D p → rk p < n → rk p < m → wantF l T n p = wantF l T m p
 | 0, _, _, _, h1, _ => by omega
 | _ + 1, 0, _, _, _, h2 => by omega
 | n + 1, m + 1, p, hd, h1, h2 => by
  unfold wantF wStep
  cases hr : ruleOf l p with
  | none => rfl
  | some r =>
   refine wMade_congr fun q hq => ?_
   obtain ⟨h3, h4⟩ := h.down p hd r hr q hq
   exact wantF_stable h n m q h3 (by omega) (by omega)

theorem runOut_le (a b : B) (l : List B) : (runOut a b l).length ≤ 2000 := by
 unfold runOut
 by_cases h : runCode a b l = 0
 ·rw [if_pos h]
  unfold runCode at h
  split at h
  ·split at h
   ·cases h
   ·omega
  ·rename_i h2; exact absurd h h2
 ·rw [if_neg h]; exact Nat.zero_le _
theorem runCode_le12 (a b : B) (l : List B) : runCode a b l ≤ 12 := by
 unfold runCode
 have := actCode_le a b l.length
 split
 ·split <;> omega
 ·exact this
theorem runOut_zero {a b : B} {l : List B} (h : runCode a b l ≠ 0) : runOut a b l = [] := if_neg h

structure TldOk (x : Tld) : Prop where
 len : x.1.length ≤ 2000
 code : x.2 ≤ 12
 zero : x.2 ≠ 0 → x.1 = []
theorem wStep_ok {l : List Rule} {T : FL} {W : B → Tld} (hT : ∀ p s, T.lookup p = some s → s.length ≤ 2000) (hW : ∀ q, TldOk (W q)) (p : B) : TldOk (wStep l T W p) := by
 unfold wStep
 cases hr : ruleOf l p with
 | none =>
  simp only [wLeaf]
  cases hl : T.lookup p with
  | none => exact ⟨by simp, by simp, fun _ => rfl⟩
  | some s => exact ⟨hT p s hl, by simp, fun h => absurd rfl h⟩
 | some r =>
  simp only [wMade]
  cases hf : r.ins.find? (fun q => (W q).2 != 0) with
  | none => exact ⟨runOut_le _ _ _, runCode_le12 _ _ _, runOut_zero⟩
  | some q => exact hW q
theorem wantF_ok {l : List Rule} {T : FL} (hT : ∀ p s, T.lookup p = some s → s.length ≤ 2000) : ∀ (n : Nat) (p : B), TldOk (wantF l T n p)
 | 0, _ => ⟨by simp [wantF], by simp [wantF], fun h => absurd rfl h⟩
 | n + 1, p => wStep_ok hT (wantF_ok hT n) p

theorem asks_want {l : List Rule} {T : FL} {D : B → Prop} {rk : B → Nat} (h : Ranked l D rk) (hb : ∀ p, D p → rk p ≤ l.length) (hT : ∀ p s, T.lookup p = some s → s.length ≤ 2000) : Asks l T (wantW l T) D rk :=
  ⟨fun p hd => by
    show wStep l T (wantF l T l.length) p = wStep l T (wantW l T) p
    unfold wStep
    cases hr : ruleOf l p with
    | none => rfl
    | some r =>
      refine wMade_congr fun q hq => ?_
      obtain ⟨h3, h4⟩ := h.down p hd r hr q hq
      have := hb p hd
      exact wantF_stable h _ _ q h3 (by omega) (by omega),
   h.down, fun p _ => (wantF_ok hT _ p).len, fun p _ => (wantF_ok hT _ p).code⟩

def rankO (l : List Rule) (o : List Nat) (p : B) : Nat := match l.findIdx? (fun r => r.out == p) with | none => 0 | some k => o.idxOf k + 1
def InO (l : List Rule) (o : List Nat) (p : B) : Prop := ∀ k, l.findIdx? (fun r => r.out == p) = some k → k ∈ o

theorem findI_some {l : List Rule} {p : B} {k : Nat} (h : l.findIdx? (fun r => r.out == p) = some k) : ∃ r, l[k]? = some r ∧ r.out = p ∧ ruleOf l p = some r := by
 rw [List.findIdx?_eq_some_iff_getElem] at h
 obtain ⟨h3, h4, h5⟩ := h
 refine ⟨l[k], List.getElem?_eq_getElem h3, beq_iff_eq.1 h4, ?_⟩
 unfold ruleOf
 rw [List.find?_eq_some_iff_getElem]
 exact ⟨h4, k, h3, rfl, fun j hj => by simpa using h5 j hj⟩
theorem ruleOf_idx {l : List Rule} {p : B} {r : Rule} (h : ruleOf l p = some r) : ∃ k, l.findIdx? (fun r => r.out == p) = some k ∧ l[k]? = some r := by
 cases hf : l.findIdx? (fun r => r.out == p) with
 | none =>
  rw [List.findIdx?_eq_none_iff] at hf
  unfold ruleOf at h
  have h1 := List.find?_some h
  have h2 := hf r (List.mem_of_find?_eq_some h)
  rw [h2] at h1
  cases h1
 | some k =>
  obtain ⟨r', h1, _, h3⟩ := findI_some hf
  rw [h] at h3
  cases h3
  exact ⟨k, rfl, h1⟩

theorem ranked_order {l : List Rule} {is : Nat → Bool} {o : List Nat} (hO : Ordered l.length (needB l) is o) : Ranked l (InO l o) (rankO l o) ∧ ∀ p, InO l o p → rankO l o p ≤ l.length := by
 have key : ∀ k, k ∈ o → o.idxOf k < o.length := fun k hk => List.idxOf_lt_length_of_mem hk
 refine ⟨⟨fun p hp r hr q hq => ?_⟩, fun p hp => ?_⟩
 ·obtain ⟨k, hk, hkr⟩ := ruleOf_idx hr
  have hko := hp k hk
  have hj := key k hko
  have hat : o[o.idxOf k]? = some k := by rw [List.getElem?_eq_getElem hj, List.getElem_idxOf]
  have hneed := hO.need _ _ hat
  have hrp : rankO l o p = o.idxOf k + 1 := by unfold rankO; rw [hk]
  have hq2 : ∀ k', l.findIdx? (fun r => r.out == q) = some k' → k' ∈ o.take (o.idxOf k) := fun k' hk' => by
   obtain ⟨r', h1, h2, _⟩ := findI_some hk'
   refine hneed k' (List.getElem?_eq_some_iff.1 h1).1 ?_
   unfold needB
   rw [hkr, h1]
   simp only [h2]
   simpa using hq
  refine ⟨fun k' hk' => List.mem_of_mem_take (hq2 k' hk'), ?_⟩
  rw [hrp]
  unfold rankO
  cases hf : l.findIdx? (fun r => r.out == q) with
  | none => exact Nat.succ_pos _
  | some k' =>
   have := hq2 k' hf
   obtain ⟨t, ht, he⟩ := List.mem_take_iff_getElem.1 this
   have hlt : o.idxOf k' ≤ t := by
    have hnd := hO.nodup
    have h6 : o.idxOf k' = t := by rw [← he]; exact hnd.idxOf_getElem t (by omega)
    omega
   simp only
   omega
 ·have hl := hO.len
  have hm := manyB_le l.length is
  unfold rankO
  cases hf : l.findIdx? (fun r => r.out == p) with
  | none => exact Nat.zero_le _
  | some k => have := key k (hp k hf); simp only; omega
end Go.Proofs.YtnmhaipjfpongacGreatDoor

namespace Go.Proofs.YtnmhaipjfpongacGreatDoor
open Go.ChangeShapes Go.WideShapes Go.ChangeAt Go.RowKit

theorem enters_Part1 : ∀ args w, (callFunc 164 args).run Tryz.prog w = .ok (.enter 164 args) w := fun args w => by kernel_rfl

theorem any_natP (l : List Nat) (j : Nat) : (l.map fun k : Nat => (k : Int)).any (fun y => (j : Int) == y) = l.contains j := by
 rw [Bool.eq_iff_iff, List.any_eq_true, List.contains_eq_mem, decide_eq_true_eq]
 constructor
 ·rintro ⟨x, hx, e⟩
  obtain ⟨k, hk, rfl⟩ := List.mem_map.1 hx
  rw [beq_iff_eq] at e
  have : j = k := by omega
  rw [this]; exact hk
 ·intro h
  exact ⟨(j : Int), List.mem_map.2 ⟨j, h, rfl⟩, beq_iff_eq.2 rfl⟩

theorem Part1_test (w : World) (bx : Nat) (lv : Value) (l : List Nat) (j : Nat) (hb : w.cell? ⟨bx, 0, none⟩ = some lv) (hr : Rd IN w lv l) :
  Calls Tryz.prog 164 #[I j, .pointer (some ⟨bx, 0, none⟩)] w (RetE (.bool (l.contains j)) w) := by
 have HI := Lib.hid (containsI_any w lv _ (j : Int) hr.ints)
 rw [any_natP] at HI
 generalize l.contains j = q at HI ⊢
 obtain ⟨a, cap, rfl, _, _, _⟩ := hr
 go_enter Tryz.func164, Tryz.ntmps164
 go_wp2_with fail
 refine (HI.out).mono ?_
 rintro e w1 ⟨rfl, rfl⟩
 go_wp2_with fail
 go_ret
 exact ⟨rfl, Only.refl _ _⟩

def partB (l : List Rule) (sm : List Nat) : Option (List Nat) := orderB l.length (needB l) (fun i => sm.contains i)
def partFault (l : List Rule) (sm : List Nat) : Nat × Int := if (partB l sm).isSome then (0, -1) else (9, -1)

set_option maxRecDepth 100000 in
set_option maxHeartbeats 4000000 in
theorem graphPart_any (w : World) (P : Nat → Addr) (l : List Rule) (v sv : Value) (sm : List Nat) (hv : RdR w v l) (hr : RightS l) (hs : ∀ r ∈ l, r.ins.length ≤ 900000) (hsm : Rd IN w sv sm) (hE : Errs w P [8]) :
  Calls Tryz.prog 94 #[v, sv] w (RetOE P (partFault l sm) ((partB l sm).getD []) w) := by
 have HRD := Lib.hid hv
 have HSM := Lib.hid hsm
 have HR := Lib.hid hr
 have HS := Lib.hid hs
 have HEE := Lib.hid hE
 have h40 := hr.1
 obtain ⟨a, cap, rfl, _, _, _⟩ := hv
 obtain ⟨a2, cap2, rfl, _, _, _⟩ := hsm
 have HB0 := Lib.hid ((MapKept.heap_alloc w (.cells #[.slice a2 sm.length cap2] 46 (0, 0))).1)
 have HX0 : Hid (Ext w (w.alloc (.cells #[.slice a2 sm.length cap2] 46 (0, 0)))) := Lib.hid (Only.alloc _ _ _)
 have HED := Lib.hid (edges_any _ l _ (HRD.out.ext HX0.out) HR.out HS.out)
 obtain ⟨F, hF⟩ : ∃ F, F = partFault l sm := ⟨_, rfl⟩
 obtain ⟨O, hO⟩ : ∃ O, O = (partB l sm).getD [] := ⟨_, rfl⟩
 rw [← hF, ← hO]
 unfold partFault at hF
 have HF := Lib.hid hF
 have HO := Lib.hid hO
 clear hF hO hr hs hE
 go_enter Tryz.func94, Tryz.ntmps94
 go_wp2_with fail
 refine HED.out.mono ?_
 rintro e w2 ⟨v2, rfl, hll, ho⟩
 have hb2 := cell_of_heap (ho.heapOf HB0.out (fun h => h)) 0
 have hor := order1_any 164 (.pointer (some ⟨w.heap.size, 0, none⟩)) (fun i => sm.contains i) w2 v2 l.length (needB l) (by omega) hll enters_Part1
  (fun w3 hx i _ => Part1_test w3 w.heap.size _ sm i (hx.cellOf (hb2.trans rfl) (fun h => h)) (HSM.out.ext ((HX0.out.then ho).then hx)))
 change Calls _ _ _ _ (RetOrder (partB l sm) w2) at hor
 have HOR := Lib.hid hor
 have HX2 := Lib.hid (HX0.out.then ho)
 have HLL := Lib.hid hll
 obtain ⟨a3, c3, rfl, _, _, _⟩ := HLL.out
 rw [List.length_map, List.length_range] at HOR ⊢
 clear hor hb2 ho hll
 cases hol : partB l sm with
 | none =>
  have hF2 := HF.out
  have hO2 := HO.out
  rw [hol] at HOR hF2 hO2
  clear HF HO
  have hF3 : F = (9, -1) := hF2
  have hO3 : O = [] := hO2
  subst hF3
  subst hO3
  clear hol hF2 hO2
  go_wp2_with fail
  refine (HOR.out).mono ?_
  rintro e w3 ⟨v3, rfl, hrow, ho⟩
  have HX3 := Lib.hid (HX2.out.then ho)
  have HROW := Lib.hid hrow
  clear hrow ho
  have c0 := (HEE.out.ext HX3.out).var 8 _ (by decide) rfl
  go_wp2_with fail
  go_quiet (fail)
  go_wp2_with fail
  go_ret2
  exact ⟨_, _, rfl, RowI.nil _ _, .inr (.inl ⟨by decide, rfl, rfl⟩), HX3.out.thenDrewN _⟩
 | some o =>
  have hF2 := HF.out
  have hO2 := HO.out
  rw [hol] at HOR hF2 hO2
  clear HF HO
  have hF3 : F = (0, -1) := hF2
  have hO3 : O = o := hO2
  subst hF3
  subst hO3
  clear hol hF2 hO2
  go_wp2_with fail
  refine (HOR.out).mono ?_
  rintro e w3 ⟨v3, rfl, hrow, ho⟩
  have HX3 := Lib.hid (HX2.out.then ho)
  have HROW := Lib.hid hrow
  clear hrow ho
  obtain ⟨a4, c4, rfl, _, _, _⟩ := HROW.out.rd
  go_wp2_with fail
  go_ret2
  exact ⟨_, _, rfl, HROW.out.down HX2.out.size, ErrAt.nil _ _ _, HX3.out⟩
end Go.Proofs.YtnmhaipjfpongacGreatDoor

namespace Go.Proofs.YtnmhaipjfpongacGreatDoor

open Classical in
noncomputable def reachB (l : List Rule) (outs : List B) (i : Nat) : Bool := decide (Reach (needB l) (needKs l outs) i)
open Classical in
theorem reachB_iff {l : List Rule} {outs : List B} {i : Nat} : reachB l outs i = true ↔ Reach (needB l) (needKs l outs) i := by
 unfold reachB
 exact decide_eq_true_iff
noncomputable def needL (l : List Rule) (outs : List B) : List Nat := (List.range l.length).filter (reachB l outs)
theorem mem_needL {l : List Rule} {outs : List B} {i : Nat} : i ∈ needL l outs ↔ i < l.length ∧ Reach (needB l) (needKs l outs) i := by
 unfold needL
 rw [List.mem_filter, List.mem_range, reachB_iff]
theorem needOk_eq {l : List Rule} {outs : List B} {out : List Nat} (h : NeedOk l.length (needB l) (needKs l outs) out) : out = needL l outs := by
 obtain ⟨N, rfl, hN⟩ := h
 unfold needL
 refine List.filter_congr fun i hi => ?_
 rw [Bool.eq_iff_iff, hN i (List.mem_range.1 hi), reachB_iff]
theorem needL_rise (l : List Rule) (outs : List B) : (needL l outs).Pairwise fun x y => x < y := List.pairwise_lt_range.filter _

structure Clo (l : List Rule) (sm : List Nat) : Prop where
 lt : ∀ i ∈ sm, i < l.length
 rise : sm.Pairwise fun x y => x < y
 clos : ∀ i ∈ sm, ∀ k, k < l.length → needB l i k = true → k ∈ sm
theorem Clo.need (l : List Rule) (outs : List B) : Clo l (needL l outs) :=
 ⟨fun _ hi => (mem_needL.1 hi).1, needL_rise l outs, fun _ hi _ hk hn => mem_needL.2 ⟨hk, .step (mem_needL.1 hi).2 hn⟩⟩

theorem order_covers {n : Nat} {nd : Nat → Nat → Bool} {is : Nat → Bool} {o : List Nat} (h : orderB n nd is = some o) {i : Nat} (hi : i < n) (his : is i = true) : i ∈ o := by
 obtain ⟨h1, h2⟩ := orderB_some h
 refine Classical.byContradiction fun hn => ?_
 have h3 : (i :: o).Nodup := List.nodup_cons.2 ⟨hn, h1.nodup⟩
 have h4 := nodup_len (b := (List.range n).filter is) h3 fun x hx => by
  rcases List.mem_cons.1 hx with rfl | hx
  ·exact List.mem_filter.2 ⟨List.mem_range.2 hi, his⟩
  ·exact List.mem_filter.2 ⟨List.mem_range.2 (h1.lt x hx), h1.is x hx⟩
 rw [List.length_cons, h2] at h4
 unfold manyB at h4
 omega

def ruleAt (l : List Rule) (i : Nat) : Rule := (l[i]?).getD ⟨[], [], [], []⟩
theorem ruleAt_eq {l : List Rule} {i : Nat} (h : i < l.length) : l[i]? = some (ruleAt l i) := by
 unfold ruleAt
 rw [List.getElem?_eq_getElem h]
 rfl

section
variable {l : List Rule} {sm : List Nat}
theorem clo_nodup (h : Clo l sm) : sm.Nodup := h.rise.imp fun h => Nat.ne_of_lt h
end

end Go.Proofs.YtnmhaipjfpongacGreatDoor

namespace Go.Proofs.YtnmhaipjfpongacGreatDoor
open Go.ChangeShapes Go.WideShapes Go.ChangeAt Go.RowKit

abbrev tEnc (P : Nat → Addr) (x : Tld) : Value := .agg #[S x.1, errC P x.2]

structure AskAt (w0 w : World) (P : Nat → Addr) (ab tb kb : Nat) (lv : Value) (L : List (B × Tld)) : Prop where
 ext : Ext w0 w
 cells : w.heap[ab]? = some (.cells #[.pointer (some ⟨tb, 0, none⟩), lv, .map (some kb)] 153 (0, 0))
 map : KMap .string S (tEnc P) w kb L
 lo : w0.heap.size ≤ ab ∧ w0.heap.size ≤ kb ∧ ab ≠ kb
theorem AskAt.later {w0 w w' : World} {P : Nat → Addr} {ab tb kb : Nat} {lv : Value} {L : List (B × Tld)} {p : Nat → Prop} (h : AskAt w0 w P ab tb kb lv L) (ho : Only p w w') (hp : ∀ b, p b → w0.heap.size ≤ b ∧ b ≠ ab ∧ b ≠ kb) : AskAt w0 w' P ab tb kb lv L :=
 ⟨h.ext.trans ho (fun _ _ h => h) (fun i hi e => by have := (hp i e).1; omega), ho.heapOf h.cells (fun e => (hp _ e).2.1 rfl), h.map.later ho (fun e => (hp _ e).2.2 rfl), h.lo⟩
theorem AskAt.grow {w0 w w' : World} {P : Nat → Addr} {ab tb kb : Nat} {lv : Value} {L : List (B × Tld)} (h : AskAt w0 w P ab tb kb lv L) (ho : Ext w w') : AskAt w0 w' P ab tb kb lv L := h.later ho (fun _ h => h.elim)

def Knows (W : B → Tld) (L : List (B × Tld)) : Prop := ∀ p x, L.lookup p = some x → x = W p

end Go.Proofs.YtnmhaipjfpongacGreatDoor

namespace Go.Proofs.YtnmhaipjfpongacGreatDoor
open Go.ChangeShapes Go.WideShapes Go.ChangeAt Go.RowKit

theorem lookup_filterG {α : Type} {k s : B} : ∀ (L : List (B × α)), s ≠ k → (L.filter fun p => !(p.1 == k)).lookup s = L.lookup s
 | [], _ => rfl
 | (a, x) :: L, h => by
  by_cases ha : a = k
  ·subst ha
   have hs : (s == a) = false := beq_eq_false_iff_ne.2 h
   rw [List.filter_cons_of_neg (by simp), lookup_filterG L h, List.lookup, hs]
  ·rw [List.filter_cons_of_pos (by simpa using ha)]
   simp only [List.lookup]
   rw [lookup_filterG L h]
theorem Knows.more {W : B → Tld} {L : List (B × Tld)} (h : Knows W L) {p : B} {x : Tld} (hx : x = W p) : Knows W ((p, x) :: L.filter fun q => !(q.1 == p)) := fun q y hq => by
 by_cases e : q = p
 ·subst e
  rw [List.lookup_cons, beq_self_eq_true] at hq
  cases hq
  exact hx
 ·have hs : (q == p) = false := beq_eq_false_iff_ne.2 e
  rw [List.lookup_cons, hs] at hq
  simp only at hq
  rw [lookup_filterG L e] at hq
  exact h q y hq
theorem AskAt.stored {w0 w w' : World} {P : Nat → Addr} {ab tb kb : Nat} {lv : Value} {L L' : List (B × Tld)} (h : AskAt w0 w P ab tb kb lv L) (ho : Only (fun b => b = kb) w w') (hm : KMap .string S (tEnc P) w' kb L') : AskAt w0 w' P ab tb kb lv L' :=
 ⟨h.ext.trans ho (fun _ _ h => h) (fun i hi e => by have := h.lo; omega), ho.heapOf h.cells (fun e => h.lo.2.2 e), hm, h.lo⟩

end Go.Proofs.YtnmhaipjfpongacGreatDoor

namespace Go.Proofs.YtnmhaipjfpongacGreatDoor
open Go.ChangeShapes Go.WideShapes Go.ChangeAt Go.RowKit

theorem ErrAt.errC (w : World) (P : Nat → Addr) (c : Nat) : ErrAt w P (c, -1) (errC P c) := by
 cases c with
 | zero => exact ErrAt.nil _ _ _
 | succ c => exact .inr (.inl ⟨by simp, rfl, rfl⟩)

end Go.Proofs.YtnmhaipjfpongacGreatDoor
