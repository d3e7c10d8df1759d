/- Texts of this seat laid together: I0, I1, I2, I5, I3, I4, I6. No condition of its own: what each proves stands with its theorems. -/
import Derived.Test.YtnmhaipjfpongacGreatDoorG9x
import Derived.Test.YtnmhaipjfpongacGreatDoorGf
import Derived.Test.YtnmhaipjfpongacGreatDoorGj
import Derived.Deep.QuietTactic
import Derived.BigQuiet
import Derived.Test.YtnmhaipjfpongacGreatDoorG10x
import Derived.Test.YtnmhaipjfpongacGreatDoorG11x
import Derived.Test.YtnmhaipjfpongacGreatDoorGh
import Derived.Test.YtnmhaipjfpongacGreatDoorO3x
import Derived.Deep.RegionHeld3
import Derived.Test.YtnmhaipjfpongacGreatDoorJ4x
namespace Go.Proofs.YtnmhaipjfpongacGreatDoor

/-! ### plain words -/
abbrev Tld := B × Nat
def ruleOf (l : List Rule) (p : B) : Option Rule := l.find? fun r => r.out == p
def wMade (W : B → Tld) (r : Rule) : Tld := match r.ins.find? fun q => (W q).2 != 0 with
  | some q => W q
  | none => (runOut r.kind r.word (r.ins.map fun q => (W q).1), runCode r.kind r.word (r.ins.map fun q => (W q).1))
def wLeaf (T : FL) (p : B) : Tld := match T.lookup p with | some s => (s, 0) | none => ([], 6)
def wStep (l : List Rule) (T : FL) (W : B → Tld) (p : B) : Tld := match ruleOf l p with | none => wLeaf T p | some r => wMade W r

theorem rule_idx {l : List Rule} {p : B} : (∃ (k : Nat) (r : Rule), idx (fun r => r.out == p) l = (k : Int) ∧ l[k]? = some r ∧ ruleOf l p = some r) ∨ (idx (fun r => r.out == p) l = -1 ∧ ruleOf l p = none) := by
  unfold idx ruleOf
  cases hf : l.findIdx? (fun r => r.out == p) with
  | none =>
    rw [List.findIdx?_eq_none_iff] at hf
    exact .inr ⟨rfl, List.find?_eq_none.2 (fun x hx => by rw [hf x hx]; decide)⟩
  | some k =>
    rw [List.findIdx?_eq_some_iff_getElem] at hf
    obtain ⟨h3, h4, h5⟩ := hf
    refine .inl ⟨k, l[k], rfl, List.getElem?_eq_getElem h3, ?_⟩
    rw [List.find?_eq_some_iff_getElem]
    exact ⟨h4, k, h3, rfl, fun j hj => by simpa using h5 j hj⟩

theorem made_bad {W : B → Tld} {r : Rule} {j : Nat} {q : B} (hq : r.ins[j]? = some q) (h : (W q).2 ≠ 0) (hb : ∀ x ∈ r.ins.take j, (W x).2 = 0) : wMade W r = W q := by
  have : r.ins.find? (fun q => (W q).2 != 0) = some q := by
    rw [List.find?_eq_some_iff_getElem]
    obtain ⟨h1, h2⟩ := List.getElem?_eq_some_iff.1 hq
    exact ⟨by simpa using h, j, h1, h2, fun i hi => by
      have := hb r.ins[i] (List.mem_take_iff_getElem.2 ⟨i, by omega, rfl⟩)
      rw [this]; decide⟩
  unfold wMade
  rw [this]
theorem made_ok {W : B → Tld} {r : Rule} (hb : ∀ x ∈ r.ins, (W x).2 = 0) : wMade W r = (runOut r.kind r.word (r.ins.map fun q => (W q).1), runCode r.kind r.word (r.ins.map fun q => (W q).1)) := by
  have : r.ins.find? (fun q => (W q).2 != 0) = none := List.find?_eq_none.2 fun x hx => by rw [hb x hx]; decide
  unfold wMade
  rw [this]

/-- What is known of all that is asked for. -/
structure Asks (l : List Rule) (T : FL) (W : B → Tld) (D : B → Prop) (rk : B → Nat) : Prop where
  step : ∀ p, D p → W p = wStep l T W p
  down : ∀ p, D p → ∀ r, ruleOf l p = some r → ∀ q ∈ r.ins, D q ∧ rk q < rk p
  len : ∀ p, D p → (W p).1.length ≤ 2000
  code : ∀ p, D p → (W p).2 ≤ 12

theorem wMade_congr {W V : B → Tld} {r : Rule} (h : ∀ q ∈ r.ins, W q = V q) : wMade W r = wMade V r := by
  have h1 : r.ins.find? (fun q => (W q).2 != 0) = r.ins.find? (fun q => (V q).2 != 0) := by
    generalize r.ins = k at h
    induction k with
    | nil => rfl
    | cons x k ih => rw [List.find?_cons, List.find?_cons, h x (.head _), ih fun q hq => h q (.tail _ hq)]
  have h2 : r.ins.map (fun q => (W q).1) = r.ins.map (fun q => (V q).1) := List.map_congr_left fun q hq => by rw [h q hq]
  unfold wMade
  rw [h1, h2]
  cases hf : r.ins.find? (fun q => (V q).2 != 0) with
  | none => rfl
  | some q => exact h q (List.mem_of_find?_eq_some hf)

/-- With so many steps. -/
def wantF (l : List Rule) (T : FL) : Nat → B → Tld
  | 0, _ => ([], 0)
  | n + 1, p => wStep l T (wantF l T n) p
def wantW (l : List Rule) (T : FL) : B → Tld := wantF l T (l.length + 1)

structure Ranked (l : List Rule) (D : B → Prop) (rk : B → Nat) : Prop where
  down : ∀ p, D p → ∀ r, ruleOf l p = some r → ∀ q ∈ r.ins, D q ∧ rk q < rk p

theorem wantF_stable {l : List Rule} {T : FL} {D : B → Prop} {rk : B → Nat} (h : Ranked l D rk) : ∀ (n m : Nat) (p : B), D p → rk p < n → rk p < m → wantF l T n p = wantF l T m p
  | 0, _, _, _, h1, _ => by omega
  | _ + 1, 0, _, _, _, h2 => by omega
  | n + 1, m + 1, p, hd, h1, h2 => by
    unfold wantF wStep
    cases hr : ruleOf l p with
    | none => rfl
    | some r =>
      refine wMade_congr fun q hq => ?_
      obtain ⟨h3, h4⟩ := h.down p hd r hr q hq
      exact wantF_stable h n m q h3 (by omega) (by omega)

theorem runOut_le (a b : B) (l : List B) : (runOut a b l).length ≤ 2000 := by
  unfold runOut
  by_cases h : runCode a b l = 0
  · rw [if_pos h]
    unfold runCode at h
    split at h
    · split at h
      · cases h
      · omega
    · rename_i h2; exact absurd h h2
  · rw [if_neg h]; exact Nat.zero_le _
theorem runCode_le12 (a b : B) (l : List B) : runCode a b l ≤ 12 := by
  unfold runCode
  have := actCode_le a b l.length
  split
  · split <;> omega
  · exact this
theorem runOut_zero {a b : B} {l : List B} (h : runCode a b l ≠ 0) : runOut a b l = [] := if_neg h

structure TldOk (x : Tld) : Prop where
  len : x.1.length ≤ 2000
  code : x.2 ≤ 12
  zero : x.2 ≠ 0 → x.1 = []
theorem wStep_ok {l : List Rule} {T : FL} {W : B → Tld} (hT : ∀ p s, T.lookup p = some s → s.length ≤ 2000) (hW : ∀ q, TldOk (W q)) (p : B) : TldOk (wStep l T W p) := by
  unfold wStep
  cases hr : ruleOf l p with
  | none =>
    simp only [wLeaf]
    cases hl : T.lookup p with
    | none => exact ⟨by simp, by simp, fun _ => rfl⟩
    | some s => exact ⟨hT p s hl, by simp, fun h => absurd rfl h⟩
  | some r =>
    simp only [wMade]
    cases hf : r.ins.find? (fun q => (W q).2 != 0) with
    | none => exact ⟨runOut_le _ _ _, runCode_le12 _ _ _, runOut_zero⟩
    | some q => exact hW q
theorem wantF_ok {l : List Rule} {T : FL} (hT : ∀ p s, T.lookup p = some s → s.length ≤ 2000) : ∀ (n : Nat) (p : B), TldOk (wantF l T n p)
  | 0, _ => ⟨by simp [wantF], by simp [wantF], fun h => absurd rfl h⟩
  | n + 1, p => wStep_ok hT (wantF_ok hT n) p

theorem asks_want {l : List Rule} {T : FL} {D : B → Prop} {rk : B → Nat} (h : Ranked l D rk) (hb : ∀ p, D p → rk p ≤ l.length) (hT : ∀ p s, T.lookup p = some s → s.length ≤ 2000) : Asks l T (wantW l T) D rk :=
  ⟨fun p hd => by
    show wStep l T (wantF l T l.length) p = wStep l T (wantW l T) p
    unfold wStep
    cases hr : ruleOf l p with
    | none => rfl
    | some r =>
      refine wMade_congr fun q hq => ?_
      obtain ⟨h3, h4⟩ := h.down p hd r hr q hq
      have := hb p hd
      exact wantF_stable h _ _ q h3 (by omega) (by omega),
   h.down, fun p _ => (wantF_ok hT _ p).len, fun p _ => (wantF_ok hT _ p).code⟩

/-! ### ranks out of an order -/
def rankO (l : List Rule) (o : List Nat) (p : B) : Nat := match l.findIdx? (fun r => r.out == p) with | none => 0 | some k => o.idxOf k + 1
def InO (l : List Rule) (o : List Nat) (p : B) : Prop := ∀ k, l.findIdx? (fun r => r.out == p) = some k → k ∈ o

theorem findI_some {l : List Rule} {p : B} {k : Nat} (h : l.findIdx? (fun r => r.out == p) = some k) : ∃ r, l[k]? = some r ∧ r.out = p ∧ ruleOf l p = some r := by
  rw [List.findIdx?_eq_some_iff_getElem] at h
  obtain ⟨h3, h4, h5⟩ := h
  refine ⟨l[k], List.getElem?_eq_getElem h3, beq_iff_eq.1 h4, ?_⟩
  unfold ruleOf
  rw [List.find?_eq_some_iff_getElem]
  exact ⟨h4, k, h3, rfl, fun j hj => by simpa using h5 j hj⟩
theorem ruleOf_idx {l : List Rule} {p : B} {r : Rule} (h : ruleOf l p = some r) : ∃ k, l.findIdx? (fun r => r.out == p) = some k ∧ l[k]? = some r := by
  cases hf : l.findIdx? (fun r => r.out == p) with
  | none =>
    rw [List.findIdx?_eq_none_iff] at hf
    unfold ruleOf at h
    have h1 := List.find?_some h
    have h2 := hf r (List.mem_of_find?_eq_some h)
    rw [h2] at h1
    cases h1
  | some k =>
    obtain ⟨r', h1, _, h3⟩ := findI_some hf
    rw [h] at h3
    cases h3
    exact ⟨k, rfl, h1⟩

theorem ranked_order {l : List Rule} {is : Nat → Bool} {o : List Nat} (hO : Ordered l.length (needB l) is o) : Ranked l (InO l o) (rankO l o) ∧ ∀ p, InO l o p → rankO l o p ≤ l.length := by
  have key : ∀ k, k ∈ o → o.idxOf k < o.length := fun k hk => List.idxOf_lt_length_of_mem hk
  refine ⟨⟨fun p hp r hr q hq => ?_⟩, fun p hp => ?_⟩
  · obtain ⟨k, hk, hkr⟩ := ruleOf_idx hr
    have hko := hp k hk
    have hj := key k hko
    have hat : o[o.idxOf k]? = some k := by rw [List.getElem?_eq_getElem hj, List.getElem_idxOf]
    have hneed := hO.need _ _ hat
    have hrp : rankO l o p = o.idxOf k + 1 := by unfold rankO; rw [hk]
    have hq2 : ∀ k', l.findIdx? (fun r => r.out == q) = some k' → k' ∈ o.take (o.idxOf k) := fun k' hk' => by
      obtain ⟨r', h1, h2, _⟩ := findI_some hk'
      refine hneed k' (List.getElem?_eq_some_iff.1 h1).1 ?_
      unfold needB
      rw [hkr, h1]
      simp only [h2]
      simpa using hq
    refine ⟨fun k' hk' => List.mem_of_mem_take (hq2 k' hk'), ?_⟩
    rw [hrp]
    unfold rankO
    cases hf : l.findIdx? (fun r => r.out == q) with
    | none => exact Nat.succ_pos _
    | some k' =>
      have := hq2 k' hf
      obtain ⟨t, ht, he⟩ := List.mem_take_iff_getElem.1 this
      have hlt : o.idxOf k' ≤ t := by
        have hnd := hO.nodup
        have h6 : o.idxOf k' = t := by rw [← he]; exact hnd.idxOf_getElem t (by omega)
        omega
      simp only
      omega
  · have hl := hO.len
    have hm := manyB_le l.length is
    unfold rankO
    cases hf : l.findIdx? (fun r => r.out == p) with
    | none => exact Nat.zero_le _
    | some k => have := key k (hp k hf); simp only; omega
end Go.Proofs.YtnmhaipjfpongacGreatDoor

namespace Go.Proofs.YtnmhaipjfpongacGreatDoor
open Go.ChangeShapes Go.WideShapes Go.ChangeAt Go.RowKit

/-! ### in memory -/
abbrev tEnc (P : Nat → Addr) (x : Tld) : Value := .agg #[S x.1, errC P x.2]

/-- wpText where the world's size has another name. -/
theorem wpTextH {P : Program} (hP : P = Tryz.prog) {ops : Array Oper} {rest : List Oper} {o : Oper} {a : Act} {Q : Exit → Act → World → Prop} (s x : Operand) (w0 : World) (base : Nat) (v : Value) (l : List B) (k : B) (W : World) (H : Nat) (hH : W.heap.size = H) (hgd : o.guard = none)
    (ho : o.op = .call { callee := .builtin .append, args := #[s, x], argTypes := #[53, 53] }) (hs : a.eval s = v) (hx : a.eval x = .slice (some ⟨H, 0, none⟩) 1 1)
    (hrow : Row base W v l) (hl : l.length ≤ 1000000) (hbase : base ≤ W.heap.size) (hxt : Ext w0 W) (hb0 : w0.heap.size ≤ base)
    (hK : ∀ g cap w', Hid (Row base w' (.slice (some ⟨g, 0, none⟩) (l.length + 1) cap) (l ++ [k])) → Hid (Ext w0 w') → Hid (W.grownBy w' v.ownBlock) →
      wpList P ops Q rest (a.put o.dst (.slice (some ⟨g, 0, none⟩) (l.length + 1) cap)) w') :
    wpList P ops Q (o :: rest) a (W.alloc (.cells #[S k] 9 (0, 0))) := by
  subst hH
  exact wpText hP s x w0 base v l k W hgd ho hs hx hrow hl hbase hxt hb0 hK

/-- The asker; all that it reads lay there before it was made. -/
structure AskAt (w0 w : World) (P : Nat → Addr) (ab tb kb : Nat) (lv : Value) (L : List (B × Tld)) : Prop where
  ext : Ext w0 w
  cells : w.heap[ab]? = some (.cells #[.pointer (some ⟨tb, 0, none⟩), lv, .map (some kb)] 153 (0, 0))
  map : KMap .string S (tEnc P) w kb L
  lo : w0.heap.size ≤ ab ∧ w0.heap.size ≤ kb ∧ ab ≠ kb
theorem AskAt.later {w0 w w' : World} {P : Nat → Addr} {ab tb kb : Nat} {lv : Value} {L : List (B × Tld)} {p : Nat → Prop} (h : AskAt w0 w P ab tb kb lv L) (ho : Only p w w') (hp : ∀ b, p b → w0.heap.size ≤ b ∧ b ≠ ab ∧ b ≠ kb) : AskAt w0 w' P ab tb kb lv L :=
  ⟨h.ext.trans ho (fun _ _ h => h) (fun i hi e => by have := (hp i e).1; omega), ho.heapOf h.cells (fun e => (hp _ e).2.1 rfl), h.map.later ho (fun e => (hp _ e).2.2 rfl), h.lo⟩
theorem AskAt.grow {w0 w w' : World} {P : Nat → Addr} {ab tb kb : Nat} {lv : Value} {L : List (B × Tld)} (h : AskAt w0 w P ab tb kb lv L) (ho : Ext w w') : AskAt w0 w' P ab tb kb lv L := h.later ho (fun _ h => h.elim)

/-- What it remembers is so. -/
def Knows (W : B → Tld) (L : List (B × Tld)) : Prop := ∀ p x, L.lookup p = some x → x = W p

def OfPost (w0 : World) (P : Nat → Addr) (ab tb kb : Nat) (lv : Value) (W : B → Tld) (x : Tld) (w : World) (e : Ending) (w' : World) : Prop :=
  e = .returned (tEnc P x) ∧ ∃ L, AskAt w0 w' P ab tb kb lv L ∧ Knows W L ∧ Only (fun b => b = kb) w w'

theorem made_results (tmps : Array Value) (W : World) (h : Nat) (t ev : Value) (h4 : tmps[4]? = some (.pointer (some ⟨h, 0, none⟩))) (d0 : W.cell? ⟨h, 0, none⟩ = some t) (d1 : W.cell? ⟨h, 1, none⟩ = some ev) :
    (results Tryz.f167 tmps).run Tryz.prog W = .ok (.agg #[t, ev]) W := by
  simp only [results, Tryz.results167]
  simp [go_sem, h4, d0, d1]

set_option maxRecDepth 100000 in
set_option maxHeartbeats 4000000 in
theorem made_any (w0 : World) (P : Nat → Addr) (ab tb kb : Nat) (lv : Value) (W : B → Tld) (n : Nat) (D : B → Prop) (rk : B → Nat) (hlen : ∀ p, D p → (W p).1.length ≤ 2000) (hA : ActVars w0 P)
    (hof : ∀ p, D p → rk p < n → ∀ w L, AskAt w0 w P ab tb kb lv L → Knows W L → Calls Tryz.prog 95 #[.pointer (some ⟨ab, 0, none⟩), S p] w (OfPost w0 P ab tb kb lv W (W p) w))
    (r : Rule) (hr : ∀ q ∈ r.ins, D q ∧ rk q < n) (hm : r.ins.length ≤ 12) (hw : r.word.length ≤ 1000) (w : World) (u : Value) (hu : Rd S w0 u r.ins) (L : List (B × Tld)) (hL : AskAt w0 w P ab tb kb lv L) (hK : Knows W L) :
    Calls Tryz.prog 167 #[.pointer (some ⟨ab, 0, none⟩), AggR r u] w (OfPost w0 P ab tb kb lv W (wMade W r) w) := by
  obtain ⟨au, cu, rfl, _, _, hc⟩ := hu
  have HC := Lib.hid hc
  have HOF := Lib.hid hof
  have HR := Lib.hid hr
  have HLN := Lib.hid hlen
  have HAV := Lib.hid hA
  obtain ⟨X, hX⟩ : ∃ X, X = wMade W r := ⟨_, rfl⟩
  rw [← hX]
  have HX := Lib.hid hX
  have hmz : (r.ins.length : Int) ≤ 12 := by omega
  clear hc hof hr hlen hA hX
  have HL0 := Lib.hid (hL.grow ((Only.alloc (fun _ => False) w (.cells #[S r.out, S r.kind, S r.word, .slice au r.ins.length cu] 55 (0, 0))).thenAlloc (.cells #[S [], .nilIface] 155 (0, 0))))
  have HK0 := Lib.hid hK
  have hKB := hL.map.lt
  have hAB := lt_of_heap hL.cells
  have hW0 := hL.ext.size
  clear hL hK
  go_enter Tryz.func167, Tryz.ntmps167
  go_wp2_with fail
  have hkw := HL0.out.map.lt
  have HRB0 : Hid (((w.alloc (.cells #[S r.out, S r.kind, S r.word, .slice au r.ins.length cu] 55 (0, 0))).alloc (.cells #[S [], .nilIface] 155 (0, 0))).heap[w.heap.size]? = some (.cells #[S r.out, S r.kind, S r.word, .slice au r.ins.length cu] 55 (0, 0))) := Lib.hid ((Only.alloc (fun _ => False) _ _).heapOf (MapKept.heap_alloc w _).1 (fun h => h))
  have HSB0 : Hid (((w.alloc (.cells #[S r.out, S r.kind, S r.word, .slice au r.ins.length cu] 55 (0, 0))).alloc (.cells #[S [], .nilIface] 155 (0, 0))).heap[w.heap.size + 1]? = some (.cells #[S [], .nilIface] 155 (0, 0))) := Lib.hid (by
    have h := (MapKept.heap_alloc (w.alloc (.cells #[S r.out, S r.kind, S r.word, .slice au r.ins.length cu] 55 (0, 0))) (.cells #[S [], .nilIface] 155 (0, 0))).1
    simpa using h)
  have HO0 : Hid (Only (fun b => b = kb) w ((w.alloc (.cells #[S r.out, S r.kind, S r.word, .slice au r.ins.length cu] 55 (0, 0))).alloc (.cells #[S [], .nilIface] 155 (0, 0)))) := Lib.hid ((Only.alloc _ w _).thenAlloc _)
  obtain ⟨rb, hrb⟩ : ∃ rb, rb = w.heap.size := ⟨_, rfl⟩
  obtain ⟨sb, hsb⟩ : ∃ sb, sb = w.heap.size + 1 := ⟨_, rfl⟩
  obtain ⟨bs, hbs⟩ : ∃ bs, bs = w.heap.size + 2 := ⟨_, rfl⟩
  rw [← hrb] at HRB0
  rw [← hsb] at HSB0
  rw [← hsb, ← hrb]
  have HBZ : Hid (bs ≤ ((w.alloc (.cells #[S r.out, S r.kind, S r.word, .slice au r.ins.length cu] 55 (0, 0))).alloc (.cells #[S [], .nilIface] 155 (0, 0))).heap.size) := Lib.hid (by simp; omega)
  have HLO : Hid (kb < w.heap.size ∧ ab < w.heap.size ∧ w0.heap.size ≤ w.heap.size ∧ rb = w.heap.size ∧ sb = w.heap.size + 1 ∧ bs = w.heap.size + 2) := Lib.hid ⟨hKB, hAB, hW0, hrb, hsb, hbs⟩
  clear hrb hsb hbs hKB hAB hW0 hkw
  generalize ((w.alloc (.cells #[S r.out, S r.kind, S r.word, .slice au r.ins.length cu] 55 (0, 0))).alloc (.cells #[S [], .nilIface] 155 (0, 0))) = wq at HL0 HRB0 HSB0 HO0 HBZ ⊢
  go_loopw [5, 7, 8, 14] (fun q _ _ i wr => ∃ (j : Nat) (qv : Value) (L : List (B × Tld)), qv = q ∧ j ≤ r.ins.length ∧ i = .int .i64 j ∧ Hid (AskAt w0 wr P ab tb kb lv L) ∧ Hid (Knows W L) ∧ Hid (Row bs wr qv ((r.ins.take j).map fun q => (W q).1)) ∧ Hid (∀ x ∈ r.ins.take j, (W x).2 = 0) ∧ Hid (Only (fun b => b = kb) w wr) ∧ Hid (wr.heap[rb]? = some (.cells #[S r.out, S r.kind, S r.word, .slice au r.ins.length cu] 55 (0, 0))) ∧ Hid (wr.heap[sb]? = some (.cells #[S [], .nilIface] 155 (0, 0))) ∧ Hid (bs ≤ wr.heap.size)) (fun _ _ _ i _ => r.ins.length - (intOf i).toNat)
  case atStart => exact ⟨0, _, L, rfl, Nat.zero_le _, rfl, HL0, HK0, Lib.hid (Row.nil _ _), Lib.hid (by simp), HO0, HRB0, HSB0, HBZ⟩
  case round =>
    clear HL0 HK0 HRB0 HSB0 HO0 HBZ
    obtain ⟨j, qv, L, rfl, hj, rfl, HL, HK, HQ, HZ, HO, HRB, HSB, HB⟩ := hrel
    by_cases hlt : j < r.ins.length
    · have hltz : (j : Int) < (r.ins.length : Int) := by omega
      have hj0 : (0 : Int) ≤ (j : Int) := by omega
      obtain ⟨b, off, rfl, hcell⟩ := HC.out (by intro h; rw [h] at hlt; simp at hlt)
      obtain ⟨q, hq⟩ : ∃ y, r.ins[j]? = some y := ⟨_, List.getElem?_eq_getElem hlt⟩
      have d0 := HL.out.ext.cellOf (hcell j q hq) (fun h => h)
      obtain ⟨hq1, hq2⟩ := HR.out q (List.mem_of_getElem? hq)
      have HCA := Lib.hid (HOF.out q hq1 hq2 wr L HL.out HK.out)
      have HQN := Lib.hid hq
      have HTM : Hid ((r.ins.take (j + 1)).map (fun q => (W q).1) = (r.ins.take j).map (fun q => (W q).1) ++ [(W q).1]) := Lib.hid (by rw [List.take_add_one, hq]; simp)
      have hql : ((r.ins.take j).map fun q => (W q).1).length ≤ 1000000 := by rw [List.length_map, List.length_take]; omega
      have HQL := Lib.hid hql
      obtain ⟨aq, cq, hqf, _, _, _⟩ := HQ.out.rd
      rw [List.length_map, show (r.ins.take j).length = j by rw [List.length_take]; omega] at hqf
      subst hqf
      clear hcell hq hq2 hql
      have r0 := cell_of_heap HRB.out 0
      go_wp2_with fail
      refine HCA.out.mono ?_
      rintro e w3 ⟨rfl, L3, hL3, hK3, ho3⟩
      have hbk : ∀ b, (Value.slice aq j cq).ownBlock = some b → ¬ b = kb := fun b hb e => by have := (HQ.out.lt b hb).1; have := HLO.out; omega
      have HL3 := Lib.hid hL3
      have HK3 := Lib.hid hK3
      have HQ3 : Hid (Row bs w3 (.slice aq j cq) ((r.ins.take j).map fun q => (W q).1)) := Lib.hid (ho3.row HQ.out hbk)
      have HO3 := Lib.hid (HO.out.then ho3)
      have HRB3 := Lib.hid (ho3.heapOf HRB.out (fun e => by have := HLO.out; omega))
      have HSB3 := Lib.hid (ho3.heapOf HSB.out (fun e => by have := HLO.out; omega))
      have HB3 := Lib.hid (Nat.le_trans HB.out ho3.size)
      clear hL3 hK3 ho3 hbk HQ HO HRB HSB HB HL HK r0
      obtain ⟨s, c, hsc⟩ : ∃ s c, W q = (s, c) := ⟨_, _, rfl⟩
      have HSC := Lib.hid hsc
      have HSL : Hid (s.length ≤ 2000) := Lib.hid (by have := HLN.out q hq1; rw [hsc] at this; exact this)
      rw [hsc] at HTM ⊢
      clear hsc hq1
      cases c with
      | zero =>
        have hz : tEnc P (s, 0) = .agg #[S s, .nilIface] := rfl
        rw [hz]
        have HLA := Lib.hid (HL3.out.grow (Only.alloc (fun _ => False) w3 (.cells #[S s, .nilIface] 155 (0, 0))))
        have HQA := Lib.hid (HQ3.out.ext (Only.alloc (fun _ => False) w3 (.cells #[S s, .nilIface] 155 (0, 0))))
        have HBA : Hid (bs ≤ (w3.alloc (.cells #[S s, .nilIface] 155 (0, 0))).heap.size) := Lib.hid (by simp; have := HB3.out; omega)
        have HZ2 : Hid (∀ x ∈ r.ins.take (j + 1), (W x).2 = 0) := Lib.hid (fun x hx => by
          rw [List.take_add_one, HQN.out] at hx
          rcases List.mem_append.1 hx with hx | hx
          · exact HZ.out x hx
          · rw [Option.toList_some, List.mem_singleton] at hx
            rw [hx, HSC.out])
        generalize (r.ins.take j).map (fun q => (W q).1) = Xs at HQA HTM HQL
        clear HZ HQ3
        go_wp2_with (at_builtin; refine wpTextH rfl (.tmp 25) (.tmp 28) w0 bs _ Xs s (w3.alloc (.cells #[S s, .nilIface] 155 (0, 0))) (w3.heap.size + 1) (by simp) rfl rfl rfl rfl HQA.out HQL.out HBA.out HLA.out.ext (by have := HLO.out; omega) ?_; intro g5 cap5 w5 HR5 _ HG5; have HO5 := Only.of_grown HG5.out; have HOW : ∀ b, (Value.slice aq j cq).ownBlock = some b → bs ≤ b := HQA.out.base; have HL5 := Lib.hid (HLA.out.later HO5 (fun b hb => by have := HOW b hb; have := HLO.out; omega)); have HO6 := Lib.hid ((HO3.out.thenAlloc _).thenGrown HG5.out (fun i hi => .inr (by have := HOW i hi; have := HLO.out; omega))); have HRB5 := Lib.hid (HO5.heapOf ((Only.alloc (fun _ => False) w3 _).heapOf HRB3.out (fun h => h)) (fun hb => by have := HOW _ hb; have := HLO.out; omega)); have HSB5 := Lib.hid (HO5.heapOf ((Only.alloc (fun _ => False) w3 _).heapOf HSB3.out (fun h => h)) (fun hb => by have := HOW _ hb; have := HLO.out; omega)); have HB5 := Lib.hid (Nat.le_trans HBA.out HO5.size); clear HO5 HOW)
        go_roundw
        case rel => exact ⟨j + 1, _, L3, rfl, by omega, by go_num, HL5, HK3, by rw [HTM.out]; exact HR5, HZ2, HO6, HRB5, HSB5, HB5⟩
        case measure => simp [intOf]; omega
      | succ c =>
        have hz : tEnc P (s, c + 1) = .agg #[S s, errV (P c)] := rfl
        rw [hz]
        have hsb := (Only.alloc (fun _ => False) w3 (.cells #[S s, errV (P c)] 155 (0, 0))).heapOf HSB3.out (fun h => h)
        have s0 : (w3.alloc (.cells #[S s, errV (P c)] 155 (0, 0))).cell? ⟨sb, 0, none⟩ = some (S []) := (cell_of_heap hsb 0).trans rfl
        have s1 : (w3.alloc (.cells #[S s, errV (P c)] 155 (0, 0))).cell? ⟨sb, 1, none⟩ = some .nilIface := (cell_of_heap hsb 1).trans rfl
        have f0 := free_of_heap hsb 0
        have f1 := free_of_heap hsb 1
        have HXE : Hid (X = (s, c + 1)) := Lib.hid (by rw [HX.out, made_bad HQN.out (by rw [HSC.out]; exact Nat.succ_ne_zero c) HZ.out, HSC.out])
        have hs0 : Only (fun b => b = sb) (w3.alloc (.cells #[S s, errV (P c)] 155 (0, 0))) (((w3.alloc (.cells #[S s, errV (P c)] 155 (0, 0))).setCell ⟨sb, 0, none⟩ (S s)).setCell ⟨sb, 1, none⟩ (errV (P c))) := (Only.set (p := fun b => b = sb) (S s) rfl).then (Only.set (p := fun b => b = sb) (errV (P c)) rfl)
        have HFA := Lib.hid ((HL3.out.grow (Only.alloc (fun _ => False) w3 (.cells #[S s, errV (P c)] 155 (0, 0)))).later hs0 (fun b e => by have := HLO.out; omega))
        have HFO := Lib.hid ((HO3.out.thenAlloc (.cells #[S s, errV (P c)] 155 (0, 0))).trans hs0 (fun _ _ h => h) (fun i hi e => by have := HLO.out; omega))
        have hcf := heap_setCell_same (heap_setCell_same hsb 0 (S s)) 1 (errV (P c))
        have HF0 := Lib.hid ((cell_of_heap hcf 0).trans (rfl : _ = some (S s)))
        have HF1 := Lib.hid ((cell_of_heap hcf 1).trans (rfl : _ = some (errV (P c))))
        clear hsb hs0 hcf
        go_wp2_with fail
        exact bodyPost_ret (v := .agg #[S s, errV (P c)]) (made_results _ _ sb _ _ rfl HF0.out HF1.out) rfl ⟨by rw [HXE.out]; rfl, L3, HFA.out, HK3.out, HFO.out⟩
    · have hltz : ¬ (j : Int) < (r.ins.length : Int) := by omega
      obtain rfl : j = r.ins.length := by omega
      rw [List.take_length] at HQ HZ
      have HXE : Hid (X = (runOut r.kind r.word (r.ins.map fun q => (W q).1), runCode r.kind r.word (r.ins.map fun q => (W q).1))) := Lib.hid (by rw [HX.out, made_ok HZ.out])
      have hsum : sumLen (r.ins.map fun q => (W q).1) + (r.ins.map fun q => (W q).1).length ≤ 900000 := by
        have h3 : ∀ k : List B, (∀ q ∈ k, (W q).1.length ≤ 2000) → sumLen (k.map fun q => (W q).1) ≤ k.length * 2000 := by
          intro k
          induction k with
          | nil => intro _; simp [sumLen]
          | cons x k ih =>
            intro hk
            rw [List.map_cons, sum_cons, List.length_cons, Nat.succ_mul]
            have := ih fun y hy => hk y (.tail _ hy)
            have := hk x (.head _)
            omega
        have h4 := h3 r.ins (fun q hq => HLN.out q (HR.out q hq).1)
        have h5 : r.ins.length * 2000 ≤ 12 * 2000 := Nat.mul_le_mul_right _ hm
        rw [List.length_map]
        omega
      have HRUN := Lib.hid (actRun_any wr P r.kind r.word (r.ins.map fun q => (W q).1) qv HQ.out.rd hsum hw (HAV.out.ext HL.out.ext))
      have r1 : wr.cell? ⟨rb, 1, none⟩ = some (S r.kind) := (cell_of_heap HRB.out 1).trans rfl
      have r2 : wr.cell? ⟨rb, 2, none⟩ = some (S r.word) := (cell_of_heap HRB.out 2).trans rfl
      clear hsum hlt hj
      generalize runOut r.kind r.word (r.ins.map fun q => (W q).1) = RO at HXE HRUN
      generalize runCode r.kind r.word (r.ins.map fun q => (W q).1) = RC at HXE HRUN
      go_wp2_with fail
      refine (HRUN.out).mono ?_
      rintro e w3 ⟨rfl, ho3⟩
      have HO3 := Lib.hid (HO.out.ext ho3)
      have HL3 := Lib.hid (HL.out.grow ho3)
      have HHO := Lib.hid ho3
      clear ho3
      have hsb := HHO.out.heapOf HSB.out (fun h => h)
      have s0 : w3.cell? ⟨sb, 0, none⟩ = some (S []) := (cell_of_heap hsb 0).trans rfl
      have s1 : w3.cell? ⟨sb, 1, none⟩ = some .nilIface := (cell_of_heap hsb 1).trans rfl
      have f0 := free_of_heap hsb 0
      have f1 := free_of_heap hsb 1
      obtain ⟨ER, hER⟩ : ∃ ER, ER = errC P RC := ⟨_, rfl⟩
      rw [← hER]
      have HER := Lib.hid hER
      have hform : ER = .nilIface ∨ ∃ c, ER = errV (P c) := by
        rw [hER]
        cases RC with
        | zero => exact .inl rfl
        | succ c => exact .inr ⟨c, rfl⟩
      have hs0 : Only (fun b => b = sb) w3 ((w3.setCell ⟨sb, 0, none⟩ (S RO)).setCell ⟨sb, 1, none⟩ ER) := (Only.set (p := fun b => b = sb) (S RO) rfl).then (Only.set (p := fun b => b = sb) ER rfl)
      have HFA := Lib.hid (HL3.out.later hs0 (fun b e => by have := HLO.out; omega))
      have HFO := Lib.hid (HO3.out.trans hs0 (fun _ _ h => h) (fun i hi e => by have := HLO.out; omega))
      have hcf := heap_setCell_same (heap_setCell_same hsb 0 (S RO)) 1 ER
      have HF0 := Lib.hid ((cell_of_heap hcf 0).trans (rfl : _ = some (S RO)))
      have HF1 := Lib.hid ((cell_of_heap hcf 1).trans (rfl : _ = some ER))
      clear hsb hs0 hER hcf
      rcases hform with rfl | ⟨c, rfl⟩
      all_goals
        go_wp2_with fail
        exact bodyPost_ret (v := .agg #[S RO, _]) (made_results _ _ sb _ _ rfl HF0.out HF1.out) rfl ⟨by rw [HXE.out, HER.out], L, HFA.out, HK.out, HFO.out⟩
end Go.Proofs.YtnmhaipjfpongacGreatDoor

namespace Go.Proofs.YtnmhaipjfpongacGreatDoor
open Go.ChangeShapes Go.WideShapes Go.ChangeAt Go.RowKit

theorem enters_of1 : ∀ args w, (callFunc 166 args).run Tryz.prog w = .ok (.enter 166 args) w := fun args w => by kernel_rfl
theorem of1_test (w : World) (r : Rule) (u : Value) (b : Nat) (o : B) (hu : Rd S w u r.ins) (h : w.cell? ⟨b, 0, none⟩ = some (S o)) :
    Calls Tryz.prog 166 #[AggR r u, .pointer (some ⟨b, 0, none⟩)] w (RetE (.bool (r.out == o)) w) := by
  obtain ⟨a, cap, rfl, _, _, _⟩ := hu
  obtain ⟨q, hq⟩ : ∃ q, (r.out == o) = q := ⟨_, rfl⟩
  rw [hq]
  have h1 := fun ob => (Only.alloc (fun _ => False) w ob).cellOf h (fun h => h)
  clear h
  go_enter Tryz.func166, Tryz.ntmps166
  go_wp2_with fail
  go_ret
  exact ⟨rfl, Only.alloc _ _ _⟩

theorem zeroTold : ∀ w, (zeroValue 155).run Tryz.prog w = .ok (.agg #[S [], .nilIface]) w := fun w => by kernel_rfl

theorem lookup_filterG {α : Type} {k s : B} : ∀ (L : List (B × α)), s ≠ k → (L.filter fun p => !(p.1 == k)).lookup s = L.lookup s
  | [], _ => rfl
  | (a, x) :: L, h => by
    by_cases ha : a = k
    · subst ha
      have hs : (s == a) = false := beq_eq_false_iff_ne.2 h
      rw [List.filter_cons_of_neg (by simp), lookup_filterG L h, List.lookup, hs]
    · rw [List.filter_cons_of_pos (by simpa using ha)]
      simp only [List.lookup]
      rw [lookup_filterG L h]
theorem Knows.more {W : B → Tld} {L : List (B × Tld)} (h : Knows W L) {p : B} {x : Tld} (hx : x = W p) : Knows W ((p, x) :: L.filter fun q => !(q.1 == p)) := fun q y hq => by
  by_cases e : q = p
  · subst e
    rw [List.lookup_cons, beq_self_eq_true] at hq
    cases hq
    exact hx
  · have hs : (q == p) = false := beq_eq_false_iff_ne.2 e
    rw [List.lookup_cons, hs] at hq
    simp only at hq
    rw [lookup_filterG L e] at hq
    exact h q y hq
theorem AskAt.stored {w0 w w' : World} {P : Nat → Addr} {ab tb kb : Nat} {lv : Value} {L L' : List (B × Tld)} (h : AskAt w0 w P ab tb kb lv L) (ho : Only (fun b => b = kb) w w') (hm : KMap .string S (tEnc P) w' kb L') : AskAt w0 w' P ab tb kb lv L' :=
  ⟨h.ext.trans ho (fun _ _ h => h) (fun i hi e => by have := h.lo; omega), ho.heapOf h.cells (fun e => h.lo.2.2 e), hm, h.lo⟩

theorem of_results (tmps : Array Value) (W : World) (h : Nat) (t ev : Value) (h4 : tmps[4]? = some (.pointer (some ⟨h, 0, none⟩))) (d0 : W.cell? ⟨h, 0, none⟩ = some t) (d1 : W.cell? ⟨h, 1, none⟩ = some ev) :
    (results Tryz.f95 tmps).run Tryz.prog W = .ok (.agg #[t, ev]) W := by
  simp only [results, Tryz.results95]
  simp [go_sem, h4, d0, d1]

set_option maxRecDepth 100000 in
set_option maxHeartbeats 4000000 in
theorem of_step (w0 : World) (P : Nat → Addr) (ab tb tmb kb : Nat) (lv : Value) (l : List Rule) (T : FL) (W : B → Tld) (n : Nat) (D : B → Prop) (rk : B → Nat) (hS : Asks l T W D rk) (hA : ActVars w0 P) (hE : Errs w0 P [5])
    (hl : RdR w0 lv l) (hw : ∀ r ∈ l, r.ins.length ≤ 12 ∧ r.word.length ≤ 1000) (ht : TreeAt w0 tb tmb T)
    (hof : ∀ p, D p → rk p < n → ∀ w L, AskAt w0 w P ab tb kb lv L → Knows W L → Calls Tryz.prog 95 #[.pointer (some ⟨ab, 0, none⟩), S p] w (OfPost w0 P ab tb kb lv W (W p) w))
    (p : B) (hp : D p) (hr : rk p < n + 1) (w : World) (L : List (B × Tld)) (hL : AskAt w0 w P ab tb kb lv L) (hK : Knows W L) :
    Calls Tryz.prog 95 #[.pointer (some ⟨ab, 0, none⟩), S p] w (OfPost w0 P ab tb kb lv W (W p) w) := by
  have HL := Lib.hid hL
  have HK := Lib.hid hK
  have HRD := Lib.hid hl
  have HT := Lib.hid ht
  have HEE := Lib.hid hE
  have HCD := Lib.hid (hS.code p hp)
  have HB0 := Lib.hid ((MapKept.heap_alloc w (.cells #[S p] 9 (0, 0))).1)
  have hx1 : Ext w (w.alloc (.cells #[S p] 9 (0, 0))) := Only.alloc _ _ _
  have hx2 : Ext (w.alloc (.cells #[S p] 9 (0, 0))) ((w.alloc (.cells #[S p] 9 (0, 0))).alloc (.cells #[S [], .nilIface] 155 (0, 0))) := Only.alloc _ _ _
  have hb : ((w.alloc (.cells #[S p] 9 (0, 0))).alloc (.cells #[S [], .nilIface] 155 (0, 0))).heap[w.heap.size]? = some (.cells #[S p] 9 (0, 0)) := hx2.heapOf HB0.out (fun h => h)
  have ht4 : ((w.alloc (.cells #[S p] 9 (0, 0))).alloc (.cells #[S [], .nilIface] 155 (0, 0))).heap[w.heap.size + 1]? = some (.cells #[S [], .nilIface] 155 (0, 0)) := by
    have h := (MapKept.heap_alloc (w.alloc (.cells #[S p] 9 (0, 0))) (.cells #[S [], .nilIface] 155 (0, 0))).1
    simpa using h
  have HX0 : Hid (Only (fun b => b = kb) w ((w.alloc (.cells #[S p] 9 (0, 0))).alloc (.cells #[S [], .nilIface] 155 (0, 0)))) := Lib.hid ((Only.alloc _ w _).thenAlloc _)
  have HL0 := Lib.hid (hL.grow (hx1.then hx2))
  have HLO : Hid (kb < w.heap.size ∧ ab < w.heap.size ∧ w0.heap.size ≤ w.heap.size) := Lib.hid ⟨hL.map.lt, lt_of_heap hL.cells, hL.ext.size⟩
  have hif := indexFunc_R1 166 (.pointer (some ⟨w.heap.size, 0, none⟩)) (fun x => x.out == p) ((w.alloc (.cells #[S p] 9 (0, 0))).alloc (.cells #[S [], .nilIface] 155 (0, 0))) lv l (HRD.out.ext HL0.out.ext) enters_of1
    (fun w1 h1 x u' _ hu' => of1_test w1 x u' w.heap.size p hu' (h1.cellOf ((cell_of_heap hb 0).trans rfl) (fun h => h)))
  have HIF := Lib.hid hif
  have HBB := Lib.hid hb
  have HBT := Lib.hid ht4
  have hst := hS.step p hp
  obtain ⟨X, hX⟩ : ∃ X, X = W p := ⟨_, rfl⟩
  rw [← hX]
  have HX := Lib.hid hX
  have HWP := Lib.hid hst
  have HMADE := Lib.hid (fun (k : Nat) (r : Rule) (u : Value) (w' : World) (L' : List (B × Tld)) (hk : l[k]? = some r) (hro : ruleOf l p = some r) (hu : Rd S w0 u r.ins) (h1 : AskAt w0 w' P ab tb kb lv L') (h2 : Knows W L') =>
    made_any w0 P ab tb kb lv W n D rk hS.len hA hof r (fun q hq => by obtain ⟨a, b⟩ := hS.down p hp r hro q hq; exact ⟨a, by omega⟩) (hw r (List.mem_of_getElem? hk)).1 (hw r (List.mem_of_getElem? hk)).2 w' u hu L' h1 h2)
  have c0 := (cell_of_heap HL0.out.cells 0).trans (rfl : _ = some (Value.pointer (some ⟨tb, 0, none⟩)))
  have c1 := (cell_of_heap HL0.out.cells 1).trans (rfl : _ = some lv)
  have c2 := (cell_of_heap HL0.out.cells 2).trans (rfl : _ = some (Value.map (some kb)))
  have hmz := zeroTold
  clear hL hK hl ht hE hx1 hx2 hb ht4 hif hst hX hof hw hS hA hr hp
  go_enter Tryz.func95, Tryz.ntmps95
  go_wp2_with fail
  generalize ((w.alloc (.cells #[S p] 9 (0, 0))).alloc (.cells #[S [], .nilIface] 155 (0, 0))) = wq at HL0 HIF HBB HBT HX0 c0 c1 c2 ⊢
  rcases rule_idx (l := l) (p := p) with ⟨k, r, hk, hlk, hro⟩ | ⟨hk, hro⟩
  case inr =>
    rw [hk] at HIF
    have HXQ : Hid (X = wLeaf T p) := Lib.hid (by rw [HX.out, HWP.out]; unfold wStep; rw [hro])
    clear hk hro HMADE
    refine HIF.out.mono ?_
    rintro e w3 ⟨rfl, ho⟩
    have HB3 := Lib.hid (ho.heapOf HBB.out (fun h => h))
    have HT3 := Lib.hid (ho.heapOf HBT.out (fun h => h))
    have HL3 := Lib.hid (HL0.out.grow ho)
    have HX3 := Lib.hid (HX0.out.ext ho)
    have d0 := ho.cellOf c0 (fun h => h)
    have db := (cell_of_heap HB3.out 0).trans (rfl : _ = some (S p))
    have hget := fun n => treeGet_any (w3.drewN n) tb tmb T p ((HT.out.ext HL3.out.ext).ext (Only.drewN _ _ n))
    unfold wLeaf at HXQ
    cases hl : T.lookup p with
    | none =>
      rw [hl] at HXQ
      simp only [hl, Option.getD_none, Option.isSome_none] at hget
      have HGET := Lib.hid hget
      clear c0 c1 c2 ho hmz hget hl
      go_wp2_with fail
      go_quiet ((go_at_call 42; exact Calls.quiet_of_same ((HGET.out _).mono fun _ _ h => ⟨h.1, h.2.symm⟩)))
      have ht4 := (Only.drewN (fun _ => False) w3 nq).heapOf HT3.out (fun h => h)
      have HL4 := HL3.out.grow (Only.drewN _ w3 nq)
      have HX4 := HX3.out.ext (Only.drewN _ w3 nq)
      have c5 := ((HEE.out.ext HL3.out.ext).ext (Only.drewN _ w3 nq)).var 5 _ (by decide) rfl
      generalize w3.drewN nq = w4 at ht4 HL4 HX4 c5 ⊢
      have s0 := (cell_of_heap ht4 0).trans (rfl : _ = some (S []))
      have s1 := (cell_of_heap ht4 1).trans (rfl : _ = some Value.nilIface)
      have f0 := free_of_heap ht4 0
      have f1 := free_of_heap ht4 1
      have hs0 : Only (fun b => b = w.heap.size + 1) w4 ((w4.setCell ⟨w.heap.size + 1, 0, none⟩ (S [])).setCell ⟨w.heap.size + 1, 1, none⟩ (errV (P 5))) := (Only.set (p := fun b => b = w.heap.size + 1) (S []) rfl).then (Only.set (p := fun b => b = w.heap.size + 1) (errV (P 5)) rfl)
      have hcf := heap_setCell_same (heap_setCell_same ht4 0 (S [])) 1 (errV (P 5))
      have HF0 := Lib.hid ((cell_of_heap hcf 0).trans (rfl : _ = some (S [])))
      have HF1 := Lib.hid ((cell_of_heap hcf 1).trans (rfl : _ = some (errV (P 5))))
      have HFA := Lib.hid (HL4.later hs0 (fun b e => by have := HLO.out; omega))
      have HFO := Lib.hid (HX4.trans hs0 (fun _ _ h => h) (fun i hi e => by omega))
      clear ht4 HL4 HX4 hs0 hcf
      go_wp2_with fail
      exact bodyPost_ret (v := .agg #[S [], errV (P 5)]) (of_results _ _ (w.heap.size + 1) _ _ rfl HF0.out HF1.out) rfl ⟨by rw [HXQ.out]; rfl, L, HFA.out, HK.out, HFO.out⟩
    | some x =>
      rw [hl] at HXQ
      simp only [hl, Option.getD_some, Option.isSome_some] at hget
      have HGET := Lib.hid hget
      clear c0 c1 c2 ho hmz hget hl
      go_wp2_with fail
      go_quiet ((go_at_call 42; exact Calls.quiet_of_same ((HGET.out _).mono fun _ _ h => ⟨h.1, h.2.symm⟩)))
      have ht4 := (Only.drewN (fun _ => False) w3 nq).heapOf HT3.out (fun h => h)
      have HL4 := HL3.out.grow (Only.drewN _ w3 nq)
      have HX4 := HX3.out.ext (Only.drewN _ w3 nq)
      generalize w3.drewN nq = w4 at ht4 HL4 HX4 ⊢
      have s0 := (cell_of_heap ht4 0).trans (rfl : _ = some (S []))
      have s1 := (cell_of_heap ht4 1).trans (rfl : _ = some Value.nilIface)
      have f0 := free_of_heap ht4 0
      have f1 := free_of_heap ht4 1
      have hs0 : Only (fun b => b = w.heap.size + 1) w4 ((w4.setCell ⟨w.heap.size + 1, 0, none⟩ (S x)).setCell ⟨w.heap.size + 1, 1, none⟩ .nilIface) := (Only.set (p := fun b => b = w.heap.size + 1) (S x) rfl).then (Only.set (p := fun b => b = w.heap.size + 1) .nilIface rfl)
      have hcf := heap_setCell_same (heap_setCell_same ht4 0 (S x)) 1 .nilIface
      have HF0 := Lib.hid ((cell_of_heap hcf 0).trans (rfl : _ = some (S x)))
      have HF1 := Lib.hid ((cell_of_heap hcf 1).trans (rfl : _ = some Value.nilIface))
      have HFA := Lib.hid (HL4.later hs0 (fun b e => by have := HLO.out; omega))
      have HFO := Lib.hid (HX4.trans hs0 (fun _ _ h => h) (fun i hi e => by omega))
      clear ht4 HL4 HX4 hs0 hcf
      go_wp2_with fail
      exact bodyPost_ret (v := .agg #[S x, .nilIface]) (of_results _ _ (w.heap.size + 1) _ _ rfl HF0.out HF1.out) rfl ⟨by rw [HXQ.out]; rfl, L, HFA.out, HK.out, HFO.out⟩
  case inl =>
    rw [hk] at HIF
    have HLR := Lib.hid hlk
    have HRO := Lib.hid hro
    have hkl := (List.getElem?_eq_some_iff.1 hlk).1
    have hk0 : ¬ (k : Int) < 0 := by omega
    have hkz : (k : Int) < (l.length : Int) := by omega
    clear hk hlk hro
    refine HIF.out.mono ?_
    rintro e w3 ⟨rfl, ho⟩
    have HB3 := Lib.hid (ho.heapOf HBB.out (fun h => h))
    have HT3 := Lib.hid (ho.heapOf HBT.out (fun h => h))
    have HL3 := Lib.hid (HL0.out.grow ho)
    have HX3 := Lib.hid (HX0.out.ext ho)
    have d1 := ho.cellOf c1 (fun h => h)
    have d2 := ho.cellOf c2 (fun h => h)
    have db := (cell_of_heap HB3.out 0).trans (rfl : _ = some (S p))
    clear c0 c1 c2 ho
    have hx4 : Ext w3 (w3.alloc (.cells #[S [], .nilIface] 155 (0, 0))).drew := (Only.alloc _ w3 _).thenDrew
    have db4 := hx4.cellOf db (fun h => h)
    have d14 := hx4.cellOf d1 (fun h => h)
    have d24 := hx4.cellOf d2 (fun h => h)
    have hlk1 := KMap.look (P := Tryz.prog) keyOk_str (HL3.out.map.later (Only.drew (fun _ => False) w3) (fun h => h)) Tryz.underlying151 Tryz.underlying9 (hmz w3.drew) p
    have hlk2 := KMap.look (P := Tryz.prog) keyOk_str (HL3.out.map.later hx4 (fun h => h)) Tryz.underlying151 Tryz.underlying9 (hmz _) p
    cases hl : L.lookup p with
    | none =>
      rw [hl] at hlk1 hlk2
      simp only [Option.isSome_none] at hlk1 hlk2
      clear hl hmz
      go_wp2_with fail
      go_region
      all_goals
        have hbz : (w3.alloc (.cells #[S [], .nilIface] 155 (0, 0))).drew.heap[w3.heap.size]? = some (.cells #[S [], .nilIface] 155 (0, 0)) := (MapKept.heap_alloc w3 (.cells #[S [], .nilIface] 155 (0, 0))).1
        have HBZ := Lib.hid hbz
        have HB4 := Lib.hid (hx4.heapOf HB3.out (fun h => h))
        have HT4 := Lib.hid (hx4.heapOf HT3.out (fun h => h))
        have HL4 := Lib.hid (HL3.out.grow hx4)
        have HX4 := Lib.hid (HX3.out.ext hx4)
        have HZZ : Hid (w.heap.size + 2 ≤ w3.heap.size) := Lib.hid (by have := lt_of_heap HT3.out; omega)
        clear db d1 d2 hlk1 hlk2 hbz
        generalize (w3.alloc (.cells #[S [], .nilIface] 155 (0, 0))).drew = w4 at HBZ HB4 HT4 HL4 HX4 db4 d14 d24 ⊢
        obtain ⟨al, cl, rfl, _, _, hcl⟩ := HRD.out
        obtain ⟨bl, ol, rfl, hcell⟩ := hcl (by intro h; rw [h] at hkl; simp at hkl)
        obtain ⟨u, hu, q0, q1, q2, q3⟩ := hcell k r HLR.out
        have g0 := HL4.out.ext.cellOf q0 (fun h => h)
        have g1 := HL4.out.ext.cellOf q1 (fun h => h)
        have g2 := HL4.out.ext.cellOf q2 (fun h => h)
        have g3 := HL4.out.ext.cellOf q3 (fun h => h)
        have HMD := Lib.hid (HMADE.out k r u w4 L HLR.out HRO.out hu HL4.out HK.out)
        have HXM : Hid (X = wMade W r) := Lib.hid (by rw [HX.out, HWP.out]; unfold wStep; rw [HRO.out])
        obtain ⟨au, cu, rfl, _, _, _⟩ := hu
        generalize r.ins.length = ln at *
        clear hcl hcell q0 q1 q2 q3 hx4 hkl
        go_wp2_with fail
        refine HMD.out.mono ?_
        rintro e w5 ⟨rfl, L5, hl5, hk5, ho5⟩
        rw [← HXM.out]
        have HB5 := Lib.hid (ho5.heapOf HB4.out (fun e => by have := HLO.out; omega))
        have HT5 := Lib.hid (ho5.heapOf HT4.out (fun e => by have := HLO.out; omega))
        have HZ5 := ho5.heapOf HBZ.out (fun e => by have := HLO.out; have := HZZ.out; omega)
        have HX5 := Lib.hid (HX4.out.then ho5)
        have HK5 := Lib.hid hk5
        have HL5 := Lib.hid hl5
        have s0 := (cell_of_heap HZ5 0).trans (rfl : _ = some (S []))
        have s1 := (cell_of_heap HZ5 1).trans (rfl : _ = some Value.nilIface)
        have f0 := free_of_heap HZ5 0
        have f1 := free_of_heap HZ5 1
        obtain ⟨ev, hev⟩ : ∃ ev, ev = errC P X.2 := ⟨_, rfl⟩
        have hte : tEnc P X = .agg #[S X.1, ev] := by rw [hev]
        have hs6 : Only (fun b => b = w3.heap.size) w5 ((w5.setCell ⟨w3.heap.size, 0, none⟩ (S X.1)).setCell ⟨w3.heap.size, 1, none⟩ ev) := (Only.set (p := fun b => b = w3.heap.size) (S X.1) rfl).then (Only.set (p := fun b => b = w3.heap.size) ev rfl)
        have hz6 := heap_setCell_same (heap_setCell_same HZ5 0 (S X.1)) 1 ev
        have ha6 := hl5.later hs6 (fun b e => by have := HLO.out; have := HZZ.out; omega)
        obtain ⟨w7, hrun, hm7, ho7, hsz7⟩ := KMap.store (P := Tryz.prog) keyOk_str (ha6.map.later (Only.drew (fun _ => False) _) (fun h => h)) Tryz.underlying151 Tryz.underlying9 p X
        have ho7' : Only (fun b => b = kb) ((w5.setCell ⟨w3.heap.size, 0, none⟩ (S X.1)).setCell ⟨w3.heap.size, 1, none⟩ ev) w7 := (Only.drew _ _).then ho7
        have HA7 := Lib.hid (ha6.stored ho7' hm7)
        have HK7 := Lib.hid (HK5.out.more HX.out)
        have HB6 := hs6.heapOf HB5.out (fun e => by have := HZZ.out; omega)
        have hz7 := ho7'.heapOf hz6 (fun e => by have := HLO.out; have := HZZ.out; omega)
        have ht7 := ho7'.heapOf (hs6.heapOf HT5.out (fun e => by have := HZZ.out; omega)) (fun e => by have := HLO.out; omega)
        have HX7 := Lib.hid ((HX5.out.trans hs6 (fun _ _ h => h) (fun i hi e => by have := HZZ.out; omega)).then ho7')
        have m0 := (cell_of_heap ((Only.drew (fun _ => False) _).heapOf ha6.cells (fun h => h)) 2).trans (rfl : _ = some (Value.map (some kb)))
        have m1 := (cell_of_heap ((Only.drew (fun _ => False) _).heapOf HB6 (fun h => h)) 0).trans (rfl : _ = some (S p))
        have m2 := (cell_of_heap ((Only.drew (fun _ => False) _).heapOf hz6 (fun h => h)) 0).trans (rfl : _ = some (S X.1))
        have m3 := (cell_of_heap ((Only.drew (fun _ => False) _).heapOf hz6 (fun h => h)) 1).trans (rfl : _ = some ev)
        have n2 := (cell_of_heap hz7 0).trans (rfl : _ = some (S X.1))
        have n3 := (cell_of_heap hz7 1).trans (rfl : _ = some ev)
        have v0 := (cell_of_heap ht7 0).trans (rfl : _ = some (S []))
        have v1 := (cell_of_heap ht7 1).trans (rfl : _ = some Value.nilIface)
        have z0 := free_of_heap ht7 0
        have z1 := free_of_heap ht7 1
        have hs8 : Only (fun b => b = w.heap.size + 1) w7 ((w7.setCell ⟨w.heap.size + 1, 0, none⟩ (S X.1)).setCell ⟨w.heap.size + 1, 1, none⟩ ev) := (Only.set (p := fun b => b = w.heap.size + 1) (S X.1) rfl).then (Only.set (p := fun b => b = w.heap.size + 1) ev rfl)
        have hcf := heap_setCell_same (heap_setCell_same ht7 0 (S X.1)) 1 ev
        have HF0 := Lib.hid ((cell_of_heap hcf 0).trans (rfl : _ = some (S X.1)))
        have HF1 := Lib.hid ((cell_of_heap hcf 1).trans (rfl : _ = some ev))
        have HFA := Lib.hid (HA7.out.later hs8 (fun b e => by have := HLO.out; omega))
        have HFO := Lib.hid (HX7.out.trans hs8 (fun _ _ h => h) (fun i hi e => by omega))
        have HTE := Lib.hid hte
        rw [hte] at hrun
        rw [hte]
        have hform : ev = .nilIface ∨ ∃ c, ev = errV (P c) := by
          rw [hev]
          cases X.2 with
          | zero => exact .inl rfl
          | succ c => exact .inr ⟨c, rfl⟩
        clear hl5 hk5 ho5 HZ5 hev hte hs6 hz6 ha6 hm7 ho7 hsz7 ho7' HB6 hz7 ht7 hs8 hcf
        rcases hform with rfl | ⟨c, rfl⟩
        all_goals
          go_wp2_with fail
          go_region
          all_goals
            go_wp2_with fail
            exact bodyPost_ret (v := .agg #[S X.1, _]) (of_results _ _ (w.heap.size + 1) _ _ rfl HF0.out HF1.out) rfl ⟨by rw [HTE.out], _, HFA.out, HK7.out, HFO.out⟩
    | some x =>
      have hxe : x = X := by rw [HK.out p x hl, ← HX.out]
      obtain ⟨ev, hev⟩ : ∃ ev, ev = errC P X.2 := ⟨_, rfl⟩
      have hte : tEnc P X = .agg #[S X.1, ev] := by rw [hev]
      rw [hl] at hlk1 hlk2
      simp only [Option.isSome_some] at hlk1 hlk2
      rw [hxe, hte] at hlk1 hlk2
      have HTE := Lib.hid hte
      have hx5 : Ext w3 (w3.alloc (.cells #[S X.1, ev] 155 (0, 0))).drew := (Only.alloc _ w3 _).thenDrew
      have hz7 : (w3.alloc (.cells #[S X.1, ev] 155 (0, 0))).drew.heap[w3.heap.size]? = some (.cells #[S X.1, ev] 155 (0, 0)) := (MapKept.heap_alloc w3 (.cells #[S X.1, ev] 155 (0, 0))).1
      have ht7 := hx5.heapOf HT3.out (fun h => h)
      have HA7 := Lib.hid (HL3.out.grow hx5)
      have HX7 := Lib.hid (HX3.out.ext hx5)
      have n2 := (cell_of_heap hz7 0).trans (rfl : _ = some (S X.1))
      have n3 := (cell_of_heap hz7 1).trans (rfl : _ = some ev)
      have v0 := (cell_of_heap ht7 0).trans (rfl : _ = some (S []))
      have v1 := (cell_of_heap ht7 1).trans (rfl : _ = some Value.nilIface)
      have z0 := free_of_heap ht7 0
      have z1 := free_of_heap ht7 1
      have n2' : (w3.alloc (.cells #[S X.1, ev] 155 (0, 0))).cell? ⟨w3.heap.size, 0, none⟩ = _ := n2
      have n3' : (w3.alloc (.cells #[S X.1, ev] 155 (0, 0))).cell? ⟨w3.heap.size, 1, none⟩ = _ := n3
      have v0' : (w3.alloc (.cells #[S X.1, ev] 155 (0, 0))).cell? ⟨w.heap.size + 1, 0, none⟩ = _ := v0
      have v1' : (w3.alloc (.cells #[S X.1, ev] 155 (0, 0))).cell? ⟨w.heap.size + 1, 1, none⟩ = _ := v1
      have z0' : (w3.alloc (.cells #[S X.1, ev] 155 (0, 0))).frozen? ⟨w.heap.size + 1, 0, none⟩ = _ := z0
      have z1' : (w3.alloc (.cells #[S X.1, ev] 155 (0, 0))).frozen? ⟨w.heap.size + 1, 1, none⟩ = _ := z1
      have hs8 : Only (fun b => b = w.heap.size + 1) (w3.alloc (.cells #[S X.1, ev] 155 (0, 0))).drew (((w3.alloc (.cells #[S X.1, ev] 155 (0, 0))).drew.setCell ⟨w.heap.size + 1, 0, none⟩ (S X.1)).setCell ⟨w.heap.size + 1, 1, none⟩ ev) := (Only.set (p := fun b => b = w.heap.size + 1) (S X.1) rfl).then (Only.set (p := fun b => b = w.heap.size + 1) ev rfl)
      have hcf := heap_setCell_same (heap_setCell_same ht7 0 (S X.1)) 1 ev
      have HF0 := Lib.hid ((cell_of_heap hcf 0).trans (rfl : _ = some (S X.1)))
      have HF1 := Lib.hid ((cell_of_heap hcf 1).trans (rfl : _ = some ev))
      have HFA := Lib.hid (HA7.out.later hs8 (fun b e => by have := HLO.out; omega))
      have HFO := Lib.hid (HX7.out.trans hs8 (fun _ _ h => h) (fun i hi e => by omega))
      have hform : ev = .nilIface ∨ ∃ c, ev = errV (P c) := by
        rw [hev]
        cases X.2 with
        | zero => exact .inl rfl
        | succ c => exact .inr ⟨c, rfl⟩
      clear hl hmz hxe hev hte hx5 hz7 ht7 hs8 hcf
      rcases hform with rfl | ⟨c, rfl⟩
      all_goals
        go_wp2_with fail
        go_region
        all_goals
          go_wp2_with fail
          exact bodyPost_ret (v := .agg #[S X.1, _]) (of_results _ _ (w.heap.size + 1) _ _ rfl HF0.out HF1.out) rfl ⟨by rw [HTE.out], _, HFA.out, HK.out, HFO.out⟩
end Go.Proofs.YtnmhaipjfpongacGreatDoor

namespace Go.Proofs.YtnmhaipjfpongacGreatDoor

open Classical in
noncomputable def reachB (l : List Rule) (outs : List B) (i : Nat) : Bool := decide (Reach (needB l) (needKs l outs) i)
open Classical in
theorem reachB_iff {l : List Rule} {outs : List B} {i : Nat} : reachB l outs i = true ↔ Reach (needB l) (needKs l outs) i := by
  unfold reachB
  exact decide_eq_true_iff
noncomputable def needL (l : List Rule) (outs : List B) : List Nat := (List.range l.length).filter (reachB l outs)
theorem mem_needL {l : List Rule} {outs : List B} {i : Nat} : i ∈ needL l outs ↔ i < l.length ∧ Reach (needB l) (needKs l outs) i := by
  unfold needL
  rw [List.mem_filter, List.mem_range, reachB_iff]
theorem needOk_eq {l : List Rule} {outs : List B} {out : List Nat} (h : NeedOk l.length (needB l) (needKs l outs) out) : out = needL l outs := by
  obtain ⟨N, rfl, hN⟩ := h
  unfold needL
  refine List.filter_congr fun i hi => ?_
  rw [Bool.eq_iff_iff, hN i (List.mem_range.1 hi), reachB_iff]
theorem needL_rise (l : List Rule) (outs : List B) : (needL l outs).Pairwise fun x y => x < y := List.pairwise_lt_range.filter _

/-- Some rules, closed under what they need. -/
structure Clo (l : List Rule) (sm : List Nat) : Prop where
  lt : ∀ i ∈ sm, i < l.length
  rise : sm.Pairwise fun x y => x < y
  clos : ∀ i ∈ sm, ∀ k, k < l.length → needB l i k = true → k ∈ sm
theorem Clo.need (l : List Rule) (outs : List B) : Clo l (needL l outs) :=
  ⟨fun _ hi => (mem_needL.1 hi).1, needL_rise l outs, fun _ hi _ hk hn => mem_needL.2 ⟨hk, .step (mem_needL.1 hi).2 hn⟩⟩

/-- All that are so stand in an order. -/
theorem order_covers {n : Nat} {nd : Nat → Nat → Bool} {is : Nat → Bool} {o : List Nat} (h : orderB n nd is = some o) {i : Nat} (hi : i < n) (his : is i = true) : i ∈ o := by
  obtain ⟨h1, h2⟩ := orderB_some h
  refine Classical.byContradiction fun hn => ?_
  have h3 : (i :: o).Nodup := List.nodup_cons.2 ⟨hn, h1.nodup⟩
  have h4 := nodup_len (b := (List.range n).filter is) h3 fun x hx => by
    rcases List.mem_cons.1 hx with rfl | hx
    · exact List.mem_filter.2 ⟨List.mem_range.2 hi, his⟩
    · exact List.mem_filter.2 ⟨List.mem_range.2 (h1.lt x hx), h1.is x hx⟩
  rw [List.length_cons, h2] at h4
  unfold manyB at h4
  omega

def ruleAt (l : List Rule) (i : Nat) : Rule := (l[i]?).getD ⟨[], [], [], []⟩
def partR (l : List Rule) (sm : List Nat) : List Rule := sm.map (ruleAt l)
theorem ruleAt_eq {l : List Rule} {i : Nat} (h : i < l.length) : l[i]? = some (ruleAt l i) := by
  unfold ruleAt
  rw [List.getElem?_eq_getElem h]
  rfl

section
variable {l : List Rule} {sm : List Nat}
theorem part_at (h : Clo l sm) {a i : Nat} (ha : sm[a]? = some i) : (partR l sm)[a]? = some (ruleAt l i) ∧ l[i]? = some (ruleAt l i) := by
  unfold partR
  rw [List.getElem?_map, ha]
  exact ⟨rfl, ruleAt_eq (h.lt i (List.mem_of_getElem? ha))⟩
theorem part_len : (partR l sm).length = sm.length := List.length_map _
theorem part_need (h : Clo l sm) {a b i k : Nat} (ha : sm[a]? = some i) (hb : sm[b]? = some k) : needB (partR l sm) a b = needB l i k := by
  unfold needB
  rw [(part_at h ha).1, (part_at h hb).1, (part_at h ha).2, (part_at h hb).2]
theorem clo_nodup (h : Clo l sm) : sm.Nodup := h.rise.imp fun h => Nat.ne_of_lt h
theorem part_right (h : Clo l sm) (hr : RightS l) : RightS (partR l sm) := by
  have hn := clo_nodup h
  refine ⟨?_, fun r hr' => ?_, ?_⟩
  · rw [part_len]
    have := nodup_len (b := List.range l.length) hn fun x hx => List.mem_range.2 (h.lt x hx)
    rw [List.length_range] at this
    have := hr.1
    omega
  · obtain ⟨a, ha⟩ := List.getElem?_of_mem hr'
    unfold partR at ha
    rw [List.getElem?_map] at ha
    obtain ⟨i, hi, rfl⟩ := Option.map_eq_some_iff.1 ha
    exact hr.2.1 _ (List.mem_of_getElem? (ruleAt_eq (h.lt i (List.mem_of_getElem? hi))))
  · refine List.pairwise_iff_getElem.2 fun a b ha hb hab e => ?_
    rw [List.length_map, part_len] at ha hb
    have h1 : sm[a]? = some sm[a] := List.getElem?_eq_getElem ha
    have h2 : sm[b]? = some sm[b] := List.getElem?_eq_getElem hb
    simp only [List.getElem_map, partR] at e
    have := nodup_inj hr.2.2 (i := sm[a]) (j := sm[b]) (x := (ruleAt l sm[a]).out) (by rw [List.getElem?_map, (part_at h h1).2]; rfl) (by rw [List.getElem?_map, (part_at h h2).2, Option.map_some, e])
    have := nodup_inj hn (i := a) (j := b) (x := sm[a]) h1 (by rw [h2, this])
    omega
theorem part_idx (_h : Clo l sm) {i : Nat} (hi : i ∈ sm) : ∃ a, sm[a]? = some i ∧ a < (partR l sm).length := by
  obtain ⟨a, ha⟩ := List.getElem?_of_mem hi
  exact ⟨a, ha, by rw [part_len]; exact (List.getElem?_eq_some_iff.1 ha).1⟩
theorem part_sm {a b : Nat} (hn : needB (partR l sm) a b = true) : ∃ i k, sm[a]? = some i ∧ sm[b]? = some k := by
  obtain ⟨h1, h2⟩ := needB_lt hn
  rw [part_len] at h1 h2
  exact ⟨_, _, List.getElem?_eq_getElem h1, List.getElem?_eq_getElem h2⟩
theorem way_up (h : Clo l sm) : ∀ {s a b i k : Nat}, sm[a]? = some i → sm[b]? = some k → Way (needB (partR l sm)) b s a → Way (needB l) k s i
  | 0, a, b, i, k, ha, hb, e => by
    have : a = b := e
    subst this
    rw [ha] at hb
    exact Option.some.inj hb
  | s + 1, a, b, i, k, ha, hb, ⟨c, hn, hw⟩ => by
    obtain ⟨_, j, _, hc⟩ := part_sm hn
    exact ⟨j, by rw [← part_need h ha hc]; exact hn, way_up h hc hb hw⟩
theorem way_down (h : Clo l sm) : ∀ {s a b i k : Nat}, sm[a]? = some i → sm[b]? = some k → Way (needB l) k s i → Way (needB (partR l sm)) b s a
  | 0, a, b, i, k, ha, hb, e => nodup_inj (clo_nodup h) ha (by rw [hb]; exact congrArg some (show k = i from (show i = k from e).symm))
  | s + 1, a, b, i, k, ha, hb, ⟨j, hn, hw⟩ => by
    have hj := h.clos i (List.mem_of_getElem? ha) j (needB_lt hn).2 hn
    obtain ⟨c, hc, _⟩ := part_idx h hj
    exact ⟨c, by rw [part_need h ha hc]; exact hn, way_down h hc hb hw⟩
theorem needB_r (l : List Rule) : ∀ i j, needB l i j = true → j < l.length := fun _ _ h => (needB_lt h).2

/-- An order of those that are needed, and one of the part alone. -/
theorem part_order (h : Clo l sm) : (partB l sm).isSome = (orderB (partR l sm).length (needB (partR l sm)) fun i => (List.range (partR l sm).length).contains i).isSome := by
  cases h1 : partB l sm with
  | some o =>
    cases h2 : orderB (partR l sm).length (needB (partR l sm)) (fun i => (List.range (partR l sm).length).contains i) with
    | some o2 => rfl
    | none =>
      exfalso
      obtain ⟨a, s, ha, _, hs, hw⟩ := orderB_circle h2 (fun i j _ _ hn => ⟨(needB_lt hn).2, by simpa using (needB_lt hn).2⟩)
      rw [part_len] at ha
      have hat : sm[a]? = some sm[a] := List.getElem?_eq_getElem ha
      have hm : sm[a] ∈ sm := List.getElem_mem ha
      exact (orderB_some h1).1.no_circle (needB_r l) (order_covers h1 (h.lt _ hm) (by simp)) hs (way_up h hat hat hw)
  | none =>
    cases h2 : orderB (partR l sm).length (needB (partR l sm)) (fun i => (List.range (partR l sm).length).contains i) with
    | none => rfl
    | some o2 =>
      exfalso
      obtain ⟨i, s, hi, his, hs, hw⟩ := orderB_circle h1 (fun i j hi his hn => ⟨(needB_lt hn).2, by
        have := h.clos i (by simpa using his) j (needB_lt hn).2 hn
        simpa using this⟩)
      have hm : i ∈ sm := by simpa using his
      obtain ⟨a, ha, hlt⟩ := part_idx h hm
      exact (orderB_some h2).1.no_circle (needB_r _) (order_covers h2 hlt (by simpa using hlt)) hs (way_down h ha ha hw)

theorem find_outI {l : List Rule} (hn : (l.map Rule.out).Nodup) {i : Nat} {r : Rule} (h : l[i]? = some r) : l.findIdx? (fun q => q.out == r.out) = some i := by
  obtain ⟨h1, h2⟩ := List.getElem?_eq_some_iff.1 h
  rw [List.findIdx?_eq_some_iff_getElem]
  refine ⟨h1, by rw [h2]; exact beq_iff_eq.2 rfl, fun j hj => ?_⟩
  rw [Bool.not_eq_true]
  refine beq_eq_false_iff_ne.2 fun e => ?_
  have := nodup_inj hn (i := j) (j := i) (x := r.out) (by rw [List.getElem?_map, List.getElem?_eq_getElem (by omega), Option.map_some, e]) (by rw [List.getElem?_map, h]; rfl)
  omega
theorem rule_outI {l : List Rule} (hn : (l.map Rule.out).Nodup) {i : Nat} {r : Rule} (h : l[i]? = some r) : ruleOf l r.out = some r := by
  obtain ⟨r', h1, _, h3⟩ := findI_some (find_outI hn h)
  rw [h] at h1
  cases h1
  exact h3
theorem madeI_at {l : List Rule} (hn : (l.map Rule.out).Nodup) {i : Nat} {r : Rule} (h : l[i]? = some r) : madeI l r.out = i := by
  unfold madeI idx
  rw [find_outI hn h]
  exact Int.toNat_natCast i
theorem made_find {l : List Rule} {s : B} (h : madeB l s = true) : ∃ (i : Nat) (r : Rule), l[i]? = some r ∧ r.out = s := by
  unfold madeB at h
  obtain ⟨r, hr, e⟩ := List.any_eq_true.1 h
  obtain ⟨i, hi⟩ := List.getElem?_of_mem hr
  exact ⟨i, r, hi, beq_iff_eq.1 e⟩
theorem made_out {l : List Rule} {r : Rule} (h : r ∈ l) : madeB l r.out = true := List.any_eq_true.2 ⟨r, h, beq_iff_eq.2 rfl⟩
theorem ruleOf_none {l : List Rule} {s : B} (h : madeB l s = false) : ruleOf l s = none := by
  unfold ruleOf
  unfold madeB at h
  rw [List.any_eq_false] at h
  exact List.find?_eq_none.2 fun x hx => h x hx

/-- The rules of a part that is needed are all needed of it. -/
theorem need_part {outs : List B} (hr : RightS l) (hs : sm = needL l outs) (ho : ∀ s ∈ outs, madeB l s = true) : needL (partR l sm) outs = List.range (partR l sm).length := by
  have h : Clo l sm := hs ▸ Clo.need l outs
  have key : ∀ i, Reach (needB l) (needKs l outs) i → ∀ a, sm[a]? = some i → Reach (needB (partR l sm)) (needKs (partR l sm) outs) a := by
    intro i hi
    induction hi with
    | @root k hk =>
      intro a ha
      obtain ⟨s, hs2, rfl⟩ := List.mem_map.1 hk
      obtain ⟨i, r, hir, rfl⟩ := made_find (ho s hs2)
      rw [madeI_at hr.2.2 hir] at ha
      have hp := (part_at h ha).1
      have : ruleAt l i = r := by unfold ruleAt; rw [hir]; rfl
      rw [this] at hp
      exact .root (List.mem_map.2 ⟨r.out, hs2, madeI_at (part_right h hr).2.2 hp⟩)
    | @step i j hi hn ih =>
      intro b hb
      have him : i ∈ sm := by rw [hs]; exact mem_needL.2 ⟨(needB_lt hn).1, hi⟩
      obtain ⟨a, ha, _⟩ := part_idx h him
      exact .step (ih a ha) (by rw [part_need h ha hb]; exact hn)
  unfold needL
  rw [List.filter_eq_self]
  intro a ha
  rw [List.mem_range, part_len] at ha
  rw [reachB_iff]
  have hm : sm[a] ∈ needL l outs := hs ▸ List.getElem_mem ha
  exact key _ (mem_needL.1 hm).2 a (List.getElem?_eq_getElem ha)

/-- A place that is reached: a rule's own, or an input of one. -/
def Met (l : List Rule) (sm : List Nat) (p : B) : Prop := ∃ k ∈ sm, (ruleAt l k).out = p ∨ p ∈ (ruleAt l k).ins

theorem need_of {i k : Nat} (hi : i < l.length) (hk : k < l.length) (h : (ruleAt l k).out ∈ (ruleAt l i).ins) : needB l i k = true := by
  unfold needB
  rw [ruleAt_eq hi, ruleAt_eq hk]
  simpa using h

theorem want_part (h : Clo l sm) (hr : RightS l) {o o2 : List Nat} {is is2 : Nat → Bool} (ho : Ordered l.length (needB l) is o) (hc : ∀ i ∈ sm, i ∈ o) (ho2 : Ordered (partR l sm).length (needB (partR l sm)) is2 o2) (hc2 : ∀ a, a < (partR l sm).length → a ∈ o2)
    {T U : FL} (hT : ∀ p s, T.lookup p = some s → s.length ≤ 2000) (hU : ∀ p s, U.lookup p = some s → s.length ≤ 2000)
    (hTU : ∀ i ∈ sm, ∀ p ∈ (ruleAt l i).ins, madeB (partR l sm) p = false → U.lookup p = T.lookup p) :
    ∀ (n : Nat) (p : B), Met l sm p → rankO l o p ≤ n → wantW (partR l sm) U p = wantW l T p := by
  obtain ⟨r1, r2⟩ := ranked_order ho
  obtain ⟨q1, q2⟩ := ranked_order ho2
  have A := asks_want r1 r2 hT
  have A2 := asks_want q1 q2 hU
  have hrp := part_right h hr
  -- what is made, is made by a rule that is needed
  have mk : ∀ p, Met l sm p → ∀ k r, l[k]? = some r → r.out = p → k ∈ sm := by
    rintro p ⟨i, hi, hp⟩ k r hk he
    have hrk : ruleAt l k = r := by unfold ruleAt; rw [hk]; rfl
    rcases hp with hp | hp
    · have := nodup_inj hr.2.2 (i := i) (j := k) (x := p) (by rw [List.getElem?_map, ruleAt_eq (h.lt i hi), Option.map_some, hp]) (by rw [List.getElem?_map, hk, Option.map_some, he])
      rw [← this]; exact hi
    · have hkl := (List.getElem?_eq_some_iff.1 hk).1
      exact h.clos i hi k hkl (need_of (h.lt i hi) hkl (by rw [hrk, he]; exact hp))
  have inO1 : ∀ p, Met l sm p → InO l o p := fun p hp k hk => by
    obtain ⟨r, h1, h2, _⟩ := findI_some hk
    exact hc k (mk p hp k r h1 h2)
  have inO2 : ∀ p, InO (partR l sm) o2 p := fun p k hk => by
    obtain ⟨r, h1, _, _⟩ := findI_some hk
    exact hc2 k (List.getElem?_eq_some_iff.1 h1).1
  intro n
  induction n with
  | zero =>
    intro p hp hz
    have hno : l.findIdx? (fun r => r.out == p) = none := by
      unfold rankO at hz
      cases hf : l.findIdx? (fun r => r.out == p) with
      | none => rfl
      | some k => rw [hf] at hz; simp at hz
    have hm1 : madeB l p = false := by
      cases hm : madeB l p with
      | false => rfl
      | true =>
        obtain ⟨i, r, h1, h2⟩ := made_find hm
        rw [List.findIdx?_eq_none_iff] at hno
        have := hno r (List.mem_of_getElem? h1)
        rw [h2] at this
        simp at this
    have hm2 : madeB (partR l sm) p = false := by
      cases hm : madeB (partR l sm) p with
      | false => rfl
      | true =>
        obtain ⟨a, r, h1, h2⟩ := made_find hm
        have ha := (List.getElem?_eq_some_iff.1 h1).1
        rw [part_len] at ha
        have hp2 := part_at h (List.getElem?_eq_getElem ha)
        rw [hp2.1] at h1
        cases h1
        rw [← h2, made_out (List.mem_of_getElem? hp2.2)] at hm1
        cases hm1
    rw [A.step p (inO1 p hp), A2.step p (inO2 p)]
    unfold wStep
    rw [ruleOf_none hm1, ruleOf_none hm2]
    simp only [wLeaf]
    obtain ⟨i, hi, hpi⟩ := hp
    rcases hpi with hpi | hpi
    · rw [← hpi, made_out (List.mem_of_getElem? (ruleAt_eq (h.lt i hi)))] at hm1
      cases hm1
    · rw [hTU i hi p hpi hm2]
  | succ n ih =>
    intro p hp hn
    cases hm1 : madeB l p with
    | false =>
      refine ih p hp ?_
      unfold rankO
      have : l.findIdx? (fun r => r.out == p) = none := by
        rw [List.findIdx?_eq_none_iff]
        unfold madeB at hm1
        rw [List.any_eq_false] at hm1
        intro x hx
        simpa using hm1 x hx
      rw [this]
      exact Nat.zero_le _
    | true =>
      obtain ⟨k, r, hk, he⟩ := made_find hm1
      have hks := mk p hp k r hk he
      have hrk : ruleAt l k = r := by unfold ruleAt; rw [hk]; rfl
      obtain ⟨a, ha, _⟩ := part_idx h hks
      have hpa := (part_at h ha).1
      rw [hrk] at hpa
      have e1 : ruleOf l p = some r := by rw [← he]; exact rule_outI hr.2.2 hk
      have e2 : ruleOf (partR l sm) p = some r := by rw [← he]; exact rule_outI hrp.2.2 hpa
      rw [A.step p (inO1 p hp), A2.step p (inO2 p)]
      unfold wStep
      rw [e1, e2]
      refine wMade_congr fun q hq => ?_
      obtain ⟨_, h2⟩ := A.down p (inO1 p hp) r e1 q hq
      exact ih q ⟨k, hks, .inr (by rw [hrk]; exact hq)⟩ (by omega)
end

/-! ### want.Of in plain words -/
noncomputable def wantRes (l : List Rule) (T : FL) (out : B) : B × (Nat × Int) :=
  if (sheetFault l).1 ≠ 0 then ([], sheetFault l)
  else if madeB l out = false then ([], (6, -1))
  else match partB l (needL l [out]) with
    | none => ([], (9, -1))
    | some _ => ((wantW l T out).1, ((wantW l T out).2, -1))

theorem compact_mem {l : List B} : ∀ (i : Nat), i ≤ l.length → ∀ (j : Nat) (x : B), j < i → l[j]? = some x → x ∈ keptB l i
  | 0, _, _, _, h, _ => by omega
  | i + 1, hi, j, x, hj, hx => by
    obtain ⟨y, hy⟩ : ∃ y, l[i]? = some y := ⟨_, List.getElem?_eq_getElem (by omega)⟩
    have ih := compact_mem (l := l) i (by omega)
    have new : keptB l (i + 1) = keptB l i ++ [y] → x ∈ keptB l (i + 1) := fun e => by
      rw [e]
      rcases Nat.lt_succ_iff_lt_or_eq.1 hj with h | rfl
      · exact List.mem_append_left _ (ih j x h hx)
      · rw [hx] at hy; cases hy
        exact List.mem_append_right _ (.head _)
    cases i with
    | zero => exact new (kept_new hy fun k z e _ => by omega)
    | succ k =>
      obtain ⟨z, hz⟩ : ∃ z, l[k]? = some z := ⟨_, List.getElem?_eq_getElem (by omega)⟩
      by_cases e : y = z
      · subst e
        rw [kept_old hy hz]
        rcases Nat.lt_succ_iff_lt_or_eq.1 hj with h | rfl
        · exact ih j x h hx
        · rw [hx] at hy; cases hy
          exact ih k x (Nat.lt_succ_self _) hz
      · exact new (kept_new hy fun k' z' e' hz' => by
          have : k' = k := by omega
          subst this
          rw [hz] at hz'; cases hz'
          exact e)
theorem leaves_mem {l : List Rule} {p : B} (h : p ∈ (l.flatMap Rule.ins).filter (leafB l)) : p ∈ leavesB l := by
  have h1 : p ∈ sortB ((l.flatMap Rule.ins).filter (leafB l)) := (List.mergeSort_perm _ _).symm.subset h
  obtain ⟨j, hj⟩ := List.getElem?_of_mem h1
  unfold leavesB
  rw [← kept_all]
  exact compact_mem _ (Nat.le_refl _) j p (List.getElem?_eq_some_iff.1 hj).1 hj

theorem want_leaves {l : List Rule} {T U : FL} {out : B} (hr : RightS l) (ho : madeB l out = true) (hT : ∀ p s, T.lookup p = some s → s.length ≤ 2000) (hU : ∀ p s, U.lookup p = some s → s.length ≤ 2000)
    (hTU : ∀ p ∈ leavesB (partR l (needL l [out])), U.lookup p = T.lookup p) :
    wantRes (partR l (needL l [out])) U out = wantRes l T out := by
  have h := Clo.need l [out]
  have hrp := part_right h hr
  have hnp := need_part hr (outs := [out]) rfl (fun s hs => by rw [List.mem_singleton.1 hs]; exact ho)
  have hpo := part_order h
  obtain ⟨i, r, hir, hri⟩ := made_find ho
  have him : i ∈ needL l [out] := mem_needL.2 ⟨(List.getElem?_eq_some_iff.1 hir).1, .root (by
    unfold needKs
    rw [List.map_cons, List.map_nil, ← hri, madeI_at hr.2.2 hir]
    exact .head _)⟩
  have hra : ruleAt l i = r := by unfold ruleAt; rw [hir]; rfl
  obtain ⟨a, ha, _⟩ := part_idx h him
  have hmp : madeB (partR l (needL l [out])) out = true := by
    have := made_out (List.mem_of_getElem? (part_at h ha).1)
    rw [hra, hri] at this
    exact this
  unfold wantRes
  rw [if_neg (show ¬ (sheetFault (partR l (needL l [out]))).1 ≠ 0 by rw [sheet_ok.2 hrp]; simp), if_neg (show ¬ (sheetFault l).1 ≠ 0 by rw [sheet_ok.2 hr]; simp), if_neg (show ¬ madeB (partR l (needL l [out])) out = false by rw [hmp]; simp), if_neg (show ¬ madeB l out = false by rw [ho]; simp), hnp]
  have e2 : partB (partR l (needL l [out])) (List.range (partR l (needL l [out])).length) = orderB (partR l (needL l [out])).length (needB (partR l (needL l [out]))) fun i => (List.range (partR l (needL l [out])).length).contains i := rfl
  rw [← e2] at hpo
  cases h1 : partB l (needL l [out]) with
  | none =>
    rw [h1] at hpo
    cases h2 : partB (partR l (needL l [out])) (List.range (partR l (needL l [out])).length) with
    | none => rfl
    | some o2 => rw [h2] at hpo; cases hpo
  | some o =>
    rw [h1] at hpo
    cases h2 : partB (partR l (needL l [out])) (List.range (partR l (needL l [out])).length) with
    | none => rw [h2] at hpo; cases hpo
    | some o2 =>
      simp only
      have hw := want_part h hr (orderB_some h1).1 (fun i hi => order_covers h1 (h.lt i hi) (by simpa using hi)) (orderB_some h2).1 (fun b hb => order_covers h2 hb (by simpa using hb)) hT hU (fun k hk p hp hmd => hTU p (leaves_mem (List.mem_filter.2 ⟨List.mem_flatMap.2 ⟨ruleAt l k, List.mem_map.2 ⟨k, hk, rfl⟩, hp⟩, by unfold leafB; rw [hmd]; rfl⟩)))
        _ out ⟨i, him, .inl (by rw [hra]; exact hri)⟩ (Nat.le_refl _)
      rw [hw]
end Go.Proofs.YtnmhaipjfpongacGreatDoor

namespace Go.Proofs.YtnmhaipjfpongacGreatDoor
open Go.ChangeShapes Go.WideShapes Go.ChangeAt Go.RowKit

theorem of_any (w0 : World) (P : Nat → Addr) (ab tb tmb kb : Nat) (lv : Value) (l : List Rule) (T : FL) (W : B → Tld) (D : B → Prop) (rk : B → Nat) (hS : Asks l T W D rk) (hA : ActVars w0 P) (hE : Errs w0 P [5])
    (hl : RdR w0 lv l) (hw : ∀ r ∈ l, r.ins.length ≤ 12 ∧ r.word.length ≤ 1000) (ht : TreeAt w0 tb tmb T) :
    ∀ (n : Nat) (p : B), D p → rk p < n → ∀ w L, AskAt w0 w P ab tb kb lv L → Knows W L → Calls Tryz.prog 95 #[.pointer (some ⟨ab, 0, none⟩), S p] w (OfPost w0 P ab tb kb lv W (W p) w)
  | 0, _, _, h => by omega
  | n + 1, p, hp, hr => fun w L h1 h2 => of_step w0 P ab tb tmb kb lv l T W n D rk hS hA hE hl hw ht (fun q hq hrq => of_any w0 P ab tb tmb kb lv l T W D rk hS hA hE hl hw ht n q hq hrq) p hp hr w L h1 h2

theorem ErrAt.errC (w : World) (P : Nat → Addr) (c : Nat) : ErrAt w P (c, -1) (errC P c) := by
  cases c with
  | zero => exact ErrAt.nil _ _ _
  | succ c => exact .inr (.inl ⟨by simp, rfl, rfl⟩)

def RetWant (P : Nat → Addr) (x : B × (Nat × Int)) (w : World) (e : Ending) (w' : World) : Prop := ∃ ev, e = .returned (.tuple #[S x.1, ev]) ∧ ErrAt w' P x.2 ev ∧ Ext w w'

theorem need_one {l : List Rule} {out : B} (h : RightS l) (_hm : madeB l out = true) {k : Nat} (hk : l.findIdx? (fun r => r.out == out) = some k) : k ∈ needL l [out] := by
  obtain ⟨r, h1, h2, _⟩ := findI_some hk
  refine mem_needL.2 ⟨(List.getElem?_eq_some_iff.1 h1).1, .root ?_⟩
  unfold needKs
  rw [List.map_cons, List.map_nil, ← h2, madeI_at h.2.2 h1]
  exact .head _

theorem lit_rd (w : World) (out : B) : Rd S (w.alloc (.cells #[S out] 9 (0, 0))) (.slice (some ⟨w.heap.size, 0, none⟩) 1 1) [out] :=
  ⟨_, 1, rfl, Nat.le_refl _, by decide, fun _ => ⟨_, 0, rfl, fun i x hx => by
    have hz := (MapKept.heap_alloc w (.cells #[S out] 9 (0, 0))).1
    obtain ⟨rfl, hx2⟩ : i = 0 ∧ x = out := by
      rcases i with _ | i
      · simp at hx; exact ⟨rfl, hx.symm⟩
      · simp at hx
    subst hx2
    exact cell_of_heap hz 0⟩⟩

set_option maxRecDepth 100000 in
set_option maxHeartbeats 8000000 in
theorem wantOf_any (w : World) (P : Nat → Addr) (tb tmb : Nat) (T : FL) (v : Value) (l : List Rule) (out : B) (ht : TreeAt w tb tmb T) (hT : ∀ p s, T.lookup p = some s → s.length ≤ 2000) (hv : RdR w v l) (hs : ∀ r ∈ l, RuleSm 900000 r) (hw : ∀ r ∈ l, r.ins.length ≤ 12 ∧ r.word.length ≤ 1000) (hV : PV w P [1, 2, 3, 4, 5, 6, 8, 9]) :
    Calls Tryz.prog 18 #[.pointer (some ⟨tb, 0, none⟩), v, S out] w (RetWant P (wantRes l T out) w) := by
  have HSH := Lib.hid (sheet_any w P l v hv hs (hV.sub (by decide)))
  have HRD := Lib.hid hv
  have HVV := Lib.hid hV
  have HT := Lib.hid ht
  have HTB := Lib.hid hT
  have HSM := Lib.hid hs
  have HW := Lib.hid hw
  obtain ⟨a, cap, rfl, _, _, _⟩ := hv
  obtain ⟨X, hX⟩ : ∃ X, X = wantRes l T out := ⟨_, rfl⟩
  rw [← hX]
  unfold wantRes at hX
  clear ht hT hs hw hV
  by_cases h0 : (sheetFault l).1 = 0
  · rw [if_neg (by simpa using h0)] at hX
    have HR := Lib.hid (sheet_ok.1 h0)
    have HN0 := Lib.hid h0
    have HX := Lib.hid hX
    clear h0 hX
    go_enter Tryz.func18, Tryz.ntmps18
    go_wp2_with fail
    refine HSH.out.mono ?_
    rintro e w1 ⟨ev, rfl, he, ho⟩
    obtain rfl := he.zero HN0.out
    have HX1 := Lib.hid ho
    have HND := Lib.hid (graphNeeds_any (w1.alloc (.cells #[S out] 9 (0, 0))) P l [out] (.slice a l.length cap) (.slice (some ⟨w1.heap.size, 0, none⟩) 1 1) (HRD.out.ext (ho.thenAlloc _)) (lit_rd w1 out) (by simp) HSM.out ((HVV.out.ext (ho.thenAlloc _)).sub (by decide)))
    clear he ho
    go_wp2_with fail
    refine HND.out.mono ?_
    rintro e w2 ⟨v2, ev, sm, rfl, hrow, he, ho, hcase⟩
    have HX2 := Lib.hid ((HX1.out.thenAlloc _).then ho)
    have hnf : needFault l [out] = if madeB l out = true then (0, -1) else (6, 0) := by
      unfold needFault
      rw [if_neg (by rw [HN0.out]; simp)]
      unfold badOf
      cases hm : madeB l out <;> simp [List.findIdx?_cons, hm]
    cases hm : madeB l out with
    | false =>
      rw [hm] at hnf
      have hX := HX.out
      rw [if_pos hm] at hX
      subst hX
      rw [if_neg (by decide)] at hnf
      obtain ⟨t, p, rfl⟩ := he.some (by rw [hnf]; decide)
      obtain ⟨a2, c2, rfl, _, _, _⟩ := hrow.rd
      have c0 := (HVV.out.errs.ext HX2.out).var 5 _ (by decide) rfl
      clear hrow he ho hcase hnf hm HX
      go_wp2_with fail
      go_quiet (fail)
      go_wp2_with fail
      go_ret2
      exact ⟨_, rfl, .inr (.inl ⟨by decide, rfl, rfl⟩), HX2.out.thenDrewN _⟩
    | true =>
      rw [hm, if_pos rfl] at hnf
      have hX := HX.out
      rw [if_neg (by rw [hm]; decide)] at hX
      have hsm : sm = needL l [out] := by
        rcases hcase with ⟨h, _⟩ | ⟨_, h⟩
        · rw [hnf] at h; exact absurd rfl h
        · exact needOk_eq h
      obtain rfl := he.zero (by rw [hnf])
      have HMD := Lib.hid hm
      have HROW := Lib.hid hrow
      have HSMQ := Lib.hid hsm
      have HPT := Lib.hid (graphPart_any w2 P l (.slice a l.length cap) v2 sm (HRD.out.ext HX2.out) HR.out (fun r hr => (HSM.out r hr).many) hrow.rd ((HVV.out.ext HX2.out).errs.sub (by decide)))
      rw [← hsm] at hX
      have HX := Lib.hid hX
      obtain ⟨a2, c2, rfl, _, _, _⟩ := hrow.rd
      clear hrow he ho hcase hnf hm hsm hX
      go_wp2_with fail
      refine HPT.out.mono ?_
      rintro e w3 ⟨v3, ev, rfl, hrow, he, ho⟩
      have HX3 := Lib.hid (HX2.out.then ho)
      have HEE := Lib.hid he
      obtain ⟨a3, c3, rfl, _, _, _⟩ := hrow.rd
      clear hrow he ho
      cases hp : partB l sm with
      | none =>
        have hX := HX.out
        rw [hp] at hX
        have hX2 : X = ([], (9, -1)) := hX
        subst hX2
        have hf : partFault l sm = (9, -1) := by unfold partFault; rw [hp]; rfl
        rw [hf] at HEE
        obtain ⟨t, p, rfl⟩ := HEE.out.some (by decide)
        clear hX hf hp HX
        go_wp2_with fail
        go_ret2
        exact ⟨_, rfl, HEE.out, HX3.out⟩
      | some o =>
        have hX := HX.out
        rw [hp] at hX
        have hX2 : X = ((wantW l T out).1, ((wantW l T out).2, -1)) := hX
        subst hX2
        have hf : partFault l sm = (0, -1) := by unfold partFault; rw [hp]; rfl
        rw [hf] at HEE
        obtain rfl := HEE.out.zero rfl
        obtain ⟨r1, r2⟩ := ranked_order (orderB_some hp).1
        have hin : InO l o out := fun k hk => by
          have h1 := need_one HR.out HMD.out hk
          exact order_covers hp (mem_needL.1 h1).1 (by rw [HSMQ.out]; simpa using h1)
        have hmm := @run_makeMap Tryz.prog
        have HOF := Lib.hid (fun (w5 : World) (ab kb : Nat) (L : List (B × Tld)) (h1 : AskAt w3 w5 P ab tb kb (.slice a l.length cap) L) (h2 : Knows (wantW l T) L) =>
          of_any w3 P ab tb tmb kb (.slice a l.length cap) l T (wantW l T) (InO l o) (rankO l o) (asks_want r1 r2 HTB.out) ((HVV.out.ext HX3.out).act (by decide)) ((HVV.out.ext HX3.out).errs.sub (by decide)) (HRD.out.ext HX3.out) HW.out (HT.out.ext HX3.out) (l.length + 1) out hin (Nat.lt_succ_of_le (r2 out hin)) w5 L h1 h2)
        have HAS : Hid (AskAt w3 ((w3.alloc (.map #[] 0)).alloc (.cells #[.pointer (some ⟨tb, 0, none⟩), .slice a l.length cap, .map (some w3.heap.size)] 153 (0, 0))) P (w3.heap.size + 1) tb w3.heap.size (.slice a l.length cap) []) := Lib.hid (by
          refine ⟨(Only.alloc _ _ _).thenAlloc _, ?_, (KMap.made w3 .string S (tEnc P)).later (Only.alloc (fun _ => False) _ _) (fun h => h), ⟨Nat.le_succ _, Nat.le_refl _, Nat.succ_ne_self _⟩⟩
          simpa using (MapKept.heap_alloc (w3.alloc (.map #[] 0)) (.cells #[.pointer (some ⟨tb, 0, none⟩), .slice a l.length cap, .map (some w3.heap.size)] 153 (0, 0))).1)
        have HCL := Lib.hid (HOF.out _ _ _ _ HAS.out (fun p x h => by cases h))
        generalize wantW l T out = Y at *
        obtain ⟨y1, y2⟩ := Y
        clear hX hf hp HX r1 r2 hin HOF
        go_wp2_with fail
        refine HCL.out.mono ?_
        rintro e w6 ⟨rfl, L6, ha6, hk6, ho6⟩
        have HX6 := Lib.hid (HX3.out.then ha6.ext)
        obtain ⟨ev, hev⟩ : ∃ ev, ev = errC P y2 := ⟨_, rfl⟩
        have hte : tEnc P (y1, y2) = .agg #[S y1, ev] := by rw [hev]
        have HEV := Lib.hid (fun w : World => by have h := ErrAt.errC w P y2; rw [← hev] at h; exact h)
        have hz7 : (w6.alloc (.cells #[S y1, ev] 155 (0, 0))).heap[w6.heap.size]? = some (.cells #[S y1, ev] 155 (0, 0)) := (MapKept.heap_alloc w6 (.cells #[S y1, ev] 155 (0, 0))).1
        have n0 : (w6.alloc (.cells #[S y1, ev] 155 (0, 0))).cell? ⟨w6.heap.size, 0, none⟩ = some (S y1) := (cell_of_heap hz7 0).trans rfl
        have n1 : (w6.alloc (.cells #[S y1, ev] 155 (0, 0))).cell? ⟨w6.heap.size, 1, none⟩ = some ev := (cell_of_heap hz7 1).trans rfl
        rw [hte]
        have hform : ev = .nilIface ∨ ∃ c, ev = errV (P c) := by
          rw [hev]
          cases y2 with
          | zero => exact .inl rfl
          | succ c => exact .inr ⟨c, rfl⟩
        have HX7 := Lib.hid (HX6.out.thenAlloc (.cells #[S y1, ev] 155 (0, 0)))
        clear hz7 hev hte ha6 hk6 ho6
        rcases hform with rfl | ⟨c, rfl⟩
        all_goals
          go_wp2_with fail
          go_quiet (fail)
          go_wp2_with fail
          go_ret2
          exact ⟨_, rfl, HEV.out _, HX7.out.thenDrewN _⟩
  · have hX2 : X = ([], sheetFault l) := by rw [if_pos h0] at hX; exact hX
    subst hX2
    have HN0 := Lib.hid h0
    clear hX h0
    go_enter Tryz.func18, Tryz.ntmps18
    go_wp2_with fail
    refine HSH.out.mono ?_
    rintro e w1 ⟨ev, rfl, he, ho⟩
    obtain ⟨t, p, rfl⟩ := he.some HN0.out
    have HX1 := Lib.hid ho
    have HEE := Lib.hid he
    clear he ho
    go_wp2_with fail
    go_ret2
    exact ⟨_, rfl, HEE.out, HX1.out⟩
end Go.Proofs.YtnmhaipjfpongacGreatDoor

namespace Go.Proofs.YtnmhaipjfpongacGreatDoor
open Go.ChangeShapes Go.WideShapes Go.ChangeAt Go.RowKit

def RetLF (fs : FL) (w : World) (e : Ending) (w' : World) : Prop := ∃ r : Bool, e = .returned (.bool r) ∧ (r = false → fs.length ≤ 30 ∧ ∀ q ∈ fs, q.1.length ≤ 100) ∧ w = w'
def treeOfF (fs : FL) : FL := fs.foldl (fun L q => putT L q.1 q.2) []
theorem treeOfF_step {fs : FL} {j : Nat} {q : B × B} (h : fs[j]? = some q) : treeOfF (fs.take (j + 1)) = putT (treeOfF (fs.take j)) q.1 q.2 := by
  unfold treeOfF
  rw [List.take_add_one, h, Option.toList_some, List.foldl_append]
  rfl
/-- What files can be: a right tree, its paths short. -/
structure FTree (L : FL) : Prop where
  fits : Fits L
  lens : ∀ q ∈ L, q.1.length ≤ 1000
theorem FTree.nil : FTree [] := ⟨Fits.nil, by simp⟩
theorem FTree.put {L : FL} (h : FTree L) (p x : B) (hp : p.length ≤ 1000) : FTree (putT L p x) := ⟨h.fits.put p x, lens_put h.fits.rising h.lens p x hp⟩
theorem FTree.bytes {L : FL} (h : FTree L) : ∀ p s, L.lookup p = some s → s.length ≤ 2000 := fun _ _ hl => h.fits.bytes _ (mem_of_lookup hl)
theorem ftree_of {fs : FL} (h : ∀ q ∈ fs, q.1.length ≤ 100) : ∀ j, FTree (treeOfF (fs.take j))
  | 0 => FTree.nil
  | j + 1 => by
    cases hq : fs[j]? with
    | none =>
      have : fs.take (j + 1) = fs.take j := by rw [List.take_add_one, hq]; simp
      rw [this]; exact ftree_of h j
    | some q =>
      rw [treeOfF_step hq]
      exact (ftree_of h j).put _ _ (by have := h q (List.mem_of_getElem? hq); omega)

section
variable {w0 wr w' : World} {b mb m : Nat} {slv : Value} {LT LM : FL}
theorem TT.putF {P : Nat → Addr} (J : TT w0 wr b mb m slv LT LM) (hf : FTree LT) (hs : Errs w0 P [1, 3, 6, 7]) (hm : HasMax w0) (p x : B) (hp : p.length ≤ 1000) :
    Calls Tryz.prog 38 #[.pointer (some ⟨b, 0, none⟩), S p, S x] wr fun r w' => r = .returned (errC P (putCode LT p x)) ∧ TT w0 w' b mb m slv (putT LT p x) LM :=
  (treePut_any wr P b mb LT p x J.tree hf.fits (hs.ext J.ext) (hm.ext J.ext) (by omega) (fun q hq => by have := hf.lens q hq; omega)).mono fun _ _ ⟨h1, h2, h3⟩ => ⟨h1, J.treeStep h2 h3⟩
theorem TT.putMF (J : TT w0 wr b mb m slv LT LM) (hf : FTree LM) (p x : B) (hp : p.length ≤ 1000) :
    Calls Tryz.prog 30 #[.pointer (some ⟨m, 0, none⟩), S p, S x] wr fun r w' => ∃ slv', r = .returned (I (putCode LM p x)) ∧ TT w0 w' b mb m slv' LT (putT LM p x) :=
  (putM_any wr w0.heap.size m slv LM p x J.model hf.fits.rising (by have := hf.fits.few; omega) (by omega) J.ext.size).mono fun _ _ h => by
    obtain ⟨slv', h1, h2, _⟩ := J.modelStep h
    exact ⟨slv', h1, h2⟩
end

def RetFT (fs : FL) (w : World) (e : Ending) (w' : World) : Prop := ∃ (b mb m : Nat) (slv : Value), e = .returned (.tuple #[.pointer (some ⟨b, 0, none⟩), .pointer (some ⟨m, 0, none⟩)]) ∧ TT w w' b mb m slv (treeOfF fs) (treeOfF fs)

set_option maxRecDepth 100000 in
set_option maxHeartbeats 2000000 in
theorem longFiles2_any (w : World) (v : Value) (fs : FL) (hv : RdS 2 encF w v fs) : Calls Tryz.prog 15 #[v] w (RetLF fs w) := by
  obtain ⟨a, cap, rfl, _, hm1, hc⟩ := hv
  have hl1 : fs.length ≤ 9223372036854775807 := by unfold maxLen at hm1; omega
  have HC := Lib.hid hc
  clear hc hm1
  by_cases hmany : 30 < fs.length
  · have hz : (30 : Int) < (fs.length : Int) := by omega
    clear hmany
    go_enter Tryz.func15, Tryz.ntmps15
    go_wp2_with fail
    go_ret
    exact ⟨true, rfl, (fun h => by cases h), rfl⟩
  · have hz : ¬ (30 : Int) < (fs.length : Int) := by omega
    have HM : Hid (fs.length ≤ 30) := Lib.hid (by omega)
    clear hmany
    go_enter Tryz.func15, Tryz.ntmps15
    go_wp2_with fail
    go_loop [3, 4] (fun n i => ∃ (j : Nat) (nn : Int), j ≤ fs.length ∧ i = .int .i64 j ∧ n = .int .i64 nn ∧ 0 ≤ nn ∧ nn ≤ 4000 ∧ Hid (∀ i (q : B × B), i < j → fs[i]? = some q → q.1.length ≤ 100)) (fun _ i => fs.length - (intOf i).toNat)
    case atStart => exact ⟨0, 0, Nat.zero_le _, rfl, rfl, by omega, by omega, Lib.hid (fun i q h => absurd h (Nat.not_lt_zero _))⟩
    case round =>
      obtain ⟨j, nn, hj, rfl, rfl, hn0, hn1, HB⟩ := hrel
      by_cases hlt : j < fs.length
      · have hltz : (j : Int) < (fs.length : Int) := by omega
        have hj0 : (0 : Int) ≤ (j : Int) := by omega
        obtain ⟨b, off, rfl, hcell⟩ := HC.out (by intro h; rw [h] at hlt; simp at hlt)
        obtain ⟨⟨p, x⟩, hq⟩ : ∃ y, fs[j]? = some y := ⟨_, List.getElem?_eq_getElem hlt⟩
        have c0 : w.cell? ⟨b, off + j * 2, none⟩ = some (S p) := hcell j _ hq 0 _ rfl
        have c1 : w.cell? ⟨b, off + j * 2 + 1, none⟩ = some (S x) := hcell j _ hq 1 _ rfl
        have HQ := Lib.hid hq
        clear hcell hq
        by_cases h1 : (4000 : Int) < (x.length : Int)
        · go_wp2_with fail
          go_ret
          exact ⟨true, rfl, (fun h => by cases h), rfl⟩
        by_cases h2 : (100 : Int) < (p.length : Int)
        · go_wp2_with fail
          go_ret
          exact ⟨true, rfl, (fun h => by cases h), rfl⟩
        by_cases h3 : (4000 : Int) < nn + (x.length : Int)
        · go_wp2_with fail
          go_ret
          exact ⟨true, rfl, (fun h => by cases h), rfl⟩
        go_wp2_with fail
        go_round
        case rel => exact ⟨j + 1, nn + x.length, by omega, by go_num, rfl, by omega, by omega, Lib.hid (fun i q hi hq => by
          rcases Nat.lt_succ_iff_lt_or_eq.1 hi with h | rfl
          · exact HB.out i q h hq
          · rw [HQ.out] at hq; cases hq; exact (by omega : p.length ≤ 100))⟩
        case measure => simp [intOf]; omega
      · have hltz : ¬ (j : Int) < (fs.length : Int) := by omega
        go_wp2_with fail
        go_ret
        refine ⟨false, rfl, fun _ => ⟨HM.out, fun q hq => ?_⟩, rfl⟩
        obtain ⟨i, hi⟩ := List.getElem?_of_mem hq
        exact HB.out i q (by have := (List.getElem?_eq_some_iff.1 hi).1; omega) hi

set_option maxRecDepth 100000 in
set_option maxHeartbeats 6000000 in
theorem fileTree2_any (w : World) (P : Nat → Addr) (v : Value) (fs : FL) (hv : RdS 2 encF w v fs) (hl : fs.length ≤ 1000) (hp : ∀ q ∈ fs, q.1.length ≤ 100) (hs : Errs w P [1, 3, 6, 7]) (hm : HasMax w) :
    Calls Tryz.prog 17 #[v] w (RetFT fs w) := by
  obtain ⟨a, cap, rfl, _, _, hc⟩ := hv
  have HC := Lib.hid hc
  have HP := Lib.hid hp
  have HS := Lib.hid hs
  have HMX := Lib.hid hm
  have HF := Lib.hid (ftree_of hp)
  clear hc hp hs hm
  go_enter Tryz.func17, Tryz.ntmps17
  go_wp2_with fail
  refine (treeNew_any w).mono ?_
  rintro e w2 ⟨rfl, ht, ho, hsz⟩
  have HT := Lib.hid ht
  have HO := Lib.hid ho
  have HZ := Lib.hid hsz
  clear ht ho hsz
  have HJ : Hid (TT w (w2.alloc (.cells #[.slice none 0 0] 147 (0, 0))) (w.heap.size + 1) w.heap.size w2.heap.size (.slice none 0 0) [] []) := Lib.hid
    ⟨HO.out.thenAlloc _, Nat.le_succ _, Nat.le_refl _, HO.out.size, HT.out.ext (Only.alloc _ _ _), ⟨(MapKept.heap_alloc w2 _).1, World.ownsRow_nil _ _ _ _⟩⟩
  obtain ⟨b, hb⟩ : ∃ b, b = w.heap.size + 1 := ⟨_, rfl⟩
  obtain ⟨mb, hmb⟩ : ∃ mb, mb = w.heap.size := ⟨_, rfl⟩
  obtain ⟨m, hmm⟩ : ∃ m, m = w2.heap.size := ⟨_, rfl⟩
  rw [← hb, ← hmb, ← hmm] at HJ
  rw [← hb]
  clear hb hmb HT HO HZ
  go_wp2_with fail
  rw [← hmm]
  generalize (w2.alloc (.cells #[.slice none 0 0] 147 (0, 0))) = w3 at HJ ⊢
  clear hmm
  go_loopw [6] (fun i wr => ∃ (j : Nat) (slv : Value), j ≤ fs.length ∧ i = .int .i64 j ∧ Hid (TT w wr b mb m slv (treeOfF (fs.take j)) (treeOfF (fs.take j)))) (fun i _ => fs.length - (intOf i).toNat)
  case atStart => exact ⟨0, _, Nat.zero_le _, rfl, HJ⟩
  case round =>
    clear HJ
    obtain ⟨j, slv, hj, rfl, HI⟩ := hrel
    by_cases hlt : j < fs.length
    · have hltz : (j : Int) < (fs.length : Int) := by omega
      have hj0 : (0 : Int) ≤ (j : Int) := by omega
      obtain ⟨b0, off0, rfl, hcell⟩ := HC.out (by intro h; rw [h] at hlt; simp at hlt)
      obtain ⟨⟨p, x⟩, hq⟩ : ∃ y, fs[j]? = some y := ⟨_, List.getElem?_eq_getElem hlt⟩
      have HD1 : Hid (w.cell? ⟨b0, off0 + j * 2, none⟩ = some (S p)) := Lib.hid (hcell j _ hq 0 _ rfl)
      have HD2 : Hid (w.cell? ⟨b0, off0 + j * 2 + 1, none⟩ = some (S x)) := Lib.hid (hcell j _ hq 1 _ rfl)
      have d1 := HI.out.ext.cellOf HD1.out (fun h => h)
      have d2 := HI.out.ext.cellOf HD2.out (fun h => h)
      have HPL : Hid (p.length ≤ 1000) := Lib.hid (by have := HP.out _ (List.mem_of_getElem? hq); simp only at this; omega)
      have HST := Lib.hid (treeOfF_step hq)
      have HFJ := Lib.hid (HF.out j)
      clear hcell hq
      generalize treeOfF (fs.take j) = L at HI HST HFJ
      go_wp2_with fail
      go_region_held3 (fun w' => w'.cell? ⟨b0, off0 + j * 2, none⟩ = some (S p) ∧ w'.cell? ⟨b0, off0 + j * 2 + 1, none⟩ = some (S x)) (first | exact ⟨HT.out.ext.cellOf HD1.out (fun h => h), HT.out.ext.cellOf HD2.out (fun h => h)⟩ | exact ⟨d1, d2⟩ | go_keep)
        ((go_at_call 38; refine (TT.putF (w0 := w) (b := b) (mb := mb) (m := m) (slv := slv) (LT := L) (LM := L) (P := P) (by first | exact HI.out | exact HI.out.later (Only.drew _ _) | exact HI.out.later (Only.drewN _ _ _)) HFJ.out HS.out HMX.out p x HPL.out).mono ?_; rintro e w5 ⟨rfl, hT⟩; have HT := Lib.hid hT; clear hT))
      all_goals
        have e1 := HT.out.ext.cellOf HD1.out (fun h => h)
        have e2 := HT.out.ext.cellOf HD2.out (fun h => h)
        clear d1 d2
        go_wp2_with fail
        go_region_held3 (fun w' => w'.cell? ⟨b0, off0 + j * 2, none⟩ = some (S p) ∧ w'.cell? ⟨b0, off0 + j * 2 + 1, none⟩ = some (S x)) (first | exact ⟨HT2.out.ext.cellOf HD1.out (fun h => h), HT2.out.ext.cellOf HD2.out (fun h => h)⟩ | exact ⟨e1, e2⟩ | go_keep)
          ((go_at_call 30; refine (TT.putMF (w0 := w) (b := b) (mb := mb) (m := m) (slv := slv) (LT := putT L p x) (LM := L) (by first | exact HT.out | exact HT.out.later (Only.drew _ _) | exact HT.out.later (Only.drewN _ _ _)) HFJ.out p x HPL.out).mono ?_; rintro e w6 ⟨slv2, rfl, hT⟩; have HT2 := Lib.hid hT; clear hT))
        all_goals
          go_wp2_with fail
          go_roundw
          case rel => exact ⟨j + 1, _, by omega, by go_num, by rw [HST.out]; exact HT2⟩
          case measure => simp [intOf]; omega
    · have hltz : ¬ (j : Int) < (fs.length : Int) := by omega
      rw [List.take_of_length_le (by omega)] at HI
      go_wp2_with fail
      go_ret2
      exact ⟨_, _, _, _, rfl, HI.out⟩

set_option maxRecDepth 100000 in
set_option maxHeartbeats 2000000 in
theorem longFiles3_any (w : World) (v : Value) (fs : FL) (hv : RdS 2 encF w v fs) : Calls Tryz.prog 61 #[v] w (RetLF fs w) := by
  obtain ⟨a, cap, rfl, _, hm1, hc⟩ := hv
  have hl1 : fs.length ≤ 9223372036854775807 := by unfold maxLen at hm1; omega
  have HC := Lib.hid hc
  clear hc hm1
  by_cases hmany : 30 < fs.length
  · have hz : (30 : Int) < (fs.length : Int) := by omega
    clear hmany
    go_enter Tryz.func61, Tryz.ntmps61
    go_wp2_with fail
    go_ret
    exact ⟨true, rfl, (fun h => by cases h), rfl⟩
  · have hz : ¬ (30 : Int) < (fs.length : Int) := by omega
    have HM : Hid (fs.length ≤ 30) := Lib.hid (by omega)
    clear hmany
    go_enter Tryz.func61, Tryz.ntmps61
    go_wp2_with fail
    go_loop [3, 4] (fun n i => ∃ (j : Nat) (nn : Int), j ≤ fs.length ∧ i = .int .i64 j ∧ n = .int .i64 nn ∧ 0 ≤ nn ∧ nn ≤ 4000 ∧ Hid (∀ i (q : B × B), i < j → fs[i]? = some q → q.1.length ≤ 100)) (fun _ i => fs.length - (intOf i).toNat)
    case atStart => exact ⟨0, 0, Nat.zero_le _, rfl, rfl, by omega, by omega, Lib.hid (fun i q h => absurd h (Nat.not_lt_zero _))⟩
    case round =>
      obtain ⟨j, nn, hj, rfl, rfl, hn0, hn1, HB⟩ := hrel
      by_cases hlt : j < fs.length
      · have hltz : (j : Int) < (fs.length : Int) := by omega
        have hj0 : (0 : Int) ≤ (j : Int) := by omega
        obtain ⟨b, off, rfl, hcell⟩ := HC.out (by intro h; rw [h] at hlt; simp at hlt)
        obtain ⟨⟨p, x⟩, hq⟩ : ∃ y, fs[j]? = some y := ⟨_, List.getElem?_eq_getElem hlt⟩
        have c0 : w.cell? ⟨b, off + j * 2, none⟩ = some (S p) := hcell j _ hq 0 _ rfl
        have c1 : w.cell? ⟨b, off + j * 2 + 1, none⟩ = some (S x) := hcell j _ hq 1 _ rfl
        have HQ := Lib.hid hq
        clear hcell hq
        by_cases h1 : (4000 : Int) < (x.length : Int)
        · go_wp2_with fail
          go_ret
          exact ⟨true, rfl, (fun h => by cases h), rfl⟩
        by_cases h2 : (100 : Int) < (p.length : Int)
        · go_wp2_with fail
          go_ret
          exact ⟨true, rfl, (fun h => by cases h), rfl⟩
        by_cases h3 : (4000 : Int) < nn + (x.length : Int)
        · go_wp2_with fail
          go_ret
          exact ⟨true, rfl, (fun h => by cases h), rfl⟩
        go_wp2_with fail
        go_round
        case rel => exact ⟨j + 1, nn + x.length, by omega, by go_num, rfl, by omega, by omega, Lib.hid (fun i q hi hq => by
          rcases Nat.lt_succ_iff_lt_or_eq.1 hi with h | rfl
          · exact HB.out i q h hq
          · rw [HQ.out] at hq; cases hq; exact (by omega : p.length ≤ 100))⟩
        case measure => simp [intOf]; omega
      · have hltz : ¬ (j : Int) < (fs.length : Int) := by omega
        go_wp2_with fail
        go_ret
        refine ⟨false, rfl, fun _ => ⟨HM.out, fun q hq => ?_⟩, rfl⟩
        obtain ⟨i, hi⟩ := List.getElem?_of_mem hq
        exact HB.out i q (by have := (List.getElem?_eq_some_iff.1 hi).1; omega) hi

set_option maxRecDepth 100000 in
set_option maxHeartbeats 6000000 in
theorem fileTree3_any (w : World) (P : Nat → Addr) (v : Value) (fs : FL) (hv : RdS 2 encF w v fs) (hl : fs.length ≤ 1000) (hp : ∀ q ∈ fs, q.1.length ≤ 100) (hs : Errs w P [1, 3, 6, 7]) (hm : HasMax w) :
    Calls Tryz.prog 62 #[v] w (RetFT fs w) := by
  obtain ⟨a, cap, rfl, _, _, hc⟩ := hv
  have HC := Lib.hid hc
  have HP := Lib.hid hp
  have HS := Lib.hid hs
  have HMX := Lib.hid hm
  have HF := Lib.hid (ftree_of hp)
  clear hc hp hs hm
  go_enter Tryz.func62, Tryz.ntmps62
  go_wp2_with fail
  refine (treeNew_any w).mono ?_
  rintro e w2 ⟨rfl, ht, ho, hsz⟩
  have HT := Lib.hid ht
  have HO := Lib.hid ho
  have HZ := Lib.hid hsz
  clear ht ho hsz
  have HJ : Hid (TT w (w2.alloc (.cells #[.slice none 0 0] 147 (0, 0))) (w.heap.size + 1) w.heap.size w2.heap.size (.slice none 0 0) [] []) := Lib.hid
    ⟨HO.out.thenAlloc _, Nat.le_succ _, Nat.le_refl _, HO.out.size, HT.out.ext (Only.alloc _ _ _), ⟨(MapKept.heap_alloc w2 _).1, World.ownsRow_nil _ _ _ _⟩⟩
  obtain ⟨b, hb⟩ : ∃ b, b = w.heap.size + 1 := ⟨_, rfl⟩
  obtain ⟨mb, hmb⟩ : ∃ mb, mb = w.heap.size := ⟨_, rfl⟩
  obtain ⟨m, hmm⟩ : ∃ m, m = w2.heap.size := ⟨_, rfl⟩
  rw [← hb, ← hmb, ← hmm] at HJ
  rw [← hb]
  clear hb hmb HT HO HZ
  go_wp2_with fail
  rw [← hmm]
  generalize (w2.alloc (.cells #[.slice none 0 0] 147 (0, 0))) = w3 at HJ ⊢
  clear hmm
  go_loopw [6] (fun i wr => ∃ (j : Nat) (slv : Value), j ≤ fs.length ∧ i = .int .i64 j ∧ Hid (TT w wr b mb m slv (treeOfF (fs.take j)) (treeOfF (fs.take j)))) (fun i _ => fs.length - (intOf i).toNat)
  case atStart => exact ⟨0, _, Nat.zero_le _, rfl, HJ⟩
  case round =>
    clear HJ
    obtain ⟨j, slv, hj, rfl, HI⟩ := hrel
    by_cases hlt : j < fs.length
    · have hltz : (j : Int) < (fs.length : Int) := by omega
      have hj0 : (0 : Int) ≤ (j : Int) := by omega
      obtain ⟨b0, off0, rfl, hcell⟩ := HC.out (by intro h; rw [h] at hlt; simp at hlt)
      obtain ⟨⟨p, x⟩, hq⟩ : ∃ y, fs[j]? = some y := ⟨_, List.getElem?_eq_getElem hlt⟩
      have HD1 : Hid (w.cell? ⟨b0, off0 + j * 2, none⟩ = some (S p)) := Lib.hid (hcell j _ hq 0 _ rfl)
      have HD2 : Hid (w.cell? ⟨b0, off0 + j * 2 + 1, none⟩ = some (S x)) := Lib.hid (hcell j _ hq 1 _ rfl)
      have d1 := HI.out.ext.cellOf HD1.out (fun h => h)
      have d2 := HI.out.ext.cellOf HD2.out (fun h => h)
      have HPL : Hid (p.length ≤ 1000) := Lib.hid (by have := HP.out _ (List.mem_of_getElem? hq); simp only at this; omega)
      have HST := Lib.hid (treeOfF_step hq)
      have HFJ := Lib.hid (HF.out j)
      clear hcell hq
      generalize treeOfF (fs.take j) = L at HI HST HFJ
      go_wp2_with fail
      go_region_held3 (fun w' => w'.cell? ⟨b0, off0 + j * 2, none⟩ = some (S p) ∧ w'.cell? ⟨b0, off0 + j * 2 + 1, none⟩ = some (S x)) (first | exact ⟨HT.out.ext.cellOf HD1.out (fun h => h), HT.out.ext.cellOf HD2.out (fun h => h)⟩ | exact ⟨d1, d2⟩ | go_keep)
        ((go_at_call 38; refine (TT.putF (w0 := w) (b := b) (mb := mb) (m := m) (slv := slv) (LT := L) (LM := L) (P := P) (by first | exact HI.out | exact HI.out.later (Only.drew _ _) | exact HI.out.later (Only.drewN _ _ _)) HFJ.out HS.out HMX.out p x HPL.out).mono ?_; rintro e w5 ⟨rfl, hT⟩; have HT := Lib.hid hT; clear hT))
      all_goals
        have e1 := HT.out.ext.cellOf HD1.out (fun h => h)
        have e2 := HT.out.ext.cellOf HD2.out (fun h => h)
        clear d1 d2
        go_wp2_with fail
        go_region_held3 (fun w' => w'.cell? ⟨b0, off0 + j * 2, none⟩ = some (S p) ∧ w'.cell? ⟨b0, off0 + j * 2 + 1, none⟩ = some (S x)) (first | exact ⟨HT2.out.ext.cellOf HD1.out (fun h => h), HT2.out.ext.cellOf HD2.out (fun h => h)⟩ | exact ⟨e1, e2⟩ | go_keep)
          ((go_at_call 30; refine (TT.putMF (w0 := w) (b := b) (mb := mb) (m := m) (slv := slv) (LT := putT L p x) (LM := L) (by first | exact HT.out | exact HT.out.later (Only.drew _ _) | exact HT.out.later (Only.drewN _ _ _)) HFJ.out p x HPL.out).mono ?_; rintro e w6 ⟨slv2, rfl, hT⟩; have HT2 := Lib.hid hT; clear hT))
        all_goals
          go_wp2_with fail
          go_roundw
          case rel => exact ⟨j + 1, _, by omega, by go_num, by rw [HST.out]; exact HT2⟩
          case measure => simp [intOf]; omega
    · have hltz : ¬ (j : Int) < (fs.length : Int) := by omega
      rw [List.take_of_length_le (by omega)] at HI
      go_wp2_with fail
      go_ret2
      exact ⟨_, _, _, _, rfl, HI.out⟩
end Go.Proofs.YtnmhaipjfpongacGreatDoor

namespace Go.Proofs.YtnmhaipjfpongacGreatDoor
open Go.ChangeShapes Go.WideShapes Go.ChangeAt Go.RowKit

/-! ### wanted -/
def ruleUp : Rule := ⟨[98], [117, 112, 112, 101, 114], [], [[97]]⟩
theorem wanted_need : needL [ruleUp] [[98]] = [0] := by
  have h0 : reachB [ruleUp] [[98]] 0 = true := reachB_iff.2 (.root (by
    have : needKs [ruleUp] [[98]] = [0] := by kernel_rfl
    rw [this]; exact .head _))
  unfold needL
  show List.filter (reachB [ruleUp] [[98]]) [0] = [0]
  rw [List.filter_cons_of_pos h0]
  rfl
theorem wanted_plain : wantRes [ruleUp] [([97], [120])] [98] = ([88], (0, -1)) := by
  have e1 : (sheetFault [ruleUp]).1 = 0 := by kernel_rfl
  have e2 : madeB [ruleUp] [98] = true := by kernel_rfl
  have h1 : partB [ruleUp] [0] = some [0] := by kernel_rfl
  have h2 : wantW [ruleUp] [([97], [120])] [98] = ([88], 0) := by kernel_rfl
  unfold wantRes
  rw [wanted_need, if_neg (by rw [e1]; simp), if_neg (by rw [e2]; simp), h1, h2]

abbrev wantedW (w : World) : World := (w.alloc (.cells #[S [97]] 9 (0, 0))).alloc (.cells #[S [98], S [117, 112, 112, 101, 114], S [], .slice (some ⟨w.heap.size, 0, none⟩) 1 1] 55 (0, 0))
theorem wanted_rd (w : World) : RdR (wantedW w) (.slice (some ⟨w.heap.size + 1, 0, none⟩) 1 1) [ruleUp] := by
  have h1 := (MapKept.heap_alloc w (.cells #[S [97]] 9 (0, 0))).1
  have h2 := (MapKept.heap_alloc (w.alloc (.cells #[S [97]] 9 (0, 0))) (.cells #[S [98], S [117, 112, 112, 101, 114], S [], .slice (some ⟨w.heap.size, 0, none⟩) 1 1] 55 (0, 0))).1
  have hs : (w.alloc (.cells #[S [97]] 9 (0, 0))).heap.size = w.heap.size + 1 := by simp
  rw [hs] at h2
  have h3 := (Only.alloc (fun _ => False) (w.alloc (.cells #[S [97]] 9 (0, 0))) (.cells #[S [98], S [117, 112, 112, 101, 114], S [], .slice (some ⟨w.heap.size, 0, none⟩) 1 1] 55 (0, 0))).heapOf h1 (fun h => h)
  refine ⟨_, 1, rfl, Nat.le_refl _, by decide, fun _ => ⟨w.heap.size + 1, 0, rfl, fun i r hi => ?_⟩⟩
  match i, hi with
  | 0, hi =>
    cases hi
    refine ⟨.slice (some ⟨w.heap.size, 0, none⟩) 1 1, ⟨_, 1, rfl, Nat.le_refl _, by decide, fun _ => ⟨w.heap.size, 0, rfl, fun j s hj => ?_⟩⟩, ?_, ?_, ?_, ?_⟩
    · match j, hj with
      | 0, hj => cases hj; rw [cell_of_heap h3]; rfl
      | j + 1, hj => simp [ruleUp] at hj
    all_goals (rw [cell_of_heap h2]; rfl)
  | i + 1, hi => simp at hi

set_option maxRecDepth 100000 in
set_option maxHeartbeats 2000000 in
theorem wanted_any (w : World) (P : Nat → Addr) (hV : PV w P [1, 2, 3, 4, 5, 6, 7, 8, 9]) : Calls Tryz.prog 14 #[] w (RetE (.bool true) w) := by
  have HVV := Lib.hid hV
  have e1 : putCode [] [97] [120] = 0 := by decide +kernel
  have e2 : putT [] [97] [120] = [([97], [120])] := by decide +kernel
  have E1 := Lib.hid e1
  have E2 := Lib.hid e2
  clear hV e1 e2
  go_enter Tryz.func14, Tryz.ntmps14
  go_wp2_with fail
  refine (treeNew_any w).mono ?_
  rintro e w1 ⟨rfl, ht, ho, _⟩
  have HT := Lib.hid ht
  have HO := Lib.hid ho
  clear ht ho
  have hput := treePut_any w1 P (w.heap.size + 1) w.heap.size [] [97] [120] HT.out Fits.nil ((HVV.out.ext HO.out).errs.sub (by decide)) (HVV.out.ext HO.out).max (by decide) (by simp)
  unfold PutIs at hput
  rw [E1.out, E2.out, show errC P 0 = .nilIface from rfl] at hput
  have HPU := Lib.hid hput
  clear hput
  obtain ⟨b, hb⟩ : ∃ b, b = w.heap.size + 1 := ⟨_, rfl⟩
  rw [← hb] at HPU
  rw [← hb]
  have hbn := Nat.lt_succ_self w.heap.size
  rw [← Nat.succ_eq_add_one] at hb
  have HB := Lib.hid hb
  clear hb hbn
  go_wp2_with fail
  refine HPU.out.mono ?_
  rintro e w2 ⟨rfl, ht2, ho2⟩
  have HX : Hid (Ext w w2) := Lib.hid (HO.out.trans ho2 (fun _ _ h => h) (fun i hi e => by omega))
  have hx3 : Ext w2 (wantedW w2) := (Only.alloc _ w2 _).thenAlloc _
  have hwo := wantOf_any (wantedW w2) P b w.heap.size [([97], [120])] _ [ruleUp] [98] (ht2.ext hx3) (fun p s h => by have := mem_of_lookup h; simp at this; rw [this.2]; decide) (wanted_rd w2)
    (fun r hr => by rw [List.mem_singleton] at hr; subst hr; exact ⟨by decide, by decide, by decide, by decide, by decide⟩) (fun r hr => by rw [List.mem_singleton] at hr; subst hr; decide) ((HVV.out.ext (HX.out.then hx3)).sub (by decide))
  rw [wanted_plain] at hwo
  have HWO := Lib.hid hwo
  have HX3 := Lib.hid (HX.out.then hx3)
  clear ht2 ho2 hwo hx3
  go_wp2_with fail
  refine HWO.out.mono ?_
  rintro e w3 ⟨ev, rfl, he, ho3⟩
  obtain rfl := he.zero rfl
  have HX4 := Lib.hid (HX3.out.then ho3)
  clear ho3 he
  go_wp2_with fail
  go_ret
  exact ⟨rfl, HX4.out⟩

/-! ### rules taken out of others -/
structure PartAt (w wr : World) (v : Value) (ps : List (Rule × Option Addr × Nat × Nat)) : Prop where
  ext : Ext w wr
  row : wr.ownsRow w.heap.size 55 4 v ps.length (ps.flatMap encR)
  texts : ∀ p ∈ ps, Rd S w (SV p.2) p.1.ins
theorem PartAt.nil (w : World) : PartAt w w (.slice none 0 0) [] := ⟨Only.refl _ _, World.ownsRow_nil _ _ _ _, by simp⟩
theorem PartAt.grow {w wr w' : World} {v : Value} {ps : List (Rule × Option Addr × Nat × Nat)} (h : PartAt w wr v ps) (ho : Ext wr w') : PartAt w w' v ps := ⟨h.ext.then ho, ho.row h.row (fun _ _ h => h), h.texts⟩
theorem PartAt.push {w wr w2 : World} {v v' : Value} {u : Option Addr × Nat × Nat} {ps : List (Rule × Option Addr × Nat × Nat)} {r : Rule} (h : PartAt w wr v ps) (hu : Rd S w (SV u) r.ins) (hr : w2.ownsRow w.heap.size 55 4 v' (ps.length + 1) ((ps ++ [(r, u)]).flatMap encR)) (hg : wr.grownBy w2 v.ownBlock) : PartAt w w2 v' (ps ++ [(r, u)]) := by
  have ho : Only (fun b => v.ownBlock = some b) wr w2 := Only.of_grown hg
  refine ⟨h.ext.trans ho (fun _ _ h => h) (fun i hi e => by have := (h.row.lt i e).1; omega), by rw [List.length_append]; exact hr, fun p hp => ?_⟩
  rcases List.mem_append.1 hp with hp | hp
  · exact h.texts p hp
  · rw [List.mem_singleton] at hp
    subst hp
    exact hu
theorem PartAt.rd {w wr : World} {v : Value} {ps : List (Rule × Option Addr × Nat × Nat)} {l : List Rule} (h : PartAt w wr v ps) (hl : ps.map Prod.fst = l) : RdR wr v l := by
  have hs := RdS.of_row encR_len h.row
  obtain ⟨a, cap, h1, h2, h3, h4⟩ := hs
  have hlen : ps.length = l.length := by rw [← hl, List.length_map]
  refine ⟨a, cap, by rw [← hlen]; exact h1, by omega, h3, fun hne => ?_⟩
  obtain ⟨b, off, h5, h6⟩ := h4 (by intro e; rw [e] at hl; exact hne hl.symm)
  refine ⟨b, off, h5, fun i r hi => ?_⟩
  rw [← hl, List.getElem?_map] at hi
  obtain ⟨p, hp, rfl⟩ := Option.map_eq_some_iff.1 hi
  refine ⟨SV p.2, (h.texts p (List.mem_of_getElem? hp)).ext h.ext, ?_, ?_, ?_, ?_⟩
  · have := h6 i p hp 0 _ rfl; rwa [Nat.add_zero] at this
  · exact h6 i p hp 1 _ rfl
  · exact h6 i p hp 2 _ rfl
  · exact h6 i p hp 3 _ rfl
end Go.Proofs.YtnmhaipjfpongacGreatDoor
