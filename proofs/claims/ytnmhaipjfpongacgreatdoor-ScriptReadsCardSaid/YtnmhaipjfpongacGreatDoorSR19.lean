/- Texts of this seat laid together for one claim: I1. No condition of its own: what each proves stands with its theorems. -/
import Derived.Test.YtnmhaipjfpongacGreatDoorSR10
import Derived.Test.YtnmhaipjfpongacGreatDoorSR18
import Derived.Test.YtnmhaipjfpongacGreatDoorSR6
namespace Go.Proofs.YtnmhaipjfpongacGreatDoor
open Go.ChangeShapes Go.WideShapes Go.ChangeAt Go.RowKit

abbrev tEnc (P : Nat → Addr) (x : Tld) : Value := .agg #[S x.1, errC P x.2]

theorem wpTextH {P : Program} (hP : P = Tryz.prog) {ops : Array Oper} {rest : List Oper} {o : Oper} {a : Act} {Q : Exit → Act → World → Prop} (s x : Operand) (w0 : World) (base : Nat) (v : Value) (l : List B) (k : B) (W : World) (H : Nat) (hH : W.heap.size = H) (hgd : o.guard = none)
  (ho : o.op = .call { callee := .builtin .append, args := #[s, x], argTypes := #[53, 53] }) (hs : a.eval s = v) (hx : a.eval x = .slice (some ⟨H, 0, none⟩) 1 1)
  (hrow : Row base W v l) (hl : l.length ≤ 1000000) (hbase : base ≤ W.heap.size) (hxt : Ext w0 W) (hb0 : w0.heap.size ≤ base)
  (hK : ∀ g cap w', Hid (Row base w' (.slice (some ⟨g, 0, none⟩) (l.length + 1) cap) (l ++ [k])) → Hid (Ext w0 w') → Hid (W.grownBy w' v.ownBlock) →
   wpList P ops Q rest (a.put o.dst (.slice (some ⟨g, 0, none⟩) (l.length + 1) cap)) w') :
  wpList P ops Q (o :: rest) a (W.alloc (.cells #[S k] 9 (0, 0))) := by
 subst hH
 exact wpText hP s x w0 base v l k W hgd ho hs hx hrow hl hbase hxt hb0 hK

structure AskAt (w0 w : World) (P : Nat → Addr) (ab tb kb : Nat) (lv : Value) (L : List (B × Tld)) : Prop where
 ext : Ext w0 w
 cells : w.heap[ab]? = some (.cells #[.pointer (some ⟨tb, 0, none⟩), lv, .map (some kb)] 153 (0, 0))
 map : KMap .string S (tEnc P) w kb L
 lo : w0.heap.size ≤ ab ∧ w0.heap.size ≤ kb ∧ ab ≠ kb
theorem AskAt.later {w0 w w' : World} {P : Nat → Addr} {ab tb kb : Nat} {lv : Value} {L : List (B × Tld)} {p : Nat → Prop} (h : AskAt w0 w P ab tb kb lv L) (ho : Only p w w') (hp : ∀ b, p b → w0.heap.size ≤ b ∧ b ≠ ab ∧ b ≠ kb) : AskAt w0 w' P ab tb kb lv L :=
 ⟨h.ext.trans ho (fun _ _ h => h) (fun i hi e => by have := (hp i e).1; omega), ho.heapOf h.cells (fun e => (hp _ e).2.1 rfl), h.map.later ho (fun e => (hp _ e).2.2 rfl), h.lo⟩
theorem AskAt.grow {w0 w w' : World} {P : Nat → Addr} {ab tb kb : Nat} {lv : Value} {L : List (B × Tld)} (h : AskAt w0 w P ab tb kb lv L) (ho : Ext w w') : AskAt w0 w' P ab tb kb lv L := h.later ho (fun _ h => h.elim)

def Knows (W : B → Tld) (L : List (B × Tld)) : Prop := ∀ p x, L.lookup p = some x → x = W p

def OfPost (w0 : World) (P : Nat → Addr) (ab tb kb : Nat) (lv : Value) (W : B → Tld) (x : Tld) (w : World) (e : Ending) (w' : World) : Prop :=
 e = .returned (tEnc P x) ∧ ∃ L, AskAt w0 w' P ab tb kb lv L ∧ Knows W L ∧ Only (fun b => b = kb) w w'

theorem made_results (tmps : Array Value) (W : World) (h : Nat) (t ev : Value) (h4 : tmps[4]? = some (.pointer (some ⟨h, 0, none⟩))) (d0 : W.cell? ⟨h, 0, none⟩ = some t) (d1 : W.cell? ⟨h, 1, none⟩ = some ev) :
  (results Tryz.f167 tmps).run Tryz.prog W = .ok (.agg #[t, ev]) W := by
 simp only [results, Tryz.results167]
 simp [go_sem, h4, d0, d1]

set_option maxRecDepth 100000 in
set_option maxHeartbeats 4000000 in
theorem made_any (w0 : World) (P : Nat → Addr) (ab tb kb : Nat) (lv : Value) (W : B → Tld) (n : Nat) (D : B → Prop) (rk : B → Nat) (hlen : ∀ p, D p → (W p).1.length ≤ 2000) (hA : ActVars w0 P)
  (hof : ∀ p, D p → rk p < n → ∀ w L, AskAt w0 w P ab tb kb lv L → Knows W L → Calls Tryz.prog 95 #[.pointer (some ⟨ab, 0, none⟩), S p] w (OfPost w0 P ab tb kb lv W (W p) w))
  (r : Rule) (hr : ∀ q ∈ r.ins, D q ∧ rk q < n) (hm : r.ins.length ≤ 12) (hw : r.word.length ≤ 1000) (w : World) (u : Value) (hu : Rd S w0 u r.ins) (L : List (B × Tld)) (hL : AskAt w0 w P ab tb kb lv L) (hK : Knows W L) :
  Calls Tryz.prog 167 #[.pointer (some ⟨ab, 0, none⟩), AggR r u] w (OfPost w0 P ab tb kb lv W (wMade W r) w) := by
 obtain ⟨au, cu, rfl, _, _, hc⟩ := hu
 have HC := Lib.hid hc
 have HOF := Lib.hid hof
 have HR := Lib.hid hr
 have HLN := Lib.hid hlen
 have HAV := Lib.hid hA
 obtain ⟨X, hX⟩ : ∃ X, X = wMade W r := ⟨_, rfl⟩
 rw [← hX]
 have HX := Lib.hid hX
 have hmz : (r.ins.length : Int) ≤ 12 := by omega
 clear hc hof hr hlen hA hX
 have HL0 := Lib.hid (hL.grow ((Only.alloc (fun _ => False) w (.cells #[S r.out, S r.kind, S r.word, .slice au r.ins.length cu] 55 (0, 0))).thenAlloc (.cells #[S [], .nilIface] 155 (0, 0))))
 have HK0 := Lib.hid hK
 have hKB := hL.map.lt
 have hAB := lt_of_heap hL.cells
 have hW0 := hL.ext.size
 clear hL hK
 go_enter Tryz.func167, Tryz.ntmps167
 go_wp2_with fail
 have hkw := HL0.out.map.lt
 have HRB0 : Hid (((w.alloc (.cells #[S r.out, S r.kind, S r.word, .slice au r.ins.length cu] 55 (0, 0))).alloc (.cells #[S [], .nilIface] 155 (0, 0))).heap[w.heap.size]? = some (.cells #[S r.out, S r.kind, S r.word, .slice au r.ins.length cu] 55 (0, 0))) := Lib.hid ((Only.alloc (fun _ => False) _ _).heapOf (MapKept.heap_alloc w _).1 (fun h => h))
 have HSB0 : Hid (((w.alloc (.cells #[S r.out, S r.kind, S r.word, .slice au r.ins.length cu] 55 (0, 0))).alloc (.cells #[S [], .nilIface] 155 (0, 0))).heap[w.heap.size + 1]? = some (.cells #[S [], .nilIface] 155 (0, 0))) := Lib.hid (by
  have h := (MapKept.heap_alloc (w.alloc (.cells #[S r.out, S r.kind, S r.word, .slice au r.ins.length cu] 55 (0, 0))) (.cells #[S [], .nilIface] 155 (0, 0))).1
  simpa using h)
 have HO0 : Hid (Only (fun b => b = kb) w ((w.alloc (.cells #[S r.out, S r.kind, S r.word, .slice au r.ins.length cu] 55 (0, 0))).alloc (.cells #[S [], .nilIface] 155 (0, 0)))) := Lib.hid ((Only.alloc _ w _).thenAlloc _)
 obtain ⟨rb, hrb⟩ : ∃ rb, rb = w.heap.size := ⟨_, rfl⟩
 obtain ⟨sb, hsb⟩ : ∃ sb, sb = w.heap.size + 1 := ⟨_, rfl⟩
 obtain ⟨bs, hbs⟩ : ∃ bs, bs = w.heap.size + 2 := ⟨_, rfl⟩
 rw [← hrb] at HRB0
 rw [← hsb] at HSB0
 rw [← hsb, ← hrb]
 have HBZ : Hid (bs ≤ ((w.alloc (.cells #[S r.out, S r.kind, S r.word, .slice au r.ins.length cu] 55 (0, 0))).alloc (.cells #[S [], .nilIface] 155 (0, 0))).heap.size) := Lib.hid (by simp; omega)
 have HLO : Hid (kb < w.heap.size ∧ ab < w.heap.size ∧ w0.heap.size ≤ w.heap.size ∧ rb = w.heap.size ∧ sb = w.heap.size + 1 ∧ bs = w.heap.size + 2) := Lib.hid ⟨hKB, hAB, hW0, hrb, hsb, hbs⟩
 clear hrb hsb hbs hKB hAB hW0 hkw
 generalize ((w.alloc (.cells #[S r.out, S r.kind, S r.word, .slice au r.ins.length cu] 55 (0, 0))).alloc (.cells #[S [], .nilIface] 155 (0, 0))) = wq at HL0 HRB0 HSB0 HO0 HBZ ⊢
 go_loopw [5, 7, 8, 14] (fun q _ _ i wr => ∃ (j : Nat) (qv : Value) (L : List (B × Tld)), qv = q ∧ j ≤ r.ins.length ∧ i = .int .i64 j ∧ Hid (AskAt w0 wr P ab tb kb lv L) ∧ Hid (Knows W L) ∧ Hid (Row bs wr qv ((r.ins.take j).map fun q => (W q).1)) ∧ Hid (∀ x ∈ r.ins.take j, (W x).2 = 0) ∧ Hid (Only (fun b => b = kb) w wr) ∧ Hid (wr.heap[rb]? = some (.cells #[S r.out, S r.kind, S r.word, .slice au r.ins.length cu] 55 (0, 0))) ∧ Hid (wr.heap[sb]? = some (.cells #[S [], .nilIface] 155 (0, 0))) ∧ Hid (bs ≤ wr.heap.size)) (fun _ _ _ i _ => r.ins.length - (intOf i).toNat)
 case atStart => exact ⟨0, _, L, rfl, Nat.zero_le _, rfl, HL0, HK0, Lib.hid (Row.nil _ _), Lib.hid (by simp), HO0, HRB0, HSB0, HBZ⟩
 case round =>
  clear HL0 HK0 HRB0 HSB0 HO0 HBZ
  obtain ⟨j, qv, L, rfl, hj, rfl, HL, HK, HQ, HZ, HO, HRB, HSB, HB⟩ := hrel
  by_cases hlt : j < r.ins.length
  ·have hltz : (j : Int) < (r.ins.length : Int) := by omega
   have hj0 : (0 : Int) ≤ (j : Int) := by omega
   obtain ⟨b, off, rfl, hcell⟩ := HC.out (by intro h; rw [h] at hlt; simp at hlt)
   obtain ⟨q, hq⟩ : ∃ y, r.ins[j]? = some y := ⟨_, List.getElem?_eq_getElem hlt⟩
   have d0 := HL.out.ext.cellOf (hcell j q hq) (fun h => h)
   obtain ⟨hq1, hq2⟩ := HR.out q (List.mem_of_getElem? hq)
   have HCA := Lib.hid (HOF.out q hq1 hq2 wr L HL.out HK.out)
   have HQN := Lib.hid hq
   have HTM : Hid ((r.ins.take (j + 1)).map (fun q => (W q).1) = (r.ins.take j).map (fun q => (W q).1) ++ [(W q).1]) := Lib.hid (by rw [List.take_add_one, hq]; simp)
   have hql : ((r.ins.take j).map fun q => (W q).1).length ≤ 1000000 := by rw [List.length_map, List.length_take]; omega
   have HQL := Lib.hid hql
   obtain ⟨aq, cq, hqf, _, _, _⟩ := HQ.out.rd
   rw [List.length_map, show (r.ins.take j).length = j by rw [List.length_take]; omega] at hqf
   subst hqf
   clear hcell hq hq2 hql
   have r0 := cell_of_heap HRB.out 0
   go_wp2_with fail
   refine HCA.out.mono ?_
   rintro e w3 ⟨rfl, L3, hL3, hK3, ho3⟩
   have hbk : ∀ b, (Value.slice aq j cq).ownBlock = some b → ¬ b = kb := fun b hb e => by have := (HQ.out.lt b hb).1; have := HLO.out; omega
   have HL3 := Lib.hid hL3
   have HK3 := Lib.hid hK3
   have HQ3 : Hid (Row bs w3 (.slice aq j cq) ((r.ins.take j).map fun q => (W q).1)) := Lib.hid (ho3.row HQ.out hbk)
   have HO3 := Lib.hid (HO.out.then ho3)
   have HRB3 := Lib.hid (ho3.heapOf HRB.out (fun e => by have := HLO.out; omega))
   have HSB3 := Lib.hid (ho3.heapOf HSB.out (fun e => by have := HLO.out; omega))
   have HB3 := Lib.hid (Nat.le_trans HB.out ho3.size)
   clear hL3 hK3 ho3 hbk HQ HO HRB HSB HB HL HK r0
   obtain ⟨s, c, hsc⟩ : ∃ s c, W q = (s, c) := ⟨_, _, rfl⟩
   have HSC := Lib.hid hsc
   have HSL : Hid (s.length ≤ 2000) := Lib.hid (by have := HLN.out q hq1; rw [hsc] at this; exact this)
   rw [hsc] at HTM ⊢
   clear hsc hq1
   cases c with
   | zero =>
    have hz : tEnc P (s, 0) = .agg #[S s, .nilIface] := rfl
    rw [hz]
    have HLA := Lib.hid (HL3.out.grow (Only.alloc (fun _ => False) w3 (.cells #[S s, .nilIface] 155 (0, 0))))
    have HQA := Lib.hid (HQ3.out.ext (Only.alloc (fun _ => False) w3 (.cells #[S s, .nilIface] 155 (0, 0))))
    have HBA : Hid (bs ≤ (w3.alloc (.cells #[S s, .nilIface] 155 (0, 0))).heap.size) := Lib.hid (by simp; have := HB3.out; omega)
    have HZ2 : Hid (∀ x ∈ r.ins.take (j + 1), (W x).2 = 0) := Lib.hid (fun x hx => by
     rw [List.take_add_one, HQN.out] at hx
     rcases List.mem_append.1 hx with hx | hx
     ·exact HZ.out x hx
     ·rw [Option.toList_some, List.mem_singleton] at hx
      rw [hx, HSC.out])
    generalize (r.ins.take j).map (fun q => (W q).1) = Xs at HQA HTM HQL
    clear HZ HQ3
    go_wp2_with (at_builtin; refine wpTextH rfl (.tmp 25) (.tmp 28) w0 bs _ Xs s (w3.alloc (.cells #[S s, .nilIface] 155 (0, 0))) (w3.heap.size + 1) (by simp) rfl rfl rfl rfl HQA.out HQL.out HBA.out HLA.out.ext (by have := HLO.out; omega) ?_; intro g5 cap5 w5 HR5 _ HG5; have HO5 := Only.of_grown HG5.out; have HOW : ∀ b, (Value.slice aq j cq).ownBlock = some b → bs ≤ b := HQA.out.base; have HL5 := Lib.hid (HLA.out.later HO5 (fun b hb => by have := HOW b hb; have := HLO.out; omega)); have HO6 := Lib.hid ((HO3.out.thenAlloc _).thenGrown HG5.out (fun i hi => .inr (by have := HOW i hi; have := HLO.out; omega))); have HRB5 := Lib.hid (HO5.heapOf ((Only.alloc (fun _ => False) w3 _).heapOf HRB3.out (fun h => h)) (fun hb => by have := HOW _ hb; have := HLO.out; omega)); have HSB5 := Lib.hid (HO5.heapOf ((Only.alloc (fun _ => False) w3 _).heapOf HSB3.out (fun h => h)) (fun hb => by have := HOW _ hb; have := HLO.out; omega)); have HB5 := Lib.hid (Nat.le_trans HBA.out HO5.size); clear HO5 HOW)
    go_roundw
    case rel => exact ⟨j + 1, _, L3, rfl, by omega, by go_num, HL5, HK3, by rw [HTM.out]; exact HR5, HZ2, HO6, HRB5, HSB5, HB5⟩
    case measure => simp [intOf]; omega
   | succ c =>
    have hz : tEnc P (s, c + 1) = .agg #[S s, errV (P c)] := rfl
    rw [hz]
    have hsb := (Only.alloc (fun _ => False) w3 (.cells #[S s, errV (P c)] 155 (0, 0))).heapOf HSB3.out (fun h => h)
    have s0 : (w3.alloc (.cells #[S s, errV (P c)] 155 (0, 0))).cell? ⟨sb, 0, none⟩ = some (S []) := (cell_of_heap hsb 0).trans rfl
    have s1 : (w3.alloc (.cells #[S s, errV (P c)] 155 (0, 0))).cell? ⟨sb, 1, none⟩ = some .nilIface := (cell_of_heap hsb 1).trans rfl
    have f0 := free_of_heap hsb 0
    have f1 := free_of_heap hsb 1
    have HXE : Hid (X = (s, c + 1)) := Lib.hid (by rw [HX.out, made_bad HQN.out (by rw [HSC.out]; exact Nat.succ_ne_zero c) HZ.out, HSC.out])
    have hs0 : Only (fun b => b = sb) (w3.alloc (.cells #[S s, errV (P c)] 155 (0, 0))) (((w3.alloc (.cells #[S s, errV (P c)] 155 (0, 0))).setCell ⟨sb, 0, none⟩ (S s)).setCell ⟨sb, 1, none⟩ (errV (P c))) := (Only.set (p := fun b => b = sb) (S s) rfl).then (Only.set (p := fun b => b = sb) (errV (P c)) rfl)
    have HFA := Lib.hid ((HL3.out.grow (Only.alloc (fun _ => False) w3 (.cells #[S s, errV (P c)] 155 (0, 0)))).later hs0 (fun b e => by have := HLO.out; omega))
    have HFO := Lib.hid ((HO3.out.thenAlloc (.cells #[S s, errV (P c)] 155 (0, 0))).trans hs0 (fun _ _ h => h) (fun i hi e => by have := HLO.out; omega))
    have hcf := heap_setCell_same (heap_setCell_same hsb 0 (S s)) 1 (errV (P c))
    have HF0 := Lib.hid ((cell_of_heap hcf 0).trans (rfl : _ = some (S s)))
    have HF1 := Lib.hid ((cell_of_heap hcf 1).trans (rfl : _ = some (errV (P c))))
    clear hsb hs0 hcf
    go_wp2_with fail
    exact bodyPost_ret (v := .agg #[S s, errV (P c)]) (made_results _ _ sb _ _ rfl HF0.out HF1.out) rfl ⟨by rw [HXE.out]; rfl, L3, HFA.out, HK3.out, HFO.out⟩
  ·have hltz : ¬ (j : Int) < (r.ins.length : Int) := by omega
   obtain rfl : j = r.ins.length := by omega
   rw [List.take_length] at HQ HZ
   have HXE : Hid (X = (runOut r.kind r.word (r.ins.map fun q => (W q).1), runCode r.kind r.word (r.ins.map fun q => (W q).1))) := Lib.hid (by rw [HX.out, made_ok HZ.out])
   have hsum : sumLen (r.ins.map fun q => (W q).1) + (r.ins.map fun q => (W q).1).length ≤ 900000 := by
    have h3 : ∀ k : List B, (∀ q ∈ k, (W q).1.length ≤ 2000) → sumLen (k.map fun q => (W q).1) ≤ k.length * 2000 := by
     intro k
     induction k with
     | nil => intro _; simp [sumLen]
     | cons x k ih =>
      intro hk
      rw [List.map_cons, sum_cons, List.length_cons, Nat.succ_mul]
      have := ih fun y hy => hk y (.tail _ hy)
      have := hk x (.head _)
      omega
    have h4 := h3 r.ins (fun q hq => HLN.out q (HR.out q hq).1)
    have h5 : r.ins.length * 2000 ≤ 12 * 2000 := Nat.mul_le_mul_right _ hm
    rw [List.length_map]
    omega
   have HRUN := Lib.hid (actRun_any wr P r.kind r.word (r.ins.map fun q => (W q).1) qv HQ.out.rd hsum hw (HAV.out.ext HL.out.ext))
   have r1 : wr.cell? ⟨rb, 1, none⟩ = some (S r.kind) := (cell_of_heap HRB.out 1).trans rfl
   have r2 : wr.cell? ⟨rb, 2, none⟩ = some (S r.word) := (cell_of_heap HRB.out 2).trans rfl
   clear hsum hlt hj
   generalize runOut r.kind r.word (r.ins.map fun q => (W q).1) = RO at HXE HRUN
   generalize runCode r.kind r.word (r.ins.map fun q => (W q).1) = RC at HXE HRUN
   go_wp2_with fail
   refine (HRUN.out).mono ?_
   rintro e w3 ⟨rfl, ho3⟩
   have HO3 := Lib.hid (HO.out.ext ho3)
   have HL3 := Lib.hid (HL.out.grow ho3)
   have HHO := Lib.hid ho3
   clear ho3
   have hsb := HHO.out.heapOf HSB.out (fun h => h)
   have s0 : w3.cell? ⟨sb, 0, none⟩ = some (S []) := (cell_of_heap hsb 0).trans rfl
   have s1 : w3.cell? ⟨sb, 1, none⟩ = some .nilIface := (cell_of_heap hsb 1).trans rfl
   have f0 := free_of_heap hsb 0
   have f1 := free_of_heap hsb 1
   obtain ⟨ER, hER⟩ : ∃ ER, ER = errC P RC := ⟨_, rfl⟩
   rw [← hER]
   have HER := Lib.hid hER
   have hform : ER = .nilIface ∨ ∃ c, ER = errV (P c) := by
    rw [hER]
    cases RC with
    | zero => exact .inl rfl
    | succ c => exact .inr ⟨c, rfl⟩
   have hs0 : Only (fun b => b = sb) w3 ((w3.setCell ⟨sb, 0, none⟩ (S RO)).setCell ⟨sb, 1, none⟩ ER) := (Only.set (p := fun b => b = sb) (S RO) rfl).then (Only.set (p := fun b => b = sb) ER rfl)
   have HFA := Lib.hid (HL3.out.later hs0 (fun b e => by have := HLO.out; omega))
   have HFO := Lib.hid (HO3.out.trans hs0 (fun _ _ h => h) (fun i hi e => by have := HLO.out; omega))
   have hcf := heap_setCell_same (heap_setCell_same hsb 0 (S RO)) 1 ER
   have HF0 := Lib.hid ((cell_of_heap hcf 0).trans (rfl : _ = some (S RO)))
   have HF1 := Lib.hid ((cell_of_heap hcf 1).trans (rfl : _ = some ER))
   clear hsb hs0 hER hcf
   rcases hform with rfl | ⟨c, rfl⟩
   all_goals
    go_wp2_with fail
    exact bodyPost_ret (v := .agg #[S RO, _]) (made_results _ _ sb _ _ rfl HF0.out HF1.out) rfl ⟨by rw [HXE.out, HER.out], L, HFA.out, HK.out, HFO.out⟩
end Go.Proofs.YtnmhaipjfpongacGreatDoor
