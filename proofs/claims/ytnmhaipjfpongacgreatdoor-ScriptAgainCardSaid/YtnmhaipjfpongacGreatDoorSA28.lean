/- Texts of this seat laid together for one claim: Z18. No condition of its own: what each proves stands with its theorems. -/
import Derived.BigRegion
import Derived.Deep.RegionHeld3
import Derived.Test.YtnmhaipjfpongacGreatDoorSA27
namespace Go.Proofs.YtnmhaipjfpongacGreatDoor
open Go.ChangeShapes Go.WideShapes Go.ChangeAt Go.RowKit
open Go.MapKept (Stamped IsKey)
open Go.ChangeMaps (setBlock)

structure NewAt (w wr : World) (P : Nat → Addr) (l : List Rule) (T : FL) (sm : List Nat) (b tb tmb lb bb : Nat) (cp : Value) (j : Nat) (blk : Nat → Nat) (iv : Nat → Value) : Prop where
 ext : Ext w wr
 bld : BldAt wr P w.heap.size ⟨l, sm.take j, T⟩ ⟨b, tb, tmb, lb, bb, cp, blk, iv⟩ .new
 ne : tmb ≠ lb ∧ tmb ≠ bb ∧ lb ≠ bb
theorem NewAt.step {w wr w' : World} {P : Nat → Addr} {l : List Rule} {T : FL} {sm : List Nat} {b tb tmb lb bb j : Nat} {cp : Value} {blk : Nat → Nat} {iv : Nat → Value} (h : NewAt w wr P l T sm b tb tmb lb bb cp j blk iv)
  (hc : Clo l sm) {i : Nat} (hi : sm[j]? = some i) {sb : Nat} {v : Value} (ho : Only (fun k => k = lb ∨ k = bb) wr w') (hsb : wr.heap.size ≤ sb)
  (hs : w'.heap[sb]? = some (.cells #[S (ruleAt l i).out, S (ruleAt l i).kind, S (ruleAt l i).word, v, I 1, .bool false, S [], .nilIface] 189 (0, 0)))
  (hv : Row wr.heap.size w' v (ruleAt l i).ins)
  (hl : MapAt (.int .i64) w' lb ((I i, PTR sb) :: ((sm.take j).map fun (k : Nat) => ((k : Int), blk k)).map fun p => (I p.1, PTR p.2)))
  (hbm : MapAt .string w' bb ((S (ruleAt l i).out, IN i) :: ((sm.take j).map fun k => ((ruleAt l k).out, k)).map fun p => (S p.1, IN p.2))) :
  ∃ blk' iv', NewAt w w' P l T sm b tb tmb lb bb cp (j + 1) blk' iv' := by
 obtain ⟨hx, hb, hn1, hn2, hn3⟩ := h
 have hlt := hb.lt
 have hwl := hx.size
 obtain ⟨o1, o2, o3, o4, o5, o6⟩ := hb.lo
 have hlb : w.heap.size ≤ lb := o4
 have hbb : w.heap.size ≤ bb := o5
 have hnew : ∀ k ∈ sm.take j, k ≠ i := fun k hk e => by
  subst e
  obtain ⟨t, ht, he⟩ := List.mem_take_iff_getElem.1 hk
  have := nodup_inj (clo_nodup hc) (i := t) (j := j) (x := sm[t]) (List.getElem?_eq_getElem (by omega)) (by rw [hi, he])
  omega
 have hts : sm.take (j + 1) = sm.take j ++ [i] := by rw [List.take_add_one, hi]; rfl
 have np : ∀ k, (k = lb ∨ k = bb) → ∀ cs e fr, wr.heap[k]? ≠ some (.cells cs e fr) := fun k hk cs e fr h1 => by
  rcases hk with rfl | rfl
  ·exact heap_ne_map h1 hb.steps rfl
  ·exact heap_ne_map h1 hb.outs rfl
 have nr : ∀ k (v : Value) (b0 : Nat) (q : List B), Row b0 wr v q → v.ownBlock = some k → ¬ (k = lb ∨ k = bb) := fun k v b0 q h1 h2 h3 => by
  rcases h3 with e | e
  ·exact row_ne_map h1 hb.steps k h2 e
  ·exact row_ne_map h1 hb.outs k h2 e
 have hbl : ∀ k ∈ sm.take j, blk k < wr.heap.size := fun k hk => lt_of_heap (hb.step k hk)
 refine ⟨fun k => if k = i then sb else blk k, fun k => if k = i then v else iv k, hx.trans ho (fun _ _ h => h) (fun q hq e => by rcases e with e | e <;> omega), ⟨?_, ?_, ?_, ?_, ?_, ?_, ?_, ?_⟩, hn1, hn2, hn3⟩
 ·exact ho.heapOf hb.cells (fun e => np _ e _ _ _ hb.cells)
 ·exact hb.tree.later ho (fun e => np _ e _ _ _ hb.tree.cells) (fun e => by rcases e with e | e; exact hn1 e; exact hn2 e)
 ·refine MapAt.perm hl ?_
  show List.Perm _ (((sm.take (j + 1)).map fun (k : Nat) => ((k : Int), if k = i then sb else blk k)).map fun p => (I p.1, PTR p.2))
  rw [hts, List.map_append, List.map_append]
  have e1 : ((sm.take j).map fun (k : Nat) => ((k : Int), if k = i then sb else blk k)) = (sm.take j).map fun (k : Nat) => ((k : Int), blk k) := List.map_congr_left fun k hk => by rw [if_neg (hnew k hk)]
  rw [e1]
  simp only [List.map_cons, List.map_nil]
  exact (List.perm_append_singleton _ _).symm
 ·refine MapAt.perm hbm ?_
  show List.Perm _ (((sm.take (j + 1)).map fun k => ((ruleAt l k).out, k)).map fun p => (S p.1, IN p.2))
  rw [hts, List.map_append, List.map_append]
  exact (List.perm_append_singleton _ _).symm
 ·intro k hk
  have hk' : k ∈ sm.take (j + 1) := hk
  rw [hts] at hk'
  by_cases e : k = i
  ·subst e
   show w'.heap[if k = k then sb else blk k]? = _
   rw [if_pos rfl, hs]
   show _ = some (Obj.cells #[S (ruleAt l k).out, S (ruleAt l k).kind, S (ruleAt l k).word, (if k = k then v else iv k), IN 1, .bool false, S [], .nilIface] _ _)
   rw [if_pos rfl]
   rfl
  ·have hk2 : k ∈ sm.take j := by
    rcases List.mem_append.1 hk' with h | h
    ·exact h
    ·exact absurd (List.mem_singleton.1 h) e
   show w'.heap[if k = i then sb else blk k]? = some (Obj.cells #[S (ruleAt l k).out, S (ruleAt l k).kind, S (ruleAt l k).word, (if k = i then v else iv k), IN 1, .bool false, S [], .nilIface] _ _)
   rw [if_neg e, if_neg e]
   exact ho.heapOf (hb.step k hk2) (fun h => np _ h _ _ _ (hb.step k hk2))
 ·intro k hk
  have hk' : k ∈ sm.take (j + 1) := hk
  rw [hts] at hk'
  by_cases e : k = i
  ·subst e
   show Row _ w' (if k = k then v else iv k) (ruleAt l k).ins
   rw [if_pos rfl]
   exact rowDown hv hwl
  ·have hk2 : k ∈ sm.take j := by
    rcases List.mem_append.1 hk' with h | h
    ·exact h
    ·exact absurd (List.mem_singleton.1 h) e
   show Row _ w' (if k = i then v else iv k) (ruleAt l k).ins
   rw [if_neg e]
   exact ho.row (hb.ins k hk2) (fun q hq h => nr q _ _ _ (hb.ins k hk2) hq h)
 ·intro a ha c hc' e
  have ha' : a ∈ sm.take (j + 1) := ha
  have hc2 : c ∈ sm.take (j + 1) := hc'
  rw [hts] at ha' hc2
  have old : ∀ k, k ∈ sm.take j ++ [i] → k ≠ i → k ∈ sm.take j := fun k hk e => by
   rcases List.mem_append.1 hk with h | h
   ·exact h
   ·exact absurd (List.mem_singleton.1 h) e
  have e' : (if a = i then sb else blk a) = (if c = i then sb else blk c) := e
  by_cases e1 : a = i
  ·by_cases e2 : c = i
   ·rw [e1, e2]
   ·rw [if_pos e1, if_neg e2] at e'
    have := hbl c (old c hc2 e2)
    omega
  ·by_cases e2 : c = i
   ·rw [if_neg e1, if_pos e2] at e'
    have := hbl a (old a ha' e1)
    omega
   ·rw [if_neg e1, if_neg e2] at e'
    exact hb.inj a (old a ha' e1) c (old c hc2 e2) e'
 ·refine ⟨o1, o2, o3, o4, o5, fun k hk => ?_⟩
  have hk' : k ∈ sm.take (j + 1) := hk
  rw [hts] at hk'
  show w.heap.size ≤ (if k = i then sb else blk k)
  by_cases e : k = i
  ·rw [if_pos e]; omega
  ·rw [if_neg e]
   rcases List.mem_append.1 hk' with h | h
   ·exact o6 k h
   ·exact absurd (List.mem_singleton.1 h) e

theorem two_entries {W : World} {lb bb : Nat} {L1 L2 : List (Value × Value)} (hne : lb ≠ bb) (h1 : MapAt (.int .i64) W lb L1) (h2 : MapAt .string W bb L2) {k1 v1 k2 v2 : Value} (e1 : IsKey (.int .i64) k1) (e2 : IsKey .string k2) (m1 : k1 ∉ L1.map (·.1)) (m2 : k2 ∉ L2.map (·.1)) :
  ∃ (s1 s2 : Value) (W1 W2 W3 W4 : World), (Instr.mapEntry 184 (.map (some lb)) k1).run Tryz.prog W = .ok (.tuple #[.pointer none, s1]) W1 ∧ (Instr.entryStore 184 (.map (some lb)) s1 v1).run Tryz.prog W1 = .ok () W2 ∧ (Instr.mapEntry 181 (.map (some bb)) k2).run Tryz.prog W2 = .ok (.tuple #[.int .i64 0, s2]) W3 ∧ (Instr.entryStore 181 (.map (some bb)) s2 v2).run Tryz.prog W3 = .ok () W4 ∧
   MapAt (.int .i64) W4 lb ((k1, v1) :: L1) ∧ MapAt .string W4 bb ((k2, v2) :: L2) ∧ Only (fun k => k = lb) W W1 ∧ Only (fun k => k = lb) W W2 ∧ Only (fun k => k = lb ∨ k = bb) W W4 := by
 obtain ⟨es, c, st, es1, es2, c1, hb1, n1⟩ := MapAt.entry h1 Tryz.underlying184 Tryz.underlying3 (k := k1) (z := .pointer none) v1 (fun W => by kernel_rfl) e1 m1
 obtain ⟨fs, d, su, fs1, fs2, d1, hb2, n2⟩ := MapAt.entry h2 Tryz.underlying181 Tryz.underlying9 (k := k2) (z := .int .i64 0) v2 (fun W => by kernel_rfl) e2 m2
 have a1 := heap_setBlock_same (o := .map es1 c1) hb1
 have a2 := heap_setBlock_same (o := .map es2 c1) a1
 have b1 := (heap_setBlock_ne (W := W) (.map es1 c1) (Ne.symm hne)).trans hb2
 have b2 := (heap_setBlock_ne (W := setBlock W lb (.map es1 c1)) (.map es2 c1) (Ne.symm hne)).trans b1
 have b3 := heap_setBlock_same (o := .map fs1 d1) b2
 have b4 := heap_setBlock_same (o := .map fs2 d1) b3
 have a3 := (heap_setBlock_ne (W := setBlock (setBlock W lb (.map es1 c1)) lb (.map es2 c1)) (.map fs1 d1) hne).trans a2
 have a4 := (heap_setBlock_ne (W := setBlock (setBlock (setBlock W lb (.map es1 c1)) lb (.map es2 c1)) bb (.map fs1 d1)) (.map fs2 d1) hne).trans a3
 have o1 := only_setBlock W lb (.map es1 c1)
 have o2 := o1.then (only_setBlock _ lb (.map es2 c1))
 have o3 := (o2.mono (fun _ _ h => Or.inl h : ∀ i, _ → i = lb → i = lb ∨ i = bb)).then ((only_setBlock (setBlock (setBlock W lb (.map es1 c1)) lb (.map es2 c1)) bb (.map fs1 d1)).mono (fun _ _ h => .inr h))
 have o4 := o3.then ((only_setBlock (setBlock (setBlock (setBlock W lb (.map es1 c1)) lb (.map es2 c1)) bb (.map fs1 d1)) bb (.map fs2 d1)).mono (fun _ _ h => .inr h))
 exact ⟨_, _, _, _, _, _, n1.lay W hb1, n1.fill _ a1, n2.lay _ b2, n2.fill _ b3, n1.done _ a4, n2.done _ b4, o1, o2, o4⟩

theorem two_entries2 {W : World} (ob : Obj) {lb bb : Nat} {L1 L2 : List (Value × Value)} (hne : lb ≠ bb) (h1 : MapAt (.int .i64) W lb L1) (h2 : MapAt .string W bb L2) {k1 k2 v2 : Value} (e1 : IsKey (.int .i64) k1) (e2 : IsKey .string k2) (m1 : k1 ∉ L1.map (·.1)) (m2 : k2 ∉ L2.map (·.1)) :
  ∃ (s1 s2 : Value) (W1 W2 W3 W4 : World), (Instr.mapEntry 184 (.map (some lb)) k1).run Tryz.prog W = .ok (.tuple #[.pointer none, s1]) W1 ∧ (Instr.entryStore 184 (.map (some lb)) s1 (PTR W1.heap.size)).run Tryz.prog (W1.alloc ob) = .ok () W2 ∧ (Instr.mapEntry 181 (.map (some bb)) k2).run Tryz.prog W2 = .ok (.tuple #[.int .i64 0, s2]) W3 ∧ (Instr.entryStore 181 (.map (some bb)) s2 v2).run Tryz.prog W3 = .ok () W4 ∧
   MapAt (.int .i64) W4 lb ((k1, PTR W1.heap.size) :: L1) ∧ MapAt .string W4 bb ((k2, v2) :: L2) ∧ Only (fun k => k = lb) W W1 ∧ Only (fun k => k = lb) (W1.alloc ob) W2 ∧ Only (fun k => k = lb ∨ k = bb) (W1.alloc ob) W4 := by
 obtain ⟨es, c, st, es1, es2, c1, hb1, n1⟩ := MapAt.entry h1 Tryz.underlying184 Tryz.underlying3 (k := k1) (z := .pointer none) (PTR W.heap.size) (fun W => by kernel_rfl) e1 m1
 obtain ⟨fs, d, su, fs1, fs2, d1, hb2, n2⟩ := MapAt.entry h2 Tryz.underlying181 Tryz.underlying9 (k := k2) (z := .int .i64 0) v2 (fun W => by kernel_rfl) e2 m2
 have hsz : (setBlock W lb (.map es1 c1)).heap.size = W.heap.size := by simp [setBlock]
 have xa : Ext (setBlock W lb (.map es1 c1)) ((setBlock W lb (.map es1 c1)).alloc ob) := Only.alloc _ _ _
 have a1 := xa.heapOf (heap_setBlock_same (o := .map es1 c1) hb1) (fun h => h)
 have b1 := xa.heapOf ((heap_setBlock_ne (W := W) (.map es1 c1) (Ne.symm hne)).trans hb2) (fun h => h)
 generalize hWa : (setBlock W lb (.map es1 c1)).alloc ob = Wa at *
 have a2 := heap_setBlock_same (o := .map es2 c1) a1
 have b2 := (heap_setBlock_ne (W := Wa) (.map es2 c1) (Ne.symm hne)).trans b1
 have b3 := heap_setBlock_same (o := .map fs1 d1) b2
 have b4 := heap_setBlock_same (o := .map fs2 d1) b3
 have a3 := (heap_setBlock_ne (W := setBlock Wa lb (.map es2 c1)) (.map fs1 d1) hne).trans a2
 have a4 := (heap_setBlock_ne (W := setBlock (setBlock Wa lb (.map es2 c1)) bb (.map fs1 d1)) (.map fs2 d1) hne).trans a3
 have o1 := only_setBlock W lb (.map es1 c1)
 have o2 := only_setBlock Wa lb (.map es2 c1)
 have o3 := (o2.mono (fun _ _ h => Or.inl h : ∀ i, _ → i = lb → i = lb ∨ i = bb)).then ((only_setBlock (setBlock Wa lb (.map es2 c1)) bb (.map fs1 d1)).mono (fun _ _ h => .inr h))
 have o4 := o3.then ((only_setBlock (setBlock (setBlock Wa lb (.map es2 c1)) bb (.map fs1 d1)) bb (.map fs2 d1)).mono (fun _ _ h => .inr h))
 refine ⟨_, _, _, _, _, _, n1.lay W hb1, ?_, n2.lay _ b2, n2.fill _ b3, ?_, n2.done _ b4, o1, ?_, ?_⟩
 ·rw [hsz, hWa]; exact n1.fill _ a1
 ·rw [hsz]; exact n1.done _ a4
 ·rw [hWa]; exact o2
 ·rw [hWa]; exact o4

theorem NewAt.start {w : World} (w2 w3 : World) {P : Nat → Addr} {l : List Rule} {T : FL} {sm : List Nat} {ca : Option Addr} (hx : Ext w w3) (hsz : w.heap.size ≤ w2.heap.size) (ht : TreeAt w3 (w2.heap.size + 1) w2.heap.size T) (hs3 : w3.heap.size = w2.heap.size + 2) :
  NewAt w (((w3.alloc (.map #[] 0)).alloc (.map #[] 0)).alloc (.cells #[PTR (w2.heap.size + 1), .map (some w3.heap.size), .map (some (w3.heap.size + 1)), .pointer ca] 186 (0, 0))) P l T sm (w3.heap.size + 2) (w2.heap.size + 1) w2.heap.size w3.heap.size (w3.heap.size + 1) (.pointer ca) 0 (fun _ => 0) (fun _ => .nilIface) := by
 have x1 : Ext w3 (w3.alloc (.map #[] 0)) := Only.alloc _ _ _
 have x2 : Ext (w3.alloc (.map #[] 0)) ((w3.alloc (.map #[] 0)).alloc (.map #[] 0)) := Only.alloc _ _ _
 have x3 : Ext ((w3.alloc (.map #[] 0)).alloc (.map #[] 0)) (((w3.alloc (.map #[] 0)).alloc (.map #[] 0)).alloc (.cells #[PTR (w2.heap.size + 1), .map (some w3.heap.size), .map (some (w3.heap.size + 1)), .pointer ca] 186 (0, 0))) := Only.alloc _ _ _
 have z1 : (w3.alloc (.map #[] 0)).heap.size = w3.heap.size + 1 := by simp
 have z2 : ((w3.alloc (.map #[] 0)).alloc (.map #[] 0)).heap.size = w3.heap.size + 2 := by simp
 have hc := (MapKept.heap_alloc ((w3.alloc (.map #[] 0)).alloc (.map #[] 0)) (.cells #[PTR (w2.heap.size + 1), .map (some w3.heap.size), .map (some (w3.heap.size + 1)), .pointer ca] 186 (0, 0))).1
 rw [z2] at hc
 have m1 : MapAt (.int .i64) (w3.alloc (.map #[] 0)) w3.heap.size [] := MapAt.made w3 _
 have m2 : MapAt .string ((w3.alloc (.map #[] 0)).alloc (.map #[] 0)) (w3.heap.size + 1) [] := by
  have h := MapAt.made (w3.alloc (.map #[] 0)) .string
  rw [z1] at h
  exact h
 refine ⟨((hx.then x1).then x2).then x3, ⟨hc, ht.ext ((x1.then x2).then x3), ?_, ?_, ?_, ?_, ?_, ?_⟩, ?_, ?_, ?_⟩
 ·exact (m1.later x2 (fun h => h)).later x3 (fun h => h)
 ·exact m2.later x3 (fun h => h)
 ·intro i hi; cases hi
 ·intro i hi; cases hi
 ·intro i hi; cases hi
 ·exact ⟨by show w.heap.size ≤ w3.heap.size + 2; omega, by show w.heap.size ≤ w2.heap.size + 1; omega, by show w.heap.size ≤ w2.heap.size; omega, by show w.heap.size ≤ w3.heap.size; omega, by show w.heap.size ≤ w3.heap.size + 1; omega, fun i hi => by cases hi⟩
 ·omega
 ·omega
 ·omega

set_option maxRecDepth 100000 in
set_option maxHeartbeats 16000000 in
theorem new_any (w : World) (P : Nat → Addr) (tb tmb : Nat) (T : FL) (v vo : Value) (ca : Option Addr) (l : List Rule) (outs : List B) (ht : TreeAt w tb tmb T) (hv : RdR w v l) (hvo : Rd S w vo outs) (hno : outs.length ≤ 1000) (hs : ∀ r ∈ l, RuleSm 900000 r) (hV : PV w P [1, 2, 3, 4, 5, 6, 8, 9]) :
  Calls Tryz.prog 51 #[.pointer (some ⟨tb, 0, none⟩), v, vo, .pointer ca] w (RetNew P l outs T (.pointer ca) w) := by
 have HND := Lib.hid (graphNeeds_any w P l outs v vo hv hvo hno hs (hV.sub (by decide)))
 have HRD := Lib.hid hv
 have HVV := Lib.hid hV
 have HT := Lib.hid ht
 have HSM := Lib.hid hs
 obtain ⟨a, cap, rfl, _, _, hc⟩ := hv
 obtain ⟨ao, co, rfl, _, _, _⟩ := hvo
 have HC := Lib.hid hc
 obtain ⟨F, hF⟩ : ∃ F, F = newFault l outs := ⟨_, rfl⟩
 have HFP : Hid (∀ e w', (∃ v ev, e = .returned (.tuple #[v, ev]) ∧ ErrAt w' P F ev ∧ Ext w w' ∧ ((F.1 ≠ 0 ∧ v = .pointer none) ∨ (F.1 = 0 ∧ ∃ K : BK, v = PTR K.b ∧ K.cp = .pointer ca ∧ BldAt w' P w.heap.size (newE l outs T) K .new))) → RetNew P l outs T (.pointer ca) w e w') := Lib.hid (fun e w' h => by rw [hF] at h; exact h)
 unfold newFault at hF
 have HF := Lib.hid hF
 clear ht hc hs hV hF
 go_enter Tryz.func51, Tryz.ntmps51
 go_wp2_with fail
 refine HND.out.mono ?_
 rintro e w1 ⟨v1, ev, sm, rfl, hrow, he, ho, hcase⟩
 have HX1 := Lib.hid ho
 by_cases h0 : (needFault l outs).1 = 0
 case neg =>
  obtain ⟨t, p, rfl⟩ := he.some h0
  obtain ⟨a1, p1, rfl, _, _, _⟩ := hrow.rd
  have hF := HF.out
  rw [if_pos h0] at hF
  have HEE := Lib.hid he
  have HN0 := Lib.hid h0
  have HFE := Lib.hid hF
  clear hrow he ho hcase h0 hF
  go_wp2_with fail
  go_ret2
  exact HFP.out _ _ ⟨_, _, rfl, by rw [HFE.out]; exact HEE.out, HX1.out, .inl ⟨by rw [HFE.out]; exact HN0.out, rfl⟩⟩
 case pos =>
  have hF := HF.out
  rw [if_neg (by simpa using h0)] at hF
  have hok : NeedOk l.length (needB l) (needKs l outs) sm := by
   rcases hcase with ⟨h, _⟩ | ⟨_, h⟩
   ·exact absurd h0 h
   ·exact h
  have hsm := needOk_eq hok
  have hsf : (sheetFault l).1 = 0 := by
   unfold needFault at h0
   by_cases h : (sheetFault l).1 = 0
   ·exact h
   ·rw [if_pos h] at h0; exact absurd h0 h
  obtain rfl := he.zero h0
  have HRS := Lib.hid (sheet_ok.1 hsf)
  have HSMQ := Lib.hid hsm
  have HCL : Hid (Clo l sm) := Lib.hid (hsm ▸ Clo.need l outs)
  rw [← hsm] at hF
  have HF := Lib.hid hF
  have HPT := Lib.hid (graphPart_any w1 P l (.slice a l.length cap) v1 sm (HRD.out.ext ho) (sheet_ok.1 hsf) (fun r hr => (HSM.out r hr).many) hrow.rd ((HVV.out.ext ho).errs.sub (by decide)))
  have HR1 := Lib.hid hrow.rd
  obtain ⟨a1, p1, rfl, _, _, hc1⟩ := hrow.rd
  have HC1 := Lib.hid hc1
  have hl40 : l.length ≤ 40 := HRS.out.1
  have hsl : sm.length ≤ 40 := by
   have := nodup_len (b := List.range l.length) (clo_nodup HCL.out) fun x hx => List.mem_range.2 (HCL.out.lt x hx)
   rw [List.length_range] at this
   omega
  have hslz : (sm.length : Int) ≤ 40 := by omega
  have hlz : (l.length : Int) ≤ 40 := by omega
  clear hrow he ho hcase h0 hok hsm hsf hF hc1
  go_wp2_with fail
  refine HPT.out.mono ?_
  rintro e w2 ⟨v2, ev, rfl, hrow2, he, ho⟩
  have HX2 := Lib.hid (HX1.out.then ho)
  have HX12 := Lib.hid ho
  have HR2 := Lib.hid (HR1.out.ext ho)
  obtain ⟨a2, p2, rfl, _, _, _⟩ := hrow2.rd
  by_cases hp0 : (partFault l sm).1 = 0
  case neg =>
   obtain ⟨t, p, rfl⟩ := he.some hp0
   have HEE := Lib.hid he
   have HN0 := Lib.hid hp0
   clear hrow2 he ho hp0
   go_wp2_with fail
   go_ret2
   exact HFP.out _ _ ⟨_, _, rfl, by rw [HF.out]; exact HEE.out, HX2.out, .inl ⟨by rw [HF.out]; exact HN0.out, rfl⟩⟩
  case pos =>
   obtain rfl := he.zero hp0
   have HN0 := Lib.hid hp0
   clear hrow2 he ho hp0
   go_wp2_with fail
   refine (treeCopy_any w2 tb tmb T (HT.out.ext HX2.out)).mono ?_
   rintro e w3 ⟨rfl, htc, hx3, hsz3⟩
   have hmm := @run_makeMap Tryz.prog
   have HN4 : Hid (NewAt w (((w3.alloc (.map #[] 0)).alloc (.map #[] 0)).alloc (.cells #[PTR (w2.heap.size + 1), .map (some w3.heap.size), .map (some (w3.heap.size + 1)), .pointer ca] 186 (0, 0))) P l T sm (w3.heap.size + 2) (w2.heap.size + 1) w2.heap.size w3.heap.size (w3.heap.size + 1) (.pointer ca) 0 (fun _ => 0) (fun _ => .nilIface)) := Lib.hid (NewAt.start w2 w3 (HX2.out.then hx3) HX2.out.size htc hsz3)
   have HX3 := Lib.hid (HX2.out.then hx3)
   have HX14 : Hid (Ext w1 (((w3.alloc (.map #[] 0)).alloc (.map #[] 0)).alloc (.cells #[PTR (w2.heap.size + 1), .map (some w3.heap.size), .map (some (w3.heap.size + 1)), .pointer ca] 186 (0, 0)))) := Lib.hid ((((HX12.out.then hx3).thenAlloc _).thenAlloc _).thenAlloc _)
   have HB1 : Hid (w1.heap.size ≤ w3.heap.size) := Lib.hid (HX12.out.then hx3).size
   clear htc hx3 hsz3
   go_wp2_with fail
   go_loopw [48] (fun i wr => ∃ (j : Nat) (blk : Nat → Nat) (iv : Nat → Value), j ≤ sm.length ∧ i = .int .i64 j ∧ Hid (NewAt w wr P l T sm (w3.heap.size + 2) (w2.heap.size + 1) w2.heap.size w3.heap.size (w3.heap.size + 1) (.pointer ca) j blk iv) ∧ Hid (Ext w1 wr)) (fun i _ => sm.length - (intOf i).toNat)
   case atStart => exact ⟨0, _, _, Nat.zero_le _, rfl, HN4, HX14⟩
   case round =>
    clear HN4 hmm
    obtain ⟨j, blk, iv, hj, rfl, HN, HXB⟩ := hrel
    by_cases hlt : j < sm.length
    ·have hltz : (j : Int) < (sm.length : Int) := by omega
     have hj0 : (0 : Int) ≤ (j : Int) := by omega
     obtain ⟨b1, off1, rfl, hcell1⟩ := HC1.out (by intro h; rw [h] at hlt; simp at hlt)
     obtain ⟨x, hx⟩ : ∃ y, sm[j]? = some y := ⟨_, List.getElem?_eq_getElem hlt⟩
     have d := HXB.out.cellOf (hcell1 j x hx) (fun h => h)
     have hxl := HCL.out.lt x (List.mem_of_getElem? hx)
     have hxz : (x : Int) < (l.length : Int) := by omega
     have hx0 : (0 : Int) ≤ (x : Int) := by omega
     have hr := ruleAt_eq hxl
     obtain ⟨b2, off2, rfl, hcell2⟩ := HC.out (by intro h; rw [h] at hxl; simp at hxl)
     obtain ⟨u, hu, c0, c1, c2, c3⟩ := hcell2 x (ruleAt l x) hr
     have d0 := HN.out.ext.cellOf c0 (fun h => h)
     have d1 := HN.out.ext.cellOf c1 (fun h => h)
     have d2 := HN.out.ext.cellOf c2 (fun h => h)
     have d3 := HN.out.ext.cellOf c3 (fun h => h)
     have HXJ := Lib.hid hx
     have HIN : Hid ((ruleAt l x).ins.length ≤ 1000000) := Lib.hid (by have := (HSM.out _ (List.mem_of_getElem? hr)).many; omega)
     have HU := Lib.hid (hu.ext HN.out.ext)
     obtain ⟨au, cu, rfl, _, _, _⟩ := hu
     have hrl : ∃ r, r = ruleAt l x := ⟨_, rfl⟩
     obtain ⟨r, hrr⟩ := hrl
     rw [← hrr] at d0 d1 d2 d3 HIN HU
     have HRR := Lib.hid hrr
     have HCL2 := Lib.hid (cloneRow_any (wr.alloc (.cells #[S r.out, S r.kind, S r.word, .slice au r.ins.length cu] 55 (0, 0))) _ r.ins (HU.out.ext (Only.alloc _ _ _)) HIN.out)
     clear hcell1 hcell2 hx hr c0 c1 c2 c3 hrr
     go_wp2_with fail
     refine HCL2.out.mono ?_
     rintro e w5 ⟨v5, rfl, ho5, hr5⟩
     have hza : (wr.alloc (.cells #[S r.out, S r.kind, S r.word, .slice au r.ins.length cu] 55 (0, 0))).heap.size = wr.heap.size + 1 := by simp
     have hxa : Ext wr (wr.alloc (.cells #[S r.out, S r.kind, S r.word, .slice au r.ins.length cu] 55 (0, 0))) := Only.alloc _ _ _
     have hc5 := ho5.heapOf (MapKept.heap_alloc wr (.cells #[S r.out, S r.kind, S r.word, .slice au r.ins.length cu] 55 (0, 0))).1 (fun h => h)
     have q0 : w5.cell? ⟨wr.heap.size, 3, none⟩ = some (.slice au r.ins.length cu) := (cell_of_heap hc5 3).trans rfl
     have qf := free_of_heap hc5 3
     rw [hza] at hr5
     obtain ⟨a5, c5, rfl, _, _, _⟩ := hr5.rd
     have hc6 := heap_setCell_same hc5 3 (.slice a5 r.ins.length c5)
     have HC6 : Hid ((w5.setCell ⟨wr.heap.size, 3, none⟩ (.slice a5 r.ins.length c5)).heap[wr.heap.size]? = some (.cells #[S r.out, S r.kind, S r.word, .slice a5 r.ins.length c5] 55 (0, 0))) := Lib.hid hc6
     have HO6 : Hid (Ext wr (w5.setCell ⟨wr.heap.size, 3, none⟩ (.slice a5 r.ins.length c5))) := Lib.hid ((hxa.then ho5).trans (Only.set (p := fun i => i = wr.heap.size) (.slice a5 r.ins.length c5) rfl) (fun _ _ h => h) (fun i hi e => by omega))
     have HR6 : Hid (Row wr.heap.size (w5.setCell ⟨wr.heap.size, 3, none⟩ (.slice a5 r.ins.length c5)) (.slice a5 r.ins.length c5) r.ins) := Lib.hid (rowDown ((Only.set (p := fun i => i = wr.heap.size) (.slice a5 r.ins.length c5) rfl).row hr5 (fun i e e2 => by have := (hr5.lt i e).1; omega)) (Nat.le_succ _))
     obtain ⟨w6, hw6⟩ : ∃ w6, w6 = w5.setCell ⟨wr.heap.size, 3, none⟩ (.slice a5 r.ins.length c5) := ⟨_, rfl⟩
     rw [← hw6] at HC6 HO6 HR6
     have HW6 := Lib.hid hw6.symm
     clear hza hxa hc5 hr5 ho5 hc6 hw6
     go_wp2_with fail
     rw [HW6.out]
     clear q0 qf d0 d1 d2 d3 d
     have hb6 := HN.out.bld.ext HO6.out
     have e1 := (hb6.cell 1).trans (rfl : _ = some (Value.map (some w3.heap.size)))
     have e2 := (hb6.cell 2).trans (rfl : _ = some (Value.map (some (w3.heap.size + 1))))
     have p0 := (cell_of_heap HC6.out 0).trans (rfl : _ = some (S r.out))
     have p1 := (cell_of_heap HC6.out 1).trans (rfl : _ = some (S r.kind))
     have p2 := (cell_of_heap HC6.out 2).trans (rfl : _ = some (S r.word))
     have p3 := (cell_of_heap HC6.out 3).trans (rfl : _ = some (Value.slice a5 r.ins.length c5))
     have hx7 : Ext w6 (w6.alloc (.cells #[S r.out, S r.kind, S r.word, .slice a5 r.ins.length c5, .int .i64 1, .bool false, .string ⟨#[]⟩, .nilIface] 189 (0, 0))).drew := (Only.alloc _ _ _).thenDrew
     have hb7 := hb6.ext hx7
     have hnew : ∀ k ∈ sm.take j, k ≠ x := fun k hk e => by
      subst e
      obtain ⟨t, ht, he⟩ := List.mem_take_iff_getElem.1 hk
      have := nodup_inj (clo_nodup HCL.out) (i := t) (j := j) (x := sm[t]) (List.getElem?_eq_getElem (by omega)) (by rw [HXJ.out, he])
      omega
     have hm1 : (x : Int) ∉ ((sm.take j).map fun (k : Nat) => ((k : Int), blk k)).map (·.1) := fun h => by
      simp only [List.map_map, List.mem_map, Function.comp] at h
      obtain ⟨k, hk, e⟩ := h
      exact hnew k hk (by omega)
     have hm2 : r.out ∉ ((sm.take j).map fun k => ((ruleAt l k).out, k)).map (·.1) := fun h => by
      simp only [List.map_map, List.mem_map, Function.comp] at h
      obtain ⟨k, hk, e⟩ := h
      have h1 := ruleAt_eq (HCL.out.lt k (List.mem_of_mem_take hk))
      have h2 := ruleAt_eq (HCL.out.lt x (List.mem_of_getElem? HXJ.out))
      refine hnew k hk (nodup_inj HRS.out.2.2 (x := r.out) ?_ ?_)
      ·rw [List.getElem?_map, h1]; exact congrArg some e
      ·rw [List.getElem?_map, h2, HRR.out]; rfl
     have hkl : w3.heap.size + 1 < wr.heap.size := HN.out.bld.lt _ (.inr (.inr (.inr (.inr (.inl rfl)))))
     obtain ⟨s1, s2, W1, W2, W3, W4, r1, r2, r3, r4, ml, mb, o1, o2, o4⟩ := two_entries (W := (w6.alloc (.cells #[S r.out, S r.kind, S r.word, .slice a5 r.ins.length c5, .int .i64 1, .bool false, .string ⟨#[]⟩, .nilIface] 189 (0, 0))).drew) (v1 := PTR w6.heap.size) (v2 := IN x) (k1 := IN x) (k2 := S r.out) (show w3.heap.size ≠ w3.heap.size + 1 by omega) hb7.steps hb7.outs rfl trivial (KMap.keyNot keyOk_int hm1) (KMap.keyNot keyOk_str hm2)
     have hc7 := hx7.heapOf HC6.out (fun h => h)
     have g0 := (cell_of_heap hc7 0).trans (rfl : _ = some (S r.out))
     have g1 := (cell_of_heap hc7 1).trans (rfl : _ = some (S r.kind))
     have g2 := (cell_of_heap hc7 2).trans (rfl : _ = some (S r.word))
     have g3 := (cell_of_heap hc7 3).trans (rfl : _ = some (Value.slice a5 r.ins.length c5))
     have g01 := o1.cellOf g0 (fun e => by have e' : wr.heap.size = w3.heap.size := e; omega)
     have g02 := o2.cellOf g0 (fun e => by have e' : wr.heap.size = w3.heap.size := e; omega)
     have HST : Hid (∃ blk' iv', NewAt w W4 P l T sm (w3.heap.size + 2) (w2.heap.size + 1) w2.heap.size w3.heap.size (w3.heap.size + 1) (.pointer ca) (j + 1) blk' iv') := Lib.hid (by
      have h := HRR.out
      subst h
      have hz7 : w6.heap.size < (w6.alloc (.cells #[S (ruleAt l x).out, S (ruleAt l x).kind, S (ruleAt l x).word, .slice a5 (ruleAt l x).ins.length c5, .int .i64 1, .bool false, .string ⟨#[]⟩, .nilIface] 189 (0, 0))).drew.heap.size := by
       show w6.heap.size < (w6.alloc _).heap.size
       simp
      have hsz6 := HO6.out.size
      refine HN.out.step HCL.out HXJ.out (sb := w6.heap.size) (v := .slice a5 (ruleAt l x).ins.length c5) (((HO6.out.then hx7).mono (fun _ _ h => h.elim)).then o4) hsz6 ?_ ?_ ml mb
      ·exact o4.heapOf (MapKept.heap_alloc w6 _).1 (fun e => by have e' : w6.heap.size = w3.heap.size ∨ w6.heap.size = w3.heap.size + 1 := e; omega)
      ·exact o4.row (HR6.out.ext hx7) (fun i hi e => by
        have := (HR6.out.lt i hi).1
        have e' : i = w3.heap.size ∨ i = w3.heap.size + 1 := e
        omega))
     have HXF : Hid (Ext w1 W4) := Lib.hid ((HXB.out.then (HO6.out.then hx7)).trans o4 (fun _ _ h => h) (fun i hi e => by
      have e' : i = w3.heap.size ∨ i = w3.heap.size + 1 := e
      have := HB1.out
      omega))
     have hb0 := hb6.ext (Only.drew (fun _ => False) w6)
     obtain ⟨t1, t2, U1, U2, U3, U4, y1, y2, y3, y4, nl, nb, z1, z2, z4⟩ := two_entries2 (W := w6.drew) (.cells #[S r.out, S r.kind, S r.word, .slice a5 r.ins.length c5, .int .i64 1, .bool false, .string ⟨#[]⟩, .nilIface] 189 (0, 0)) (v2 := IN x) (k1 := IN x) (k2 := S r.out) (show w3.heap.size ≠ w3.heap.size + 1 by omega) hb0.steps hb0.outs rfl trivial (KMap.keyNot keyOk_int hm1) (KMap.keyNot keyOk_str hm2)
     have hcu : U1.heap[wr.heap.size]? = _ := z1.heapOf ((Only.drew (fun _ => False) w6).heapOf HC6.out (fun h => h)) (fun e => by have e' : wr.heap.size = w3.heap.size := e; omega)
     have i0 := (cell_of_heap hcu 0).trans (rfl : _ = some (S r.out))
     have i1 := (cell_of_heap hcu 1).trans (rfl : _ = some (S r.kind))
     have i2 := (cell_of_heap hcu 2).trans (rfl : _ = some (S r.word))
     have i3 := (cell_of_heap hcu 3).trans (rfl : _ = some (Value.slice a5 r.ins.length c5))
     have xu : Ext U1 (U1.alloc (.cells #[S r.out, S r.kind, S r.word, .slice a5 r.ins.length c5, .int .i64 1, .bool false, .string ⟨#[]⟩, .nilIface] 189 (0, 0))) := Only.alloc _ _ _
     have j0 := xu.cellOf i0 (fun h => h)
     have j02 := z2.cellOf j0 (fun e => by have e' : wr.heap.size = w3.heap.size := e; omega)
     have e17 := (hb7.cell 1).trans (rfl : _ = some (Value.map (some w3.heap.size)))
     have e27 := (hb7.cell 2).trans (rfl : _ = some (Value.map (some (w3.heap.size + 1))))
     have hou : Only (fun k => k = w3.heap.size ∨ k = w3.heap.size + 1) w6 U4 := ((Only.ext (((Only.drew (fun k => k = w3.heap.size ∨ k = w3.heap.size + 1) w6)).then (z1.mono (fun _ _ h => .inl h))) xu)).then z4
     have HSU : Hid (∃ blk' iv', NewAt w U4 P l T sm (w3.heap.size + 2) (w2.heap.size + 1) w2.heap.size w3.heap.size (w3.heap.size + 1) (.pointer ca) (j + 1) blk' iv') := Lib.hid (by
      have h := HRR.out
      subst h
      have hsz6 := HO6.out.size
      have hsu : w6.heap.size ≤ U1.heap.size := z1.size
      refine HN.out.step HCL.out HXJ.out (sb := U1.heap.size) (v := .slice a5 (ruleAt l x).ins.length c5) ((HO6.out.mono (fun _ _ h => h.elim)).then hou) (by omega) ?_ ?_ nl nb
      ·exact z4.heapOf (MapKept.heap_alloc U1 _).1 (fun e => by have e' : U1.heap.size = w3.heap.size ∨ U1.heap.size = w3.heap.size + 1 := e; omega)
      ·exact hou.row HR6.out (fun i hi e => by
        have := (HR6.out.lt i hi).1
        have e' : i = w3.heap.size ∨ i = w3.heap.size + 1 := e
        omega))
     have HXU : Hid (Ext w1 U4) := Lib.hid ((HXB.out.then HO6.out).trans hou (fun _ _ h => h) (fun i hi e => by
      have e' : i = w3.heap.size ∨ i = w3.heap.size + 1 := e
      have := HB1.out
      omega))
     clear hb6 hx7 hb7 hb0 hnew hm1 hm2 hkl ml mb o1 o2 o4 hc7 nl nb z1 z2 z4 hcu xu hou
     go_region
     all_goals
      go_wp2_with fail
      go_roundw
      case rel =>
       first
        | (obtain ⟨blk', iv', h⟩ := HST.out; exact ⟨j + 1, blk', iv', by omega, by go_num, Lib.hid h, HXF⟩)
        | (obtain ⟨blk', iv', h⟩ := HSU.out; exact ⟨j + 1, blk', iv', by omega, by go_num, Lib.hid h, HXU⟩)
      case measure => simp [intOf]; omega
    ·have hltz : ¬ (j : Int) < (sm.length : Int) := by omega
     go_wp2_with fail
     go_ret2
     refine HFP.out _ _ ⟨_, _, rfl, ?_, HN.out.ext, .inr ⟨?_, ⟨w3.heap.size + 2, w2.heap.size + 1, w2.heap.size, w3.heap.size, w3.heap.size + 1, .pointer ca, blk, iv⟩, rfl, rfl, ?_⟩⟩
     ·exact .inl ⟨by rw [HF.out]; exact HN0.out, rfl⟩
     ·rw [HF.out]; exact HN0.out
     ·have h := HN.out.bld
      rw [show j = sm.length by omega, List.take_length, HSMQ.out] at h
      exact h
end Go.Proofs.YtnmhaipjfpongacGreatDoor
