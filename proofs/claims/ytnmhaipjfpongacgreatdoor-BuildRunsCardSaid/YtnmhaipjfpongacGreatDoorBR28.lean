/- Texts of this seat laid together for one claim: G11, I5, Z17. No condition of its own: what each proves stands with its theorems. -/
import Derived.Test.YtnmhaipjfpongacGreatDoorBR20
import Derived.Test.YtnmhaipjfpongacGreatDoorBR21
import Derived.WideKeyEntry
import Derived.Test.YtnmhaipjfpongacGreatDoorBR12
import Derived.Test.YtnmhaipjfpongacGreatDoorBR25
namespace Go.Proofs.YtnmhaipjfpongacGreatDoor
open Go.ChangeShapes Go.WideShapes Go.ChangeAt Go.RowKit

theorem enters_Part1 : ∀ args w, (callFunc 164 args).run Tryz.prog w = .ok (.enter 164 args) w := fun args w => by kernel_rfl

theorem any_natP (l : List Nat) (j : Nat) : (l.map fun k : Nat => (k : Int)).any (fun y => (j : Int) == y) = l.contains j := by
 rw [Bool.eq_iff_iff, List.any_eq_true, List.contains_eq_mem, decide_eq_true_eq]
 constructor
 ·rintro ⟨x, hx, e⟩
  obtain ⟨k, hk, rfl⟩ := List.mem_map.1 hx
  rw [beq_iff_eq] at e
  have : j = k := by omega
  rw [this]; exact hk
 ·intro h
  exact ⟨(j : Int), List.mem_map.2 ⟨j, h, rfl⟩, beq_iff_eq.2 rfl⟩

theorem Part1_test (w : World) (bx : Nat) (lv : Value) (l : List Nat) (j : Nat) (hb : w.cell? ⟨bx, 0, none⟩ = some lv) (hr : Rd IN w lv l) :
  Calls Tryz.prog 164 #[I j, .pointer (some ⟨bx, 0, none⟩)] w (RetE (.bool (l.contains j)) w) := by
 have HI := Lib.hid (containsI_any w lv _ (j : Int) hr.ints)
 rw [any_natP] at HI
 generalize l.contains j = q at HI ⊢
 obtain ⟨a, cap, rfl, _, _, _⟩ := hr
 go_enter Tryz.func164, Tryz.ntmps164
 go_wp2_with fail
 refine (HI.out).mono ?_
 rintro e w1 ⟨rfl, rfl⟩
 go_wp2_with fail
 go_ret
 exact ⟨rfl, Only.refl _ _⟩

def partB (l : List Rule) (sm : List Nat) : Option (List Nat) := orderB l.length (needB l) (fun i => sm.contains i)
def partFault (l : List Rule) (sm : List Nat) : Nat × Int := if (partB l sm).isSome then (0, -1) else (9, -1)

set_option maxRecDepth 100000 in
set_option maxHeartbeats 4000000 in
theorem graphPart_any (w : World) (P : Nat → Addr) (l : List Rule) (v sv : Value) (sm : List Nat) (hv : RdR w v l) (hr : RightS l) (hs : ∀ r ∈ l, r.ins.length ≤ 900000) (hsm : Rd IN w sv sm) (hE : Errs w P [8]) :
  Calls Tryz.prog 94 #[v, sv] w (RetOE P (partFault l sm) ((partB l sm).getD []) w) := by
 have HRD := Lib.hid hv
 have HSM := Lib.hid hsm
 have HR := Lib.hid hr
 have HS := Lib.hid hs
 have HEE := Lib.hid hE
 have h40 := hr.1
 obtain ⟨a, cap, rfl, _, _, _⟩ := hv
 obtain ⟨a2, cap2, rfl, _, _, _⟩ := hsm
 have HB0 := Lib.hid ((MapKept.heap_alloc w (.cells #[.slice a2 sm.length cap2] 46 (0, 0))).1)
 have HX0 : Hid (Ext w (w.alloc (.cells #[.slice a2 sm.length cap2] 46 (0, 0)))) := Lib.hid (Only.alloc _ _ _)
 have HED := Lib.hid (edges_any _ l _ (HRD.out.ext HX0.out) HR.out HS.out)
 obtain ⟨F, hF⟩ : ∃ F, F = partFault l sm := ⟨_, rfl⟩
 obtain ⟨O, hO⟩ : ∃ O, O = (partB l sm).getD [] := ⟨_, rfl⟩
 rw [← hF, ← hO]
 unfold partFault at hF
 have HF := Lib.hid hF
 have HO := Lib.hid hO
 clear hF hO hr hs hE
 go_enter Tryz.func94, Tryz.ntmps94
 go_wp2_with fail
 refine HED.out.mono ?_
 rintro e w2 ⟨v2, rfl, hll, ho⟩
 have hb2 := cell_of_heap (ho.heapOf HB0.out (fun h => h)) 0
 have hor := order1_any 164 (.pointer (some ⟨w.heap.size, 0, none⟩)) (fun i => sm.contains i) w2 v2 l.length (needB l) (by omega) hll enters_Part1
  (fun w3 hx i _ => Part1_test w3 w.heap.size _ sm i (hx.cellOf (hb2.trans rfl) (fun h => h)) (HSM.out.ext ((HX0.out.then ho).then hx)))
 change Calls _ _ _ _ (RetOrder (partB l sm) w2) at hor
 have HOR := Lib.hid hor
 have HX2 := Lib.hid (HX0.out.then ho)
 have HLL := Lib.hid hll
 obtain ⟨a3, c3, rfl, _, _, _⟩ := HLL.out
 rw [List.length_map, List.length_range] at HOR ⊢
 clear hor hb2 ho hll
 cases hol : partB l sm with
 | none =>
  have hF2 := HF.out
  have hO2 := HO.out
  rw [hol] at HOR hF2 hO2
  clear HF HO
  have hF3 : F = (9, -1) := hF2
  have hO3 : O = [] := hO2
  subst hF3
  subst hO3
  clear hol hF2 hO2
  go_wp2_with fail
  refine (HOR.out).mono ?_
  rintro e w3 ⟨v3, rfl, hrow, ho⟩
  have HX3 := Lib.hid (HX2.out.then ho)
  have HROW := Lib.hid hrow
  clear hrow ho
  have c0 := (HEE.out.ext HX3.out).var 8 _ (by decide) rfl
  go_wp2_with fail
  go_quiet (fail)
  go_wp2_with fail
  go_ret2
  exact ⟨_, _, rfl, RowI.nil _ _, .inr (.inl ⟨by decide, rfl, rfl⟩), HX3.out.thenDrewN _⟩
 | some o =>
  have hF2 := HF.out
  have hO2 := HO.out
  rw [hol] at HOR hF2 hO2
  clear HF HO
  have hF3 : F = (0, -1) := hF2
  have hO3 : O = o := hO2
  subst hF3
  subst hO3
  clear hol hF2 hO2
  go_wp2_with fail
  refine (HOR.out).mono ?_
  rintro e w3 ⟨v3, rfl, hrow, ho⟩
  have HX3 := Lib.hid (HX2.out.then ho)
  have HROW := Lib.hid hrow
  clear hrow ho
  obtain ⟨a4, c4, rfl, _, _, _⟩ := HROW.out.rd
  go_wp2_with fail
  go_ret2
  exact ⟨_, _, rfl, HROW.out.down HX2.out.size, ErrAt.nil _ _ _, HX3.out⟩
end Go.Proofs.YtnmhaipjfpongacGreatDoor

namespace Go.Proofs.YtnmhaipjfpongacGreatDoor

open Classical in
noncomputable def reachB (l : List Rule) (outs : List B) (i : Nat) : Bool := decide (Reach (needB l) (needKs l outs) i)
open Classical in
theorem reachB_iff {l : List Rule} {outs : List B} {i : Nat} : reachB l outs i = true ↔ Reach (needB l) (needKs l outs) i := by
 unfold reachB
 exact decide_eq_true_iff
noncomputable def needL (l : List Rule) (outs : List B) : List Nat := (List.range l.length).filter (reachB l outs)
theorem mem_needL {l : List Rule} {outs : List B} {i : Nat} : i ∈ needL l outs ↔ i < l.length ∧ Reach (needB l) (needKs l outs) i := by
 unfold needL
 rw [List.mem_filter, List.mem_range, reachB_iff]
theorem needOk_eq {l : List Rule} {outs : List B} {out : List Nat} (h : NeedOk l.length (needB l) (needKs l outs) out) : out = needL l outs := by
 obtain ⟨N, rfl, hN⟩ := h
 unfold needL
 refine List.filter_congr fun i hi => ?_
 rw [Bool.eq_iff_iff, hN i (List.mem_range.1 hi), reachB_iff]
theorem needL_rise (l : List Rule) (outs : List B) : (needL l outs).Pairwise fun x y => x < y := List.pairwise_lt_range.filter _

structure Clo (l : List Rule) (sm : List Nat) : Prop where
 lt : ∀ i ∈ sm, i < l.length
 rise : sm.Pairwise fun x y => x < y
 clos : ∀ i ∈ sm, ∀ k, k < l.length → needB l i k = true → k ∈ sm
theorem Clo.need (l : List Rule) (outs : List B) : Clo l (needL l outs) :=
 ⟨fun _ hi => (mem_needL.1 hi).1, needL_rise l outs, fun _ hi _ hk hn => mem_needL.2 ⟨hk, .step (mem_needL.1 hi).2 hn⟩⟩

theorem order_covers {n : Nat} {nd : Nat → Nat → Bool} {is : Nat → Bool} {o : List Nat} (h : orderB n nd is = some o) {i : Nat} (hi : i < n) (his : is i = true) : i ∈ o := by
 obtain ⟨h1, h2⟩ := orderB_some h
 refine Classical.byContradiction fun hn => ?_
 have h3 : (i :: o).Nodup := List.nodup_cons.2 ⟨hn, h1.nodup⟩
 have h4 := nodup_len (b := (List.range n).filter is) h3 fun x hx => by
  rcases List.mem_cons.1 hx with rfl | hx
  ·exact List.mem_filter.2 ⟨List.mem_range.2 hi, his⟩
  ·exact List.mem_filter.2 ⟨List.mem_range.2 (h1.lt x hx), h1.is x hx⟩
 rw [List.length_cons, h2] at h4
 unfold manyB at h4
 omega

def ruleAt (l : List Rule) (i : Nat) : Rule := (l[i]?).getD ⟨[], [], [], []⟩
theorem ruleAt_eq {l : List Rule} {i : Nat} (h : i < l.length) : l[i]? = some (ruleAt l i) := by
 unfold ruleAt
 rw [List.getElem?_eq_getElem h]
 rfl

section
variable {l : List Rule} {sm : List Nat}
theorem clo_nodup (h : Clo l sm) : sm.Nodup := h.rise.imp fun h => Nat.ne_of_lt h
theorem find_outI {l : List Rule} (hn : (l.map Rule.out).Nodup) {i : Nat} {r : Rule} (h : l[i]? = some r) : l.findIdx? (fun q => q.out == r.out) = some i := by
 obtain ⟨h1, h2⟩ := List.getElem?_eq_some_iff.1 h
 rw [List.findIdx?_eq_some_iff_getElem]
 refine ⟨h1, by rw [h2]; exact beq_iff_eq.2 rfl, fun j hj => ?_⟩
 rw [Bool.not_eq_true]
 refine beq_eq_false_iff_ne.2 fun e => ?_
 have := nodup_inj hn (i := j) (j := i) (x := r.out) (by rw [List.getElem?_map, List.getElem?_eq_getElem (by omega), Option.map_some, e]) (by rw [List.getElem?_map, h]; rfl)
 omega
theorem madeI_at {l : List Rule} (hn : (l.map Rule.out).Nodup) {i : Nat} {r : Rule} (h : l[i]? = some r) : madeI l r.out = i := by
 unfold madeI idx
 rw [find_outI hn h]
 exact Int.toNat_natCast i
theorem made_find {l : List Rule} {s : B} (h : madeB l s = true) : ∃ (i : Nat) (r : Rule), l[i]? = some r ∧ r.out = s := by
 unfold madeB at h
 obtain ⟨r, hr, e⟩ := List.any_eq_true.1 h
 obtain ⟨i, hi⟩ := List.getElem?_of_mem hr
 exact ⟨i, r, hi, beq_iff_eq.1 e⟩
end

end Go.Proofs.YtnmhaipjfpongacGreatDoor

namespace Go.Proofs.YtnmhaipjfpongacGreatDoor
open Go.ChangeShapes Go.WideShapes Go.ChangeAt Go.RowKit
open Go.MapKept (findNow_spec IsKey Stamped bytes_beq stamped_empty stamped_push stamped_modify stamped_erase run_checkKey run_findKey run_keyThatStays heap_set heap_alloc)
open Go.ChangeMaps (setBlock)

section
variable {d : TypeDesc} {P : Program} {w : World} {b : Nat} {l : List (Value × Value)} {t kt et : TypeId}
theorem heap_setBlock_same {W : World} {b : Nat} {o o' : Obj} (h : W.heap[b]? = some o') : (setBlock W b o).heap[b]? = some o := by
 have := lt_of_heap h
 simp [setBlock, this]
theorem heap_setBlock_ne {W : World} {b c : Nat} (o : Obj) (h : c ≠ b) : (setBlock W b o).heap[c]? = W.heap[c]? := by
 simp only [setBlock]
 rw [Array.getElem?_setIfInBounds_ne (Ne.symm h)]

structure NewEntry (P : Program) (d : TypeDesc) (t : TypeId) (b : Nat) (l : List (Value × Value)) (k z v : Value) (es : Array MapEntry) (c st : Nat) (es1 es2 : Array MapEntry) (c1 : Nat) : Prop where
 lay : ∀ W : World, W.heap[b]? = some (.map es c) → (Instr.mapEntry t (.map (some b)) k).run P W = .ok (.tuple #[z, goInt st]) (setBlock W b (.map es1 c1))
 fill : ∀ W : World, W.heap[b]? = some (.map es1 c1) → (Instr.entryStore t (.map (some b)) (goInt st) v).run P W = .ok () (setBlock W b (.map es2 c1))
 done : ∀ W : World, W.heap[b]? = some (.map es2 c1) → MapAt d W b ((k, v) :: l)

theorem MapAt.entry (h : MapAt d w b l) (ht : P.underlying t = some (.map kt et)) (hk : P.underlying kt = some d) {k z : Value} (v : Value) (hz : ∀ W : World, (zeroValue et).run P W = .ok z W) (hkey : IsKey d k) (hm : k ∉ l.map (·.1)) :
  ∃ es c st es1 es2 c1, w.heap[b]? = some (.map es c) ∧ NewEntry P d t b l k z v es c st es1 es2 c1 := by
 obtain ⟨es, clock, h1, h2, h3, h4, h5⟩ := h
 have hks : ∀ x ∈ es.toList, IsKey d x.key := fun x hx => h3 (x.key, x.val) (h2.mem_iff.1 (List.mem_map.2 ⟨x, hx, rfl⟩))
 rcases findNow_spec hkey es.toList 0 hks with ⟨f1, f2⟩ | ⟨j, e, f1, f2, f3⟩
 ·refine ⟨es, clock, clock, es.push ⟨k, z, clock⟩, es.push ⟨k, v, clock⟩, clock + 1, h1, ⟨fun W hW => ?_, fun W hW => ?_, fun W hW => ⟨_, _, hW, ?_, ?_, ?_, stamped_push h5 f2⟩⟩⟩
  ·simp [Instr.mapEntry, run_underlying ht, MapKept.run_getObj_map hW, run_checkKey hk hkey, run_findKey hk f1, hz, MapKept.run_setObj_map _ hW, Result.andThen, setBlock]
  ·have hn : ((es.push ⟨k, z, clock⟩).toList.map (·.born)).Nodup := (stamped_push (val := z) h5 f2).2.1
   have hidx : (es.push ⟨k, z, clock⟩).findIdx? (fun e => ((e.born : Nat) : Int) == ((clock : Nat) : Int)) = some es.size := by
    rw [Go.WideElems.findIdx_arr]
    exact Go.WideElems.findIdx_born (e0 := ⟨k, z, clock⟩) hn (by simp)
   have hmod : (es.push ⟨k, z, clock⟩).modify es.size (fun e => { e with val := v }) = es.push ⟨k, v, clock⟩ := by
    apply Array.ext'
    rw [Array.toList_modify]
    simp only [Array.toList_push]
    have := Go.WideElems.modify_last (fun e : MapEntry => { e with val := v }) ⟨k, z, clock⟩ es.toList
    simpa using this
   simp [Instr.entryStore, MapKept.run_getObj_map hW, asInt, asIntOf, goInt, hidx, hmod, MapKept.run_setObj_map _ hW, Result.andThen, setBlock]
  ·simp only [Array.toList_push, List.map_append, List.map_cons, List.map_nil]
   exact List.perm_append_singleton _ _ |>.trans (h2.cons _)
  ·intro x hx
   rcases List.mem_cons.1 hx with rfl | hx
   ·exact hkey
   ·exact h3 x hx
  ·simpa using ⟨by simpa using hm, h4⟩
 ·exact absurd ((MapAt.keyMem h2).1 ⟨e, List.mem_of_getElem? f2, f3⟩) hm
end

theorem cloneRow_any (w : World) (v : Value) (l : List B) (h : Rd S w v l) (hl : l.length ≤ 1000000) : Calls Tryz.prog 111 #[v] w (RetRow l w) := by
 obtain ⟨a, cap, rfl, h1, h2, h3⟩ := h
 cases l with
 | nil =>
  cases a with
  | none => exact (Tryz.slices_Clone_string_nil 0 cap w).mono fun e w' ⟨h, h'⟩ => ⟨_, h, by rw [h']; exact Only.refl _ _, Row.nil _ _⟩
  | some a => exact (Tryz.slices_Clone_string_zero a cap w).mono fun e w' ⟨v', h, ho, _, hb⟩ => ⟨v', h, Only.of_below hb, ho⟩
 | cons x r =>
  obtain ⟨b, off, rfl, hc⟩ := h3 (by simp)
  refine (Tryz.slices_Clone_string b off (x :: r).length cap ((x :: r).map fun s => ⟨s.toArray⟩) w (by simp) (by omega) (fun j hj => ?_)).mono fun e w' ⟨v', h, ho, _, hb⟩ => ⟨v', h, Only.of_below hb, ?_⟩
  ·have hj' : j < (x :: r).length := by simpa using hj
   rw [hc j _ (List.getElem?_eq_getElem hj')]
   rw [List.getD_eq_getElem?_getD, List.getElem?_map, List.getElem?_eq_getElem hj']
   rfl
  ·have e1 : ((((x :: r).map fun s : B => (⟨s.toArray⟩ : ByteArray)).take (x :: r).length).map Value.string) = (x :: r).map S := by
    rw [List.take_of_length_le (by simp), List.map_map]; rfl
   rw [e1] at ho
   exact ho

noncomputable def newFault (l : List Rule) (outs : List B) : Nat × Int := if (needFault l outs).1 ≠ 0 then needFault l outs else partFault l (needL l outs)
noncomputable abbrev newE (l : List Rule) (outs : List B) (T : FL) : BE := ⟨l, needL l outs, T⟩
def RetNew (P : Nat → Addr) (l : List Rule) (outs : List B) (T : FL) (cp : Value) (w : World) (e : Ending) (w' : World) : Prop :=
 ∃ v ev, e = .returned (.tuple #[v, ev]) ∧ ErrAt w' P (newFault l outs) ev ∧ Ext w w' ∧
  (((newFault l outs).1 ≠ 0 ∧ v = .pointer none) ∨ ((newFault l outs).1 = 0 ∧ ∃ K : BK, v = PTR K.b ∧ K.cp = cp ∧ BldAt w' P w.heap.size (newE l outs T) K .new))

theorem newFault_ok {l : List Rule} {outs : List B} (h : (newFault l outs).1 = 0) : RightS l ∧ (∀ s ∈ outs, madeB l s = true) ∧ ∃ o, partB l (needL l outs) = some o := by
 unfold newFault at h
 by_cases h0 : (needFault l outs).1 = 0
 ·rw [if_neg (by simpa using h0)] at h
  have hs : (sheetFault l).1 = 0 := by
   unfold needFault at h0
   by_cases h1 : (sheetFault l).1 = 0
   ·exact h1
   ·rw [if_pos h1] at h0; exact absurd h0 h1
  refine ⟨sheet_ok.1 hs, fun s hso => ?_, ?_⟩
  ·unfold needFault at h0
   rw [if_neg (by rw [hs]; simp)] at h0
   cases hb : badOf l outs with
   | some i => rw [hb] at h0; cases h0
   | none =>
    unfold badOf at hb
    rw [List.findIdx?_eq_none_iff] at hb
    simpa using hb s hso
  ·unfold partFault at h
   cases hp : partB l (needL l outs) with
   | some o => exact ⟨o, rfl⟩
   | none => rw [hp] at h; cases h
 ·rw [if_pos h0] at h
  exact absurd h h0
theorem new_well {l : List Rule} {outs : List B} {T : FL} {o : List Nat} (hr : RightS l) (hp : partB l (needL l outs) = some o) (hT : ∀ p s, T.lookup p = some s → s.length ≤ 2000) : BWell (newE l outs T) o (fun i => (needL l outs).contains i) := by
 have hc := Clo.need l outs
 exact ⟨hr, (orderB_some hp).1, hc.lt, fun i hi => order_covers hp (hc.lt i hi) (by simpa using hi), hc.clos, hc.rise, hT⟩
end Go.Proofs.YtnmhaipjfpongacGreatDoor
