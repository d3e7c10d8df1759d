/- Texts of this seat laid together for one claim: Sc11, Sc12. No condition of its own: what each proves stands with its theorems. -/
import Derived.Test.YtnmhaipjfpongacGreatDoorSR5
import Derived.Test.YtnmhaipjfpongacGreatDoorSR47
import Derived.Test.YtnmhaipjfpongacGreatDoorSR42
namespace Go.Proofs.YtnmhaipjfpongacGreatDoor
open Go.ChangeShapes Go.WideShapes Go.ChangeAt Go.RowKit

def ErrTexts (w : World) (P : Nat → Addr) : Prop := ∀ i, i < 12 → w.cell? (P i) = some (S (errB (i + 1)))
theorem ErrTexts.ext {w w' : World} {P : Nat → Addr} (h : ErrTexts w P) (ho : Ext w w') : ErrTexts w' P := fun i hi => ho.cellOf (h i hi) (fun h => h)
set_option maxRecDepth 100000 in
set_option maxHeartbeats 4000000 in
theorem bare_any (w : World) (P : Nat → Addr) (hs : Sents w P) (ev : Value) (f : Nat × Int) (he : ErrAt w P f ev) (h0 : f.1 ≠ 0) : Calls Tryz.prog 150 #[ev] w (RetE (errV (P (f.1 - 1))) w) := by
 rcases he with ⟨e0, _⟩ | ⟨_, _, rfl⟩ | ⟨_, _, b, rfl, hb⟩
 ·exact absurd e0 h0
 ·have HS := Lib.hid hs
  clear hs h0
  generalize P (f.1 - 1) = a
  go_enter Tryz.func150, Tryz.ntmps150
  go_wp2_with fail
  refine (as_miss a ⟨w.heap.size, 0, none⟩ _ ((Only.alloc (fun _ => False) w _).cellOf HS.out.typ (fun h => h))).mono ?_
  rintro e w2 ⟨rfl, ho⟩
  have HX2 : Hid (Ext w w2) := Lib.hid ((Only.alloc (fun _ => False) w _).ext ho)
  clear ho
  go_wp2_with fail
  go_ret
  exact ⟨rfl, HX2.out⟩
 ·have HS := Lib.hid hs
  have HA1 := Lib.hid ((cell_of_heap hb 1).trans (rfl : _ = some (errV (P (f.1 - 1)))))
  clear hs h0 hb
  generalize P (f.1 - 1) = a at HA1 ⊢
  go_enter Tryz.func150, Tryz.ntmps150
  go_wp2_with fail
  refine (as_hit ⟨b, 0, none⟩ ⟨w.heap.size, 0, none⟩ (.pointer none) _ ((Only.alloc (fun _ => False) w _).cellOf HS.out.typ (fun h => h)) (by simp) (by simp)).mono ?_
  rintro e w2 ⟨rfl, hw2⟩
  have hb2 : w2.cell? ⟨w.heap.size, 0, none⟩ = some (.pointer (some ⟨b, 0, none⟩)) := by
   rw [hw2]
   refine cell_set_same _ _ _ (Only.cellOf (p := fun _ => False) ?_ ((cell_of_heap (MapKept.heap_alloc w (.cells #[.pointer none] 226)).1 0).trans rfl) (fun h => h)) rfl
   repeat' (first | with_reducible exact Only.refl _ _ | apply Only.thenAlloc)
  have h2 : Ext w w2 := by
   rw [hw2]
   refine Only.thenSet ?_ _ (.inr (Nat.le_refl _))
   repeat' (first | with_reducible exact Only.refl _ _ | apply Only.thenAlloc)
  clear hw2
  have c1 := h2.cellOf HA1.out (fun h => h)
  have HX2 := Lib.hid h2
  clear h2
  go_wp2_with fail
  go_ret
  exact ⟨rfl, HX2.out⟩
set_option maxRecDepth 100000 in
set_option maxHeartbeats 2000000 in
theorem errorText_any (w : World) (a : Addr) (s : B) (ha : w.cell? a = some (S s)) : Calls Tryz.prog 395 #[.pointer (some a)] w (RetS (S s) w) := by
 obtain ⟨b, o, sp⟩ := a
 cases sp with
 | some k =>
  exfalso
  unfold World.cell? at ha
  cases hh : w.heap[b]? with
  | none => rw [hh] at ha; cases ha
  | some ob =>
   rw [hh] at ha
   cases ob <;> simp at ha
 | none =>
  go_enter Tryz.func395, Tryz.ntmps395
  go_wp2_with fail
  go_ret
  exact ⟨rfl, rfl⟩
theorem wpTextP {P : Program} (hP : P = Tryz.prog) {ops : Array Oper} {rest : List Oper} {o : Oper} {a : Act} {Q : Exit → Act → World → Prop} (s x : Operand) (base : Nat) (v : Value) (l : List B) (k : B) (W : World) (hgd : o.guard = none)
  (ho : o.op = .call { callee := .builtin .append, args := #[s, x], argTypes := #[53, 53] }) (hs : a.eval s = v) (hx : a.eval x = .slice (some ⟨W.heap.size, 0, none⟩) 1 1)
  (hrow : Row base W v l) (hl : l.length ≤ 1000000) (hbase : base ≤ W.heap.size)
  (hK : ∀ g cap w', Hid (Row base w' (.slice (some ⟨g, 0, none⟩) (l.length + 1) cap) (l ++ [k])) → Hid (W.grownBy w' v.ownBlock) → Hid (∀ i, Value.ownBlock (.slice (some ⟨g, 0, none⟩) (l.length + 1) cap) = some i → v.ownBlock = some i ∨ W.heap.size ≤ i) →
   wpList P ops Q rest (a.put o.dst (.slice (some ⟨g, 0, none⟩) (l.length + 1) cap)) w') :
  wpList P ops Q (o :: rest) a (W.alloc (.cells #[S k] 9 (0, 0))) := by
 subst hP
 refine wpList_appS (fun s => [S s]) 53 9 1 16 _ infoStr Tryz.underlying53 rfl (by decide) (fun _ => rfl) (fun _ u hu => by cases List.mem_singleton.1 hu; rfl) (by decide) s x base v l k W _ rfl hgd ho hs hx (by rw [flat_one]; exact hrow) hl hbase ?_
 intro g cap w' h1 h2 h3
 rw [flat_one] at h1
 refine hK g cap w' (Lib.hid ?_) (Lib.hid h2) (Lib.hid h3)
 show World.ownsRow _ _ _ _ _ (l ++ [k]).length _
 rw [List.length_append]
 exact h1
theorem method_Error (a : Value) (w : World) : (Go.method 529 390 a "Error").run Tryz.prog w = .ok (395, a) w := by kernel_rfl
def RetRun (ss : List B) (w : World) (e : Ending) (w' : World) : Prop := ∃ v, e = .returned (.tuple #[v, .nilIface]) ∧ Row w.heap.size w' v ss ∧ Ext w w'
structure ScGo (w0 : World) (n pb bs : Nat) (y : YS) (cs : List B) (qv : Value) (wr : World) : Prop where
 at_ : ∃ D, ScAt w0 wr D n pb y ∧ (∀ i, D i → w0.heap.size ≤ i) ∧ ∀ i, qv.ownBlock = some i → ¬ D i ∧ i ≠ pb
 row : Row bs wr qv cs
 pge : w0.heap.size ≤ pb
section
variable {w0 w w' wr : World} {D : Nat → Prop} {n pb bs : Nat} {y y' : YS} {cs : List B} {qv qv' : Value} {P : Nat → Addr} {R : Act1}
theorem ScGo.ext (h : ScGo w0 n pb bs y cs qv wr) : Ext w0 wr := by
 obtain ⟨D, h1, _⟩ := h.at_
 exact h1.ext
theorem ScGo.grow (h : ScGo w0 n pb bs y cs qv wr) (ho : Ext wr w') : ScGo w0 n pb bs y cs qv w' := by
 obtain ⟨D, h1, h2, h3⟩ := h.at_
 exact ⟨⟨D, h1.grow ho, h2, h3⟩, ho.row h.row (fun _ _ h => h), h.pge⟩
theorem ScAt.other {q : Nat → Prop} (h : ScAt w0 w D n pb y) (ho : Only q w w') (hq : ∀ i, q i → w0.heap.size ≤ i ∧ ¬ D i ∧ i ≠ pb) : ScAt w0 w' D n pb y := by
 obtain ⟨sv, lv, hy⟩ := h.at_
 exact ⟨⟨sv, lv, hy.other ho (fun i e => ⟨(hq i e).1, (hq i e).2.1⟩)⟩, h.ok, ho.heapOf h.p (fun e => (hq pb e).2.2 rfl), h.pd⟩
theorem ScGo.push {c : B} (h : ScGo w0 n pb bs y cs qv wr) (hb : w0.heap.size ≤ bs) (hr : Row bs w' qv' (cs ++ [c])) (hg : wr.grownBy w' qv.ownBlock) (hn : ∀ i, qv'.ownBlock = some i → qv.ownBlock = some i ∨ wr.heap.size ≤ i) : ScGo w0 n pb bs y (cs ++ [c]) qv' w' := by
 obtain ⟨D, h1, h2, h3⟩ := h.at_
 have ho : Only (fun i => qv.ownBlock = some i) wr w' := Only.of_grown hg
 refine ⟨⟨D, h1.other ho (fun i e => ⟨by have := (h.row.lt i e).1; omega, h3 i e⟩), h2, fun i e => ?_⟩, hr, h.pge⟩
 rcases hn i e with k | k
 ·exact h3 i k
 ·refine ⟨fun e2 => ?_, fun e2 => ?_⟩
  ·have := h1.lt i e2; omega
  ·have := lt_of_heap h1.p; omega
def RetGo (P : Nat → Addr) (w0 : World) (n pb bs : Nat) (R : Act1) (cs : List B) (qv : Value) (e : Ending) (w' : World) : Prop :=
 ∃ sv ev at_, e = .returned (.tuple #[S sv, ev]) ∧ ErrAt w' P (R.2.2, at_) ev ∧ (R.2.2 = 0 → sv = R.2.1) ∧ ScGo w0 n pb bs R.1 cs qv w'
theorem ScGo.play (h : ScGo w0 n pb bs y cs qv wr) (s : B) (hs : s.length ≤ 999) (hV : PVS w0 P) : Calls Tryz.prog 149 #[PTR pb, S s] wr (RetGo P w0 n pb bs (playS y s) cs qv) := by
 obtain ⟨D, h1, h2, h3⟩ := h.at_
 refine (playerPlay_any h1 s hs hV).mono ?_
 rintro e w' ⟨sv, ev, at_, rfl, he, hsv, D2, k1, k2⟩
 refine ⟨sv, ev, at_, rfl, he, hsv, ⟨D2, k1, fun i e => (k2.2 i e).elim (h2 i) (fun e => by have := h1.ext.size; omega), fun i e => ⟨fun e2 => ?_, (h3 i e).2⟩⟩, k2.1.row h.row (fun i e e2 => (h3 i e).1 e2), h.pge⟩
 rcases k2.2 i e2 with k | k
 ·exact (h3 i e).1 k
 ·have := (h.row.lt i e).2; omega
set_option maxRecDepth 100000 in
set_option maxHeartbeats 16000000 in
theorem scriptRun_any (w : World) (P : Nat → Addr) (v : Value) (ss : List B) (hv : Rd S w v ss) (hn : ss.length ≤ 100) (hl : ∀ s ∈ ss, s.length ≤ 999) (hV : PVS w P) (hS : Sents w P) (hT : ErrTexts w P) : Calls Tryz.prog 86 #[v] w (RetRun (runS ⟨⟨[], [], []⟩, []⟩ ss).2 w) := by
 have HRD := Lib.hid hv
 have HV := Lib.hid hV
 have HS := Lib.hid hS
 have HT := Lib.hid hT
 have HL := Lib.hid hl
 have HYN := Lib.hid (yardNew_any 8 w P (hV.errs.sub (by decide)))
 obtain ⟨av, cv, rfl, _, _, _⟩ := hv
 have hnz : (ss.length : Int) ≤ 100 := by omega
 have HN := Lib.hid hn
 clear hV hS hT hl hn
 go_enter Tryz.func86, Tryz.ntmps86
 go_wp2_with fail
 refine HYN.out.mono ?_
 rintro e w1 (⟨h, _⟩ | ⟨k, hk, rfl, hy, hs⟩)
 ·omega
 obtain rfl : k = 8 := by omega
 have hx1 := hy.ext
 have hA := Only.alloc (fun _ => False) w1 (.cells #[PTR (w.heap.size + 6)] 217 (0, 0))
 have hm := (MapKept.heap_alloc w1 (.cells #[PTR (w.heap.size + 6)] 217 (0, 0))).1
 have HGO : Hid (ScGo w w.heap.size w1.heap.size w.heap.size ⟨⟨[], [], []⟩, []⟩ [] (.slice none 0 0) (w1.alloc (.cells #[PTR (w.heap.size + 6)] 217 (0, 0)))) := Lib.hid ⟨⟨_, ⟨⟨_, _, hy.grow hA⟩, YSok.start, hm, fun e => by have := hy.lt _ e; omega⟩, fun i e => hy.ge i e, fun i e => by cases e⟩, Row.nil _ _, hx1.size⟩
 obtain ⟨n, hn⟩ : ∃ n, n = w.heap.size := ⟨_, rfl⟩
 obtain ⟨pb, hpb⟩ : ∃ pb, pb = w1.heap.size := ⟨_, rfl⟩
 obtain ⟨bs, hbs⟩ : ∃ bs, bs = w.heap.size := ⟨_, rfl⟩
 have HGO : Hid (ScGo w n pb bs ⟨⟨[], [], []⟩, []⟩ [] (.slice none 0 0) (w1.alloc (.cells #[PTR (n + 6)] 217 (0, 0)))) := by rw [hn, hpb, hbs]; exact HGO
 rw [← hn]
 have HPB := Lib.hid hpb.symm
 have HBS : Hid (w.heap.size ≤ bs ∧ bs ≤ w.heap.size) := Lib.hid ⟨by omega, by omega⟩
 clear hk hy hs hx1 hA hm hn hpb hbs HYN
 go_wp2_with fail
 rw [HPB.out]
 go_loopw [7, 9, 10, 11, 28] (fun q _ _ _ i wr => ∃ (j : Nat) (qv : Value), qv = q ∧ j ≤ ss.length ∧ i = .int .i64 j ∧ Hid (ScGo w n pb bs (runS ⟨⟨[], [], []⟩, []⟩ (ss.take j)).1 (runS ⟨⟨[], [], []⟩, []⟩ (ss.take j)).2 qv wr)) (fun _ _ _ _ i _ => ss.length - (intOf i).toNat)
 case atStart => exact ⟨0, _, rfl, Nat.zero_le _, rfl, HGO⟩
 case round =>
  clear HGO
  obtain ⟨j, qv, rfl, hj, rfl, HG⟩ := hrel
  have hj0 : (0 : Int) ≤ (j : Int) := by omega
  by_cases hlt : j < ss.length
  case pos =>
   have hltz : (j : Int) < (ss.length : Int) := by omega
   obtain ⟨_, _, ee, _, _, hc0⟩ := HRD.out.ext HG.out.ext
   cases ee
   obtain ⟨b, off, rfl, hc⟩ := hc0 (by intro h; rw [h] at hlt; simp at hlt)
   obtain ⟨s, hsj⟩ : ∃ s, ss[j]? = some s := ⟨_, List.getElem?_eq_getElem hlt⟩
   have d0 := hc j s hsj
   have HST := Lib.hid (runS_step (y := ⟨⟨[], [], []⟩, []⟩) hsj)
   have HLC : Hid ((runS ⟨⟨[], [], []⟩, []⟩ (ss.take j)).2.length ≤ 1000000) := Lib.hid (by rw [runS_len, List.length_take]; omega)
   have HPL := Lib.hid (HG.out.play s (HL.out s (List.mem_of_getElem? hsj)) HV.out)
   have HCD := Lib.hid (play_code (YSok.run YSok.start (ss.take j)) s)
   have HJ := Lib.hid hlt
   clear hc hc0 hsj hj hlt
   generalize runS ⟨⟨[], [], []⟩, []⟩ (ss.take j) = XX at HG HST HLC HPL HCD
   obtain ⟨y, cs⟩ := XX
   have HST : Hid (runS ⟨⟨[], [], []⟩, []⟩ (ss.take (j + 1)) = ((playS y s).1, cs ++ [tellP (playS y s)])) := HST
   have HPL : Hid (Calls Tryz.prog 149 #[PTR pb, S s] wr (RetGo P w n pb bs (playS y s) cs qv)) := HPL
   have HCD : Hid ((playS y s).2.2 ≤ 12) := HCD
   have HLC : Hid (cs.length ≤ 1000000) := HLC
   generalize playS y s = R at HST HPL HCD
   go_wp2_with fail
   refine HPL.out.mono ?_
   rintro e w3 ⟨sv, ev, at_, rfl, he, hsv, hgo⟩
   have HG3 := Lib.hid hgo
   by_cases hz : R.2.2 = 0
   case pos =>
    obtain rfl := he.zero hz
    have HTL : Hid (runS ⟨⟨[], [], []⟩, []⟩ (ss.take (j + 1)) = (R.1, cs ++ [sv])) := Lib.hid (by rw [HST.out]; unfold tellP; rw [if_pos hz, hsv hz])
    clear he hsv hgo hz d0
    go_wp2_with (at_builtin; refine wpTextP rfl (.tmp 43) (.tmp 45) bs qv cs sv w3 rfl rfl rfl rfl HG3.out.row HLC.out (Nat.le_trans HBS.out.2 HG3.out.ext.size) ?_; intro g6 cap6 w6 HR6 HG6 HN6)
    go_roundw
    case rel => exact ⟨j + 1, _, rfl, HJ.out, by go_num, by rw [HTL.out]; exact Lib.hid (HG3.out.push HBS.out.1 HR6.out HG6.out HN6.out)⟩
    case measure => have := HJ.out; simp [intOf]; omega
   case neg =>
    obtain ⟨t1, q1, rfl⟩ := he.some hz
    have hx3 := hgo.ext
    have HBA := Lib.hid (bare_any w3 P (HS.out.ext hx3) _ _ he hz)
    have HTL : Hid (runS ⟨⟨[], [], []⟩, []⟩ (ss.take (j + 1)) = (R.1, cs ++ [errB R.2.2])) := Lib.hid (by rw [HST.out]; unfold tellP; rw [if_neg hz])
    have ht := (HT.out.ext hx3) (R.2.2 - 1) (by have := HCD.out; omega)
    rw [show R.2.2 - 1 + 1 = R.2.2 by omega] at ht
    have HTX := Lib.hid ht
    have mE := method_Error
    clear he hsv hgo hz d0 ht hx3
    have HBA : Hid (Calls Tryz.prog 150 #[.iface t1 q1] w3 (RetE (errV (P (R.2.2 - 1))) w3)) := HBA
    generalize P (R.2.2 - 1) = a at HBA HTX
    generalize errB R.2.2 = eb at HTX HTL
    go_wp2_with fail
    refine HBA.out.mono ?_
    rintro e w4 ⟨rfl, ho4⟩
    have HG4 := Lib.hid (HG3.out.grow ho4)
    have HER := Lib.hid (errorText_any w4 a eb (ho4.cellOf HTX.out (fun h => h)))
    clear ho4
    go_wp2_with fail
    refine HER.out.mono ?_
    rintro e w5 ⟨rfl, rfl⟩
    clear mE
    go_wp2_with (at_builtin; refine wpTextP rfl (.tmp 43) (.tmp 45) bs qv cs eb _ rfl rfl rfl rfl HG4.out.row HLC.out (Nat.le_trans HBS.out.2 HG4.out.ext.size) ?_; intro g6 cap6 w6 HR6 HG6 HN6)
    go_roundw
    case rel => exact ⟨j + 1, _, rfl, HJ.out, by go_num, by rw [HTL.out]; exact Lib.hid (HG4.out.push HBS.out.1 HR6.out HG6.out HN6.out)⟩
    case measure => have := HJ.out; simp [intOf]; omega
  case neg =>
   have hltz : ¬ (j : Int) < (ss.length : Int) := by omega
   rw [List.take_of_length_le (by omega)] at HG
   clear hlt hj
   go_wp2_with fail
   go_ret2
   exact ⟨_, rfl, World.ownsRow.mono HG.out.row HBS.out.1, HG.out.ext⟩
end
end Go.Proofs.YtnmhaipjfpongacGreatDoor

namespace Go.Proofs.YtnmhaipjfpongacGreatDoor
open Go.ChangeShapes Go.WideShapes Go.ChangeAt Go.RowKit

abbrev tH : FL := [([97], [120, 10, 121])]
abbrev EH : BE := ⟨[ruleUp], [0], tH⟩
abbrev yH0 : YS := ⟨⟨[], [], []⟩, []⟩
theorem hello_e : newE [ruleUp] [[98]] tH = EH := by
 show (⟨[ruleUp], needL [ruleUp] [[98]], tH⟩ : BE) = _
 rw [wanted_need]
theorem hello_ans : EH.ans 0 = ([88, 10, 89], 0) := by kernel_rfl
theorem hello_ready : readyP EH .new 0 = true := by kernel_rfl
theorem hello_all : AllTo EH (·.1) (stepM EH) (.new, some (8, [])) (doneP .new 0 false, some (8, putL 8 [] (EH.key 0) (EH.ans 0).1)) := by
 have e0 : readyL EH .new = [0] := by kernel_rfl
 have e1 : stepM EH (.new, some (8, [])) 0 = (doneP .new 0 false, some (8, putL 8 [] (EH.key 0) (EH.ans 0).1)) := by
  unfold stepM
  rw [runZ_in (by decide)]
  show ((runP EH (some (8, [])) BS.new 0).2.1, (runP EH (some (8, [])) BS.new 0).2.2) = _
  unfold runP
  rw [if_neg (by decide), if_neg (by decide), if_neg (by rw [hello_ready]; decide), if_neg (by rw [hello_ans]; decide)]
  rfl
 have e2 : readyL EH (doneP .new 0 false) = [] := by kernel_rfl
 refine .more e0 ?_
 rw [e1]
 exact .stop e2
abbrev l1H : B := [112, 117, 116, 32, 97, 32, 120, 59, 121]
abbrev l2H : B := [114, 117, 108, 101, 32, 98, 32, 61, 32, 117, 112, 112, 101, 114, 32, 97]
abbrev l3H : B := [109, 97, 107, 101]
abbrev l4H : B := [115, 104, 111, 119, 32, 98]
theorem hello1 : playS yH0 l1H = (⟨⟨tH, [], []⟩, []⟩, okB, 0) := by kernel_rfl
theorem hello2 : playS ⟨⟨tH, [], []⟩, []⟩ l2H = (⟨⟨tH, [], []⟩, [ruleUp]⟩, okB, 0) := by kernel_rfl
theorem hello3 : ∃ L', playS ⟨⟨tH, [], []⟩, [ruleUp]⟩ l3H = (⟨⟨tH, [([98], [88, 10, 89])], L'⟩, [ruleUp]⟩, [49, 32, 48, 32, 48, 32, 48], 0) := by
 have e : playS ⟨⟨tH, [], []⟩, [ruleUp]⟩ l3H = makeS ⟨⟨tH, [], []⟩, [ruleUp]⟩ [] := by kernel_rfl
 have eo : outsY [ruleUp] [] = [[98]] := by kernel_rfl
 have hend : mkEnd [ruleUp] 8 ⟨tH, [], []⟩ [[98]] = (doneP .new 0 false, some (8, putL 8 [] (EH.key 0) (EH.ans 0).1)) := by
  unfold mkEnd
  rw [hello_e]
  exact allEnd_is hello_all
 rw [e]
 refine ⟨putL 8 [] (EH.key 0) (EH.ans 0).1, ?_⟩
 unfold makeS
 show (if (newFault [ruleUp] (outsY [ruleUp] [])).1 = 0 then ((⟨makeP [ruleUp] 8 ⟨tH, [], []⟩ (outsY [ruleUp] []), [ruleUp]⟩ : YS), Lib.join (countsP ⟨⟨tH, [], []⟩, [ruleUp]⟩ (outsY [ruleUp] [])) [32], 0) else _) = _
 rw [eo, built_fault, if_pos rfl]
 have hmk : makeP [ruleUp] 8 ⟨tH, [], []⟩ [[98]] = ⟨tH, [([98], [88, 10, 89])], putL 8 [] (EH.key 0) (EH.ans 0).1⟩ := by
  unfold makeP
  rw [built_fault, if_pos rfl, hend, hello_e, yarded_order]
  have : outY EH (doneP .new 0 false) [] [0] = [([98], [88, 10, 89])] := by
   show layY EH (doneP .new 0 false) [] 0 = [([98], [88, 10, 89])]
   unfold layY
   rw [mst_in (by decide), show (doneP .new 0 false).st 0 = 2 from rfl, if_pos rfl, hello_ans]
   exact (by decide +kernel : putT [] [98] [88, 10, 89] = [([98], [88, 10, 89])])
  show (⟨tH, outY EH (doneP .new 0 false) [] [0], _⟩ : PS) = _
  rw [this]
  rfl
 have hcn : countsP ⟨⟨tH, [], []⟩, [ruleUp]⟩ [[98]] = [Lib.decDigits 1, Lib.decDigits 0, Lib.decDigits 0, Lib.decDigits 0] := by
  unfold countsP
  show [Lib.decDigits ((needL [ruleUp] [[98]]).countP (cRan (mkEnd [ruleUp] 8 ⟨tH, [], []⟩ [[98]]).1)), Lib.decDigits ((needL [ruleUp] [[98]]).countP (cHit (mkEnd [ruleUp] 8 ⟨tH, [], []⟩ [[98]]).1)), Lib.decDigits ((needL [ruleUp] [[98]]).countP (cFail (mkEnd [ruleUp] 8 ⟨tH, [], []⟩ [[98]]).1)), Lib.decDigits ((needL [ruleUp] [[98]]).countP (cLeft (mkEnd [ruleUp] 8 ⟨tH, [], []⟩ [[98]]).1))] = _
  rw [hend, wanted_need]
  rfl
 rw [hmk, hcn, show Lib.join [Lib.decDigits 1, Lib.decDigits 0, Lib.decDigits 0, Lib.decDigits 0] [32] = [49, 32, 48, 32, 48, 32, 48] by kernel_rfl]
theorem hello4 (L' : FL) : playS ⟨⟨tH, [([98], [88, 10, 89])], L'⟩, [ruleUp]⟩ l4H = (⟨⟨tH, [([98], [88, 10, 89])], L'⟩, [ruleUp]⟩, [88, 59, 89], 0) := by kernel_rfl
theorem hello_run : (runS yH0 [l1H, l2H, l3H, l4H]).2 = [okB, okB, [49, 32, 48, 32, 48, 32, 48], [88, 59, 89]] := by
 obtain ⟨L', h3⟩ := hello3
 show [tellP (playS yH0 l1H), tellP (playS (playS yH0 l1H).1 l2H), tellP (playS (playS (playS yH0 l1H).1 l2H).1 l3H), tellP (playS (playS (playS (playS yH0 l1H).1 l2H).1 l3H).1 l4H)] = _
 rw [hello1]
 show [okB, tellP (playS ⟨⟨tH, [], []⟩, []⟩ l2H), tellP (playS (playS ⟨⟨tH, [], []⟩, []⟩ l2H).1 l3H), tellP (playS (playS (playS ⟨⟨tH, [], []⟩, []⟩ l2H).1 l3H).1 l4H)] = _
 rw [hello2]
 show [okB, okB, tellP (playS ⟨⟨tH, [], []⟩, [ruleUp]⟩ l3H), tellP (playS (playS ⟨⟨tH, [], []⟩, [ruleUp]⟩ l3H).1 l4H)] = _
 rw [h3]
 show [okB, okB, [49, 32, 48, 32, 48, 32, 48], tellP (playS ⟨⟨tH, [([98], [88, 10, 89])], L'⟩, [ruleUp]⟩ l4H)] = _
 rw [hello4]
 rfl
set_option maxRecDepth 100000 in
set_option maxHeartbeats 4000000 in
theorem hello_any (w : World) (P : Nat → Addr) (hV : PVS w P) (hS : Sents w P) (hT : ErrTexts w P) : Calls Tryz.prog 83 #[] w (RetE (.bool true) w) := by
 have hx0 : Ext w (w.alloc (.cells #[S l1H, S l2H, S l3H, S l4H] 9 (0, 0))) := Only.alloc _ _ _
 have hrd := rd_lit (ss := [l1H, l2H, l3H, l4H]) (MapKept.heap_alloc w (.cells #[S l1H, S l2H, S l3H, S l4H] 9 (0, 0))).1 rfl (by decide)
 have hru := scriptRun_any _ P _ [l1H, l2H, l3H, l4H] hrd (by decide) (by decide) (hV.ext hx0) (hS.ext hx0) (hT.ext hx0)
 rw [hello_run] at hru
 have HRU := Lib.hid hru
 have HX0 := Lib.hid hx0
 clear hrd hru hx0 hV hS hT
 go_enter Tryz.func83, Tryz.ntmps83
 go_wp2_with fail
 refine HRU.out.mono ?_
 rintro e w1 ⟨v, rfl, hr, ho⟩
 have hA := Only.alloc (fun _ => False) w1 (.cells #[S okB, S okB, S [49, 32, 48, 32, 48, 32, 48], S [88, 59, 89]] 9 (0, 0))
 have hr2 := rd_lit (ss := [okB, okB, [49, 32, 48, 32, 48, 32, 48], [88, 59, 89]]) (MapKept.heap_alloc w1 (.cells #[S okB, S okB, S [49, 32, 48, 32, 48, 32, 48], S [88, 59, 89]] 9 (0, 0))).1 rfl (by decide)
 have hst := sameTexts_any _ v _ _ _ ((Row.rd hr).ext hA) hr2
 simp only [beq_self_eq_true] at hst
 have HST := Lib.hid hst
 have HX1 := Lib.hid ((HX0.out.then ho).then hA)
 obtain ⟨a, c, rfl, _⟩ := Row.rd hr
 clear hr ho hA hr2 hst
 go_wp2_with fail
 refine HST.out.mono ?_
 rintro e w2 ⟨rfl, hd⟩
 have HX2 := Lib.hid (HX1.out.then hd.ext)
 clear hd
 go_wp2_with fail
 go_ret
 exact ⟨rfl, HX2.out⟩
end Go.Proofs.YtnmhaipjfpongacGreatDoor
